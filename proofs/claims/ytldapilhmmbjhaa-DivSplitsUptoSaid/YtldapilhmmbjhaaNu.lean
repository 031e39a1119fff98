/-
  div.guess: the walk.
-/
import Derived.Test.YtldapilhmmbjhaaNt
namespace Go.Proofs.Ytldapilhmmbjhaa
open Go Ev
set_option linter.unusedVariables false
set_option linter.unusedSimpArgs false
noncomputable section

attribute [-simp] Int.natCast_add Int.natCast_mul Int.natCast_ediv Int.natCast_emod Int.natCast_pow
attribute [local simp] strip stripL LW' LR gW evOp oMove oAssign oPick oBinOp oUnOp oConvert oExtract oIndexAddr oIndex oLoad oStore oSlice oMakeSlice oCall oBuildSlice opd opds optOpd plain plain1 Tr.get_set tmOf builtinV binV isShift sameKind undef resultV resOne packV ltNat ltNum ltLst calleeV parts lss_nat unV

theorem div0_lt {x B : Nat} (hB : 0 < B) (h : x / B = 0) : x < B := by
  rcases Nat.lt_or_ge x B with h' | h'
  · exact h'
  · have := Nat.div_pos h' hB; omega

/-- What the trial comes to. -/
structure Trial (V U y1 u q r : Nat) (sure : Bool) : Prop where
  ge : U / V ≤ q
  lt : q < B64
  no : sure = false → q * y1 + r = u ∧ r < B64
  yes : sure = true → q ≤ U / V + 1

set_option maxHeartbeats 2000000 in
theorem guess_spec {n0 n j : Nat} {H : AH} {U0 uv vv : Value} {pre us post vs : List Nat} (hu : Own n0 H U0 (pre ++ us ++ post)) (hj : pre.length = j) (hus : us.length = n + 1) (hview : View uv U0 j (n + 1))
    (du : Dig B64 us) (hv : Sl H vv vs) (hap : Apart U0 vv) (hvs : vs.length = n) (h2 : 2 ≤ n) (hn : n ≤ 17592186044416) (dvs : Dig B64 vs) (hp : 0 < vs[n - 1]'(by omega)) (hlt : dv B64 us < dv B64 vs * B64) :
    CW Try.prog cfg0 59 [uv, vv] H fun v H' => v = .int .u64 ((dv B64 us / dv B64 vs : Nat) : Int) ∧ But (vblk U0) H H' ∧ KA n0 H H' ∧ ∃ us', us'.length = n + 1 ∧ Dig B64 us' ∧ dv B64 us' = dv B64 us % dv B64 vs ∧ Own n0 H' U0 (pre ++ us' ++ post) := by
  refine CW_intro 195 (by decide) (by decide) Try.func59 rfl rfl ?_
  have T := top_of hus hvs h2 du dvs hp
  have Vpos := T.Vpos
  obtain ⟨V, hV⟩ : ∃ V, V = dv B64 vs := ⟨_, rfl⟩
  obtain ⟨U, hU⟩ : ∃ U, U = dv B64 us := ⟨_, rfl⟩
  obtain ⟨un, hun⟩ : ∃ un, un = us[n]'(by omega) := ⟨_, rfl⟩
  obtain ⟨un1, hun1⟩ : ∃ un1, un1 = us[n - 1]'(by omega) := ⟨_, rfl⟩
  obtain ⟨un2, hun2⟩ : ∃ un2, un2 = us[n - 2]'(by omega) := ⟨_, rfl⟩
  obtain ⟨y1, hy1⟩ : ∃ y1, y1 = vs[n - 1]'(by omega) := ⟨_, rfl⟩
  obtain ⟨y0, hy0⟩ : ∃ y0, y0 = vs[n - 2]'(by omega) := ⟨_, rfl⟩
  rw [← hV, ← hU, ← hun, ← hun1, ← hun2, ← hy1, ← hy0] at T
  rw [← hV, ← hU] at hlt ⊢
  rw [← hV] at Vpos
  rw [← hy1] at hp
  have bun : un < B64 := by rw [hun]; exact du.get (List.getElem?_eq_getElem (by omega))
  have bun1 : un1 < B64 := by rw [hun1]; exact du.get (List.getElem?_eq_getElem (by omega))
  have bun2 : un2 < B64 := by rw [hun2]; exact du.get (List.getElem?_eq_getElem (by omega))
  have by1 : y1 < B64 := by rw [hy1]; exact dvs.get (List.getElem?_eq_getElem (by omega))
  have by0 : y0 < B64 := by rw [hy0]; exact dvs.get (List.getElem?_eq_getElem (by omega))
  have hQB : U / V < B64 := by rw [Nat.div_lt_iff_lt_mul Vpos, Nat.mul_comm]; exact hlt
  have lenv := hv.len ltNat
  rw [hvs] at lenv
  have s1 : intBin .sub .i64 (n : Int) 1 = some (.int .i64 ((n - 1 : Nat) : Int)) := sub1_i64 (by omega) (by omega)
  have s2 : intBin .sub .i64 (n : Int) 2 = some (.int .i64 ((n - 2 : Nat) : Int)) := sub2_i64 (by omega) h2
  have an : indexAddrV Try.prog 24 uv (.int .i64 (n : Int)) = some (adr U0 (j + n)) := hview _ ltNat .i64 n (by omega)
  have an1 : indexAddrV Try.prog 24 uv (.int .i64 ((n - 1 : Nat) : Int)) = some (adr U0 (j + (n - 1))) := hview _ ltNat .i64 (n - 1) (by omega)
  have an2 : indexAddrV Try.prog 24 uv (.int .i64 ((n - 2 : Nat) : Int)) = some (adr U0 (j + (n - 2))) := hview _ ltNat .i64 (n - 2) (by omega)
  have av1 : indexAddrV Try.prog 24 vv (.int .i64 ((n - 1 : Nat) : Int)) = some (adr vv (n - 1)) := hv.adr ltNat (by omega)
  have av2 : indexAddrV Try.prog 24 vv (.int .i64 ((n - 2 : Nat) : Int)) = some (adr vv (n - 2)) := hv.adr ltNat (by omega)
  have ln : loadV Try.prog H 55 (adr U0 (j + n)) = some (.int .u64 (un : Int)) := by rw [hun]; exact hu.segload hj (by omega)
  have ln1 : loadV Try.prog H 55 (adr U0 (j + (n - 1))) = some (.int .u64 (un1 : Int)) := by rw [hun1]; exact hu.segload hj (by omega)
  have ln2 : loadV Try.prog H 55 (adr U0 (j + (n - 2))) = some (.int .u64 (un2 : Int)) := by rw [hun2]; exact hu.segload hj (by omega)
  have lv1 : loadV Try.prog H 55 (adr vv (n - 1)) = some (.int .u64 (y1 : Int)) := by rw [hy1]; exact hv.load (by omega)
  have lv2 : loadV Try.prog H 55 (adr vv (n - 2)) = some (.int .u64 (y0 : Int)) := by rw [hy0]; exact hv.load (by omega)
  have topload : ∀ (a : Value), loadV Try.prog H.top 55 a = loadV Try.prog H 55 a := fun _ => rfl
  apply W_seq; intro b1 hb1
  apply W_region
  simp
  show W _ _ b1 _ _; subst hb1
  apply W_seq; intro b1 hb1
  apply W_region
  simp [lenv]
  show W _ _ b1 _ _; subst hb1
  apply W_seq; intro b1 hb1
  apply W_region
  simp
  show W _ _ b1 _ _; subst hb1
  apply W_seq; intro b1 hb1
  apply W_region
  simp
  show W _ _ b1 _ _; subst hb1
  refine W_thenK (fun s' => s'.k = 195 ∧ s'.H = H ∧ s'.tm.get 0 = some uv ∧ s'.tm.get 1 = some vv ∧ s'.tm.get 5 = some (.int .i64 (n : Int)) ∧
    ∃ (q r : Nat) (sure : Bool), Trial V U y1 (un * B64 + un1) q r sure ∧ s'.tm.get 6 = some (.int .u64 (q : Int)) ∧ s'.tm.get 7 = some (.int .u64 (r : Int)) ∧ s'.tm.get 8 = some (.bool sure)) ?_ ?_
  · intro Q' hQ'
    apply W_seq; intro b1 hb1
    apply W_loads (by kernel_rfl)
    simp [lenv, an, s1, av1, ln, lv1, geq_nat]
    show W _ _ b1 _ _; subst hb1
    by_cases hge : y1 ≤ un
    · have hEq : un = y1 := Nat.le_antisymm (T.high hlt) hge
      refine W_cond (t := true) (by simp [hge]) ?_
      apply W_seq; intro b1 hb1
      apply W_region
      simp
      show W _ _ b1 _ _; subst hb1
      apply W_seq; intro b1 hb1
      apply W_region
      simp
      show W _ _ b1 _ _; subst hb1
      apply W_seq; intro b1 hb1
      apply W_reads (by kernel_rfl)
      simp [s1, an1, av1, topload, ln1, lv1, add64_call0]
      show W _ _ b1 _ _; subst hb1
      apply W_region
      simp [neq0_u64]
      apply hQ'
      have hB1 : ((18446744073709551615 : Nat) : Int) = 18446744073709551615 := rfl
      have he : 18446744073709551615 * y1 + (un1 + y1) = un * B64 + un1 := by
        rw [hEq]
        show 18446744073709551615 * y1 + (un1 + y1) = y1 * 18446744073709551616 + un1
        omega
      refine ⟨rfl, rfl, by simp, by simp, by simp, 18446744073709551615, (un1 + y1) % B64, decide ((un1 + y1) / B64 ≠ 0), ⟨?_, by decide, ?_, ?_⟩, by simp [hB1], by simp, by simp⟩
      · have : U / V < 18446744073709551616 := hQB
        omega
      · intro h
        have h0 : (un1 + y1) / B64 = 0 := by
          have := of_decide_eq_false h
          omega
        have hm : (un1 + y1) % B64 = un1 + y1 := Nat.mod_eq_of_lt (div0_lt (by decide) h0)
        rw [hm]
        refine ⟨he, ?_⟩
        rw [← hm]; exact Nat.mod_lt _ (by decide)
      · intro h
        have h0 : ¬ (un1 + y1) / B64 = 0 := of_decide_eq_true h
        refine T.false he (by decide) ?_
        have h1 : B64 ≤ un1 + y1 := by
          rcases Nat.lt_or_ge (un1 + y1) B64 with h' | h'
          · exact absurd (Nat.div_eq_of_lt h') h0
          · exact h'
        have h2 : B64 * B64 ≤ (un1 + y1) * B64 := Nat.mul_le_mul_right _ h1
        have h3 : 18446744073709551615 * y0 ≤ B64 * B64 := Nat.mul_le_mul (by decide) (by omega)
        omega
    · refine W_cond (t := false) (by simp; omega) ?_
      have hlt1 : un < y1 := by omega
      apply W_reads (by kernel_rfl)
      simp [s1, an, an1, av1, topload, ln, ln1, lv1, div64_call hlt1 bun1 by1]
      apply hQ'
      refine ⟨rfl, rfl, by simp, by simp, by simp, (un * B64 + un1) / y1, (un * B64 + un1) % y1, false, ⟨T.first, ?_, ?_, fun h => by cases h⟩, by simp, by simp, by simp⟩
      · rw [Nat.div_lt_iff_lt_mul hp, Nat.mul_comm B64 y1]
        have : (un + 1) * B64 ≤ y1 * B64 := Nat.mul_le_mul_right _ hlt1
        rw [Nat.succ_mul] at this
        omega
      · intro _
        exact ⟨by rw [Nat.mul_comm]; exact Nat.div_add_mod _ _, Nat.lt_trans (Nat.mod_lt _ hp) by1⟩
  rintro ⟨k, tm, H'⟩ ⟨hk, hH, t0, t1, t5, q, r, sure, Tr0, t6, t7, t8⟩
  simp only at hk hH t0 t1 t5 t6 t7 t8
  subst hk; subst hH
  refine W_thenK (fun s' => s'.k = 195 ∧ s'.H = H' ∧ s'.tm.get 0 = some uv ∧ s'.tm.get 1 = some vv ∧ s'.tm.get 5 = some (.int .i64 (n : Int)) ∧
    ∃ (q : Nat), U / V ≤ q ∧ q ≤ U / V + 1 ∧ q < B64 ∧ s'.tm.get 6 = some (.int .u64 (q : Int))) ?_ ?_
  · intro Q'' hQ''
    apply W_block
    refine W_loopK (fun m s' => s'.k = 195 ∧ s'.H = H' ∧ s'.tm.get 0 = some uv ∧ s'.tm.get 1 = some vv ∧ s'.tm.get 5 = some (.int .i64 (n : Int)) ∧
      ∃ (r : Nat) (sure : Bool), Trial V U y1 (un * B64 + un1) m r sure ∧ s'.tm.get 6 = some (.int .u64 (m : Int)) ∧ s'.tm.get 7 = some (.int .u64 (r : Int)) ∧ s'.tm.get 8 = some (.bool sure)) ?_ q _
      ⟨rfl, rfl, t0, t1, t5, r, sure, Tr0, t6, t7, t8⟩
    clear t0 t1 t5 t6 t7 t8 Tr0
    rintro q ⟨k, tm, H2⟩ ⟨hk, hH, t0, t1, t5, r, sure, Tr0, t6, t7, t8⟩ Q' hQ'
    simp only at hk hH t0 t1 t5 t6 t7 t8
    subst hk; subst hH
    apply W_seq; intro b3 hb3
    apply W_seq; intro b4 hb4
    apply W_region
    simp [t8]
    show W _ _ b4 _ _; subst hb4
    cases sure with
    | true =>
      refine W_cond (t := false) (by simp) ?_
      apply W_exit
      apply hQ'
      left
      exact ⟨rfl, hQ'' _ ⟨rfl, rfl, by simp [t0], by simp [t1], by simp [t5], q, Tr0.ge, Tr0.yes rfl, Tr0.lt, by simp [t6]⟩⟩
    | false =>
      refine W_cond (t := true) (by simp) ?_
      apply W_skip
      show W _ _ b3 _ _; subst hb3
      obtain ⟨hqr, hrB⟩ := Tr0.no rfl
      have hqB := Tr0.lt
      apply W_block
      apply W_seq; intro b3 hb3
      apply W_region
      simp [t6, t1, t5, s2, av2, lv2, mul64_call hqB by0]
      show W _ _ b3 _ _; subst hb3
      obtain ⟨hi, hhi⟩ : ∃ hi, hi = q * y0 / B64 := ⟨_, rfl⟩
      obtain ⟨lo, hlo⟩ : ∃ lo, lo = q * y0 % B64 := ⟨_, rfl⟩
      have ehl : q * y0 = B64 * hi + lo := by rw [hhi, hlo]; exact (Nat.div_add_mod _ _).symm
      have hloB : lo < B64 := by rw [hlo]; exact Nat.mod_lt _ (by decide)
      rw [← hhi, ← hlo]
      -- the test
      have stop : q * y0 ≤ r * B64 + un2 → q ≤ U / V + 1 := fun h => T.false hqr hqB h
      have on : r * B64 + un2 < q * y0 → 0 < q ∧ U / V ≤ q - 1 ∧ (q - 1) * y1 + (r + y1) = un * B64 + un1 := fun h => by
        have h1 := T.true hqr h
        have hq0 : 0 < q := Nat.lt_of_le_of_lt (Nat.zero_le _) h1
        refine ⟨hq0, Nat.le_sub_one_of_lt h1, ?_⟩
        obtain ⟨q', rfl⟩ : ∃ q', q = q' + 1 := ⟨q - 1, by omega⟩
        rw [Nat.succ_mul] at hqr
        rw [Nat.add_sub_cancel]
        omega
      apply W_seq; intro b3 hb3
      apply W_seq; intro b4 hb4
      have exitk : ∀ tm', q * y0 ≤ r * B64 + un2 → tm'.get 0 = some uv → tm'.get 1 = some vv → tm'.get 5 = some (.int .i64 (n : Int)) → tm'.get 6 = some (.int .u64 (q : Int)) → Q' (.exit 0) ⟨195, tm', H2⟩ := fun tm' h a b c d => by
        apply hQ'
        left
        exact ⟨rfl, hQ'' _ ⟨rfl, rfl, a, b, c, q, Tr0.ge, stop h, hqB, d⟩⟩
      have onk : ∀ tm', r * B64 + un2 < q * y0 → tm'.get 0 = some uv → tm'.get 1 = some vv → tm'.get 5 = some (.int .i64 (n : Int)) → tm'.get 6 = some (.int .u64 (q : Int)) → tm'.get 7 = some (.int .u64 (r : Int)) → tm'.get 8 = some (.bool false) →
          W Try.prog cfg0 b3 ⟨195, tm', H2⟩ (blockQ 1 Q') := fun tm' h t0 t1 t5 t6 t7 t8 => by
        obtain ⟨hq0, hge, heq⟩ := on h
        subst hb3
        apply W_seq; intro b3 hb3
        apply W_region
        simp [t6, sub1_u64 hqB hq0]
        show W _ _ b3 _ _; subst hb3
        apply W_seq; intro b3 hb3
        apply W_region
        simp
        show W _ _ b3 _ _; subst hb3
        apply W_seq; intro b3 hb3
        apply W_region
        simp [t7, t1, t5, s1, av1, lv1, add64_call0]
        show W _ _ b3 _ _; subst hb3
        apply W_seq; intro b3 hb3
        apply W_region
        simp [neq0_u64]
        show W _ _ b3 _ _; subst hb3
        by_cases hov : (r + y1) / B64 = 0
        · refine W_cond (t := false) (by simp; exact div0_lt (by decide) hov) ?_
          have hm : (r + y1) % B64 = r + y1 := Nat.mod_eq_of_lt (div0_lt (by decide) hov)
          apply W_skip
          apply hQ'
          refine ⟨q - 1, by omega, rfl, rfl, by simp [t0], by simp [t1], by simp [t5], (r + y1) % B64, false, ⟨hge, by omega, fun _ => ⟨by rw [hm]; exact heq, Nat.mod_lt _ (by decide)⟩, fun h => by cases h⟩, by simp, by simp, by simp [t8]⟩
        · have h1 : B64 ≤ r + y1 := by
            rcases Nat.lt_or_ge (r + y1) B64 with h' | h'
            · exact absurd (Nat.div_eq_of_lt h') hov
            · exact h'
          refine W_cond (t := true) (by simp; exact h1) ?_
          apply W_exit
          right
          refine ⟨by decide, ?_⟩
          apply hQ'
          left
          refine ⟨rfl, hQ'' _ ⟨rfl, rfl, by simp [t0], by simp [t1], by simp [t5], q - 1, hge, ?_, by omega, by simp⟩⟩
          refine T.false heq (by omega) ?_
          have h2 : B64 * B64 ≤ (r + y1) * B64 := Nat.mul_le_mul_right _ h1
          have h3 : (q - 1) * y0 ≤ B64 * B64 := Nat.mul_le_mul (by omega) (by omega)
          omega
      apply W_region
      by_cases c1 : hi < r
      · simp [t7, c1]
        show W _ _ b4 _ _; subst hb4
        refine W_cond (t := true) (by simp) ?_
        apply W_exit
        right
        refine ⟨by decide, exitk _ ?_ (by simp [t0]) (by simp [t1]) (by simp [t5]) (by simp [t6])⟩
        have : B64 * (hi + 1) ≤ B64 * r := Nat.mul_le_mul_left _ c1
        rw [Nat.mul_succ, Nat.mul_comm B64 r] at this
        omega
      · by_cases c2 : hi = r
        · by_cases c3 : lo ≤ un2
          · simp [t7, t0, t5, c1, eql_nat, c2, s2, an2, ln2, leq_nat, c3]
            show W _ _ b4 _ _; subst hb4
            refine W_cond (t := true) (by simp) ?_
            apply W_exit
            right
            refine ⟨by decide, exitk _ ?_ (by simp [t0]) (by simp [t1]) (by simp [t5]) (by simp [t6])⟩
            rw [ehl, c2, Nat.mul_comm]
            omega
          · simp [t7, t0, t5, c1, eql_nat, c2, s2, an2, ln2, leq_nat, c3]
            show W _ _ b4 _ _; subst hb4
            refine W_cond (t := false) (by simp) ?_
            apply W_skip
            show W _ _ b3 _ _
            refine onk _ ?_ (by simp [t0]) (by simp [t1]) (by simp [t5]) (by simp [t6]) (by simp [t7]) (by simp [t8])
            rw [ehl, c2, Nat.mul_comm]
            omega
        · simp [t7, t0, t5, c1, eql_nat, c2]
          show W _ _ b4 _ _; subst hb4
          refine W_cond (t := false) (by simp) ?_
          apply W_skip
          show W _ _ b3 _ _
          refine onk _ ?_ (by simp [t0]) (by simp [t1]) (by simp [t5]) (by simp [t6]) (by simp [t7]) (by simp [t8])
          have : B64 * (r + 1) ≤ B64 * hi := Nat.mul_le_mul_left _ (by omega)
          rw [Nat.mul_succ, Nat.mul_comm B64 r] at this
          omega
  clear t0 t1 t5 t6 t7 t8 Tr0 q r sure
  rintro ⟨k, tm, H2⟩ ⟨hk, hH, t0, t1, t5, q, qge, qle, qB, t6⟩
  simp only at hk hH t0 t1 t5 t6
  subst hk; subst hH
  have hvlen : ∀ {H1 : AH}, But (vblk U0) H2 H1 → Sl H1 vv vs := fun k => hv.but k hap
  apply W_seq; intro b1 hb1
  apply W_region
  simp
  show W _ _ b1 _ _; subst hb1
  -- the multiplying and taking away
  refine W_thenK (fun s' => s'.k = 195 ∧ s'.tm.get 0 = some uv ∧ s'.tm.get 1 = some vv ∧ s'.tm.get 5 = some (.int .i64 (n : Int)) ∧ s'.tm.get 6 = some (.int .u64 (q : Int)) ∧ But (vblk U0) H2 s'.H ∧ KA n0 H2 s'.H ∧
    ∃ (L : List Nat) (carry borrow : Nat), L.length = n ∧ Dig B64 L ∧ carry < B64 ∧ borrow ≤ 1 ∧ dv B64 L + q * V = dv B64 (us.take n) + B64 ^ n * (carry + borrow) ∧ Own n0 s'.H U0 (pre ++ (L ++ us.drop n) ++ post) ∧
      s'.tm.get 13 = some (.int .u64 (carry : Int)) ∧ s'.tm.get 14 = some (.int .u64 (borrow : Int))) ?_ ?_
  · intro Q'' hQ''
    apply W_seq; intro b1 hb1
    apply W_region
    simp [t1, lenv]
    show W _ _ b1 _ _; subst hb1
    apply W_block
    refine W_loopK (fun m s' => s'.k = 195 ∧ s'.tm.get 0 = some uv ∧ s'.tm.get 1 = some vv ∧ s'.tm.get 5 = some (.int .i64 (n : Int)) ∧ s'.tm.get 6 = some (.int .u64 (q : Int)) ∧ But (vblk U0) H2 s'.H ∧ KA n0 H2 s'.H ∧
      s'.tm.get 113 = some vv ∧ s'.tm.get 114 = some (.int .i64 (n : Int)) ∧
      ∃ (i : Nat) (L : List Nat) (carry borrow : Nat), m + i = n ∧ L.length = i ∧ Dig B64 L ∧ carry < B64 ∧ borrow ≤ 1 ∧ dv B64 L + q * dv B64 (vs.take i) = dv B64 (us.take i) + B64 ^ i * (carry + borrow) ∧ Own n0 s'.H U0 (pre ++ (L ++ us.drop i) ++ post) ∧
        s'.tm.get 13 = some (.int .u64 (carry : Int)) ∧ s'.tm.get 14 = some (.int .u64 (borrow : Int)) ∧ s'.tm.get 115 = some (.int .i64 (i : Int))) ?_ n _
      ⟨rfl, by simp [t0], by simp [t1], by simp [t5], by simp [t6], .refl _ _, .refl _ _, by simp [t1], by simp, 0, [], 0, 0, by omega, rfl, .nil _, by decide, by omega, by simp [dv], by simpa using hu, by simp, by simp, by simp⟩
    clear t0 t1 t5 t6
    rintro m ⟨k, tm, H3⟩ ⟨hk, t0, t1, t5, t6, kb, ka, t113, t114, i, L, carry, borrow, hmi, hL, dL, hc, hb, heq, own, t13, t14, t115⟩ Q' hQ'
    simp only at hk t0 t1 t5 t6 kb ka t113 t114 t13 t14 t115 own
    subst hk
    apply W_seq; intro b3 hb3
    apply W_region
    simp [t114, t115]
    show W _ _ b3 _ _; subst hb3
    apply W_seq; intro b3 hb3
    by_cases hi : i < n
    · refine W_cond (t := true) (by simp [hi]) ?_
      apply W_skip
      show W _ _ b3 _ _; subst hb3
      have hv3 := hvlen kb
      have a1 : indexAddrV Try.prog 24 vv (.int .i64 (i : Int)) = some (adr vv i) := hv3.adr ltNat (by omega)
      have hx : vs[i] < B64 := dvs.get (List.getElem?_eq_getElem (by omega))
      have d1 : loadV Try.prog H3 55 (adr vv i) = some (.int .u64 (vs[i] : Nat)) := hv3.load (by omega)
      have a2 : indexAddrV Try.prog 24 uv (.int .i64 (i : Int)) = some (adr U0 (j + i)) := hview _ ltNat .i64 i (by omega)
      have hud : us.drop i = us[i] :: us.drop (i + 1) := List.drop_eq_getElem_cons (by omega)
      have huB : us[i] < B64 := du.get (List.getElem?_eq_getElem (by omega))
      have d2 : loadV Try.prog H3 55 (adr U0 (j + i)) = some (.int .u64 (us[i] : Nat)) := by
        have := own.segload hj (i := i) (by simp; omega)
        rw [this]
        congr 3
        rw [List.getElem_append_right (by omega)]
        simp [hL]
      obtain ⟨x, hxe⟩ : ∃ x, x = vs[i] := ⟨_, rfl⟩
      obtain ⟨y, hye⟩ : ∃ y, y = us[i] := ⟨_, rfl⟩
      rw [← hxe] at hx d1
      rw [← hye] at huB d2 hud
      have step := mul_sub_step hx qB hc huB hb
      simp only at step
      obtain ⟨ph, hph⟩ : ∃ ph, ph = x * q / B64 := ⟨_, rfl⟩
      obtain ⟨pl, hpl⟩ : ∃ pl, pl = x * q % B64 := ⟨_, rfl⟩
      rw [← hph, ← hpl] at step
      obtain ⟨sm, hsm⟩ : ∃ sm, sm = (pl + carry) % B64 := ⟨_, rfl⟩
      obtain ⟨ov, hov⟩ : ∃ ov, ov = (pl + carry) / B64 := ⟨_, rfl⟩
      rw [← hsm, ← hov] at step
      obtain ⟨y', hy'⟩ : ∃ y', y' = (y + B64 - sm - borrow) % B64 := ⟨_, rfl⟩
      obtain ⟨b', hb'⟩ : ∃ b', b' = (if y < sm + borrow then 1 else 0) := ⟨_, rfl⟩
      rw [← hy', ← hb'] at step
      obtain ⟨st1, st2, st3⟩ := step
      have m1 : callI Try.prog cfg0 74 [.int .u64 (x : Int), .int .u64 (q : Int)] H3 = some (.tuple #[.int .u64 (ph : Int), .int .u64 (pl : Int)], H3) := by rw [hph, hpl]; exact mul64_call hx qB H3
      have m2 : callI Try.prog cfg0 49 [.int .u64 (pl : Int), .int .u64 (carry : Int), .int .u64 0] H3 = some (.tuple #[.int .u64 (sm : Int), .int .u64 (ov : Int)], H3) := by rw [hsm, hov]; exact add64_call0 pl carry H3
      have m3 : intBin .add .u64 (ph : Int) (ov : Int) = some (.int .u64 ((ph + ov : Nat) : Int)) := add_u64_lt st1
      have m4 : callI Try.prog cfg0 75 [.int .u64 (y : Int), .int .u64 (sm : Int), .int .u64 (borrow : Int)] H3 = some (.tuple #[.int .u64 (y' : Int), .int .u64 (b' : Int)], H3) := by rw [hy', hb']; exact sub64_call y sm borrow H3 hb
      obtain ⟨H4, sto, own4, kb4, ka4⟩ := own.segstore hj (i := i) (by simp; omega) y'
      rw [hud, set_mid L y y' _ hL] at own4
      apply W_seq; intro b3 hb3
      apply W_block
      apply W_seq; intro b4 hb4
      apply W_region
      simp [t113, t115, a1, d1]
      show W _ _ b4 _ _; subst hb4
      apply W_seq; intro b4 hb4
      apply W_region
      simp [t6, m1]
      show W _ _ b4 _ _; subst hb4
      apply W_seq; intro b4 hb4
      apply W_region
      simp [t13, m2]
      show W _ _ b4 _ _; subst hb4
      apply W_seq; intro b4 hb4
      apply W_region
      simp [m3]
      show W _ _ b4 _ _; subst hb4
      apply W_region
      simp [t0, t14, a2, d2, m4, sto]
      show W _ _ b3 _ _; subst hb3
      apply W_region
      simp [t115, add1_i64 (x := i) (by omega)]
      apply hQ'
      refine ⟨m - 1, by omega, rfl, by simp [t0], by simp [t1], by simp [t5], by simp [t6], kb.trans kb4, ka.trans ka4, by simp [t113], by simp [t114], i + 1, L ++ [y'], ph + ov, b', by omega, by simp [hL], dL.append (.cons st2 (.nil _)), st1, ?_, ?_, by simpa using own4, by simp, by simp, by simp⟩
      · rw [hb']; split <;> omega
      · rw [dv_append, hL, take_snoc (xs := vs) (by omega), take_snoc (xs := us) (by omega), dv_append, dv_append, List.length_take, List.length_take, Nat.min_eq_left (by omega), Nat.min_eq_left (by omega), ← hxe, ← hye]
        simp only [dv, Nat.mul_zero, Nat.add_zero]
        have e1 : B64 ^ i * (y' + x * q + carry + borrow) = B64 ^ i * (y + B64 * (ph + ov + b')) := by rw [st3]
        rw [Nat.mul_add (B64 ^ i) y, ← Nat.mul_assoc (B64 ^ i) B64, show B64 ^ i * B64 = B64 ^ (i + 1) from rfl] at e1
        rw [show y' + x * q + carry + borrow = y' + x * q + (carry + borrow) by omega, Nat.mul_add, Nat.mul_add] at e1
        rw [Nat.mul_add q, show q * (B64 ^ i * x) = B64 ^ i * (x * q) by rw [Nat.mul_left_comm, Nat.mul_comm q x]]
        omega
    · refine W_cond (t := false) (by simp [hi]) ?_
      apply W_exit
      apply hQ'
      left
      obtain rfl : i = n := by omega
      have e1 : vs.take i = vs := by rw [← hvs, List.take_length]
      rw [e1, ← hV] at heq
      exact ⟨rfl, hQ'' _ ⟨rfl, by simp [t0], by simp [t1], by simp [t5], by simp [t6], kb, ka, L, carry, borrow, hL, dL, hc, hb, heq, own, by simp [t13], by simp [t14]⟩⟩
  clear t0 t1 t5 t6
  rintro ⟨k, tm, H3⟩ ⟨hk, t0, t1, t5, t6, kb, ka, L, carry, borrow, hL, dL, hc, hb, heq, own, t13, t14⟩
  simp only at hk t0 t1 t5 t6 kb ka own t13 t14
  subst hk
  have hdn : us.drop n = [un] := by
    rw [List.drop_eq_getElem_cons (by omega), List.drop_eq_nil_of_le (by omega), ← hun]
  have hUe : U = dv B64 (us.take n) + B64 ^ n * un := by
    have := congrArg (dv B64) (split_last hus)
    rw [dv_append, List.length_take, Nat.min_eq_left (by omega), ← hun, ← hU] at this
    simpa [dv] using this
  rw [hdn] at own
  have d2 : loadV Try.prog H3 55 (adr U0 (j + n)) = some (.int .u64 (un : Int)) := by
    have := own.segload hj (i := n) (by simp; omega)
    rw [this, get_mid L un [] hL]
  obtain ⟨y', hy'⟩ : ∃ y', y' = (un + B64 - carry - borrow) % B64 := ⟨_, rfl⟩
  obtain ⟨b', hb'⟩ : ∃ b', b' = (if un < carry + borrow then 1 else 0) := ⟨_, rfl⟩
  have hb1 : b' ≤ 1 := by rw [hb']; split <;> omega
  have hy'B : y' < B64 := by rw [hy']; exact Nat.mod_lt _ (by decide)
  have hst : y' + (carry + borrow) = un + B64 * b' := by
    by_cases h : un < carry + borrow
    · rw [hy', hb', if_pos h, Nat.mod_eq_of_lt (by omega)]; omega
    · rw [hy', hb', if_neg h]
      have : un + B64 - carry - borrow = (un - carry - borrow) + B64 := by omega
      rw [this, Nat.add_mod_right, Nat.mod_eq_of_lt (by omega)]; omega
  have m4 : callI Try.prog cfg0 75 [.int .u64 (un : Int), .int .u64 (carry : Int), .int .u64 (borrow : Int)] H3 = some (.tuple #[.int .u64 (y' : Int), .int .u64 (b' : Int)], H3) := by rw [hy', hb']; exact sub64_call un carry borrow H3 hb
  obtain ⟨H4, sto, own4, kb4, ka4⟩ := own.segstore hj (i := n) (by simp; omega) y'
  rw [set_mid L un y' [] hL] at own4
  have dL' : Dig B64 (L ++ [y']) := dL.append (.cons hy'B (.nil _))
  have hR : dv B64 (L ++ [y']) + q * V = U + B64 ^ (n + 1) * b' := by
    rw [dv_append, hL]
    simp only [dv, Nat.mul_zero, Nat.add_zero]
    have e1 : B64 ^ n * (y' + (carry + borrow)) = B64 ^ n * (un + B64 * b') := by rw [hst]
    rw [Nat.mul_add, Nat.mul_add (B64 ^ n) un, ← Nat.mul_assoc (B64 ^ n) B64, show B64 ^ n * B64 = B64 ^ (n + 1) from rfl] at e1
    omega
  have hRlt : dv B64 (L ++ [y']) < B64 ^ (n + 1) := by
    have := dv_lt dL'
    simpa [hL] using this
  have hUlt : U < B64 ^ (n + 1) := by
    have := dv_lt du
    rwa [hus, ← hU] at this
  have ta := take_away Vpos qge qle hUlt hRlt hb1 hR
  apply W_seq; intro b1 hb1'
  apply W_region
  simp [t0, t5, t13, t14, an, d2, m4, sto]
  show W _ _ b1 _ _; subst hb1'
  rcases ta with ⟨rfl, rfl, hRe⟩ | ⟨rfl, hq1, hRe⟩
  · apply W_seq; intro b1 hb1'
    apply W_seq; intro b2 hb2
    apply W_region
    simp [neq0_u64]
    show W _ _ b2 _ _; subst hb2
    refine W_cond (t := false) (by simp) ?_
    apply W_skip
    show W _ _ b1 _ _; subst hb1'
    apply W_seq; intro b1 hb1'
    apply W_region
    simp [t6]
    show W _ _ b1 _ _; subst hb1'
    apply W_ret
    simp
    exact ⟨kb.trans kb4, ka.trans ka4, L ++ [y'], by simp [hL], dL', hRe, by simpa using own4⟩
  · have hq0 : 0 < q := by rw [hq1]; exact Nat.succ_pos _
    have hqe : q - 1 = U / V := by rw [hq1]; rfl
    apply W_seq; intro b1 hb1'
    apply W_seq; intro b2 hb2
    apply W_region
    simp [neq0_u64]
    show W _ _ b2 _ _; subst hb2
    refine W_cond (t := true) (by simp) ?_
    apply W_seq; intro b2 hb2
    apply W_region
    simp [t6, sub1_u64 qB hq0]
    show W _ _ b2 _ _; subst hb2
    apply W_seq; intro b2 hb2
    apply W_region
    simp
    show W _ _ b2 _ _; subst hb2
    obtain ⟨us', hus'⟩ : ∃ us', us' = L ++ [y'] := ⟨_, rfl⟩
    have us'len : us'.length = n + 1 := by rw [hus']; simp [hL]
    rw [← hus'] at own4 dL' hRe hRlt
    have kb5 := kb.trans kb4
    have ka5 := ka.trans ka4
    have seg1 : us'.take n ++ us'.drop n = us' := List.take_append_drop n us'
    -- adding back
    refine W_thenK (fun s' => s'.k = 195 ∧ s'.tm.get 0 = some uv ∧ s'.tm.get 5 = some (.int .i64 (n : Int)) ∧ s'.tm.get 6 = some (.int .u64 ((U / V : Nat) : Int)) ∧ But (vblk U0) H2 s'.H ∧ KA n0 H2 s'.H ∧
      ∃ (L : List Nat) (back : Nat), L.length = n ∧ Dig B64 L ∧ back ≤ 1 ∧ dv B64 L + B64 ^ n * back = dv B64 (us'.take n) + V ∧ Own n0 s'.H U0 (pre ++ (L ++ us'.drop n) ++ post) ∧
        s'.tm.get 21 = some (.int .u64 (back : Int))) ?_ ?_
    · intro Q'' hQ''
      apply W_seq; intro b3 hb3
      apply W_region
      simp [t1, lenv]
      show W _ _ b3 _ _; subst hb3
      apply W_block
      refine W_loopK (fun m s' => s'.k = 195 ∧ s'.tm.get 0 = some uv ∧ s'.tm.get 5 = some (.int .i64 (n : Int)) ∧ s'.tm.get 6 = some (.int .u64 ((U / V : Nat) : Int)) ∧ But (vblk U0) H2 s'.H ∧ KA n0 H2 s'.H ∧
        s'.tm.get 166 = some vv ∧ s'.tm.get 167 = some (.int .i64 (n : Int)) ∧
        ∃ (i : Nat) (L : List Nat) (back : Nat), m + i = n ∧ L.length = i ∧ Dig B64 L ∧ back ≤ 1 ∧ dv B64 L + B64 ^ i * back = dv B64 (us'.take i) + dv B64 (vs.take i) ∧ Own n0 s'.H U0 (pre ++ (L ++ us'.drop i) ++ post) ∧
          s'.tm.get 21 = some (.int .u64 (back : Int)) ∧ s'.tm.get 168 = some (.int .i64 (i : Int))) ?_ n _
        ⟨rfl, by simp [t0], by simp [t5], by simp [hqe], kb5, ka5, by simp [t1], by simp, 0, [], 0, by omega, rfl, .nil _, by omega, by simp [dv], by simpa using own4, by simp, by simp⟩
      clear t0 t1 t5 t6 t13 t14
      rintro m ⟨k, tm, H5⟩ ⟨hk, t0, t5, t6, kb, ka, t166, t167, i, L1, back, hmi, hL1, dL1, hbk, heq2, own, t21, t168⟩ Q' hQ'
      simp only at hk t0 t5 t6 kb ka t166 t167 t21 t168 own
      subst hk
      apply W_seq; intro b3 hb3
      apply W_region
      simp [t167, t168]
      show W _ _ b3 _ _; subst hb3
      apply W_seq; intro b3 hb3
      by_cases hi : i < n
      · refine W_cond (t := true) (by simp [hi]) ?_
        apply W_skip
        show W _ _ b3 _ _; subst hb3
        have hv3 := hvlen kb
        have a1 : indexAddrV Try.prog 24 vv (.int .i64 (i : Int)) = some (adr vv i) := hv3.adr ltNat (by omega)
        have hx : vs[i] < B64 := dvs.get (List.getElem?_eq_getElem (by omega))
        have d1 : loadV Try.prog H5 55 (adr vv i) = some (.int .u64 (vs[i] : Nat)) := hv3.load (by omega)
        have a2 : indexAddrV Try.prog 24 uv (.int .i64 (i : Int)) = some (adr U0 (j + i)) := hview _ ltNat .i64 i (by omega)
        have hud : us'.drop i = us'[i] :: us'.drop (i + 1) := List.drop_eq_getElem_cons (by omega)
        have huB : us'[i] < B64 := dL'.get (List.getElem?_eq_getElem (by omega))
        have d2 : loadV Try.prog H5 55 (adr U0 (j + i)) = some (.int .u64 (us'[i] : Nat)) := by
          have := own.segload hj (i := i) (by simp; omega)
          rw [this]
          congr 3
          rw [List.getElem_append_right (by omega)]
          simp [hL1]
        obtain ⟨x, hxe⟩ : ∃ x, x = vs[i] := ⟨_, rfl⟩
        obtain ⟨y, hye⟩ : ∃ y, y = us'[i] := ⟨_, rfl⟩
        rw [← hxe] at hx d1
        rw [← hye] at huB d2 hud
        obtain ⟨y2, hy2⟩ : ∃ y2, y2 = (y + x + back) % B64 := ⟨_, rfl⟩
        obtain ⟨c2, hc2⟩ : ∃ c2, c2 = (y + x + back) / B64 := ⟨_, rfl⟩
        have m4 : callI Try.prog cfg0 49 [.int .u64 (y : Int), .int .u64 (x : Int), .int .u64 (back : Int)] H5 = some (.tuple #[.int .u64 (y2 : Int), .int .u64 (c2 : Int)], H5) := by rw [hy2, hc2]; exact add64_call y x back H5 hbk
        have hdm : B64 * c2 + y2 = y + x + back := by rw [hy2, hc2]; exact Nat.div_add_mod _ _
        have hc1 : c2 ≤ 1 := by
          have : c2 < 2 := by rw [hc2, Nat.div_lt_iff_lt_mul (by decide)]; omega
          omega
        obtain ⟨H6, sto, own6, kb6, ka6⟩ := own.segstore hj (i := i) (by simp; omega) y2
        rw [hud, set_mid L1 y y2 _ hL1] at own6
        apply W_seq; intro b3 hb3
        apply W_block
        apply W_seq; intro b4 hb4
        apply W_region
        simp [t166, t168, a1, d1]
        show W _ _ b4 _ _; subst hb4
        apply W_region
        simp [t0, t21, a2, d2, m4, sto]
        show W _ _ b3 _ _; subst hb3
        apply W_region
        simp [t168, add1_i64 (x := i) (by omega)]
        apply hQ'
        refine ⟨m - 1, by omega, rfl, by simp [t0], by simp [t5], by simp [t6], kb.trans kb6, ka.trans ka6, by simp [t166], by simp [t167], i + 1, L1 ++ [y2], c2, by omega, by simp [hL1], dL1.append (.cons (by rw [hy2]; exact Nat.mod_lt _ (by decide)) (.nil _)), hc1, ?_, by simpa using own6, by simp, by simp⟩
        rw [dv_append, hL1, take_snoc (xs := vs) (by omega), take_snoc (xs := us') (by omega), dv_append, dv_append, List.length_take, List.length_take, Nat.min_eq_left (by omega), Nat.min_eq_left (by omega), ← hxe, ← hye]
        simp only [dv, Nat.mul_zero, Nat.add_zero]
        have e1 : B64 ^ i * (B64 * c2 + y2) = B64 ^ i * (y + x + back) := by rw [hdm]
        rw [Nat.mul_add, ← Nat.mul_assoc (B64 ^ i) B64, show B64 ^ i * B64 = B64 ^ (i + 1) from rfl, Nat.mul_add, Nat.mul_add] at e1
        omega
      · refine W_cond (t := false) (by simp [hi]) ?_
        apply W_exit
        apply hQ'
        left
        obtain rfl : i = n := by omega
        have e1 : vs.take i = vs := by rw [← hvs, List.take_length]
        rw [e1, ← hV] at heq2
        exact ⟨rfl, hQ'' _ ⟨rfl, by simp [t0], by simp [t5], by simp [t6], kb, ka, L1, back, hL1, dL1, hbk, heq2, own, by simp [t21]⟩⟩
    clear t0 t1 t5 t6 t13 t14
    rintro ⟨k, tm, H5⟩ ⟨hk, t0, t5, t6, kb, ka, L2, back, hL2, dL2, hbk, heq2, own, t21⟩
    simp only at hk t0 t5 t6 kb ka own t21
    subst hk
    have hdn2 : us'.drop n = [y'] := by rw [hus', ← hL]; simp
    rw [hdn2] at own
    have d3 : loadV Try.prog H5 55 (adr U0 (j + n)) = some (.int .u64 (y' : Int)) := by
      have := own.segload hj (i := n) (by simp; omega)
      rw [this, get_mid L2 y' [] hL2]
    obtain ⟨z, hz⟩ : ∃ z, z = (y' + back) % B64 := ⟨_, rfl⟩
    obtain ⟨t, ht⟩ : ∃ t, t = (y' + back) / B64 := ⟨_, rfl⟩
    have hzt : B64 * t + z = y' + back := by rw [hz, ht]; exact Nat.div_add_mod _ _
    have hzB : z < B64 := by rw [hz]; exact Nat.mod_lt _ (by decide)
    have ma : intBin .add .u64 (y' : Int) (back : Int) = some (.int .u64 (z : Int)) := by rw [add_u64, hz]
    obtain ⟨H6, sto6, own6, kb6, ka6⟩ := own.segstore hj (i := n) (by simp; omega) z
    rw [set_mid L2 y' z [] hL2] at own6
    have dz : Dig B64 (L2 ++ [z]) := dL2.append (.cons hzB (.nil _))
    have fin : dv B64 (L2 ++ [z]) = U % V := by
      have hlt2 : dv B64 (L2 ++ [z]) < B64 ^ (n + 1) := by
        have := dv_lt dz
        simpa [hL2] using this
      have hus2 : dv B64 us' = dv B64 (us'.take n) + B64 ^ n * y' := by
        have := congrArg (dv B64) seg1
        rw [hdn2, dv_append, List.length_take, Nat.min_eq_left (by omega)] at this
        rw [← this]; simp [dv]
      have e0 : dv B64 (L2 ++ [z]) = dv B64 L2 + B64 ^ n * z := by rw [dv_append, hL2]; simp [dv]
      have e1 : B64 ^ n * (B64 * t + z) = B64 ^ n * (y' + back) := by rw [hzt]
      rw [Nat.mul_add, ← Nat.mul_assoc (B64 ^ n) B64, show B64 ^ n * B64 = B64 ^ (n + 1) from rfl, Nat.mul_add] at e1
      have ht1 : t ≤ 1 := by
        have : t < 2 := by rw [ht, Nat.div_lt_iff_lt_mul (by decide)]; omega
        omega
      have hm : U % V < B64 ^ (n + 1) := Nat.lt_of_le_of_lt (Nat.mod_le _ _) hUlt
      have hmod : U % V < V := Nat.mod_lt _ Vpos
      rcases Nat.lt_or_ge t 1 with h0 | h0
      · exfalso
        obtain rfl : t = 0 := by omega
        rw [Nat.mul_zero] at e1
        omega
      · obtain rfl : t = 1 := by omega
        rw [Nat.mul_one] at e1
        omega
    apply W_region
    simp [t0, t5, t21, an, d3, ma, sto6]
    show W _ _ b1 _ _; subst hb1'
    apply W_seq; intro b1 hb1'
    apply W_region
    simp [t6]
    show W _ _ b1 _ _; subst hb1'
    apply W_ret
    simp
    exact ⟨kb.trans kb6, ka.trans ka6, L2 ++ [z], by simp [hL2], dz, fin, by simpa using own6⟩
end
end Go.Proofs.Ytldapilhmmbjhaa
