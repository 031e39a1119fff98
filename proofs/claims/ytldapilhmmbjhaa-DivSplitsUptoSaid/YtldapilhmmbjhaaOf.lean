/-
  surdref01: Div.
-/
import Derived.Test.YtldapilhmmbjhaaOe
namespace Go.Proofs.Ytldapilhmmbjhaa
open Go Ev
set_option linter.unusedVariables false
set_option linter.unusedSimpArgs false
noncomputable section

/-- A new block beside hidden ones. -/
theorem grown_new {H : AH} {bits : Nat} {ms : List (Nat × Nat × Nat)} {sz : Nat} {cs : List Value} : But none (H.new sz cs) (grown H ((vis H bits ms).new sz cs)) := by
  refine ⟨rfl, fun j hj _ => ?_⟩
  have hj' : j < H.n + 1 := hj
  rw [AH.blk_new]
  have e : (grown H ((vis H bits ms).new sz cs)).blk j = if H.n ≤ j then ((vis H bits ms).new sz cs).blk j else H.blk j := by
    unfold grown
    show (match (addT H.t ((vis H bits ms).new sz cs) H.n (H.n + 1 - H.n)).get j with | some b => b | none => Blk.dead) = _
    rw [addT_blk]
    by_cases c : H.n ≤ j
    · rw [if_pos (by omega), if_pos c]
    · rw [if_neg (by omega), if_neg c]; rfl
  rw [e]
  by_cases c : j = H.n
  · rw [if_pos (by omega), if_pos c, AH.blk_new, if_pos (show j = (vis H bits ms).n from c)]
  · rw [if_neg (by omega), if_neg c]

theorem grown_new_keep {H : AH} {bits : Nat} {ms : List (Nat × Nat × Nat)} {sz : Nat} {cs : List Value} : Keep H (grown H ((vis H bits ms).new sz cs)) := by
  refine ⟨Nat.le_succ _, Nat.min_le_left _ _, fun j hj => ?_⟩
  have := (grown_new (H := H) (bits := bits) (ms := ms) (sz := sz) (cs := cs)).blk j (show j < H.n + 1 by omega) (fun e => by cases e)
  rw [this, AH.blk_new, if_neg (by omega)]

/-- A list of one limb that is written out in a drawn region. -/
theorem DG_build1 {P : Program} {C : Cfg} {ops : Array Oper} {k i : Nat} {q : Bool} {ms : List (Nat × Nat × Nat)} {tm : Tr Value} {H : AH} {K : Tr Value → AH → Prop} {o : Oper} {r : List Oper} (x : Nat)
    (hg : gW tm (grdOf ops o) = some true) (hh : heapOp o.op = true) (hq : q = false)
    (he : ∀ Hv : AH, evOp P C (callI P C) tm Hv o.op = some (.slice (some ⟨Hv.n, 0, none⟩) 1 1, Hv.new 1 [limb x]))
    (h : ∀ G2 : AH, Own H.n G2 (.slice (some ⟨H.n, 0, none⟩) 1 1) [x] → Keep H G2 → G2.n = H.n + 1 → match o.dst with
      | none => DW P C ops k (i + 1) q ((i, H.n, H.n + 1) :: ms) r tm G2 K
      | some d => d < k ∧ DW P C ops k (i + 1) q ((i, H.n, H.n + 1) :: ms) r (tm.set d (.slice (some ⟨H.n, 0, none⟩) 1 1)) G2 K) : DG P C ops k i q ms (o :: r) tm H K := by
  refine DG_grow (v := .slice (some ⟨H.n, 0, none⟩) 1 1) (H2 := (vis H ((before ops).getD i 0) ms).new 1 [limb x]) hg hh hq (he _) (Nat.le_succ _) (Nat.le_refl _) ?_
  have hbt : Nat.blt H.n ((vis H ((before ops).getD i 0) ms).new 1 [limb x]).n = true := by rw [Nat.blt_eq]; exact Nat.lt_succ_self _
  rw [hbt]
  exact h _ ((Own.new H [x]).same grown_new) grown_new_keep rfl

theorem ms_one {i a b : Nat} {ms : List (Nat × Nat × Nat)} (h : cond (Nat.blt a b) [(i, a, b)] [] = ms) : ∀ x ∈ ms, x.1 = i ∧ a ≤ x.2.1 := by
  intro x hx
  rw [← h] at hx
  cases hbl : Nat.blt a b with
  | true => rw [hbl, cond_true] at hx; simp at hx; subst hx; exact ⟨rfl, Nat.le_refl _⟩
  | false => rw [hbl, cond_false] at hx; cases hx

/-- One step of the halving. -/
theorem halve_step {B R q r k : Nat} (e : R = B * q + r) (hr : r < B * 2 ^ (k + 1)) (hq : q + 2 ^ (k + 1) ≤ 4294967296) :
    (B * 2 ^ k ≤ r → R = B * (q + 2 ^ k) + (r - B * 2 ^ k) ∧ r - B * 2 ^ k < B * 2 ^ k ∧ q + 2 ^ k + 2 ^ k ≤ 4294967296) ∧
    (r < B * 2 ^ k → q + 2 ^ k ≤ 4294967296) := by
  have e2 : 2 ^ (k + 1) = 2 ^ k + 2 ^ k := by rw [Nat.pow_succ]; omega
  rw [e2] at hq
  rw [e2, Nat.mul_add] at hr
  have hp := Nat.two_pow_pos k
  refine ⟨fun h => ⟨?_, by omega, by omega⟩, fun h => by omega⟩
  rw [e, Nat.mul_add]; omega

theorem sub1_any {m : Nat} (h : m < 9223372036854775807) : intBin .sub .i64 (m : Int) 1 = some (.int .i64 ((m : Int) - 1)) := by
  show some (Value.int .i64 (IntKind.i64.wrap ((m : Int) - 1))) = _
  congr 2
  rw [IntKind.wrap_i64]; omega
theorem geq_pred {m : Nat} : intBin .geq .i64 ((m : Int) - 1) 0 = some (.bool (decide (0 < m))) := by
  show some (Value.bool (decide ((m : Int) - 1 ≥ 0))) = _
  congr 2; apply decide_eq_decide.mpr; omega
theorem geq_cmp {a b : Nat} : intBin .geq .i64 (cmpN a b) 0 = some (.bool (decide (b ≤ a))) := by
  show some (Value.bool (decide (cmpN a b ≥ 0))) = _
  congr 2; apply decide_eq_decide.mpr
  unfold cmpN
  split
  · omega
  · split <;> omega

attribute [-simp] Int.natCast_add Int.natCast_mul Int.natCast_ediv Int.natCast_emod Int.natCast_pow
attribute [local simp] strip stripL LW' LR gW evOp oMove oAssign oPick oBinOp oUnOp oConvert oExtract oIndexAddr oIndex oLoad oStore oSlice oMakeSlice oCall oBuildSlice opd opds optOpd plain plain1 Tr.get_set tmOf builtinV binV isShift sameKind undef resultV resOne packV ltNat ltNum ltLst calleeV parts lss_nat unV DW grdOf heapOp LX isStore

set_option maxHeartbeats 2000000 in
theorem refDiv_spec {H : AH} {va vb : Value} {xs ys : List Nat} (ha : Sl H va xs) (hb : Sl H vb ys) (dx : Dig b32 xs) (dy : Dig b32 ys) (ty : trimL ys = ys) (lx : xs.length ≤ 4000000000000) (ly : ys.length ≤ 4000000000000) (hy : 0 < dv b32 ys) :
    CW Try.prog cfg0 40 [va, vb] H fun v' H' => Keep H H' ∧ ∃ q r, v' = .tuple #[q, r] ∧ Own H.n H' q (ds b32 (dv b32 xs / dv b32 ys)) ∧ Own H.n H' r (ds b32 (dv b32 xs % dv b32 ys)) := by
  refine CW_intro 60 (by decide) (by decide) Try.func40 rfl rfl ?_
  have l1 := ha.len ltNum
  obtain ⟨n, hn⟩ : ∃ n, n = xs.length := ⟨_, rfl⟩
  rw [← hn] at l1
  obtain ⟨B, hB⟩ : ∃ B, B = dv b32 ys := ⟨_, rfl⟩
  rw [← hB] at hy
  have hBlt : B < b32 ^ ys.length := by
    have h1 := dv_lt dy
    rwa [← hB] at h1
  obtain ⟨c0, H1, hmk, k1, o1, n1⟩ := makeSlice_own (H := H) ltNum (n := n) (by omega)
  apply W_seq; intro b1 hb1
  apply W_region
  simp
  show W _ _ b1 _ _; subst hb1
  apply W_seq; intro b1 hb1
  apply W_region
  simp
  show W _ _ b1 _ _; subst hb1
  apply W_seq; intro b1 hb1
  apply W_region
  simp [l1, hmk]
  show W _ _ b1 _ _; subst hb1
  apply W_seq; intro b1 hb1
  apply W_seq; intro b2 hb2
  apply W_region
  simp [l1, sub1_any (m := n) (by omega)]
  show W _ _ b2 _ _; subst hb2
  apply W_block
  refine W_loopK (fun m s' => s'.k = 60 ∧ Keep H s'.H ∧ m ≤ n ∧ ∃ (L : List Nat) (R : Nat) (rv : Value), L.length + m = n ∧ Dig b32 L ∧ R < B ∧ dv b32 (xs.drop m) = B * dv b32 L + R ∧ Own H.n s'.H c0 (List.replicate m 0 ++ L) ∧ H1.n ≤ s'.H.n ∧ Own H1.n s'.H rv (ds b32 R) ∧
    s'.tm.get 0 = some va ∧ s'.tm.get 1 = some vb ∧ s'.tm.get 6 = some rv ∧ s'.tm.get 7 = some c0 ∧ s'.tm.get 8 = some (.int .i64 ((m : Int) - 1))) ?_ n _
    ⟨rfl, k1, Nat.le_refl _, [], 0, .slice none 0 0, by simp, .nil _, hy, by simp [hn, dv], by simpa using o1, Nat.le_refl _, by rw [ds_zero]; exact .nil, by simp, by simp, by simp, by simp, by simp⟩
  rintro m ⟨k, tm, H2⟩ ⟨hk, kH, hm, L, R, rv, hL, dL, hR, heq, own, hn1, ro, t0, t1, t6, t7, t8⟩ Q' hQ'
  simp only at hk kH own hn1 ro t0 t1 t6 t7 t8
  subst hk
  apply W_seq; intro b3 hb3
  apply W_seq; intro b4 hb4
  apply W_region
  simp [t8, geq_pred]
  show W _ _ b4 _ _; subst hb4
  by_cases hm0 : m = 0
  · subst hm0
    refine W_cond (t := false) (by simp) ?_
    apply W_exit
    apply hQ'
    left
    refine ⟨rfl, ?_⟩
    simp at own heq
    have hdiv : dv b32 xs / B = dv b32 L := by rw [heq, Nat.mul_add_div hy, Nat.div_eq_of_lt hR, Nat.add_zero]
    have hmod : dv b32 xs % B = R := by rw [heq, Nat.mul_add_mod, Nat.mod_eq_of_lt hR]
    obtain ⟨v5, H5, hc5, e5, o5, _⟩ := norm32_spec own (by omega)
    subst e5
    rw [trimL_ds two32 dL] at o5
    show W _ _ b1 _ _; subst hb1
    apply W_seq; intro b4 hb4
    apply W_region
    simp [t6, t7, hc5]
    show W _ _ b4 _ _; subst hb4
    apply W_ret
    simp
    rw [← hB, hdiv, hmod]
    exact ⟨kH, v5, rv, ⟨rfl, rfl⟩, o5, ro.mono k1.n (.refl _)⟩
  · refine W_cond (t := true) (by simp; omega) ?_
    apply W_skip
    show W _ _ b3 _ _; subst hb3
    obtain ⟨i, rfl⟩ : ∃ i, m = i + 1 := ⟨m - 1, by omega⟩
    have em : ((i + 1 : Nat) : Int) - 1 = (i : Int) := by omega
    rw [em] at t8
    have hi : i < xs.length := by omega
    have hx : xs[i] < b32 := dx.get (List.getElem?_eq_getElem hi)
    have hdrop : xs.drop i = xs[i] :: xs.drop (i + 1) := List.drop_eq_getElem_cons hi
    -- the rest with one digit more
    have lR : (ds b32 R).length ≤ ys.length := ds_len_le two32 (Nat.lt_trans hR hBlt)
    obtain ⟨v1, H3, hc1, k3, o3⟩ := refShl_spec (H := H2.top) ro.sl.top (ds_dig two32 R) (by omega) (n := 32) (by decide)
    have hc1' : callI Try.prog cfg0 62 [rv, .int .i64 32] H2.top = some (v1, H3) := hc1
    rw [dv_ds two32] at o3
    obtain ⟨G1, hG1⟩ : ∃ G1, G1 = grown H2 H3 := ⟨_, rfl⟩
    have kG1 : Keep H2 G1 := by rw [hG1]; exact grown_keep (.refl H2) k3
    have o3' : Own H2.n G1 v1 (ds b32 (R * 2 ^ 32)) := by rw [hG1]; exact o3.same (grown_but k3)
    have h3n : H2.n ≤ H3.n := k3.n
    have nG1 : G1.n = H3.n := by rw [hG1]; rfl
    obtain ⟨x, hxe⟩ : ∃ x, x = xs[i] := ⟨_, rfl⟩
    rw [← hxe] at hx hdrop
    have a1 : indexAddrV Try.prog 28 va (.int .i64 (i : Int)) = some (adr va i) := ha.adr ltNum hi
    apply W_seq; intro b3 hb3
    apply W_block
    apply W_seq; intro b4 hb4
    apply W_draw (by kernel_rfl)
    simp [t6]
    refine DG_grow (v := v1) (H2 := H3) rfl rfl rfl (by rw [vis_top rfl]; simp [t6, hc1']) h3n (keep_lw k3) ?_
    rw [← hG1]
    generalize hms : cond (Nat.blt H2.n H3.n) _ _ = ms
    have hms1 := ms_one hms
    simp [t0, t8, a1]
    have hld := fun bits => (ha.keep (kH.trans (vis_keep (bits := bits) kG1 fun x hx => (hms1 x hx).2))).load hi
    rw [← hxe] at hld
    refine DG_read (v := .int .u64 (x : Int)) rfl rfl rfl (by simp [hld]) ?_
    simp
    refine DG_build1 x rfl rfl rfl (fun Hv => by simp [build1_own _ ltNum]) ?_
    intro G2 oG2 kG2 nG2
    obtain ⟨v7, H7, hc7, e7, o7, _⟩ := norm32_spec oG2.top (by simp)
    subst e7
    have o3'' : Own H2.n G2 v1 (ds b32 (R * 2 ^ 32)) := o3'.mono (Nat.le_refl _) kG2
    have h1x : Dig b32 [x] := .cons hx (.nil _)
    have hR32 : R * 2 ^ 32 < b32 ^ (ys.length + 1) := by
      have : R * 2 ^ 32 < b32 ^ ys.length * 2 ^ 32 := Nat.mul_lt_mul_of_pos_right (Nat.lt_trans hR hBlt) (by decide)
      rw [show b32 ^ (ys.length + 1) = b32 ^ ys.length * b32 from rfl, show b32 = 2 ^ 32 by decide]
      exact this
    obtain ⟨v8, H8, hc8, k8, o8⟩ := refAdd_spec (H := G2.top) o3''.sl.top o7.sl (ds_dig two32 _) (trimL_dig h1x) (Nat.le_trans (ds_len_le two32 (k := ys.length + 1) hR32) (by omega)) (by have := trimL_len [x]; simp at this; omega)
    rw [dv_ds two32, dv_trimL, show dv b32 [x] = x by simp [dv]] at o8
    obtain ⟨G3, hG3⟩ : ∃ G3, G3 = grown G2 H8 := ⟨_, rfl⟩
    have kG3 : Keep G2 G3 := by rw [hG3]; exact grown_keep (.refl G2) k8
    obtain ⟨R1, hR1⟩ : ∃ R1, R1 = R * 2 ^ 32 + x := ⟨_, rfl⟩
    rw [← hR1] at o8
    have o8' : Own G2.n G3 v8 (ds b32 R1) := by rw [hG3]; exact o8.same (grown_but k8)
    have h8n : G2.n ≤ H8.n := k8.n
    simp
    refine DG_read (v := v7) rfl rfl rfl ?_ ?_
    · rw [vis_top (hidden_nil fun x hx => ?_)]
      · simp [hc7]
      · rcases List.mem_cons.mp hx with e | e
        · rw [e]; kernel_rfl
        · rw [(hms1 x e).1]; kernel_rfl
    simp
    refine DG_grow (v := v8) (H2 := H8) rfl rfl rfl ?_ h8n (keep_lw k8) ?_
    · rw [vis_top (hidden_nil fun x hx => ?_)]
      · simp [hc8]
      · rcases List.mem_cons.mp hx with e | e
        · rw [e]; kernel_rfl
        · rw [(hms1 x e).1]; kernel_rfl
    rw [← hG3]
    simp
    show W _ _ b4 _ _; subst hb4
    have kH3 : Keep H G3 := ((kH.trans kG1).trans kG2).trans kG3
    have own3 := own.mono (Nat.le_refl _) ((kG1.trans kG2).trans kG3)
    have or3 : Own H1.n G3 v8 (ds b32 R1) := o8'.mono (by have := kG1.n; have := kG2.n; omega) (.refl G3)
    have R1lt : R1 < B * 2 ^ 32 := by
      have h1 : (R + 1) * 2 ^ 32 ≤ B * 2 ^ 32 := Nat.mul_le_mul_right _ hR
      have h2 : x < 2 ^ 32 := hx
      rw [Nat.succ_mul] at h1
      omega
    apply W_seq; intro b4 hb4
    apply W_region
    simp
    show W _ _ b4 _ _; subst hb4
    -- the digit
    refine W_thenK (fun s' => s'.k = 60 ∧ Keep G3 s'.H ∧ ∃ (q r : Nat) (rv' : Value), q < 4294967296 ∧ R1 = B * q + r ∧ r < B ∧ Own H1.n s'.H rv' (ds b32 r) ∧
      s'.tm.get 0 = some va ∧ s'.tm.get 1 = some vb ∧ s'.tm.get 6 = some rv' ∧ s'.tm.get 7 = some c0 ∧ s'.tm.get 8 = some (.int .i64 (i : Int)) ∧ s'.tm.get 9 = some (.int .u64 (q : Int))) ?_ ?_
    · intro Q'' hQ''
      have hbG := hb.keep kH3
      have hB1 : (ds b32 R1).length ≤ ys.length + 1 := ds_len_le two32 (by
        have h2 : B * 2 ^ 32 < b32 ^ ys.length * 2 ^ 32 := Nat.mul_lt_mul_of_pos_right hBlt (by decide)
        rw [show b32 ^ (ys.length + 1) = b32 ^ ys.length * b32 from rfl, show b32 = 2 ^ 32 by decide]
        rw [show b32 = 2 ^ 32 by decide] at h2
        exact Nat.lt_trans R1lt h2)
      obtain ⟨v9, H9, hc9, e9, e9'⟩ := refCmp_spec or3.sl hbG (ds_dig two32 R1) dy (ds_trim two32 R1) ty (by omega) (by omega)
      subst e9; subst e9'
      rw [dv_ds two32, ← hB] at hc9
      apply W_seq; intro b4 hb4
      apply W_region
      simp [t1, hc9, geq_cmp]
      show W _ _ b4 _ _; subst hb4
      by_cases hge : B ≤ R1
      · refine W_cond (t := true) (by simp [hge]) ?_
        apply W_seq; intro b4 hb4
        apply W_region
        simp
        show W _ _ b4 _ _; subst hb4
        apply W_block
        refine W_loopK (fun kk s' => s'.k = 60 ∧ Keep H9 s'.H ∧ kk ≤ 32 ∧ ∃ (q r : Nat) (rv' : Value), q + 2 ^ kk ≤ 4294967296 ∧ R1 = B * q + r ∧ r < B * 2 ^ kk ∧ Own H1.n s'.H rv' (ds b32 r) ∧
          s'.tm.get 0 = some va ∧ s'.tm.get 1 = some vb ∧ s'.tm.get 6 = some rv' ∧ s'.tm.get 7 = some c0 ∧ s'.tm.get 8 = some (.int .i64 (i : Int)) ∧ s'.tm.get 9 = some (.int .u64 (q : Int)) ∧ s'.tm.get 10 = some (.int .i64 ((kk : Int) - 1))) ?_ 32 _
          ⟨rfl, .refl _, Nat.le_refl _, 0, R1, v8, by decide, by simp, R1lt, or3, by simp [t0], by simp [t1], by simp, by simp [t7], by simp [t8], by simp, by simp⟩
        clear t0 t1 t6 t7 t8
        rintro kk ⟨k, tm, H4⟩ ⟨hk, k4, hkk, q, r, rv', hq, hqr, hr, or4, t0, t1, t6, t7, t8, t9, t10⟩ Q5 hQ5
        simp only at hk k4 or4 t0 t1 t6 t7 t8 t9 t10
        subst hk
        apply W_seq; intro b5 hb5
        apply W_seq; intro b6 hb6
        apply W_region
        simp [t10, geq_pred]
        show W _ _ b6 _ _; subst hb6
        by_cases hk0 : kk = 0
        · subst hk0
          refine W_cond (t := false) (by simp) ?_
          apply W_exit
          apply hQ5
          left
          exact ⟨rfl, hQ'' _ ⟨rfl, k4, q, r, rv', by omega, hqr, by simpa using hr, or4, by simp [t0], by simp [t1], by simp [t6], by simp [t7], by simp [t8], by simp [t9]⟩⟩
        · refine W_cond (t := true) (by simp; omega) ?_
          apply W_skip
          show W _ _ b5 _ _; subst hb5
          obtain ⟨s, rfl⟩ : ∃ s, kk = s + 1 := ⟨kk - 1, by omega⟩
          have es : ((s + 1 : Nat) : Int) - 1 = (s : Int) := by omega
          rw [es] at t10
          obtain ⟨st1, st2⟩ := halve_step hqr hr hq
          have hb4' := hbG.keep k4
          obtain ⟨v5, H5, hc5, k5, o5⟩ := refShl_spec (H := H4) hb4' dy (by omega) (n := s) (by omega)
          rw [← hB] at o5
          have or5 := or4.mono (Nat.le_refl _) k5
          have rlt : r ≤ R1 := by rw [hqr]; omega
          have lr : (ds b32 r).length ≤ ys.length + 1 := by
            have h1 := ds_lt two32 R1
            have h2 : b32 ^ (ds b32 R1).length ≤ b32 ^ (ys.length + 1) := Nat.pow_le_pow_right (by decide) hB1
            exact ds_len_le two32 (by omega)
          have lbs : (ds b32 (B * 2 ^ s)).length ≤ ys.length + 1 := ds_len_le two32 (by
            have h1 : B * 2 ^ s ≤ B * 2 ^ 32 := Nat.mul_le_mul_left _ (Nat.pow_le_pow_right (by decide) (by omega))
            have h2 : B * 2 ^ 32 < b32 ^ ys.length * 2 ^ 32 := Nat.mul_lt_mul_of_pos_right hBlt (by decide)
            rw [show b32 ^ (ys.length + 1) = b32 ^ ys.length * b32 from rfl, show b32 = 2 ^ 32 by decide]
            rw [show b32 = 2 ^ 32 by decide] at h2
            exact Nat.lt_of_le_of_lt h1 h2)
          obtain ⟨v6, H6, hc6, e6, e6'⟩ := refCmp_spec or5.sl o5.sl (ds_dig two32 r) (ds_dig two32 _) (ds_trim two32 r) (ds_trim two32 _) (by omega) (by omega)
          subst e6; subst e6'
          rw [dv_ds two32, dv_ds two32] at hc6
          apply W_seq; intro b5 hb5
          apply W_block
          apply W_seq; intro b6 hb6
          apply W_region
          simp [t1, t10, hc5]
          show W _ _ b6 _ _; subst hb6
          apply W_seq; intro b6 hb6
          apply W_region
          simp [t6, hc6, geq_cmp]
          show W _ _ b6 _ _; subst hb6
          by_cases hs : B * 2 ^ s ≤ r
          · obtain ⟨g1, g2, g3⟩ := st1 hs
            obtain ⟨v7, H7, hc7, k7, o7⟩ := refSub_spec or5.sl o5.sl (ds_dig two32 r) (ds_dig two32 _) (by omega) (by rw [dv_ds two32, dv_ds two32]; exact hs)
            rw [dv_ds two32, dv_ds two32] at o7
            have sp := Nat.two_pow_pos s
            have m1 : shiftBin .shl .u64 1 (s : Int) = some (.int .u64 ((2 ^ s : Nat) : Int)) := by
              have := shl_u64 (x := 1) (s := s) (by omega)
              rw [Nat.one_mul, Nat.mod_eq_of_lt (by show _ < 18446744073709551616; omega)] at this
              exact this
            have m2 : intBin .add .u64 (q : Int) ((2 ^ s : Nat) : Int) = some (.int .u64 ((q + 2 ^ s : Nat) : Int)) := add_u64_lt (by show _ < 18446744073709551616; omega)
            refine W_cond (t := true) (by simp [hs]) ?_
            apply W_seq; intro b6 hb6
            apply W_region
            simp [t6, hc7]
            show W _ _ b6 _ _; subst hb6
            apply W_region
            simp [t9, t10, m1, m2]
            show W _ _ b5 _ _; subst hb5
            apply W_region
            simp [t10, sub1_any (m := s) (by omega)]
            apply hQ5
            exact ⟨s, Nat.lt_succ_self s, rfl, (k4.trans k5).trans k7, by show s ≤ 32; omega, q + 2 ^ s, r - B * 2 ^ s, v7, g3, g1, g2, o7.mono (by have := kG1.n; have := kG2.n; have := kG3.n; have := k4.n; have := k5.n; omega) (.refl _), by simp [t0], by simp [t1], by simp, by simp [t7], by simp [t8], by simp, by simp⟩
          · refine W_cond (t := false) (by simp [hs]) ?_
            apply W_skip
            show W _ _ b5 _ _; subst hb5
            apply W_region
            simp [t10, sub1_any (m := s) (by omega)]
            apply hQ5
            exact ⟨s, Nat.lt_succ_self s, rfl, k4.trans k5, by show s ≤ 32; omega, q, r, rv', st2 (by omega), hqr, by omega, or5, by simp [t0], by simp [t1], by simp [t6], by simp [t7], by simp [t8], by simp [t9], by simp⟩
      · refine W_cond (t := false) (by simp [hge]) ?_
        apply W_skip
        apply hQ''
        exact ⟨rfl, .refl _, 0, R1, v8, by decide, by simp, by omega, or3, by simp [t0], by simp [t1], by simp, by simp [t7], by simp [t8], by simp⟩
    clear t0 t1 t6 t7 t8
    rintro ⟨k, tm, H4⟩ ⟨hk, k4, q, r, rv', hq, hqr, hr, or4, t0, t1, t6, t7, t8, t9⟩
    simp only at hk k4 or4 t0 t1 t6 t7 t8 t9
    subst hk
    have own4 := own3.mono (Nat.le_refl _) k4
    have hrep : List.replicate (i + 1) 0 ++ L = List.replicate i 0 ++ 0 :: L := by rw [List.replicate_succ']; simp
    rw [hrep] at own4
    have a3 := own4.sl.adr ltNum (k := .i64) (i := i) (by simp)
    obtain ⟨H5, st5, own5, n5, b5, ka5⟩ := own4.put (i := i) (by simp) q
    rw [set_mid _ _ _ _ (by simp)] at own5
    have bt5 : But (vblk c0) H4 H5 := ⟨n5, fun j _ hj => b5 j hj⟩
    have ap : Apart c0 rv' := apart_own o1 or4 (Nat.le_refl _)
    apply W_region
    simp [t7, t8, t9, a3, st5]
    show W _ _ b3 _ _; subst hb3
    apply W_region
    simp [t8, sub1_any (m := i) (by omega)]
    apply hQ'
    refine ⟨i, Nat.lt_succ_self i, rfl, ka5 H (kH3.trans k4) (Nat.le_refl _), by show i ≤ n; omega, q :: L, r, rv', by simp; omega, .cons hq dL, hr, ?_, own5, by rw [n5]; have := kG1.n; have := kG2.n; have := kG3.n; have := k4.n; omega, or4.but bt5 ap, by simp [t0], by simp [t1], by simp [t6], by simp [t7], by simp⟩
    rw [hdrop]
    simp only [dv]
    rw [heq, Nat.mul_add b32, Nat.mul_add B, Nat.mul_left_comm B b32]
    rw [hqr] at hR1
    have e1 : R * 2 ^ 32 = b32 * R := by rw [Nat.mul_comm]
    omega
end
end Go.Proofs.Ytldapilhmmbjhaa
