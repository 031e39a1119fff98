/-
  div.divide: the walk.
-/
import Derived.Test.YtldapilhmmbjhaaNv
namespace Go.Proofs.Ytldapilhmmbjhaa
open Go Ev
set_option linter.unusedVariables false
set_option linter.unusedSimpArgs false
noncomputable section

/-- What a later heap, of which something is hidden, keeps. -/
theorem hideT_get (t : Tr Blk) : ∀ (hs : List Nat) (j : Nat), j ∉ hs → (hideT t hs).get j = t.get j
  | [], j, _ => rfl
  | i :: r, j, h => by
    simp only [hideT, Tr.get_set]
    rw [if_neg (by intro e; subst e; exact h (List.mem_cons_self ..))]
    exact hideT_get t r j (fun h' => h (List.mem_cons_of_mem _ h'))

theorem hidden_ge {n bits : Nat} : ∀ {ms : List (Nat × Nat × Nat)}, (∀ x ∈ ms, n ≤ x.2.1) → ∀ i ∈ hidden bits ms, n ≤ i
  | [], _, i, h => by cases h
  | (k, lo, hi) :: r, hm, i, h => by
    have ih := hidden_ge (bits := bits) (ms := r) (fun x hx => hm x (List.mem_cons_of_mem _ hx)) i
    have h0 : n ≤ lo := hm (k, lo, hi) (List.mem_cons_self ..)
    unfold hidden at h
    cases hb : bits.testBit k with
    | true => rw [hb, cond_true] at h; exact ih h
    | false =>
      rw [hb, cond_false] at h
      rcases List.mem_append.mp h with h | h
      · obtain ⟨a, _, rfl⟩ := List.mem_map.mp h; omega
      · exact ih h

theorem vis_keep {H0 H : AH} {bits : Nat} {ms : List (Nat × Nat × Nat)} (k : Keep H0 H) (h : ∀ x ∈ ms, H0.n ≤ x.2.1) : Keep H0 (vis H bits ms) := by
  have k2 := k.top
  refine ⟨k2.n, k2.lw, fun j hj => ?_⟩
  rw [← k.blk j hj]
  unfold vis AH.blk
  simp only
  rw [hideT_get]
  intro hm
  have := hidden_ge h j hm
  omega

theorem conv_lz {n : Nat} (h : n ≤ 64) : convV Try.prog 3 75 (.int .i64 (64 - (n : Int))) = some (.int .u64 ((64 - n : Nat) : Int)) := by
  have := conv_int_uint (n := 64 - n) (by show _ < 18446744073709551616; omega)
  rw [← this]
  congr 2
  omega

theorem blen64 {x : Nat} (hx : x < B64) : blen x ≤ 64 := by
  rcases Nat.lt_or_ge 64 (blen x) with h | h
  · have h0 : x ≠ 0 := by rintro rfl; simp [blen] at h
    have a := blen_ge h0
    have b : 2 ^ 64 ≤ 2 ^ (blen x - 1) := Nat.pow_le_pow_right (by decide) (by omega)
    have hx : x < 18446744073709551616 := hx
    omega
  · exact h

theorem dv_split (xs : List Nat) (j : Nat) (h : j ≤ xs.length) : dv B64 xs = dv B64 (xs.take j) + B64 ^ j * dv B64 (xs.drop j) := by
  have := congrArg (dv B64) (List.take_append_drop j xs)
  rw [dv_append, List.length_take, Nat.min_eq_left h] at this
  exact this.symm

/-- A normal list's highest limb. -/
theorem normal_top {xs : List Nat} (dx : Dig B64 xs) (tx : trimL xs = xs) (h : 0 < xs.length) : 0 < xs[xs.length - 1] := by
  rcases Nat.eq_zero_or_pos (xs[xs.length - 1]) with h0 | h0
  · exfalso
    have hs := split_last (n := xs.length - 1) (xs := xs) (by omega)
    have e : xs = xs.take (xs.length - 1) ++ [0] := by
      rw [h0] at hs; exact hs
    have := congrArg trimL e
    rw [trimL_snoc0, tx] at this
    have := congrArg List.length this
    have := trimL_len (xs.take (xs.length - 1))
    rw [List.length_take] at this
    omega
  · exact h0

theorem normal_ge {xs : List Nat} (dx : Dig B64 xs) (tx : trimL xs = xs) (h : 0 < xs.length) : B64 ^ (xs.length - 1) ≤ dv B64 xs := by
  rw [dv_split xs (xs.length - 1) (by omega), List.drop_eq_getElem_cons (by omega), List.drop_eq_nil_of_le (by omega)]
  have := normal_top dx tx h
  simp only [dv, Nat.mul_zero, Nat.add_zero]
  have : B64 ^ (xs.length - 1) * 1 ≤ B64 ^ (xs.length - 1) * xs[xs.length - 1] := Nat.mul_le_mul_left _ (by omega)
  omega

theorem normal_ds {xs : List Nat} (dx : Dig B64 xs) (tx : trimL xs = xs) : xs = ds B64 (dv B64 xs) := by rw [← trimL_ds two64 dx, tx]

/-- The numbers of the divisor, shifted. -/
theorem shift_top {ys : List Nat} (dy : Dig B64 ys) (ty : trimL ys = ys) {n : Nat} (hn : ys.length = n) (h2 : 0 < n) {s : Nat} (hs : s = 64 - blen (ys[n - 1]'(by omega))) :
    s < 64 ∧ dv B64 ys * 2 ^ s < B64 ^ n := by
  subst hn
  have h0 := normal_top dy ty (by omega)
  have hB := dy.get (List.getElem?_eq_getElem (show ys.length - 1 < ys.length by omega))
  have hbl := blen64 hB
  have hbl0 : 0 < blen (ys[ys.length - 1]) := by unfold blen; rw [if_neg (by omega)]; omega
  refine ⟨by omega, ?_⟩
  have hlt := blen_lt (ys[ys.length - 1])
  have e := dv_split ys (ys.length - 1) (by omega)
  rw [List.drop_eq_getElem_cons (by omega), List.drop_eq_nil_of_le (by omega)] at e
  simp only [dv, Nat.mul_zero, Nat.add_zero] at e
  have hl := dv_lt (dy.take (ys.length - 1))
  rw [List.length_take, Nat.min_eq_left (by omega)] at hl
  generalize ys[ys.length - 1] = y at *
  have h1 : dv B64 ys < B64 ^ (ys.length - 1) * 2 ^ blen y := by
    have : B64 ^ (ys.length - 1) * (y + 1) ≤ B64 ^ (ys.length - 1) * 2 ^ blen y := Nat.mul_le_mul_left _ hlt
    rw [Nat.mul_succ] at this
    omega
  have h3 : dv B64 ys * 2 ^ s < B64 ^ (ys.length - 1) * 2 ^ blen y * 2 ^ s := Nat.mul_lt_mul_of_pos_right h1 (Nat.two_pow_pos s)
  have h4 : B64 ^ (ys.length - 1) * 2 ^ blen y * 2 ^ s = B64 ^ ys.length := by
    rw [Nat.mul_assoc, ← Nat.pow_add, hs, show blen y + (64 - blen y) = 64 by omega]
    obtain ⟨m, hm⟩ : ∃ m, ys.length = m + 1 := ⟨ys.length - 1, by omega⟩
    rw [hm, Nat.add_sub_cancel, show (2 : Nat) ^ 64 = B64 by decide]
    rfl
  rwa [h4] at h3

attribute [-simp] Int.natCast_add Int.natCast_mul Int.natCast_ediv Int.natCast_emod Int.natCast_pow
attribute [local simp] strip stripL LW' LR gW evOp oMove oAssign oPick oBinOp oUnOp oConvert oExtract oIndexAddr oIndex oLoad oStore oSlice oMakeSlice oCall oBuildSlice opd opds optOpd plain plain1 Tr.get_set tmOf builtinV binV isShift sameKind undef resultV resOne packV ltNat ltNum ltLst calleeV parts lss_nat unV DW grdOf heapOp LX isStore

/-- What divide answers. -/
def DivideIs (n0 : Nat) (H : AH) (A B : Nat) (v : Value) (H' : AH) : Prop :=
  Keep H H' ∧ ∃ q r, v = .tuple #[q, r] ∧ Own H.n H' q (ds B64 (A / B)) ∧ Own n0 H' r (ds B64 (A % B)) ∧ Apart q r

theorem apart_own {n m : Nat} {H H' : AH} {v w : Value} {xs ys : List Nat} (a : Own n H v xs) (b : Own m H' w ys) (h : H.n ≤ m) : Apart v w := fun c hc hc' => by
  have := (a.blk_lo hc).2
  have := (b.blk_lo hc').1
  omega

theorem cmpN_lt {a b : Nat} : (cmpN a b < 0) ↔ a < b := by
  unfold cmpN
  split
  · simp; assumption
  · split <;> simp <;> omega

theorem lss0 {a : Int} : intBin .lss .i64 a 0 = some (.bool (decide (a < 0))) := rfl

/-- Code behind its first part. -/
def sndC : Code → Code
  | .seq _ b => b
  | c => c

/-- The code behind the two easy cases. -/
def divideTail : Code := sndC (sndC (sndC (Try.f38.body.getD .skip)))

set_option maxHeartbeats 2000000 in
/-- By one limb. -/
theorem divide_one {n0 : Nat} {H : AH} {va vb : Value} {xs ys : List Nat} (ha : Own n0 H va xs) (hb : Sl H vb ys) (hn0 : n0 ≤ H.n) (dx : Dig B64 xs) (dy : Dig B64 ys) (tx : trimL xs = xs) (ty : trimL ys = ys) (lx : xs.length ≤ 17592186040000) (ly : ys.length ≤ 17592186040000) (hy : 0 < ys.length)
    (rest : ∀ tm : Tr Value, tm.get 0 = some va → tm.get 1 = some vb → 2 ≤ ys.length → dv B64 ys ≤ dv B64 xs → W Try.prog cfg0 divideTail ⟨104, tm, H⟩ fun ex s => (ex = .norm ∨ ex = .ret) ∧ ∃ vs, resultV Try.prog s Try.f38.results.toList = some vs ∧ DivideIs n0 H (dv B64 xs) (dv B64 ys) (packV vs) s.H) :
    CW Try.prog cfg0 38 [va, vb] H (DivideIs n0 H (dv B64 xs) (dv B64 ys)) := by
  refine CW_intro 104 (by decide) (by decide) Try.func38 rfl rfl ?_
  obtain ⟨v1, H1, hc1, e1, e2⟩ := compare_spec ha.sl hb dx dy (by omega) (by omega)
  subst e1; subst e2
  have Bpos : 0 < dv B64 ys := Nat.lt_of_lt_of_le (Nat.pow_pos (by decide)) (normal_ge dy ty hy)
  have lenb := hb.len ltNat
  have lena := ha.sl.len ltNat
  apply W_seq; intro b1 hb1
  apply W_region
  simp
  show W _ _ b1 _ _; subst hb1
  apply W_seq; intro b1 hb1
  apply W_seq; intro b2 hb2
  apply W_region
  simp [hc1, lss0, cmpN_lt]
  show W _ _ b2 _ _; subst hb2
  by_cases hlt : dv B64 xs < dv B64 ys
  · refine W_cond (t := true) (by simp [hlt]) ?_
    apply W_seq; intro b2 hb2
    apply W_region
    simp
    show W _ _ b2 _ _; subst hb2
    apply W_ret
    simp [seqQ]
    refine ⟨.refl H1, _, _, rfl, ?_, ?_, fun c hc => by cases hc⟩
    · rw [Nat.div_eq_of_lt hlt, ds_zero]; exact .nil
    · rw [Nat.mod_eq_of_lt hlt, ← normal_ds dx tx]; exact ha
  · refine W_cond (t := false) (by simp [hlt]) ?_
    apply W_skip
    show W _ _ b1 _ _; subst hb1
    apply W_seq; intro b1 hb1
    apply W_seq; intro b2 hb2
    apply W_region
    simp [lenb]
    show W _ _ b2 _ _; subst hb2
    by_cases h1 : ys.length = 1
    · refine W_cond (t := true) (by simp [h1]) ?_
      obtain ⟨y, rfl⟩ : ∃ y, ys = [y] := by
        match ys, h1 with
        | [y], _ => exact ⟨y, rfl⟩
      have hyB : y < B64 := dy.head
      have eB : dv B64 [y] = y := by simp [dv]
      rw [eB] at Bpos hlt ⊢
      obtain ⟨q0, H2, hmk, k2, o2, n2⟩ := makeSlice_own (H := H1) ltNat (n := xs.length) (by omega)
      have hx0 : 0 < xs.length := by
        rcases Nat.eq_zero_or_pos xs.length with h | h
        · exfalso
          have : xs = [] := List.length_eq_zero_iff.mp h
          subst this
          exact hlt Bpos
        · exact h
      have w1 : intBin .sub .i64 (xs.length : Int) 1 = some (.int .i64 ((xs.length : Int) - 1)) := by
        rw [sub1_i64 (by omega) hx0]; congr 2; omega
      apply W_seq; intro b2 hb2
      apply W_region
      simp [lena, hmk]
      show W _ _ b2 _ _; subst hb2
      refine W_thenK (fun s' => s'.k = 104 ∧ Keep H1 s'.H ∧ ∃ (L : List Nat) (r : Nat), L.length = xs.length ∧ Dig B64 L ∧ r < y ∧ dv B64 xs = y * dv B64 L + r ∧ Own H1.n s'.H q0 L ∧ s'.tm.get 6 = some q0 ∧ s'.tm.get 7 = some (.int .u64 (r : Int))) ?_ ?_
      · intro Q'' hQ''
        apply W_seq; intro b2 hb2
        apply W_region
        simp [lena, w1]
        show W _ _ b2 _ _; subst hb2
        apply W_block
        refine W_loopK (fun m s' => s'.k = 104 ∧ Keep H1 s'.H ∧ m ≤ xs.length ∧ ∃ (L : List Nat) (r : Nat), L.length + m = xs.length ∧ Dig B64 L ∧ r < y ∧ dv B64 (xs.drop m) = y * dv B64 L + r ∧ Own H1.n s'.H q0 (List.replicate m 0 ++ L) ∧
          s'.tm.get 0 = some va ∧ s'.tm.get 1 = some vb ∧ s'.tm.get 6 = some q0 ∧ s'.tm.get 7 = some (.int .u64 (r : Int)) ∧ s'.tm.get 8 = some (.int .i64 ((m : Int) - 1))) ?_ xs.length _
          ⟨rfl, k2, Nat.le_refl _, [], 0, by simp, .nil _, Bpos, by simp [dv], by simpa using o2, by simp, by simp, by simp, by simp, by simp⟩
        rintro m ⟨k, tm, H3⟩ ⟨hk, k3, hm, L, r, hL, dL, hr, heq, own, t0, t1, t6, t7, t8⟩ Q' hQ'
        simp only at hk k3 own t0 t1 t6 t7 t8
        subst hk
        apply W_seq; intro b3 hb3
        apply W_seq; intro b4 hb4
        apply W_region
        have hge : intBin .geq .i64 ((m : Int) - 1) 0 = some (.bool (decide (0 < m))) := by
          show some (Value.bool (decide ((m : Int) - 1 ≥ 0))) = _
          congr 2; apply decide_eq_decide.mpr; omega
        simp [t8, hge]
        show W _ _ b4 _ _; subst hb4
        by_cases hm0 : m = 0
        · subst hm0
          refine W_cond (t := false) (by simp) ?_
          apply W_exit
          apply hQ'
          left
          exact ⟨rfl, hQ'' _ ⟨rfl, k3, L, r, by omega, dL, hr, by simpa using heq, by simpa using own, by simp [t6], by simp [t7]⟩⟩
        · refine W_cond (t := true) (by simp; omega) ?_
          apply W_skip
          show W _ _ b3 _ _; subst hb3
          have em : (m : Int) - 1 = ((m - 1 : Nat) : Int) := by omega
          rw [em] at t8
          have hi : m - 1 < xs.length := by omega
          have sa := (ha.sl.keep k3)
          have sb := (hb.keep k3)
          have a1 := sa.adr ltNat (k := .i64) hi
          have d1 := sa.top.load hi
          have a2 : indexAddrV Try.prog 24 vb (.int .i64 0) = some (adr vb 0) := sb.adr ltNat (k := .i64) (i := 0) (by simp)
          have d2 : loadV Try.prog H3.top 55 (adr vb 0) = some (.int .u64 (y : Int)) := sb.top.load (i := 0) (by simp)
          have hxB : xs[m - 1] < B64 := dx.get (List.getElem?_eq_getElem hi)
          obtain ⟨x, hxe⟩ : ∃ x, x = xs[m - 1] := ⟨_, rfl⟩
          rw [← hxe] at d1 hxB
          have dc := div64_call hr hxB hyB H3.top
          obtain ⟨q, hq⟩ : ∃ q, q = (r * B64 + x) / y := ⟨_, rfl⟩
          obtain ⟨r', hr'⟩ : ∃ r', r' = (r * B64 + x) % y := ⟨_, rfl⟩
          rw [← hq, ← hr'] at dc
          have a3 := own.sl.adr ltNat (k := .i64) (i := m - 1) (by simp; omega)
          obtain ⟨H4, st4, n4, lw4, own4, bt4, kp4⟩ := own.putTop (i := m - 1) (by simp; omega) q
          have hdrop : xs.drop (m - 1) = x :: xs.drop m := by
            rw [List.drop_eq_getElem_cons hi, show m - 1 + 1 = m by omega, ← hxe]
          apply W_seq; intro b3 hb3
          apply W_block
          apply W_rws (by kernel_rfl)
          simp [t0, t1, t6, t7, t8, a1, a2, d1, d2, dc, a3, st4, n4, lw4, isStore]
          show W _ _ b3 _ _; subst hb3
          have w2 : intBin .sub .i64 ((m - 1 : Nat) : Int) 1 = some (.int .i64 (((m - 1 : Nat) : Int) - 1)) := by
            show some (Value.int .i64 (IntKind.i64.wrap (((m - 1 : Nat) : Int) - 1))) = _
            congr 2
            rw [IntKind.wrap_i64]; omega
          apply W_region
          simp [t8, w2]
          apply hQ'
          refine ⟨m - 1, by omega, rfl, kp4 H1 k3 (Nat.le_refl _), by show m - 1 ≤ _; omega, q :: L, r', by simp; omega, .cons ?_ dL, ?_, ?_, ?_, by simp [t0], by simp [t1], by simp [t6], by simp, by simp⟩
          · rw [hq, Nat.div_lt_iff_lt_mul Bpos]
            have : (r + 1) * B64 ≤ y * B64 := Nat.mul_le_mul_right _ hr
            rw [Nat.succ_mul] at this
            rw [Nat.mul_comm B64 y]
            omega
          · rw [hr']; exact Nat.mod_lt _ Bpos
          · rw [hdrop]
            simp only [dv]
            rw [heq]
            have e := Nat.div_add_mod (r * B64 + x) y
            rw [← hq, ← hr'] at e
            rw [Nat.mul_add, Nat.mul_add, ← Nat.mul_assoc, Nat.mul_comm B64 y, Nat.mul_assoc]
            rw [Nat.mul_comm r B64] at e
            omega
          · have hrep : List.replicate m 0 ++ L = List.replicate (m - 1) 0 ++ 0 :: L := by
              obtain ⟨m', rfl⟩ : ∃ m', m = m' + 1 := ⟨m - 1, by omega⟩
              rw [List.replicate_succ']; simp
            rw [hrep, set_mid _ _ _ _ (by simp)] at own4
            exact own4
      rintro ⟨k, tm, H3⟩ ⟨hk, k3, L, r, hL, dL, hr, heq, own, t6, t7⟩
      simp only at hk k3 own t6 t7
      subst hk
      obtain ⟨v4, H4, hc4, k4, o4⟩ := norm_spec own.sl (by omega)
      obtain ⟨v5, H5, hc5, k5, o5⟩ := from_spec (x := r) (H := H4) (by omega)
      apply W_seq; intro b hb
      apply W_region
      simp [t6, t7, hc4, hc5]
      show W _ _ b _ _; subst hb
      apply W_ret
      simp [seqQ]
      have hdiv : dv B64 xs / y = dv B64 L := by
        rw [heq, Nat.mul_add_div Bpos, Nat.div_eq_of_lt hr, Nat.add_zero]
      have hmod : dv B64 xs % y = r := by
        rw [heq, Nat.mul_add_mod, Nat.mod_eq_of_lt hr]
      rw [trimL_ds two64 dL] at o4
      refine ⟨(k3.trans k4).trans k5, v4, v5, rfl, ?_, ?_, apart_own o4 o5 (Nat.le_refl _)⟩
      · rw [hdiv]; exact o4.mono k3.n k5
      · rw [hmod]; exact o5.mono (Nat.le_trans hn0 (k3.trans k4).n) (.refl H5)
    · refine W_cond (t := false) (by simp; omega) ?_
      apply W_skip
      show W _ _ b1 _ _; subst hb1
      exact rest _ (by simp) (by simp) (by omega) (Nat.le_of_not_lt hlt)
end
end Go.Proofs.Ytldapilhmmbjhaa
