/-
  The engine and the walks that the claim's last text leans on, part 5 of 5: Back, Common, Kept, Args.
-/
import Derived.Test.YtldapilhmmbjhaaM4
import Derived.Test.YtldapilhmmbjhaaM2
import Derived.Carry
import Derived.Deep.Slices
import Derived.JoinedCond

/-
  surdlaw03.DivBack: the walk.
-/
namespace Go.Proofs.Ytldapilhmmbjhaa
open Go Ev
set_option linter.unusedVariables false
set_option linter.unusedSimpArgs false
noncomputable section

theorem blen_mono {n m : Nat} (h : n ≤ m) : blen n ≤ blen m := by
  rcases Nat.eq_zero_or_pos n with h0 | h0
  · subst h0; exact Nat.zero_le _
  · have h1 := blen_ge (n := n) (by omega)
    have h2 := blen_lt m
    have := (Nat.pow_lt_pow_iff_right (a := 2) (by decide)).mp (Nat.lt_of_le_of_lt (Nat.le_trans h1 h) h2)
    omega

theorem blen_mul_le (A B : Nat) : blen (A * B) ≤ blen A + blen B := by
  rcases Nat.eq_zero_or_pos (A * B) with h0 | h0
  · rw [h0]; exact Nat.zero_le _
  · have h1 := blen_lt A
    have h2 := blen_lt B
    have h3 : A * B < 2 ^ (blen A + blen B) := by rw [Nat.pow_add]; exact Nat.mul_lt_mul'' h1 h2
    have h4 := blen_ge (n := A * B) (by omega)
    have := (Nat.pow_lt_pow_iff_right (a := 2) (by decide)).mp (Nat.lt_of_le_of_lt h4 h3)
    omega

theorem MulIs.ok {n0 N : Nat} {v : Value} {H' : AH} (h : MulIs n0 N v H') (hb : blen N ≤ 67108864) : ∃ u, v = .tuple #[u, .int .i64 0] ∧ Own n0 H' u (ds B64 N) := by
  rcases h with ⟨h, _⟩ | ⟨_, h⟩
  · omega
  · exact h

theorem ds64_blen {N L : Nat} (h : blen N ≤ 64 * L) : (ds B64 N).length ≤ L := by
  refine ds_len_le two64 ?_
  have h1 := blen_lt N
  have h2 : 2 ^ blen N ≤ 2 ^ (64 * L) := Nat.pow_le_pow_right (by decide) h
  rw [Nat.pow_mul] at h2
  exact Nat.lt_of_lt_of_le h1 h2

theorem lengthx_call {H : AH} {v : Value} {xs : List Nat} (h : Sl H v xs) (dx : Dig B64 xs) (lx : xs.length ≤ Lim) : callI Try.prog cfg0 31 [v] H = some (.int .i64 (blen (dv B64 xs) : Int), H) := by
  obtain ⟨_, _, hc, rfl, rfl⟩ := length_spec h dx (Nat.le_trans lx (by decide))
  exact hc

theorem cmp_eq {H : AH} {v w : Value} {xs ys : List Nat} {A : Nat} (hv : Sl H v xs) (hw : Sl H w ys) (dx : Dig B64 xs) (dy : Dig B64 ys) (lx : xs.length ≤ Lim) (ly : ys.length ≤ Lim) (e1 : dv B64 xs = A) (e2 : dv B64 ys = A) :
    callI Try.prog cfg0 33 [v, w] H = some (.int .i64 0, H) := by
  have := cmp_call hv hw dx dy lx ly
  rw [e1, e2, show cmpN A A = 0 by simp [cmpN]] at this
  exact this

attribute [-simp] Int.natCast_add Int.natCast_mul Int.natCast_ediv Int.natCast_emod Int.natCast_pow
attribute [local simp] strip stripL LW' LR gW evOp oMove oAssign oPick oBinOp oUnOp oConvert oExtract oIndexAddr oIndex oLoad oStore oSlice oMakeSlice oCall oBuildSlice opd opds optOpd plain plain1 Tr.get_set tmOf builtinV binV isShift sameKind undef resultV resOne packV ltNat ltNum ltLst calleeV parts lss_nat unV DW grdOf heapOp LX isStore

set_option maxHeartbeats 1000000 in
theorem divBack_spec {H : AH} {va vb : Value} {xs ys : List Nat} (ha : Sl H va xs) (hb : Sl H vb ys) (dx : Dig B64 xs) (dy : Dig B64 ys) (lx : xs.length ≤ 1048576) (ly : ys.length ≤ 1048576) :
    CW Try.prog cfg0 8 [va, vb] H fun v H' => Keep H H' ∧ v = .bool true := by
  have hLim : Lim = 2000000000000 := rfl
  refine CW_intro 73 (by decide) (by decide) Try.func8 rfl rfl ?_
  have c1 := lengthx_call ha dx (by omega)
  have c2 := lengthx_call hb dy (by omega)
  apply W_seq; intro b1 hb1
  apply W_region
  simp
  show W _ _ b1 _ _; subst hb1
  apply W_seq; intro b1 hb1
  apply W_seq; intro b2 hb2
  apply W_region
  have big : ∀ tm : Tr Value, tm.get 19 = some (.bool true) → W Try.prog cfg0 b2 ⟨73, tm, H⟩ (seqQ Try.prog cfg0 b1 fun ex s => (ex = .norm ∨ ex = .ret) ∧ ∃ vs, resultV Try.prog s [.tmp 4] = some vs ∧ Keep H s.H ∧ packV vs = .bool true) := fun tm t19 => by
    obtain ⟨H', cl, kl⟩ := lives_call H
    subst hb2
    refine W_cond (t := true) (by simp [t19]) ?_
    apply W_seq; intro b2 hb2
    apply W_region
    simp [cl]
    show W _ _ b2 _ _; subst hb2
    apply W_ret
    simp [seqQ]
    exact kl
  by_cases hA : 67108864 < blen (dv B64 xs)
  · simp [c1, gtrMax, hA]
    show W _ _ b2 _ _
    exact big _ (by simp)
  · by_cases hB : 67108864 < blen (dv B64 ys)
    · simp [c1, c2, gtrMax, hA, hB]
      show W _ _ b2 _ _
      exact big _ (by simp)
    · simp [c1, c2, gtrMax, hA, hB]
      show W _ _ b2 _ _; subst hb2
      refine W_cond (t := false) (by simp) ?_
      apply W_skip
      show W _ _ b1 _ _; subst hb1
      obtain ⟨v3, H3, c3, k3, h3⟩ := both_spec ha hb dx dy (by omega) (by omega)
      have c4 := lengthx_call (hb.keep k3) dy (by omega)
      rcases h3 with ⟨hB0, rfl⟩ | ⟨hB0, hbig, _⟩ | ⟨hB0, hq, hr, q, r, rfl, oq, orr, _⟩
      · obtain ⟨H4, c5, k5⟩ := lives_call H3
        rw [hB0] at c4
        have c4 : callI Try.prog cfg0 31 [vb] H3 = some (.int .i64 0, H3) := c4
        have f0 : intBin .eql .i64 0 0 = some (.bool true) := rfl
        have f30 : intBin .eql .i64 30 30 = some (.bool true) := rfl
        apply W_seq; intro b1 hb1
        apply W_region
        simp [c3]
        show W _ _ b1 _ _; subst hb1
        apply W_seq; intro b1 hb1
        apply W_seq; intro b2 hb2
        apply W_region
        simp [c4, f0]
        show W _ _ b2 _ _; subst hb2
        refine W_cond (t := true) (by simp) ?_
        apply W_seq; intro b2 hb2
        apply W_region
        simp [f30, c5]
        show W _ _ b2 _ _; subst hb2
        apply W_ret
        simp [seqQ]
        exact k3.trans k5
      · exfalso
        have h1 := blen_mono (Nat.div_le_self (dv B64 xs) (dv B64 ys))
        have h2 := blen_mono (Nat.mod_le (dv B64 xs) (dv B64 ys))
        omega
      · have dA := Nat.div_add_mod (dv B64 xs) (dv B64 ys)
        have mlt := Nat.mod_lt (dv B64 xs) hB0
        have lA := Nat.le_trans (ds64_len dx) lx
        have lq : (ds B64 (dv B64 xs / dv B64 ys)).length ≤ 1048576 := Nat.le_trans (ds_len_mono two64 (Nat.div_le_self _ _)) lA
        have lr : (ds B64 (dv B64 xs % dv B64 ys)).length ≤ 1048576 := Nat.le_trans (ds_len_mono two64 (Nat.mod_le _ _)) lA
        obtain ⟨v5, H5, c5, k5, h5⟩ := mul_spec oq.sl (hb.keep k3) (ds_dig two64 _) dy (by omega) (by omega)
        rw [dv_ds two64] at h5
        have hqB : dv B64 xs / dv B64 ys * dv B64 ys ≤ dv B64 xs := Nat.div_mul_le_self _ _
        obtain ⟨p, rfl, op⟩ := h5.ok (by have := blen_mono hqB; omega)
        have lp : (ds B64 (dv B64 xs / dv B64 ys * dv B64 ys)).length ≤ 1048576 := Nat.le_trans (ds_len_mono two64 hqB) lA
        obtain ⟨v6, H6, c6, k6, h6⟩ := natAdd_spec op.sl (orr.sl.keep k5) (ds_dig two64 _) (ds_dig two64 _) (by omega) (by omega)
        rw [dv_ds two64, dv_ds two64, Nat.mul_comm, dA] at h6
        obtain ⟨s, rfl, os⟩ := h6.ok (by omega)
        have k36 := k5.trans k6
        have c7 := cmp_eq os.sl ((ha.keep k3).keep k36) (ds_dig two64 _) dx (by omega) (by omega) (dv_ds two64 _) rfl
        have c8 := cmp_call (orr.sl.keep k36) ((hb.keep k3).keep k36) (ds_dig two64 _) dy (by omega) (by omega)
        rw [dv_ds two64] at c8
        obtain ⟨H9, c9, k9⟩ := lives_call H6
        have hBn : ¬ blen (dv B64 ys) = 0 := by have := blen_pos.mpr hB0; omega
        have f0 : intBin .eql .i64 0 0 = some (.bool true) := rfl
        apply W_seq; intro b1 hb1
        apply W_region
        simp [c3]
        show W _ _ b1 _ _; subst hb1
        apply W_seq; intro b1 hb1
        apply W_seq; intro b2 hb2
        apply W_region
        simp [c4, eq0_nat, hBn]
        show W _ _ b2 _ _; subst hb2
        refine W_cond (t := false) (by simp) ?_
        apply W_skip
        show W _ _ b1 _ _; subst hb1
        apply W_seq; intro b1 hb1
        apply W_region
        simp [c5]
        show W _ _ b1 _ _; subst hb1
        apply W_seq; intro b1 hb1
        apply W_region
        simp [c6]
        show W _ _ b1 _ _; subst hb1
        apply W_seq; intro b1 hb1
        apply W_region
        simp [f0, c7, c8, lss0, cmpN_lt, mlt, c9]
        show W _ _ b1 _ _; subst hb1
        apply W_ret
        simp
        exact ((k3.trans k5).trans k6).trans k9
end
end Go.Proofs.Ytldapilhmmbjhaa

/-
  surdlaw03.DivCommon: the walk.
-/
namespace Go.Proofs.Ytldapilhmmbjhaa
open Go Ev
set_option linter.unusedVariables false
set_option linter.unusedSimpArgs false
noncomputable section

theorem gtr20 {x : Nat} : intBin .gtr .i64 (x : Int) 1048576 = some (.bool (decide (1048576 < x))) := gtr_nat (y := 1048576)

theorem divides_call {H : AH} {va vb : Value} {xs ys : List Nat} (ha : Sl H va xs) (hb : Sl H vb ys) (dx : Dig B64 xs) (dy : Dig B64 ys) (lx : xs.length ≤ Lim) (ly : ys.length ≤ Lim) (h : dv B64 xs % dv B64 ys = 0) :
    ∃ H', callI Try.prog cfg0 23 [va, vb] H = some (.bool true, H') ∧ Keep H H' := by
  obtain ⟨_, H', hc, k, rfl⟩ := divides_spec ha hb dx dy lx ly
  unfold dividesB at hc
  rw [decide_eq_true h] at hc
  exact ⟨H', hc, k⟩

theorem mod_of_dvd {a b : Nat} (h : b ∣ a) : a % b = 0 := Nat.mod_eq_zero_of_dvd h

attribute [-simp] Int.natCast_add Int.natCast_mul Int.natCast_ediv Int.natCast_emod Int.natCast_pow
attribute [local simp] strip stripL LW' LR gW evOp oMove oAssign oPick oBinOp oUnOp oConvert oExtract oIndexAddr oIndex oLoad oStore oSlice oMakeSlice oCall oBuildSlice opd opds optOpd plain plain1 Tr.get_set tmOf builtinV binV isShift sameKind undef resultV resOne packV ltNat ltNum ltLst calleeV parts lss_nat unV DW grdOf heapOp LX isStore

set_option maxHeartbeats 1000000 in
theorem divCommon_spec {H : AH} {va vb vc : Value} {xs ys zs : List Nat} (ha : Sl H va xs) (hb : Sl H vb ys) (hcc : Sl H vc zs) (dx : Dig B64 xs) (dy : Dig B64 ys) (dz : Dig B64 zs) (lx : xs.length ≤ 1048576) (ly : ys.length ≤ 1048576) (lz : zs.length ≤ 1048576) :
    CW Try.prog cfg0 7 [va, vb, vc] H fun v H' => Keep H H' ∧ v = .bool true := by
  have hLim : Lim = 2000000000000 := rfl
  refine CW_intro 106 (by decide) (by decide) Try.func7 rfl rfl ?_
  have c1 := lengthx_call ha dx (by omega)
  have c2 := lengthx_call hb dy (by omega)
  have c3 := lengthx_call hcc dz (by omega)
  apply W_seq; intro b1 hb1
  apply W_region
  simp
  show W _ _ b1 _ _; subst hb1
  apply W_seq; intro b1 hb1
  apply W_seq; intro b2 hb2
  apply W_region
  have big : ∀ tm : Tr Value, tm.get 28 = some (.bool true) → W Try.prog cfg0 b2 ⟨106, tm, H⟩ (seqQ Try.prog cfg0 b1 fun ex s => (ex = .norm ∨ ex = .ret) ∧ ∃ vs, resultV Try.prog s [.tmp 6] = some vs ∧ Keep H s.H ∧ packV vs = .bool true) := fun tm t28 => by
    obtain ⟨H', cl, kl⟩ := lives_call H
    subst hb2
    refine W_cond (t := true) (by simp [t28]) ?_
    apply W_seq; intro b2 hb2
    apply W_region
    simp [cl]
    show W _ _ b2 _ _; subst hb2
    apply W_ret
    simp [seqQ]
    exact kl
  by_cases hA : 1048576 < blen (dv B64 xs)
  · simp [c1, gtr20, hA]
    show W _ _ b2 _ _
    exact big _ (by simp)
  · by_cases hB : 1048576 < blen (dv B64 ys)
    · simp [c1, c2, gtr20, hA, hB]
      show W _ _ b2 _ _
      exact big _ (by simp)
    · by_cases hC : 1048576 < blen (dv B64 zs)
      · simp [c1, c2, c3, gtr20, hA, hB, hC]
        show W _ _ b2 _ _
        exact big _ (by simp)
      · simp [c1, c2, c3, gtr20, hA, hB, hC]
        show W _ _ b2 _ _; subst hb2
        refine W_cond (t := false) (by simp) ?_
        apply W_skip
        show W _ _ b1 _ _; subst hb1
        obtain ⟨v4, H4, c4, k4, h4⟩ := mul_spec ha hcc dx dz (by omega) (by omega)
        have bAC := blen_mul_le (dv B64 xs) (dv B64 zs)
        have bBC := blen_mul_le (dv B64 ys) (dv B64 zs)
        have bAB := blen_mul_le (dv B64 xs) (dv B64 ys)
        obtain ⟨x, rfl, ox⟩ := h4.ok (by omega)
        obtain ⟨v5, H5, c5, k5, h5⟩ := mul_spec (hb.keep k4) (hcc.keep k4) dy dz (by omega) (by omega)
        obtain ⟨y, rfl, oy⟩ := h5.ok (by omega)
        have lX : (ds B64 (dv B64 xs * dv B64 zs)).length ≤ 32768 := ds64_blen (by omega)
        have lY : (ds B64 (dv B64 ys * dv B64 zs)).length ≤ 32768 := ds64_blen (by omega)
        have sx5 := ox.sl.keep k5
        obtain ⟨g, H6, c6, k6, og⟩ := gcd_spec sx5 oy.sl (ds_dig two64 _) (ds_dig two64 _) (by omega) (by omega)
        rw [dv_ds two64, dv_ds two64] at og
        have sx6 := sx5.keep k6
        have sy6 := oy.sl.keep k6
        have lg : (ds B64 (Nat.gcd (dv B64 xs * dv B64 zs) (dv B64 ys * dv B64 zs))).length ≤ 32768 := by
          rcases Nat.eq_zero_or_pos (dv B64 xs * dv B64 zs) with h | h
          · rw [h, Nat.gcd_zero_left]; exact lY
          · exact Nat.le_trans (ds_len_mono two64 (Nat.gcd_le_left _ h)) lX
        obtain ⟨H7, c7, k7⟩ := divides_call sx6 og.sl (ds_dig two64 _) (ds_dig two64 _) (by omega) (by omega) (by rw [dv_ds two64, dv_ds two64]; exact mod_of_dvd (Nat.gcd_dvd_left _ _))
        obtain ⟨H8, c8, k8⟩ := divides_call (sy6.keep k7) (og.sl.keep k7) (ds_dig two64 _) (ds_dig two64 _) (by omega) (by omega) (by rw [dv_ds two64, dv_ds two64]; exact mod_of_dvd (Nat.gcd_dvd_right _ _))
        have k48 := (((k4.trans k5).trans k6).trans k7).trans k8
        obtain ⟨H9, c9, k9⟩ := divides_call (og.sl.keep (k7.trans k8)) (hcc.keep k48) (ds_dig two64 _) dz (by omega) (by omega) (by rw [dv_ds two64]; exact mod_of_dvd (Nat.dvd_gcd (Nat.dvd_mul_left _ _) (Nat.dvd_mul_left _ _)))
        have k49 := k48.trans k9
        obtain ⟨v10, H10, c10, k10, h10⟩ := lcm_spec (ha.keep k49) (hb.keep k49) dx dy (by omega) (by omega)
        have hle : dv B64 xs / Nat.gcd (dv B64 xs) (dv B64 ys) * dv B64 ys ≤ dv B64 xs * dv B64 ys := Nat.mul_le_mul_right _ (Nat.div_le_self _ _)
        have bL := blen_mono hle
        obtain ⟨l, rfl, ol⟩ := h10.ok (by omega)
        have k410 := k49.trans k10
        obtain ⟨g2, H11, c11, k11, og2⟩ := gcd_spec (ha.keep k410) (hb.keep k410) dx dy (by omega) (by omega)
        have lg2 : (ds B64 (Nat.gcd (dv B64 xs) (dv B64 ys))).length ≤ 1048576 := by
          rcases Nat.eq_zero_or_pos (dv B64 xs) with h | h
          · rw [h, Nat.gcd_zero_left]; exact Nat.le_trans (ds64_len dy) ly
          · exact Nat.le_trans (ds_len_mono two64 (Nat.gcd_le_left _ h)) (Nat.le_trans (ds64_len dx) lx)
        have lL : (ds B64 (dv B64 xs / Nat.gcd (dv B64 xs) (dv B64 ys) * dv B64 ys)).length ≤ 32768 := ds64_blen (by omega)
        obtain ⟨v12, H12, c12, k12, h12⟩ := mul_spec (ol.sl.keep k11) og2.sl (ds_dig two64 _) (ds_dig two64 _) (by omega) (by omega)
        rw [dv_ds two64, dv_ds two64] at h12
        have hprod : dv B64 xs / Nat.gcd (dv B64 xs) (dv B64 ys) * dv B64 ys * Nat.gcd (dv B64 xs) (dv B64 ys) = dv B64 xs * dv B64 ys := by
          rw [Nat.mul_right_comm, Nat.div_mul_cancel (Nat.gcd_dvd_left _ _)]
        rw [hprod] at h12
        obtain ⟨p, rfl, op⟩ := h12.ok (by omega)
        have k412 := (k410.trans k11).trans k12
        obtain ⟨v13, H13, c13, k13, h13⟩ := mul_spec (ha.keep k412) (hb.keep k412) dx dy (by omega) (by omega)
        obtain ⟨q, rfl, oq⟩ := h13.ok (by omega)
        have lQ : (ds B64 (dv B64 xs * dv B64 ys)).length ≤ 32768 := ds64_blen (by omega)
        have c14 := cmp_eq (op.sl.keep k13) oq.sl (ds_dig two64 _) (ds_dig two64 _) (by omega) (by omega) (dv_ds two64 _) (dv_ds two64 _)
        obtain ⟨H15, c15, k15⟩ := lives_call H13
        have f0 : intBin .eql .i64 0 0 = some (.bool true) := rfl
        have f1 : intBin .neq .i64 0 0 = some (.bool false) := rfl
        apply W_seq; intro b1 hb1
        apply W_region
        simp [c4]
        show W _ _ b1 _ _; subst hb1
        apply W_seq; intro b1 hb1
        apply W_region
        simp [c5]
        show W _ _ b1 _ _; subst hb1
        apply W_seq; intro b1 hb1
        apply W_seq; intro b2 hb2
        apply W_region
        simp [f1]
        show W _ _ b2 _ _; subst hb2
        refine W_cond (t := false) (by simp) ?_
        apply W_skip
        show W _ _ b1 _ _; subst hb1
        apply W_seq; intro b1 hb1
        apply W_region
        simp [c6]
        show W _ _ b1 _ _; subst hb1
        apply W_seq; intro b1 hb1
        apply W_seq; intro b2 hb2
        apply W_region
        simp [c7, c8, c9]
        show W _ _ b2 _ _; subst hb2
        refine W_cond (t := false) (by simp) ?_
        apply W_skip
        show W _ _ b1 _ _; subst hb1
        apply W_seq; intro b1 hb1
        apply W_region
        simp [c10]
        show W _ _ b1 _ _; subst hb1
        apply W_seq; intro b1 hb1
        apply W_region
        simp [c11, c12]
        show W _ _ b1 _ _; subst hb1
        apply W_seq; intro b1 hb1
        apply W_region
        simp [c13]
        show W _ _ b1 _ _; subst hb1
        apply W_seq; intro b1 hb1
        apply W_region
        simp [f0, c14, c15]
        show W _ _ b1 _ _; subst hb1
        apply W_ret
        simp
        exact (k412.trans k13).trans k15
end
end Go.Proofs.Ytldapilhmmbjhaa

/-
  ARGUMENTS BEHIND A CALL that wrote nothing that lay there before: each reads as it read.
-/
namespace Go.Proofs.Ytldapilhmmbjhaa
open Go.ChangeShapes Go.WideShapes Go.ChangeAt Go.RowKit Go.Proofs.Ytldapilhmmbjhaa.Ev
set_option linter.unusedVariables false

theorem laidOut : laidOutB Try.prog = true := by kernel_rfl

theorem args_kept {P : Program} (hl : laidOutB P = true) {H : Type} {enc : TypeId × Value → H} {W W' : World} (hb : Below W.heap.size W W') : ∀ (ts : List TypeId) (vs : List Value) (ds : List (DataW H)) (ps : List MemPlace),
    (ts.all fun t => P.readableRec t && decide (t < P.types.size)) = true → DataW.TrodAll enc P W 0 (fun _ => true) true ts vs ds ps → (∀ x ∈ ps, x.block < W.heap.size) →
    DataW.TrodAll enc P W' 0 (fun b => decide (b < W.heap.size)) true ts vs ds ps
  | [], [], [], _, _, h, _ => h
  | t :: ts, v :: vs, d :: ds, _, ht, ⟨p, q, h1, h2, e⟩, hlt => by
    subst e
    rw [List.all_cons, Bool.and_eq_true, Bool.and_eq_true] at ht
    exact ⟨p, q, Below.trod hl ht.1.1 (of_decide_eq_true ht.1.2) h1 hb (fun x hx => hlt x (List.mem_append_left _ hx)),
      args_kept hl hb ts vs ds q ht.2 h2 (fun x hx => hlt x (List.mem_append_right _ hx)), rfl⟩

end Go.Proofs.Ytldapilhmmbjhaa

/-
  LISTS OF LIMBS AS ARGUMENTS: what the reading of one says; the abstract heap that holds it (read-only).
-/
namespace Go.Proofs.Ytldapilhmmbjhaa
open Go Go.ChangeShapes Go.WideShapes Go.RowKit Go.Proofs.Ytldapilhmmbjhaa.Ev
set_option linter.unusedVariables false
noncomputable section

theorem bulk_one {H : Type} (d : DataW H) : 1 ≤ Rows.uptoBulk d := by
  cases d with
  | lit l => cases l <;> simp [Rows.uptoBulk]
  | nil => simp [Rows.uptoBulk]
  | ptr d => simp [Rows.uptoBulk]
  | slice elems spare => simp [Rows.uptoBulk]
  | agg parts => simp [Rows.uptoBulk]
  | iface t d => simp [Rows.uptoBulk]
  | map entries => simp [Rows.uptoBulk]
  | held h => simp [Rows.uptoBulk]

theorem bulk_len {H : Type} (l : List (DataW H)) : l.length ≤ Rows.uptoBulkAll l := by
  induction l with
  | nil => simp [Rows.uptoBulkAll]
  | cons x r ih => have := bulk_one x; simp only [Rows.uptoBulkAll, List.length_cons]; omega

theorem bulk_slice {H : Type} (elems spare : List (DataW H)) : elems.length ≤ Rows.uptoBulk (.slice elems spare) := by
  have h1 := bulk_len elems
  simp only [Rows.uptoBulk]
  omega

theorem bulk_part {H : Type} {d : DataW H} {l : List (DataW H)} (h : d ∈ l) : Rows.uptoBulk d ≤ Rows.uptoBulkAll l := by
  induction l with
  | nil => cases h
  | cons x r ih =>
    simp only [Rows.uptoBulkAll]
    cases List.mem_cons.1 h with
    | inl e => subst e; omega
    | inr e => have := ih e; omega

theorem bulk_bound {H : Type} {l : List (DataW H)} (hk : Rows.uptoSmall H l = true) : Rows.uptoBulkAll l ≤ 1048576 := of_decide_eq_true hk

/-- What lies behind an argument's slice. -/
def ArgIs (W : World) (v : Value) (xs : List Nat) : Prop :=
  (v = .slice none 0 0 ∧ xs = []) ∨ ∃ (a : Addr) (cap : Nat), v = .slice (some a) xs.length cap ∧ xs.length ≤ cap ∧ ∀ (i x : Nat), xs[i]? = some x → W.cell? (a.add i) = some (.int .u64 (x : Int))

theorem cU64 : Try.prog.cellsOf 55 = 1 := by kernel_rfl

theorem open_limbs {H : Type} {enc : TypeId × Value → H} {W : World} {r : Reach} {b0 : Nat} {t : TypeId} {v : Value} {d : DataW H} {ps : List MemPlace} (ht : Try.prog.underlying t = some (.slice 55)) (hval : Value.okWide Try.prog W r b0 t v)
    (h : DataW.Trod enc Try.prog W 0 (fun _ => true) true t v d ps) : ∃ xs, Dig 18446744073709551616 xs ∧ xs.length ≤ Rows.uptoBulk d ∧ ArgIs W v xs := by
  obtain ⟨fuel, hf⟩ := h
  obtain ⟨a, len, cap, rfl⟩ := okWide_slice ht hval
  have hc : (Value.slice a len cap).cells.toList = [.slice a len cap] := rfl
  rw [hc] at hf
  rcases Deep.open_slice1 ht cU64 hf with ⟨h1, h2⟩ | ⟨a', len', cap', m, n, V, D, Pl, h1, _, hl, _, hm, hx, hV⟩
  · cases h1
    exact ⟨[], .nil _, Nat.zero_le _, .inl ⟨rfl, rfl⟩⟩
  · cases h1
    rw [if_pos rfl] at hm
    rw [hm] at hx hV
    have hval : ∀ i, i < cap → ∃ x : Nat, V i = .int .u64 (x : Int) ∧ x < 18446744073709551616 := fun i hi => by
      obtain ⟨n', c', x', w'⟩ := DataW.trod_int Try.underlying55 (hV i hi).2
      simp at c'
      simp only [Lit.wf, Bool.and_eq_true, decide_eq_true_eq] at w'
      have e1 : IntKind.u64.min = 0 := by decide
      have e2 : IntKind.u64.max = 18446744073709551615 := by decide
      exact ⟨n'.toNat, by rw [c']; congr 1; omega, by omega⟩
    let f : Nat → Nat := fun i => match V i with | .int _ z => z.toNat | _ => 0
    have hfe : ∀ i, i < cap → V i = .int .u64 ((f i : Nat) : Int) ∧ f i < 18446744073709551616 := fun i hi => by
      obtain ⟨x, h1, h2⟩ := hval i hi
      have : f i = x := by show (match V i with | .int _ z => z.toNat | _ => 0) = x; rw [h1]; simp
      rw [this]; exact ⟨h1, h2⟩
    refine ⟨(List.range len).map f, ?_, ?_, .inr ⟨a', cap, by simp, by simpa using hl, ?_⟩⟩
    · intro x hx
      obtain ⟨i, hi, rfl⟩ := List.mem_map.mp hx
      exact (hfe i (Nat.lt_of_lt_of_le (List.mem_range.mp hi) hl)).2
    · simp only [Prod.mk.injEq] at hx
      rw [hx.1]
      have := bulk_slice ((List.range len).map D) ((List.range (cap - len)).map fun j => D (len + j))
      simpa using this
    · intro i x hi
      rw [List.getElem?_map] at hi
      by_cases hil : i < len
      · rw [List.getElem?_range hil] at hi
        cases hi
        have hic : i < cap := Nat.lt_of_lt_of_le hil hl
        rw [(hV i hic).1, (hfe i hic).1]
      · rw [List.getElem?_eq_none (by simp; omega)] at hi
        cases hi

/-- One argument more in the abstract heap. -/
theorem add_arg {W : World} {S : Nat → Prop} {L : Nat → Ev.Loc} {H : AH} (hI : Inv W.heap.size S L H W) {v : Value} {xs : List Nat} (h : ArgIs W v xs) :
    ∃ (S' : Nat → Prop) (L' : Nat → Ev.Loc) (H' : AH) (v0 : Value), Inv W.heap.size S' L' H' W ∧ (∀ i, S i → S' i) ∧ (∀ i, S i → L' i = L i) ∧ VR S' L' v0 v ∧ Sl H' v0 xs ∧ Keep H H' := by
  rcases h with ⟨rfl, rfl⟩ | ⟨a, cap, rfl, hcap, hc⟩
  · exact ⟨S, L, H, .slice none 0 0, hI, fun _ h => h, fun _ _ => rfl, .nilSlice, .nil, .refl H⟩
  · by_cases h0 : xs.length = 0
    · obtain rfl : xs = [] := List.length_eq_zero_iff.mp h0
      exact ⟨S, L, H, _, hI, fun _ h => h, fun _ _ => rfl, .emp 0 a cap, .emp 0, .refl H⟩
    · have hx0 := hc 0 xs[0] (List.getElem?_eq_getElem (by omega))
      have ea : a.add 0 = a := rfl
      rw [ea] at hx0
      have hspot : a.spot = none := by
        unfold World.cell? at hx0
        cases hs : a.spot with
        | none => rfl
        | some q =>
          rw [hs] at hx0
          split at hx0
          · simp at hx0
          · cases hx0
      have hblk : a.block < W.heap.size := World.block_lt_of_cell? W a hx0
      have hadd : ∀ k, a.add k = ⟨a.block, a.off + k, none⟩ := fun k => by
        unfold Addr.add
        by_cases hk : k = 0
        · subst hk; rw [if_pos rfl]
          cases a with
          | mk b o s => simp at hspot; subst hspot; rfl
        · rw [if_neg hk]
      have hn : ∀ i, S i → i ≠ H.n := fun i hi e => by have := hI.bd i hi; omega
      let L' : Nat → Ev.Loc := fun i => if i = H.n then ⟨a.block, a.off, 1, a.off + cap⟩ else L i
      let S' : Nat → Prop := fun i => i = H.n ∨ S i
      have hL : ∀ i, S i → L' i = L i := fun i hi => if_neg (hn i hi)
      have hLn : L' H.n = ⟨a.block, a.off, 1, a.off + cap⟩ := if_pos rfl
      let H' : AH := { n := H.n + 1, lw := H.lw, t := H.t.set H.n (.ro 1 (xs.map fun x : Nat => Value.int .u64 (x : Int))) }
      have hb : ∀ j, H'.blk j = if j = H.n then .ro 1 (xs.map fun x : Nat => Value.int .u64 (x : Int)) else H.blk j := fun j => by
        show (match (H.t.set H.n _).get j with | some b => b | none => Blk.dead) = _
        rw [Tr.get_set]
        by_cases e : j = H.n
        · rw [if_pos e, if_pos e]
        · rw [if_neg e, if_neg e]; rfl
      refine ⟨S', L', H', .slice (some ⟨H.n, 0, none⟩) xs.length xs.length, ⟨?_, ?_, ?_, ?_, hI.base⟩, fun i hi => .inr hi, hL, ?_, ?_, ?_⟩
      · intro i sz cs hi
        rw [hb] at hi
        by_cases e : i = H.n
        · rw [if_pos e] at hi
          cases hi
          subst e
          rw [hLn]
          refine ⟨.inl rfl, hblk, rfl, fun k v hk => ?_⟩
          rw [List.getElem?_map] at hk
          cases hxk : xs[k]? with
          | none => rw [hxk] at hk; cases hk
          | some x =>
            rw [hxk] at hk
            cases hk
            refine ⟨.int .u64 (x : Int), ?_, .int _ _⟩
            have := hc k x hxk
            rwa [hadd k] at this
        · rw [if_neg e] at hi
          obtain ⟨h1, h2, h3, h4⟩ := hI.ro i sz cs hi
          rw [hL i h1]
          refine ⟨.inr h1, h2, h3, fun k v hk => ?_⟩
          obtain ⟨v', h5, h6⟩ := h4 k v hk
          exact ⟨v', h5, h6.mono (fun _ h => .inr h) hL⟩
      · intro i sz cs hi
        rw [hb] at hi
        by_cases e : i = H.n
        · rw [if_pos e] at hi; cases hi
        · rw [if_neg e] at hi
          obtain ⟨h1, h2, h3, C, e', h4, h5, h6⟩ := hI.rw i sz cs hi
          rw [hL i h1]
          refine ⟨.inr h1, h2, h3, C, e', h4, h5, fun k v hk => ?_⟩
          obtain ⟨v', h7, h8⟩ := h6 k v hk
          exact ⟨v', h7, h8.mono (fun _ h => .inr h) hL⟩
      · intro i j sz cs sz' cs' hi hj hg
        rw [hb] at hi hj
        by_cases e : i = H.n
        · rw [if_pos e] at hi; cases hi
        · by_cases e2 : j = H.n
          · rw [if_pos e2] at hj; cases hj
          · rw [if_neg e] at hi
            rw [if_neg e2] at hj
            rw [hL i (hI.rw i _ _ hi).1, hL j (hI.rw j _ _ hj).1] at hg
            exact hI.dj i j _ _ _ _ hi hj hg
      · intro i hi
        rcases hi with hi | hi
        · subst hi; exact Nat.lt_succ_self _
        · exact Nat.lt_succ_of_lt (hI.bd i hi)
      · have hv := VR.slice (S := S') (L := L') H.n 0 xs.length xs.length cap (.inl rfl) hcap (Nat.le_refl _) (by rw [hLn]; simp)
        rw [hLn] at hv
        have e : (some (⟨a.block, a.off + 0, none⟩ : Addr)) = some a := by
          congr 1
          cases a with
          | mk b o s => simp at hspot; subst hspot; rfl
        rw [e] at hv
        exact hv
      · refine .mk H.n 0 xs.length xs (Nat.le_refl _) ⟨Nat.lt_succ_self _, xs.map fun x : Nat => Value.int .u64 (x : Int), ?_, ?_, fun i x hx => ?_, Nat.zero_le _⟩
        · unfold AH.cells; rw [hb, if_pos rfl]
        · unfold AH.size; rw [hb, if_pos rfl]
        · rw [Nat.zero_add, List.getElem?_map, hx]; rfl
      · exact ⟨Nat.le_succ _, Nat.min_le_left _ _, fun j hj => by rw [hb, if_neg (by omega)]⟩

/-- A law over two lists of limbs, on the machine. -/
theorem calls2 {f : Nat} {fn : Func} (hf : Try.prog.funcs[f]? = some fn) (hb : fn.body.isSome = true) {W : World} {v v' : Value} {xs ys : List Nat} (h1 : ArgIs W v xs) (h2 : ArgIs W v' ys)
    (hrun : ∀ (H : AH) (va vb : Value), Sl H va xs → Sl H vb ys → ∃ H', callI Try.prog cfg0 f [va, vb] H = some (.bool true, H')) :
    Calls Try.prog f #[v, v'] W fun e w' => e = .returned (.bool true) ∧ Below W.heap.size W w' := by
  obtain ⟨S1, L1, H1, v1, I1, s1, l1, r1, q1, k1⟩ := add_arg (noHeap_inv W) h1
  obtain ⟨S2, L2, H2, v2, I2, s2, l2, r2, q2, k2⟩ := add_arg I1 h2
  obtain ⟨H', hc⟩ := hrun H2 v1 v2 (q1.keep k2) q2
  obtain ⟨n, hr⟩ := callI_run hc
  have := run_calls (cfg_ok 0) hr hf hb (fun g hg => absurd hg (Nat.not_lt_zero g)) I2 (args' := [v, v']) (.cons (r1.mono s2 l2) (.cons r2 .nil))
  refine this.mono fun e w' ⟨v', he, hg⟩ => ?_
  have hbel := hg.below I2
  obtain ⟨L', _, _, hv⟩ := hg
  cases hv
  exact ⟨he, hbel⟩

/-- A law over three lists of limbs, on the machine. -/
theorem calls3 {f : Nat} {fn : Func} (hf : Try.prog.funcs[f]? = some fn) (hb : fn.body.isSome = true) {W : World} {v v' v'' : Value} {xs ys zs : List Nat} (h1 : ArgIs W v xs) (h2 : ArgIs W v' ys) (h3 : ArgIs W v'' zs)
    (hrun : ∀ (H : AH) (va vb vc : Value), Sl H va xs → Sl H vb ys → Sl H vc zs → ∃ H', callI Try.prog cfg0 f [va, vb, vc] H = some (.bool true, H')) :
    Calls Try.prog f #[v, v', v''] W fun e w' => e = .returned (.bool true) ∧ Below W.heap.size W w' := by
  obtain ⟨S1, L1, H1, v1, I1, s1, l1, r1, q1, k1⟩ := add_arg (noHeap_inv W) h1
  obtain ⟨S2, L2, H2, v2, I2, s2, l2, r2, q2, k2⟩ := add_arg I1 h2
  obtain ⟨S3, L3, H3, v3, I3, s3, l3, r3, q3, k3⟩ := add_arg I2 h3
  obtain ⟨H', hc⟩ := hrun H3 v1 v2 v3 (q1.keep (k2.trans k3)) (q2.keep k3) q3
  obtain ⟨n, hr⟩ := callI_run hc
  have := run_calls (cfg_ok 0) hr hf hb (fun g hg => absurd hg (Nat.not_lt_zero g)) I3 (args' := [v, v', v'']) (.cons ((r1.mono s2 l2).mono s3 l3) (.cons (r2.mono s3 l3) (.cons r3 .nil)))
  refine this.mono fun e w' ⟨v', he, hg⟩ => ?_
  have hbel := hg.below I3
  obtain ⟨L', _, _, hv⟩ := hg
  cases hv
  exact ⟨he, hbel⟩
end
end Go.Proofs.Ytldapilhmmbjhaa
