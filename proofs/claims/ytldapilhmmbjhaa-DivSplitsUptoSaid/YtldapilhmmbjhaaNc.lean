/-
  nat.Compare; bits.Len64, LeadingZeros64; nat.Length, nat.From.
-/
import Derived.Test.YtldapilhmmbjhaaNb
import Derived.Test.YtldapilhmmbjhaaEvR
namespace Go.Proofs.Ytldapilhmmbjhaa
open Go Ev
set_option linter.unusedVariables false
set_option linter.unusedSimpArgs false
noncomputable section

/-- A limb's base. -/
abbrev B64 : Nat := 18446744073709551616
theorem two64 : 2 ≤ B64 := by decide

def cmpN (a b : Nat) : Int := if a < b then -1 else if b < a then 1 else 0

theorem dv_len_lt {xs ys : List Nat} (hx : trimL xs = xs) (hy : trimL ys = ys) (dx : Dig B64 xs) (dy : Dig B64 ys) (h : xs.length < ys.length) : dv B64 xs < dv B64 ys := by
  have h1 := dv_lt dx
  have e : ys = ds B64 (dv B64 ys) := by rw [← trimL_ds two64 dy, hy]
  have hne : dv B64 ys ≠ 0 := by
    intro h0
    rw [h0, ds_zero] at e
    rw [e] at h
    simp at h
  have h2 := ds_ge two64 hne
  rw [← e] at h2
  have h3 : B64 ^ xs.length ≤ B64 ^ (ys.length - 1) := Nat.pow_le_pow_right (by decide) (by omega)
  omega

attribute [local simp] strip stripL LW' gW evOp oMove oAssign oPick oBinOp oUnOp oConvert oExtract oIndexAddr oIndex oLoad oStore oSlice oMakeSlice oCall opd opds optOpd plain plain1 Tr.get_set tmOf builtinV binV isShift sameKind intBin undef resultV resOne packV ltNat ltNum ltLst calleeV

theorem compare_spec {va vb : Value} {xs ys : List Nat} {H : AH} (ha : Sl H va xs) (hb : Sl H vb ys) (dx : Dig B64 xs) (dy : Dig B64 ys) (lx : xs.length ≤ 17592186044416) (ly : ys.length ≤ 17592186044416) :
    CW Try.prog cfg0 33 [va, vb] H fun v H' => H' = H ∧ v = .int .i64 (cmpN (dv B64 xs) (dv B64 ys)) := by
  refine CW_intro 45 (by decide) (by decide) Try.func33 rfl rfl ?_
  obtain ⟨v1, H1, hc1, e1, s1⟩ := trim_spec ha (by omega)
  obtain ⟨v2, H2, hc2, e2, s2⟩ := trim_spec hb (by omega)
  subst e1; subst e2
  rw [← dv_trimL B64 xs, ← dv_trimL B64 ys]
  have tx := trimL_idem xs
  have ty := trimL_idem ys
  have dx := trimL_dig dx
  have dy := trimL_dig dy
  have lx : (trimL xs).length ≤ 17592186044416 := Nat.le_trans (trimL_len xs) lx
  have ly : (trimL ys).length ≤ 17592186044416 := Nat.le_trans (trimL_len ys) ly
  generalize trimL xs = xs at *
  generalize trimL ys = ys at *
  have l1 := s1.len ltNat
  have l2 := s2.len ltNat
  apply W_seq; intro b1 hb1
  apply W_region
  simp
  show W _ _ b1 _ _; subst hb1
  apply W_seq; intro b1 hb1
  apply W_region
  simp [hc1, hc2]
  show W _ _ b1 _ _; subst hb1
  apply W_seq; intro b1 hb1
  apply W_seq; intro b2 hb2
  apply W_region
  simp [l1, l2]
  show W _ _ b2 _ _; subst hb2
  by_cases hl : xs.length = ys.length
  · refine W_cond (t := false) (by simp [hl]) ?_
    apply W_skip
    show W _ _ b1 _ _; subst hb1
    apply W_seq; intro b1 hb1
    apply W_seq; intro b2 hb2
    have hw0 : IntKind.i64.wrap ((xs.length : Int) - 1) = (xs.length : Int) - 1 := by rw [IntKind.wrap_i64]; omega
    apply W_region
    simp [l1, hw0]
    show W _ _ b2 _ _; subst hb2
    apply W_block
    refine W_loop (fun n s => s.k = 45 ∧ s.H = H2 ∧ s.tm.get 0 = some v1 ∧ s.tm.get 1 = some v2 ∧ s.tm.get 5 = some (.int .i64 ((n : Int) - 1)) ∧ n ≤ xs.length ∧ xs.drop n = ys.drop n) ?_ xs.length _ ⟨rfl, rfl, by simp, by simp, by simp, Nat.le_refl _, by rw [List.drop_length, hl, List.drop_length]⟩
    rintro n ⟨k, tm, H'⟩ ⟨h2, h3, h4, h5, h6, h7, h8⟩
    simp only at h2 h3 h4 h5 h6
    subst h2; subst h3
    apply W_seq; intro b2 hb2
    apply W_seq; intro b3 hb3
    apply W_region
    simp [h4, h5, h6]
    show W _ _ b3 _ _; subst hb3
    have e44 : xs.drop n = ys.drop n := h8
    by_cases hz : n = 0
    · subst hz
      refine W_cond (t := false) (by simp) ?_
      apply W_exit
      left
      refine ⟨rfl, ?_⟩
      show W _ _ b1 _ _; subst hb1
      apply W_seq; intro b4 hb4
      apply W_region
      simp
      show W _ _ b4 _ _; subst hb4
      apply W_ret
      have : xs = ys := by simpa using h8
      simp [cmpN, this]
    · have e : (n : Int) - 1 = ((n - 1 : Nat) : Int) := by omega
      refine W_cond (t := true) (by simp; omega) ?_
      apply W_skip
      show W _ _ b2 _ _; subst hb2
      have i1 : n - 1 < xs.length := by omega
      have i2 : n - 1 < ys.length := by omega
      have a1 := s1.adr ltNat (k := .i64) i1
      have a2 := s2.adr ltNat (k := .i64) i2
      have d1 := s1.load i1
      have d2 := s2.load i2
      rw [e] at h6
      have sx : xs = xs.take (n - 1) ++ xs[n - 1] :: xs.drop n := by
        have := List.take_append_drop (n - 1) xs
        rw [List.drop_eq_getElem_cons i1, show n - 1 + 1 = n by omega] at this
        exact this.symm
      have sy : ys = ys.take (n - 1) ++ ys[n - 1] :: ys.drop n := by
        have := List.take_append_drop (n - 1) ys
        rw [List.drop_eq_getElem_cons i2, show n - 1 + 1 = n by omega] at this
        exact this.symm
      have ltk : (xs.take (n - 1)).length = (ys.take (n - 1)).length := by simp [List.length_take, hl]
      apply W_seq; intro b4 hb4
      apply W_block
      apply W_seq; intro b5 hb5
      apply W_seq; intro b6 hb6
      apply W_loads (by kernel_rfl)
      simp [h4, h5, h6, a1, a2, d1, d2]
      show W _ _ b6 _ _; subst hb6
      by_cases hlt : xs[n - 1] < ys[n - 1]
      · refine W_cond (t := true) (by simp; omega) ?_
        apply W_seq; intro b7 hb7
        apply W_region
        simp
        show W _ _ b7 _ _; subst hb7
        apply W_ret
        have hd : dv B64 xs < dv B64 ys := by
          rw [sx, sy, h8]
          exact dv_cmp (dx.take _) (dy.take _) ltk hlt _
        simp [seqQ, blockQ, loopQ, cmpN, hd]
      · refine W_cond (t := false) (by simp; omega) ?_
        apply W_skip
        show W _ _ b5 _ _; subst hb5
        apply W_seq; intro b6 hb6
        apply W_loads (by kernel_rfl)
        simp [h4, h5, h6, a1, a2, d1, d2]
        show W _ _ b6 _ _; subst hb6
        by_cases hgt : ys[n - 1] < xs[n - 1]
        · refine W_cond (t := true) (by simp; omega) ?_
          apply W_seq; intro b7 hb7
          apply W_region
          simp
          show W _ _ b7 _ _; subst hb7
          apply W_ret
          have hd : dv B64 ys < dv B64 xs := by
            rw [sx, sy, h8]
            exact dv_cmp (dy.take _) (dx.take _) ltk.symm hgt _
          have hd2 : ¬ dv B64 xs < dv B64 ys := by omega
          simp [seqQ, blockQ, loopQ, cmpN, hd, hd2]
        · refine W_cond (t := false) (by simp; omega) ?_
          apply W_skip
          show W _ _ b4 _ _; subst hb4
          have hw1 : IntKind.i64.wrap (((n - 1 : Nat) : Int) - 1) = ((n - 1 : Nat) : Int) - 1 := by rw [IntKind.wrap_i64]; omega
          apply W_region
          simp [h6, hw1]
          refine ⟨n - 1, by omega, rfl, rfl, ?_⟩
          simp [h4, h5]
          refine ⟨by omega, ?_⟩
          rw [List.drop_eq_getElem_cons i1, List.drop_eq_getElem_cons i2, show n - 1 + 1 = n by omega, h8]
          congr 1
          omega
  · refine W_cond (t := true) (by simp; omega) ?_
    apply W_seq; intro b2 hb2
    apply W_seq; intro b3 hb3
    apply W_region
    simp [l1, l2]
    show W _ _ b3 _ _; subst hb3
    by_cases hlt : xs.length < ys.length
    · refine W_cond (t := true) (by simp; omega) ?_
      apply W_seq; intro b3 hb3
      apply W_region
      simp
      show W _ _ b3 _ _; subst hb3
      apply W_ret
      have := dv_len_lt tx ty dx dy hlt
      simp [seqQ, cmpN, this]
    · refine W_cond (t := false) (by simp; omega) ?_
      apply W_skip
      show W _ _ b2 _ _; subst hb2
      apply W_seq; intro b2 hb2
      apply W_region
      simp
      show W _ _ b2 _ _; subst hb2
      apply W_ret
      have := dv_len_lt ty tx dy dx (by omega)
      have h2 : ¬ dv B64 xs < dv B64 ys := by omega
      simp [seqQ, cmpN, this, h2]
end
end Go.Proofs.Ytldapilhmmbjhaa
