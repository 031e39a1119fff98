/-
  bits.LeadingZeros64, Add64, Sub64; nat.Length, nat.From.
-/
import Derived.Test.YtldapilhmmbjhaaNd
namespace Go.Proofs.Ytldapilhmmbjhaa
open Go Ev
set_option linter.unusedVariables false
set_option linter.unusedSimpArgs false
noncomputable section

theorem add64_call (x y c : Nat) (H : AH) (hc : c ≤ 1) : callI Try.prog cfg0 49 [.int .u64 (x : Int), .int .u64 (y : Int), .int .u64 (c : Int)] H =
    some (.tuple #[.int .u64 (((x + y + c) % B64 : Nat) : Int), .int .u64 (((x + y + c) / B64 : Nat) : Int)], H) := by
  unfold callI evCall
  rw [show Nat.beq 49 cfg0.add = true from rfl, cond_true]
  have : natsOf [.int .u64 (x : Int), .int .u64 (y : Int), .int .u64 (c : Int)] = some (x, y, c) := by
    simp [natsOf]
    omega
  rw [this]
  rfl

theorem sub64_call (x y c : Nat) (H : AH) (hc : c ≤ 1) : callI Try.prog cfg0 75 [.int .u64 (x : Int), .int .u64 (y : Int), .int .u64 (c : Int)] H =
    some (.tuple #[.int .u64 (((x + B64 - y - c) % B64 : Nat) : Int), .int .u64 ((if x < y + c then 1 else 0 : Nat) : Int)], H) := by
  unfold callI evCall
  rw [show Nat.beq 75 cfg0.add = false from rfl, cond_false, show Nat.beq 75 cfg0.sub = true from rfl, cond_true]
  have : natsOf [.int .u64 (x : Int), .int .u64 (y : Int), .int .u64 (c : Int)] = some (x, y, c) := by
    simp [natsOf]
    omega
  rw [this]
  by_cases h : x < y + c
  · have : Nat.blt x (y + c) = true := by rw [Nat.blt_eq]; exact h
    simp only [this, cond_true, if_pos h]
    rfl
  · have : Nat.blt x (y + c) = false := by
      cases hb : Nat.blt x (y + c) with
      | false => rfl
      | true => rw [Nat.blt_eq] at hb; exact absurd hb h
    simp only [this, cond_false, if_neg h]
    rfl

attribute [local simp] strip stripL LW' gW evOp oMove oAssign oPick oBinOp oUnOp oConvert oExtract oIndexAddr oIndex oLoad oStore oSlice oMakeSlice oCall oBuildSlice opd opds optOpd plain plain1 Tr.get_set tmOf builtinV binV isShift sameKind intBin undef resultV resOne packV ltNat ltNum ltLst calleeV shiftBin parts

theorem lz_spec {x : Nat} {H : AH} (hx : x < B64) :
    CW Try.prog cfg0 57 [.int .u64 (x : Int)] H fun v H' => H' = H ∧ v = .int .i64 (64 - (blen x : Int)) := by
  refine CW_intro 6 (by decide) (by decide) Try.func57 rfl rfl ?_
  obtain ⟨v1, H1, hc1, rfl, rfl⟩ := len64_spec (H := H) hx
  have hb : blen x ≤ 64 := by
    rcases Nat.lt_or_ge 64 (blen x) with h | h
    · have h0 : x ≠ 0 := by rintro rfl; simp [blen] at h
      have a := blen_ge h0
      have b : 2 ^ 64 ≤ 2 ^ (blen x - 1) := Nat.pow_le_pow_right (by decide) (by omega)
      have hx : x < 18446744073709551616 := hx
      omega
    · exact h
  have hw : IntKind.i64.wrap (64 - (blen x : Int)) = 64 - (blen x : Int) := by rw [IntKind.wrap_i64]; omega
  apply W_seq; intro b1 hb1
  apply W_region
  simp
  show W _ _ b1 _ _; subst hb1
  apply W_seq; intro b1 hb1
  apply W_region
  simp [hc1, hw]
  show W _ _ b1 _ _; subst hb1
  apply W_ret
  simp

/-- A number's length from its digits. -/
theorem blen_dv {xs : List Nat} (dx : Dig B64 xs) (tx : trimL xs = xs) (h : 0 < xs.length) : blen (dv B64 xs) = 64 * (xs.length - 1) + blen (xs[xs.length - 1]) := by
  have hs : xs = xs.take (xs.length - 1) ++ [xs[xs.length - 1]] := by
    have := List.take_append_getElem (l := xs) (i := xs.length - 1) (by omega)
    rw [this, show xs.length - 1 + 1 = xs.length by omega, List.take_length]
  have hl : (xs.take (xs.length - 1)).length = xs.length - 1 := by rw [List.length_take]; omega
  generalize hz : xs[xs.length - 1] = z at *
  have hz0 : z ≠ 0 := by
    intro h0
    rw [h0] at hs
    have := congrArg trimL hs
    rw [trimL_snoc0, tx] at this
    have := congrArg List.length this
    have := trimL_len (xs.take (xs.length - 1))
    omega
  have e : dv B64 xs = dv B64 (xs.take (xs.length - 1)) + 2 ^ (64 * (xs.length - 1)) * z := by
    have := congrArg (dv B64) hs
    rw [this, dv_append, hl]
    simp only [dv, Nat.mul_zero, Nat.add_zero]
    rw [Nat.pow_mul]
  have hlow : dv B64 (xs.take (xs.length - 1)) < 2 ^ (64 * (xs.length - 1)) := by
    have := dv_lt (dx.take (xs.length - 1))
    rw [hl] at this
    rw [Nat.pow_mul]
    exact this
  have hge : 2 ^ (64 * (xs.length - 1)) ≤ dv B64 xs := by
    rw [e]
    have : 2 ^ (64 * (xs.length - 1)) * 1 ≤ 2 ^ (64 * (xs.length - 1)) * z := Nat.mul_le_mul_left _ (by omega)
    omega
  rw [blen_shift hge]
  congr 2
  rw [e, Nat.add_mul_div_left _ _ (Nat.two_pow_pos _), Nat.div_eq_of_lt hlow, Nat.zero_add]

theorem length_spec {v : Value} {xs : List Nat} {H : AH} (hs : Sl H v xs) (dx : Dig B64 xs) (hlen : xs.length ≤ 17592186044416) :
    CW Try.prog cfg0 31 [v] H fun v' H' => H' = H ∧ v' = .int .i64 (blen (dv B64 xs) : Int) := by
  refine CW_intro 20 (by decide) (by decide) Try.func31 rfl rfl ?_
  obtain ⟨v1, H1, hc1, e1, s1⟩ := trim_spec hs (by omega)
  subst e1
  rw [← dv_trimL B64 xs]
  have tx := trimL_idem xs
  have dx := trimL_dig dx
  have lx : (trimL xs).length ≤ 17592186044416 := Nat.le_trans (trimL_len xs) hlen
  generalize trimL xs = xs at *
  have l1 := s1.len ltNat
  apply W_seq; intro b1 hb1
  apply W_region
  simp
  show W _ _ b1 _ _; subst hb1
  apply W_seq; intro b1 hb1
  apply W_region
  simp [hc1]
  show W _ _ b1 _ _; subst hb1
  apply W_seq; intro b1 hb1
  apply W_seq; intro b2 hb2
  apply W_region
  simp [l1]
  show W _ _ b2 _ _; subst hb2
  by_cases h0 : xs.length = 0
  · obtain rfl : xs = [] := List.length_eq_zero_iff.mp h0
    refine W_cond (t := true) (by simp) ?_
    apply W_seq; intro b2 hb2
    apply W_region
    simp
    show W _ _ b2 _ _; subst hb2
    apply W_ret
    simp [seqQ, dv, blen]
  · refine W_cond (t := false) (by simp; intro h; apply h0; simp [h]) ?_
    apply W_skip
    show W _ _ b1 _ _; subst hb1
    have i1 : xs.length - 1 < xs.length := by omega
    have a1 := s1.adr ltNat (k := .i64) i1
    have d1 := s1.load i1
    have hw : IntKind.i64.wrap ((xs.length : Int) - 1) = ((xs.length - 1 : Nat) : Int) := wrap_sub1 (by omega) (by omega)
    have hx : xs[xs.length - 1] < B64 := dx.get (List.getElem?_eq_getElem i1)
    obtain ⟨v3, H3, hc3, e3, e4⟩ := len64_spec (H := H1) hx
    subst e3; subst e4
    have hb := blen_dv dx tx (by omega)
    have hb64 : blen (xs[xs.length - 1]) ≤ 64 := by
      rcases Nat.lt_or_ge 64 (blen (xs[xs.length - 1])) with h | h
      · have h0 : xs[xs.length - 1] ≠ 0 := by intro e; rw [e] at h; simp [blen] at h
        have a := blen_ge h0
        have b : 2 ^ 64 ≤ 2 ^ (blen (xs[xs.length - 1]) - 1) := Nat.pow_le_pow_right (by decide) (by omega)
        have hx : xs[xs.length - 1] < 18446744073709551616 := hx
        omega
      · exact h
    have hw2 : IntKind.i64.wrap (64 * ((xs.length - 1 : Nat) : Int)) = 64 * ((xs.length - 1 : Nat) : Int) := by rw [IntKind.wrap_i64]; omega
    have hw3 : IntKind.i64.wrap (64 * ((xs.length - 1 : Nat) : Int) + (blen (xs[xs.length - 1]) : Int)) = (blen (dv B64 xs) : Int) := by rw [IntKind.wrap_i64, hb]; omega
    apply W_seq; intro b2 hb2
    apply W_region
    simp [l1, hw, hw2, a1, d1, hc3, hw3]
    show W _ _ b2 _ _; subst hb2
    apply W_ret
    simp

theorem from_spec {x : Nat} {H : AH} (hx : x < B64) :
    CW Try.prog cfg0 56 [.int .u64 (x : Int)] H fun v H' => Keep H H' ∧ Own H.n H' v (ds B64 x) := by
  refine CW_intro 7 (by decide) (by decide) Try.func56 rfl rfl ?_
  apply W_seq; intro b1 hb1
  apply W_region
  simp
  show W _ _ b1 _ _; subst hb1
  apply W_seq; intro b1 hb1
  apply W_seq; intro b2 hb2
  apply W_region
  simp
  show W _ _ b2 _ _; subst hb2
  by_cases h0 : x = 0
  · subst h0
    refine W_cond (t := true) (by simp) ?_
    apply W_seq; intro b2 hb2
    apply W_region
    simp
    show W _ _ b2 _ _; subst hb2
    apply W_ret
    simp [seqQ, ds_zero]
    exact ⟨.refl H, .nil⟩
  · refine W_cond (t := false) (by simp; omega) ?_
    apply W_skip
    show W _ _ b1 _ _; subst hb1
    have e : ds B64 x = [x] := by
      rw [ds_pos two64 h0, Nat.mod_eq_of_lt hx, Nat.div_eq_of_lt hx, ds_zero]
    have hbs : buildSliceV Try.prog H 24 1 [(0, .int .u64 (x : Int))] = some (.slice (some ⟨H.n, 0, none⟩) 1 1, H.new 1 ([x].map limb)) := by
      unfold buildSliceV
      simp only [tNat, zU64]
      kernel_rfl
    apply W_seq; intro b2 hb2
    apply W_region
    simp [hbs]
    show W _ _ b2 _ _; subst hb2
    apply W_ret
    simp
    rw [e]
    exact ⟨.new _ _ _, Own.new H [x]⟩
end
end Go.Proofs.Ytldapilhmmbjhaa
