/-
  div.up: shifted to the left by less than a limb.
-/
import Derived.Test.YtldapilhmmbjhaaNg
namespace Go.Proofs.Ytldapilhmmbjhaa
open Go Ev
set_option linter.unusedVariables false
set_option linter.unusedSimpArgs false
noncomputable section

theorem set_mid (L : List Nat) (c y : Nat) (R : List Nat) {i : Nat} (h : L.length = i) : (L ++ c :: R).set i y = L ++ y :: R := by
  subst h
  rw [List.set_append_right _ _ (Nat.le_refl _), Nat.sub_self]
  rfl

theorem get_mid (L : List Nat) (c : Nat) (R : List Nat) {i : Nat} (h : L.length = i) (hi : i < (L ++ c :: R).length) : (L ++ c :: R)[i] = c := by
  subst h
  simp

theorem take_snoc {xs : List Nat} {i : Nat} (h : i < xs.length) : xs.take (i + 1) = xs.take i ++ [xs[i]] := (List.take_append_getElem (l := xs) (i := i) h).symm

/-- A limb, shifted: what stays and what goes up. -/
theorem limb_shift {x s : Nat} (hs : s < 64) : x * 2 ^ s = x * 2 ^ s % B64 + B64 * (x / 2 ^ (64 - s)) := by
  have e : B64 = 2 ^ (64 - s) * 2 ^ s := by rw [← Nat.pow_add, show 64 - s + s = 64 by omega]
  have h1 : x * 2 ^ s / B64 = x / 2 ^ (64 - s) := by
    rw [e, Nat.mul_div_mul_right _ _ (Nat.two_pow_pos s)]
  have := Nat.mod_add_div (x * 2 ^ s) B64
  rw [h1] at this
  exact this.symm

theorem limb_low {x s : Nat} (hs : s < 64) : ∃ a, x * 2 ^ s % B64 = a * 2 ^ s ∧ a < 2 ^ (64 - s) := by
  have e : B64 = 2 ^ (64 - s) * 2 ^ s := by rw [← Nat.pow_add, show 64 - s + s = 64 by omega]
  refine ⟨x % 2 ^ (64 - s), ?_, Nat.mod_lt _ (Nat.two_pow_pos _)⟩
  rw [e, Nat.mul_mod_mul_right]

theorem limb_fit {x c s : Nat} (hs : s < 64) (hc : c < 2 ^ s) : x * 2 ^ s % B64 + c < B64 := by
  obtain ⟨a, e1, h⟩ := limb_low (x := x) hs
  have e : B64 = 2 ^ (64 - s) * 2 ^ s := by rw [← Nat.pow_add, show 64 - s + s = 64 by omega]
  rw [e1, e]
  have : (a + 1) * 2 ^ s ≤ 2 ^ (64 - s) * 2 ^ s := Nat.mul_le_mul_right _ h
  rw [Nat.succ_mul] at this
  omega

attribute [-simp] Int.natCast_add Int.natCast_mul Int.natCast_ediv Int.natCast_emod Int.natCast_pow
attribute [local simp] strip stripL LW' gW evOp oMove oAssign oPick oBinOp oUnOp oConvert oExtract oIndexAddr oIndex oLoad oStore oSlice oMakeSlice oCall oBuildSlice opd opds optOpd plain plain1 Tr.get_set tmOf builtinV binV isShift sameKind undef resultV resOne packV ltNat ltNum ltLst calleeV parts lss_nat

theorem up_spec {v : Value} {xs : List Nat} {H : AH} (hs : Sl H v xs) (dx : Dig B64 xs) (hlen : xs.length ≤ 17592186044000) {s : Nat} (h64 : s < 64) :
    CW Try.prog cfg0 58 [v, .int .u64 (s : Int)] H fun v' H' => Keep H H' ∧ ∃ ys, Own H.n H' v' ys ∧ Dig B64 ys ∧ ys.length = xs.length + 1 ∧ dv B64 ys = dv B64 xs * 2 ^ s := by
  refine CW_intro 39 (by decide) (by decide) Try.func58 rfl rfl ?_
  obtain ⟨c0, H1, hmk, k1, o1, n1⟩ := makeSlice_own (H := H) ltNat (n := xs.length + 1) (by omega)
  have l0 := hs.len ltNat
  apply W_seq; intro b1 hb1
  apply W_region
  simp
  show W _ _ b1 _ _; subst hb1
  apply W_seq; intro b1 hb1
  apply W_region
  simp [l0, add1_i64 (x := xs.length) (by omega), hmk]
  show W _ _ b1 _ _; subst hb1
  apply W_seq; intro b1 hb1
  apply W_seq; intro b2 hb2
  apply W_region
  simp [l0]
  show W _ _ b2 _ _; subst hb2
  apply W_block
  refine W_loopK (fun m s' => s'.k = 39 ∧ ∃ (i c : Nat) (L : List Nat), m + i = xs.length ∧ L.length = i ∧ c < 2 ^ s ∧ Dig B64 L ∧ dv B64 L + B64 ^ i * c = dv B64 (xs.take i) * 2 ^ s ∧ Keep H s'.H ∧ Own H.n s'.H c0 (L ++ c :: List.replicate m 0) ∧
    s'.tm.get 1 = some (.int .u64 (s : Int)) ∧ s'.tm.get 5 = some c0 ∧ s'.tm.get 12 = some v ∧ s'.tm.get 13 = some (.int .i64 (xs.length : Int)) ∧ s'.tm.get 14 = some (.int .i64 (i : Int))) ?_ xs.length _
    ⟨rfl, 0, 0, [], by omega, rfl, Nat.two_pow_pos s, .nil _, by simp [dv], k1, o1, by simp, by simp, by simp, by simp, by simp⟩
  rintro m ⟨k, tm, H2⟩ ⟨hk, i, c, L, hmi, hL, hc, dL, hv, kH, own, t1, t5, t12, t13, t14⟩ Q' hQ'
  simp only at hk t1 t5 t12 t13 t14 kH own
  subst hk
  apply W_seq; intro b3 hb3
  apply W_region
  simp [t13, t14]
  show W _ _ b3 _ _; subst hb3
  apply W_seq; intro b3 hb3
  by_cases hi : i < xs.length
  · refine W_cond (t := true) (by simp [hi]) ?_
    apply W_skip
    show W _ _ b3 _ _; subst hb3
    have s2 := hs.keep kH
    have a1 := s2.adr ltNat (k := .i64) hi
    have d1 := s2.load hi
    have hx : xs[i] < B64 := dx.get (List.getElem?_eq_getElem hi)
    obtain ⟨m', rfl⟩ : ∃ m', m = m' + 1 := ⟨m - 1, by omega⟩
    have hlen2 : (L ++ c :: List.replicate (m' + 1) 0).length = xs.length + 1 := by simp; omega
    have own1 := own.sl
    have a2 := own1.adr ltNat (k := .i64) (i := i) (by omega)
    have d2 := own1.load (i := i) (by omega)
    rw [get_mid L c _ hL] at d2
    have hcB : c < B64 := Nat.lt_of_lt_of_le hc (by show 2 ^ s ≤ 2 ^ 64; exact Nat.pow_le_pow_right (by decide) (by omega))
    have hm : xs[i] * 2 ^ s % B64 < B64 := Nat.mod_lt _ (by decide)
    have hor : c ||| xs[i] * 2 ^ s % B64 = xs[i] * 2 ^ s % B64 + c := by
      obtain ⟨a, e1, _⟩ := limb_low (x := xs[i]) h64
      rw [Nat.or_comm, e1, or_add hc]
    obtain ⟨H3, st1, own3, n3, kp3⟩ := own.store (i := i) (by omega) (xs[i] * 2 ^ s % B64 + c)
    rw [set_mid L c _ _ hL] at own3
    have a3 := own3.sl.adr ltNat (k := .i64) (i := i + 1) (by simp; omega)
    obtain ⟨H4, st2, own4, n4, kp4⟩ := own3.store (i := i + 1) (by simp; omega) (xs[i] / 2 ^ (64 - s))
    have hset : (L ++ (xs[i] * 2 ^ s % B64 + c) :: List.replicate (m' + 1) 0).set (i + 1) (xs[i] / 2 ^ (64 - s)) = (L ++ [xs[i] * 2 ^ s % B64 + c]) ++ (xs[i] / 2 ^ (64 - s)) :: List.replicate m' 0 := by
      rw [show L ++ (xs[i] * 2 ^ s % B64 + c) :: List.replicate (m' + 1) 0 = (L ++ [xs[i] * 2 ^ s % B64 + c]) ++ 0 :: List.replicate m' 0 by simp [List.replicate_succ]]
      exact set_mid _ _ _ _ (by simp [hL])
    rw [hset] at own4
    have sh2 : shiftBin .shr .u64 ((xs[i] / 2 : Nat) : Int) ((63 - s : Nat) : Int) = some (.int .u64 ((xs[i] / 2 ^ (64 - s) : Nat) : Int)) := by
      rw [shr_u64 (by omega), Nat.div_div_eq_div_mul]
      rw [show 2 * 2 ^ (63 - s) = 2 ^ (64 - s) by rw [← Nat.pow_succ', show (63 - s).succ = 64 - s by omega]]
    have sh1 : shiftBin .shr .u64 (xs[i] : Int) 1 = some (.int .u64 ((xs[i] / 2 : Nat) : Int)) := shr_u64 (s := 1) (by omega)
    have sb : intBin .sub .u64 63 (s : Int) = some (.int .u64 ((63 - s : Nat) : Int)) := sub_u64 (x := 63) (by decide) (by omega)
    apply W_seq; intro b3 hb3
    apply W_block
    apply W_seq; intro b4 hb4
    apply W_region
    simp [t12, t14, a1, d1]
    show W _ _ b4 _ _; subst hb4
    apply W_seq; intro b4 hb4
    apply W_region
    simp [t1, t5, a2, d2, shl_u64 (x := xs[i]) (s := s) (by omega), or_u64 hcB hm, hor, st1]
    show W _ _ b4 _ _; subst hb4
    apply W_region
    simp [t1, t5, add1_i64 (x := i) (by omega), sh1, sb, sh2, a3, st2]
    show W _ _ b3 _ _; subst hb3
    apply W_region
    simp [t14, add1_i64 (x := i) (by omega)]
    apply hQ'
    refine ⟨m', by omega, rfl, i + 1, xs[i] / 2 ^ (64 - s), L ++ [xs[i] * 2 ^ s % B64 + c], by omega, by simp [hL], ?_, ?_, ?_, kp4 H (kp3 H kH (Nat.le_refl _)) (Nat.le_refl _), ?_, ?_⟩
    · rw [Nat.div_lt_iff_lt_mul (Nat.two_pow_pos _), ← Nat.pow_add, show s + (64 - s) = 64 by omega]
      exact hx
    · exact dL.append (.cons (limb_fit h64 hc) (.nil _))
    · rw [dv_append, hL, take_snoc hi, dv_append, List.length_take, Nat.min_eq_left (by omega)]
      simp only [dv, Nat.mul_zero, Nat.add_zero]
      have e1 := limb_shift (x := xs[i]) h64
      generalize hq : xs[i] * 2 ^ s % B64 = q at e1 ⊢
      generalize xs[i] / 2 ^ (64 - s) = r at e1 ⊢
      rw [Nat.add_mul, ← hv, Nat.mul_assoc (B64 ^ i) xs[i], e1, Nat.pow_succ, Nat.mul_assoc (B64 ^ i) B64 r, Nat.mul_add, Nat.mul_add]
      omega
    · simpa using own4
    · exact ⟨by simp [t1], by simp [t5], by simp [t12], by simp [t13], by simp⟩
  · refine W_cond (t := false) (by simp [hi]) ?_
    apply W_exit
    apply hQ'
    left
    refine ⟨rfl, ?_⟩
    have hi' : i = xs.length := by omega
    obtain rfl : m = 0 := by omega
    show W _ _ b1 _ _; subst hb1
    apply W_seq; intro b4 hb4
    apply W_region
    simp [t5]
    show W _ _ b4 _ _; subst hb4
    apply W_ret
    simp
    refine ⟨kH, L ++ [c], by simpa using own, ?_, by simp [hL, hi'], ?_⟩
    · have hcB : c < B64 := Nat.lt_of_lt_of_le hc (by show 2 ^ s ≤ 2 ^ 64; exact Nat.pow_le_pow_right (by decide) (by omega))
      exact dL.append (.cons hcB (.nil _))
    · rw [dv_append, hL]
      simp only [dv, Nat.mul_zero, Nat.add_zero]
      rw [hv, hi', List.take_length]
end
end Go.Proofs.Ytldapilhmmbjhaa
