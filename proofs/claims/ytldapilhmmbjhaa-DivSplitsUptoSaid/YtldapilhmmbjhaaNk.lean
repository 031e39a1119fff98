/-
  div.down: shifted back.
-/
import Derived.Test.YtldapilhmmbjhaaNj
namespace Go.Proofs.Ytldapilhmmbjhaa
open Go Ev
set_option linter.unusedVariables false
set_option linter.unusedSimpArgs false
noncomputable section

/-- A list's limb, or 0. -/
def nth (xs : List Nat) (i : Nat) : Nat := xs[i]?.getD 0

theorem nth_get {xs : List Nat} {i : Nat} (h : i < xs.length) : nth xs i = xs[i] := by unfold nth; rw [List.getElem?_eq_getElem h]; rfl
theorem nth_out {xs : List Nat} {i : Nat} (h : xs.length ≤ i) : nth xs i = 0 := by unfold nth; rw [List.getElem?_eq_none h]; rfl

attribute [-simp] Int.natCast_add Int.natCast_mul Int.natCast_ediv Int.natCast_emod Int.natCast_pow
attribute [local simp] strip stripL LW' gW evOp oMove oAssign oPick oBinOp oUnOp oConvert oExtract oIndexAddr oIndex oLoad oStore oSlice oMakeSlice oCall oBuildSlice opd opds optOpd plain plain1 Tr.get_set tmOf builtinV binV isShift sameKind undef resultV resOne packV ltNat ltNum ltLst calleeV parts lss_nat

theorem down_spec {v : Value} {xs : List Nat} {H : AH} (hs : Sl H v xs) (dx : Dig B64 xs) (hlen : xs.length ≤ 17592186044000) {s : Nat} (h64 : s < 64) :
    CW Try.prog cfg0 60 [v, .int .u64 (s : Int)] H fun v' H' => Keep H H' ∧ Own H.n H' v' (ds B64 (dv B64 xs / 2 ^ s)) := by
  refine CW_intro 47 (by decide) (by decide) Try.func60 rfl rfl ?_
  obtain ⟨c0, H1, hmk, k1, o1, n1⟩ := makeSlice_own (H := H) ltNat (n := xs.length) (by omega)
  have l0 := hs.len ltNat
  apply W_seq; intro b1 hb1
  apply W_region
  simp
  show W _ _ b1 _ _; subst hb1
  apply W_seq; intro b1 hb1
  apply W_region
  simp [l0, hmk]
  show W _ _ b1 _ _; subst hb1
  apply W_seq; intro b1 hb1
  apply W_seq; intro b2 hb2
  apply W_region
  simp [l0]
  show W _ _ b2 _ _; subst hb2
  apply W_block
  refine W_loopK (fun m s' => s'.k = 47 ∧ ∃ (i : Nat) (L : List Nat), m + i = xs.length ∧ L.length = i ∧ Dig B64 L ∧ dv B64 L * 2 ^ s + nth xs 0 % 2 ^ s = dv B64 (xs.take i) + B64 ^ i * (nth xs i % 2 ^ s) ∧ Keep H s'.H ∧ Own H.n s'.H c0 (L ++ List.replicate m 0) ∧
    s'.tm.get 0 = some v ∧ s'.tm.get 1 = some (.int .u64 (s : Int)) ∧ s'.tm.get 5 = some c0 ∧ s'.tm.get 11 = some v ∧ s'.tm.get 12 = some (.int .i64 (xs.length : Int)) ∧ s'.tm.get 13 = some (.int .i64 (i : Int))) ?_ xs.length _
    ⟨rfl, 0, [], by omega, rfl, .nil _, by simp [dv], k1, o1, by simp, by simp, by simp, by simp, by simp, by simp⟩
  rintro m ⟨k, tm, H2⟩ ⟨hk, i, L, hmi, hL, dL, hv, kH, own, t0, t1, t5, t11, t12, t13⟩ Q' hQ'
  simp only at hk t0 t1 t5 t11 t12 t13 kH own
  subst hk
  apply W_seq; intro b3 hb3
  apply W_region
  simp [t12, t13]
  show W _ _ b3 _ _; subst hb3
  apply W_seq; intro b3 hb3
  by_cases hi : i < xs.length
  · refine W_cond (t := true) (by simp [hi]) ?_
    apply W_skip
    show W _ _ b3 _ _; subst hb3
    have s2 := hs.keep kH
    have a1 := s2.adr ltNat (k := .i64) hi
    have d1 := s2.load hi
    have hx : xs[i] < B64 := dx.get (List.getElem?_eq_getElem hi)
    obtain ⟨m', rfl⟩ : ∃ m', m = m' + 1 := ⟨m - 1, by omega⟩
    have own' : Own H.n H2 c0 (L ++ 0 :: List.replicate m' 0) := by rw [List.replicate_succ] at own; exact own
    have a2 := own'.sl.adr ltNat (k := .i64) (i := i) (by simp; omega)
    have hq : xs[i] / 2 ^ s < 2 ^ (64 - s) := by
      rw [Nat.div_lt_iff_lt_mul (Nat.two_pow_pos _), ← Nat.pow_add, show 64 - s + s = 64 by omega]
      exact hx
    have hqB : xs[i] / 2 ^ s < B64 := Nat.lt_of_lt_of_le hq (by show _ ≤ 2 ^ 64; exact Nat.pow_le_pow_right (by decide) (by omega))
    obtain ⟨H3, st1, own3, n3, kp3⟩ := own'.store (i := i) (by simp; omega) (xs[i] / 2 ^ s)
    rw [set_mid L 0 _ _ hL] at own3
    have kH3 := kp3 H kH (Nat.le_refl _)
    apply W_seq; intro b3 hb3
    have low : nth xs (i + 1) % 2 ^ s < 2 ^ s := Nat.mod_lt _ (Nat.two_pow_pos _)
    have e64 : 2 ^ s * 2 ^ (64 - s) = B64 := by rw [← Nat.pow_add, show s + (64 - s) = 64 by omega]
    have fin : ∀ (tm4 : Tr Value) (H4 : AH), Keep H H4 → Own H.n H4 c0 (L ++ (nth xs (i + 1) % 2 ^ s * 2 ^ (64 - s) + xs[i] / 2 ^ s) :: List.replicate m' 0) → tm4.get 0 = some v → tm4.get 1 = some (.int .u64 (s : Int)) → tm4.get 5 = some c0 → tm4.get 11 = some v →
        tm4.get 12 = some (.int .i64 (xs.length : Int)) → tm4.get 13 = some (.int .i64 (i : Int)) → W Try.prog cfg0 b3 ⟨47, tm4, H4⟩ Q' := fun tm4 H4 k4 o4 q0 q1 q5 q11 q12 q13 => by
      subst hb3
      apply W_region
      simp [q13, add1_i64 (x := i) (by omega)]
      apply hQ'
      refine ⟨m', by omega, rfl, i + 1, L ++ [nth xs (i + 1) % 2 ^ s * 2 ^ (64 - s) + xs[i] / 2 ^ s], by omega, by simp [hL], ?_, ?_, k4, by simpa using o4, by simp [q0], by simp [q1], by simp [q5], by simp [q11], by simp [q12], by simp⟩
      · refine dL.append (.cons ?_ (.nil _))
        have : (nth xs (i + 1) % 2 ^ s + 1) * 2 ^ (64 - s) ≤ 2 ^ s * 2 ^ (64 - s) := Nat.mul_le_mul_right _ low
        rw [e64, Nat.succ_mul] at this
        omega
      · rw [dv_append, hL, take_snoc hi, dv_append, List.length_take, Nat.min_eq_left (by omega)]
        simp only [dv, Nat.mul_zero, Nat.add_zero]
        rw [nth_get hi] at hv
        have e1 : 2 ^ s * (xs[i] / 2 ^ s) + xs[i] % 2 ^ s = xs[i] := Nat.div_add_mod _ _
        generalize nth xs (i + 1) % 2 ^ s = u at *
        generalize hr : xs[i] % 2 ^ s = r at *
        generalize hqq : xs[i] / 2 ^ s = q at *
        have e2 : (u * 2 ^ (64 - s) + q) * 2 ^ s = B64 * u + 2 ^ s * q := by rw [Nat.add_mul, Nat.mul_assoc, Nat.mul_comm (2 ^ (64 - s)), e64, Nat.mul_comm u, Nat.mul_comm q]
        have e3 : B64 ^ i * xs[i] = B64 ^ i * (2 ^ s * q) + B64 ^ i * r := by rw [← Nat.mul_add, e1]
        rw [Nat.add_mul, Nat.mul_assoc (B64 ^ i), e2, Nat.mul_add, e3, Nat.pow_succ, Nat.mul_assoc (B64 ^ i) B64 u]
        omega
    apply W_block
    apply W_seq; intro b4 hb4
    apply W_region
    simp [t11, t13, a1, d1]
    show W _ _ b4 _ _; subst hb4
    apply W_seq; intro b4 hb4
    apply W_region
    simp [t1, t5, t13, shr_u64 (x := xs[i]) (s := s) (by omega), a2, st1]
    show W _ _ b4 _ _; subst hb4
    apply W_seq; intro b4 hb4
    apply W_region
    simp [t0, l0, add1_i64 (x := i) (by omega)]
    show W _ _ b4 _ _; subst hb4
    by_cases hi2 : i + 1 < xs.length
    · refine W_cond (t := true) (by simp [hi2]) ?_
      have s3 := hs.keep kH3
      have a4 := s3.adr ltNat (k := .i64) hi2
      have d4 := s3.load hi2
      have a5 := own3.sl.adr ltNat (k := .i64) (i := i) (by simp; omega)
      have d5 := own3.sl.load (i := i) (by simp; omega)
      rw [get_mid L _ _ hL] at d5
      have hx1 : xs[i + 1] < B64 := dx.get (List.getElem?_eq_getElem hi2)
      have n1 : nth xs (i + 1) = xs[i + 1] := nth_get hi2
      have sb : intBin .sub .u64 63 (s : Int) = some (.int .u64 ((63 - s : Nat) : Int)) := sub_u64 (x := 63) (by decide) (by omega)
      have sh1 : shiftBin .shl .u64 (xs[i + 1] : Int) 1 = some (.int .u64 ((xs[i + 1] * 2 % B64 : Nat) : Int)) := shl_u64 (s := 1) (by omega)
      have em : xs[i + 1] * 2 % B64 * 2 ^ (63 - s) % B64 = nth xs (i + 1) % 2 ^ s * 2 ^ (64 - s) := by
        rw [n1, Nat.mod_mul_mod, Nat.mul_assoc, show 2 * 2 ^ (63 - s) = 2 ^ (64 - s) by rw [← Nat.pow_succ', show (63 - s).succ = 64 - s by omega], ← e64, Nat.mul_mod_mul_right]
      have sh2 : shiftBin .shl .u64 ((xs[i + 1] * 2 % B64 : Nat) : Int) ((63 - s : Nat) : Int) = some (.int .u64 ((nth xs (i + 1) % 2 ^ s * 2 ^ (64 - s) : Nat) : Int)) := by
        rw [shl_u64 (by omega), em]
      have hwB : nth xs (i + 1) % 2 ^ s * 2 ^ (64 - s) < B64 := by rw [← em]; exact Nat.mod_lt _ (by decide)
      have hor : xs[i] / 2 ^ s ||| nth xs (i + 1) % 2 ^ s * 2 ^ (64 - s) = nth xs (i + 1) % 2 ^ s * 2 ^ (64 - s) + xs[i] / 2 ^ s := by
        rw [Nat.or_comm, or_add hq]
      obtain ⟨H4, st4, own4, n4, kp4⟩ := own3.store (i := i) (by simp; omega) (nth xs (i + 1) % 2 ^ s * 2 ^ (64 - s) + xs[i] / 2 ^ s)
      rw [set_mid L _ _ _ hL] at own4
      apply W_mem (by kernel_rfl)
      simp [t0, t1, t5, a4, d4, a5, d5, add1_i64 (x := i) (by omega), sb, sh1, sh2, or_u64 hqB hwB, hor, st4]
      exact fin _ _ (kp4 H kH3 (Nat.le_refl _)) own4 (by simp [t0]) (by simp [t1]) (by simp [t5]) (by simp [t11]) (by simp [t12]) (by simp [t13])
    · refine W_cond (t := false) (by simp [hi2]) ?_
      apply W_skip
      have n0 : nth xs (i + 1) = 0 := nth_out (by omega)
      exact fin _ _ kH3 (by rw [n0]; simpa using own3) (by simp [t0]) (by simp [t1]) (by simp [t5]) (by simp [t11]) (by simp [t12]) (by simp [t13])
  · refine W_cond (t := false) (by simp [hi]) ?_
    apply W_exit
    apply hQ'
    left
    refine ⟨rfl, ?_⟩
    obtain rfl : m = 0 := by omega
    have hi' : i = xs.length := by omega
    obtain ⟨v5, H5, hc5, k5, o5⟩ := norm_spec own.sl (by simp; omega)
    show W _ _ b1 _ _; subst hb1
    apply W_seq; intro b4 hb4
    apply W_region
    simp [t5, hc5]
    show W _ _ b4 _ _; subst hb4
    apply W_ret
    simp
    refine ⟨kH.trans k5, ?_⟩
    have e : dv B64 xs / 2 ^ s = dv B64 L := by
      rw [hi', nth_out (Nat.le_refl _), List.take_length, Nat.zero_mod, Nat.mul_zero, Nat.add_zero] at hv
      rw [← hv, Nat.add_comm, Nat.add_mul_div_right _ _ (Nat.two_pow_pos _), Nat.div_eq_of_lt (Nat.mod_lt _ (Nat.two_pow_pos _)), Nat.zero_add]
    rw [e, ← trimL_ds two64 dL]
    have o5' : Own H2.n H5 v5 (trimL L) := by simpa using o5
    exact o5'.mono kH.n (.refl H5)
end
end Go.Proofs.Ytldapilhmmbjhaa
