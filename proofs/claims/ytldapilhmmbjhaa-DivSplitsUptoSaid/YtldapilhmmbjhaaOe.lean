/-
  surdref01: Shl, Div.
-/
import Derived.Test.YtldapilhmmbjhaaOd
namespace Go.Proofs.Ytldapilhmmbjhaa
open Go Ev
set_option linter.unusedVariables false
set_option linter.unusedSimpArgs false
noncomputable section

theorem quo_i64 {x y : Nat} (hx : x < 9223372036854775808) (hy : 0 < y) : intBin .quo .i64 (x : Int) (y : Int) = some (.int .i64 ((x / y : Nat) : Int)) := by
  have hle : x / y ≤ x := Nat.div_le_self x y
  have h0 : ¬ ((y : Int) = 0) := by omega
  have e : IntKind.i64.wrap ((x : Int).tdiv (y : Int)) = ((x / y : Nat) : Int) := by
    rw [IntKind.wrap_i64, Int.tdiv_eq_ediv_of_nonneg (by omega), ← Int.natCast_ediv]
    generalize x / y = q at *
    omega
  show (if (y : Int) = 0 then none else some (Value.int .i64 (IntKind.i64.wrap ((x : Int).tdiv (y : Int))))) = _
  rw [if_neg h0, e]

theorem rem_i64 {x y : Nat} (hy : 0 < y) : intBin .rem .i64 (x : Int) (y : Int) = some (.int .i64 ((x % y : Nat) : Int)) := by
  have h0 : ¬ ((y : Int) = 0) := by omega
  have e : (x : Int).tmod (y : Int) = ((x % y : Nat) : Int) := by
    rw [Int.tmod_eq_emod_of_nonneg (by omega), ← Int.natCast_emod]
  show (if (y : Int) = 0 then none else some (Value.int .i64 ((x : Int).tmod (y : Int)))) = _
  rw [if_neg h0, e]

theorem quo32i {x : Nat} (hx : x < 9223372036854775808) : intBin .quo .i64 (x : Int) 32 = some (.int .i64 ((x / 32 : Nat) : Int)) := quo_i64 (y := 32) hx (by decide)
theorem rem32i {x : Nat} : intBin .rem .i64 (x : Int) 32 = some (.int .i64 ((x % 32 : Nat) : Int)) := rem_i64 (y := 32) (by decide)

/-- A digit of 32 bits, shifted: what stays and what goes up. -/
theorem fit32 {x c s : Nat} (hx : x < b32) (hs : s < 32) (hc : c < 2 ^ s) : x * 2 ^ s % b32 + c < b32 ∧ x * 2 ^ s / b32 < 2 ^ s ∧ x * 2 ^ s = x * 2 ^ s % b32 + b32 * (x * 2 ^ s / b32) ∧ x * 2 ^ s < B64 := by
  have e : b32 = 2 ^ (32 - s) * 2 ^ s := by rw [← Nat.pow_add, show 32 - s + s = 32 by omega]
  have hp := Nat.two_pow_pos s
  refine ⟨?_, ?_, (Nat.mod_add_div _ _).symm, ?_⟩
  · have e1 : x * 2 ^ s % b32 = x % 2 ^ (32 - s) * 2 ^ s := by rw [e, Nat.mul_mod_mul_right]
    have h2 : x % 2 ^ (32 - s) < 2 ^ (32 - s) := Nat.mod_lt _ (Nat.two_pow_pos _)
    rw [e1]
    have : (x % 2 ^ (32 - s) + 1) * 2 ^ s ≤ 2 ^ (32 - s) * 2 ^ s := Nat.mul_le_mul_right _ h2
    rw [← e, Nat.succ_mul] at this
    omega
  · rw [Nat.div_lt_iff_lt_mul (by decide), Nat.mul_comm]
    exact Nat.mul_lt_mul_of_pos_left hx hp
  · have h1 : 2 ^ s ≤ 2 ^ 32 := Nat.pow_le_pow_right (by decide) (by omega)
    have h2 : x * 2 ^ s ≤ 4294967295 * 2 ^ 32 := Nat.mul_le_mul (by have : x < 4294967296 := hx; omega) h1
    show _ < 18446744073709551616
    omega

attribute [-simp] Int.natCast_add Int.natCast_mul Int.natCast_ediv Int.natCast_emod Int.natCast_pow
attribute [local simp] strip stripL LW' LR gW evOp oMove oAssign oPick oBinOp oUnOp oConvert oExtract oIndexAddr oIndex oLoad oStore oSlice oMakeSlice oCall oBuildSlice opd opds optOpd plain plain1 Tr.get_set tmOf builtinV binV isShift sameKind undef resultV resOne packV ltNat ltNum ltLst calleeV parts lss_nat unV DW grdOf heapOp LX isStore

theorem refShl_spec {H : AH} {v : Value} {xs : List Nat} (hv : Sl H v xs) (dx : Dig b32 xs) (lx : xs.length ≤ 8000000000000) {n : Nat} (hn : n ≤ 8000000000000) :
    CW Try.prog cfg0 62 [v, .int .i64 (n : Int)] H fun v' H' => Keep H H' ∧ Own H.n H' v' (ds b32 (dv b32 xs * 2 ^ n)) := by
  refine CW_intro 55 (by decide) (by decide) Try.func62 rfl rfl ?_
  have l1 := hv.len ltNum
  apply W_seq; intro b1 hb1
  apply W_region
  simp
  show W _ _ b1 _ _; subst hb1
  apply W_seq; intro b1 hb1
  apply W_seq; intro b2 hb2
  apply W_region
  simp [l1, eq0_nat]
  show W _ _ b2 _ _; subst hb2
  by_cases h0 : xs.length = 0
  · obtain rfl : xs = [] := List.length_eq_zero_iff.mp h0
    refine W_cond (t := true) (by simp) ?_
    apply W_seq; intro b2 hb2
    apply W_region
    simp
    show W _ _ b2 _ _; subst hb2
    apply W_ret
    simp [seqQ, dv, ds_zero]
    exact ⟨.refl H, .nil⟩
  · refine W_cond (t := false) (by simp; intro h; exact h0 (by rw [h]; rfl)) ?_
    apply W_skip
    show W _ _ b1 _ _; subst hb1
    obtain ⟨w, hw⟩ : ∃ w, w = n / 32 := ⟨_, rfl⟩
    obtain ⟨s, hs⟩ : ∃ s, s = n % 32 := ⟨_, rfl⟩
    have hs32 : s < 32 := by omega
    have hnw : n = 32 * w + s := by omega
    have q1 : intBin .quo .i64 (n : Int) 32 = some (.int .i64 (w : Int)) := by rw [hw]; exact quo32i (by omega)
    have q2 : intBin .rem .i64 (n : Int) 32 = some (.int .i64 (s : Int)) := by rw [hs]; exact rem32i
    have q3 : intBin .add .i64 (xs.length : Int) (w : Int) = some (.int .i64 ((xs.length + w : Nat) : Int)) := add_i64 (by omega)
    obtain ⟨c0, H1, hmk, k1, o1, n1⟩ := makeSlice_own (H := H) ltNum (n := xs.length + w + 1) (by omega)
    apply W_seq; intro b1 hb1
    apply W_region
    simp [l1, q1, q3, add1_i64 (x := xs.length + w) (by omega), hmk]
    show W _ _ b1 _ _; subst hb1
    apply W_seq; intro b1 hb1
    apply W_region
    simp [q2]
    show W _ _ b1 _ _; subst hb1
    apply W_seq; intro b1 hb1
    apply W_seq; intro b2 hb2
    apply W_region
    simp [l1]
    show W _ _ b2 _ _; subst hb2
    apply W_block
    refine W_loopK (fun m s' => s'.k = 55 ∧ Keep H s'.H ∧ ∃ (i c : Nat) (L : List Nat), m + i = xs.length ∧ L.length = i ∧ c < 2 ^ s ∧ Dig b32 L ∧ dv b32 L + b32 ^ i * c = dv b32 (xs.take i) * 2 ^ s ∧ Own H.n s'.H c0 ((List.replicate w 0 ++ L) ++ c :: List.replicate m 0) ∧
      s'.tm.get 1 = some (.int .i64 (n : Int)) ∧ s'.tm.get 5 = some c0 ∧ s'.tm.get 6 = some (.int .i64 (s : Int)) ∧ s'.tm.get 21 = some v ∧ s'.tm.get 22 = some (.int .i64 (xs.length : Int)) ∧ s'.tm.get 23 = some (.int .i64 (i : Int))) ?_ xs.length _
      ⟨rfl, k1, 0, 0, [], by omega, rfl, Nat.two_pow_pos s, .nil _, by simp [dv], by
        have e : List.replicate (xs.length + w + 1) 0 = (List.replicate w 0 ++ []) ++ 0 :: List.replicate xs.length 0 := by
          rw [List.append_nil, ← List.replicate_succ, List.replicate_append_replicate]; congr 1; omega
        rw [← e]; exact o1, by simp, by simp, by simp, by simp, by simp, by simp⟩
    rintro m ⟨k, tm, H2⟩ ⟨hk, kH, i, c, L, hmi, hL, hc, dL, heq, own, t1, t5, t6, t21, t22, t23⟩ Q' hQ'
    simp only at hk kH own t1 t5 t6 t21 t22 t23
    subst hk
    apply W_seq; intro b3 hb3
    apply W_region
    simp [t22, t23]
    show W _ _ b3 _ _; subst hb3
    apply W_seq; intro b3 hb3
    by_cases hi : i < xs.length
    · refine W_cond (t := true) (by simp [hi]) ?_
      apply W_skip
      show W _ _ b3 _ _; subst hb3
      obtain ⟨m', rfl⟩ : ∃ m', m = m' + 1 := ⟨m - 1, by omega⟩
      have sv := hv.keep kH
      have a1 := sv.adr ltNum (k := .i64) hi
      have d1 := sv.load hi
      have hx : xs[i] < b32 := dx.get (List.getElem?_eq_getElem hi)
      obtain ⟨x, hxe⟩ : ∃ x, x = xs[i] := ⟨_, rfl⟩
      rw [← hxe] at d1 hx
      obtain ⟨f1, f2, f3, f4⟩ := fit32 hx hs32 hc
      obtain ⟨p, hp⟩ : ∃ p, p = x * 2 ^ s := ⟨_, rfl⟩
      rw [← hp] at f1 f2 f3 f4
      have m1 : shiftBin .shl .u64 (x : Int) (s : Int) = some (.int .u64 (p : Int)) := by rw [shl_u64 (by omega), ← hp, Nat.mod_eq_of_lt f4]
      have m2 : intBin .add .i64 (i : Int) (w : Int) = some (.int .i64 ((i + w : Nat) : Int)) := add_i64 (by omega)
      have lp : (List.replicate w 0 ++ L).length = i + w := by simp [hL]; omega
      have m3 : intBin .add .u64 (c : Int) ((p % 4294967296 : Nat) : Int) = some (.int .u64 ((p % 4294967296 + c : Nat) : Int)) := by
        rw [add_u64_lt (by rw [Nat.add_comm]; exact b32_lt f1), Nat.add_comm]
      have a2 := own.sl.adr ltNum (k := .i64) (i := i + w) (by simp [hL]; omega)
      have d2 := own.sl.load (i := i + w) (by simp [hL]; omega)
      rw [get_mid _ _ _ lp] at d2
      obtain ⟨H3, st3, own3, n3, bt3, ka3⟩ := own.put (i := i + w) (by simp [hL]; omega) (p % 4294967296 + c)
      rw [set_mid _ _ _ _ lp] at own3
      have a3 := own3.sl.adr ltNum (k := .i64) (i := i + w + 1) (by simp [hL]; omega)
      obtain ⟨H4, st4, own4, n4, bt4, ka4⟩ := own3.put (i := i + w + 1) (by simp [hL]; omega) (p / 4294967296)
      have hset : (List.replicate w 0 ++ L ++ (p % 4294967296 + c) :: List.replicate (m' + 1) 0).set (i + w + 1) (p / 4294967296) = (List.replicate w 0 ++ (L ++ [p % 4294967296 + c])) ++ (p / 4294967296) :: List.replicate m' 0 := by
        rw [show List.replicate w 0 ++ L ++ (p % 4294967296 + c) :: List.replicate (m' + 1) 0 = (List.replicate w 0 ++ (L ++ [p % 4294967296 + c])) ++ 0 :: List.replicate m' 0 by simp [List.replicate_succ]]
        exact set_mid _ _ _ _ (by simp [hL]; omega)
      rw [hset] at own4
      apply W_seq; intro b3 hb3
      apply W_block
      apply W_seq; intro b4 hb4
      apply W_region
      simp [t21, t23, a1, d1]
      show W _ _ b4 _ _; subst hb4
      apply W_seq; intro b4 hb4
      apply W_mem (by kernel_rfl)
      simp [t1, t5, t6, q1, m1, m2, m3, a2, d2, rem32, st3]
      show W _ _ b4 _ _; subst hb4
      apply W_region
      simp [t1, t5, t6, q1, m1, m2, add1_i64 (x := i + w) (by omega), a3, quo32 f4, st4]
      show W _ _ b3 _ _; subst hb3
      apply W_region
      simp [t23, add1_i64 (x := i) (by omega)]
      apply hQ'
      refine ⟨m', by omega, rfl, ka4 H (ka3 H kH (Nat.le_refl _)) (Nat.le_refl _), i + 1, p / 4294967296, L ++ [p % 4294967296 + c], by omega, by simp [hL], f2, dL.append (.cons f1 (.nil _)), ?_, own4, by simp [t1], by simp [t5], by simp [t6], by simp [t21], by simp [t22], by simp⟩
      rw [dv_append, hL, take_snoc hi, dv_append, List.length_take, Nat.min_eq_left (by omega), ← hxe]
      simp only [dv, Nat.mul_zero, Nat.add_zero]
      rw [Nat.add_mul, ← heq, Nat.mul_assoc (b32 ^ i) x, ← hp]
      have e1 : b32 ^ i * p = b32 ^ i * (p % b32 + b32 * (p / b32)) := by rw [← f3]
      rw [Nat.mul_add, ← Nat.mul_assoc, show b32 ^ i * b32 = b32 ^ (i + 1) from rfl] at e1
      have e2 : b32 ^ i * (p % 4294967296 + c) = b32 ^ i * (p % b32) + b32 ^ i * c := Nat.mul_add _ _ _
      have e3 : b32 ^ (i + 1) * (p / 4294967296) = b32 ^ (i + 1) * (p / b32) := rfl
      omega
    · refine W_cond (t := false) (by simp [hi]) ?_
      apply W_exit
      apply hQ'
      left
      refine ⟨rfl, ?_⟩
      obtain rfl : i = xs.length := by omega
      obtain rfl : m = 0 := by omega
      rw [List.take_length] at heq
      obtain ⟨v5, H5, hc5, e5, o5, _⟩ := norm32_spec own (by simp [hL]; omega)
      subst e5
      have dall : Dig b32 ((List.replicate w 0 ++ L) ++ [c]) := by
        refine Dig.append (Dig.append ?_ dL) (.cons ?_ (.nil _))
        · intro x hx
          rw [List.eq_of_mem_replicate hx]; decide
        · exact Nat.lt_of_lt_of_le hc (by show 2 ^ s ≤ 2 ^ 32; exact Nat.pow_le_pow_right (by decide) (by omega))
      have hval : dv b32 ((List.replicate w 0 ++ L) ++ [c]) = dv b32 xs * 2 ^ n := by
        rw [List.append_assoc, dv_append, dv_append, dv_zeros, List.length_replicate, hL]
        simp only [dv, Nat.mul_zero, Nat.add_zero]
        rw [heq, Nat.zero_add, hnw, Nat.pow_add, Nat.pow_mul]
        show b32 ^ w * (dv b32 xs * 2 ^ s) = dv b32 xs * (b32 ^ w * 2 ^ s)
        rw [Nat.mul_left_comm]
      simp only [List.replicate_zero] at o5
      rw [trimL_ds two32 dall, hval] at o5
      show W _ _ b1 _ _; subst hb1
      apply W_seq; intro b4 hb4
      apply W_region
      simp [t5, hc5]
      show W _ _ b4 _ _; subst hb4
      apply W_ret
      simp
      exact ⟨kH, o5⟩
end
end Go.Proofs.Ytldapilhmmbjhaa
