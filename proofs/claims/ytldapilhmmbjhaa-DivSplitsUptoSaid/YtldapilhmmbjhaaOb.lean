/-
  surdref01: norm, Of, Limbs, Is, Len, at. Numbers by digits of 32 bits.
-/
import Derived.Test.YtldapilhmmbjhaaOa
namespace Go.Proofs.Ytldapilhmmbjhaa
open Go Ev
set_option linter.unusedVariables false
set_option linter.unusedSimpArgs false
noncomputable section

theorem two32 : 2 ≤ b32 := by decide
theorem gtr0 {k : IntKind} {x : Nat} : intBin .gtr k (x : Int) 0 = some (.bool (decide (0 < x))) := gtr_nat (y := 0)
theorem eq0_nat {k : IntKind} {x : Nat} : intBin .eql k (x : Int) 0 = some (.bool (decide (x = 0))) := eql_nat (y := 0)
theorem rem32 {x : Nat} : intBin .rem .u64 (x : Int) 4294967296 = some (.int .u64 ((x % 4294967296 : Nat) : Int)) := rem_u64 (y := 4294967296) (by decide)
theorem quo32 {x : Nat} (hx : x < B64) : intBin .quo .u64 (x : Int) 4294967296 = some (.int .u64 ((x / 4294967296 : Nat) : Int)) := quo_u64 (y := 4294967296) hx (by decide)
theorem quo2 {x : Nat} (hx : x < B64) : intBin .quo .u64 (x : Int) 2 = some (.int .u64 ((x / 2 : Nat) : Int)) := quo_u64 (y := 2) hx (by decide)
theorem mul_i64 {x y : Nat} (h : x * y < 9223372036854775808) : intBin .mul .i64 (x : Int) (y : Int) = some (.int .i64 ((x * y : Nat) : Int)) := by
  show some (Value.int .i64 (IntKind.i64.wrap ((x : Int) * (y : Int)))) = _
  have e : IntKind.i64.wrap ((x : Int) * (y : Int)) = ((x * y : Nat) : Int) := by
    rw [IntKind.wrap_i64, ← Int.natCast_mul]
    generalize x * y = z at *
    omega
  rw [e]
theorem dbl_i64 {x : Nat} (h : 2 * x < 9223372036854775808) : intBin .mul .i64 2 (x : Int) = some (.int .i64 ((2 * x : Nat) : Int)) := mul_i64 (x := 2) h
theorem mul32_i64 {x : Nat} (h : 32 * x < 9223372036854775808) : intBin .mul .i64 32 (x : Int) = some (.int .i64 ((32 * x : Nat) : Int)) := mul_i64 (x := 32) h
theorem add2_i64 {x : Nat} (h : x < 9223372036854775800) : intBin .add .i64 (x : Int) 2 = some (.int .i64 ((x + 2 : Nat) : Int)) := add_i64 (y := 2) (by omega)

/-! ### the numbers -/
def halves : List Nat → List Nat
  | [] => []
  | x :: xs => x % b32 :: x / b32 :: halves xs

theorem halves_snoc (x : Nat) : ∀ (xs : List Nat), halves (xs ++ [x]) = halves xs ++ [x % b32, x / b32]
  | [] => rfl
  | y :: xs => by simp [halves, halves_snoc x xs]
theorem halves_len : ∀ (xs : List Nat), (halves xs).length = 2 * xs.length
  | [] => rfl
  | x :: xs => by simp [halves, halves_len xs]; omega
theorem halves_dv : ∀ (xs : List Nat), dv b32 (halves xs) = dv B64 xs
  | [] => rfl
  | x :: xs => by
    simp only [halves, dv, halves_dv xs]
    have := Nat.mod_add_div x 4294967296
    show x % 4294967296 + 4294967296 * (x / 4294967296 + 4294967296 * dv B64 xs) = x + 18446744073709551616 * dv B64 xs
    omega
theorem halves_dig : ∀ {xs : List Nat}, Dig B64 xs → Dig b32 (halves xs)
  | [], _ => .nil _
  | x :: xs, h => by
    have hx : x < 18446744073709551616 := h.head
    exact .cons (Nat.mod_lt _ (by decide)) (.cons (by show x / 4294967296 < 4294967296; omega) (halves_dig h.tail))

def pairs : List Nat → List Nat
  | [] => []
  | [x] => [x]
  | x :: y :: r => (x + y * b32) :: pairs r

theorem pairs_ds (N : Nat) : pairs (ds b32 N) = ds B64 N := by
  induction N using Nat.strongRecOn with
  | _ N ih =>
    by_cases h0 : N = 0
    · subst h0; rw [ds_zero, ds_zero]; rfl
    · rw [ds_pos two32 h0]
      by_cases h1 : N / b32 = 0
      · have hN : N < 4294967296 := by
          have := div0_lt (by decide) h1
          exact this
        rw [h1, ds_zero, ds_pos two64 h0]
        have e1 : N % b32 = N := Nat.mod_eq_of_lt hN
        have e2 : N % B64 = N := Nat.mod_eq_of_lt (Nat.lt_trans hN (by decide))
        have e3 : N / B64 = 0 := Nat.div_eq_of_lt (Nat.lt_trans hN (by decide))
        rw [e1, e2, e3, ds_zero]; rfl
      · rw [ds_pos two32 h1, ds_pos two64 h0]
        simp only [pairs]
        have e1 : N / b32 / b32 = N / B64 := by rw [Nat.div_div_eq_div_mul, show b32 * b32 = B64 by decide]
        have e2 : N % b32 + N / b32 % b32 * b32 = N % B64 := by
          show N % 4294967296 + N / 4294967296 % 4294967296 * 4294967296 = N % 18446744073709551616
          omega
        rw [e1, e2, ih _ (Nat.div_lt_self (by omega) (by decide))]

theorem pairs_drop {ys : List Nat} {i : Nat} (h : i < ys.length) : pairs (ys.drop i) = (ys[i] + nth ys (i + 1) * b32) :: pairs (ys.drop (i + 2)) := by
  rw [List.drop_eq_getElem_cons h]
  by_cases h1 : i + 1 < ys.length
  · rw [List.drop_eq_getElem_cons h1, nth_get h1]
    simp only [pairs]
  · rw [List.drop_eq_nil_of_le (by omega), nth_out (by omega), List.drop_eq_nil_of_le (by omega)]
    simp [pairs]

theorem pairs_len : ∀ (ys : List Nat), (pairs ys).length ≤ ys.length
  | [] => Nat.le_refl _
  | [x] => Nat.le_refl _
  | x :: y :: r => by simp only [pairs, List.length_cons]; have := pairs_len r; omega

theorem blen_half {x : Nat} (h : 0 < x) : blen x = blen (x / 2) + 1 := by
  rcases Nat.lt_or_ge x 2 with h1 | h1
  · obtain rfl : x = 1 := by omega
    decide
  · have := blen_shift (n := x) (k := 1) h1
    rw [this, Nat.pow_one, Nat.add_comm]

attribute [-simp] Int.natCast_add Int.natCast_mul Int.natCast_ediv Int.natCast_emod Int.natCast_pow
attribute [local simp] strip stripL LW' LR gW evOp oMove oAssign oPick oBinOp oUnOp oConvert oExtract oIndexAddr oIndex oLoad oStore oSlice oMakeSlice oCall oBuildSlice opd opds optOpd plain plain1 Tr.get_set tmOf builtinV binV isShift sameKind undef resultV resOne packV ltNat ltNum ltLst calleeV parts lss_nat unV DW grdOf heapOp LX isStore

theorem norm32_spec {n0 : Nat} {H : AH} {v : Value} {xs : List Nat} (h : Own n0 H v xs) (hlen : xs.length < 1152921504606846976) :
    CW Try.prog cfg0 41 [v] H fun v' H' => H' = H ∧ Own n0 H v' (trimL xs) ∧ vblk v' = vblk v := by
  refine CW_intro 22 (by decide) (by decide) Try.func41 rfl rfl ?_
  have l0 := h.sl.len ltNum
  apply W_seq; intro b1 hb1
  apply W_region
  simp
  show W _ _ b1 _ _; subst hb1
  apply W_seq; intro b1 hb1
  apply W_region
  simp [l0]
  show W _ _ b1 _ _; subst hb1
  apply W_seq; intro b1 hb1
  apply W_block
  refine W_loopK (fun n s => s.k = 22 ∧ s.H = H ∧ n ≤ xs.length ∧ trimL (xs.take n) = trimL xs ∧ s.tm.get 0 = some v ∧ s.tm.get 3 = some (.int .i64 (n : Int))) ?_ xs.length _ ⟨rfl, rfl, Nat.le_refl _, by rw [List.take_length], by simp, by simp⟩
  rintro n ⟨k, tm, H'⟩ ⟨hk, hH, hn, ht, t0, t3⟩ Q' hQ'
  simp only at hk hH t0 t3
  subst hk; subst hH
  apply W_seq; intro b2 hb2
  apply W_seq; intro b3 hb3
  apply W_region
  have fin : ∀ tm' : Tr Value, tm'.get 0 = some v → tm'.get 3 = some (.int .i64 (n : Int)) → trimL (xs.take n) = xs.take n → Q' (.exit 0) ⟨22, tm', H'⟩ := fun tm' t0 t3 he => by
    apply hQ'
    left
    refine ⟨rfl, ?_⟩
    show W _ _ b1 _ _; subst hb1
    obtain ⟨c1, c2, c3⟩ := h.cut3 ltNum hn
    apply W_seq; intro b4 hb4
    apply W_region
    simp [t0, t3, c1]
    show W _ _ b4 _ _; subst hb4
    apply W_ret
    simp
    rw [← ht, he]
    exact ⟨c2, c3⟩
  by_cases hz : n = 0
  · subst hz
    simp [t3]
    show W _ _ b3 _ _; subst hb3
    refine W_cond (t := false) (by simp) ?_
    apply W_exit
    exact fin _ (by simp [t0]) (by simp [t3]) rfl
  · have hi : n - 1 < xs.length := by omega
    have a1 := h.sl.adr ltNum (k := .i64) hi
    have d1 := h.sl.load hi
    have htake : xs.take n = xs.take (n - 1) ++ [xs[n - 1]] := by
      have := take_snoc hi
      rwa [show n - 1 + 1 = n by omega] at this
    have hn0 : 0 < n := by omega
    simp [t3, t0, gtr0, hn0, sub1_i64 (x := n) (by omega) hn0, a1, d1, eq0_nat]
    show W _ _ b3 _ _; subst hb3
    by_cases h0 : xs[n - 1] = 0
    · refine W_cond (t := true) (by simp [h0]) ?_
      apply W_skip
      show W _ _ b2 _ _; subst hb2
      apply W_block
      apply W_region
      simp [t3, sub1_i64 (x := n) (by omega) hn0]
      apply hQ'
      refine ⟨n - 1, by omega, rfl, rfl, by show n - 1 ≤ _; omega, ?_, by simp [t0], by simp⟩
      rw [← ht, htake, h0, trimL_snoc0]
    · refine W_cond (t := false) (by simp [h0]) ?_
      apply W_exit
      exact fin _ (by simp [t0]) (by simp [t3]) (by rw [htake]; exact trimL_snoc _ _ h0)

theorem of_spec {H : AH} {v : Value} {xs : List Nat} (h : Sl H v xs) (dx : Dig B64 xs) (hlen : xs.length ≤ 8000000000000) :
    CW Try.prog cfg0 14 [v] H fun v' H' => Keep H H' ∧ Own H.n H' v' (ds b32 (dv B64 xs)) := by
  refine CW_intro 26 (by decide) (by decide) Try.func14 rfl rfl ?_
  have l0 := h.len ltLst
  obtain ⟨a0, H1, hmk, k1, o1⟩ := makeCap_own (H := H) ltNum (n := 2 * xs.length) (by omega)
  apply W_seq; intro b1 hb1
  apply W_region
  simp
  show W _ _ b1 _ _; subst hb1
  apply W_seq; intro b1 hb1
  apply W_region
  simp [l0, dbl_i64 (x := xs.length) (by omega), hmk]
  show W _ _ b1 _ _; subst hb1
  apply W_seq; intro b1 hb1
  apply W_seq; intro b2 hb2
  apply W_region
  simp [l0]
  show W _ _ b2 _ _; subst hb2
  apply W_block
  refine W_loopK (fun m s' => s'.k = 26 ∧ Keep H s'.H ∧ ∃ (i : Nat) (a : Value), m + i = xs.length ∧ Own H.n s'.H a (halves (xs.take i)) ∧ s'.tm.get 3 = some a ∧ s'.tm.get 10 = some v ∧ s'.tm.get 11 = some (.int .i64 (xs.length : Int)) ∧ s'.tm.get 12 = some (.int .i64 (i : Int))) ?_ xs.length _
    ⟨rfl, k1, 0, a0, by omega, o1, by simp, by simp, by simp, by simp⟩
  rintro m ⟨k, tm, H2⟩ ⟨hk, kH, i, a, hmi, own, t3, t10, t11, t12⟩ Q' hQ'
  simp only at hk kH own t3 t10 t11 t12
  subst hk
  apply W_seq; intro b3 hb3
  apply W_region
  simp [t11, t12]
  show W _ _ b3 _ _; subst hb3
  apply W_seq; intro b3 hb3
  by_cases hi : i < xs.length
  · refine W_cond (t := true) (by simp [hi]) ?_
    apply W_skip
    show W _ _ b3 _ _; subst hb3
    have s2 := h.keep kH
    have a1 := s2.adr ltLst (k := .i64) hi
    have d1 := s2.load hi
    have hx : xs[i] < B64 := dx.get (List.getElem?_eq_getElem hi)
    obtain ⟨x, hxe⟩ : ∃ x, x = xs[i] := ⟨_, rfl⟩
    rw [← hxe] at d1 hx
    have hb := build2_own H2 ltNum (x % 4294967296) (x / 4294967296)
    have kn := Keep.new H2 1 ([x % 4294967296, x / 4294967296].map limb)
    have ow := Own.new H2 [x % 4294967296, x / 4294967296]
    obtain ⟨v', H4, hap, own4, mod4, ka4⟩ := (own.mono (Nat.le_refl _) kn).append (Nat.le_trans kH.n kn.n) ow.sl (by rw [halves_len, List.length_take]; simp; omega) ltNum ltNum
    apply W_seq; intro b3 hb3
    apply W_block
    apply W_seq; intro b4 hb4
    apply W_region
    simp [t10, t12, a1, d1]
    show W _ _ b4 _ _; subst hb4
    apply W_region
    simp [t3, rem32, quo32 hx, hb]
    simp at hap
    simp [hap]
    show W _ _ b3 _ _; subst hb3
    apply W_region
    simp [t12, add1_i64 (x := i) (by omega)]
    apply hQ'
    refine ⟨m - 1, by omega, rfl, ka4 H (kH.trans kn) (Nat.le_refl _), i + 1, v', by omega, ?_, by simp, by simp [t10], by simp [t11], by simp⟩
    rw [take_snoc hi, halves_snoc, ← hxe]
    exact own4
  · refine W_cond (t := false) (by simp [hi]) ?_
    apply W_exit
    apply hQ'
    left
    refine ⟨rfl, ?_⟩
    obtain rfl : i = xs.length := by omega
    rw [List.take_length] at own
    obtain ⟨v5, H5, hc5, e5, o5, _⟩ := norm32_spec own (by rw [halves_len]; omega)
    subst e5
    rw [trimL_ds two32 (halves_dig dx), halves_dv] at o5
    show W _ _ b1 _ _; subst hb1
    apply W_seq; intro b4 hb4
    apply W_region
    simp [t3, hc5]
    show W _ _ b4 _ _; subst hb4
    apply W_ret
    simp
    exact ⟨kH, o5⟩
end
end Go.Proofs.Ytldapilhmmbjhaa
