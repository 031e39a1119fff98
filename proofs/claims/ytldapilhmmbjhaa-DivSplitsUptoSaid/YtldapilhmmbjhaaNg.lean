/-
  u64 arithmetic as naturals: or, and, shifts, sums. div.up, div.down.
-/
import Derived.Test.YtldapilhmmbjhaaNf
namespace Go.Proofs.Ytldapilhmmbjhaa
open Go Ev
set_option linter.unusedVariables false
set_option linter.unusedSimpArgs false
noncomputable section

theorem bv_nat {x : Nat} (h : x < B64) : (BitVec.ofInt 64 (x : Int)).toNat = x := by
  have h : x < 18446744073709551616 := h
  simp [BitVec.toNat_ofInt]
  omega

theorem or_u64 {x y : Nat} (hx : x < B64) (hy : y < B64) : intBin .or .u64 (x : Int) (y : Int) = some (.int .u64 ((x ||| y : Nat) : Int)) := by
  have h : x ||| y < 2 ^ 64 := Nat.or_lt_two_pow hx hy
  have e : (BitVec.ofInt 64 (x : Int) ||| BitVec.ofInt 64 (y : Int)).toNat = x ||| y := by rw [BitVec.toNat_or, bv_nat hx, bv_nat hy]
  show some (Value.int .u64 (IntKind.u64.wrap ((BitVec.ofInt 64 (x : Int) ||| BitVec.ofInt 64 (y : Int)).toNat : Nat))) = _
  rw [e, IntKind.wrap_u64]
  have h : x ||| y < 18446744073709551616 := h
  rw [Int.emod_eq_of_lt (by omega) (by omega)]

theorem and_u64 {x y : Nat} (hx : x < B64) (hy : y < B64) : intBin .and .u64 (x : Int) (y : Int) = some (.int .u64 ((x &&& y : Nat) : Int)) := by
  have h : x &&& y < 2 ^ 64 := Nat.and_lt_two_pow _ hy
  have e : (BitVec.ofInt 64 (x : Int) &&& BitVec.ofInt 64 (y : Int)).toNat = x &&& y := by rw [BitVec.toNat_and, bv_nat hx, bv_nat hy]
  show some (Value.int .u64 (IntKind.u64.wrap ((BitVec.ofInt 64 (x : Int) &&& BitVec.ofInt 64 (y : Int)).toNat : Nat))) = _
  rw [e, IntKind.wrap_u64]
  have h : x &&& y < 18446744073709551616 := h
  rw [Int.emod_eq_of_lt (by omega) (by omega)]

theorem shl_u64 {x s : Nat} (hs : s ≤ 64) : shiftBin .shl .u64 (x : Int) (s : Int) = some (.int .u64 ((x * 2 ^ s % B64 : Nat) : Int)) := by
  unfold shiftBin
  rw [if_neg (by omega)]
  simp only [show IntKind.u64.bits = 64 from rfl, Int.toNat_natCast, Nat.min_eq_left hs, IntKind.wrap_u64]
  congr 2

theorem shr_u64 {x s : Nat} (hs : s ≤ 64) : shiftBin .shr .u64 (x : Int) (s : Int) = some (.int .u64 ((x / 2 ^ s : Nat) : Int)) := by
  unfold shiftBin
  rw [if_neg (by omega)]
  simp only [show IntKind.u64.bits = 64 from rfl, Int.toNat_natCast, Nat.min_eq_left hs]
  rw [fdiv_nat]

theorem add_u64 {x y : Nat} : intBin .add .u64 (x : Int) (y : Int) = some (.int .u64 (((x + y) % B64 : Nat) : Int)) := by
  unfold intBin
  simp only [IntKind.wrap_u64]
  congr 2

theorem mul_u64 {x y : Nat} : intBin .mul .u64 (x : Int) (y : Int) = some (.int .u64 ((x * y % B64 : Nat) : Int)) := by
  unfold intBin
  simp only [IntKind.wrap_u64]
  congr 2

theorem add_i64 {x y : Nat} (h : x + y < 9223372036854775808) : intBin .add .i64 (x : Int) (y : Int) = some (.int .i64 ((x + y : Nat) : Int)) := by
  show some (Value.int .i64 (IntKind.i64.wrap ((x : Int) + (y : Int)))) = _
  have e : IntKind.i64.wrap ((x : Int) + (y : Int)) = ((x + y : Nat) : Int) := by rw [IntKind.wrap_i64]; omega
  rw [e]
theorem add1_i64 {x : Nat} (h : x < 9223372036854775800) : intBin .add .i64 (x : Int) 1 = some (.int .i64 ((x + 1 : Nat) : Int)) := by
  have := add_i64 (x := x) (y := 1) (by omega)
  simpa using this
theorem sub_i64 {x y : Nat} (h : x < 9223372036854775808) (hy : y ≤ x) : intBin .sub .i64 (x : Int) (y : Int) = some (.int .i64 ((x - y : Nat) : Int)) := by
  show some (Value.int .i64 (IntKind.i64.wrap ((x : Int) - (y : Int)))) = _
  have e : IntKind.i64.wrap ((x : Int) - (y : Int)) = ((x - y : Nat) : Int) := by rw [IntKind.wrap_i64]; omega
  rw [e]
theorem sub1_i64 {x : Nat} (h : x < 9223372036854775808) (hx : 0 < x) : intBin .sub .i64 (x : Int) 1 = some (.int .i64 ((x - 1 : Nat) : Int)) := by
  have := sub_i64 (x := x) (y := 1) h hx
  simpa using this
theorem sub_u64 {x y : Nat} (hx : x < B64) (hy : y ≤ x) : intBin .sub .u64 (x : Int) (y : Int) = some (.int .u64 ((x - y : Nat) : Int)) := by
  have hx : x < 18446744073709551616 := hx
  show some (Value.int .u64 (IntKind.u64.wrap ((x : Int) - (y : Int)))) = _
  have e : IntKind.u64.wrap ((x : Int) - (y : Int)) = ((x - y : Nat) : Int) := by rw [IntKind.wrap_u64]; omega
  rw [e]
theorem lss_nat {k : IntKind} {x y : Nat} : intBin .lss k (x : Int) (y : Int) = some (.bool (decide (x < y))) := by
  show some (Value.bool (decide ((x : Int) < (y : Int)))) = _
  congr 2; simp
theorem leq_nat {k : IntKind} {x y : Nat} : intBin .leq k (x : Int) (y : Int) = some (.bool (decide (x ≤ y))) := by
  show some (Value.bool (decide ((x : Int) ≤ (y : Int)))) = _
  congr 2; simp
theorem gtr_nat {k : IntKind} {x y : Nat} : intBin .gtr k (x : Int) (y : Int) = some (.bool (decide (y < x))) := by
  show some (Value.bool (decide ((x : Int) > (y : Int)))) = _
  congr 2; simp
theorem geq_nat {k : IntKind} {x y : Nat} : intBin .geq k (x : Int) (y : Int) = some (.bool (decide (y ≤ x))) := by
  show some (Value.bool (decide ((x : Int) ≥ (y : Int)))) = _
  congr 2; simp
theorem eql_nat {k : IntKind} {x y : Nat} : intBin .eql k (x : Int) (y : Int) = some (.bool (decide (x = y))) := by
  show some (Value.bool ((x : Int) == (y : Int))) = _
  congr 2
  by_cases h : x = y
  · simp [h]
  · have : ¬ (x : Int) = (y : Int) := by omega
    simp [h, this]
theorem neq_nat {k : IntKind} {x y : Nat} : intBin .neq k (x : Int) (y : Int) = some (.bool (decide (x ≠ y))) := by
  show some (Value.bool ((x : Int) != (y : Int))) = _
  congr 2
  by_cases h : x = y
  · simp [h]
  · have : ¬ (x : Int) = (y : Int) := by omega
    simp [h, this]

theorem or_add {s a b : Nat} (hb : b < 2 ^ s) : (a * 2 ^ s) ||| b = a * 2 ^ s + b := by
  rw [Nat.mul_comm, Nat.two_pow_add_eq_or_of_lt hb]
end
end Go.Proofs.Ytldapilhmmbjhaa
