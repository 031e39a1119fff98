/-
  bits.Div64.
-/
import Derived.Test.YtldapilhmmbjhaaNk
import Derived.Test.YtldapilhmmbjhaaNq
namespace Go.Proofs.Ytldapilhmmbjhaa
open Go Ev
set_option linter.unusedVariables false
set_option linter.unusedSimpArgs false
noncomputable section

theorem quo_u64 {x y : Nat} (hx : x < B64) (hy : 0 < y) : intBin .quo .u64 (x : Int) (y : Int) = some (.int .u64 ((x / y : Nat) : Int)) := by
  have hx : x < 18446744073709551616 := hx
  have hle : x / y ≤ x := Nat.div_le_self x y
  have h0 : ¬ ((y : Int) = 0) := by omega
  have e : IntKind.u64.wrap ((x : Int).tdiv (y : Int)) = ((x / y : Nat) : Int) := by
    rw [IntKind.wrap_u64, Int.tdiv_eq_ediv_of_nonneg (by omega), ← Int.natCast_ediv]
    generalize x / y = q at *
    omega
  show (if (y : Int) = 0 then none else some (Value.int .u64 (IntKind.u64.wrap ((x : Int).tdiv (y : Int))))) = _
  rw [if_neg h0, e]

theorem rem_u64 {x y : Nat} (hy : 0 < y) : intBin .rem .u64 (x : Int) (y : Int) = some (.int .u64 ((x % y : Nat) : Int)) := by
  have h0 : ¬ ((y : Int) = 0) := by omega
  have e : (x : Int).tmod (y : Int) = ((x % y : Nat) : Int) := by
    rw [Int.tmod_eq_emod_of_nonneg (by omega), ← Int.natCast_emod]
  show (if (y : Int) = 0 then none else some (Value.int .u64 ((x : Int).tmod (y : Int)))) = _
  rw [if_neg h0, e]

theorem subm_u64 {x y : Nat} (hy : y ≤ B64) : intBin .sub .u64 (x : Int) (y : Int) = some (.int .u64 (((x + B64 - y) % B64 : Nat) : Int)) := by
  have hy : y ≤ 18446744073709551616 := hy
  have e : IntKind.u64.wrap ((x : Int) - (y : Int)) = (((x + 18446744073709551616 - y) % 18446744073709551616 : Nat) : Int) := by rw [IntKind.wrap_u64]; omega
  show some (Value.int .u64 (IntKind.u64.wrap ((x : Int) - (y : Int)))) = _
  rw [e]

/-- A rest, reckoned modulo 2^64. -/
theorem rest_mod {u b d q y : Nat} (hy : y < B64) (hy0 : 0 < y) (hq : q = (u * b + d) / y) : ((u * b % B64 + d) % B64 + B64 - q * y % B64) % B64 = (u * b + d) % y := by
  have e := Nat.div_add_mod (u * b + d) y
  rw [← hq, Nat.mul_comm y q] at e
  have hr : (u * b + d) % y < y := Nat.mod_lt _ hy0
  generalize (u * b + d) % y = r at *
  generalize q * y = p at *
  rw [Nat.mod_add_mod, ← e]
  have hy : y < 18446744073709551616 := hy
  show ((p + r) % 18446744073709551616 + 18446744073709551616 - p % 18446744073709551616) % 18446744073709551616 = r
  omega

abbrev b32 : Nat := 4294967296
theorem geqL {x : Nat} : intBin .geq .u64 (x : Int) 4294967296 = some (.bool (decide (4294967296 ≤ x))) := geq_nat (y := 4294967296)
theorem mulL {x : Nat} : intBin .mul .u64 4294967296 (x : Int) = some (.int .u64 ((4294967296 * x % B64 : Nat) : Int)) := mul_u64 (x := 4294967296)
theorem mulR {x : Nat} : intBin .mul .u64 (x : Int) 4294967296 = some (.int .u64 ((x * 4294967296 % B64 : Nat) : Int)) := mul_u64 (y := 4294967296)
theorem sub1_u64 {x : Nat} (hx : x < B64) (h : 0 < x) : intBin .sub .u64 (x : Int) 1 = some (.int .u64 ((x - 1 : Nat) : Int)) := sub_u64 (y := 1) hx h

/-- One round's arithmetic: the trial, its rest, the number and the divisor. -/
structure Est (y1 y0 u d q r : Nat) : Prop where
  y1lo : 2147483648 ≤ y1
  y1hi : y1 < 4294967296
  y0hi : y0 < 4294967296
  uhi : u < y1 * 4294967296 + y0
  dhi : d < 4294967296
  eq : q * y1 + r = u
  ge : (u * 4294967296 + d) / (y1 * 4294967296 + y0) ≤ q
  rhi : r < 4294967296
  qhi : q ≤ 4294967297

/-- Does the trial's test hold? -/
def estT (y0 d q r : Nat) : Bool := decide (4294967296 ≤ q) || decide (4294967296 * r + d < q * y0)

theorem Est.down {y1 y0 u d q r : Nat} (h : Est y1 y0 u d q r) (ht : estT y0 d q r = true) : 0 < q ∧ (q - 1) * y1 + (r + y1) = u ∧ (u * 4294967296 + d) / (y1 * 4294967296 + y0) ≤ q - 1 ∧ q - 1 ≤ 4294967296 := by
  have ht' : 4294967296 ≤ q ∨ 4294967296 * r + d < q * y0 := by simpa [estT] using ht
  have h1 := est_true h.eq h.uhi h.dhi ht'
  have hq : 0 < q := Nat.lt_of_le_of_lt (Nat.zero_le _) h1
  refine ⟨hq, ?_, Nat.le_sub_one_of_lt h1, by have := h.qhi; omega⟩
  obtain ⟨q', rfl⟩ : ∃ q', q = q' + 1 := ⟨q - 1, by omega⟩
  have := h.eq
  rw [Nat.succ_mul] at this
  rw [Nat.add_sub_cancel]
  omega

theorem Est.stop {y1 y0 u d q r : Nat} (h : Est y1 y0 u d q r) (ht : estT y0 d q r = false) : q = (u * 4294967296 + d) / (y1 * 4294967296 + y0) ∧ q < 4294967296 := by
  have ht' : q < 4294967296 ∧ q * y0 ≤ 4294967296 * r + d := by simpa [estT] using ht
  have := est_false h.eq (by have := h.y1lo; omega) ht'.2
  exact ⟨Nat.le_antisymm this h.ge, ht'.1⟩

/-- The break: the rest has grown over. -/
theorem est_break {y1 y0 u d q r : Nat} (y1lo : 2147483648 ≤ y1) (y0hi : y0 < 4294967296) (uhi : u < y1 * 4294967296 + y0) (dhi : d < 4294967296) (eq : q * y1 + r = u) (ge : (u * 4294967296 + d) / (y1 * 4294967296 + y0) ≤ q) (hr : 4294967296 ≤ r) (hq : q ≤ 4294967296) :
    q = (u * 4294967296 + d) / (y1 * 4294967296 + y0) ∧ q < 4294967296 := by
  have h1 : q * y0 ≤ 4294967296 * r + d := by
    have a : q * y0 ≤ 4294967296 * y0 := Nat.mul_le_mul_right _ hq
    omega
  have h2 := est_false eq (show 0 < y1 * 4294967296 + y0 by omega) h1
  have h3 : q = (u * 4294967296 + d) / (y1 * 4294967296 + y0) := Nat.le_antisymm h2 ge
  refine ⟨h3, ?_⟩
  rw [h3, Nat.div_lt_iff_lt_mul (by omega)]
  have : (u + 1) * 4294967296 ≤ (y1 * 4294967296 + y0) * 4294967296 := Nat.mul_le_mul_right _ uhi
  rw [Nat.succ_mul, Nat.mul_comm (y1 * 4294967296 + y0)] at this
  omega

theorem est_start {y1 y0 u d : Nat} (y1lo : 2147483648 ≤ y1) (y1hi : y1 < 4294967296) (y0hi : y0 < 4294967296) (uhi : u < y1 * 4294967296 + y0) (dhi : d < 4294967296) : Est y1 y0 u d (u / y1) (u % y1) :=
  ⟨y1lo, y1hi, y0hi, uhi, dhi, by rw [Nat.mul_comm]; exact Nat.div_add_mod u y1, est_first (by omega) dhi, Nat.lt_of_lt_of_le (Nat.mod_lt _ (by omega)) (by omega), est_small (by omega) y0hi uhi (by omega)⟩
end
end Go.Proofs.Ytldapilhmmbjhaa
