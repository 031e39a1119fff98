/-
  PLAIN LAW: a quotient's digit by the highest digits (Knuth): what the trial's test says.
-/
import Derived.Test.YtldapilhmmbjhaaNp
namespace Go.Proofs.Ytldapilhmmbjhaa
set_option linter.unusedVariables false

theorem est_num {b y1 y0 u d q r : Nat} (hq : q * y1 + r = u) : u * b + d = q * (y1 * b) + (b * r + d) := by
  rw [← hq, Nat.add_mul, Nat.mul_assoc, Nat.mul_comm r b]; omega

/-- The test holds: the digit is less. -/
theorem est_true {b y1 y0 u d q r : Nat} (hq : q * y1 + r = u) (hu : u < y1 * b + y0) (hd : d < b) (ht : b ≤ q ∨ b * r + d < q * y0) : (u * b + d) / (y1 * b + y0) < q := by
  have hy : 0 < y1 * b + y0 := by omega
  rw [Nat.div_lt_iff_lt_mul hy]
  rcases ht with ht | ht
  · have h1 : (u + 1) * b ≤ (y1 * b + y0) * b := Nat.mul_le_mul_right _ hu
    have h2 : b * (y1 * b + y0) ≤ q * (y1 * b + y0) := Nat.mul_le_mul_right _ ht
    rw [Nat.succ_mul] at h1
    rw [Nat.mul_comm b] at h2
    omega
  · rw [est_num (y0 := y0) (d := d) (b := b) hq, Nat.mul_add]
    omega

/-- The test fails: the digit is no less. -/
theorem est_false {b y1 y0 u d q r : Nat} (hq : q * y1 + r = u) (hy : 0 < y1 * b + y0) (ht : q * y0 ≤ b * r + d) : q ≤ (u * b + d) / (y1 * b + y0) := by
  rw [Nat.le_div_iff_mul_le hy, est_num (y0 := y0) (d := d) (b := b) hq, Nat.mul_add]
  omega

/-- The first trial is not below the digit. -/
theorem est_first {b y1 y0 u d : Nat} (h1 : 0 < y1) (hd : d < b) : (u * b + d) / (y1 * b + y0) ≤ u / y1 := by
  have hb : 0 < b := by omega
  have hy : 0 < y1 * b + y0 := by have := Nat.mul_pos h1 hb; omega
  have h2 : (u * b + d) / (y1 * b + y0) ≤ (u * b + d) / (y1 * b) := by
    rw [Nat.le_div_iff_mul_le (Nat.mul_pos h1 hb)]
    have := Nat.div_mul_le_self (u * b + d) (y1 * b + y0)
    rw [Nat.mul_add] at this
    omega
  have h3 : (u * b + d) / (y1 * b) = u / y1 := by
    rw [Nat.mul_comm y1 b, ← Nat.div_div_eq_div_mul, Nat.add_comm, Nat.add_mul_div_right _ _ hb, Nat.div_eq_of_lt hd, Nat.zero_add]
  omega

/-- The first trial is at most b + 1. -/
theorem est_small {b y1 y0 u : Nat} (h1 : b ≤ 2 * y1) (h0 : y0 < b) (hu : u < y1 * b + y0) (hp : 0 < y1) : u / y1 ≤ b + 1 := by
  have : u / y1 < b + 2 := by
    rw [Nat.div_lt_iff_lt_mul hp, Nat.add_mul, Nat.mul_comm b y1]
    omega
  omega

end Go.Proofs.Ytldapilhmmbjhaa
