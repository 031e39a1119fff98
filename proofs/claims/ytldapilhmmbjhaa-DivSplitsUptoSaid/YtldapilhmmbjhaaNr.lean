/-
  PLAIN LAW of div.guess (Knuth's D): the trial digit by the highest digits; what the multiplying and the taking away leave.
-/
import Derived.Test.YtldapilhmmbjhaaNp
namespace Go.Proofs.Ytldapilhmmbjhaa
set_option linter.unusedVariables false

/-- The numbers: V = (y1 B + y0) P + v', U = (u B + d) P + u'. -/
structure Top (B P V U y1 y0 v' u d u' : Nat) : Prop where
  hV : V = (y1 * B + y0) * P + v'
  hU : U = (u * B + d) * P + u'
  vlt : v' < P
  ult : u' < P
  d_lt : d < B
  y0lt : y0 < B
  y1pos : 0 < y1

section
variable {B P V U y1 y0 v' u d u' q r : Nat}

theorem Top.Ppos (T : Top B P V U y1 y0 v' u d u') : 0 < P := Nat.lt_of_le_of_lt (Nat.zero_le _) T.vlt
theorem Top.Bpos (T : Top B P V U y1 y0 v' u d u') : 0 < B := Nat.lt_of_le_of_lt (Nat.zero_le _) T.d_lt

theorem Top.Vge (T : Top B P V U y1 y0 v' u d u') : B * P ≤ V := by
  rw [T.hV]
  have : B * P ≤ (y1 * B + y0) * P := Nat.mul_le_mul_right _ (by
    have : 1 * B ≤ y1 * B := Nat.mul_le_mul_right _ T.y1pos
    omega)
  omega

theorem Top.Vpos (T : Top B P V U y1 y0 v' u d u') : 0 < V := Nat.lt_of_lt_of_le (Nat.mul_pos T.Bpos T.Ppos) T.Vge

theorem Top.Ult (T : Top B P V U y1 y0 v' u d u') : U < (u * B + d + 1) * P := by
  rw [T.hU, Nat.succ_mul]
  have := T.ult
  omega

/-- The digit is at most what the highest digit alone lets. -/
theorem Top.first (T : Top B P V U y1 y0 v' u d u') : U / V ≤ u / y1 := by
  rw [Nat.le_div_iff_mul_le T.y1pos]
  have h1 : U / V * V ≤ U := Nat.div_mul_le_self U V
  have h2 : U / V * (y1 * B * P) ≤ U / V * V := Nat.mul_le_mul_left _ (by
    rw [T.hV, Nat.add_mul]
    omega)
  have h3 := T.Ult
  have h4 : (u * B + d + 1) * P ≤ ((u + 1) * B) * P := Nat.mul_le_mul_right _ (by
    have := T.d_lt
    rw [Nat.succ_mul]; omega)
  have h5 : (U / V * y1) * (B * P) < (u + 1) * (B * P) := by
    rw [Nat.mul_assoc] at h2 h4
    rw [Nat.mul_assoc]
    omega
  have := Nat.lt_of_mul_lt_mul_right h5
  omega

/-- The highest digit is at most the divisor's, and then the digit is less than the base. -/
theorem Top.high {un un1 : Nat} (T : Top B P V U y1 y0 v' (un * B + un1) d u') (h : U < V * B) : un ≤ y1 := by
  rcases Nat.lt_or_ge y1 un with hlt | hge
  · exfalso
    have h1 : V < (y1 + 1) * B * P := by
      rw [T.hV]
      have a : (y1 * B + y0 + 1) * P ≤ (y1 + 1) * B * P := Nat.mul_le_mul_right _ (by have := T.y0lt; rw [Nat.succ_mul]; omega)
      have b := T.vlt
      rw [Nat.succ_mul] at a
      omega
    have h2 : V * B ≤ ((y1 + 1) * B * P) * B := Nat.mul_le_mul_right _ (Nat.le_of_lt h1)
    have h3 : ((y1 + 1) * B * P) * B ≤ U := by
      rw [T.hU]
      have a : ((y1 + 1) * B) * B ≤ (un * B) * B := Nat.mul_le_mul_right _ (Nat.mul_le_mul_right _ hlt)
      have b : ((y1 + 1) * B) * B * P ≤ ((un * B + un1) * B + d) * P := Nat.mul_le_mul_right _ (by
        rw [Nat.add_mul (un * B) un1 B]; omega)
      rw [Nat.mul_right_comm _ P B]
      omega
    omega
  · exact hge

/-- The test holds: the digit is less. -/
theorem Top.true (T : Top B P V U y1 y0 v' u d u') (hq : q * y1 + r = u) (ht : r * B + d < q * y0) : U / V < q := by
  rw [Nat.div_lt_iff_lt_mul T.Vpos]
  have h1 : q * ((y1 * B + y0) * P) ≤ q * V := Nat.mul_le_mul_left _ (by rw [T.hV]; omega)
  have h2 : (u * B + d + 1) * P ≤ (q * (y1 * B + y0)) * P := Nat.mul_le_mul_right _ (by
    rw [← hq, Nat.add_mul, Nat.mul_add, Nat.mul_assoc]; omega)
  have h3 := T.Ult
  rw [Nat.mul_assoc] at h2
  omega

/-- The test fails: the trial is at most one too great. -/
theorem Top.false (T : Top B P V U y1 y0 v' u d u') (hq : q * y1 + r = u) (hlt : q < B) (ht : q * y0 ≤ r * B + d) : q ≤ U / V + 1 := by
  have h1 : q * V ≤ q * ((y1 * B + y0) * P) + q * P := by
    rw [← Nat.mul_add]
    exact Nat.mul_le_mul_left _ (by rw [T.hV]; have := T.vlt; omega)
  have h2 : (q * (y1 * B + y0)) * P ≤ (u * B + d) * P := Nat.mul_le_mul_right _ (by
    rw [← hq, Nat.add_mul, Nat.mul_add, Nat.mul_assoc]; omega)
  rw [Nat.mul_assoc] at h2
  have h3 : q * P < B * P := Nat.mul_lt_mul_of_pos_right hlt T.Ppos
  have h4 := T.Vge
  have h5 : q * V < U + V := by
    have := T.hU
    omega
  have h6 : q * V < (U / V + 2) * V := by
    have a := Nat.div_add_mod U V
    have b := Nat.mod_lt U T.Vpos
    rw [Nat.mul_comm] at a
    rw [Nat.add_mul, Nat.two_mul]
    omega
  have := Nat.lt_of_mul_lt_mul_right h6
  omega
end

/-- What the taking away leaves. -/
theorem take_away {N U V q R b : Nat} (hV : 0 < V) (hge : U / V ≤ q) (hle : q ≤ U / V + 1) (hU : U < N) (hR : R < N) (hb : b ≤ 1) (e : R + q * V = U + N * b) :
    (b = 0 ∧ q = U / V ∧ R = U % V) ∨ (b = 1 ∧ q = U / V + 1 ∧ R + V = N + U % V) := by
  have a := Nat.div_add_mod U V
  have m := Nat.mod_lt U hV
  rw [Nat.mul_comm] at a
  rcases Nat.lt_or_ge (U / V) q with h | h
  · right
    obtain rfl : q = U / V + 1 := by omega
    rw [Nat.add_mul, Nat.one_mul] at e
    have hb1 : b = 1 := by
      rcases Nat.lt_or_ge b 1 with h0 | h0
      · exfalso
        obtain rfl : b = 0 := by omega
        rw [Nat.mul_zero] at e
        omega
      · omega
    subst hb1
    rw [Nat.mul_one] at e
    exact ⟨rfl, rfl, by omega⟩
  · left
    obtain rfl : q = U / V := by omega
    have hb0 : b = 0 := by
      rcases Nat.lt_or_ge b 1 with h0 | h0
      · omega
      · exfalso
        obtain rfl : b = 1 := by omega
        rw [Nat.mul_one] at e
        omega
    subst hb0
    rw [Nat.mul_zero] at e
    exact ⟨rfl, rfl, by omega⟩

/-- A step of the multiplying and taking away. -/
theorem mul_sub_step {B x y q carry borrow : Nat} (hx : x < B) (hq : q < B) (hc : carry < B) (hy : y < B) (hb : borrow ≤ 1) :
    let p := x * q
    let sum := (p % B + carry) % B
    let carry' := p / B + (p % B + carry) / B
    let y' := (y + B - sum - borrow) % B
    let borrow' := if y < sum + borrow then 1 else 0
    carry' < B ∧ y' < B ∧ y' + x * q + carry + borrow = y + B * (carry' + borrow') := by
  intro p sum carry' y' borrow'
  have hB : 0 < B := by omega
  have hp : p ≤ (B - 1) * (B - 1) := Nat.mul_le_mul (by omega) (by omega)
  have e1 := Nat.div_add_mod p B
  have e2 := Nat.div_add_mod (p % B + carry) B
  have hs : sum < B := Nat.mod_lt _ hB
  have hcy : carry' * B + sum = p + carry := by
    show (p / B + (p % B + carry) / B) * B + (p % B + carry) % B = p + carry
    rw [Nat.add_mul, Nat.mul_comm (p / B), Nat.mul_comm ((p % B + carry) / B)]
    omega
  have hcB : carry' < B := by
    have : (B - 1) * (B - 1) + (B - 1) = (B - 1) * B := by
      obtain ⟨b, rfl⟩ : ∃ b, B = b + 1 := ⟨B - 1, by omega⟩
      rw [Nat.add_sub_cancel, Nat.mul_succ]
    have h3 : carry' * B ≤ (B - 1) * B := by omega
    have := Nat.le_of_mul_le_mul_right h3 hB
    omega
  refine ⟨hcB, Nat.mod_lt _ hB, ?_⟩
  show (y + B - sum - borrow) % B + p + carry + borrow = y + B * (carry' + if y < sum + borrow then 1 else 0)
  have key : (y + B - sum - borrow) % B + sum + borrow = y + B * (if y < sum + borrow then 1 else 0) := by
    by_cases h : y < sum + borrow
    · rw [if_pos h, Nat.mod_eq_of_lt (by omega)]; omega
    · rw [if_neg h]
      have : y + B - sum - borrow = (y - sum - borrow) + B := by omega
      rw [this, Nat.add_mod_right, Nat.mod_eq_of_lt (by omega)]; omega
  rw [Nat.mul_add, Nat.mul_comm B carry']
  omega
end Go.Proofs.Ytldapilhmmbjhaa
