/-
  div.guess: the walk.
-/
import Derived.Test.YtldapilhmmbjhaaNs
namespace Go.Proofs.Ytldapilhmmbjhaa
open Go Ev
set_option linter.unusedVariables false
set_option linter.unusedSimpArgs false
noncomputable section

/-- What lay there before stays. -/
def KA (n0 : Nat) (H H1 : AH) : Prop := ∀ H0, Keep H0 H → H0.n ≤ n0 → Keep H0 H1
theorem KA.refl (n0 : Nat) (H : AH) : KA n0 H H := fun _ k _ => k
theorem KA.trans {n0 : Nat} {H H1 H2 : AH} (a : KA n0 H H1) (b : KA n0 H1 H2) : KA n0 H H2 := fun H0 k h => b H0 (a H0 k h) h

theorem Own.segload {n0 : Nat} {H : AH} {U0 : Value} {pre us post : List Nat} (h : Own n0 H U0 (pre ++ us ++ post)) {j : Nat} (hj : pre.length = j) {i : Nat} (hi : i < us.length) :
    loadV Try.prog H 55 (adr U0 (j + i)) = some (.int .u64 (us[i] : Nat)) := by
  subst hj
  have := h.sl.load (i := pre.length + i) (by simp; omega)
  rw [this]
  congr 3
  rw [List.getElem_append_left (by simp; omega), List.getElem_append_right (by omega)]
  simp

theorem Own.segstore {n0 : Nat} {H : AH} {U0 : Value} {pre us post : List Nat} (h : Own n0 H U0 (pre ++ us ++ post)) {j : Nat} (hj : pre.length = j) {i : Nat} (hi : i < us.length) (y : Nat) :
    ∃ H', storeV Try.prog H 55 (adr U0 (j + i)) (.int .u64 (y : Int)) = some H' ∧ Own n0 H' U0 (pre ++ us.set i y ++ post) ∧ But (vblk U0) H H' ∧ KA n0 H H' := by
  subst hj
  obtain ⟨H', h1, h2, h3, h4, h5⟩ := h.put (i := pre.length + i) (by simp; omega) y
  refine ⟨H', h1, ?_, ⟨h3, fun j _ => h4 j⟩, h5⟩
  rw [List.set_append_left _ _ (by simp; omega), List.set_append_right _ _ (by omega), Nat.add_sub_cancel_left] at h2
  exact h2

theorem add64_call0 (x y : Nat) (H : AH) : callI Try.prog cfg0 49 [.int .u64 (x : Int), .int .u64 (y : Int), .int .u64 0] H =
    some (.tuple #[.int .u64 (((x + y) % B64 : Nat) : Int), .int .u64 (((x + y) / B64 : Nat) : Int)], H) := add64_call x y 0 H (by omega)

theorem mul64_call {x y : Nat} (hx : x < B64) (hy : y < B64) (H : AH) : callI Try.prog cfg0 74 [.int .u64 (x : Int), .int .u64 (y : Int)] H =
    some (.tuple #[.int .u64 ((x * y / B64 : Nat) : Int), .int .u64 ((x * y % B64 : Nat) : Int)], H) := by
  obtain ⟨v, H', h, rfl, rfl⟩ := mul64_spec hx hy (H := H)
  exact h

theorem div64_call {h l y : Nat} (hh : h < y) (hl : l < B64) (hy : y < B64) (H : AH) : callI Try.prog cfg0 55 [.int .u64 (h : Int), .int .u64 (l : Int), .int .u64 (y : Int)] H =
    some (.tuple #[.int .u64 (((h * B64 + l) / y : Nat) : Int), .int .u64 (((h * B64 + l) % y : Nat) : Int)], H) := by
  obtain ⟨v, H', h, rfl, rfl⟩ := div64_spec hh hl hy (H := H)
  exact h

theorem neq0_u64 {x : Nat} : intBin .neq .u64 (x : Int) 0 = some (.bool (decide (x ≠ 0))) := neq_nat (y := 0)
theorem sub2_i64 {x : Nat} (h : x < 9223372036854775808) (hx : 2 ≤ x) : intBin .sub .i64 (x : Int) 2 = some (.int .i64 ((x - 2 : Nat) : Int)) := sub_i64 (x := x) (y := 2) h hx
theorem add_u64_lt {x y : Nat} (h : x + y < B64) : intBin .add .u64 (x : Int) (y : Int) = some (.int .u64 ((x + y : Nat) : Int)) := by rw [add_u64, Nat.mod_eq_of_lt h]

theorem split_last {xs : List Nat} {n : Nat} (h : xs.length = n + 1) : xs = xs.take n ++ [xs[n]'(by omega)] := by
  have := List.take_append_getElem (l := xs) (i := n) (by omega)
  rw [this, ← h, List.take_length]

/-- The highest digits. -/
theorem top_of {us vs : List Nat} {n : Nat} (hu : us.length = n + 1) (hv : vs.length = n) (h2 : 2 ≤ n) (du : Dig B64 us) (dv' : Dig B64 vs) (hp : 0 < vs[n - 1]'(by omega)) :
    Top B64 (B64 ^ (n - 2)) (dv B64 vs) (dv B64 us) (vs[n - 1]'(by omega)) (vs[n - 2]'(by omega)) (dv B64 (vs.take (n - 2))) ((us[n]'(by omega)) * B64 + us[n - 1]'(by omega)) (us[n - 2]'(by omega)) (dv B64 (us.take (n - 2))) := by
  obtain ⟨m, rfl⟩ : ∃ m, n = m + 2 := ⟨n - 2, by omega⟩
  simp only [Nat.add_sub_cancel, show m + 2 - 1 = m + 1 by omega] at hp ⊢
  have e1 : vs = vs.take m ++ [vs[m]'(by omega), vs[m + 1]'(by omega)] := by
    have a := split_last (n := m + 1) hv
    have b := take_snoc (xs := vs) (i := m) (by omega)
    rw [b, List.append_assoc] at a
    exact a
  have e2 : us = us.take m ++ [us[m]'(by omega), us[m + 1]'(by omega), us[m + 2]'(by omega)] := by
    have a := split_last (n := m + 2) hu
    have b := take_snoc (xs := us) (i := m + 1) (by omega)
    have c := take_snoc (xs := us) (i := m) (by omega)
    rw [b, c, List.append_assoc, List.append_assoc] at a
    exact a
  have l1 : (vs.take m).length = m := by rw [List.length_take]; omega
  have l2 : (us.take m).length = m := by rw [List.length_take]; omega
  refine ⟨?_, ?_, ?_, ?_, du.get (List.getElem?_eq_getElem (by omega)), dv'.get (List.getElem?_eq_getElem (by omega)), hp⟩
  · have := congrArg (dv B64) e1
    rw [this, dv_append, l1]
    simp only [dv, Nat.mul_zero, Nat.add_zero]
    rw [Nat.add_comm, Nat.mul_comm (B64 ^ m), Nat.mul_comm B64, Nat.add_comm (vs[m])]
  · have := congrArg (dv B64) e2
    rw [this, dv_append, l2]
    simp only [dv, Nat.mul_zero, Nat.add_zero]
    rw [Nat.add_comm, Nat.mul_comm (B64 ^ m), Nat.mul_comm B64 (us[m + 1] + _), Nat.add_comm (us[m + 1]), Nat.mul_comm B64 us[m + 2], Nat.add_comm (us[m])]
  · have := dv_lt (dv'.take m)
    rwa [l1] at this
  · have := dv_lt (du.take m)
    rwa [l2] at this
end
end Go.Proofs.Ytldapilhmmbjhaa
