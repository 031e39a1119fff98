/-
  LISTS OF LIMBS: make, write. div.up.
-/
import Derived.Test.YtldapilhmmbjhaaNe
namespace Go.Proofs.Ytldapilhmmbjhaa
open Go Ev
set_option linter.unusedVariables false
set_option linter.unusedSimpArgs false
noncomputable section

theorem zeros_limb (n : Nat) : zeros (Value.int .u64 0).cells n = (List.replicate n 0).map limb := by
  unfold zeros
  apply List.ext_getElem?
  intro i
  rw [List.getElem?_map, List.getElem?_map, List.getElem?_replicate]
  by_cases h : i < n
  · rw [if_pos h, List.getElem?_range h]
    simp [limb, Value.cells, Nat.mod_one]
  · rw [if_neg h, List.getElem?_eq_none (by simp; omega)]
    rfl

theorem makeSlice_own {H : AH} {t : TypeId} (ht : LT t) {n : Nat} (hn : n ≤ 17592186044416) :
    ∃ v H', makeSliceV Try.prog H t (.int .i64 (n : Int)) (.int .i64 (n : Int)) = some (v, H') ∧ Keep H H' ∧ Own H.n H' v (List.replicate n 0) ∧ H'.n = H.n + 1 := by
  refine ⟨.slice (some ⟨H.n, 0, none⟩) n n, H.new 1 ((List.replicate n 0).map limb), ?_, .new _ _ _, ?_, rfl⟩
  · unfold makeSliceV
    simp only [ht.2, zU64]
    rw [if_pos (by omega)]
    simp only [Int.toNat_natCast, Nat.mul_one, zeros_limb]
  · have := Own.new H (List.replicate n 0)
    rwa [List.length_replicate] at this

/-- A write: the list changes, and nothing else. -/
theorem Own.store {n : Nat} {H : AH} {v : Value} {xs : List Nat} (h : Own n H v xs) {i : Nat} (hi : i < xs.length) (y : Nat) :
    ∃ H', storeV Try.prog H 55 (adr v i) (.int .u64 (y : Int)) = some H' ∧ Own n H' v (xs.set i y) ∧ H'.n = H.n ∧
      ∀ H0, Keep H0 H → H0.n ≤ n → Keep H0 H' := by
  cases h with
  | nil => cases hi
  | mk b o cap xs cs h1 h2 h3 h4 h5 h6 =>
    have hlen : Nat.ble (o + i + 1) cs.length = true := Nat.ble_eq.mpr (by omega)
    have e0 : (Value.int .u64 (y : Int)).cells = #[.int .u64 (y : Int)] := rfl
    have hw : H.write b (o + i) [.int .u64 (y : Int)] = some { n := H.n, lw := min H.lw b, t := H.t.set b (.rw 1 (cs.take (o + i) ++ [.int .u64 (y : Int)] ++ cs.drop (o + i + 1))) } := by
      rw [AH.write_def, h4]
      simp only [List.length_singleton, hlen, Bool.true_and]
      rfl
    refine ⟨{ n := H.n, lw := min H.lw b, t := H.t.set b (.rw 1 (cs.take (o + i) ++ [.int .u64 (y : Int)] ++ cs.drop (o + i + 1))) }, ?_, ?_, rfl, ?_⟩
    · unfold storeV Go.Proofs.Ytldapilhmmbjhaa.adr
      simp only [sU64, e0]
      rw [show Nat.beq (#[Value.int .u64 (y : Int)] : Array Value).size 1 = true from rfl, cond_true]
      exact hw
    · have hl : (xs.set i y).length = xs.length := List.length_set
      rw [← hl]
      refine .mk b o cap _ (cs.take (o + i) ++ [.int .u64 (y : Int)] ++ cs.drop (o + i + 1)) (by omega) h2 h3 ?_ ?_ ?_
      · unfold AH.blk; simp only [Tr.get_set, if_true]
      · simp only [List.length_append, List.length_take, List.length_drop, List.length_singleton]; omega
      · intro j x hj
        rw [List.getElem?_set] at hj
        by_cases e : i = j
        · subst e
          rw [if_pos rfl, if_pos hi] at hj
          cases hj
          rw [List.append_assoc, List.getElem?_append_right (by rw [List.length_take]; omega)]
          rw [List.length_take, show o + i - min (o + i) cs.length = 0 by omega]
          rfl
        · rw [if_neg e] at hj
          have := h6 j x hj
          rcases Nat.lt_or_ge (o + j) (o + i) with hlt | hge
          · rw [List.append_assoc, List.getElem?_append_left (by rw [List.length_take]; omega), List.getElem?_take, if_pos hlt]
            exact this
          · rw [List.getElem?_append_right (by simp only [List.length_append, List.length_take, List.length_singleton]; omega), List.getElem?_drop]
            simp only [List.length_append, List.length_take, List.length_singleton]
            rw [show o + i + 1 + (o + j - (min (o + i) cs.length + 1)) = o + j by omega]
            exact this
    · intro H0 k hn
      refine ⟨k.n, ?_, fun j hj => ?_⟩
      · have := k.lw
        show min H0.lw H0.n ≤ min H.lw b
        omega
      · have : j ≠ b := by omega
        rw [← k.blk j hj]
        unfold AH.blk
        simp only [Tr.get_set, if_neg this]
end
end Go.Proofs.Ytldapilhmmbjhaa
