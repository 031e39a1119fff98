/-
  LISTS OF LIMBS: which block a slice lies in; lists that stay while another block is written; parts of a list.
-/
import Derived.Test.YtldapilhmmbjhaaNm
import Derived.Test.YtldapilhmmbjhaaNr
import Derived.Test.YtldapilhmmbjhaaEvS
namespace Go.Proofs.Ytldapilhmmbjhaa
open Go Ev
set_option linter.unusedVariables false
set_option linter.unusedSimpArgs false
noncomputable section

/-- A slice's block. -/
def vblk : Value → Option Nat
  | .slice (some ⟨b, _, none⟩) _ _ => some b
  | _ => none

/-- Two slices lie in two blocks. -/
def Apart (v w : Value) : Prop := ∀ b, vblk v = some b → vblk w ≠ some b

/-- The same heap, but for one block. -/
structure But (b : Option Nat) (H H' : AH) : Prop where
  n : H'.n = H.n
  blk : ∀ j, j < H.n → b ≠ some j → H'.blk j = H.blk j

theorem But.refl (b : Option Nat) (H : AH) : But b H H := ⟨rfl, fun _ _ _ => rfl⟩
theorem But.trans {b : Option Nat} {H H1 H2 : AH} (x : But b H H1) (y : But b H1 H2) : But b H H2 := ⟨y.n.trans x.n, fun j hn hj => (y.blk j (by rw [x.n]; exact hn) hj).trans (x.blk j hn hj)⟩

theorem At.but {b : Option Nat} {H H' : AH} {c o : Nat} {xs : List Nat} (h : At H c o xs) (k : But b H H') (hb : b ≠ some c) : At H' c o xs := by
  obtain ⟨h1, cs, h2, h3, h4⟩ := h
  have e := k.blk c h1 hb
  exact ⟨by rw [k.n]; exact h1, cs, by unfold AH.cells; rw [e]; exact h2, by unfold AH.size; rw [e]; exact h3, h4⟩

theorem Sl.but {b : Option Nat} {H H' : AH} {v : Value} {xs : List Nat} (h : Sl H v xs) (k : But b H H') (hb : ∀ c, b = some c → vblk v ≠ some c) : Sl H' v xs := by
  cases h with
  | nil => exact .nil
  | emp b => exact .emp b
  | mk c o cap xs h1 h2 => exact .mk c o cap xs h1 (h2.but k fun e => hb c e rfl)

theorem Own.but {b : Option Nat} {n0 : Nat} {H H' : AH} {v : Value} {xs : List Nat} (h : Own n0 H v xs) (k : But b H H') (hb : ∀ c, b = some c → vblk v ≠ some c) : Own n0 H' v xs := by
  cases h with
  | nil => exact .nil
  | mk c o cap xs cs h1 h2 h3 h4 h5 h6 => exact .mk c o cap xs cs h1 h2 (by rw [k.n]; exact h3) (by rw [k.blk c h3 fun e => hb c e rfl]; exact h4) h5 h6

theorem Own.blk_lo {n0 : Nat} {H : AH} {v : Value} {xs : List Nat} (h : Own n0 H v xs) {b : Nat} (hb : vblk v = some b) : n0 ≤ b ∧ b < H.n := by
  cases h with
  | nil => cases hb
  | mk c o cap xs cs h1 h2 h3 h4 h5 h6 => cases hb; exact ⟨h2, h3⟩

theorem Sl.blk_lt {H : AH} {v : Value} {xs : List Nat} (h : Sl H v xs) {b : Nat} (hb : vblk v = some b) : b < H.n := by
  cases h with
  | nil => cases hb
  | emp _ => cases hb
  | mk c o cap xs h1 h2 => cases hb; exact h2.1

/-- A write: the list changes, and no other block. -/
theorem Own.put {n : Nat} {H : AH} {v : Value} {xs : List Nat} (h : Own n H v xs) {i : Nat} (hi : i < xs.length) (y : Nat) :
    ∃ H', storeV Try.prog H 55 (adr v i) (.int .u64 (y : Int)) = some H' ∧ Own n H' v (xs.set i y) ∧ H'.n = H.n ∧ (∀ j, vblk v ≠ some j → H'.blk j = H.blk j) ∧
      ∀ H0, Keep H0 H → H0.n ≤ n → Keep H0 H' := by
  cases h with
  | nil => cases hi
  | mk b o cap xs cs h1 h2 h3 h4 h5 h6 =>
    have hlen : Nat.ble (o + i + 1) cs.length = true := Nat.ble_eq.mpr (by omega)
    have e0 : (Value.int .u64 (y : Int)).cells = #[.int .u64 (y : Int)] := rfl
    have hw : H.write b (o + i) [.int .u64 (y : Int)] = some { n := H.n, lw := min H.lw b, t := H.t.set b (.rw 1 (cs.take (o + i) ++ [.int .u64 (y : Int)] ++ cs.drop (o + i + 1))) } := by
      rw [AH.write_def, h4]
      simp only [List.length_singleton, hlen, Bool.true_and]
      rfl
    refine ⟨{ n := H.n, lw := min H.lw b, t := H.t.set b (.rw 1 (cs.take (o + i) ++ [.int .u64 (y : Int)] ++ cs.drop (o + i + 1))) }, ?_, ?_, rfl, ?_, ?_⟩
    · unfold storeV Go.Proofs.Ytldapilhmmbjhaa.adr
      simp only [sU64, e0]
      rw [show Nat.beq (#[Value.int .u64 (y : Int)] : Array Value).size 1 = true from rfl, cond_true]
      exact hw
    · have hl : (xs.set i y).length = xs.length := List.length_set
      rw [← hl]
      refine .mk b o cap _ (cs.take (o + i) ++ [.int .u64 (y : Int)] ++ cs.drop (o + i + 1)) (by omega) h2 h3 ?_ ?_ ?_
      · unfold AH.blk; simp only [Tr.get_set, if_true]
      · simp only [List.length_append, List.length_take, List.length_drop, List.length_singleton]; omega
      · intro j x hj
        rw [List.getElem?_set] at hj
        by_cases e : i = j
        · subst e
          rw [if_pos rfl, if_pos hi] at hj
          cases hj
          rw [List.append_assoc, List.getElem?_append_right (by rw [List.length_take]; omega)]
          rw [List.length_take, show o + i - min (o + i) cs.length = 0 by omega]
          rfl
        · rw [if_neg e] at hj
          have := h6 j x hj
          rcases Nat.lt_or_ge (o + j) (o + i) with hlt | hge
          · rw [List.append_assoc, List.getElem?_append_left (by rw [List.length_take]; omega), List.getElem?_take, if_pos hlt]
            exact this
          · rw [List.getElem?_append_right (by simp only [List.length_append, List.length_take, List.length_singleton]; omega), List.getElem?_drop]
            simp only [List.length_append, List.length_take, List.length_singleton]
            rw [show o + i + 1 + (o + j - (min (o + i) cs.length + 1)) = o + j by omega]
            exact this
    · intro j hj
      have : j ≠ b := fun e => hj (by rw [e]; rfl)
      unfold AH.blk
      simp only [Tr.get_set, if_neg this]
    · intro H0 k hn
      refine ⟨k.n, ?_, fun j hj => ?_⟩
      · have := k.lw
        show min H0.lw H0.n ≤ min H.lw b
        omega
      · have : j ≠ b := by omega
        rw [← k.blk j hj]
        unfold AH.blk
        simp only [Tr.get_set, if_neg this]

/-- A slice whose limbs are another's, from a place on. -/
def View (w v : Value) (j m : Nat) : Prop := ∀ (t : TypeId), LT t → ∀ (k : IntKind) (i : Nat), i < m → indexAddrV Try.prog t w (.int k (i : Int)) = some (adr v (j + i))

/-- 'v[j:j+m]' of a list. -/
theorem Sl.part {H : AH} {v : Value} {xs : List Nat} (h : Sl H v xs) {t : TypeId} (ht : LT t) {j m : Nat} (hm : j + m ≤ xs.length) (h0 : 0 < m) :
    ∃ w, sliceV Try.prog H t v (some (.int .i64 (j : Int))) (some (.int .i64 ((j + m : Nat) : Int))) none = some w ∧ Sl H w ((xs.drop j).take m) ∧ View w v j m ∧ vblk w = vblk v := by
  cases h with
  | nil => simp at hm; omega
  | emp b => simp at hm; omega
  | mk b o cap xs h1 h2 =>
    have hl : ((xs.drop j).take m).length = m := by rw [List.length_take, List.length_drop]; omega
    obtain ⟨h2a, cs, h3, h4, h5⟩ := h2
    refine ⟨.slice (some ⟨b, o + j, none⟩) ((xs.drop j).take m).length (cap - j), ?_, .mk b (o + j) (cap - j) _ (by omega) ⟨h2a, cs, h3, h4, fun i x hx => ?_⟩, ?_, rfl⟩
    · unfold sliceV
      simp only [ht.1, sU64]
      unfold cutV boundV
      simp only [h4, Option.isSome_some, Option.isNone_none, Bool.true_or]
      rw [if_pos (by omega)]
      have e1 : Nat.ble (j + m) cap = true := Nat.ble_eq.mpr (by omega)
      have e2 : Nat.blt j cap = true := by rw [Nat.blt_eq]; omega
      simp only [boundV, Int.toNat_natCast]
      rw [if_pos (by omega)]
      simp [e1, e2, hl]
    · rw [List.getElem?_take] at hx
      split at hx
      · rw [List.getElem?_drop] at hx
        have := h5 (j + i) x hx
        rwa [← Nat.add_assoc] at this
      · cases hx
    · intro t ht k i hi
      unfold indexAddrV Go.Proofs.Ytldapilhmmbjhaa.adr
      simp only [ht.1, sU64]
      rw [if_pos (by omega)]
      simp [Nat.add_assoc]
end
end Go.Proofs.Ytldapilhmmbjhaa
