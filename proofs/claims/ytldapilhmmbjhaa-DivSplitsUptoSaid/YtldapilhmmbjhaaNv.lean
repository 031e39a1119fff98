/-
  HEAPS OF DRAWN REGIONS: as an operation sees them (top), behind new blocks (grown), behind a write (low).
-/
import Derived.Test.YtldapilhmmbjhaaNu
namespace Go.Proofs.Ytldapilhmmbjhaa
open Go Ev
set_option linter.unusedVariables false
set_option linter.unusedSimpArgs false
noncomputable section

theorem Keep.top {H0 H : AH} (k : Keep H0 H) : Keep H0 H.top := ⟨k.n, by have := k.n; show min H0.lw H0.n ≤ H.n; omega, k.blk⟩
theorem keep_top (H : AH) : Keep H H.top := (Keep.refl H).top
theorem Sl.top {H : AH} {v : Value} {xs : List Nat} (h : Sl H v xs) : Sl H.top v xs := h.keep (keep_top H)
theorem Own.top {n : Nat} {H : AH} {v : Value} {xs : List Nat} (h : Own n H v xs) : Own n H.top v xs := h.mono (Nat.le_refl _) (keep_top H)

theorem vis_top {H : AH} {bits : Nat} {ms : List (Nat × Nat × Nat)} (h : hidden bits ms = []) : vis H bits ms = H.top := by
  unfold vis
  rw [h]; rfl

theorem addT_blk (t : Tr Blk) (H2 : AH) (n : Nat) : ∀ (k j : Nat), (addT t H2 n k).get j = if n ≤ j ∧ j < n + k then some (H2.blk j) else t.get j
  | 0, j => by rw [if_neg (by omega)]; rfl
  | k + 1, j => by
    simp only [addT, Tr.get_set]
    by_cases e : j = n + k
    · subst e; rw [if_pos rfl, if_pos (by omega)]
    · rw [if_neg e, addT_blk t H2 n k j]
      by_cases c : n ≤ j ∧ j < n + k
      · rw [if_pos c, if_pos (by omega)]
      · rw [if_neg c, if_neg (by omega)]

/-- The heap behind an operation that only made new blocks is as the operation left it. -/
theorem grown_but {H H2 : AH} (k : Keep H.top H2) : But none H2 (grown H H2) := by
  refine ⟨rfl, fun j hj _ => ?_⟩
  unfold AH.blk grown
  simp only [addT_blk]
  by_cases c : H.n ≤ j
  · have := k.n
    have : H.n ≤ H2.n := this
    rw [if_pos (by omega)]
    rfl
  · rw [if_neg (by omega)]
    exact (k.blk j (by show j < H.n; omega)).symm

theorem grown_keep {H0 H H2 : AH} (k0 : Keep H0 H) (k : Keep H.top H2) : Keep H0 (grown H H2) := by
  refine ⟨Nat.le_trans k0.n k.n, k0.lw, fun j hj => ?_⟩
  have hn := k0.n
  have : j < H.n := by omega
  unfold grown AH.blk
  simp only [addT_blk]
  rw [if_neg (by omega)]
  exact k0.blk j hj

theorem keep_lw {H H2 : AH} (k : Keep H.top H2) : H.n ≤ H2.lw := by have := k.lw; have : min H.n H.n ≤ H2.lw := this; omega

theorem low_but (H H2 : AH) : But none H2 (low H H2) := ⟨rfl, fun j _ _ => rfl⟩
theorem low_ka {n0 : Nat} {H H2 : AH} (h : KA n0 H.top H2) : KA n0 H (low H H2) := fun H0 k hn => by
  have k2 := h H0 k.top hn
  refine ⟨k2.n, ?_, k2.blk⟩
  have := k.lw
  have := k2.lw
  show min H0.lw H0.n ≤ min H.lw H2.lw
  omega
theorem But.none {b : Option Nat} {H H' H2 : AH} (k : But b H H') (k2 : But none H' H2) : But b H H2 :=
  ⟨k2.n.trans k.n, fun j hn hj => (k2.blk j (by rw [k.n]; exact hn) (fun e => by cases e)).trans (k.blk j hn hj)⟩
theorem Sl.same {H H' : AH} {v : Value} {xs : List Nat} (h : Sl H v xs) (k : But none H H') : Sl H' v xs := h.but k fun c e => by cases e
theorem Own.same {n : Nat} {H H' : AH} {v : Value} {xs : List Nat} (h : Own n H v xs) (k : But none H H') : Own n H' v xs := h.but k fun c e => by cases e
theorem But.top {b : Option Nat} {H H' : AH} (k : But b H.top H') : But b H H' := ⟨k.n, k.blk⟩

theorem Own.store_lw {n : Nat} {H H' : AH} {v : Value} {xs : List Nat} (h : Own n H v xs) {i : Nat} (hi : i < xs.length) {y : Nat} (st : storeV Try.prog H.top 55 (adr v i) (.int .u64 (y : Int)) = some H') : H'.lw < H.n := by
  cases h with
  | nil => cases hi
  | mk b o cap xs cs h1 h2 h3 h4 h5 h6 =>
    unfold storeV adr at st
    simp only [sU64] at st
    have h4' : H.top.blk b = .rw 1 cs := h4
    rw [show Nat.beq (Value.int .u64 (y : Int)).cells.size 1 = true from rfl, cond_true, AH.write_def, h4'] at st
    simp only at st
    cases hc : (Nat.ble (o + i + (Value.int .u64 (y : Int)).cells.toList.length) cs.length && (Value.int .u64 (y : Int)).cells.toList.all one) with
    | false => rw [hc] at st; cases st
    | true =>
      rw [hc, cond_true] at st
      cases st
      show min H.n b < H.n
      omega

/-- A write of a drawn region. -/
theorem Own.putTop {n : Nat} {H : AH} {v : Value} {xs : List Nat} (h : Own n H v xs) {i : Nat} (hi : i < xs.length) (y : Nat) :
    ∃ H2, storeV Try.prog H.top 55 (adr v i) (.int .u64 (y : Int)) = some H2 ∧ H2.n = H.n ∧ H2.lw < H.n ∧ Own n (low H H2) v (xs.set i y) ∧ But (vblk v) H (low H H2) ∧ KA n H (low H H2) := by
  obtain ⟨H2, h1, h2, h3, h4, h5⟩ := h.top.put hi y
  exact ⟨H2, h1, h3, h.store_lw hi h1, h2.same (low_but H H2), (But.none (b := vblk v) (H := H) (H' := H2) ⟨h3, fun j _ hj => h4 j hj⟩ (low_but H H2)), low_ka h5⟩
end
end Go.Proofs.Ytldapilhmmbjhaa
