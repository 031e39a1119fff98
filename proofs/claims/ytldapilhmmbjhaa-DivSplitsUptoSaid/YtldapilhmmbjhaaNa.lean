/-
  LISTS OF LIMBS in the abstract heap: what a slice value says (Sl); what single operations do on it. nat.trim.
-/
import Derived.Test.YtldapilhmmbjhaaEvQ
import Derived.Test.YtldapilhmmbjhaaCfg
import Derived.Test.YtldapilhmmbjhaaNp
import Derived.Laws.Bits64
import Derived.Laws.BitsLemmas
namespace Go.Proofs.Ytldapilhmmbjhaa
open Go Ev
set_option linter.unusedVariables false
set_option linter.unusedSimpArgs false
noncomputable section

/-! ### the program's types -/
theorem uNat : Try.prog.underlying 24 = some (.slice 55) := by kernel_rfl
theorem uNum : Try.prog.underlying 28 = some (.slice 55) := by kernel_rfl
theorem uLst : Try.prog.underlying 23 = some (.slice 55) := by kernel_rfl
theorem sU64 : sizeT Try.prog 55 = some 1 := by kernel_rfl
theorem aU64 : isAggT Try.prog 55 = some false := by kernel_rfl
theorem tNat : sliceT Try.prog 24 = some (55, 1, 8) := by kernel_rfl
theorem tNum : sliceT Try.prog 28 = some (55, 1, 8) := by kernel_rfl
theorem tLst : sliceT Try.prog 23 = some (55, 1, 8) := by kernel_rfl
theorem zU64 : zeroT Try.prog 55 = some (.int .u64 0) := by kernel_rfl

/-- A type whose values are slices of limbs. -/
def LT (t : TypeId) : Prop := Try.prog.underlying t = some (.slice 55) ∧ sliceT Try.prog t = some (55, 1, 8)
theorem ltNat : LT 24 := ⟨uNat, tNat⟩
theorem ltNum : LT 28 := ⟨uNum, tNum⟩
theorem ltLst : LT 23 := ⟨uLst, tLst⟩

/-! ### what a slice value says -/
/-- The limbs lie in a block from a place on. -/
def At (H : AH) (b o : Nat) (xs : List Nat) : Prop := b < H.n ∧ ∃ cs, H.cells b = some cs ∧ H.size b = some 1 ∧ ∀ (i x : Nat), xs[i]? = some x → cs[o + i]? = some (.int .u64 (x : Int))

/-- A slice value, and its limbs. -/
inductive Sl (H : AH) : Value → List Nat → Prop
  | nil : Sl H (.slice none 0 0) []
  | emp (b : Nat) : Sl H (.slice (some ⟨b, 0, some 0⟩) 0 0) []
  | mk (b o cap : Nat) (xs : List Nat) : xs.length ≤ cap → At H b o xs → Sl H (.slice (some ⟨b, o, none⟩) xs.length cap) xs

/-- Heaps that hold what the other one held. -/
structure Keep (H H' : AH) : Prop where
  n : H.n ≤ H'.n
  lw : min H.lw H.n ≤ H'.lw
  blk : ∀ j, j < H.n → H'.blk j = H.blk j

theorem Keep.refl (H : AH) : Keep H H := ⟨Nat.le_refl _, Nat.min_le_left _ _, fun _ _ => rfl⟩
theorem Keep.trans {H H1 H2 : AH} (a : Keep H H1) (b : Keep H1 H2) : Keep H H2 :=
  ⟨Nat.le_trans a.n b.n, by have := a.n; have := a.lw; have := b.lw; omega, fun j hj => (b.blk j (Nat.lt_of_lt_of_le hj a.n)).trans (a.blk j hj)⟩

theorem At.keep {H H' : AH} {b o : Nat} {xs : List Nat} (h : At H b o xs) (k : Keep H H') : At H' b o xs := by
  obtain ⟨h1, cs, h2, h3, h4⟩ := h
  have e := k.blk b h1
  exact ⟨Nat.lt_of_lt_of_le h1 k.n, cs, by unfold AH.cells; rw [e]; exact h2, by unfold AH.size; rw [e]; exact h3, h4⟩

theorem Sl.keep {H H' : AH} {v : Value} {xs : List Nat} (h : Sl H v xs) (k : Keep H H') : Sl H' v xs := by
  cases h with
  | nil => exact .nil
  | emp b => exact .emp b
  | mk b o cap xs h1 h2 => exact .mk b o cap xs h1 (h2.keep k)

/-! ### single operations -/
theorem Sl.len {H : AH} {v : Value} {xs : List Nat} (h : Sl H v xs) {t : TypeId} (ht : LT t) : lenV Try.prog t v = some xs.length := by
  unfold lenV
  rw [ht.1]
  cases h <;> rfl

/-- The place of a limb. -/
def adr (v : Value) (i : Nat) : Value :=
  match v with
  | .slice (some ⟨b, o, none⟩) _ _ => .pointer (some ⟨b, o + i, none⟩)
  | _ => .pointer none

theorem Sl.adr {H : AH} {v : Value} {xs : List Nat} (h : Sl H v xs) {t : TypeId} (ht : LT t) {i : Nat} {k : IntKind} (hi : i < xs.length) : indexAddrV Try.prog t v (.int k (i : Int)) = some (adr v i) := by
  cases h with
  | nil => cases hi
  | emp b => cases hi
  | mk b o cap xs h1 h2 =>
    unfold indexAddrV Go.Proofs.Ytldapilhmmbjhaa.adr
    simp only [ht.1, sU64]
    rw [if_pos (by omega)]
    simp

theorem Sl.load {H : AH} {v : Value} {xs : List Nat} (h : Sl H v xs) {i : Nat} (hi : i < xs.length) : loadV Try.prog H 55 (Go.Proofs.Ytldapilhmmbjhaa.adr v i) = some (.int .u64 (xs[i] : Nat)) := by
  cases h with
  | nil => cases hi
  | emp b => cases hi
  | mk b o cap xs h1 h2 =>
    obtain ⟨_, cs, h3, h4, h5⟩ := h2
    unfold loadV Go.Proofs.Ytldapilhmmbjhaa.adr
    simp only [aU64, h3]
    exact h5 i _ (List.getElem?_eq_getElem hi)

theorem wrap_nat {n : Nat} (h : n < 9223372036854775808) : IntKind.i64.wrap (n : Int) = (n : Int) := by
  rw [IntKind.wrap_i64]; omega

theorem wrap_sub1 {n : Nat} (h0 : 0 < n) (h : n < 9223372036854775808) : IntKind.i64.wrap ((n : Int) - 1) = ((n - 1 : Nat) : Int) := by
  rw [IntKind.wrap_i64]; omega

/-- The slice 'v[:m]'. -/
theorem Sl.cut {H : AH} {v : Value} {xs : List Nat} (h : Sl H v xs) {t : TypeId} (ht : LT t) {m : Nat} (hm : m ≤ xs.length) (h0 : 0 < xs.length) :
    ∃ v', sliceV Try.prog H t v none (some (.int .i64 (m : Int))) none = some v' ∧ Sl H v' (xs.take m) := by
  cases h with
  | nil => cases h0
  | emp b => cases h0
  | mk b o cap xs h1 h2 =>
    have hl : (xs.take m).length = m := by rw [List.length_take]; omega
    obtain ⟨h2a, cs, h3, h4, h5⟩ := h2
    refine ⟨.slice (some ⟨b, o, none⟩) (xs.take m).length cap, ?_, .mk b o cap _ (by omega) ⟨h2a, cs, h3, h4, fun i x hx => h5 i x ?_⟩⟩
    · unfold sliceV
      simp only [ht.1, sU64]
      unfold cutV boundV
      simp only [h4, Option.isSome_some, Option.isNone_none, Bool.true_or]
      rw [if_pos (by omega)]
      have e1 : Nat.ble m cap = true := Nat.ble_eq.mpr (by omega)
      simp [boundV, e1, hl]
    · rw [List.getElem?_take] at hx
      split at hx
      · exact hx
      · cases hx

/-! ### nat.trim -/
attribute [local simp] strip stripL LW' gW evOp oMove oAssign oPick oBinOp oUnOp oConvert oExtract oIndexAddr oIndex oLoad oStore oSlice oMakeSlice oCall opd opds optOpd plain plain1 Tr.get_set tmOf builtinV binV isShift sameKind intBin undef resultV resOne packV ltNat ltNum ltLst

theorem trim_spec {v : Value} {xs : List Nat} {H : AH} (hs : Sl H v xs) (hlen : xs.length < 1152921504606846976) :
    CW Try.prog cfg0 44 [v] H fun v' H' => H' = H ∧ Sl H v' (trimL xs) := by
  refine CW_intro 21 (by decide) (by decide) Try.func44 rfl rfl ?_
  apply W_seq; intro b1 hb1
  apply W_region
  simp
  show W _ _ b1 _ _; subst hb1
  apply W_seq; intro b1 hb1
  apply W_block
  refine W_loop (fun n s => s.k = 21 ∧ s.H = H ∧ ∃ v', s.tm.get 0 = some v' ∧ n ≤ xs.length ∧ Sl H v' (xs.take n) ∧ trimL (xs.take n) = trimL xs) ?_ xs.length _ ⟨rfl, rfl, v, by simp, Nat.le_refl _, by rw [List.take_length]; exact hs, by rw [List.take_length]⟩
  rintro n ⟨k, tm, H'⟩ ⟨h2, h3, v', h4, h5, h6, h7⟩
  simp only at h2 h3 h4
  subst h2; subst h3
  have hl : (xs.take n).length = n := by rw [List.length_take]; omega
  have hlenv := h6.len ltNat
  rw [hl] at hlenv
  apply W_seq; intro b2 hb2
  apply W_seq; intro b3 hb3
  apply W_region
  by_cases hz : n = 0
  · subst hz
    simp [h4, hlenv]
    show W _ _ b3 _ _; subst hb3
    refine W_cond (t := false) (by simp) ?_
    apply W_exit
    left
    refine ⟨rfl, ?_⟩
    show W _ _ b1 _ _; subst hb1
    apply W_seq; intro b4 hb4
    apply W_region
    simp [h4]
    show W _ _ b4 _ _; subst hb4
    apply W_ret
    simp
    rw [← h7]
    exact h6
  · have hn : 0 < n := Nat.pos_of_ne_zero hz
    have hw : IntKind.i64.wrap ((n : Int) - 1) = ((n - 1 : Nat) : Int) := wrap_sub1 hn (by omega)
    have hi : n - 1 < (xs.take n).length := by omega
    have ha := h6.adr ltNat (k := .i64) hi
    have hld := h6.load hi
    simp [h4, hlenv, hn, hw, ha, hld]
    show W _ _ b3 _ _; subst hb3
    have hx : n - 1 < xs.length := by omega
    have htake : xs.take n = xs.take (n - 1) ++ [xs[n - 1]] := by
      have := List.take_append_getElem (l := xs) (i := n - 1) hx
      rw [this, show n - 1 + 1 = n by omega]
    by_cases h0 : xs[n - 1] = 0
    · refine W_cond (t := true) (by simp [h0]) ?_
      apply W_skip
      show W _ _ b2 _ _; subst hb2
      apply W_block
      apply W_region
      obtain ⟨v2, hv2, hs2⟩ := h6.cut ltNat (m := n - 1) (by omega) (by omega)
      simp [h4, hlenv, hw, hv2]
      refine ⟨n - 1, by omega, rfl, rfl, v2, by simp, by omega, ?_, ?_⟩
      · rw [List.take_take, show min (n - 1) n = n - 1 by omega] at hs2; exact hs2
      · rw [← h7, htake, h0, trimL_snoc0]
    · refine W_cond (t := false) (by simp; exact h0) ?_
      apply W_exit
      left
      refine ⟨rfl, ?_⟩
      show W _ _ b1 _ _; subst hb1
      apply W_seq; intro b4 hb4
      apply W_region
      simp [h4]
      show W _ _ b4 _ _; subst hb4
      apply W_ret
      simp
      rw [← h7]
      have : trimL (xs.take n) = xs.take n := by rw [htake]; exact trimL_snoc _ _ h0
      rw [this]
      exact h6
end
end Go.Proofs.Ytldapilhmmbjhaa
