/-
  LISTS OF LIMBS: new ones (Own); append onto nothing; makeSlice; writes. nat.Norm, nat.From, bits.Len64, nat.Length.
-/
import Derived.Test.YtldapilhmmbjhaaNa
namespace Go.Proofs.Ytldapilhmmbjhaa
open Go Ev
set_option linter.unusedVariables false
set_option linter.unusedSimpArgs false
noncomputable section

def limb (x : Nat) : Value := .int .u64 (x : Int)

/-- A new list: its own block, of blocks from n on. -/
inductive Own (n : Nat) (H : AH) : Value → List Nat → Prop
  | nil : Own n H (.slice none 0 0) []
  | mk (b o cap : Nat) (xs : List Nat) (cs : List Value) : xs.length ≤ cap → n ≤ b → b < H.n → H.blk b = .rw 1 cs → o + cap ≤ cs.length → (∀ (i x : Nat), xs[i]? = some x → cs[o + i]? = some (limb x)) →
      Own n H (.slice (some ⟨b, o, none⟩) xs.length cap) xs

theorem Own.sl {n : Nat} {H : AH} {v : Value} {xs : List Nat} (h : Own n H v xs) : Sl H v xs := by
  cases h with
  | nil => exact .nil
  | mk b o cap xs cs h1 h2 h3 h4 h5 h6 => exact .mk b o cap xs h1 ⟨h3, cs, by unfold AH.cells; rw [h4], by unfold AH.size; rw [h4], h6⟩

theorem Own.mono {n m : Nat} {H H' : AH} {v : Value} {xs : List Nat} (h : Own n H v xs) (hn : m ≤ n) (k : Keep H H') : Own m H' v xs := by
  cases h with
  | nil => exact .nil
  | mk b o cap xs cs h1 h2 h3 h4 h5 h6 => exact .mk b o cap xs cs h1 (Nat.le_trans hn h2) (Nat.lt_of_lt_of_le h3 k.n) (by rw [k.blk b h3]; exact h4) h5 h6

theorem AH.blk_new (H : AH) (sz : Nat) (cs : List Value) (j : Nat) : (H.new sz cs).blk j = if j = H.n then .rw sz cs else H.blk j := by
  unfold AH.new AH.blk
  simp only [Tr.get_set]
  by_cases e : j = H.n
  · rw [if_pos e, if_pos e]
  · rw [if_neg e, if_neg e]

theorem Keep.new (H : AH) (sz : Nat) (cs : List Value) : Keep H (H.new sz cs) :=
  ⟨Nat.le_succ _, Nat.min_le_left _ _, fun j hj => by rw [AH.blk_new, if_neg (by omega)]⟩

theorem Own.new (H : AH) (xs : List Nat) : Own H.n (H.new 1 (xs.map limb)) (.slice (some ⟨H.n, 0, none⟩) xs.length xs.length) xs :=
  .mk H.n 0 xs.length xs (xs.map limb) (Nat.le_refl _) (Nat.le_refl _) (Nat.lt_succ_self _) (by rw [AH.blk_new, if_pos rfl]) (by simp) (fun i x h => by simp [h])

theorem list_of {cs : List Value} {o : Nat} {xs : List Nat} (h0 : 0 < xs.length) (h : ∀ (i x : Nat), xs[i]? = some x → cs[o + i]? = some (limb x)) : o + xs.length ≤ cs.length ∧ (cs.drop o).take xs.length = xs.map limb := by
  have hl : o + xs.length ≤ cs.length := by
    have := h (xs.length - 1) _ (List.getElem?_eq_getElem (by omega))
    have := (List.getElem?_eq_some_iff.mp this).1
    omega
  refine ⟨hl, List.ext_getElem? fun i => ?_⟩
  rw [List.getElem?_take, List.getElem?_drop, List.getElem?_map]
  by_cases hi : i < xs.length
  · rw [if_pos hi, List.getElem?_eq_getElem hi, Option.map_some]
    exact h i _ (List.getElem?_eq_getElem hi)
  · rw [if_neg hi, List.getElem?_eq_none (by omega)]; rfl

theorem Sl.cells {H : AH} {v : Value} {xs : List Nat} (h : Sl H v xs) (h0 : 0 < xs.length) : sliceCells H 1 v xs.length = some (xs.map limb) := by
  cases h with
  | nil => cases h0
  | emp b => cases h0
  | mk b o cap xs h1 h2 =>
    obtain ⟨_, cs, h3, h4, h5⟩ := h2
    obtain ⟨h6, h7⟩ := list_of h0 h5
    have : Nat.ble (o + xs.length) cs.length = true := Nat.ble_eq.mpr (by omega)
    simp only [sliceCells, AH.read_def, h3, this, cond_true, Nat.mul_one, h7]

/-- 'append([]T(nil), v...)'. -/
theorem Sl.copyNew {H : AH} {v : Value} {xs : List Nat} (h : Sl H v xs) (hl : xs.length ≤ 17592186044416) {t t2 : TypeId} (ht : LT t) (ht2 : LT t2) :
    ∃ v' H', appendV Try.prog H t t2 (.slice none 0 0) v = some (v', H') ∧ Keep H H' ∧ Own H.n H' v' xs := by
  by_cases h0 : xs.length = 0
  · obtain rfl : xs = [] := List.length_eq_zero_iff.mp h0
    refine ⟨.slice none 0 0, H, ?_, .refl H, .nil⟩
    generalize hn : ([] : List Nat) = ys at h
    cases h with
    | nil => simp [appendV, ht.2, ht2.2]
    | emp b => simp [appendV, ht.2, ht2.2]
    | mk b o cap xs h1 h2 => subst hn; simp [appendV, ht.2, ht2.2]
  · refine ⟨.slice (some ⟨H.n, 0, none⟩) xs.length xs.length, H.new 1 (xs.map limb), ?_, .new _ _ _, .new H xs⟩
    have hc := h.cells (by omega)
    obtain ⟨a, cap, rfl⟩ : ∃ a cap, v = .slice a xs.length cap := by cases h <;> exact ⟨_, _, rfl⟩
    have e1 : Nat.beq xs.length 0 = false := beq_false' h0
    have e2 : Nat.ble (xs.length * 8) 140737488355328 = true := Nat.ble_eq.mpr (by omega)
    have e3 : Nat.ble xs.length 281474976710656 = true := Nat.ble_eq.mpr (by omega)
    simp [appendV, ht.2, ht2.2, e1, e2, e3, hc, zU64, Value.cells]

attribute [local simp] strip stripL LW' gW evOp oMove oAssign oPick oBinOp oUnOp oConvert oExtract oIndexAddr oIndex oLoad oStore oSlice oMakeSlice oCall opd opds optOpd plain plain1 Tr.get_set tmOf builtinV binV isShift sameKind intBin undef resultV resOne packV ltNat ltNum ltLst calleeV

theorem norm_spec {v : Value} {xs : List Nat} {H : AH} (hs : Sl H v xs) (hlen : xs.length ≤ 17592186044416) :
    CW Try.prog cfg0 37 [v] H fun v' H' => Keep H H' ∧ Own H.n H' v' (trimL xs) := by
  refine CW_intro 6 (by decide) (by decide) Try.func37 rfl rfl ?_
  obtain ⟨v1, H1, hc1, e1, hs1⟩ := trim_spec hs (by omega)
  subst e1
  obtain ⟨v2, H2, ha, hk, ho⟩ := hs1.copyNew (by have := trimL_len xs; omega) ltNat ltNat
  apply W_seq; intro b1 hb1
  apply W_region
  simp
  show W _ _ b1 _ _; subst hb1
  apply W_seq; intro b1 hb1
  apply W_region
  simp [hc1, ha]
  show W _ _ b1 _ _; subst hb1
  apply W_ret
  simp
  exact ⟨hk, ho⟩
end
end Go.Proofs.Ytldapilhmmbjhaa
