/-
  LISTS OF LIMBS: append; lists that are written out; make with room. Heaps that have grown but for one block.
-/
import Derived.Test.YtldapilhmmbjhaaNx
namespace Go.Proofs.Ytldapilhmmbjhaa
open Go Ev
set_option linter.unusedVariables false
set_option linter.unusedSimpArgs false
noncomputable section

/-- The same heap, but for one block, and perhaps new ones. -/
structure Mod (b : Option Nat) (H H' : AH) : Prop where
  n : H.n ≤ H'.n
  blk : ∀ j, j < H.n → b ≠ some j → H'.blk j = H.blk j

theorem Mod.refl (b : Option Nat) (H : AH) : Mod b H H := ⟨Nat.le_refl _, fun _ _ _ => rfl⟩
theorem Mod.trans {b : Option Nat} {H H1 H2 : AH} (x : Mod b H H1) (y : Mod b H1 H2) : Mod b H H2 := ⟨Nat.le_trans x.n y.n, fun j hn hj => (y.blk j (Nat.lt_of_lt_of_le hn x.n) hj).trans (x.blk j hn hj)⟩
theorem Keep.mod {H H' : AH} (k : Keep H H') : Mod none H H' := ⟨k.n, fun j hj _ => k.blk j hj⟩
theorem But.mod {b : Option Nat} {H H' : AH} (k : But b H H') : Mod b H H' := ⟨Nat.le_of_eq k.n.symm, k.blk⟩
theorem Mod.any {b : Option Nat} {H H' : AH} (k : Mod none H H') : Mod b H H' := ⟨k.n, fun j hj _ => k.blk j hj (fun e => by cases e)⟩

theorem Sl.mod {b : Option Nat} {H H' : AH} {v : Value} {xs : List Nat} (h : Sl H v xs) (k : Mod b H H') (hb : ∀ c, b = some c → vblk v ≠ some c) : Sl H' v xs := by
  cases h with
  | nil => exact .nil
  | emp b => exact .emp b
  | mk c o cap xs h1 h2 =>
    obtain ⟨h3, cs, h4, h5, h6⟩ := h2
    have e := k.blk c h3 fun e => hb c e rfl
    exact .mk c o cap xs h1 ⟨Nat.lt_of_lt_of_le h3 k.n, cs, by unfold AH.cells; rw [e]; exact h4, by unfold AH.size; rw [e]; exact h5, h6⟩

theorem Own.mod {b : Option Nat} {n0 : Nat} {H H' : AH} {v : Value} {xs : List Nat} (h : Own n0 H v xs) (k : Mod b H H') (hb : ∀ c, b = some c → vblk v ≠ some c) : Own n0 H' v xs := by
  cases h with
  | nil => exact .nil
  | mk c o cap xs cs h1 h2 h3 h4 h5 h6 => exact .mk c o cap xs cs h1 h2 (Nat.lt_of_lt_of_le h3 k.n) (by rw [k.blk c h3 fun e => hb c e rfl]; exact h4) h5 h6

theorem AH.blk_kill (H : AH) (i j : Nat) : (H.kill i).blk j = if j = i then .dead else H.blk j := by
  unfold AH.kill AH.blk
  simp only [Tr.get_set]
  by_cases e : j = i
  · rw [if_pos e, if_pos e]
  · rw [if_neg e, if_neg e]

theorem one_limbs (xs : List Nat) : (xs.map limb).all one = true := by
  rw [List.all_eq_true]
  intro v hv
  obtain ⟨x, _, rfl⟩ := List.mem_map.mp hv
  rfl

theorem Own.append {n0 : Nat} {H : AH} {v w : Value} {xs ys : List Nat} (h : Own n0 H v xs) (hn : n0 ≤ H.n) (hw : Sl H w ys) (hl : xs.length + ys.length ≤ 17592186044416) {t t2 : TypeId} (ht : LT t) (ht2 : LT t2) :
    ∃ v' H', appendV Try.prog H t t2 v w = some (v', H') ∧ Own n0 H' v' (xs ++ ys) ∧ Mod (vblk v) H H' ∧ KA n0 H H' := by
  by_cases h0 : ys.length = 0
  · obtain rfl : ys = [] := List.length_eq_zero_iff.mp h0
    refine ⟨v, H, ?_, by simpa using h, .refl _ _, .refl _ _⟩
    have hv : ∃ a l c, v = .slice a l c := by cases h <;> exact ⟨_, _, _, rfl⟩
    obtain ⟨a, l, c, rfl⟩ := hv
    have hwv : ∃ a c, w = .slice a 0 c := by
      generalize hz : ([] : List Nat) = zs at hw
      cases hw with
      | nil => exact ⟨_, _, rfl⟩
      | emp b => exact ⟨_, _, rfl⟩
      | mk b o cap xs h1 h2 => subst hz; exact ⟨_, _, rfl⟩
    obtain ⟨a2, c2, rfl⟩ := hwv
    simp [appendV, ht.2, ht2.2]
  · have hc := hw.cells (by omega)
    obtain ⟨a2, cap2, rfl⟩ : ∃ a cap, w = .slice a ys.length cap := by cases hw <;> exact ⟨_, _, rfl⟩
    have e1 : Nat.beq ys.length 0 = false := beq_false' h0
    cases h with
    | nil =>
      refine ⟨.slice (some ⟨H.n, 0, none⟩) ys.length ys.length, H.new 1 (ys.map limb), ?_, ?_, (Keep.new H 1 _).mod, ?_⟩
      · have e2 : Nat.ble (ys.length * 8) 140737488355328 = true := Nat.ble_eq.mpr (by simp at hl; omega)
        have e3 : Nat.ble ys.length 281474976710656 = true := Nat.ble_eq.mpr (by simp at hl; omega)
        simp [appendV, ht.2, ht2.2, e1, e2, e3, hc, zU64, Value.cells]
      · have := Own.new H ys
        simp only [List.nil_append]
        exact this.mono hn (.refl _)
      · intro H0 k _
        exact k.trans (Keep.new H 1 _)
    | mk b o cap xs cs h1 h2 h3 h4 h5 h6 =>
      have e2 : Nat.ble ((xs.length + ys.length) * 8) 140737488355328 = true := Nat.ble_eq.mpr (by omega)
      have e3 : Nat.ble (xs.length + ys.length) 281474976710656 = true := Nat.ble_eq.mpr (by omega)
      have e4 : Nat.ble (o + xs.length) cs.length = true := Nat.ble_eq.mpr (by omega)
      have e5 : (cs.drop o).take xs.length = xs.map limb := by
        rcases Nat.eq_zero_or_pos xs.length with h | h
        · have : xs = [] := List.length_eq_zero_iff.mp h
          subst this; simp
        · exact (list_of h h6).2
      have eH : (H.kill b).n = H.n := rfl
      refine ⟨.slice (some ⟨H.n, 0, none⟩) (xs ++ ys).length (xs ++ ys).length, (H.kill b).new 1 ((xs ++ ys).map limb), ?_, ?_, ?_, ?_⟩
      · have e6 : Nat.beq 1 1 = true := rfl
        have e7 : ys.all (one ∘ limb) = true := by rw [List.all_eq_true]; intro x _; rfl
        simp [appendV, ht.2, ht2.2, e1, e2, e3, e4, e5, hc, zU64, Value.cells, h4, e7]
      · refine .mk H.n 0 _ _ ((xs ++ ys).map limb) (Nat.le_refl _) hn ?_ ?_ (by simp) (fun i x h => by rw [Nat.zero_add, List.getElem?_map, h]; rfl)
        · show H.n < H.n + 1; omega
        · rw [AH.blk_new, if_pos eH.symm]
      · refine ⟨by show H.n ≤ H.n + 1; omega, fun j hj hb => ?_⟩
        rw [AH.blk_new, if_neg (by rw [eH]; omega), AH.blk_kill, if_neg (by intro e; subst e; exact hb rfl)]
      · intro H0 k hn0
        have := k.n
        refine ⟨by show H0.n ≤ H.n + 1; omega, ?_, fun j hj => ?_⟩
        · have := k.lw
          show min H0.lw H0.n ≤ min H.lw b
          omega
        · rw [AH.blk_new, if_neg (by rw [eH]; omega), AH.blk_kill, if_neg (by omega)]
          exact k.blk j hj

/-- append of something: the result lies in a new block. -/
theorem Own.appendN {n0 : Nat} {H : AH} {v w : Value} {xs ys : List Nat} (h : Own n0 H v xs) (hn : n0 ≤ H.n) (hw : Sl H w ys) (h0 : ¬ ys.length = 0) (hl : xs.length + ys.length ≤ 17592186044416) {t t2 : TypeId} (ht : LT t) (ht2 : LT t2) :
    ∃ v' H', appendV Try.prog H t t2 v w = some (v', H') ∧ Own H.n H' v' (xs ++ ys) ∧ Mod (vblk v) H H' ∧ KA n0 H H' := by
  have hc := hw.cells (by omega)
  obtain ⟨a2, cap2, rfl⟩ : ∃ a cap, w = .slice a ys.length cap := by cases hw <;> exact ⟨_, _, rfl⟩
  have e1 : Nat.beq ys.length 0 = false := beq_false' h0
  cases h with
  | nil =>
    refine ⟨.slice (some ⟨H.n, 0, none⟩) ys.length ys.length, H.new 1 (ys.map limb), ?_, ?_, (Keep.new H 1 _).mod, ?_⟩
    · have e2 : Nat.ble (ys.length * 8) 140737488355328 = true := Nat.ble_eq.mpr (by simp at hl; omega)
      have e3 : Nat.ble ys.length 281474976710656 = true := Nat.ble_eq.mpr (by simp at hl; omega)
      simp [appendV, ht.2, ht2.2, e1, e2, e3, hc, zU64, Value.cells]
    · have := Own.new H ys
      simp only [List.nil_append]
      exact this
    · intro H0 k _
      exact k.trans (Keep.new H 1 _)
  | mk b o cap xs cs h1 h2 h3 h4 h5 h6 =>
    have e2 : Nat.ble ((xs.length + ys.length) * 8) 140737488355328 = true := Nat.ble_eq.mpr (by omega)
    have e3 : Nat.ble (xs.length + ys.length) 281474976710656 = true := Nat.ble_eq.mpr (by omega)
    have e4 : Nat.ble (o + xs.length) cs.length = true := Nat.ble_eq.mpr (by omega)
    have e5 : (cs.drop o).take xs.length = xs.map limb := by
      rcases Nat.eq_zero_or_pos xs.length with h | h
      · have : xs = [] := List.length_eq_zero_iff.mp h
        subst this; simp
      · exact (list_of h h6).2
    have eH : (H.kill b).n = H.n := rfl
    refine ⟨.slice (some ⟨H.n, 0, none⟩) (xs ++ ys).length (xs ++ ys).length, (H.kill b).new 1 ((xs ++ ys).map limb), ?_, ?_, ?_, ?_⟩
    · have e6 : Nat.beq 1 1 = true := rfl
      have e7 : ys.all (one ∘ limb) = true := by rw [List.all_eq_true]; intro x _; rfl
      simp [appendV, ht.2, ht2.2, e1, e2, e3, e4, e5, hc, zU64, Value.cells, h4, e7]
    · refine .mk H.n 0 _ _ ((xs ++ ys).map limb) (Nat.le_refl _) (Nat.le_refl _) ?_ ?_ (by simp) (fun i x h => by rw [Nat.zero_add, List.getElem?_map, h]; rfl)
      · show H.n < H.n + 1; omega
      · rw [AH.blk_new, if_pos eH.symm]
    · refine ⟨by show H.n ≤ H.n + 1; omega, fun j hj hb => ?_⟩
      rw [AH.blk_new, if_neg (by rw [eH]; omega), AH.blk_kill, if_neg (by intro e; subst e; exact hb rfl)]
    · intro H0 k hn0
      have := k.n
      refine ⟨by show H0.n ≤ H.n + 1; omega, ?_, fun j hj => ?_⟩
      · have := k.lw
        show min H0.lw H0.n ≤ min H.lw b
        omega
      · rw [AH.blk_new, if_neg (by rw [eH]; omega), AH.blk_kill, if_neg (by omega)]
        exact k.blk j hj

theorem makeCap_own {H : AH} {t : TypeId} (ht : LT t) {n : Nat} (hn : n ≤ 17592186044416) :
    ∃ v H', makeSliceV Try.prog H t (.int .i64 0) (.int .i64 (n : Int)) = some (v, H') ∧ Keep H H' ∧ Own H.n H' v [] := by
  refine ⟨.slice (some ⟨H.n, 0, none⟩) 0 n, H.new 1 ((List.replicate n 0).map limb), ?_, .new _ _ _, ?_⟩
  · unfold makeSliceV
    simp only [ht.2, zU64]
    rw [if_pos (by omega)]
    simp only [Int.toNat_natCast, Nat.mul_one, zeros_limb]
    rfl
  · exact .mk H.n 0 n [] ((List.replicate n 0).map limb) (Nat.zero_le _) (Nat.le_refl _) (Nat.lt_succ_self _) (by rw [AH.blk_new, if_pos rfl]) (by simp) (fun i x h => by simp at h)

theorem build1_own (H : AH) {t : TypeId} (ht : LT t) (x : Nat) : buildSliceV Try.prog H t 1 [(0, .int .u64 (x : Int))] = some (.slice (some ⟨H.n, 0, none⟩) 1 1, H.new 1 ([x].map limb)) := by
  unfold buildSliceV
  simp only [ht.2, zU64]
  kernel_rfl
theorem build2_own (H : AH) {t : TypeId} (ht : LT t) (x y : Nat) : buildSliceV Try.prog H t 2 [(0, .int .u64 (x : Int)), (1, .int .u64 (y : Int))] = some (.slice (some ⟨H.n, 0, none⟩) 2 2, H.new 1 ([x, y].map limb)) := by
  unfold buildSliceV
  simp only [ht.2, zU64]
  kernel_rfl

/-- 'v[:m:m]', the value. -/
def cutTo3 (v : Value) (m : Nat) : Value :=
  match v with
  | .slice (some a) _ _ => .slice (some a) m m
  | v => v

theorem Own.cut3 {n0 : Nat} {H : AH} {v : Value} {xs : List Nat} (h : Own n0 H v xs) {t : TypeId} (ht : LT t) {m : Nat} (hm : m ≤ xs.length) :
    sliceV Try.prog H t v none (some (.int .i64 (m : Int))) (some (.int .i64 (m : Int))) = some (cutTo3 v m) ∧ Own n0 H (cutTo3 v m) (xs.take m) ∧ vblk (cutTo3 v m) = vblk v := by
  cases h with
  | nil =>
    simp at hm
    subst hm
    refine ⟨?_, .nil, rfl⟩
    unfold sliceV
    simp only [ht.1, sU64]
    rfl
  | mk b o cap xs cs h1 h2 h3 h4 h5 h6 =>
    have hl : (xs.take m).length = m := by rw [List.length_take]; omega
    have hsz : H.size b = some 1 := by unfold AH.size; rw [h4]
    have ho : Own n0 H (.slice (some ⟨b, o, none⟩) (xs.take m).length m) (xs.take m) := .mk b o m _ cs (by omega) h2 h3 h4 (by omega) fun i x hx => h6 i x (by
      rw [List.getElem?_take] at hx
      split at hx
      · exact hx
      · cases hx)
    rw [hl] at ho
    refine ⟨?_, ho, rfl⟩
    unfold sliceV
    simp only [ht.1, sU64]
    unfold cutV boundV
    simp only [hsz, Option.isSome_some, Option.isNone_none, Bool.true_or]
    rw [if_pos (by omega)]
    have e1 : Nat.ble m m = true := Nat.ble_eq.mpr (Nat.le_refl _)
    simp [boundV, e1, cutTo3]
end
end Go.Proofs.Ytldapilhmmbjhaa
