/-
  THE ENGINE, part E: operations that look at the heap or change it.
-/
import Derived.Test.YtldapilhmmbjhaaEvD
namespace Go.Proofs.Ytldapilhmmbjhaa.Ev
open Go Go.RowKit
set_option linter.unusedVariables false
noncomputable section
set_option linter.unusedSimpArgs false

variable {B : Nat} {S : Nat → Prop} {L : Nat → Loc} {H H' : AH} {w w' : World} {P : Program}

theorem ext_self {S : Nat → Prop} {n i : Nat} (h : ext S n n i) : S i := by
  rcases h with h | ⟨h1, h2⟩
  · exact h
  · omega

theorem Inv.mono (hI : Inv B S L H w) {S' : Nat → Prop} (h1 : ∀ i, S i → S' i) (h2 : ∀ i, S' i → i < H.n) : Inv B S' L H w := by
  refine ⟨fun i sz cs h => ?_, fun i sz cs h => ?_, hI.dj, h2, hI.base⟩
  · obtain ⟨a, b, c, d⟩ := hI.ro i sz cs h
    refine ⟨h1 i a, b, c, fun k v hk => ?_⟩
    obtain ⟨v', e, f⟩ := d k v hk
    exact ⟨v', e, f.mono h1 (fun _ _ => rfl)⟩
  · obtain ⟨a, b, c, C, e, d, t, f⟩ := hI.rw i sz cs h
    refine ⟨h1 i a, b, c, C, e, d, t, fun k v hk => ?_⟩
    obtain ⟨v', e, f⟩ := f k v hk
    exact ⟨v', e, f.mono h1 (fun _ _ => rfl)⟩

/-- What an operation hands on. -/
def Good (B : Nat) (S : Nat → Prop) (L : Nat → Loc) (H : AH) (w : World) (v : Value) (H' : AH) (v' : Value) (w' : World) : Prop :=
  ∃ L', Inv B (ext S H.n H'.n) L' H' w' ∧ Fr S L H w L' H' w' ∧ VR (ext S H.n H'.n) L' v v'

theorem Good.same (hI : Inv B S L H w) {v v' : Value} (hv : VR S L v v') : Good B S L H w v H v' w :=
  ⟨L, hI.mono (fun _ h => .inl h) (fun i h => hI.bd i (ext_self h)), Fr.refl hI, hv.mono (fun _ h => .inl h) (fun _ _ => rfl)⟩

/-! ### loads, stores -/
theorem loadV_run (hI : Inv B S L H w) {t : TypeId} {x x' v : Value} (h : loadV P H t x = some v) (hx : VR S L x x') :
    ∃ v', (Instr.loadAt t x').run P w = .ok v' w ∧ VR S L v v' := by
  unfold loadV at h
  split at h <;> first | (cases h; done) | skip
  rename_i b o
  cases hx with
  | ptr _ _ hS =>
    split at h
    · rename_i ha
      split at h
      · rename_i n hn
        split at h
        · rename_i l hl
          obtain rfl := Option.some.inj h
          obtain ⟨l', h1, h2, h3⟩ := hI.cellsAt hl
          refine ⟨.agg l'.toArray, ?_, .agg _ _ (by simp [h1.1]) fun k v v' h4 h5 => h1.2 k v v' (by simpa using h4) (by simpa using h5)⟩
          have hlen : n = l'.length := by rw [← h1.1]; exact h2.symm
          simp only [Instr.loadAt, Instr.sureAddr, loadVar, Sem.run_bind, Sem.run_pure, Result.andThen_ok, run_isAggT ha, run_size hn, if_true, hlen, run_loadCells_list w _ l' h3]
        · cases h
      · cases h
    · rename_i ha
      split at h
      · rename_i cs hc
        obtain ⟨v', h1, h2⟩ := hI.cell hc h
        refine ⟨v', ?_, h2⟩
        simp only [Instr.loadAt, Instr.sureAddr, loadVar, Sem.run_bind, Sem.run_pure, Result.andThen_ok, run_isAggT ha, Bool.false_eq_true, if_false, run_load, h1]
      · cases h
    · cases h

theorem storeV_run (hI : Inv B S L H w) {t : TypeId} {x x' v v' : Value} (h : storeV P H t x v = some H') (hx : VR S L x x') (hv : VR S L v v') :
    ∃ w', (Instr.storeAt t x' v').run P w = .ok () w' ∧ Inv B S L H' w' ∧ Fr S L H w L H' w' := by
  unfold storeV at h
  split at h <;> first | (cases h; done) | skip
  rename_i b o
  cases hx with
  | ptr _ _ hS =>
    split at h
    · rename_i n hn
      cases hb : Nat.beq v.cells.size n with
      | false => rw [hb] at h; cases h
      | true =>
        rw [hb, cond_true] at h
        have hsz : v.cells.size = n := Nat.eq_of_beq_eq_true hb
        obtain ⟨_, w', h1, h2, h3⟩ := hI.write h hv.cells P
        refine ⟨w', ?_, h2, h3⟩
        have hsz' : v'.cells.size = n := by have := hv.cells.1; simp at this; omega
        simp only [Instr.storeAt, Instr.sureAddr, storeVar, Sem.run_bind, Sem.run_pure, Result.andThen_ok, run_size hn, hsz', ne_eq, not_true_eq_false, if_false, h1]
    · cases h

/-! ### new rows -/
theorem plain_cell {z : Value} (hz : plain z = true) (j : Nat) : VR S L (z.cells[j]!) (z.cells[j]!) := by
  by_cases hj : j < z.cells.size
  · have h1 : z.cells[j]? = some z.cells[j] := Array.getElem?_eq_getElem hj
    have h2 : z.cells.toList[j]? = some z.cells[j] := by rw [Array.getElem?_toList]; exact h1
    have := (plain_vr (S := S) (L := L) hz).cells.2 j z.cells[j] z.cells[j] h2 h2
    simpa [getElem!_pos, hj] using this
  · have : z.cells[j]! = Value.bool false := by
      have h1 : z.cells[j]? = none := Array.getElem?_eq_none (by omega)
      rw [getElem!_def, h1]; rfl
    rw [this]
    exact .bool _

theorem zeroT_spec {t : TypeId} {z : Value} (h : zeroT P t = some z) : plain z = true ∧ ∀ w, (zeroValue t).run P w = .ok z w := by
  unfold zeroT at h
  split at h
  · rename_i i hi
    split at h
    · rename_i v hv
      cases hp : plain v with
      | false => rw [hp] at h; cases h
      | true =>
        rw [hp] at h
        obtain rfl := Option.some.inj h
        exact ⟨hp, fun w => by simp [zeroValue, typeInfo, hi, hv]⟩
    · cases h
  · cases h

theorem sliceT_spec {t e : TypeId} {sz by_ : Nat} (h : sliceT P t = some (e, sz, by_)) :
    P.underlying t = some (.slice e) ∧ (∀ w, (sizeOf e).run P w = .ok sz w) ∧ ∃ i, P.info? e = some i ∧ i.bytes = by_ ∧ i.size = sz := by
  unfold sliceT at h
  split at h
  · rename_i e' hu
    split at h
    · rename_i i hi
      injection h with h
      injection h with h1 h2
      injection h2 with h2 h3
      subst h1; subst h2; subst h3
      exact ⟨hu, fun w => by simp [sizeOf, typeInfo, hi], i, hi, rfl, rfl⟩
    · cases h
  · cases h

theorem wrap_small {n : Int} (h0 : 0 ≤ n) (h1 : n ≤ 2 ^ 48) : IntKind.i64.wrap n = n := by
  unfold IntKind.wrap IntKind.bits IntKind.signed
  simp only [Bool.true_and]
  have : n % (2 ^ 64 : Int) = n := Int.emod_eq_of_lt h0 (by omega)
  rw [this, if_neg (by simp; omega)]

theorem zeros_vr {z : Value} (hz : plain z = true) (n : Nat) (k : Nat) (v : Value) (hk : (zeros z.cells n)[k]? = some v) :
    ((Array.range n).map (z.cells[· % z.cells.size]!))[k]? = some v ∧ VR S L v v := by
  unfold zeros at hk
  have hlt : k < n := by
    rcases Nat.lt_or_ge k n with h | h
    · exact h
    · rw [List.getElem?_eq_none (by simpa using h)] at hk; cases hk
  simp [hlt] at hk
  subst hk
  exact ⟨by simp [hlt], plain_cell hz _⟩

theorem Good.new (hI : Inv B S L H w) {v v' : Value} (sz top : Nat) (cs : List Value) (C : Array Value) (e : TypeId) (htop : top ≤ C.size)
    (hcs : ∀ (k : Nat) (v : Value), cs[k]? = some v → ∃ v', C[k]? = some v' ∧ VR S L v v')
    (hv : VR (ext S H.n (H.n + 1)) (put L H.n ⟨w.heap.size, 0, sz, top⟩) v v') : Good B S L H w v (H.new sz cs) v' (w.alloc (.cells C e)) := by
  obtain ⟨h1, h2⟩ := hI.new sz top cs C e htop hcs
  exact ⟨_, h1, h2, hv⟩

theorem newSlice_vr (n len cap top g sz : Nat) (hl : len ≤ cap) (ht : cap * sz ≤ top) {cap' : Nat} (hc : cap = cap') :
    VR (ext S n (n + 1)) (put L n ⟨g, 0, sz, top⟩) (.slice (some ⟨n, 0, none⟩) len cap) (.slice (some ⟨g, 0, none⟩) len cap') := by
  subst hc
  have := VR.slice (S := ext S n (n + 1)) (L := put L n ⟨g, 0, sz, top⟩) n 0 len cap cap (.inr ⟨Nat.le_refl _, Nat.lt_succ_self _⟩) (Nat.le_refl _) hl (by rw [put_at]; simpa using ht)
  rw [put_at] at this
  exact this

theorem makeSliceV_run (hI : Inv B S L H w) {t : TypeId} {l l' c c' v : Value} (h : makeSliceV P H t l c = some (v, H')) (h1 : VR S L l l') (h2 : VR S L c c') :
    ∃ v' w', (Instr.makeSlice t l' c').run P w = .ok v' w' ∧ Good B S L H w v H' v' w' := by
  unfold makeSliceV at h
  split at h <;> first | (cases h; done) | skip
  rename_i k1 n k2 m e sz by_ hs
  cases h1
  cases h2
  split at h
  · rename_i hb
    obtain ⟨hb1, hb2, hb3, hb4⟩ := hb
    split at h
    · rename_i z hz
      injection h with h
      injection h with h3 h4
      subst h3; subst h4
      obtain ⟨hu, hsz, i, hi, hi1, hi2⟩ := sliceT_spec hs
      obtain ⟨hp, hzr⟩ := zeroT_spec hz
      have hw1 : IntKind.i64.wrap n = n := wrap_small hb1 (by omega)
      have hw2 : IntKind.i64.wrap m = m := wrap_small (by omega) hb4
      refine ⟨.slice (some ⟨w.heap.size, 0, none⟩) n.toNat m.toNat, w.alloc (.cells ((Array.range (m.toNat * sz)).map (z.cells[· % z.cells.size]!)) e), ?_, ?_⟩
      · have hc : ¬ (((m < 0 ∨ 281474976710656 < (i.bytes : Int) * m) ∨ n < 0) ∨ m < n) := by rw [hi1]; omega
        by_cases hn0 : m.toNat * sz = 0
        · simp [Instr.makeSlice, run_underlying hu, asInt, asIntOf, typeInfo, hi, hw1, hw2, hsz, hn0, newRow]
          rw [if_neg hc]
          have e0 : Array.range 0 = #[] := rfl
          simp [e0]
        · simp [Instr.makeSlice, run_underlying hu, asInt, asIntOf, typeInfo, hi, hw1, hw2, hsz, hn0, hzr, newRow]
          exact fun hx => absurd hx hc
      · refine Good.new hI sz (m.toNat * sz) _ _ e (by simp) (fun k v hk => ⟨v, (zeros_vr (S := S) (L := L) hp _ k v hk).1, (zeros_vr hp _ k v hk).2⟩) (newSlice_vr _ _ _ _ _ _ (by omega) (Nat.le_refl _) rfl)
    · cases h
  · cases h

/-! ### literals -/
def AVR (S : Nat → Prop) (L : Nat → Loc) (cs cs' : Array Value) : Prop := cs.size = cs'.size ∧ ∀ (k : Nat) (v v' : Value), cs[k]? = some v → cs'[k]? = some v' → VR S L v v'

theorem AVR.set {cs cs' : Array Value} (h : AVR S L cs cs') (o : Nat) {c c' : Value} (hc : VR S L c c') : AVR S L (cs.setIfInBounds o c) (cs'.setIfInBounds o c') := by
  refine ⟨by simp [h.1], fun k v v' h1 h2 => ?_⟩
  rw [Array.getElem?_setIfInBounds] at h1 h2
  split at h1
  · rename_i e
    rw [if_pos e] at h2
    split at h1
    · rename_i hlt
      rw [if_pos (by rw [← h.1]; exact hlt)] at h2
      obtain rfl := Option.some.inj h1
      obtain rfl := Option.some.inj h2
      exact hc
    · cases h1
  · rename_i e
    rw [if_neg e] at h2
    exact h.2 k v v' h1 h2

theorem fold_vr (off : Nat) : ∀ (l l' : List Value) (j : Nat) (cs cs' : Array Value), VRs S L l l' → AVR S L cs cs' →
    AVR S L ((l.zipIdx j).foldl (fun cs (x : Value × Nat) => cs.setIfInBounds (off + x.2) x.1) cs) ((l'.zipIdx j).foldl (fun cs (x : Value × Nat) => cs.setIfInBounds (off + x.2) x.1) cs')
  | [], [], _, _, _, _, h => h
  | [], _ :: _, _, _, _, h, _ => by have := h.1; simp at this
  | _ :: _, [], _, _, _, h, _ => by have := h.1; simp at this
  | c :: l, c' :: l', j, cs, cs', h, h0 => by
    simp only [List.zipIdx_cons, List.foldl_cons]
    exact fold_vr off l l' (j + 1) _ _ ⟨by have := h.1; simpa using this, fun k v v' h1 h2 => h.2 (k + 1) v v' (by simpa using h1) (by simpa using h2)⟩ (h0.set _ (h.2 0 c c' rfl rfl))

theorem fill_vr (place : Nat → Option (Nat × Nat)) : ∀ (ps ps' : List (Nat × Value)) (cs cs' r : Array Value), PVs S L ps ps' → AVR S L cs cs' → Instr.fill place cs ps = some r →
    ∃ r', Instr.fill place cs' ps' = some r' ∧ AVR S L r r'
  | [], [], cs, cs', r, _, h, hr => by
    simp only [Instr.fill] at hr
    obtain rfl := Option.some.inj hr
    exact ⟨cs', rfl, h⟩
  | [], (_, _) :: _, _, _, _, h, _, _ => h.elim
  | (_, _) :: _, [], _, _, _, h, _, _ => h.elim
  | (i, v) :: ps, (j, v') :: ps', cs, cs', r, h, h0, hr => by
    obtain ⟨rfl, hv, hps⟩ := h
    simp only [Instr.fill] at hr ⊢
    cases hp : place i with
    | none => rw [hp] at hr; cases hr
    | some x =>
      obtain ⟨off, size⟩ := x
      rw [hp] at hr
      simp only at hr ⊢
      have hsz : v.cells.size = v'.cells.size := by have := hv.cells.1; simpa using this
      rw [← hsz, ← h0.1]
      split at hr
      · cases hr
      · rename_i hcond
        rw [if_neg hcond]
        refine fill_vr place ps ps' _ _ r hps ?_ hr
        have := fold_vr off v.cells.toList v'.cells.toList 0 cs cs' hv.cells h0
        rw [← Array.toList_zipIdx, ← Array.toList_zipIdx, Array.foldl_toList, Array.foldl_toList] at this
        exact this

theorem AVR.refl_of {z : Value} (hz : plain z = true) : AVR S L z.cells z.cells :=
  ⟨rfl, fun k v v' h1 h2 => (plain_vr (S := S) (L := L) hz).cells.2 k v v' (by rw [Array.getElem?_toList]; exact h1) (by rw [Array.getElem?_toList]; exact h2)⟩

theorem AVR.zeros {z : Value} (hz : plain z = true) (n : Nat) : AVR S L ((Array.range n).map (z.cells[· % z.cells.size]!)) ((Array.range n).map (z.cells[· % z.cells.size]!)) := by
  refine ⟨rfl, fun k v v' h1 h2 => ?_⟩
  rw [h1] at h2
  obtain rfl := Option.some.inj h2
  have hlt : k < n := by
    rcases Nat.lt_or_ge k n with h | h
    · exact h
    · rw [Array.getElem?_eq_none (by simpa using h)] at h1; cases h1
  simp [hlt] at h1
  subst h1
  exact plain_cell hz _

theorem buildSliceV_run (hI : Inv B S L H w) {t : TypeId} {len : Nat} {ps ps' : List (Nat × Value)} {v : Value} (h : buildSliceV P H t len ps = some (v, H')) (hps : PVs S L ps ps') :
    ∃ v' w', (Instr.buildSlice t len ps'.toArray).run P w = .ok v' w' ∧ Good B S L H w v H' v' w' := by
  unfold buildSliceV at h
  split at h <;> first | (cases h; done) | skip
  rename_i e sz by_ hs
  cases hb : Nat.ble (len * sz) (2 ^ 24) with
  | false => rw [hb] at h; cases h
  | true =>
    rw [hb, cond_true] at h
    have hle : len * sz ≤ 2 ^ 24 := Nat.le_of_ble_eq_true hb
    split at h <;> first | (cases h; done) | skip
    rename_i z hz
    split at h <;> first | (cases h; done) | skip
    rename_i cs hf
    injection h with h
    injection h with h3 h4
    subst h3; subst h4
    obtain ⟨hu, hsz, i, hi, hi1, hi2⟩ := sliceT_spec hs
    obtain ⟨hp, hzr⟩ := zeroT_spec hz
    obtain ⟨r', hr, hv⟩ := fill_vr (S := S) (L := L) _ ps ps' _ _ cs hps (AVR.zeros hp (len * sz)) hf
    have hsize : ∀ (pl : Nat → Option (Nat × Nat)) (ps : List (Nat × Value)) (a b : Array Value), Instr.fill pl a ps = some b → b.size = a.size := by
      intro pl ps
      induction ps with
      | nil => intro a b h; simp only [Instr.fill] at h; obtain rfl := Option.some.inj h; rfl
      | cons x ps ih =>
        obtain ⟨i, v⟩ := x
        intro a b h
        simp only [Instr.fill] at h
        split at h
        · cases h
        · split at h
          · cases h
          · have := ih _ _ h
            rw [this, ← Array.foldl_toList]
            have hfold : ∀ (l : List (Value × Nat)) (off : Nat) (c : Array Value), (l.foldl (fun cs (x : Value × Nat) => cs.setIfInBounds (off + x.2) x.1) c).size = c.size := by
              intro l off
              induction l with
              | nil => intro c; rfl
              | cons y l ih2 => intro c; simp only [List.foldl_cons]; rw [ih2]; simp
            exact hfold _ _ _
    have hrs : cs.size = len * sz := by rw [hsize _ _ _ _ hf]; simp
    refine ⟨.slice (some ⟨w.heap.size, 0, none⟩) len len, w.alloc (.cells r' e), ?_, ?_⟩
    · have hnot : ¬ (16777216 < len * sz) := by omega
      by_cases hn0 : len * sz = 0
      · have he : (Array.range (len * sz)).map (z.cells[· % z.cells.size]!) = (Array.range (len * sz)).map ((#[] : Array Value)[· % (#[] : Array Value).size]!) := by rw [hn0]; have e0 : Array.range 0 = #[] := rfl; simp [e0]
        rw [he] at hr
        simp [Instr.buildSlice, run_underlying hu, hsz, hn0, newRow] at hr ⊢
        rw [hr]
        rfl
      · simp [Instr.buildSlice, run_underlying hu, hsz, hn0, hzr, newRow, hnot, hr]
    · refine Good.new hI sz (len * sz) _ r' e (by rw [← hv.1, hrs]; exact Nat.le_refl _) (fun k v hk => ?_) (newSlice_vr _ _ _ _ _ _ (Nat.le_refl _) (Nat.le_refl _) rfl)
      rw [Array.getElem?_toList] at hk
      have hlt : k < r'.size := by
        rw [← hv.1]
        rcases Nat.lt_or_ge k cs.size with h | h
        · exact h
        · rw [Array.getElem?_eq_none h] at hk; cases hk
      exact ⟨r'[k], Array.getElem?_eq_getElem hlt, hv.2 k v _ hk (Array.getElem?_eq_getElem hlt)⟩

end
end Go.Proofs.Ytldapilhmmbjhaa.Ev
