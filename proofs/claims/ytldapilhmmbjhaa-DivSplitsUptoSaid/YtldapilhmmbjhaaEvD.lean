/-
  THE ENGINE, part D: single operations on values: what the evaluator says of them is what the machine does.
-/
import Derived.Test.YtldapilhmmbjhaaEvC
import Derived.Laws.Entries
import Derived.Laws.Unary
import Derived.Laws.StructEq
namespace Go.Proofs.Ytldapilhmmbjhaa.Ev
open Go Go.RowKit
set_option linter.unusedVariables false
noncomputable section
set_option linter.unusedSimpArgs false

variable {B : Nat} {S : Nat → Prop} {L : Nat → Loc} {H H' : AH} {w w' : World} {P : Program}

theorem plain1_vr {v : Value} (h : plain1 v = true) : VR S L v v := by
  unfold plain1 at h
  split at h <;> first | exact .bool _ | exact .int _ _ | exact .string _ | exact .nilPtr | exact .nilSlice | exact .nilFunc | exact .nilIface | cases h

theorem plain_vr {v : Value} (h : plain v = true) : VR S L v v := by
  unfold plain at h
  split at h
  · refine .agg _ _ rfl fun k v v' h1 h2 => ?_
    rw [h1] at h2
    obtain rfl := Option.some.inj h2
    exact plain1_vr (List.all_eq_true.mp h _ (by rw [Array.mem_toList_iff]; exact Array.mem_of_getElem? h1))
  · refine .tuple _ _ rfl fun k v v' h1 h2 => ?_
    rw [h1] at h2
    obtain rfl := Option.some.inj h2
    exact plain1_vr (List.all_eq_true.mp h _ (by rw [Array.mem_toList_iff]; exact Array.mem_of_getElem? h1))
  · exact plain1_vr h

/-! ### frames -/
structure AI (S : Nat → Prop) (L : Nat → Loc) (k : Nat) (tm : Tr Value) (a : Act) : Prop where
  defers : a.defers = []
  size : a.tmps.size = k
  tmp : ∀ t v, tm.get t = some v → t < k ∧ VR S L v (a.tmps.getD t undef)

def GO (C : Cfg) (S : Nat → Prop) (L : Nat → Loc) : Prop := ∀ g, g < C.ng → S g ∧ (L g).g = g ∧ (L g).o = 0

theorem opd_vr {C : Cfg} (hG : GO C S L) {k : Nat} {tm : Tr Value} {a : Act} (hA : AI S L k tm a) {x : Operand} {v : Value} (h : opd C tm x = some v) : VR S L v (a.eval x) := by
  cases x with
  | tmp t => exact (hA.tmp t v h).2
  | const u =>
    simp only [opd] at h
    cases hp : plain u with
    | false => rw [hp] at h; cases h
    | true => rw [hp] at h; obtain rfl := Option.some.inj h; exact plain_vr hp
  | global g =>
    simp only [opd] at h
    cases hg : Nat.blt g C.ng with
    | false => rw [hg] at h; cases h
    | true =>
      rw [hg] at h
      obtain rfl := Option.some.inj h
      obtain ⟨h1, h2, h3⟩ := hG g (by simpa [Nat.blt_eq] using hg)
      have := VR.ptr (S := S) (L := L) g 0 h1
      rw [h2, h3] at this
      exact this
  | func f =>
    obtain rfl := Option.some.inj h
    exact .func _ _ _ _ _ rfl (fun k v v' h1 => by simp at h1) rfl (fun k v v' h1 => by simp at h1)

theorem opds_vr' {C : Cfg} {tm : Tr Value} {ρ : Operand → Value} : ∀ {xs : List Operand} {vs : List Value}, (∀ x ∈ xs, ∀ u, opd C tm x = some u → VR S L u (ρ x)) → opds C tm xs = some vs → VRs S L vs (xs.map ρ)
  | [], vs, _, h => by obtain rfl := Option.some.inj h; exact .nil
  | x :: xs, vs, hx, h => by
    simp only [opds] at h
    cases h1 : opd C tm x with
    | none => rw [h1] at h; cases h
    | some v =>
      cases h2 : opds C tm xs with
      | none => rw [h1, h2] at h; cases h
      | some vs' =>
        rw [h1, h2] at h
        obtain rfl := Option.some.inj h
        exact .cons (hx x (by simp) v h1) (opds_vr' (fun y hy => hx y (by simp [hy])) h2)

theorem optOpd_vr' {C : Cfg} {tm : Tr Value} {ρ : Operand → Value} {x : Option Operand} {v : Option Value} (hx : ∀ y, x = some y → ∀ u, opd C tm y = some u → VR S L u (ρ y)) (h : optOpd C tm x = some v) :
    (x = none ∧ v = none) ∨ ∃ y u, x = some y ∧ v = some u ∧ VR S L u (ρ y) := by
  cases x with
  | none => exact .inl ⟨rfl, (Option.some.inj h).symm⟩
  | some y =>
    simp only [optOpd] at h
    cases h1 : opd C tm y with
    | none => rw [h1] at h; cases h
    | some u =>
      rw [h1] at h
      exact .inr ⟨y, u, rfl, (Option.some.inj h).symm, hx y rfl u h1⟩

/-- Parts of a literal. -/
def PVs (S : Nat → Prop) (L : Nat → Loc) : List (Nat × Value) → List (Nat × Value) → Prop
  | [], [] => True
  | (i, v) :: xs, (j, v') :: ys => i = j ∧ VR S L v v' ∧ PVs S L xs ys
  | _, _ => False

theorem parts_vr' {C : Cfg} {tm : Tr Value} {ρ : Operand → Value} : ∀ {xs : List (Nat × Operand)} {vs : List (Nat × Value)}, (∀ p ∈ xs, ∀ u, opd C tm p.2 = some u → VR S L u (ρ p.2)) →
    parts C tm xs = some vs → PVs S L vs (xs.map fun (i, x) => (i, ρ x))
  | [], vs, _, h => by obtain rfl := Option.some.inj h; trivial
  | (i, x) :: xs, vs, hx, h => by
    simp only [parts] at h
    cases h1 : opd C tm x with
    | none => rw [h1] at h; cases h
    | some v =>
      cases h2 : parts C tm xs with
      | none => rw [h1, h2] at h; cases h
      | some vs' =>
        rw [h1, h2] at h
        obtain rfl := Option.some.inj h
        exact ⟨rfl, hx (i, x) (by simp) v h1, parts_vr' (fun p hp => hx p (by simp [hp])) h2⟩

/-! ### arithmetic -/
theorem intBin_run {op : BinOp} {k : IntKind} {a b : Int} {r : Value} (h : intBin op k a b = some r) (hs : isShift op = false) (t : TypeId) (x y : Operand) (w : World) :
    (do eqGuard op t x y (.int k a) (.int k b); binOp op t (.int k a) (.int k b) : Sem Value).run P w = .ok r w ∧ VR S L r r := by
  cases op <;> simp only [intBin] at h <;> first
    | (cases h; done)
    | (obtain rfl := Option.some.inj h; refine ⟨?_, by first | exact .int _ _ | exact .bool _⟩; simp [eqGuard, binOp, Op.intArith, Op.intBits, Op.intCmp]; done)
    | (split at h
       · cases h
       · rename_i hb
         obtain rfl := Option.some.inj h
         refine ⟨?_, .int _ _⟩
         simp [eqGuard, binOp, Op.intDiv, hb])

theorem shiftBin_run {op : BinOp} {k k' : IntKind} {a b : Int} {r : Value} (h : shiftBin op k a b = some r) (t : TypeId) (x y : Operand) (w : World) :
    (do eqGuard op t x y (.int k a) (.int k' b); binOp op t (.int k a) (.int k' b) : Sem Value).run P w = .ok r w ∧ VR S L r r := by
  unfold shiftBin at h
  split at h
  · cases h
  · rename_i hb
    cases op <;> simp only at h <;> first
      | (cases h; done)
      | (obtain rfl := Option.some.inj h; refine ⟨?_, .int _ _⟩; simp [eqGuard, binOp, Op.shift, hb])

theorem equalIn_run (d : Nat) {t : TypeId} {x y x' y' : Value} {b : Bool} (h : eqVals P t x y = some b) (h1 : VR S L x x') (h2 : VR S L y y') (w : World) : (Op.equalIn (d + 1) t x' y').run P w = .ok b w := by
  have hu : ∀ d, P.underlying t = some d → (underlying t).run P w = .ok d w := fun d hd => run_underlying hd w
  unfold eqVals at h
  split at h <;> first | (cases h; done) | skip
  all_goals (rename_i hd; obtain rfl := Option.some.inj h; cases h1 <;> cases h2 <;> simp [Op.equalIn, hu _ hd])

theorem equal_run {t : TypeId} {x y x' y' : Value} {b : Bool} (h : eqVals P t x y = some b) (h1 : VR S L x x') (h2 : VR S L y y') (w : World) : (Op.equal t x' y').run P w = .ok b w :=
  equalIn_run 9999 h h1 h2 w

/-- A comparison of values that are no numbers. -/
theorem eq_run {t : TypeId} {u v u' v' : Value} {b : Bool} (h : eqVals P t u v = some b) (h1 : VR S L u u') (h2 : VR S L v v') (x y : Operand) (w : World) :
    (do eqGuard .eql t x y u' v'; binOp .eql t u' v' : Sem Value).run P w = .ok (.bool b) w ∧ (do eqGuard .neq t x y u' v'; binOp .neq t u' v' : Sem Value).run P w = .ok (.bool (!b)) w := by
  have he := equal_run h h1 h2 w
  unfold eqVals at h
  split at h <;> first | (cases h; done) | skip
  all_goals (cases h1 <;> cases h2 <;> refine ⟨?_, ?_⟩ <;> simp [eqGuard, binOp, he])

theorem binV_run {op : BinOp} {t : TypeId} {u v u' v' r : Value} (h : binV P op t u v = some r) (h1 : VR S L u u') (h2 : VR S L v v') (x y : Operand) (w : World) :
    (do eqGuard op t x y u' v'; binOp op t u' v' : Sem Value).run P w = .ok r w ∧ VR S L r r := by
  unfold binV at h
  split at h
  · rename_i k a k' b
    cases h1
    cases h2
    cases hs : isShift op with
    | true => rw [hs, cond_true] at h; exact shiftBin_run h t x y w
    | false =>
      rw [hs, cond_false] at h
      cases hk : sameKind k k' with
      | false => rw [hk] at h; cases h
      | true =>
        rw [hk, cond_true] at h
        have : k = k' := by simpa [sameKind] using hk
        subst this
        exact intBin_run h hs t x y w
  · cases op <;> simp only at h <;> first | (cases h; done) | skip
    all_goals
      cases he : eqVals P t u v with
      | none => rw [he] at h; cases h
      | some b =>
        rw [he] at h
        obtain rfl := Option.some.inj h
        exact ⟨by first | exact (eq_run he h1 h2 x y w).1 | exact (eq_run he h1 h2 x y w).2, .bool _⟩

theorem unV_run {op : UnOp} {u u' r : Value} (h : unV op u = some r) (h1 : VR S L u u') (w : World) : (Op.unary op u').run P w = .ok r w ∧ VR S L r r := by
  unfold unV at h
  split at h
  · cases h1; obtain rfl := Option.some.inj h; exact ⟨by simp [Op.unary, Op.intArith], .int _ _⟩
  · cases h1; obtain rfl := Option.some.inj h; exact ⟨by simp [Op.unary, Op.intBits], .int _ _⟩
  · cases h1; obtain rfl := Option.some.inj h; exact ⟨by simp [Op.unary], .bool _⟩
  · cases h

theorem convV_run {s d : TypeId} {u u' r : Value} (h : convV P s d u = some r) (h1 : VR S L u u') (w : World) : (convert s d u').run P w = .ok r w ∧ VR S L r r := by
  unfold convV at h
  split at h
  · rename_i e1 e2
    cases h1
    obtain rfl := Option.some.inj h
    refine ⟨?_, .int _ _⟩
    simp [convert, run_underlying e1, run_underlying e2, Conv.intToInt]
  · cases h

/-! ### places -/
theorem run_size {t : TypeId} {n : Nat} (h : sizeT P t = some n) (w : World) : (sizeOf t).run P w = .ok n w := by
  unfold sizeT at h
  cases hi : P.info? t with
  | none => rw [hi] at h; cases h
  | some i => rw [hi] at h; obtain rfl := Option.some.inj h; simp [sizeOf, typeInfo, hi]

theorem indexAddrV_run {t : TypeId} {u v u' v' r : Value} (h : indexAddrV P t u v = some r) (h1 : VR S L u u') (h2 : VR S L v v') (w : World) :
    ∃ r', (Instr.indexAt t u' v').run P w = .ok r' w ∧ VR S L r r' := by
  unfold indexAddrV at h
  split at h <;> first | (cases h; done) | skip
  rename_i k i
  cases h2
  split at h
  · rename_i e b o len cap hu
    cases h1 with
    | slice _ _ _ _ cap' hS hc hl ht =>
      cases hs : sizeT P e with
      | none => rw [hs] at h; cases h
      | some sz =>
        rw [hs] at h
        simp only at h
        split at h
        · rename_i hb
          obtain rfl := Option.some.inj h
          refine ⟨_, ?_, .ptr b (o + i.toNat * sz) hS⟩
          simp [Instr.indexAt, asIntOf, run_underlying hu, run_size hs, hb, add_plain, Nat.add_assoc]
        · cases h
  · rename_i n e b o hu
    cases h1 with
    | ptr _ _ hS =>
      cases hs : sizeT P e with
      | none => rw [hs] at h; cases h
      | some sz =>
        rw [hs] at h
        simp only at h
        split at h
        · rename_i hb
          obtain rfl := Option.some.inj h
          refine ⟨_, ?_, .ptr b (o + i.toNat * sz) hS⟩
          simp [Instr.indexAt, Instr.sureAddr, asIntOf, run_underlying hu, run_size hs, hb, add_plain, Nat.add_assoc]
        · cases h
  · cases h

theorem run_isAggT {t : TypeId} {b : Bool} (h : isAggT P t = some b) (w : World) : (isAgg t).run P w = .ok b w := by
  unfold isAggT at h
  split at h
  · rename_i hu; obtain rfl := Option.some.inj h; simp [isAgg, run_underlying hu]
  · rename_i hu; obtain rfl := Option.some.inj h; simp [isAgg, run_underlying hu]
  · rename_i d h1 h2 hu
    obtain rfl := Option.some.inj h
    simp only [isAgg, Sem.run_bind, run_underlying hu, Result.andThen_ok]
    rfl
  · cases h

theorem partV_run {t : TypeId} {cs cs' : Array Value} {off : Nat} {r : Value} (h : partV P t cs off = some r) (hs : cs.size = cs'.size) (hc : ∀ (k : Nat) (v v' : Value), cs[k]? = some v → cs'[k]? = some v' → VR S L v v') (w : World) :
    ∃ r', (part t cs' off).run P w = .ok r' w ∧ VR S L r r' := by
  unfold partV at h
  split at h
  · rename_i ha
    split at h
    · rename_i n hn
      obtain rfl := Option.some.inj h
      refine ⟨_, by simp [part, run_isAggT ha, run_size hn]; rfl, .agg _ _ (by simp [hs]) fun k v v' h1 h2 => ?_⟩
      rw [Array.getElem?_extract] at h1 h2
      rw [← hs] at h2
      split at h1
      · rename_i hk; rw [if_pos hk] at h2; exact hc _ v v' h1 h2
      · cases h1
    · cases h
  · rename_i ha
    have hlt : off < cs'.size := by
      rw [← hs]
      rcases Nat.lt_or_ge off cs.size with h' | h'
      · exact h'
      · rw [Array.getElem?_eq_none h'] at h; cases h
    have e : cs'[off]? = some cs'[off] := Array.getElem?_eq_getElem hlt
    exact ⟨cs'[off], by simp [part, run_isAggT ha, e], hc off r _ h e⟩
  · cases h

theorem indexV_run {t : TypeId} {u v u' v' r : Value} (h : indexV P t u v = some r) (h1 : VR S L u u') (h2 : VR S L v v') (w : World) :
    ∃ r', (Instr.index t u' v').run P w = .ok r' w ∧ VR S L r r' := by
  unfold indexV at h
  split at h <;> first | (cases h; done) | skip
  rename_i k i
  cases h2
  split at h
  · rename_i n e cs hu
    cases h1 with
    | agg _ cs' hs hc =>
      cases hz : sizeT P e with
      | none => rw [hz] at h; cases h
      | some sz =>
        rw [hz] at h
        simp only at h
        split at h
        · rename_i hb
          obtain ⟨r', h3, h4⟩ := partV_run h hs hc w
          exact ⟨r', by simp [Instr.index, asIntOf, run_underlying hu, run_size hz, hb, h3], h4⟩
        · cases h
  · rename_i s hu
    cases h1
    split at h
    · rename_i hi
      split at h
      · rename_i b hb
        obtain rfl := Option.some.inj h
        refine ⟨_, ?_, .int _ _⟩
        simp [Instr.index, asIntOf, run_underlying hu, hi, hb]
      · cases h
    · cases h
  · cases h

theorem fieldV_run {t : TypeId} {u u' r : Value} {f : Nat} (h : fieldV P t u f = some r) (h1 : VR S L u u') (w : World) :
    ∃ r', (Instr.field t u' f).run P w = .ok r' w ∧ VR S L r r' := by
  unfold fieldV at h
  split at h
  · rename_i fs cs hu
    cases h1 with
    | agg _ cs' hs hc =>
      split at h
      · rename_i fd hf
        obtain ⟨r', h3, h4⟩ := partV_run h hs hc w
        exact ⟨r', by simp [Instr.field, run_underlying hu, hf, asAgg, h3], h4⟩
      · cases h
  · cases h

theorem fieldAddrV_run {t : TypeId} {u u' r : Value} {f : Nat} (h : fieldAddrV P t u f = some r) (h1 : VR S L u u') (w : World) :
    ∃ r', (Instr.fieldAt t u' f).run P w = .ok r' w ∧ VR S L r r' := by
  unfold fieldAddrV at h
  split at h
  · rename_i fs b o hu
    cases h1 with
    | ptr _ _ hS =>
      split at h
      · rename_i fd hf
        split at h
        · rename_i n hn
          obtain rfl := Option.some.inj h
          refine ⟨_, ?_, .ptr b (o + fd.offset) hS⟩
          simp [Instr.fieldAt, run_underlying hu, hf, Instr.sureAddr, fieldPlace, run_size hn, add_plain, Nat.add_assoc]
        · cases h
      · cases h
  · cases h

end
end Go.Proofs.Ytldapilhmmbjhaa.Ev
