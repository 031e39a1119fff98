/-
  THE ENGINE, part I: regions that draw their order: the words of the proof, and the trace of the evaluator's own order.
-/
import Derived.Test.YtldapilhmmbjhaaEvH
namespace Go.Proofs.Ytldapilhmmbjhaa.Ev
open Go Go.RowKit
set_option linter.unusedVariables false
noncomputable section
set_option linter.unusedSimpArgs false

/-! ### which addresses stand in a value -/
def InS (S : Nat → Prop) (v : Value) : Prop := ∃ L v', VR S L v v'

theorem VR.inS {S : Nat → Prop} {L : Nat → Loc} {v v' : Value} (h : VR S L v v') : InS S v := ⟨L, v', h⟩

theorem InS.mono {S S' : Nat → Prop} {v : Value} (h : InS S v) (hS : ∀ i, S i → S' i) : InS S' v := by
  obtain ⟨L, v', h⟩ := h
  exact ⟨L, v', h.mono hS (fun _ _ => rfl)⟩

theorem elems_inS {S : Nat → Prop} {L : Nat → Loc} {cs cs' : Array Value} (hs : cs.size = cs'.size) (hc : ∀ (k : Nat) (v v' : Value), cs[k]? = some v → cs'[k]? = some v' → VR S L v v') (k : Nat) (v : Value) (h : cs[k]? = some v) : InS S v := by
  have hlt : k < cs'.size := by
    rw [← hs]
    rcases Nat.lt_or_ge k cs.size with h' | h'
    · exact h'
    · rw [Array.getElem?_eq_none h'] at h; cases h
  exact (hc k v cs'[k] h (Array.getElem?_eq_getElem hlt)).inS

theorem VR.narrow {S S' : Nat → Prop} {L : Nat → Loc} {v v' : Value} (h : VR S L v v') (hi : InS S' v) : VR S' L v v' := by
  induction h with
  | bool b => exact .bool b
  | int k n => exact .int k n
  | string s => exact .string s
  | nilFunc => exact .nilFunc
  | nilIface => exact .nilIface
  | nilPtr => exact .nilPtr
  | ptr i o h =>
    obtain ⟨L2, v2, h2⟩ := hi
    cases h2 with
    | ptr _ _ h3 => exact .ptr i o h3
  | nilSlice => exact .nilSlice
  | slice i o len cap cap' h h1 h2 h3 =>
    obtain ⟨L2, v2, h4⟩ := hi
    cases h4 with
    | slice _ _ _ _ _ h5 => exact .slice i o len cap cap' h5 h1 h2 h3
  | emp i a c => exact .emp i a c
  | agg cs cs' hs hc ih =>
    obtain ⟨L2, v2, h2⟩ := hi
    cases h2 with
    | agg _ cs2 hs2 hc2 => exact .agg cs cs' hs fun k v v' h1 h2 => ih k v v' h1 h2 (elems_inS hs2 hc2 k v h1)
  | tuple cs cs' hs hc ih =>
    obtain ⟨L2, v2, h2⟩ := hi
    cases h2 with
    | tuple _ cs2 hs2 hc2 => exact .tuple cs cs' hs fun k v v' h1 h2 => ih k v v' h1 h2 (elems_inS hs2 hc2 k v h1)
  | func f fs fs' cs cs' h1 _ h2 _ ih1 ih2 =>
    obtain ⟨L2, v2, h3⟩ := hi
    cases h3 with
    | func _ _ fs2 _ cs2 a1 b1 a2 b2 => exact .func f fs fs' cs cs' h1 (fun k v v' q1 q2 => ih1 k v v' q1 q2 (elems_inS a1 b1 k v q1)) h2 (fun k v v' q1 q2 => ih2 k v v' q1 q2 (elems_inS a2 b2 k v q1))
  | iface t v v' _ ih =>
    obtain ⟨L2, v2, h2⟩ := hi
    cases h2 with
    | iface _ _ v3 h3 => exact .iface t v v' (ih h3.inS)

def InSB (S : Nat → Prop) : Blk → Prop
  | .dead => True
  | .ro _ cs => ∀ (k : Nat) (v : Value), cs[k]? = some v → InS S v
  | .rw _ cs => ∀ (k : Nat) (v : Value), cs[k]? = some v → InS S v

theorem InSB.mono {S S' : Nat → Prop} {b : Blk} (h : InSB S b) (hS : ∀ i, S i → S' i) : InSB S' b := by
  cases b with
  | dead => trivial
  | ro sz cs => exact fun k v hk => (h k v hk).mono hS
  | rw sz cs => exact fun k v hk => (h k v hk).mono hS

theorem Inv.inSB {B : Nat} {S : Nat → Prop} {L : Nat → Loc} {H : AH} {w : World} (hI : Inv B S L H w) (j : Nat) : InSB S (H.blk j) := by
  cases hb : H.blk j with
  | dead => trivial
  | ro sz cs =>
    intro k v hk
    obtain ⟨_, _, _, h4⟩ := hI.ro j sz cs hb
    obtain ⟨v', _, h6⟩ := h4 k v hk
    exact h6.inS
  | rw sz cs =>
    intro k v hk
    obtain ⟨_, _, _, C, e, _, _, h4⟩ := hI.rw j sz cs hb
    obtain ⟨v', _, h6⟩ := h4 k v hk
    exact h6.inS

/-! ### trees -/
theorem get_addT (t : Tr Blk) (H2 : AH) (n : Nat) : ∀ (k j : Nat), (addT t H2 n k).get j = if n ≤ j ∧ j < n + k then some (H2.blk j) else t.get j
  | 0, j => by rw [if_neg (by omega)]; rfl
  | k + 1, j => by
    simp only [addT]
    rw [Tr.get_set, get_addT t H2 n k j]
    by_cases e : j = n + k
    · rw [if_pos e, if_pos (by omega), e]
    · rw [if_neg e]
      by_cases h : n ≤ j ∧ j < n + k
      · rw [if_pos h, if_pos (by omega)]
      · rw [if_neg h, if_neg (by omega)]

theorem blk_addT (t : Tr Blk) (H2 : AH) (n k n' lw : Nat) (j : Nat) : ({ n := n', lw := lw, t := addT t H2 n k } : AH).blk j = if n ≤ j ∧ j < n + k then H2.blk j else ({ n := n', lw := lw, t := t } : AH).blk j := by
  unfold AH.blk
  simp only [get_addT]
  by_cases h : n ≤ j ∧ j < n + k
  · rw [if_pos h, if_pos h]; rfl
  · rw [if_neg h, if_neg h]

theorem get_hideT (t : Tr Blk) : ∀ (hs : List Nat) (j : Nat), (hideT t hs).get j = if j ∈ hs then some .dead else t.get j
  | [], j => by simp [hideT]
  | i :: r, j => by
    simp only [hideT]
    rw [Tr.get_set, get_hideT t r j]
    by_cases e : j = i
    · simp [e]
    · by_cases h : j ∈ r <;> simp [e, h]

theorem blk_hideT (t : Tr Blk) (hs : List Nat) (n lw : Nat) (j : Nat) : ({ n := n, lw := lw, t := hideT t hs } : AH).blk j = if j ∈ hs then .dead else ({ n := n, lw := lw, t := t } : AH).blk j := by
  unfold AH.blk
  simp only [get_hideT]
  by_cases h : j ∈ hs
  · rw [if_pos h, if_pos h]
  · rw [if_neg h, if_neg h]

theorem mem_hidden (b : Nat) : ∀ (ms : List (Nat × Nat × Nat)) (j : Nat), j ∈ hidden b ms ↔ ∃ k lo hi, (k, lo, hi) ∈ ms ∧ b.testBit k = false ∧ lo ≤ j ∧ j < hi
  | [], j => by simp [hidden]
  | (k, lo, hi) :: r, j => by
    simp only [hidden]
    cases hb : b.testBit k with
    | true =>
      rw [cond_true, mem_hidden b r j]
      constructor
      · rintro ⟨k', lo', hi', h1, h2⟩; exact ⟨k', lo', hi', by simp [h1], h2⟩
      · rintro ⟨k', lo', hi', h1, h2, h3⟩
        rw [List.mem_cons] at h1
        rcases h1 with h1 | h1
        · injection h1 with e1 e2; subst e1; rw [hb] at h2; cases h2
        · exact ⟨k', lo', hi', h1, h2, h3⟩
    | false =>
      rw [cond_false, List.mem_append, mem_hidden b r j]
      constructor
      · rintro (h | ⟨k', lo', hi', h1, h2⟩)
        · simp only [List.mem_map, List.mem_range] at h
          obtain ⟨x, h1, h2⟩ := h
          exact ⟨k, lo, hi, by simp, hb, by omega, by omega⟩
        · exact ⟨k', lo', hi', by simp [h1], h2⟩
      · rintro ⟨k', lo', hi', h1, h2, h3, h4⟩
        rw [List.mem_cons] at h1
        rcases h1 with h1 | h1
        · injection h1 with e1 e2
          injection e2 with e2 e3
          subst e1; subst e2; subst e3
          left
          simp only [List.mem_map, List.mem_range]
          exact ⟨j - lo', by omega, by omega⟩
        · exact .inr ⟨k', lo', hi', h1, h2, h3, h4⟩

/-! ### what waits for what -/
theorem testBit_bitsOf (acc : List Nat) (m : Nat) : ∀ es : List Edge, (bitsOf acc es).testBit m = true ↔ ∃ e ∈ es, Region.binds .any e = true ∧ (e.on = m ∨ (acc.getD e.on 0).testBit m = true)
  | [] => by simp [bitsOf]
  | e :: r => by
    simp only [bitsOf]
    cases hb : Region.binds .any e with
    | false =>
      rw [cond_false, testBit_bitsOf acc m r]
      constructor
      · rintro ⟨x, h1, h2⟩; exact ⟨x, by simp [h1], h2⟩
      · rintro ⟨x, h1, h2, h3⟩
        rw [List.mem_cons] at h1
        rcases h1 with rfl | h1
        · rw [hb] at h2; cases h2
        · exact ⟨x, h1, h2, h3⟩
    | true =>
      rw [cond_true, Nat.testBit_or, Nat.testBit_or, Bool.or_eq_true, Bool.or_eq_true, testBit_bitsOf acc m r, Nat.testBit_two_pow]
      constructor
      · rintro (h | h | ⟨x, h1, h2⟩)
        · exact ⟨e, by simp, hb, .inl (by simpa using h)⟩
        · exact ⟨e, by simp, hb, .inr h⟩
        · exact ⟨x, by simp [h1], h2⟩
      · rintro ⟨x, h1, h2, h3⟩
        rw [List.mem_cons] at h1
        rcases h1 with rfl | h1
        · rcases h3 with h3 | h3
          · exact .inl (by simpa using h3)
          · exact .inr (.inl h3)
        · exact .inr (.inr ⟨x, h1, h2, h3⟩)

theorem befs_length : ∀ (l : List Oper) (acc : List Nat), (befs l acc).length = acc.length + l.length
  | [], acc => by simp [befs]
  | o :: r, acc => by simp only [befs]; rw [befs_length r]; simp; omega

theorem befs_old : ∀ (l : List Oper) (acc : List Nat) (j : Nat), j < acc.length → (befs l acc)[j]? = acc[j]?
  | [], acc, j, h => rfl
  | o :: r, acc, j, h => by simp only [befs]; rw [befs_old r _ j (by simp; omega), List.getElem?_append, if_pos h]

theorem bitsOf_congr {acc acc' : List Nat} : ∀ es : List Edge, (∀ e ∈ es, Region.binds .any e = true → acc.getD e.on 0 = acc'.getD e.on 0) → bitsOf acc es = bitsOf acc' es
  | [], _ => rfl
  | e :: r, h => by
    simp only [bitsOf]
    rw [bitsOf_congr r (fun x hx => h x (by simp [hx]))]
    cases hb : Region.binds .any e with
    | false => rfl
    | true => rw [h e (by simp) hb]

theorem befs_at : ∀ (l : List Oper) (acc : List Nat) (j : Nat) (o : Oper), l[j]? = some o → (∀ e ∈ o.after.toList, Region.binds .any e = true → e.on < acc.length + j) →
    (befs l acc)[acc.length + j]? = some (bitsOf (befs l acc) o.after.toList)
  | [], acc, j, o, h, _ => by simp at h
  | x :: r, acc, 0, o, h, hb => by
    simp at h
    subst h
    simp only [befs, Nat.add_zero]
    rw [befs_old r _ acc.length (by simp)]
    simp only [List.getElem?_append, Nat.lt_irrefl, if_false, Nat.sub_self, List.getElem?_cons_zero]
    congr 1
    refine bitsOf_congr _ fun e he hbe => ?_
    have hlt : e.on < acc.length := by simpa using hb e he hbe
    simp only [List.getD_eq_getElem?_getD]
    rw [befs_old r _ e.on (by simp; omega), List.getElem?_append, if_pos hlt]
  | x :: r, acc, j + 1, o, h, hb => by
    simp only [befs]
    have := befs_at r (acc ++ [bitsOf acc x.after.toList]) j o (by simpa using h) (fun e he hbe => by have := hb e he hbe; simp; omega)
    rw [← this]
    congr 1
    simp
    omega

def bef (ops : Array Oper) (i m : Nat) : Prop := ((before ops).getD i 0).testBit m = true

/-- What the Bool 'regOk' says. -/
structure RegOk (ops : Array Oper) : Prop where
  lead : ∀ i o, ops[i]? = some o → ∀ e ∈ o.after.toList, Region.binds .any e = true → e.on < i
  apart : ∀ i j x o, ops[i]? = some x → ops[j]? = some o → i < j → bef ops j i ∨ x.apart ops o = true

theorem regOk_spec {ops : Array Oper} (h : regOk ops = true) : RegOk ops := by
  unfold regOk at h
  rw [List.all_eq_true] at h
  have hlt : ∀ {i : Nat} {o : Oper}, ops[i]? = some o → i < ops.size := fun {i o} hi => by
    rcases Nat.lt_or_ge i ops.size with h' | h'
    · exact h'
    · rw [Array.getElem?_eq_none h'] at hi; cases hi
  refine ⟨fun i o hi e he hb => ?_, fun i j x o hi hj hij => ?_⟩
  · have := h i (by simpa using hlt hi)
    rw [hi] at this
    simp only [Bool.and_eq_true] at this
    have := List.all_eq_true.mp this.1 e he
    rw [hb] at this
    simpa [Nat.blt_eq] using this
  · have := h j (by simpa using hlt hj)
    rw [hj] at this
    simp only [Bool.and_eq_true] at this
    have := List.all_eq_true.mp this.2 i (by simpa using hij)
    rw [hi] at this
    simpa [bef] using this

section
variable {ops : Array Oper} (hR : RegOk ops)
include hR

theorem RegOk.bef_iff {i m : Nat} {o : Oper} (hi : ops[i]? = some o) : bef ops i m ↔ ∃ e ∈ o.after.toList, Region.binds .any e = true ∧ (e.on = m ∨ bef ops e.on m) := by
  unfold bef before
  have := befs_at ops.toList [] i o (by simpa using hi) (fun e he hb => by simpa using hR.lead i o hi e he hb)
  simp only [List.length_nil, Nat.zero_add] at this
  rw [List.getD_eq_getElem?_getD (i := i), this, Option.getD_some, testBit_bitsOf]

theorem RegOk.bef_lt {i : Nat} : ∀ m, (∃ o, ops[i]? = some o) → bef ops i m → m < i := by
  induction i using Nat.strongRecOn with
  | _ i ih =>
    rintro m ⟨o, hi⟩ h
    obtain ⟨e, he, hb, h⟩ := (hR.bef_iff hi).mp h
    have hlt := hR.lead i o hi e he hb
    rcases h with h | h
    · omega
    · have hlt2 : e.on < ops.size := by
        have : i < ops.size := by
          rcases Nat.lt_or_ge i ops.size with h' | h'
          · exact h'
          · rw [Array.getElem?_eq_none h'] at hi; cases hi
        omega
      have := ih e.on hlt m ⟨_, Array.getElem?_eq_getElem hlt2⟩ h
      omega

theorem RegOk.bef_trans {i : Nat} : ∀ m l, (∃ o, ops[i]? = some o) → bef ops i m → bef ops m l → bef ops i l := by
  induction i using Nat.strongRecOn with
  | _ i ih =>
    rintro m l ⟨o, hi⟩ h h'
    obtain ⟨e, he, hb, h⟩ := (hR.bef_iff hi).mp h
    have hlt := hR.lead i o hi e he hb
    have hlt2 : e.on < ops.size := by
      have : i < ops.size := by
        rcases Nat.lt_or_ge i ops.size with h' | h'
        · exact h'
        · rw [Array.getElem?_eq_none h'] at hi; cases hi
      omega
    refine (hR.bef_iff hi).mpr ⟨e, he, hb, .inr ?_⟩
    rcases h with h | h
    · rw [h]; exact h'
    · exact ih e.on hlt m l ⟨_, Array.getElem?_eq_getElem hlt2⟩ h h'

/-- What has been done holds all that it waited for. -/
theorem RegOk.closed {D : Nat → Prop} (hD : ∀ i o, ops[i]? = some o → D i → ∀ e ∈ o.after.toList, Region.binds .any e = true → D e.on) {i : Nat} :
    ∀ m, (∃ o, ops[i]? = some o) → D i → bef ops i m → D m := by
  induction i using Nat.strongRecOn with
  | _ i ih =>
    rintro m ⟨o, hi⟩ hDi h
    obtain ⟨e, he, hb, h⟩ := (hR.bef_iff hi).mp h
    have hlt := hR.lead i o hi e he hb
    have hlt2 : e.on < ops.size := by
      have : i < ops.size := by
        rcases Nat.lt_or_ge i ops.size with h' | h'
        · exact h'
        · rw [Array.getElem?_eq_none h'] at hi; cases hi
      omega
    have := hD i o hi hDi e he hb
    rcases h with h | h
    · rw [← h]; exact this
    · exact ih e.on hlt m ⟨_, Array.getElem?_eq_getElem hlt2⟩ this h

end

/-! ### operations that look at no heap -/
theorem builtinV_pure {P : Program} {H H0 H2 : AH} {b : Builtin} {ts : List TypeId} {xs : List Value} {v : Value} (hb : b = .len ∨ b = .max ∨ b = .min) (h : builtinV P H b ts xs = some (v, H2)) :
    builtinV P H0 b ts xs = some (v, H0) := by
  rcases hb with rfl | rfl | rfl
  · match ts, xs with
    | [t], [x] =>
      simp only [builtinV] at h ⊢
      split at h <;> first | (cases h; done) | skip
      injection h with h; injection h with h1 h2; subst h1; rfl
    | [], _ => simp [builtinV] at h
    | _ :: _ :: _, _ => simp [builtinV] at h
    | [_], [] => simp [builtinV] at h
    | [_], _ :: _ :: _ => simp [builtinV] at h
  · simp only [builtinV] at h ⊢
    split at h <;> first | (cases h; done) | skip
    injection h with h; injection h with h1 h2; subst h1; rfl
  · simp only [builtinV] at h ⊢
    split at h <;> first | (cases h; done) | skip
    injection h with h; injection h with h1 h2; subst h1; rfl

theorem evOp_pure {P : Program} {C : Cfg} {call : FuncId → List Value → AH → Option (Value × AH)} {tm : Tr Value} {H H2 : AH} {op : Op} {v : Value} (hp : heapOp op = false) (h : evOp P C call tm H op = some (v, H2)) (H0 : AH) :
    evOp P C call tm H0 op = some (v, H0) := by
  cases op
  case call c =>
    obtain ⟨callee, cargs, cts⟩ := c
    cases callee with
    | value f => simp [heapOp] at hp
    | invoke r m => simp [heapOp] at hp
    | builtin b =>
      simp only [evOp, oMove, oAssign, oPick, oBinOp, oUnOp, oConvert, oExtract, oIndexAddr, oIndex, oLoad, oStore, oField, oFieldAddr, oSlice, oMakeSlice, oBuildSlice, oBuild, oAlloc, oBox, oNilCheck, oMakeFunc, oCall] at h ⊢
      split at h <;> first | (cases h; done) | skip
      rename_i xs hx
      exact builtinV_pure (by cases b <;> first | (simp; done) | (simp [heapOp] at hp; done)) h
  all_goals first | (simp [heapOp] at hp; done) | skip
  all_goals
    simp only [evOp, oMove, oAssign, oPick, oBinOp, oUnOp, oConvert, oExtract, oIndexAddr, oIndex, oLoad, oStore, oField, oFieldAddr, oSlice, oMakeSlice, oBuildSlice, oBuild, oAlloc, oBox, oNilCheck, oMakeFunc, oCall] at h ⊢
    repeat' split at h
    all_goals first | (cases h; done) | skip
    all_goals (injection h with h; injection h with h1 h2; subst h1; simp_all)

end
end Go.Proofs.Ytldapilhmmbjhaa.Ev
