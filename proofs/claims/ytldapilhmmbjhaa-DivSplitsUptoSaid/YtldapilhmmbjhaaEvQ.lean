/-
  THE ENGINE, part Q: walking open code: weakest preconditions over the limit evaluator.
-/
import Derived.Test.YtldapilhmmbjhaaEvP
namespace Go.Proofs.Ytldapilhmmbjhaa.Ev
open Go Go.RowKit
set_option linter.unusedVariables false
set_option linter.unusedSimpArgs false
noncomputable section

/-- An operation, without what only the order needs: its place, the operation, its guard's place. -/
structure SOp where
  dst : Option Tmp
  op : Op
  grd : Option (Option Tmp × Bool)

def stripL (ops : Array Oper) : List Oper → List SOp
  | [] => []
  | o :: r => ⟨o.dst, o.op, match o.guard with | none => none | some (j, b) => some ((ops[j]?).bind (·.dst), b)⟩ :: stripL ops r

def strip (ops : Array Oper) : List SOp := stripL ops ops.toList

section
variable (P : Program) (C : Cfg)

/-- A call and what holds behind it. -/
def CW (f : FuncId) (args : List Value) (H : AH) (Q : Value → AH → Prop) : Prop := ∃ v H', callI P C f args H = some (v, H') ∧ Q v H'

/-- One operation. -/
def OWr (r : Option (Value × AH)) (K : Value → AH → Prop) : Prop := ∃ v H', r = some (v, H') ∧ K v H'
def OW (op : Op) (tm : Tr Value) (H : AH) (K : Value → AH → Prop) : Prop := OWr (evOp P C (callI P C) tm H op) K

def gW (tm : Tr Value) (g : Option (Option Tmp × Bool)) : Option Bool :=
  match g with
  | none => some true
  | some (some d, want) => match tm.get d with
    | some (.bool b) => some (b == want)
    | some (.tuple _) => some false
    | _ => none
  | some (none, _) => none

def LW' (k : Nat) : List SOp → Tr Value → AH → (Tr Value → AH → Prop) → Prop
  | [], tm, H, K => K tm H
  | o :: r, tm, H, K => match gW tm o.grd with
    | some true => match evOp P C (callI P C) tm H o.op with
      | some (v, H') => match o.dst with
        | none => LW' k r tm H' K
        | some d => d < k ∧ LW' k r (tm.set d v) H' K
      | none => False
    | some false => match o.dst with
      | none => LW' k r tm H K
      | some d => d < k ∧ LW' k r (tm.set d undef) H K
    | none => False

def W (c : Code) (s : St) (Q : Ex → St → Prop) : Prop := ∃ ex s', evI P C c s = some (ex, s') ∧ Q ex s'
end

section
variable {P : Program} {C : Cfg} {Q : Ex → St → Prop}

theorem gW_eq {ops : Array Oper} {tm : Tr Value} {o : Oper} : wantedV ops tm o = gW tm (match o.guard with | none => none | some (j, b) => some ((ops[j]?).bind (·.dst), b)) := by
  unfold wantedV gW
  cases o.guard with
  | none => rfl
  | some x =>
    obtain ⟨j, b⟩ := x
    simp only
    cases (ops[j]?).bind (·.dst) <;> rfl

theorem LW_list {ops : Array Oper} {k : Nat} : ∀ (l : List Oper) (tm : Tr Value) (H : AH) (K : Tr Value → AH → Prop), LW' P C k (stripL ops l) tm H K → ∃ tm' H', evList P C (callI P C) ops l ⟨k, tm, H⟩ = some ⟨k, tm', H'⟩ ∧ K tm' H'
  | [], tm, H, K, h => ⟨tm, H, rfl, h⟩
  | o :: r, tm, H, K, h => by
    have put : ∀ (v : Value) (H1 : AH), (match o.dst with | none => LW' P C k (stripL ops r) tm H1 K | some d => d < k ∧ LW' P C k (stripL ops r) (tm.set d v) H1 K) →
        ∃ tm1, (St.put ⟨k, tm, H⟩ o.dst v H1) = some ⟨k, tm1, H1⟩ ∧ LW' P C k (stripL ops r) tm1 H1 K := fun v H1 h => by
      cases hd : o.dst with
      | none => rw [hd] at h; exact ⟨tm, rfl, h⟩
      | some d =>
        rw [hd] at h
        have : Nat.blt d k = true := by rw [Nat.blt_eq]; exact h.1
        exact ⟨tm.set d v, by simp only [St.put, putSt, this, cond_true], h.2⟩
    rw [evList_cons]
    simp only
    rw [gW_eq]
    simp only [stripL, LW'] at h
    split at h
    · rename_i hg
      rw [hg]
      split at h
      · rename_i v H1 hop
        obtain ⟨tm1, hput, hl⟩ := put v H1 h
        obtain ⟨tm', H', h1, h2⟩ := LW_list r tm1 H1 K hl
        refine ⟨tm', H', ?_, h2⟩
        simp only [hop, hput]
        exact h1
      · exact h.elim
    · rename_i hg
      rw [hg]
      obtain ⟨tm1, hput, hl⟩ := put undef H h
      obtain ⟨tm', H', h1, h2⟩ := LW_list r tm1 H K hl
      refine ⟨tm', H', ?_, h2⟩
      simp only [hput]
      exact h1
    · exact h.elim

theorem W_region {i : Nat} {ops : Array Oper} {s : St} (h : LW' P C s.k (strip ops) s.tm s.H fun tm' H' => Q .norm ⟨s.k, tm', H'⟩) : W P C (.region i ops false) s Q := by
  obtain ⟨k, tm, H⟩ := s
  obtain ⟨tm', H', h1, h2⟩ := LW_list (ops := ops) ops.toList tm H _ h
  refine ⟨.norm, ⟨k, tm', H'⟩, ?_, h2⟩
  rw [evI_eq]
  simp only [evStep]
  have : evRegion P C (evCall P C (evI P C)) ops false ⟨k, tm, H⟩ = some ⟨k, tm', H'⟩ := by
    unfold evRegion evRegionD
    simp only [Bool.false_and, cond_false]
    exact h1
  rw [this]

def seqQ (P : Program) (C : Cfg) (b : Code) (Q : Ex → St → Prop) : Ex → St → Prop
  | .norm, s => W P C b s Q
  | e, s => Q e s

/-- (The code that follows is hidden behind a name.) -/
theorem W_seq {a b : Code} {s : St} (h : ∀ b', b' = b → W P C a s (seqQ P C b' Q)) : W P C (.seq a b) s Q := by
  obtain ⟨ex, s1, h1, h2⟩ := h b rfl
  unfold W
  rw [evI_eq]
  simp only [evStep, h1]
  cases ex with
  | norm => exact h2
  | exit j => exact ⟨_, _, rfl, h2⟩
  | ret => exact ⟨_, _, rfl, h2⟩

theorem W_skip {s : St} (h : Q .norm s) : W P C .skip s Q := ⟨.norm, s, by rw [evI_eq]; rfl, h⟩
theorem W_exit {i : Nat} {s : St} (h : Q (.exit i) s) : W P C (.exit i) s Q := ⟨.exit i, s, by rw [evI_eq]; rfl, h⟩
theorem W_ret {s : St} (h : Q .ret s) : W P C .ret s Q := ⟨.ret, s, by rw [evI_eq]; rfl, h⟩

theorem W_cond {x : Operand} {a b : Code} {s : St} {t : Bool} (hx : opd C s.tm x = some (.bool t)) (h : W P C (cond t a b) s Q) : W P C (.cond x a b) s Q := by
  unfold W
  rw [evI_eq]
  simp only [evStep, hx]
  exact h

def blockQ (id : Nat) (Q : Ex → St → Prop) : Ex → St → Prop
  | .exit j, s => (j = id ∧ Q .norm s) ∨ (j ≠ id ∧ Q (.exit j) s)
  | e, s => Q e s

theorem W_block {id : Nat} {b : Code} {s : St} (h : W P C b s (blockQ id Q)) : W P C (.block id b) s Q := by
  obtain ⟨ex, s1, h1, h2⟩ := h
  unfold W
  rw [evI_eq]
  simp only [evStep, h1]
  cases ex with
  | norm => exact ⟨_, _, rfl, h2⟩
  | exit j =>
    rcases h2 with ⟨e, h2⟩ | ⟨e, h2⟩
    · exact ⟨.norm, s1, by simp only [beq_true' e, cond_true], h2⟩
    · exact ⟨.exit j, s1, by simp only [beq_false' e, cond_false], h2⟩
  | ret => exact ⟨_, _, rfl, h2⟩

theorem W_loop1 {b : Code} {s : St} (h : W P C b s (seqQ P C (.loop b) Q)) : W P C (.loop b) s Q := by
  obtain ⟨ex, s1, h1, h2⟩ := h
  unfold W
  rw [evI_eq]
  simp only [evStep, h1]
  cases ex with
  | norm => exact h2
  | exit j => exact ⟨_, _, rfl, h2⟩
  | ret => exact ⟨_, _, rfl, h2⟩

def loopQ (I : Nat → St → Prop) (n : Nat) (Q : Ex → St → Prop) : Ex → St → Prop
  | .norm, s => ∃ m, m < n ∧ I m s
  | e, s => Q e s

theorem W_loop {b : Code} (I : Nat → St → Prop) (h : ∀ n s, I n s → W P C b s (loopQ I n Q)) : ∀ (n : Nat) (s : St), I n s → W P C (.loop b) s Q := by
  intro n
  induction n using Nat.strongRecOn with
  | _ n ih =>
    intro s hI
    apply W_loop1
    obtain ⟨ex, s1, h1, h2⟩ := h n s hI
    refine ⟨ex, s1, h1, ?_⟩
    cases ex with
    | norm => obtain ⟨m, hm, hI'⟩ := h2; exact ih m hm s1 hI'
    | exit j => exact h2
    | ret => exact h2

theorem W.mono {c : Code} {s : St} {Q' : Ex → St → Prop} (h : W P C c s Q) (hQ : ∀ e s, Q e s → Q' e s) : W P C c s Q' := by
  obtain ⟨e, s1, h1, h2⟩ := h
  exact ⟨e, s1, h1, hQ _ _ h2⟩

theorem CW.mono {f : FuncId} {args : List Value} {H : AH} {Q Q' : Value → AH → Prop} (h : CW P C f args H Q) (hQ : ∀ v H', Q v H' → Q' v H') : CW P C f args H Q' := by
  obtain ⟨v, H', h1, h2⟩ := h
  exact ⟨v, H', h1, hQ _ _ h2⟩

/-- A function's call, by its code. -/
theorem CW_intro (k : Nat) {f : FuncId} {fn : Func} {c : Code} {args : List Value} {H : AH} {R : Value → AH → Prop} (ha : Nat.beq f C.add = false) (hs : Nat.beq f C.sub = false) (hf : P.funcs[f]? = some fn) (hb : fn.body = some c) (hk : args.length + (fn.ntmps - args.length) = k)
    (h : W P C c { k := k, tm := tmOf 0 args .nil, H := H } fun ex s => (ex = .norm ∨ ex = .ret) ∧ ∃ vs, resultV P s fn.results.toList = some vs ∧ R (packV vs) s.H) : CW P C f args H R := by
  subst hk
  obtain ⟨ex, s, h1, h2, vs, h3, h4⟩ := h
  refine ⟨packV vs, s.H, ?_, h4⟩
  unfold callI evCall
  rw [ha, cond_false, hs, cond_false, hf]
  simp only [hb, Bool.or_true, cond_true, h1]
  rcases h2 with rfl | rfl
  · simp only [h3]
  · simp only [h3]

/-! ### operations -/
variable {tm : Tr Value} {H : AH} {K : Value → AH → Prop}
theorem OWr_some {v : Value} {H' : AH} : OWr (some (v, H')) K ↔ K v H' := ⟨fun ⟨_, _, h1, h3⟩ => by cases h1; exact h3, fun h => ⟨_, _, rfl, h⟩⟩
theorem OWr_none : OWr none K ↔ False := by
  constructor
  · rintro ⟨_, _, h1, _⟩
    cases h1
  · exact False.elim
theorem OWr_call {f : FuncId} {args : List Value} : OWr (callI P C f args H) K ↔ CW P C f args H K := Iff.rfl
theorem OW_call {c : Call} {f : FuncId} {args : List Value} (h1 : c.callee = .value (.func f)) (h2 : opds C tm c.args.toList = some args) (h : CW P C f args H K) : OW P C (.call c) tm H K := by
  obtain ⟨v, H', h3, h4⟩ := h
  refine ⟨v, H', ?_, h4⟩
  obtain ⟨callee, cargs, cts⟩ := c
  simp only at h1 h2
  subst h1
  simp only [evOp, oCall, opd, calleeV, h2, List.nil_append, List.append_nil]
  exact h3
end

end

end Go.Proofs.Ytldapilhmmbjhaa.Ev
