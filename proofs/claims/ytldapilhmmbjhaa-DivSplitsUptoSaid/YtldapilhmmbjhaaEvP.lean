/-
  THE ENGINE, part P: the evaluator without rounds: the limit of 'ev', and its equation. Open laws are proved over it by rewriting.
-/
import Derived.Test.YtldapilhmmbjhaaEvM
namespace Go.Proofs.Ytldapilhmmbjhaa.Ev
open Go Go.RowKit
set_option linter.unusedVariables false
set_option linter.unusedSimpArgs false
noncomputable section

/-! ### more rounds, the same answer -/
def CLe (f g : FuncId → List Value → AH → Option (Value × AH)) : Prop := ∀ x a H r, f x a H = some r → g x a H = some r
def ELe (f g : Code → St → Option (Ex × St)) : Prop := ∀ c s r, f c s = some r → g c s = some r

section
variable {P : Program} {C : Cfg} {f g : FuncId → List Value → AH → Option (Value × AH)}

theorem evOp_le (h : CLe f g) {tm : Tr Value} {H : AH} {op : Op} {r : Value × AH} (he : evOp P C f tm H op = some r) : evOp P C g tm H op = some r := by
  cases op
  case call c =>
    obtain ⟨callee, cargs, cts⟩ := c
    cases callee with
    | value x =>
      simp only [evOp, oCall] at he ⊢
      split at he <;> first | (cases he; done) | skip
      split at he <;> first | (cases he; done) | skip
      exact h _ _ _ _ he
    | builtin b => exact he
    | invoke x m => exact he
  all_goals exact he

theorem evList_le (h : CLe f g) {ops : Array Oper} : ∀ (l : List Oper) (s s' : St), evList P C f ops l s = some s' → evList P C g ops l s = some s'
  | [], s, s', he => he
  | o :: rest, s, s', he => by
    rw [evList_cons] at he ⊢
    split at he <;> first | (cases he; done) | skip
    · rename_i hw
      split at he <;> first | (cases he; done) | skip
      rename_i v H hop
      split at he <;> first | (cases he; done) | skip
      rename_i s1 hput
      simp only [evOp_le h hop, hput]
      exact evList_le h rest s1 s' he
    · rename_i hw
      split at he <;> first | (cases he; done) | skip
      rename_i s1 hput
      try simp only [hput]
      exact evList_le h rest s1 s' he

theorem evDrawOp_le (h : CLe f g) {ops : Array Oper} {i : Nat} {q : Bool} {ms : List (Nat × Nat × Nat)} {s : St} {o : Oper} {r : Value × AH × Bool} (he : evDrawOp P C f ops i q ms s o = some r) : evDrawOp P C g ops i q ms s o = some r := by
  unfold evDrawOp at he ⊢
  cases hh : heapOp o.op with
  | false =>
    rw [hh, cond_false] at he
    rw [cond_false]
    split at he <;> first | (cases he; done) | skip
    rename_i v H2 hop
    simp only [evOp_le h hop]
    exact he
  | true =>
    rw [hh, cond_true] at he
    rw [cond_true]
    simp only at he ⊢
    split at he <;> first | (cases he; done) | skip
    rename_i v H2 hop
    simp only [evOp_le h hop]
    exact he

theorem evDraw_le (h : CLe f g) {ops : Array Oper} : ∀ (l : List Oper) (i : Nat) (q : Bool) (ms : List (Nat × Nat × Nat)) (s s' : St), evDraw P C f ops i q ms l s = some s' → evDraw P C g ops i q ms l s = some s'
  | [], i, q, ms, s, s', he => by simp only [evDraw] at he ⊢; exact he
  | o :: rest, i, q, ms, s, s', he => by
    simp only [evDraw] at he ⊢
    split at he <;> first | (cases he; done) | skip
    · rename_i hw
      split at he <;> first | (cases he; done) | skip
      rename_i v H q' hop
      split at he <;> first | (cases he; done) | skip
      rename_i s1 hput
      simp only [evDrawOp_le h hop, hput]
      exact evDraw_le h rest _ _ _ s1 s' he
    · rename_i hw
      split at he <;> first | (cases he; done) | skip
      rename_i s1 hput
      try simp only [hput]
      exact evDraw_le h rest _ _ _ s1 s' he

theorem evMem_le (h : CLe f g) {ops : Array Oper} : ∀ (l : List Oper) (i : Nat) (fs : List (Nat × Nat × Bool)) (s s' : St), evMem P C f ops i fs l s = some s' → evMem P C g ops i fs l s = some s'
  | [], i, fs, s, s', he => by simp only [evMem] at he ⊢; exact he
  | o :: rest, i, fs, s, s', he => by
    simp only [evMem] at he ⊢
    split at he <;> first | (cases he; done) | skip
    · rename_i hw
      split at he <;> first | (cases he; done) | skip
      · rename_i hf
        split at he <;> first | (cases he; done) | skip
        rename_i v H hop
        split at he <;> first | (cases he; done) | skip
        rename_i s1 hput
        simp only [evOp_le h hop, hput]
        exact evMem_le h rest _ _ s1 s' he
      · rename_i b w hf
        cases hc : noClash ((before ops).getD i 0) b w fs with
        | false => rw [hc] at he; cases he
        | true =>
          rw [hc, cond_true] at he
          rw [cond_true]
          split at he <;> first | (cases he; done) | skip
          rename_i v H hop
          split at he <;> first | (cases he; done) | skip
          rename_i s1 hput
          simp only [evOp_le h hop, hput]
          exact evMem_le h rest _ _ s1 s' he
    · rename_i hw
      split at he <;> first | (cases he; done) | skip
      rename_i s1 hput
      try simp only [hput]
      exact evMem_le h rest _ _ s1 s' he

theorem evRegion_le (h : CLe f g) {ops : Array Oper} {draw : Bool} {s s' : St} (he : evRegion P C f ops draw s = some s') : evRegion P C g ops draw s = some s' := by
  unfold evRegion at he ⊢
  cases hb : (draw && memOnly ops) with
  | true =>
    rw [hb, cond_true] at he
    rw [cond_true]
    cases hr : regOk ops with
    | false => rw [hr] at he; cases he
    | true => rw [hr, cond_true] at he; rw [cond_true]; exact evMem_le h _ _ _ _ _ he
  | false =>
    rw [hb, cond_false] at he
    rw [cond_false]
    unfold evRegionD at he ⊢
    cases draw with
    | false => rw [cond_false] at he ⊢; exact evList_le h _ _ _ he
    | true =>
      rw [cond_true] at he ⊢
      cases hr : regOk ops with
      | false => rw [hr] at he; cases he
      | true => rw [hr, cond_true] at he; rw [cond_true]; exact evDraw_le h _ _ _ _ _ _ he

theorem evCall_le {u v : Code → St → Option (Ex × St)} (h : ELe u v) : CLe (evCall P C u) (evCall P C v) := by
  intro x a H r he
  unfold evCall at he ⊢
  cases h1 : Nat.beq x C.add with
  | true => rw [h1, cond_true] at he; rw [cond_true]; exact he
  | false =>
    rw [h1, cond_false] at he
    rw [cond_false]
    cases h2 : Nat.beq x C.sub with
    | true => rw [h2, cond_true] at he; rw [cond_true]; exact he
    | false =>
      rw [h2, cond_false] at he
      rw [cond_false]
      split at he <;> first | (cases he; done) | skip
      split at he <;> first | (cases he; done) | skip
      cases h3 : (Nat.beq (Func.params _).size a.length || true) with
      | false => rw [h3] at he; cases he
      | true =>
        rw [h3, cond_true] at he
        rw [cond_true]
        split at he <;> first | (cases he; done) | skip
        · rename_i hc; rw [h _ _ _ hc]; exact he
        · rename_i hc; rw [h _ _ _ hc]; exact he

theorem evStep_le {u v : Code → St → Option (Ex × St)} (h : ELe u v) : ELe (evStep P C u) (evStep P C v) := by
  intro c s r he
  cases c <;> simp only [evStep] at he ⊢ <;> first | exact he | skip
  · split at he <;> first | (cases he; done) | skip
    rename_i s1 hr
    rw [evRegion_le (evCall_le h) hr]
    exact he
  · split at he
    · rename_i s1 hr
      rw [h _ _ _ hr]
      exact h _ _ _ he
    · rename_i hn
      rw [h _ _ _ he]
      split
      · rename_i s1 e
        exact absurd (he.trans e) (by intro e'; exact hn s1 e')
      · rfl
  · split at he <;> first | (cases he; done) | skip
    exact h _ _ _ he
  · split at he
    · rename_i j s1 hr
      rw [h _ _ _ hr]
      exact he
    · rename_i hn
      rw [h _ _ _ he]
      split
      · rename_i j s1 e
        exact absurd (he.trans e) (by intro e'; exact hn j s1 e')
      · rfl
  · split at he
    · rename_i s1 hr
      rw [h _ _ _ hr]
      exact h _ _ _ he
    · rename_i hn
      rw [h _ _ _ he]
      split
      · rename_i s1 e
        exact absurd (he.trans e) (by intro e'; exact hn s1 e')
      · rfl
end

theorem ev_le {P : Program} {C : Cfg} : ∀ {n m : Nat}, n ≤ m → ELe (ev P C n) (ev P C m)
  | 0, m, _ => fun c s r h => by rw [ev_zero] at h; cases h
  | n + 1, 0, h => by omega
  | n + 1, m + 1, h => by
    rw [ev_succ, ev_succ]
    exact evStep_le (ev_le (by omega))

/-! ### the limit -/
open Classical in
def evI (P : Program) (C : Cfg) (c : Code) (s : St) : Option (Ex × St) := if h : ∃ n r, ev P C n c s = some r then some (Classical.choose (Classical.choose_spec h)) else none

theorem evI_of {P : Program} {C : Cfg} {n : Nat} {c : Code} {s : St} {r : Ex × St} (h : ev P C n c s = some r) : evI P C c s = some r := by
  have hx : ∃ n r, ev P C n c s = some r := ⟨n, r, h⟩
  unfold evI
  rw [dif_pos hx]
  have h2 := Classical.choose_spec (Classical.choose_spec hx)
  have a := ev_le (Nat.le_max_left n (Classical.choose hx)) c s r h
  have b := ev_le (Nat.le_max_right n (Classical.choose hx)) c s _ h2
  rw [a] at b
  exact b.symm

theorem evI_some {P : Program} {C : Cfg} {c : Code} {s : St} {r : Ex × St} (h : evI P C c s = some r) : ∃ n, ev P C n c s = some r := by
  unfold evI at h
  split at h
  · rename_i hx
    obtain rfl := Option.some.inj h
    exact ⟨_, Classical.choose_spec (Classical.choose_spec hx)⟩
  · cases h

/-- A call, without rounds. -/
def callI (P : Program) (C : Cfg) (f : FuncId) (args : List Value) (H : AH) : Option (Value × AH) := evCall P C (evI P C) f args H

section
variable {P : Program} {C : Cfg}

theorem ev_evI (n : Nat) : ELe (ev P C n) (evI P C) := fun c s r h => evI_of h

/-- What the limit's call answers, a call with rounds answers. -/
theorem callI_some {f : FuncId} {args : List Value} {H : AH} {r : Value × AH} (he : callI P C f args H = some r) : ∃ n, evCall P C (ev P C n) f args H = some r := by
  unfold callI evCall at he
  cases h1 : Nat.beq f C.add with
  | true => rw [h1, cond_true] at he; exact ⟨0, by unfold evCall; rw [h1, cond_true]; exact he⟩
  | false =>
    rw [h1, cond_false] at he
    cases h2 : Nat.beq f C.sub with
    | true => rw [h2, cond_true] at he; exact ⟨0, by unfold evCall; rw [h1, cond_false, h2, cond_true]; exact he⟩
    | false =>
      rw [h2, cond_false] at he
      split at he <;> first | (cases he; done) | skip
      rename_i fn hf
      split at he <;> first | (cases he; done) | skip
      rename_i c hb
      have h3 : (Nat.beq fn.params.size args.length || true) = true := by simp
      rw [h3, cond_true] at he
      have key : ∀ s n, ev P C n c { k := args.length + (fn.ntmps - args.length), tm := tmOf 0 args .nil, H := H } = some s → evI P C c { k := args.length + (fn.ntmps - args.length), tm := tmOf 0 args .nil, H := H } = some s →
          ∃ n, evCall P C (ev P C n) f args H = some r := fun s n hs hs' => by
        refine ⟨n, ?_⟩
        unfold evCall
        rw [h1, cond_false, h2, cond_false, hf]
        simp only [hb, h3, cond_true, hs]
        rw [hs'] at he
        exact he
      split at he <;> first | (cases he; done) | skip
      · rename_i s hs
        obtain ⟨n, hn⟩ := evI_some hs
        exact key _ n hn hs
      · rename_i s hs
        obtain ⟨n, hn⟩ := evI_some hs
        exact key _ n hn hs

theorem call_evI (n : Nat) : CLe (evCall P C (ev P C n)) (callI P C) := evCall_le (ev_evI n)

/-! ### a region needs finitely many rounds -/
theorem evOp_fin {tm : Tr Value} {H : AH} {op : Op} {r : Value × AH} (he : evOp P C (callI P C) tm H op = some r) : ∃ n, evOp P C (evCall P C (ev P C n)) tm H op = some r := by
  cases op
  case call c =>
    obtain ⟨callee, cargs, cts⟩ := c
    cases callee with
    | value x =>
      simp only [evOp, oCall] at he ⊢
      split at he <;> first | (cases he; done) | skip
      split at he <;> first | (cases he; done) | skip
      obtain ⟨n, hn⟩ := callI_some he
      exact ⟨n, hn⟩
    | builtin b => exact ⟨0, he⟩
    | invoke x m => exact ⟨0, he⟩
  all_goals exact ⟨0, he⟩

theorem run_le {n m : Nat} (h : n ≤ m) : CLe (evCall P C (ev P C n)) (evCall P C (ev P C m)) := evCall_le (ev_le h)

theorem evList_fin {ops : Array Oper} : ∀ (l : List Oper) (s s' : St), evList P C (callI P C) ops l s = some s' → ∃ n, evList P C (evCall P C (ev P C n)) ops l s = some s'
  | [], s, s', he => ⟨0, he⟩
  | o :: rest, s, s', he => by
    rw [evList_cons] at he
    split at he <;> first | (cases he; done) | skip
    · rename_i hw
      split at he <;> first | (cases he; done) | skip
      rename_i v H hop
      split at he <;> first | (cases he; done) | skip
      rename_i s1 hput
      obtain ⟨n1, h1⟩ := evOp_fin hop
      obtain ⟨n2, h2⟩ := evList_fin rest s1 s' he
      refine ⟨max n1 n2, ?_⟩
      rw [evList_cons, hw]
      simp only [evOp_le (run_le (Nat.le_max_left n1 n2)) h1, hput]
      exact evList_le (run_le (Nat.le_max_right n1 n2)) _ _ _ h2
    · rename_i hw
      split at he <;> first | (cases he; done) | skip
      rename_i s1 hput
      obtain ⟨n2, h2⟩ := evList_fin rest s1 s' he
      refine ⟨n2, ?_⟩
      rw [evList_cons, hw]
      try simp only [hput]
      exact h2

theorem evDrawOp_fin {ops : Array Oper} {i : Nat} {q : Bool} {ms : List (Nat × Nat × Nat)} {s : St} {o : Oper} {r : Value × AH × Bool} (he : evDrawOp P C (callI P C) ops i q ms s o = some r) : ∃ n, evDrawOp P C (evCall P C (ev P C n)) ops i q ms s o = some r := by
  unfold evDrawOp at he ⊢
  cases hh : heapOp o.op with
  | false =>
    rw [hh, cond_false] at he
    simp only [cond_false]
    split at he <;> first | (cases he; done) | skip
    rename_i v H2 hop
    obtain ⟨n, hn⟩ := evOp_fin hop
    exact ⟨n, by simp only [hn]; exact he⟩
  | true =>
    rw [hh, cond_true] at he
    simp only [cond_true]
    simp only at he
    split at he <;> first | (cases he; done) | skip
    rename_i v H2 hop
    obtain ⟨n, hn⟩ := evOp_fin hop
    exact ⟨n, by simp only [hn]; exact he⟩

theorem evDraw_fin {ops : Array Oper} : ∀ (l : List Oper) (i : Nat) (q : Bool) (ms : List (Nat × Nat × Nat)) (s s' : St), evDraw P C (callI P C) ops i q ms l s = some s' → ∃ n, evDraw P C (evCall P C (ev P C n)) ops i q ms l s = some s'
  | [], i, q, ms, s, s', he => ⟨0, by simp only [evDraw] at he ⊢; exact he⟩
  | o :: rest, i, q, ms, s, s', he => by
    simp only [evDraw] at he ⊢
    split at he <;> first | (cases he; done) | skip
    · rename_i hw
      split at he <;> first | (cases he; done) | skip
      rename_i v H q' hop
      split at he <;> first | (cases he; done) | skip
      rename_i s1 hput
      obtain ⟨n1, h1⟩ := evDrawOp_fin hop
      obtain ⟨n2, h2⟩ := evDraw_fin rest _ _ _ s1 s' he
      refine ⟨max n1 n2, ?_⟩
      simp only [evDrawOp_le (run_le (Nat.le_max_left n1 n2)) h1, hput]
      exact evDraw_le (run_le (Nat.le_max_right n1 n2)) _ _ _ _ _ _ h2
    · rename_i hw
      split at he <;> first | (cases he; done) | skip
      rename_i s1 hput
      obtain ⟨n2, h2⟩ := evDraw_fin rest _ _ _ s1 s' he
      refine ⟨n2, ?_⟩
      try simp only [hput]
      exact h2

theorem evMem_call {f g : FuncId → List Value → AH → Option (Value × AH)} {ops : Array Oper} : ∀ (l : List Oper) (i : Nat) (fs : List (Nat × Nat × Bool)) (s s' : St), evMem P C f ops i fs l s = some s' → evMem P C g ops i fs l s = some s'
  | [], i, fs, s, s', he => by simp only [evMem] at he ⊢; exact he
  | o :: rest, i, fs, s, s', he => by
    have hop' : ∀ tm H r x, memFoot C tm o.op = some x → evOp P C f tm H o.op = some r → evOp P C g tm H o.op = some r := fun tm H r x hm hop => by
      cases e : o.op
      case call c =>
        rw [e] at hm hop
        obtain ⟨callee, cargs, cts⟩ := c
        cases callee with
        | value x => simp [memFoot, heapOp] at hm
        | builtin b => exact hop
        | invoke x m => exact hop
      all_goals (rw [e] at hop; exact hop)
    simp only [evMem] at he ⊢
    split at he <;> first | (cases he; done) | skip
    · rename_i hw
      split at he <;> first | (cases he; done) | skip
      · rename_i hf
        split at he <;> first | (cases he; done) | skip
        rename_i v H hop
        split at he <;> first | (cases he; done) | skip
        rename_i s1 hput
        simp only [hop' _ _ _ _ hf hop, hput]
        exact evMem_call rest _ _ s1 s' he
      · rename_i b w hf
        cases hc : noClash ((before ops).getD i 0) b w fs with
        | false => rw [hc] at he; cases he
        | true =>
          rw [hc, cond_true] at he
          rw [cond_true]
          split at he <;> first | (cases he; done) | skip
          rename_i v H hop
          split at he <;> first | (cases he; done) | skip
          rename_i s1 hput
          simp only [hop' _ _ _ _ hf hop, hput]
          exact evMem_call rest _ _ s1 s' he
    · rename_i hw
      split at he <;> first | (cases he; done) | skip
      rename_i s1 hput
      try simp only [hput]
      exact evMem_call rest _ _ s1 s' he

theorem evRegion_fin {ops : Array Oper} {draw : Bool} {s s' : St} (he : evRegion P C (callI P C) ops draw s = some s') : ∃ n, evRegion P C (evCall P C (ev P C n)) ops draw s = some s' := by
  unfold evRegion at he ⊢
  cases hb : (draw && memOnly ops) with
  | true =>
    rw [hb, cond_true] at he
    simp only [cond_true]
    cases hr : regOk ops with
    | false => rw [hr] at he; cases he
    | true => rw [hr, cond_true] at he; exact ⟨0, by rw [cond_true]; exact evMem_call _ _ _ _ _ he⟩
  | false =>
    rw [hb, cond_false] at he
    simp only [cond_false]
    unfold evRegionD at he ⊢
    cases draw with
    | false => rw [cond_false] at he; simp only [cond_false]; exact evList_fin _ _ _ he
    | true =>
      rw [cond_true] at he
      simp only [cond_true]
      cases hr : regOk ops with
      | false => rw [hr] at he; cases he
      | true => rw [hr, cond_true] at he; simp only [cond_true]; exact evDraw_fin _ _ _ _ _ _ he

/-- THE EQUATION. -/
theorem evI_eq (c : Code) (s : St) : evI P C c s = evStep P C (evI P C) c s := by
  have up : ∀ r, evI P C c s = some r → evStep P C (evI P C) c s = some r := fun r h => by
    obtain ⟨n, hn⟩ := evI_some h
    cases n with
    | zero => rw [ev_zero] at hn; cases hn
    | succ n => rw [ev_succ] at hn; exact evStep_le (ev_evI n) c s r hn
  have down : ∀ r, evStep P C (evI P C) c s = some r → evI P C c s = some r := fun r he => by
    have fin2 : ∀ (n1 n2 : Nat), (∀ m, n1 ≤ m → n2 ≤ m → evStep P C (ev P C m) c s = some r) → evI P C c s = some r := fun n1 n2 h =>
      evI_of (n := max n1 n2 + 1) (by rw [ev_succ]; exact h _ (Nat.le_max_left _ _) (Nat.le_max_right _ _))
    cases c <;> simp only [evStep] at he <;> first | (cases he; done) | skip
    · exact fin2 0 0 fun m _ _ => by simp only [evStep]; exact he
    · split at he <;> first | (cases he; done) | skip
      rename_i s1 hr
      obtain ⟨n, hn⟩ := evRegion_fin hr
      exact fin2 n 0 fun m h1 _ => by simp only [evStep, evRegion_le (run_le h1) hn]; exact he
    · split at he
      · rename_i s1 hr
        obtain ⟨n1, h1⟩ := evI_some hr
        obtain ⟨n2, h2⟩ := evI_some he
        exact fin2 n1 n2 fun m a b => by simp only [evStep, ev_le a _ _ _ h1]; exact ev_le b _ _ _ h2
      · rename_i hn
        obtain ⟨n1, h1⟩ := evI_some he
        refine fin2 n1 0 fun m a b => ?_
        simp only [evStep, ev_le a _ _ _ h1]
        split
        · rename_i s1 e
          exact absurd (he.trans e) (by intro e'; exact hn s1 e')
        · rfl
    · split at he <;> first | (cases he; done) | skip
      rename_i t ht
      obtain ⟨n1, h1⟩ := evI_some he
      exact fin2 n1 0 fun m a b => by simp only [evStep, ht]; exact ev_le a _ _ _ h1
    · split at he
      · rename_i j s1 hr
        obtain ⟨n1, h1⟩ := evI_some hr
        exact fin2 n1 0 fun m a b => by simp only [evStep, ev_le a _ _ _ h1]; exact he
      · rename_i hn
        obtain ⟨n1, h1⟩ := evI_some he
        refine fin2 n1 0 fun m a b => ?_
        simp only [evStep, ev_le a _ _ _ h1]
        split
        · rename_i j s1 e
          exact absurd (he.trans e) (by intro e'; exact hn j s1 e')
        · rfl
    · split at he
      · rename_i s1 hr
        obtain ⟨n1, h1⟩ := evI_some hr
        obtain ⟨n2, h2⟩ := evI_some he
        exact fin2 n1 n2 fun m a b => by simp only [evStep, ev_le a _ _ _ h1]; exact ev_le b _ _ _ h2
      · rename_i hn
        obtain ⟨n1, h1⟩ := evI_some he
        refine fin2 n1 0 fun m a b => ?_
        simp only [evStep, ev_le a _ _ _ h1]
        split
        · rename_i s1 e
          exact absurd (he.trans e) (by intro e'; exact hn s1 e')
        · rfl
    · exact fin2 0 0 fun m _ _ => by simp only [evStep]; exact he
    · exact fin2 0 0 fun m _ _ => by simp only [evStep]; exact he
  cases h : evI P C c s with
  | some r => exact (up r h).symm
  | none =>
    cases h2 : evStep P C (evI P C) c s with
    | none => rfl
    | some r => rw [down r h2] at h; cases h

/-- What the limit's call answers, the machine does. -/
theorem callI_run {f : FuncId} {args : List Value} {H : AH} {r : Value × AH} (h : callI P C f args H = some r) : ∃ n, run P C n f args H = some r := callI_some h
end

end

end Go.Proofs.Ytldapilhmmbjhaa.Ev
