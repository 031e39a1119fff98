/-
  The engine and the walks that the claim's last text leans on, part 3 of 3: EvQ, OrA, Np, Na, Nb, EvR, Nc, Nd, Ne, Nf, Ng, Nh, Ni, Nj, Nk, Nq, Nl, Nm, Nr, EvS, Ns, Nt, OrB, OrC, OrD, OrE.
-/
import Derived.Test.YtjboehpfojpimaaGreatDoorM2
import Derived.KernelRfl
import Derived.Laws.Bits64
import Derived.Laws.BitsLemmas

/-
  THE ENGINE, part Q: walking open code: weakest preconditions over the limit evaluator.
-/
namespace Go.Proofs.YtjboehpfojpimaaGreatDoor.Ev
open Go Go.RowKit
set_option linter.unusedVariables false
set_option linter.unusedSimpArgs false
noncomputable section

/-- An operation, without what only the order needs: its place, the operation, its guard's place. -/
structure SOp where
  dst : Option Tmp
  op : Op
  grd : Option (Option Tmp × Bool)

def stripL (ops : Array Oper) : List Oper → List SOp
  | [] => []
  | o :: r => ⟨o.dst, o.op, match o.guard with | none => none | some (j, b) => some ((ops[j]?).bind (·.dst), b)⟩ :: stripL ops r

def strip (ops : Array Oper) : List SOp := stripL ops ops.toList

section
variable (P : Program) (C : Cfg)

/-- A call and what holds behind it. -/
def CW (f : FuncId) (args : List Value) (H : AH) (Q : Value → AH → Prop) : Prop := ∃ v H', callI P C f args H = some (v, H') ∧ Q v H'

/-- One operation. -/
def OWr (r : Option (Value × AH)) (K : Value → AH → Prop) : Prop := ∃ v H', r = some (v, H') ∧ K v H'
def OW (op : Op) (tm : Tr Value) (H : AH) (K : Value → AH → Prop) : Prop := OWr (evOp P C (callI P C) tm H op) K

def gW (tm : Tr Value) (g : Option (Option Tmp × Bool)) : Option Bool :=
  match g with
  | none => some true
  | some (some d, want) => match tm.get d with
    | some (.bool b) => some (b == want)
    | some (.tuple _) => some false
    | _ => none
  | some (none, _) => none

def LW' (k : Nat) : List SOp → Tr Value → AH → (Tr Value → AH → Prop) → Prop
  | [], tm, H, K => K tm H
  | o :: r, tm, H, K => match gW tm o.grd with
    | some true => match evOp P C (callI P C) tm H o.op with
      | some (v, H') => match o.dst with
        | none => LW' k r tm H' K
        | some d => d < k ∧ LW' k r (tm.set d v) H' K
      | none => False
    | some false => match o.dst with
      | none => LW' k r tm H K
      | some d => d < k ∧ LW' k r (tm.set d undef) H K
    | none => False

def W (c : Code) (s : St) (Q : Ex → St → Prop) : Prop := ∃ ex s', evI P C c s = some (ex, s') ∧ Q ex s'
end

section
variable {P : Program} {C : Cfg} {Q : Ex → St → Prop}

theorem gW_eq {ops : Array Oper} {tm : Tr Value} {o : Oper} : wantedV ops tm o = gW tm (match o.guard with | none => none | some (j, b) => some ((ops[j]?).bind (·.dst), b)) := by
  unfold wantedV gW
  cases o.guard with
  | none => rfl
  | some x =>
    obtain ⟨j, b⟩ := x
    simp only
    cases (ops[j]?).bind (·.dst) <;> rfl

theorem LW_list {ops : Array Oper} {k : Nat} : ∀ (l : List Oper) (tm : Tr Value) (H : AH) (K : Tr Value → AH → Prop), LW' P C k (stripL ops l) tm H K → ∃ tm' H', evList P C (callI P C) ops l ⟨k, tm, H⟩ = some ⟨k, tm', H'⟩ ∧ K tm' H'
  | [], tm, H, K, h => ⟨tm, H, rfl, h⟩
  | o :: r, tm, H, K, h => by
    have put : ∀ (v : Value) (H1 : AH), (match o.dst with | none => LW' P C k (stripL ops r) tm H1 K | some d => d < k ∧ LW' P C k (stripL ops r) (tm.set d v) H1 K) →
        ∃ tm1, (St.put ⟨k, tm, H⟩ o.dst v H1) = some ⟨k, tm1, H1⟩ ∧ LW' P C k (stripL ops r) tm1 H1 K := fun v H1 h => by
      cases hd : o.dst with
      | none => rw [hd] at h; exact ⟨tm, rfl, h⟩
      | some d =>
        rw [hd] at h
        have : Nat.blt d k = true := by rw [Nat.blt_eq]; exact h.1
        exact ⟨tm.set d v, by simp only [St.put, putSt, this, cond_true], h.2⟩
    rw [evList_cons]
    simp only
    rw [gW_eq]
    simp only [stripL, LW'] at h
    split at h
    · rename_i hg
      rw [hg]
      split at h
      · rename_i v H1 hop
        obtain ⟨tm1, hput, hl⟩ := put v H1 h
        obtain ⟨tm', H', h1, h2⟩ := LW_list r tm1 H1 K hl
        refine ⟨tm', H', ?_, h2⟩
        simp only [hop, hput]
        exact h1
      · exact h.elim
    · rename_i hg
      rw [hg]
      obtain ⟨tm1, hput, hl⟩ := put undef H h
      obtain ⟨tm', H', h1, h2⟩ := LW_list r tm1 H K hl
      refine ⟨tm', H', ?_, h2⟩
      simp only [hput]
      exact h1
    · exact h.elim

theorem W_region {i : Nat} {ops : Array Oper} {s : St} (h : LW' P C s.k (strip ops) s.tm s.H fun tm' H' => Q .norm ⟨s.k, tm', H'⟩) : W P C (.region i ops false) s Q := by
  obtain ⟨k, tm, H⟩ := s
  obtain ⟨tm', H', h1, h2⟩ := LW_list (ops := ops) ops.toList tm H _ h
  refine ⟨.norm, ⟨k, tm', H'⟩, ?_, h2⟩
  rw [evI_eq]
  simp only [evStep]
  rw [callI_eq] at h1
  have : evRegion P C (evCall P C (lvI P C)) ops false ⟨k, tm, H⟩ = some ⟨k, tm', H'⟩ := by
    unfold evRegion evRegionD
    simp only [Bool.false_and, cond_false]
    exact h1
  rw [this]

theorem lvI_code : (lvI P C).code = evI P C := rfl

def seqQ (P : Program) (C : Cfg) (b : Code) (Q : Ex → St → Prop) : Ex → St → Prop
  | .norm, s => W P C b s Q
  | e, s => Q e s

/-- (The code that follows is hidden behind a name.) -/
theorem W_seq {a b : Code} {s : St} (h : ∀ b', b' = b → W P C a s (seqQ P C b' Q)) : W P C (.seq a b) s Q := by
  obtain ⟨ex, s1, h1, h2⟩ := h b rfl
  unfold W
  rw [evI_eq]
  simp only [evStep, lvI_code, h1]
  cases ex with
  | norm => exact h2
  | exit j => exact ⟨_, _, rfl, h2⟩
  | ret => exact ⟨_, _, rfl, h2⟩
  | pan v => exact ⟨_, _, rfl, h2⟩

theorem W_skip {s : St} (h : Q .norm s) : W P C .skip s Q := ⟨.norm, s, by rw [evI_eq]; rfl, h⟩
theorem W_exit {i : Nat} {s : St} (h : Q (.exit i) s) : W P C (.exit i) s Q := ⟨.exit i, s, by rw [evI_eq]; rfl, h⟩
theorem W_ret {s : St} (h : Q .ret s) : W P C .ret s Q := ⟨.ret, s, by rw [evI_eq]; rfl, h⟩

theorem W_cond {x : Operand} {a b : Code} {s : St} {t : Bool} (hx : opd C s.tm x = some (.bool t)) (h : W P C (cond t a b) s Q) : W P C (.cond x a b) s Q := by
  unfold W
  rw [evI_eq]
  simp only [evStep, lvI_code, hx]
  exact h

def blockQ (id : Nat) (Q : Ex → St → Prop) : Ex → St → Prop
  | .exit j, s => (j = id ∧ Q .norm s) ∨ (j ≠ id ∧ Q (.exit j) s)
  | e, s => Q e s

theorem W_block {id : Nat} {b : Code} {s : St} (h : W P C b s (blockQ id Q)) : W P C (.block id b) s Q := by
  obtain ⟨ex, s1, h1, h2⟩ := h
  unfold W
  rw [evI_eq]
  simp only [evStep, lvI_code, h1]
  cases ex with
  | norm => exact ⟨_, _, rfl, h2⟩
  | exit j =>
    rcases h2 with ⟨e, h2⟩ | ⟨e, h2⟩
    · exact ⟨.norm, s1, by simp only [beq_true' e, cond_true], h2⟩
    · exact ⟨.exit j, s1, by simp only [beq_false' e, cond_false], h2⟩
  | ret => exact ⟨_, _, rfl, h2⟩
  | pan v => exact ⟨_, _, rfl, h2⟩

theorem W_loop1 {b : Code} {s : St} (h : W P C b s (seqQ P C (.loop b) Q)) : W P C (.loop b) s Q := by
  obtain ⟨ex, s1, h1, h2⟩ := h
  unfold W
  rw [evI_eq]
  simp only [evStep, lvI_code, h1]
  cases ex with
  | norm => exact h2
  | exit j => exact ⟨_, _, rfl, h2⟩
  | ret => exact ⟨_, _, rfl, h2⟩
  | pan v => exact ⟨_, _, rfl, h2⟩

def loopQ (I : Nat → St → Prop) (n : Nat) (Q : Ex → St → Prop) : Ex → St → Prop
  | .norm, s => ∃ m, m < n ∧ I m s
  | e, s => Q e s

theorem W_loop {b : Code} (I : Nat → St → Prop) (h : ∀ n s, I n s → W P C b s (loopQ I n Q)) : ∀ (n : Nat) (s : St), I n s → W P C (.loop b) s Q := by
  intro n
  induction n using Nat.strongRecOn with
  | _ n ih =>
    intro s hI
    apply W_loop1
    obtain ⟨ex, s1, h1, h2⟩ := h n s hI
    refine ⟨ex, s1, h1, ?_⟩
    cases ex with
    | norm => obtain ⟨m, hm, hI'⟩ := h2; exact ih m hm s1 hI'
    | exit j => exact h2
    | ret => exact h2
    | pan v => exact h2

theorem W.mono {c : Code} {s : St} {Q' : Ex → St → Prop} (h : W P C c s Q) (hQ : ∀ e s, Q e s → Q' e s) : W P C c s Q' := by
  obtain ⟨e, s1, h1, h2⟩ := h
  exact ⟨e, s1, h1, hQ _ _ h2⟩

theorem CW.mono {f : FuncId} {args : List Value} {H : AH} {Q Q' : Value → AH → Prop} (h : CW P C f args H Q) (hQ : ∀ v H', Q v H' → Q' v H') : CW P C f args H Q' := by
  obtain ⟨v, H', h1, h2⟩ := h
  exact ⟨v, H', h1, hQ _ _ h2⟩

/-- A function's call, by its code. -/
theorem CW_intro (k : Nat) {f : FuncId} {fn : Func} {c : Code} {args : List Value} {H : AH} {R : Value → AH → Prop} (ha : Nat.beq f C.add = false) (hs : Nat.beq f C.sub = false) (hf : P.funcs[f]? = some fn) (hb : fn.body = some c) (hk : args.length + (fn.ntmps - args.length) = k)
    (h : W P C c { k := k, tm := tmOf 0 args .nil, H := H } fun ex s => (ex = .norm ∨ ex = .ret) ∧ ∃ vs, resultV P s fn.results.toList = some vs ∧ R (packV vs) s.H) (hd : defForm c = none := by rfl) : CW P C f args H R := by
  subst hk
  obtain ⟨ex, s, h1, h2, vs, h3, h4⟩ := h
  refine ⟨packV vs, s.H, ?_, h4⟩
  rw [callI_eq]
  unfold evCall evCallO
  rw [ha, cond_false, hs, cond_false, hf]
  simp only [hb, evBody, hd]
  show retOf (finO P fn (evI P C c _)) = _
  rw [h1]
  rcases h2 with rfl | rfl
  · simp only [finO, h3, retOf]
  · simp only [finO, h3, retOf]

/-! ### calls that may panic; deferred functions -/
/-- What a call comes to, without rounds. -/
def callOI (P : Program) (C : Cfg) : FuncId → List Value → AH → Option (Out × AH) := evCallO P C (lvI P C)

def CWO (P : Program) (C : Cfg) (f : FuncId) (args : List Value) (H : AH) (R : Out → AH → Prop) : Prop := ∃ o H', callOI P C f args H = some (o, H') ∧ R o H'

theorem callOI_ret {f : FuncId} {args : List Value} {H : AH} {v : Value} {H' : AH} (h : callOI P C f args H = some (.ret v, H')) : callI P C f args H = some (v, H') := by
  rw [callI_eq]
  unfold evCall
  have : evCallO P C (lvI P C) f args H = _ := h
  rw [this]; rfl
theorem callOI_pan {f : FuncId} {args : List Value} {H : AH} {v : Value} {H' : AH} (h : callOI P C f args H = some (.pan v, H')) : callPI P C f args H = some (v, H') := by
  unfold callPI evCallP
  have : evCallO P C (lvI P C) f args H = _ := h
  rw [this]; rfl

theorem CWO_intro (k : Nat) {f : FuncId} {fn : Func} {c : Code} {args : List Value} {H : AH} {R : Out → AH → Prop} (ha : Nat.beq f C.add = false) (hs : Nat.beq f C.sub = false) (hf : P.funcs[f]? = some fn) (hb : fn.body = some c) (hk : args.length + (fn.ntmps - args.length) = k)
    (h : W P C c { k := k, tm := tmOf 0 args .nil, H := H } fun ex s => ((ex = .norm ∨ ex = .ret) ∧ ∃ vs, resultV P s fn.results.toList = some vs ∧ R (.ret (packV vs)) s.H) ∨ ∃ v, ex = .pan v ∧ R (.pan v) s.H) (hd : defForm c = none := by rfl) : CWO P C f args H R := by
  subst hk
  obtain ⟨ex, s, h1, h2⟩ := h
  unfold CWO callOI evCallO
  rw [ha, cond_false, hs, cond_false, hf]
  simp only [hb, evBody, hd]
  show ∃ o H', finO P fn (evI P C c _) = some (o, H') ∧ R o H'
  rw [h1]
  rcases h2 with ⟨h2, vs, h3, h4⟩ | ⟨v, rfl, h4⟩
  · refine ⟨.ret (packV vs), s.H, ?_, h4⟩
    rcases h2 with rfl | rfl
    · simp only [finO, h3]
    · simp only [finO, h3]
  · exact ⟨.pan v, s.H, rfl, h4⟩

/-- A region's operations up to one that panics. -/
def LP' (P : Program) (C : Cfg) (k : Nat) : List SOp → Tr Value → AH → (Value → Tr Value → AH → Prop) → Prop
  | [], tm, H, K => False
  | o :: r, tm, H, K => match gW tm o.grd with
    | some true => match evOp P C (callI P C) tm H o.op with
      | some (v, H') => match o.dst with
        | none => LP' P C k r tm H' K
        | some d => d < k ∧ LP' P C k r (tm.set d v) H' K
      | none => match panOp C (callPI P C) tm H o.op with
        | some (v, H') => K v tm H'
        | none => False
    | some false => match o.dst with
      | none => LP' P C k r tm H K
      | some d => d < k ∧ LP' P C k r (tm.set d undef) H K
    | none => False

theorem LP_list {ops : Array Oper} {k : Nat} : ∀ (l : List Oper) (tm : Tr Value) (H : AH) (K : Value → Tr Value → AH → Prop), LP' P C k (stripL ops l) tm H K → ∃ v tm' H', evPan P C (evCall P C (lvI P C)) (evCallP P C (lvI P C)) ops l ⟨k, tm, H⟩ = some (.pan v, ⟨k, tm', H'⟩) ∧ K v tm' H'
  | [], tm, H, K, h => h.elim
  | o :: r, tm, H, K, h => by
    have put : ∀ (v : Value) (H1 : AH), (match o.dst with | none => LP' P C k (stripL ops r) tm H1 K | some d => d < k ∧ LP' P C k (stripL ops r) (tm.set d v) H1 K) →
        ∃ tm1, (St.put ⟨k, tm, H⟩ o.dst v H1) = some ⟨k, tm1, H1⟩ ∧ LP' P C k (stripL ops r) tm1 H1 K := fun v H1 h => by
      cases hd : o.dst with
      | none => rw [hd] at h; exact ⟨tm, rfl, h⟩
      | some d =>
        rw [hd] at h
        have : Nat.blt d k = true := by rw [Nat.blt_eq]; exact h.1
        exact ⟨tm.set d v, by simp only [St.put, putSt, this, cond_true], h.2⟩
    simp only [evPan]
    rw [gW_eq]
    simp only [stripL, LP'] at h
    split at h
    · rename_i hg
      rw [hg]
      split at h
      · rename_i v H1 hop
        obtain ⟨tm1, hput, hl⟩ := put v H1 h
        obtain ⟨v2, tm', H', h1, h2⟩ := LP_list r tm1 H1 K hl
        refine ⟨v2, tm', H', ?_, h2⟩
        rw [callI_eq] at hop
        have hn := panOp_none (u := lvI P C) (v := lvI P C) ⟨fun _ _ _ h => h, fun _ _ _ _ h => h⟩ hop
        simp only [hn, hop, hput]
        exact h1
      · split at h
        · rename_i v H1 hp
          refine ⟨v, tm, H1, ?_, h⟩
          have hp : panOp C (evCallP P C (lvI P C)) tm H o.op = some (v, H1) := hp
          simp only [hp]
        · exact h.elim
    · rename_i hg
      rw [hg]
      obtain ⟨tm1, hput, hl⟩ := put undef H h
      obtain ⟨v2, tm', H', h1, h2⟩ := LP_list r tm1 H K hl
      refine ⟨v2, tm', H', ?_, h2⟩
      simp only [hput]
      exact h1
    · exact h.elim

/-- A region that panics. -/
theorem W_rpan {i : Nat} {ops : Array Oper} {s : St} (h : LP' P C s.k (strip ops) s.tm s.H fun v tm' H' => Q (.pan v) ⟨s.k, tm', H'⟩) : W P C (.region i ops false) s Q := by
  obtain ⟨k, tm, H⟩ := s
  obtain ⟨v, tm', H', h1, h2⟩ := LP_list (ops := ops) ops.toList tm H _ h
  refine ⟨.pan v, ⟨k, tm', H'⟩, ?_, h2⟩
  rw [evI_eq]
  simp only [evStep]
  have hn := (evPan_le (u := lvI P C) (v := lvI P C) ⟨fun _ _ _ h => h, fun _ _ _ _ h => h⟩ _ _ _ h1).2
  rw [evDrawless, hn]
  exact h1

/-- A deferred function. -/
def WS (P : Program) (C : Cfg) (rv : Value) (c : Code) (s : St) (Q : Ex → St → Prop) : Prop := ∃ ex s', evS P C (lvI P C) rv c s = some (ex, s') ∧ Q ex s'

theorem WS_region {rv : Value} {id : Nat} {ops : Array Oper} {draw : Bool} {s : St} (ho : recOnce ops = true) (h : W P C (.region id (ops.map (subR rv)) draw) s fun ex s' => ex = .norm ∧ Q .norm s') : WS P C rv (.region id ops draw) s Q := by
  obtain ⟨ex, s', h1, rfl, h2⟩ := h
  refine ⟨.norm, s', ?_, h2⟩
  simp only [evS]
  rw [ho, cond_true]
  rw [evI_eq] at h1
  simp only [evStep] at h1
  show (match evRegion P C (callI P C) (ops.map (subR rv)) draw s with | some s' => some (Ex.norm, s') | none => none) = _
  rw [callI_eq]
  split at h1
  · rename_i s1 hr
    rw [hr]
    exact h1
  · exfalso
    cases draw with
    | true => cases h1
    | false =>
      rw [cond_false] at h1
      have : ∀ (l : List Oper) (s : St) (s' : St), evPan P C (evCall P C (lvI P C)) (evCallP P C (lvI P C)) (ops.map (subR rv)) l s ≠ some (.norm, s') := by
        intro l
        induction l with
        | nil => intro s s' e; cases e
        | cons o r ih =>
          intro s s' e
          simp only [evPan] at e
          split at e <;> first | (cases e; done) | skip
          · split at e
            · cases e
            · split at e <;> first | (cases e; done) | skip
              split at e <;> first | (cases e; done) | skip
              exact ih _ _ e
          · split at e <;> first | (cases e; done) | skip
            exact ih _ _ e
      exact this _ _ _ h1

theorem WS_seq {rv : Value} {a b : Code} {s : St} (hf : firstRec a = true) (h : WS P C rv a s fun ex s' => ex = .norm ∧ W P C b s' fun ex s' => (ex = .norm ∨ ex = .ret) ∧ Q ex s') : WS P C rv (.seq a b) s Q := by
  obtain ⟨ex, s1, h1, rfl, ex2, s2, h2, h3, h4⟩ := h
  refine ⟨ex2, s2, ?_, h4⟩
  simp only [evS, hf, cond_true, h1]
  show normRet (evI P C b s1) = _
  rw [h2]
  rcases h3 with rfl | rfl <;> rfl

/-- A deferred call. -/
def CWD (P : Program) (C : Cfg) (g : FuncId) (args : List Value) (rv : Value) (H : AH) (K : AH → Prop) : Prop := ∃ H', evDef P C (lvI P C) g args rv H = some H' ∧ K H'

theorem CWD_intro (k : Nat) {g : FuncId} {fn : Func} {c : Code} {args : List Value} {rv : Value} {H : AH} {K : AH → Prop} (hf : P.funcs[g]? = some fn) (hb : fn.body = some c) (hk : args.length + (fn.ntmps - args.length) = k)
    (h : WS P C rv c { k := k, tm := tmOf 0 args .nil, H := H } fun ex s => (ex = .norm ∨ ex = .ret) ∧ ∃ vs, resultV P s fn.results.toList = some vs ∧ K s.H) : CWD P C g args rv H K := by
  subst hk
  obtain ⟨ex, s, h1, h2, vs, h3, h4⟩ := h
  refine ⟨s.H, ?_, h4⟩
  unfold evDef
  simp only [hf, hb, h1]
  rcases h2 with rfl | rfl
  · simp only [h3]
  · simp only [h3]

/-- A function that defers a call. -/
theorem CW_defer (k : Nat) {f : FuncId} {fn : Func} {c a : Code} {ops : Array Oper} {o1 : Oper} {dc : Call} {rest : Code} {args : List Value} {H : AH} {R : Value → AH → Prop} (ha : Nat.beq f C.add = false) (hs : Nat.beq f C.sub = false) (hf : P.funcs[f]? = some fn) (hb : fn.body = some c) (hk : args.length + (fn.ntmps - args.length) = k)
    (hd : defForm c = some (a, ops, o1, dc, rest))
    (h : W P C a { k := k, tm := tmOf 0 args .nil, H := H } fun ex s => ex = .norm ∧ LW' P C s.k (stripL ops [o1]) s.tm s.H fun tm2 H2 => ∃ g dargs, dcallV C tm2 dc = some (g, dargs) ∧
      W P C rest ⟨s.k, tm2, H2⟩ fun ex3 s3 => ∃ rv, recOf ex3 = some rv ∧ CWD P C g dargs rv s3.H fun H4 => ∃ vs, resultV P ⟨s3.k, s3.tm, H4⟩ fn.results.toList = some vs ∧ R (packV vs) H4) : CW P C f args H R := by
  subst hk
  obtain ⟨ex, s1, h1, rfl, h2⟩ := h
  obtain ⟨tm2, H2, h3, g, dargs, h4, ex3, s3, h5, rv, h6, H4, h7, vs, h8, h9⟩ := LW_list [o1] _ _ _ h2
  refine ⟨packV vs, H4, ?_, h9⟩
  rw [callI_eq]
  unfold evCall evCallO
  rw [ha, cond_false, hs, cond_false, hf]
  simp only [hb, evBody, hd]
  unfold evDeferred
  have h1 : (lvI P C).code a { k := args.length + (fn.ntmps - args.length), tm := tmOf 0 args .nil, H := H } = some (.norm, s1) := h1
  have h3 : evList P C (lvI P C).call ops [o1] s1 = some ⟨s1.k, tm2, H2⟩ := h3
  have h5 : (lvI P C).code rest ⟨s1.k, tm2, H2⟩ = some (ex3, s3) := h5
  simp only [h1, h3, h4, h5, h6, h7, h8, retOf]

/-! ### operations -/
variable {tm : Tr Value} {H : AH} {K : Value → AH → Prop}
theorem OWr_some {v : Value} {H' : AH} : OWr (some (v, H')) K ↔ K v H' := ⟨fun ⟨_, _, h1, h3⟩ => by cases h1; exact h3, fun h => ⟨_, _, rfl, h⟩⟩
theorem OWr_none : OWr none K ↔ False := by
  constructor
  · rintro ⟨_, _, h1, _⟩
    cases h1
  · exact False.elim
theorem OWr_call {f : FuncId} {args : List Value} : OWr (callI P C f args H) K ↔ CW P C f args H K := Iff.rfl
theorem OW_call {c : Call} {f : FuncId} {args : List Value} (h1 : c.callee = .value (.func f)) (h2 : opds C tm c.args.toList = some args) (h : CW P C f args H K) : OW P C (.call c) tm H K := by
  obtain ⟨v, H', h3, h4⟩ := h
  refine ⟨v, H', ?_, h4⟩
  obtain ⟨callee, cargs, cts⟩ := c
  simp only at h1 h2
  subst h1
  simp only [evOp, oCall, opd, calleeV, h2, List.nil_append, List.append_nil]
  exact h3
end

end

end Go.Proofs.YtjboehpfojpimaaGreatDoor.Ev

/-
  THE EVALUATOR WITH AN ORACLE: calls that are known are answered at once.
-/
namespace Go.Proofs.YtjboehpfojpimaaGreatDoor.Ev
open Go Go.RowKit
set_option linter.unusedVariables false
set_option linter.unusedSimpArgs false
noncomputable section

def callX (P : Program) (C : Cfg) (orc : FuncId → List Value → AH → Option (Value × AH)) (ih : Lv) (f : FuncId) (args : List Value) (H : AH) : Option (Value × AH) :=
  match orc f args H with
  | some r => some r
  | none => evCall P C ih f args H

def evStepX (P : Program) (C : Cfg) (orc : FuncId → List Value → AH → Option (Value × AH)) (ih : Lv) (c : Code) (s : St) : Option (Ex × St) :=
  match c with
  | .skip => some (.norm, s)
  | .region _ ops draw => match evRegion P C (callX P C orc ih) ops draw s with
    | some s' => some (.norm, s')
    | none => cond draw none (evPan P C (callX P C orc ih) (evCallP P C ih) ops ops.toList s)
  | .seq a b => match ih.code a s with
    | some (.norm, s') => ih.code b s'
    | r => r
  | .cond x a b => match opd C s.tm x with
    | some (.bool t) => ih.code (cond t a b) s
    | _ => none
  | .block id body => match ih.code body s with
    | some (.exit j, s') => cond (Nat.beq j id) (some (.norm, s')) (some (.exit j, s'))
    | r => r
  | .loop body => match ih.code body s with
    | some (.norm, s') => ih.code (.loop body) s'
    | r => r
  | .exit id => some (.exit id, s)
  | .ret => some (.ret, s)
  | _ => none

def lvX (P : Program) (C : Cfg) (orc : FuncId → List Value → AH → Option (Value × AH)) (n : Nat) : Lv :=
  Nat.rec ⟨fun _ _ => none, fun _ _ _ => none⟩ (fun _ ih => ⟨evStepX P C orc ih, callX P C orc ih⟩) n

theorem lvX_succ (P : Program) (C : Cfg) (orc : FuncId → List Value → AH → Option (Value × AH)) (n : Nat) : lvX P C orc (n + 1) = ⟨evStepX P C orc (lvX P C orc n), callX P C orc (lvX P C orc n)⟩ := rfl

section
variable {P : Program} {C : Cfg} {orc : FuncId → List Value → AH → Option (Value × AH)}

theorem callX_le (ho : CLe orc (callI P C)) {ih : Lv} (h : LLe ih (lvI P C)) : CLe (callX P C orc ih) (evCall P C (lvI P C)) := by
  intro x a H r he
  unfold callX at he
  split at he
  · rename_i r' hr
    obtain rfl := Option.some.inj he
    rw [← callI_eq]
    exact ho _ _ _ _ hr
  · exact evCall_le h _ _ _ _ he

theorem evPanX_le (ho : CLe orc (callI P C)) {ih : Lv} (h : LLe ih (lvI P C)) {ops : Array Oper} : ∀ (l : List Oper) (s : St) (r : Ex × St), evPan P C (callX P C orc ih) (evCallP P C ih) ops l s = some r → evPan P C (evCall P C (lvI P C)) (evCallP P C (lvI P C)) ops l s = some r
  | [], s, r, he => by cases he
  | o :: rest, s, r, he => by
    simp only [evPan] at he ⊢
    split at he <;> first | (cases he; done) | skip
    · rename_i hw
      split at he
      · rename_i v1 H1 hp
        rw [panOp_le h hp]
        exact he
      · rename_i hp
        split at he <;> first | (cases he; done) | skip
        rename_i v1 H1 hop
        split at he <;> first | (cases he; done) | skip
        rename_i s1 hput
        have hop' := evOp_le (callX_le ho h) hop
        rw [panOp_none (u := lvI P C) (v := lvI P C) ⟨fun _ _ _ h => h, fun _ _ _ _ h => h⟩ hop']
        simp only [hop', hput]
        exact evPanX_le ho h rest s1 r he
    · rename_i hw
      split at he <;> first | (cases he; done) | skip
      rename_i s1 hput
      try simp only [hput]
      exact evPanX_le ho h rest s1 r he

theorem stepX_le (ho : CLe orc (callI P C)) {ih : Lv} (h : LLe ih (lvI P C)) : ELe (evStepX P C orc ih) (evI P C) := by
  intro c s r he
  rw [evI_eq]
  cases c <;> simp only [evStepX] at he <;> simp only [evStep] <;> first | exact he | skip
  · rename_i id ops draw
    split at he
    · rename_i s1 hr
      rw [evRegion_le (callX_le ho h) hr]
      exact he
    · cases draw with
      | true => cases he
      | false =>
        rw [cond_false] at he
        have h1 := evPanX_le ho h _ _ _ he
        have h2 := (evPan_le (u := lvI P C) (v := lvI P C) ⟨fun _ _ _ h => h, fun _ _ _ _ h => h⟩ _ _ _ h1).2
        rw [evDrawless, h2]
        exact h1
  · split at he
    · rename_i s1 hr
      rw [h.code _ _ _ hr]
      exact h.code _ _ _ he
    · rename_i hn
      rw [h.code _ _ _ he]
      split
      · rename_i s1 e
        exact absurd (he.trans e) (by intro e'; exact hn s1 e')
      · rfl
  · split at he <;> first | (cases he; done) | skip
    rename_i hx
    rw [hx]
    exact h.code _ _ _ he
  · split at he
    · rename_i j s1 hr
      rw [h.code _ _ _ hr]
      exact he
    · rename_i hn
      rw [h.code _ _ _ he]
      split
      · rename_i j s1 e
        exact absurd (he.trans e) (by intro e'; exact hn j s1 e')
      · rfl
  · split at he
    · rename_i s1 hr
      rw [h.code _ _ _ hr]
      exact h.code _ _ _ he
    · rename_i hn
      rw [h.code _ _ _ he]
      split
      · rename_i s1 e
        exact absurd (he.trans e) (by intro e'; exact hn s1 e')
      · rfl

theorem lvX_le (ho : CLe orc (callI P C)) : ∀ n, LLe (lvX P C orc n) (lvI P C)
  | 0 => ⟨(fun c s r h => by cases h), (fun x a H r h => by cases h)⟩
  | n + 1 => by
    have ih := lvX_le ho n
    rw [lvX_succ]
    exact ⟨stepX_le ho ih, fun x a H r h => by show callI P C x a H = _; rw [callI_eq]; exact callX_le ho ih _ _ _ _ h⟩

/-- A run with an oracle. -/
def runX (P : Program) (C : Cfg) (orc : FuncId → List Value → AH → Option (Value × AH)) (n : Nat) (f : FuncId) (args : List Value) (H : AH) : Option (Value × AH) := callX P C orc (lvX P C orc n) f args H

theorem runX_callI (ho : CLe orc (callI P C)) {n : Nat} {f : FuncId} {args : List Value} {H : AH} {r : Value × AH} (h : runX P C orc n f args H = some r) : callI P C f args H = some r := by
  rw [callI_eq]
  exact callX_le ho (lvX_le ho n) _ _ _ _ h
end
end
end Go.Proofs.YtjboehpfojpimaaGreatDoor.Ev

/-
  PLAIN NUMBERS: lists of digits by any base, the least first: their value (dv), a number's digits (ds), without noughts at the top (trimL). No program in sight.
-/
namespace Go.Proofs.YtjboehpfojpimaaGreatDoor
set_option linter.unusedVariables false
set_option linter.unusedSimpArgs false

def trimL : List Nat → List Nat
  | [] => []
  | x :: xs => match trimL xs with
    | [] => if x = 0 then [] else [x]
    | y :: ys => x :: y :: ys

theorem trimL_snoc0 : ∀ (xs : List Nat), trimL (xs ++ [0]) = trimL xs
  | [] => rfl
  | x :: xs => by simp [trimL, trimL_snoc0 xs]

theorem trimL_snoc : ∀ (xs : List Nat) (x : Nat), x ≠ 0 → trimL (xs ++ [x]) = xs ++ [x]
  | [], x, h => by simp [trimL, h]
  | y :: xs, x, h => by
    have := trimL_snoc xs x h
    simp only [List.cons_append, trimL, this]
    cases xs <;> rfl

theorem trimL_len (xs : List Nat) : (trimL xs).length ≤ xs.length := by
  induction xs with
  | nil => simp [trimL]
  | cons x xs ih =>
    simp only [trimL]
    split
    · split <;> simp
    · rename_i y ys e
      rw [e] at ih
      simp at ih ⊢
      exact ih

/-- Digits below the base. -/
def Dig (B : Nat) (xs : List Nat) : Prop := ∀ x ∈ xs, x < B

theorem Dig.nil (B : Nat) : Dig B [] := fun x h => by cases h
theorem Dig.cons {B x : Nat} {xs : List Nat} (h : x < B) (hs : Dig B xs) : Dig B (x :: xs) := fun y hy => by
  rcases List.mem_cons.mp hy with e | e
  · rw [e]; exact h
  · exact hs y e
theorem Dig.tail {B x : Nat} {xs : List Nat} (h : Dig B (x :: xs)) : Dig B xs := fun y hy => h y (List.mem_cons_of_mem _ hy)
theorem Dig.head {B x : Nat} {xs : List Nat} (h : Dig B (x :: xs)) : x < B := h x (List.mem_cons_self ..)
theorem Dig.append {B : Nat} {xs ys : List Nat} (h : Dig B xs) (h' : Dig B ys) : Dig B (xs ++ ys) := fun y hy => by
  rcases List.mem_append.mp hy with e | e
  · exact h y e
  · exact h' y e
theorem Dig.get {B : Nat} {xs : List Nat} (h : Dig B xs) {i x : Nat} (hi : xs[i]? = some x) : x < B := h x (List.mem_of_getElem? hi)
theorem Dig.take {B : Nat} {xs : List Nat} (h : Dig B xs) (n : Nat) : Dig B (xs.take n) := fun y hy => h y (List.mem_of_mem_take hy)
theorem Dig.drop {B : Nat} {xs : List Nat} (h : Dig B xs) (n : Nat) : Dig B (xs.drop n) := fun y hy => h y (List.mem_of_mem_drop hy)

/-- The value. -/
def dv (B : Nat) : List Nat → Nat
  | [] => 0
  | x :: xs => x + B * dv B xs

theorem dv_append (B : Nat) : ∀ (xs ys : List Nat), dv B (xs ++ ys) = dv B xs + B ^ xs.length * dv B ys
  | [], ys => by simp [dv]
  | x :: xs, ys => by simp only [List.cons_append, dv, dv_append B xs ys, List.length_cons, Nat.pow_succ, Nat.mul_add]; rw [Nat.add_assoc, ← Nat.mul_assoc, Nat.mul_comm B (B ^ _)]

theorem dv_lt {B : Nat} : ∀ {xs : List Nat}, Dig B xs → dv B xs < B ^ xs.length
  | [], _ => by simp [dv]
  | x :: xs, h => by
    have h1 := h.head
    have h2 := dv_lt h.tail
    simp only [dv, List.length_cons, Nat.pow_succ]
    have : B * dv B xs + B ≤ B * B ^ xs.length := by rw [← Nat.mul_succ]; exact Nat.mul_le_mul_left _ h2
    rw [Nat.mul_comm (B ^ _) B]
    omega

theorem dv_zeros (B : Nat) : ∀ n, dv B (List.replicate n 0) = 0
  | 0 => rfl
  | n + 1 => by simp [List.replicate_succ, dv, dv_zeros B n]

theorem dv_trimL (B : Nat) : ∀ (xs : List Nat), dv B (trimL xs) = dv B xs
  | [] => rfl
  | x :: xs => by
    have ih := dv_trimL B xs
    simp only [trimL]
    split
    · rename_i e
      rw [e] at ih
      simp only [dv] at ih ⊢
      split
      · rename_i h; simp [dv, h, ← ih]
      · simp [dv, ← ih]
    · rename_i y ys e
      rw [e] at ih
      simp only [dv] at ih ⊢
      rw [ih]

theorem trimL_dig {B : Nat} : ∀ {xs : List Nat}, Dig B xs → Dig B (trimL xs)
  | [], h => h
  | x :: xs, h => by
    have ih := trimL_dig h.tail
    simp only [trimL]
    split
    · split
      · exact .nil B
      · exact .cons h.head (.nil B)
    · rename_i y ys e
      rw [e] at ih
      exact .cons h.head ih

theorem trimL_idem : ∀ (xs : List Nat), trimL (trimL xs) = trimL xs
  | [] => rfl
  | x :: xs => by
    have ih := trimL_idem xs
    simp only [trimL]
    split
    · split
      · rfl
      · rename_i h; simp [trimL, h]
    · rename_i y ys e
      rw [e] at ih
      simp only [trimL] at ih ⊢
      rw [ih]

/-- A number's digits. -/
def ds (B : Nat) (n : Nat) : List Nat := if h : n = 0 ∨ B < 2 then [] else n % B :: ds B (n / B)
termination_by n
decreasing_by exact Nat.div_lt_self (by omega) (by omega)

theorem ds_zero (B : Nat) : ds B 0 = [] := by rw [ds]; simp
theorem ds_pos {B n : Nat} (hB : 2 ≤ B) (hn : n ≠ 0) : ds B n = n % B :: ds B (n / B) := by rw [ds, dif_neg (by omega)]

theorem dv_ds {B : Nat} (hB : 2 ≤ B) (n : Nat) : dv B (ds B n) = n := by
  induction n using Nat.strongRecOn with
  | _ n ih =>
    by_cases h : n = 0
    · subst h; rw [ds_zero]; rfl
    · rw [ds_pos hB h]
      simp only [dv]
      rw [ih (n / B) (Nat.div_lt_self (by omega) (by omega))]
      exact Nat.mod_add_div n B

theorem ds_dig {B : Nat} (hB : 2 ≤ B) (n : Nat) : Dig B (ds B n) := by
  induction n using Nat.strongRecOn with
  | _ n ih =>
    by_cases h : n = 0
    · subst h; rw [ds_zero]; exact .nil B
    · rw [ds_pos hB h]
      exact .cons (Nat.mod_lt _ (by omega)) (ih (n / B) (Nat.div_lt_self (by omega) (by omega)))

theorem trimL_nil_iff (B : Nat) (hB : 2 ≤ B) : ∀ {xs : List Nat}, dv B xs = 0 → trimL xs = []
  | [], _ => rfl
  | x :: xs, h => by
    simp only [dv] at h
    have h1 : x = 0 := by omega
    have h2 : dv B xs = 0 := by
      have : B * dv B xs = 0 := by omega
      rcases Nat.mul_eq_zero.mp this with e | e
      · omega
      · exact e
    simp [trimL, trimL_nil_iff B hB h2, h1]

/-- Trimmed digits are the number's digits. -/
theorem trimL_ds {B : Nat} (hB : 2 ≤ B) : ∀ {xs : List Nat}, Dig B xs → trimL xs = ds B (dv B xs)
  | [], _ => (ds_zero B).symm
  | x :: xs, h => by
    have ih := trimL_ds hB h.tail
    have hx := h.head
    by_cases h0 : dv B (x :: xs) = 0
    · rw [h0, ds_zero]; exact trimL_nil_iff B hB h0
    · have e1 : (x + B * dv B xs) % B = x := by rw [Nat.add_mul_mod_self_left]; exact Nat.mod_eq_of_lt hx
      have e2 : (x + B * dv B xs) / B = dv B xs := by rw [Nat.add_mul_div_left _ _ (by omega), Nat.div_eq_of_lt hx, Nat.zero_add]
      rw [ds_pos hB h0]
      simp only [dv, e1, e2]
      rw [← ih]
      simp only [trimL]
      split
      · rename_i e
        split
        · rename_i hz
          exfalso; apply h0
          have : dv B xs = 0 := by rw [← dv_trimL B xs, e]; rfl
          simp [dv, hz, this]
        · rw [e]
      · rename_i y ys e; rw [e]

theorem ds_trim {B : Nat} (hB : 2 ≤ B) (n : Nat) : trimL (ds B n) = ds B n := by
  rw [trimL_ds hB (ds_dig hB n), dv_ds hB]

theorem ds_len_le {B : Nat} (hB : 2 ≤ B) : ∀ {k n : Nat}, n < B ^ k → (ds B n).length ≤ k
  | 0, n, h => by
    have : n = 0 := by simpa using h
    subst this; rw [ds_zero]; exact Nat.le_refl _
  | k + 1, n, h => by
    by_cases h0 : n = 0
    · subst h0; rw [ds_zero]; exact Nat.zero_le _
    · rw [ds_pos hB h0]
      have : n / B < B ^ k := by rw [Nat.div_lt_iff_lt_mul (by omega)]; rw [Nat.pow_succ] at h; exact h
      simpa using ds_len_le hB this

theorem ds_lt {B : Nat} (hB : 2 ≤ B) (n : Nat) : n < B ^ (ds B n).length := by
  have := dv_lt (ds_dig hB n)
  rwa [dv_ds hB] at this

theorem ds_ge {B : Nat} (hB : 2 ≤ B) {n : Nat} (hn : n ≠ 0) : B ^ ((ds B n).length - 1) ≤ n := by
  rcases Nat.lt_or_ge n (B ^ ((ds B n).length - 1)) with h | h
  · have := ds_len_le hB h
    have h2 : (ds B n).length ≠ 0 := by rw [ds_pos hB hn]; simp
    omega
  · exact h

theorem ds_nil_iff {B : Nat} (hB : 2 ≤ B) {n : Nat} : ds B n = [] ↔ n = 0 := by
  constructor
  · intro h; have := dv_ds hB n; rw [h] at this; exact this.symm
  · rintro rfl; exact ds_zero B

theorem ds_inj {B : Nat} (hB : 2 ≤ B) {n m : Nat} (h : ds B n = ds B m) : n = m := by
  rw [← dv_ds hB n, h, dv_ds hB]

/-- Where the limbs are compared from the top: a higher part decides. -/
theorem dv_cmp {B : Nat} {xs ys : List Nat} {x y : Nat} (h1 : Dig B xs) (h2 : Dig B ys) (hl : xs.length = ys.length) (h : x < y) (zs : List Nat) : dv B (xs ++ x :: zs) < dv B (ys ++ y :: zs) := by
  rw [dv_append, dv_append, ← hl]
  simp only [dv]
  have a := dv_lt h1
  have hm : B ^ xs.length * (x + 1 + B * dv B zs) ≤ B ^ xs.length * (y + B * dv B zs) := Nat.mul_le_mul_left _ (by omega)
  have e : B ^ xs.length * (x + 1 + B * dv B zs) = B ^ xs.length * (x + B * dv B zs) + B ^ xs.length := by
    rw [show x + 1 + B * dv B zs = (x + B * dv B zs) + 1 by omega, Nat.mul_succ]
  omega

end Go.Proofs.YtjboehpfojpimaaGreatDoor

/-
  LISTS OF LIMBS in the abstract heap: what a slice value says (Sl); what single operations do on it. nat.trim.
-/
namespace Go.Proofs.YtjboehpfojpimaaGreatDoor
open Go Ev
set_option linter.unusedVariables false
set_option linter.unusedSimpArgs false
noncomputable section

/-! ### the program's types -/
theorem uNat : Tryz.prog.underlying 28 = some (.slice 82) := by kernel_rfl
theorem uNum : Tryz.prog.underlying 48 = some (.slice 82) := by kernel_rfl
theorem uLst : Tryz.prog.underlying 27 = some (.slice 82) := by kernel_rfl
theorem sU64 : sizeT Tryz.prog 82 = some 1 := by kernel_rfl
theorem aU64 : isAggT Tryz.prog 82 = some false := by kernel_rfl
theorem tNat : sliceT Tryz.prog 28 = some (82, 1, 8) := by kernel_rfl
theorem tNum : sliceT Tryz.prog 48 = some (82, 1, 8) := by kernel_rfl
theorem tLst : sliceT Tryz.prog 27 = some (82, 1, 8) := by kernel_rfl
theorem zU64 : zeroT Tryz.prog 82 = some (.int .u64 0) := by kernel_rfl

/-- A type whose values are slices of limbs. -/
def LT (t : TypeId) : Prop := Tryz.prog.underlying t = some (.slice 82) ∧ sliceT Tryz.prog t = some (82, 1, 8)
theorem ltNat : LT 28 := ⟨uNat, tNat⟩
theorem ltNum : LT 48 := ⟨uNum, tNum⟩
theorem ltLst : LT 27 := ⟨uLst, tLst⟩

/-! ### what a slice value says -/
/-- The limbs lie in a block from a place on. -/
def At (H : AH) (b o : Nat) (xs : List Nat) : Prop := b < H.n ∧ ∃ cs, H.cells b = some cs ∧ H.size b = some 1 ∧ (∀ (i x : Nat), xs[i]? = some x → cs[o + i]? = some (.int .u64 (x : Int))) ∧ o ≤ cs.length

/-- A slice value, and its limbs. -/
inductive Sl (H : AH) : Value → List Nat → Prop
  | nil : Sl H (.slice none 0 0) []
  | emp (b : Nat) : Sl H (.slice (some ⟨b, 0, some 0⟩) 0 0) []
  | mk (b o cap : Nat) (xs : List Nat) : xs.length ≤ cap → At H b o xs → Sl H (.slice (some ⟨b, o, none⟩) xs.length cap) xs

/-- Heaps that hold what the other one held. -/
structure Keep (H H' : AH) : Prop where
  n : H.n ≤ H'.n
  lw : min H.lw H.n ≤ H'.lw
  blk : ∀ j, j < H.n → H'.blk j = H.blk j

theorem Keep.refl (H : AH) : Keep H H := ⟨Nat.le_refl _, Nat.min_le_left _ _, fun _ _ => rfl⟩
theorem Keep.trans {H H1 H2 : AH} (a : Keep H H1) (b : Keep H1 H2) : Keep H H2 :=
  ⟨Nat.le_trans a.n b.n, by have := a.n; have := a.lw; have := b.lw; omega, fun j hj => (b.blk j (Nat.lt_of_lt_of_le hj a.n)).trans (a.blk j hj)⟩

theorem At.keep {H H' : AH} {b o : Nat} {xs : List Nat} (h : At H b o xs) (k : Keep H H') : At H' b o xs := by
  obtain ⟨h1, cs, h2, h3, h4⟩ := h
  have e := k.blk b h1
  exact ⟨Nat.lt_of_lt_of_le h1 k.n, cs, by unfold AH.cells; rw [e]; exact h2, by unfold AH.size; rw [e]; exact h3, h4⟩

theorem Sl.keep {H H' : AH} {v : Value} {xs : List Nat} (h : Sl H v xs) (k : Keep H H') : Sl H' v xs := by
  cases h with
  | nil => exact .nil
  | emp b => exact .emp b
  | mk b o cap xs h1 h2 => exact .mk b o cap xs h1 (h2.keep k)

/-! ### single operations -/
theorem Sl.len {H : AH} {v : Value} {xs : List Nat} (h : Sl H v xs) {t : TypeId} (ht : LT t) : lenV Tryz.prog t v = some xs.length := by
  unfold lenV
  rw [ht.1]
  cases h <;> rfl

/-- The place of a limb. -/
def adr (v : Value) (i : Nat) : Value :=
  match v with
  | .slice (some ⟨b, o, none⟩) _ _ => .pointer (some ⟨b, o + i, none⟩)
  | _ => .pointer none

theorem Sl.adr {H : AH} {v : Value} {xs : List Nat} (h : Sl H v xs) {t : TypeId} (ht : LT t) {i : Nat} {k : IntKind} (hi : i < xs.length) : indexAddrV Tryz.prog t v (.int k (i : Int)) = some (adr v i) := by
  cases h with
  | nil => cases hi
  | emp b => cases hi
  | mk b o cap xs h1 h2 =>
    unfold indexAddrV Go.Proofs.YtjboehpfojpimaaGreatDoor.adr
    simp only [ht.1, sU64]
    rw [if_pos (by omega)]
    simp

theorem Sl.load {H : AH} {v : Value} {xs : List Nat} (h : Sl H v xs) {i : Nat} (hi : i < xs.length) : loadV Tryz.prog H 82 (Go.Proofs.YtjboehpfojpimaaGreatDoor.adr v i) = some (.int .u64 (xs[i] : Nat)) := by
  cases h with
  | nil => cases hi
  | emp b => cases hi
  | mk b o cap xs h1 h2 =>
    obtain ⟨_, cs, h3, h4, h5⟩ := h2
    unfold loadV Go.Proofs.YtjboehpfojpimaaGreatDoor.adr
    simp only [aU64, h3]
    exact h5.1 i _ (List.getElem?_eq_getElem hi)

theorem wrap_nat {n : Nat} (h : n < 9223372036854775808) : IntKind.i64.wrap (n : Int) = (n : Int) := by
  rw [IntKind.wrap_i64]; omega

theorem wrap_sub1 {n : Nat} (h0 : 0 < n) (h : n < 9223372036854775808) : IntKind.i64.wrap ((n : Int) - 1) = ((n - 1 : Nat) : Int) := by
  rw [IntKind.wrap_i64]; omega

/-- The slice 'v[:m]'. -/
theorem Sl.cut {H : AH} {v : Value} {xs : List Nat} (h : Sl H v xs) {t : TypeId} (ht : LT t) {m : Nat} (hm : m ≤ xs.length) (h0 : 0 < xs.length) :
    ∃ v', sliceV Tryz.prog H t v none (some (.int .i64 (m : Int))) none = some v' ∧ Sl H v' (xs.take m) := by
  cases h with
  | nil => cases h0
  | emp b => cases h0
  | mk b o cap xs h1 h2 =>
    have hl : (xs.take m).length = m := by rw [List.length_take]; omega
    obtain ⟨h2a, cs, h3, h4, h5⟩ := h2
    refine ⟨.slice (some ⟨b, o, none⟩) (xs.take m).length cap, ?_, .mk b o cap _ (by omega) ⟨h2a, cs, h3, h4, fun i x hx => h5.1 i x ?_, h5.2⟩⟩
    · unfold sliceV
      simp only [ht.1, sU64]
      unfold cutV boundV
      simp only [h4, Option.isSome_some, Option.isNone_none, Bool.true_or]
      rw [if_pos (by omega)]
      have e1 : Nat.ble m cap = true := Nat.ble_eq.mpr (by omega)
      simp [boundV, e1, hl]
    · rw [List.getElem?_take] at hx
      split at hx
      · exact hx
      · cases hx

/-! ### nat.trim -/
attribute [local simp] strip stripL LW' gW evOp oMove oAssign oPick oBinOp oUnOp oConvert oExtract oIndexAddr oIndex oLoad oStore oSlice oMakeSlice oCall opd opds optOpd plain plain1 Tr.get_set tmOf builtinV binV isShift sameKind intBin undef resultV resOne packV ltNat ltNum ltLst

theorem trim_spec {v : Value} {xs : List Nat} {H : AH} (hs : Sl H v xs) (hlen : xs.length < 1152921504606846976) :
    CW Tryz.prog cfg0 81 [v] H fun v' H' => H' = H ∧ Sl H v' (trimL xs) := by
  refine CW_intro 21 (by decide) (by decide) Tryz.func81 rfl rfl ?_
  apply W_seq; intro b1 hb1
  apply W_region
  simp
  show W _ _ b1 _ _; subst hb1
  apply W_seq; intro b1 hb1
  apply W_block
  refine W_loop (fun n s => s.k = 21 ∧ s.H = H ∧ ∃ v', s.tm.get 0 = some v' ∧ n ≤ xs.length ∧ Sl H v' (xs.take n) ∧ trimL (xs.take n) = trimL xs) ?_ xs.length _ ⟨rfl, rfl, v, by simp, Nat.le_refl _, by rw [List.take_length]; exact hs, by rw [List.take_length]⟩
  rintro n ⟨k, tm, H'⟩ ⟨h2, h3, v', h4, h5, h6, h7⟩
  simp only at h2 h3 h4
  subst h2; subst h3
  have hl : (xs.take n).length = n := by rw [List.length_take]; omega
  have hlenv := h6.len ltNat
  rw [hl] at hlenv
  apply W_seq; intro b2 hb2
  apply W_seq; intro b3 hb3
  apply W_region
  by_cases hz : n = 0
  · subst hz
    simp [h4, hlenv]
    show W _ _ b3 _ _; subst hb3
    refine W_cond (t := false) (by simp) ?_
    apply W_exit
    left
    refine ⟨rfl, ?_⟩
    show W _ _ b1 _ _; subst hb1
    apply W_seq; intro b4 hb4
    apply W_region
    simp [h4]
    show W _ _ b4 _ _; subst hb4
    apply W_ret
    simp
    rw [← h7]
    exact h6
  · have hn : 0 < n := Nat.pos_of_ne_zero hz
    have hw : IntKind.i64.wrap ((n : Int) - 1) = ((n - 1 : Nat) : Int) := wrap_sub1 hn (by omega)
    have hi : n - 1 < (xs.take n).length := by omega
    have ha := h6.adr ltNat (k := .i64) hi
    have hld := h6.load hi
    simp [h4, hlenv, hn, hw, ha, hld]
    show W _ _ b3 _ _; subst hb3
    have hx : n - 1 < xs.length := by omega
    have htake : xs.take n = xs.take (n - 1) ++ [xs[n - 1]] := by
      have := List.take_append_getElem (l := xs) (i := n - 1) hx
      rw [this, show n - 1 + 1 = n by omega]
    by_cases h0 : xs[n - 1] = 0
    · refine W_cond (t := true) (by simp [h0]) ?_
      apply W_skip
      show W _ _ b2 _ _; subst hb2
      apply W_block
      apply W_region
      obtain ⟨v2, hv2, hs2⟩ := h6.cut ltNat (m := n - 1) (by omega) (by omega)
      simp [h4, hlenv, hw, hv2]
      refine ⟨n - 1, by omega, rfl, rfl, v2, by simp, by omega, ?_, ?_⟩
      · rw [List.take_take, show min (n - 1) n = n - 1 by omega] at hs2; exact hs2
      · rw [← h7, htake, h0, trimL_snoc0]
    · refine W_cond (t := false) (by simp; exact h0) ?_
      apply W_exit
      left
      refine ⟨rfl, ?_⟩
      show W _ _ b1 _ _; subst hb1
      apply W_seq; intro b4 hb4
      apply W_region
      simp [h4]
      show W _ _ b4 _ _; subst hb4
      apply W_ret
      simp
      rw [← h7]
      have : trimL (xs.take n) = xs.take n := by rw [htake]; exact trimL_snoc _ _ h0
      rw [this]
      exact h6
end
end Go.Proofs.YtjboehpfojpimaaGreatDoor

/-
  LISTS OF LIMBS: new ones (Own); append onto nothing; makeSlice; writes. nat.Norm, nat.From, bits.Len64, nat.Length.
-/
namespace Go.Proofs.YtjboehpfojpimaaGreatDoor
open Go Ev
set_option linter.unusedVariables false
set_option linter.unusedSimpArgs false
noncomputable section

def limb (x : Nat) : Value := .int .u64 (x : Int)

/-- A new list: its own block, of blocks from n on. -/
inductive Own (n : Nat) (H : AH) : Value → List Nat → Prop
  | nil : Own n H (.slice none 0 0) []
  | mk (b o cap : Nat) (xs : List Nat) (cs : List Value) : xs.length ≤ cap → n ≤ b → b < H.n → H.blk b = .rw 1 cs → o + cap ≤ cs.length → (∀ (i x : Nat), xs[i]? = some x → cs[o + i]? = some (limb x)) →
      Own n H (.slice (some ⟨b, o, none⟩) xs.length cap) xs

theorem Own.sl {n : Nat} {H : AH} {v : Value} {xs : List Nat} (h : Own n H v xs) : Sl H v xs := by
  cases h with
  | nil => exact .nil
  | mk b o cap xs cs h1 h2 h3 h4 h5 h6 => exact .mk b o cap xs h1 ⟨h3, cs, by unfold AH.cells; rw [h4], by unfold AH.size; rw [h4], h6, by omega⟩

theorem Own.mono {n m : Nat} {H H' : AH} {v : Value} {xs : List Nat} (h : Own n H v xs) (hn : m ≤ n) (k : Keep H H') : Own m H' v xs := by
  cases h with
  | nil => exact .nil
  | mk b o cap xs cs h1 h2 h3 h4 h5 h6 => exact .mk b o cap xs cs h1 (Nat.le_trans hn h2) (Nat.lt_of_lt_of_le h3 k.n) (by rw [k.blk b h3]; exact h4) h5 h6

theorem AH.blk_new (H : AH) (sz : Nat) (cs : List Value) (j : Nat) : (H.new sz cs).blk j = if j = H.n then .rw sz cs else H.blk j := by
  unfold AH.new AH.blk
  simp only [Tr.get_set]
  by_cases e : j = H.n
  · rw [if_pos e, if_pos e]
  · rw [if_neg e, if_neg e]

theorem Keep.new (H : AH) (sz : Nat) (cs : List Value) : Keep H (H.new sz cs) :=
  ⟨Nat.le_succ _, Nat.min_le_left _ _, fun j hj => by rw [AH.blk_new, if_neg (by omega)]⟩

theorem Own.new (H : AH) (xs : List Nat) : Own H.n (H.new 1 (xs.map limb)) (.slice (some ⟨H.n, 0, none⟩) xs.length xs.length) xs :=
  .mk H.n 0 xs.length xs (xs.map limb) (Nat.le_refl _) (Nat.le_refl _) (Nat.lt_succ_self _) (by rw [AH.blk_new, if_pos rfl]) (by simp) (fun i x h => by simp [h])

theorem list_of {cs : List Value} {o : Nat} {xs : List Nat} (h0 : 0 < xs.length) (h : ∀ (i x : Nat), xs[i]? = some x → cs[o + i]? = some (limb x)) : o + xs.length ≤ cs.length ∧ (cs.drop o).take xs.length = xs.map limb := by
  have hl : o + xs.length ≤ cs.length := by
    have := h (xs.length - 1) _ (List.getElem?_eq_getElem (by omega))
    have := (List.getElem?_eq_some_iff.mp this).1
    omega
  refine ⟨hl, List.ext_getElem? fun i => ?_⟩
  rw [List.getElem?_take, List.getElem?_drop, List.getElem?_map]
  by_cases hi : i < xs.length
  · rw [if_pos hi, List.getElem?_eq_getElem hi, Option.map_some]
    exact h i _ (List.getElem?_eq_getElem hi)
  · rw [if_neg hi, List.getElem?_eq_none (by omega)]; rfl

theorem Sl.cells {H : AH} {v : Value} {xs : List Nat} (h : Sl H v xs) (h0 : 0 < xs.length) : sliceCells H 1 v xs.length = some (xs.map limb) := by
  cases h with
  | nil => cases h0
  | emp b => cases h0
  | mk b o cap xs h1 h2 =>
    obtain ⟨_, cs, h3, h4, h5⟩ := h2
    obtain ⟨h6, h7⟩ := list_of h0 h5.1
    have : Nat.ble (o + xs.length) cs.length = true := Nat.ble_eq.mpr (by omega)
    simp only [sliceCells, AH.read_def, h3, this, cond_true, Nat.mul_one, h7]

/-- 'append([]T(nil), v...)'. -/
theorem Sl.copyNew {H : AH} {v : Value} {xs : List Nat} (h : Sl H v xs) (hl : xs.length ≤ 17592186044416) {t t2 : TypeId} (ht : LT t) (ht2 : LT t2) :
    ∃ v' H', appendV Tryz.prog H t t2 (.slice none 0 0) v = some (v', H') ∧ Keep H H' ∧ Own H.n H' v' xs := by
  by_cases h0 : xs.length = 0
  · obtain rfl : xs = [] := List.length_eq_zero_iff.mp h0
    refine ⟨.slice none 0 0, H, ?_, .refl H, .nil⟩
    generalize hn : ([] : List Nat) = ys at h
    cases h with
    | nil => simp [appendV, ht.2, ht2.2]
    | emp b => simp [appendV, ht.2, ht2.2]
    | mk b o cap xs h1 h2 => subst hn; simp [appendV, ht.2, ht2.2]
  · refine ⟨.slice (some ⟨H.n, 0, none⟩) xs.length xs.length, H.new 1 (xs.map limb), ?_, .new _ _ _, .new H xs⟩
    have hc := h.cells (by omega)
    obtain ⟨a, cap, rfl⟩ : ∃ a cap, v = .slice a xs.length cap := by cases h <;> exact ⟨_, _, rfl⟩
    have e1 : Nat.beq xs.length 0 = false := beq_false' h0
    have e2 : Nat.ble (xs.length * 8) 140737488355328 = true := Nat.ble_eq.mpr (by omega)
    have e3 : Nat.ble xs.length 281474976710656 = true := Nat.ble_eq.mpr (by omega)
    simp [appendV, ht.2, ht2.2, e1, e2, e3, hc, zU64, Value.cells]

attribute [local simp] strip stripL LW' gW evOp oMove oAssign oPick oBinOp oUnOp oConvert oExtract oIndexAddr oIndex oLoad oStore oSlice oMakeSlice oCall opd opds optOpd plain plain1 Tr.get_set tmOf builtinV binV isShift sameKind intBin undef resultV resOne packV ltNat ltNum ltLst calleeV

theorem norm_spec {v : Value} {xs : List Nat} {H : AH} (hs : Sl H v xs) (hlen : xs.length ≤ 17592186044416) :
    CW Tryz.prog cfg0 95 [v] H fun v' H' => Keep H H' ∧ Own H.n H' v' (trimL xs) := by
  refine CW_intro 6 (by decide) (by decide) Tryz.func95 rfl rfl ?_
  obtain ⟨v1, H1, hc1, e1, hs1⟩ := trim_spec hs (by omega)
  subst e1
  obtain ⟨v2, H2, ha, hk, ho⟩ := hs1.copyNew (by have := trimL_len xs; omega) ltNat ltNat
  apply W_seq; intro b1 hb1
  apply W_region
  simp
  show W _ _ b1 _ _; subst hb1
  apply W_seq; intro b1 hb1
  apply W_region
  simp [hc1, ha]
  show W _ _ b1 _ _; subst hb1
  apply W_ret
  simp
  exact ⟨hk, ho⟩
end
end Go.Proofs.YtjboehpfojpimaaGreatDoor

/-
  THE ENGINE, part R: more rules for open code: regions of loads that draw their order; a halt between two parts.
-/
namespace Go.Proofs.YtjboehpfojpimaaGreatDoor.Ev
open Go Go.RowKit
set_option linter.unusedVariables false
set_option linter.unusedSimpArgs false
noncomputable section

def loadOnly (ops : Array Oper) : Bool :=
  ops.toList.all fun o => match o.op with
    | .load .. => true
    | op => !heapOp op

theorem noClash_loads {bits b : Nat} : ∀ {l : List (Nat × Nat × Bool)}, (∀ x ∈ l, x.2.2 = false) → noClash bits b false l = true
  | [], _ => rfl
  | (k, b', w') :: r, h => by
    have h1 : w' = false := h (k, b', w') (List.mem_cons_self ..)
    subst h1
    simp only [noClash, Bool.or_self, Bool.not_false, Bool.or_true, Bool.true_or, Bool.true_and]
    exact noClash_loads fun x hx => h x (List.mem_cons_of_mem _ hx)

section
variable {P : Program} {C : Cfg} {call : FuncId → List Value → AH → Option (Value × AH)} {ops : Array Oper}

theorem evMem_loads : ∀ (l : List Oper) (i : Nat) (fs : List (Nat × Nat × Bool)) (s s' : St), (∀ x ∈ fs, x.2.2 = false) →
    (∀ o ∈ l, (match o.op with | .load .. => true | op => !heapOp op) = true) → evList P C call ops l s = some s' → evMem P C call ops i fs l s = some s'
  | [], i, fs, s, s', hf, hl, h => by rw [evList_nil] at h; simp only [evMem]; exact h
  | o :: rest, i, fs, s, s', hf, hl, h => by
    have ho := hl o (List.mem_cons_self ..)
    have hl' := fun o' h' => hl o' (List.mem_cons_of_mem _ h')
    rw [evList_cons] at h
    simp only [evMem]
    split at h <;> first | (cases h; done) | skip
    · split at h <;> first | (cases h; done) | skip
      rename_i v H1 hop
      split at h <;> first | (cases h; done) | skip
      rename_i s1 hput
      cases hh : heapOp o.op with
      | false =>
        have hm : memFoot C s.tm o.op = some none := by
          unfold memFoot
          split
          · rename_i e; rw [e] at hh; cases hh
          · rename_i e; rw [e] at hh; cases hh
          · rw [hh]; rfl
        have hH : evOp P C call s.tm s.H o.op = some (v, s.H) := evOp_pure hh hop s.H
        rw [hH] at hop
        cases hop
        simp only [hm, hH, hput]
        exact evMem_loads rest _ _ s1 s' hf hl' h
      | true =>
        split at ho
        · rename_i t x e
          rw [e] at hop
          simp only [evOp, oLoad] at hop
          split at hop <;> first | (cases hop; done) | skip
          rename_i a ha
          split at hop <;> first | (cases hop; done) | skip
          rename_i v' hv
          cases hop
          obtain ⟨b, off, rfl⟩ : ∃ b off, a = .pointer (some ⟨b, off, none⟩) := by
            unfold loadV at hv
            split at hv
            · exact ⟨_, _, rfl⟩
            · cases hv
          have hm : memFoot C s.tm o.op = some (some (b, false)) := by rw [e]; simp only [memFoot, ha]
          have hop' : evOp P C call s.tm s.H o.op = some (v, s.H) := by rw [e]; simp only [evOp, oLoad, ha, hv]
          simp only [hm, noClash_loads hf, cond_true, hop', hput]
          exact evMem_loads rest _ _ s1 s' (fun x hx => by
            rcases List.mem_cons.mp hx with e | e
            · rw [e]
            · exact hf x e) hl' h
        · rw [hh] at ho; cases ho
    · split at h <;> first | (cases h; done) | skip
      rename_i s1 hput
      try simp only [hput]
      exact evMem_loads rest _ _ s1 s' hf hl' h
end

section
variable {P : Program} {C : Cfg} {Q : Ex → St → Prop}

theorem loadOnly_mem {ops : Array Oper} (h : loadOnly ops = true) : memOnly ops = true := by
  unfold loadOnly at h
  unfold memOnly
  rw [List.all_eq_true] at h ⊢
  intro o ho
  have := h o ho
  revert this
  cases o.op <;> simp

theorem W_loads {i : Nat} {ops : Array Oper} {s : St} (hd : (loadOnly ops && regOk ops) = true) (h : LW' P C s.k (strip ops) s.tm s.H fun tm' H' => Q .norm ⟨s.k, tm', H'⟩) : W P C (.region i ops true) s Q := by
  rw [Bool.and_eq_true] at hd
  obtain ⟨k, tm, H⟩ := s
  obtain ⟨tm', H', h1, h2⟩ := LW_list (ops := ops) ops.toList tm H _ h
  refine ⟨.norm, ⟨k, tm', H'⟩, ?_, h2⟩
  rw [evI_eq]
  simp only [evStep]
  rw [callI_eq] at h1
  have : evRegion P C (evCall P C (lvI P C)) ops true ⟨k, tm, H⟩ = some ⟨k, tm', H'⟩ := by
    unfold evRegion
    rw [loadOnly_mem hd.1, hd.2]
    simp only [Bool.and_self, cond_true]
    refine evMem_loads _ _ _ _ _ (fun x hx => by cases hx) (fun o ho => ?_) h1
    have := hd.1
    unfold loadOnly at this
    rw [List.all_eq_true] at this
    exact this o ho
  rw [this]

def isStore : Op → Bool
  | .store .. => true
  | _ => false

/-- Loads and stores alone; each store is ordered against all of them. -/
def memSafe (ops : Array Oper) : Bool :=
  memOnly ops && regOk ops && (List.range ops.size).all fun i => match ops[i]? with
    | some o => !isStore o.op || alone ops i
    | none => true

theorem noClash_all {bits b : Nat} {w : Bool} : ∀ {l : List (Nat × Nat × Bool)}, (∀ x ∈ l, (w || x.2.2) = true → bits.testBit x.1 = true) → noClash bits b w l = true
  | [], _ => rfl
  | (k, b', w') :: r, h => by
    have h1 := h (k, b', w') (List.mem_cons_self ..)
    simp only [noClash, Bool.and_eq_true, Bool.or_eq_true, Bool.not_eq_true']
    refine ⟨?_, noClash_all fun x hx => h x (List.mem_cons_of_mem _ hx)⟩
    cases hw : (w || w') with
    | false => exact .inl (.inr rfl)
    | true => exact .inr (h1 hw)

theorem evMem_safe {call : FuncId → List Value → AH → Option (Value × AH)} {ops : Array Oper} (hm : memSafe ops = true) : ∀ (l : List Oper) (i : Nat) (fs : List (Nat × Nat × Bool)) (s s' : St), (∀ j, l[j]? = ops[i + j]?) →
    (∀ x ∈ fs, x.1 < i ∧ ∃ o, ops[x.1]? = some o ∧ heapOp o.op = true ∧ x.2.2 = isStore o.op) → evList P C call ops l s = some s' → evMem P C call ops i fs l s = some s'
  | [], i, fs, s, s', hl, hf, h => by rw [evList_nil] at h; simp only [evMem]; exact h
  | o :: rest, i, fs, s, s', hl, hf, h => by
    have h0 : ops[i]? = some o := by simpa using (hl 0).symm
    have hl' : ∀ j, rest[j]? = ops[i + 1 + j]? := fun j => by have := hl (j + 1); simpa [Nat.add_assoc, Nat.add_comm 1 j] using this
    have hf' : ∀ x ∈ fs, x.1 < i + 1 ∧ ∃ o, ops[x.1]? = some o ∧ heapOp o.op = true ∧ x.2.2 = isStore o.op := fun x hx => ⟨Nat.lt_succ_of_lt (hf x hx).1, (hf x hx).2⟩
    unfold memSafe at hm
    rw [Bool.and_eq_true, Bool.and_eq_true] at hm
    have hsafe : ∀ k ok, ops[k]? = some ok → isStore ok.op = true → alone ops k = true := fun k ok hk hs => by
      have := hm.2
      rw [List.all_eq_true] at this
      have := this k (by simpa using lt_of_some hk)
      rw [hk] at this
      simpa [hs] using this
    have ho : (match o.op with | .load .. => true | .store .. => true | op => !heapOp op) = true := by
      have := hm.1.1
      unfold memOnly at this
      rw [List.all_eq_true] at this
      exact this o (by rw [← Array.getElem?_toList] at h0; exact List.mem_of_getElem? h0)
    have clear : ∀ b, heapOp o.op = true → noClash ((before ops).getD i 0) b (isStore o.op) fs = true := fun b hh => noClash_all fun x hx hw => by
      obtain ⟨h1, ok, h2, h3, h4⟩ := hf x hx
      rw [h4] at hw
      cases hs : isStore o.op with
      | true => exact (alone_spec (hsafe i o h0 hs) h2 (by omega) h3).1 h1
      | false =>
        rw [hs, Bool.false_or] at hw
        exact (alone_spec (hsafe x.1 ok h2 hw) h0 (by omega) hh).2 h1
    have hm' : memSafe ops = true := by unfold memSafe; rw [Bool.and_eq_true, Bool.and_eq_true]; exact hm
    rw [evList_cons] at h
    simp only [evMem]
    split at h <;> first | (cases h; done) | skip
    · split at h <;> first | (cases h; done) | skip
      rename_i v H1 hop
      split at h <;> first | (cases h; done) | skip
      rename_i s1 hput
      cases hh : heapOp o.op with
      | false =>
        have hmf : memFoot C s.tm o.op = some none := by
          unfold memFoot
          split
          · rename_i e; rw [e] at hh; cases hh
          · rename_i e; rw [e] at hh; cases hh
          · rw [hh]; rfl
        have hH : evOp P C call s.tm s.H o.op = some (v, s.H) := evOp_pure hh hop s.H
        rw [hH] at hop
        cases hop
        simp only [hmf, hH, hput]
        exact evMem_safe hm' rest _ _ s1 s' hl' hf' h
      | true =>
        split at ho
        · rename_i t x e
          have hop0 := hop
          rw [e] at hop
          simp only [evOp, oLoad] at hop
          split at hop <;> first | (cases hop; done) | skip
          rename_i a ha
          split at hop <;> first | (cases hop; done) | skip
          rename_i v' hv
          obtain ⟨b, off, rfl⟩ : ∃ b off, a = .pointer (some ⟨b, off, none⟩) := by
            unfold loadV at hv
            split at hv
            · exact ⟨_, _, rfl⟩
            · cases hv
          have hmf : memFoot C s.tm o.op = some (some (b, false)) := by rw [e]; simp only [memFoot, ha]
          have hc := clear b hh
          rw [show isStore o.op = false by rw [e]; rfl] at hc
          simp only [hmf, hc, cond_true, hop0, hput]
          exact evMem_safe hm' rest _ _ s1 s' hl' (fun x hx => by
            rcases List.mem_cons.mp hx with e1 | e1
            · rw [e1]; exact ⟨Nat.lt_succ_self _, o, h0, hh, by rw [e]; rfl⟩
            · exact hf' x e1) h
        · rename_i t x y e
          have hop0 := hop
          rw [e] at hop
          simp only [evOp, oStore] at hop
          split at hop <;> first | (cases hop; done) | skip
          rename_i a a' ha ha'
          split at hop <;> first | (cases hop; done) | skip
          rename_i H' hv
          obtain ⟨b, off, rfl⟩ : ∃ b off, a = .pointer (some ⟨b, off, none⟩) := by
            unfold storeV at hv
            split at hv
            · exact ⟨_, _, rfl⟩
            · cases hv
          have hmf : memFoot C s.tm o.op = some (some (b, true)) := by rw [e]; simp only [memFoot, ha]
          have hc := clear b hh
          rw [show isStore o.op = true by rw [e]; rfl] at hc
          simp only [hmf, hc, cond_true, hop0, hput]
          exact evMem_safe hm' rest _ _ s1 s' hl' (fun x hx => by
            rcases List.mem_cons.mp hx with e1 | e1
            · rw [e1]; exact ⟨Nat.lt_succ_self _, o, h0, hh, by rw [e]; rfl⟩
            · exact hf' x e1) h
        · rw [hh] at ho; cases ho
    · split at h <;> first | (cases h; done) | skip
      rename_i s1 hput
      try simp only [hput]
      exact evMem_safe hm' rest _ _ s1 s' hl' hf' h

/-- A region of loads and stores that draws its order. -/
theorem W_mem {i : Nat} {ops : Array Oper} {s : St} (hd : memSafe ops = true) (h : LW' P C s.k (strip ops) s.tm s.H fun tm' H' => Q .norm ⟨s.k, tm', H'⟩) : W P C (.region i ops true) s Q := by
  obtain ⟨k, tm, H⟩ := s
  obtain ⟨tm', H', h1, h2⟩ := LW_list (ops := ops) ops.toList tm H _ h
  refine ⟨.norm, ⟨k, tm', H'⟩, ?_, h2⟩
  rw [evI_eq]
  simp only [evStep]
  rw [callI_eq] at h1
  have : evRegion P C (evCall P C (lvI P C)) ops true ⟨k, tm, H⟩ = some ⟨k, tm', H'⟩ := by
    have hd' := hd
    unfold memSafe at hd'
    rw [Bool.and_eq_true, Bool.and_eq_true] at hd'
    unfold evRegion
    rw [hd'.1.1, hd'.1.2]
    simp only [Bool.and_self, cond_true]
    exact evMem_safe hd _ _ _ _ _ (fun j => by simp) (fun x hx => by cases hx) h1
  rw [this]

/-! ### regions that draw their order, with calls and new blocks -/
/-- What an operation may see: not what operations have made that aren't ordered ahead of it. -/
def vis (H : AH) (bits : Nat) (ms : List (Nat × Nat × Nat)) : AH := { n := H.n, lw := H.n, t := hideT H.t (hidden bits ms) }

/-- The heap behind an operation that only made new blocks. -/
def grown (H H2 : AH) : AH := { n := H2.n, lw := H.lw, t := addT H.t H2 H.n (H2.n - H.n) }

def grdOf (ops : Array Oper) (o : Oper) : Option (Option Tmp × Bool) := match o.guard with | none => none | some (j, b) => some ((ops[j]?).bind (·.dst), b)

theorem wantedV_eq {ops : Array Oper} {tm : Tr Value} {o : Oper} : wantedV ops tm o = gW tm (grdOf ops o) := gW_eq

/-- What is still to be shown of a region from its i-th operation on. -/
def DG (P : Program) (C : Cfg) (ops : Array Oper) (k i : Nat) (q : Bool) (ms : List (Nat × Nat × Nat)) (l : List Oper) (tm : Tr Value) (H : AH) (K : Tr Value → AH → Prop) : Prop :=
  ∃ tm' H', evDraw P C (callI P C) ops i q ms l ⟨k, tm, H⟩ = some ⟨k, tm', H'⟩ ∧ K tm' H'

def dput (k : Nat) (tm : Tr Value) (dst : Option Tmp) (v : Value) (K : Tr Value → Prop) : Prop :=
  match dst with
  | none => K tm
  | some d => d < k ∧ K (tm.set d v)

/-- Operations that look at no memory, one behind the other; it stops ahead of one that does. -/
def DW (P : Program) (C : Cfg) (ops : Array Oper) (k : Nat) : Nat → Bool → List (Nat × Nat × Nat) → List Oper → Tr Value → AH → (Tr Value → AH → Prop) → Prop
  | _, _, _, [], tm, H, K => K tm H
  | i, q, ms, o :: r, tm, H, K => match gW tm (grdOf ops o) with
    | some true => match heapOp o.op with
      | true => DG P C ops k i q ms (o :: r) tm H K
      | false => match evOp P C (callI P C) tm H o.op with
        | some (v, _) => match o.dst with
          | none => DW P C ops k (i + 1) q ms r tm H K
          | some d => d < k ∧ DW P C ops k (i + 1) q ms r (tm.set d v) H K
        | none => False
    | some false => match o.dst with
      | none => DW P C ops k (i + 1) q ms r tm H K
      | some d => d < k ∧ DW P C ops k (i + 1) q ms r (tm.set d undef) H K
    | none => False

variable {ops : Array Oper} {k i : Nat} {q : Bool} {ms : List (Nat × Nat × Nat)} {tm : Tr Value} {H : AH} {K : Tr Value → AH → Prop}

theorem put_dst {o : Oper} {v : Value} {H1 : AH} {K1 : Tr Value → Prop} (h : match o.dst with | none => K1 tm | some d => d < k ∧ K1 (tm.set d v)) : ∃ tm1, (St.put ⟨k, tm, H⟩ o.dst v H1) = some ⟨k, tm1, H1⟩ ∧ K1 tm1 := by
  cases hd : o.dst with
  | none => rw [hd] at h; exact ⟨tm, rfl, h⟩
  | some d =>
    rw [hd] at h
    have : Nat.blt d k = true := by rw [Nat.blt_eq]; exact h.1
    exact ⟨tm.set d v, by simp only [St.put, putSt, this, cond_true], h.2⟩

theorem blt_self (n : Nat) : Nat.blt n n = false := by
  cases hb : Nat.blt n n with
  | false => rfl
  | true => rw [Nat.blt_eq] at hb; omega

theorem DG_of : ∀ (l : List Oper) (i : Nat) (q : Bool) (ms : List (Nat × Nat × Nat)) (tm : Tr Value) (H : AH), DW P C ops k i q ms l tm H K → DG P C ops k i q ms l tm H K
  | [], i, q, ms, tm, H, h => ⟨tm, H, by simp only [evDraw], h⟩
  | o :: r, i, q, ms, tm, H, h => by
    simp only [DW] at h
    split at h
    · rename_i hg
      split at h
      · exact h
      · rename_i hh
        split at h
        · rename_i v H2 hop
          obtain ⟨tm1, hput, hl⟩ := put_dst (H := H) (H1 := H) (K1 := fun tm => DW P C ops k (i + 1) q ms r tm H K) h
          obtain ⟨tm', H', h1, h2⟩ := DG_of r (i + 1) q ms tm1 H hl
          refine ⟨tm', H', ?_, h2⟩
          simp only [evDraw]
          rw [wantedV_eq, hg]
          simp only [evDrawOp, hh, cond_false, hop, hput, blt_self]
          exact h1
        · exact h.elim
    · rename_i hg
      obtain ⟨tm1, hput, hl⟩ := put_dst (H := H) (H1 := H) (K1 := fun tm => DW P C ops k (i + 1) q ms r tm H K) h
      obtain ⟨tm', H', h1, h2⟩ := DG_of r (i + 1) q ms tm1 H hl
      refine ⟨tm', H', ?_, h2⟩
      simp only [evDraw]
      rw [wantedV_eq, hg]
      simp only [hput]
      exact h1
    · exact h.elim

theorem W_draw {id : Nat} {s : St} (hd : (!memOnly ops && regOk ops) = true) (h : DW P C ops s.k 0 false [] ops.toList s.tm s.H fun tm' H' => Q .norm ⟨s.k, tm', H'⟩) : W P C (.region id ops true) s Q := by
  obtain ⟨k, tm, H⟩ := s
  obtain ⟨tm', H', h1, h2⟩ := DG_of _ _ _ _ _ _ h
  refine ⟨.norm, ⟨k, tm', H'⟩, ?_, h2⟩
  rw [evI_eq]
  simp only [evStep]
  rw [callI_eq] at h1
  rw [Bool.and_eq_true] at hd
  have hm : memOnly ops = false := by simpa using hd.1
  have : evRegion P C (evCall P C (lvI P C)) ops true ⟨k, tm, H⟩ = some ⟨k, tm', H'⟩ := by
    unfold evRegion evRegionD
    rw [hm, hd.2]
    simp only [Bool.and_false, cond_false, cond_true]
    exact h1
  rw [this]

/-- A heap operation that changes nothing: a load, a slice, a call of what only reckons. -/
theorem DG_read {o : Oper} {r : List Oper} {v : Value} (hg : gW tm (grdOf ops o) = some true) (hh : heapOp o.op = true) (hq : q = false)
    (he : evOp P C (callI P C) tm (vis H ((before ops).getD i 0) ms) o.op = some (v, vis H ((before ops).getD i 0) ms))
    (h : match o.dst with | none => DW P C ops k (i + 1) q ms r tm H K | some d => d < k ∧ DW P C ops k (i + 1) q ms r (tm.set d v) H K) : DG P C ops k i q ms (o :: r) tm H K := by
  obtain ⟨tm1, hput, hl⟩ := put_dst (H := H) (H1 := H) (K1 := fun tm => DW P C ops k (i + 1) q ms r tm H K) h
  obtain ⟨tm', H', h1, h2⟩ := DG_of r (i + 1) q ms tm1 H hl
  refine ⟨tm', H', ?_, h2⟩
  subst hq
  have hop : evDrawOp P C (callI P C) ops i false ms ⟨k, tm, H⟩ o = some (v, H, false) := by
    unfold evDrawOp
    rw [hh, cond_true]
    simp only
    have he' : evOp P C (callI P C) tm { n := H.n, lw := H.n, t := hideT H.t (hidden ((before ops).getD i 0) ms) } o.op = some (v, { n := H.n, lw := H.n, t := hideT H.t (hidden ((before ops).getD i 0) ms) }) := he
    rw [he']
    have : Nat.ble H.n H.n = true := Nat.ble_eq.mpr (Nat.le_refl _)
    simp only [this, cond_true, Bool.not_false, Bool.and_self, Nat.sub_self, addT]
  simp only [evDraw]
  rw [wantedV_eq, hg]
  simp only [hop, hput, blt_self, cond_false]
  exact h1

/-- A heap operation that makes new blocks. -/
theorem DG_grow {o : Oper} {r : List Oper} {v : Value} {H2 : AH} (hg : gW tm (grdOf ops o) = some true) (hh : heapOp o.op = true) (hq : q = false)
    (he : evOp P C (callI P C) tm (vis H ((before ops).getD i 0) ms) o.op = some (v, H2)) (hn : H.n ≤ H2.n) (hlw : H.n ≤ H2.lw)
    (h : match o.dst with
      | none => DW P C ops k (i + 1) q (cond (Nat.blt H.n H2.n) ((i, H.n, H2.n) :: ms) ms) r tm (grown H H2) K
      | some d => d < k ∧ DW P C ops k (i + 1) q (cond (Nat.blt H.n H2.n) ((i, H.n, H2.n) :: ms) ms) r (tm.set d v) (grown H H2) K) : DG P C ops k i q ms (o :: r) tm H K := by
  obtain ⟨tm1, hput, hl⟩ := put_dst (H := H) (H1 := grown H H2) (K1 := fun tm => DW P C ops k (i + 1) q (cond (Nat.blt H.n H2.n) ((i, H.n, H2.n) :: ms) ms) r tm (grown H H2) K) h
  obtain ⟨tm', H', h1, h2⟩ := DG_of r (i + 1) q _ tm1 _ hl
  refine ⟨tm', H', ?_, h2⟩
  subst hq
  have hop : evDrawOp P C (callI P C) ops i false ms ⟨k, tm, H⟩ o = some (v, grown H H2, false) := by
    unfold evDrawOp
    rw [hh, cond_true]
    simp only
    have he' : evOp P C (callI P C) tm { n := H.n, lw := H.n, t := hideT H.t (hidden ((before ops).getD i 0) ms) } o.op = some (v, H2) := he
    rw [he']
    have e1 : Nat.ble H.n H2.n = true := Nat.ble_eq.mpr hn
    have e2 : Nat.ble H.n H2.lw = true := Nat.ble_eq.mpr hlw
    simp only [e1, e2, cond_true, Bool.not_false, Bool.and_self]
    rfl
  simp only [evDraw]
  rw [wantedV_eq, hg]
  simp only [hop, hput]
  exact h1

/-- A heap operation that writes; it is ordered against all others. -/
theorem DG_write {o : Oper} {r : List Oper} {v : Value} {H2 : AH} (hg : gW tm (grdOf ops o) = some true) (hh : heapOp o.op = true)
    (ha : alone ops i = true) (hhid : hidden ((before ops).getD i 0) ms = [])
    (he : evOp P C (callI P C) tm { n := H.n, lw := H.n, t := H.t } o.op = some (v, H2)) (hn : H.n ≤ H2.n) (hlw : H2.lw < H.n)
    (h : match o.dst with
      | none => DW P C ops k (i + 1) true (cond (Nat.blt H.n H2.n) ((i, H.n, H2.n) :: ms) ms) r tm { n := H2.n, lw := min H.lw H2.lw, t := H2.t } K
      | some d => d < k ∧ DW P C ops k (i + 1) true (cond (Nat.blt H.n H2.n) ((i, H.n, H2.n) :: ms) ms) r (tm.set d v) { n := H2.n, lw := min H.lw H2.lw, t := H2.t } K) : DG P C ops k i q ms (o :: r) tm H K := by
  obtain ⟨tm1, hput, hl⟩ := put_dst (H := H) (H1 := { n := H2.n, lw := min H.lw H2.lw, t := H2.t }) (K1 := fun tm => DW P C ops k (i + 1) true (cond (Nat.blt H.n H2.n) ((i, H.n, H2.n) :: ms) ms) r tm { n := H2.n, lw := min H.lw H2.lw, t := H2.t } K) h
  obtain ⟨tm', H', h1, h2⟩ := DG_of r (i + 1) true _ tm1 _ hl
  refine ⟨tm', H', ?_, h2⟩
  have hop : evDrawOp P C (callI P C) ops i q ms ⟨k, tm, H⟩ o = some (v, { n := H2.n, lw := min H.lw H2.lw, t := H2.t }, true) := by
    unfold evDrawOp
    rw [hh, cond_true]
    simp only [hhid, hideT]
    rw [he]
    have e1 : Nat.ble H.n H2.n = true := Nat.ble_eq.mpr hn
    have e2 : Nat.ble H.n H2.lw = false := by
      cases hb : Nat.ble H.n H2.lw with
      | false => rfl
      | true => have := Nat.le_of_ble_eq_true hb; omega
    simp only [e1, e2, cond_true, Bool.and_false, cond_false, ha, List.isEmpty_nil, Bool.and_self]
  simp only [evDraw]
  rw [wantedV_eq, hg]
  simp only [hop, hput]
  exact h1

theorem vis_nil (H : AH) (bits : Nat) : vis H bits [] = { n := H.n, lw := H.n, t := H.t } := rfl
theorem vis_blk0 (H : AH) (bits j : Nat) : (vis H bits []).blk j = H.blk j := rfl

/-- A loop; what is to hold behind a round is hidden behind a name. -/
theorem W_loopK {b : Code} (I : Nat → St → Prop) (h : ∀ n s, I n s → ∀ Q' : Ex → St → Prop, (∀ e s', loopQ I n Q e s' → Q' e s') → W P C b s Q') (n : Nat) (s : St) (hI : I n s) : W P C (.loop b) s Q :=
  W_loop I (fun n s hI => h n s hI _ (fun _ _ h => h)) n s hI

/-- A halt between two parts. -/
theorem W_then (R : St → Prop) {a b : Code} {s : St} (h1 : W P C a s fun e s' => e = .norm ∧ R s') (h2 : ∀ s', R s' → W P C b s' Q) : W P C (.seq a b) s Q := by
  refine W_seq fun b' hb => h1.mono ?_
  rintro e s' ⟨rfl, hr⟩
  subst hb
  exact h2 s' hr
end

end

end Go.Proofs.YtjboehpfojpimaaGreatDoor.Ev

/-
  nat.Compare; bits.Len64, LeadingZeros64; nat.Length, nat.From.
-/
namespace Go.Proofs.YtjboehpfojpimaaGreatDoor
open Go Ev
set_option linter.unusedVariables false
set_option linter.unusedSimpArgs false
noncomputable section

/-- A limb's base. -/
abbrev B64 : Nat := 18446744073709551616
theorem two64 : 2 ≤ B64 := by decide

def cmpN (a b : Nat) : Int := if a < b then -1 else if b < a then 1 else 0

theorem dv_len_lt {xs ys : List Nat} (hx : trimL xs = xs) (hy : trimL ys = ys) (dx : Dig B64 xs) (dy : Dig B64 ys) (h : xs.length < ys.length) : dv B64 xs < dv B64 ys := by
  have h1 := dv_lt dx
  have e : ys = ds B64 (dv B64 ys) := by rw [← trimL_ds two64 dy, hy]
  have hne : dv B64 ys ≠ 0 := by
    intro h0
    rw [h0, ds_zero] at e
    rw [e] at h
    simp at h
  have h2 := ds_ge two64 hne
  rw [← e] at h2
  have h3 : B64 ^ xs.length ≤ B64 ^ (ys.length - 1) := Nat.pow_le_pow_right (by decide) (by omega)
  omega

attribute [local simp] strip stripL LW' gW evOp oMove oAssign oPick oBinOp oUnOp oConvert oExtract oIndexAddr oIndex oLoad oStore oSlice oMakeSlice oCall opd opds optOpd plain plain1 Tr.get_set tmOf builtinV binV isShift sameKind intBin undef resultV resOne packV ltNat ltNum ltLst calleeV

set_option maxRecDepth 10000 in
theorem compare_spec {va vb : Value} {xs ys : List Nat} {H : AH} (ha : Sl H va xs) (hb : Sl H vb ys) (dx : Dig B64 xs) (dy : Dig B64 ys) (lx : xs.length ≤ 17592186044416) (ly : ys.length ≤ 17592186044416) :
    CW Tryz.prog cfg0 73 [va, vb] H fun v H' => H' = H ∧ v = .int .i64 (cmpN (dv B64 xs) (dv B64 ys)) := by
  refine CW_intro 45 (by decide) (by decide) Tryz.func73 rfl rfl ?_
  obtain ⟨v1, H1, hc1, e1, s1⟩ := trim_spec ha (by omega)
  obtain ⟨v2, H2, hc2, e2, s2⟩ := trim_spec hb (by omega)
  subst e1; subst e2
  rw [← dv_trimL B64 xs, ← dv_trimL B64 ys]
  have tx := trimL_idem xs
  have ty := trimL_idem ys
  have dx := trimL_dig dx
  have dy := trimL_dig dy
  have lx : (trimL xs).length ≤ 17592186044416 := Nat.le_trans (trimL_len xs) lx
  have ly : (trimL ys).length ≤ 17592186044416 := Nat.le_trans (trimL_len ys) ly
  generalize trimL xs = xs at *
  generalize trimL ys = ys at *
  have l1 := s1.len ltNat
  have l2 := s2.len ltNat
  apply W_seq; intro b1 hb1
  apply W_region
  simp
  show W _ _ b1 _ _; subst hb1
  apply W_seq; intro b1 hb1
  apply W_region
  simp [hc1, hc2]
  show W _ _ b1 _ _; subst hb1
  apply W_seq; intro b1 hb1
  apply W_seq; intro b2 hb2
  apply W_region
  simp [l1, l2]
  show W _ _ b2 _ _; subst hb2
  by_cases hl : xs.length = ys.length
  · refine W_cond (t := false) (by simp [hl]) ?_
    apply W_skip
    show W _ _ b1 _ _; subst hb1
    apply W_seq; intro b1 hb1
    apply W_seq; intro b2 hb2
    have hw0 : IntKind.i64.wrap ((xs.length : Int) - 1) = (xs.length : Int) - 1 := by rw [IntKind.wrap_i64]; omega
    apply W_region
    simp [l1, hw0]
    show W _ _ b2 _ _; subst hb2
    apply W_block
    refine W_loop (fun n s => s.k = 45 ∧ s.H = H2 ∧ s.tm.get 0 = some v1 ∧ s.tm.get 1 = some v2 ∧ s.tm.get 5 = some (.int .i64 ((n : Int) - 1)) ∧ n ≤ xs.length ∧ xs.drop n = ys.drop n) ?_ xs.length _ ⟨rfl, rfl, by simp, by simp, by simp, Nat.le_refl _, by rw [List.drop_length, hl, List.drop_length]⟩
    rintro n ⟨k, tm, H'⟩ ⟨h2, h3, h4, h5, h6, h7, h8⟩
    simp only at h2 h3 h4 h5 h6
    subst h2; subst h3
    apply W_seq; intro b2 hb2
    apply W_seq; intro b3 hb3
    apply W_region
    simp [h4, h5, h6]
    show W _ _ b3 _ _; subst hb3
    have e44 : xs.drop n = ys.drop n := h8
    by_cases hz : n = 0
    · subst hz
      refine W_cond (t := false) (by simp) ?_
      apply W_exit
      left
      refine ⟨rfl, ?_⟩
      show W _ _ b1 _ _; subst hb1
      apply W_seq; intro b4 hb4
      apply W_region
      simp
      show W _ _ b4 _ _; subst hb4
      apply W_ret
      have : xs = ys := by simpa using h8
      simp [cmpN, this]
    · have e : (n : Int) - 1 = ((n - 1 : Nat) : Int) := by omega
      refine W_cond (t := true) (by simp; omega) ?_
      apply W_skip
      show W _ _ b2 _ _; subst hb2
      have i1 : n - 1 < xs.length := by omega
      have i2 : n - 1 < ys.length := by omega
      have a1 := s1.adr ltNat (k := .i64) i1
      have a2 := s2.adr ltNat (k := .i64) i2
      have d1 := s1.load i1
      have d2 := s2.load i2
      rw [e] at h6
      have sx : xs = xs.take (n - 1) ++ xs[n - 1] :: xs.drop n := by
        have := List.take_append_drop (n - 1) xs
        rw [List.drop_eq_getElem_cons i1, show n - 1 + 1 = n by omega] at this
        exact this.symm
      have sy : ys = ys.take (n - 1) ++ ys[n - 1] :: ys.drop n := by
        have := List.take_append_drop (n - 1) ys
        rw [List.drop_eq_getElem_cons i2, show n - 1 + 1 = n by omega] at this
        exact this.symm
      have ltk : (xs.take (n - 1)).length = (ys.take (n - 1)).length := by simp [List.length_take, hl]
      apply W_seq; intro b4 hb4
      apply W_block
      apply W_seq; intro b5 hb5
      apply W_seq; intro b6 hb6
      apply W_loads (by kernel_rfl)
      simp [h4, h5, h6, a1, a2, d1, d2]
      show W _ _ b6 _ _; subst hb6
      by_cases hlt : xs[n - 1] < ys[n - 1]
      · refine W_cond (t := true) (by simp; omega) ?_
        apply W_seq; intro b7 hb7
        apply W_region
        simp
        show W _ _ b7 _ _; subst hb7
        apply W_ret
        have hd : dv B64 xs < dv B64 ys := by
          rw [sx, sy, h8]
          exact dv_cmp (dx.take _) (dy.take _) ltk hlt _
        simp [seqQ, blockQ, loopQ, cmpN, hd]
      · refine W_cond (t := false) (by simp; omega) ?_
        apply W_skip
        show W _ _ b5 _ _; subst hb5
        apply W_seq; intro b6 hb6
        apply W_loads (by kernel_rfl)
        simp [h4, h5, h6, a1, a2, d1, d2]
        show W _ _ b6 _ _; subst hb6
        by_cases hgt : ys[n - 1] < xs[n - 1]
        · refine W_cond (t := true) (by simp; omega) ?_
          apply W_seq; intro b7 hb7
          apply W_region
          simp
          show W _ _ b7 _ _; subst hb7
          apply W_ret
          have hd : dv B64 ys < dv B64 xs := by
            rw [sx, sy, h8]
            exact dv_cmp (dy.take _) (dx.take _) ltk.symm hgt _
          have hd2 : ¬ dv B64 xs < dv B64 ys := by omega
          simp [seqQ, blockQ, loopQ, cmpN, hd, hd2]
        · refine W_cond (t := false) (by simp; omega) ?_
          apply W_skip
          show W _ _ b4 _ _; subst hb4
          have hw1 : IntKind.i64.wrap (((n - 1 : Nat) : Int) - 1) = ((n - 1 : Nat) : Int) - 1 := by rw [IntKind.wrap_i64]; omega
          apply W_region
          simp [h6, hw1]
          refine ⟨n - 1, by omega, rfl, rfl, ?_⟩
          simp [h4, h5]
          refine ⟨by omega, ?_⟩
          rw [List.drop_eq_getElem_cons i1, List.drop_eq_getElem_cons i2, show n - 1 + 1 = n by omega, h8]
          congr 1
          omega
  · refine W_cond (t := true) (by simp; omega) ?_
    apply W_seq; intro b2 hb2
    apply W_seq; intro b3 hb3
    apply W_region
    simp [l1, l2]
    show W _ _ b3 _ _; subst hb3
    by_cases hlt : xs.length < ys.length
    · refine W_cond (t := true) (by simp; omega) ?_
      apply W_seq; intro b3 hb3
      apply W_region
      simp
      show W _ _ b3 _ _; subst hb3
      apply W_ret
      have := dv_len_lt tx ty dx dy hlt
      simp [seqQ, cmpN, this]
    · refine W_cond (t := false) (by simp; omega) ?_
      apply W_skip
      show W _ _ b2 _ _; subst hb2
      apply W_seq; intro b2 hb2
      apply W_region
      simp
      show W _ _ b2 _ _; subst hb2
      apply W_ret
      have := dv_len_lt ty tx dy dx (by omega)
      have h2 : ¬ dv B64 xs < dv B64 ys := by omega
      simp [seqQ, cmpN, this, h2]
end
end Go.Proofs.YtjboehpfojpimaaGreatDoor

/-
  bits.Len64, LeadingZeros64; nat.Length, nat.From.
-/
namespace Go.Proofs.YtjboehpfojpimaaGreatDoor
open Go Ev
set_option linter.unusedVariables false
set_option linter.unusedSimpArgs false
noncomputable section

/-- How many bits. -/
def blen (n : Nat) : Nat := if n = 0 then 0 else Nat.log2 n + 1

theorem blen_lt (n : Nat) : n < 2 ^ blen n := by
  unfold blen
  split
  · omega
  · exact Nat.lt_log2_self

theorem blen_ge {n : Nat} (h : n ≠ 0) : 2 ^ (blen n - 1) ≤ n := by
  unfold blen
  rw [if_neg h]
  exact Nat.log2_self_le h

theorem blen_uniq {n k : Nat} (h1 : n < 2 ^ k) (h2 : k = 0 ∨ 2 ^ (k - 1) ≤ n) : blen n = k := by
  rcases h2 with h2 | h2
  · subst h2
    have : n = 0 := by simpa using h1
    subst this; rfl
  · have hn : n ≠ 0 := by
      have := Nat.two_pow_pos (k - 1); omega
    have a : 2 ^ (blen n - 1) < 2 ^ k := Nat.lt_of_le_of_lt (blen_ge hn) h1
    have b : 2 ^ (k - 1) < 2 ^ blen n := Nat.lt_of_le_of_lt h2 (blen_lt n)
    have a' := (Nat.pow_lt_pow_iff_right (by decide)).mp a
    have b' := (Nat.pow_lt_pow_iff_right (by decide)).mp b
    omega

theorem blen_shift {n k : Nat} (h : 2 ^ k ≤ n) : blen n = k + blen (n / 2 ^ k) := by
  have hk := Nat.two_pow_pos k
  have hq : n / 2 ^ k ≠ 0 := by
    have := Nat.div_pos h hk; omega
  apply blen_uniq
  · rw [Nat.pow_add, Nat.mul_comm]
    have := blen_lt (n / 2 ^ k)
    exact (Nat.div_lt_iff_lt_mul hk).mp this
  · right
    have h1 := blen_ge hq
    have h2 : blen (n / 2 ^ k) ≠ 0 := by unfold blen; rw [if_neg hq]; omega
    rw [show k + blen (n / 2 ^ k) - 1 = (blen (n / 2 ^ k) - 1) + k by omega, Nat.pow_add]
    exact (Nat.le_div_iff_mul_le hk).mp h1

theorem fdiv_nat (x k : Nat) : (x : Int).fdiv (2 ^ k) = ((x / 2 ^ k : Nat) : Int) := by
  rw [Int.fdiv_eq_ediv_of_nonneg _ (Int.le_of_lt (Int.pow_pos (by decide)))]
  rw [Int.natCast_ediv, Int.natCast_pow]; rfl
theorem bits_u64 : IntKind.u64.bits = 64 := rfl
theorem bits_i64 : IntKind.i64.bits = 64 := rfl

def tabOk (s : ByteArray) : Bool := (List.range 256).all fun n => match s[n]? with | some b => Nat.beq b.toNat (blen n) | none => false

theorem tab_spec {s : ByteArray} (h : tabOk s = true) {n : Nat} (hn : n < 256) : indexV Tryz.prog 9 (.string s) (.int .u8 (n : Int)) = some (.int .u8 (blen n : Int)) := by
  unfold tabOk at h
  rw [List.all_eq_true] at h
  have := h n (List.mem_range.mpr hn)
  split at this
  · rename_i b hb
    have e := Nat.eq_of_beq_eq_true this
    unfold indexV
    simp only [Tryz.underlying9]
    rw [if_pos (by omega)]
    simp only [Int.toNat_natCast, hb, e]
  · cases this

attribute [local simp] strip stripL LW' gW evOp oMove oAssign oPick oBinOp oUnOp oConvert oExtract oIndexAddr oIndex oLoad oStore oSlice oMakeSlice oCall opd opds optOpd plain plain1 Tr.get_set tmOf builtinV binV isShift sameKind intBin undef resultV resOne packV ltNat ltNum ltLst calleeV shiftBin

theorem len64_spec {x : Nat} {H : AH} (hx : x < B64) :
    CW Tryz.prog cfg0 82 [.int .u64 (x : Int)] H fun v H' => H' = H ∧ v = .int .i64 (blen x : Int) := by
  have hx : x < 18446744073709551616 := hx
  refine CW_intro 25 (by decide) (by decide) Tryz.func82 rfl rfl ?_
  apply W_seq; intro b1 hb1
  apply W_region
  simp
  show W _ _ b1 _ _; subst hb1
  refine W_then (fun s => s.k = 25 ∧ s.H = H ∧ ∃ y n : Nat, s.tm.get 0 = some (.int .u64 (y : Int)) ∧ s.tm.get 2 = some (.int .i64 (n : Int)) ∧ y < 4294967296 ∧ n ≤ 32 ∧ blen x = n + blen y) ?_ ?_
  · apply W_seq; intro b1 hb1
    apply W_region
    simp
    show W _ _ b1 _ _; subst hb1
    by_cases h : 4294967296 ≤ x
    · have f1 : (x : Int).fdiv 4294967296 = ((x / 4294967296 : Nat) : Int) := fdiv_nat x 32
      have f2 : blen x = 32 + blen (x / 4294967296) := blen_shift (k := 32) h
      refine W_cond (t := true) (by simp; omega) ?_
      apply W_seq; intro b1 hb1
      apply W_region
      simp [bits_u64, f1]
      show W _ _ b1 _ _; subst hb1
      apply W_region
      simp
      exact ⟨x / 4294967296, rfl, 32, rfl, by omega, by omega, f2⟩
    · refine W_cond (t := false) (by simp; omega) ?_
      apply W_skip
      simp
      exact ⟨x, rfl, 0, rfl, by omega, by omega, by omega⟩
  rintro ⟨k, tm, H'⟩ ⟨h2, h3, y, n, h4, h5, h6, h7, h8⟩
  simp only at h2 h3 h4 h5
  subst h2; subst h3
  refine W_then (fun s => s.k = 25 ∧ s.H = H' ∧ ∃ y n : Nat, s.tm.get 0 = some (.int .u64 (y : Int)) ∧ s.tm.get 2 = some (.int .i64 (n : Int)) ∧ y < 65536 ∧ n ≤ 48 ∧ blen x = n + blen y) ?_ ?_
  · apply W_seq; intro b1 hb1
    apply W_region
    simp [h4, h5]
    show W _ _ b1 _ _; subst hb1
    by_cases h : 65536 ≤ y
    · have f1 : (y : Int).fdiv 65536 = ((y / 65536 : Nat) : Int) := fdiv_nat y 16
      have f2 : blen y = 16 + blen (y / 65536) := blen_shift (k := 16) h
      have hw : IntKind.i64.wrap ((n : Int) + 16) = ((n + 16 : Nat) : Int) := by rw [IntKind.wrap_i64]; omega
      refine W_cond (t := true) (by simp; omega) ?_
      apply W_seq; intro b1 hb1
      apply W_region
      simp [h4, h5, bits_u64, f1]
      show W _ _ b1 _ _; subst hb1
      apply W_region
      simp [h4, h5, hw]
      exact ⟨y / 65536, rfl, n + 16, rfl, by omega, by omega, by omega⟩
    · refine W_cond (t := false) (by simp; omega) ?_
      apply W_skip
      simp [h4, h5]
      exact ⟨y, rfl, n, rfl, by omega, by omega, h8⟩
  rintro ⟨k, tm, H'⟩ ⟨h2, h3, y, n, h4, h5, h6, h7, h8⟩
  simp only at h2 h3 h4 h5
  subst h2; subst h3
  refine W_then (fun s => s.k = 25 ∧ s.H = H' ∧ ∃ y n : Nat, s.tm.get 0 = some (.int .u64 (y : Int)) ∧ s.tm.get 2 = some (.int .i64 (n : Int)) ∧ y < 256 ∧ n ≤ 56 ∧ blen x = n + blen y) ?_ ?_
  · apply W_seq; intro b1 hb1
    apply W_region
    simp [h4, h5]
    show W _ _ b1 _ _; subst hb1
    by_cases h : 256 ≤ y
    · have f1 : (y : Int).fdiv 256 = ((y / 256 : Nat) : Int) := fdiv_nat y 8
      have f2 : blen y = 8 + blen (y / 256) := blen_shift (k := 8) h
      have hw : IntKind.i64.wrap ((n : Int) + 8) = ((n + 8 : Nat) : Int) := by rw [IntKind.wrap_i64]; omega
      refine W_cond (t := true) (by simp; omega) ?_
      apply W_seq; intro b1 hb1
      apply W_region
      simp [h4, h5, bits_u64, f1]
      show W _ _ b1 _ _; subst hb1
      apply W_region
      simp [h4, h5, hw]
      exact ⟨y / 256, rfl, n + 8, rfl, by omega, by omega, by omega⟩
    · refine W_cond (t := false) (by simp; omega) ?_
      apply W_skip
      simp [h4, h5]
      exact ⟨y, rfl, n, rfl, by omega, by omega, h8⟩
  rintro ⟨k, tm, H'⟩ ⟨h2, h3, y, n, h4, h5, h6, h7, h8⟩
  simp only at h2 h3 h4 h5
  subst h2; subst h3
  apply W_seq; intro b1 hb1
  apply W_region
  have hb8 : blen y ≤ 8 := by
    rcases Nat.lt_or_ge 8 (blen y) with h | h
    · have h0 : y ≠ 0 := by rintro rfl; simp [blen] at h
      have a := blen_ge h0
      have b : 2 ^ 8 ≤ 2 ^ (blen y - 1) := Nat.pow_le_pow_right (by decide) (by omega)
      omega
    · exact h
  generalize hs : ByteArray.mk _ = s
  have ht : tabOk s = true := by rw [← hs]; kernel_rfl
  have e1 := tab_spec ht h6
  have e2 : IntKind.u8.wrap (y : Int) = (y : Int) := by rw [IntKind.wrap_u8]; omega
  have e3 : IntKind.i64.wrap (blen y : Int) = (blen y : Int) := wrap_nat (by omega)
  have e4 : IntKind.i64.wrap ((n : Int) + (blen y : Int)) = (blen x : Int) := by rw [IntKind.wrap_i64, h8]; omega
  simp [h4, h5, convV, Tryz.underlying82, Tryz.underlying5, Tryz.underlying3, e1, e2, e3, e4]
  show W _ _ b1 _ _; subst hb1
  apply W_ret
  simp
end
end Go.Proofs.YtjboehpfojpimaaGreatDoor

/-
  bits.LeadingZeros64, Add64, Sub64; nat.Length, nat.From.
-/
namespace Go.Proofs.YtjboehpfojpimaaGreatDoor
open Go Ev
set_option linter.unusedVariables false
set_option linter.unusedSimpArgs false
noncomputable section

theorem add64_call (x y c : Nat) (H : AH) (hc : c ≤ 1) : callI Tryz.prog cfg0 99 [.int .u64 (x : Int), .int .u64 (y : Int), .int .u64 (c : Int)] H =
    some (.tuple #[.int .u64 (((x + y + c) % B64 : Nat) : Int), .int .u64 (((x + y + c) / B64 : Nat) : Int)], H) := by
  rw [callI_eq]
  unfold evCall evCallO
  rw [show Nat.beq 99 cfg0.add = true from rfl, cond_true]
  have : natsOf [.int .u64 (x : Int), .int .u64 (y : Int), .int .u64 (c : Int)] = some (x, y, c) := by
    simp [natsOf]
    omega
  rw [this]
  rfl

theorem sub64_call (x y c : Nat) (H : AH) (hc : c ≤ 1) : callI Tryz.prog cfg0 118 [.int .u64 (x : Int), .int .u64 (y : Int), .int .u64 (c : Int)] H =
    some (.tuple #[.int .u64 (((x + B64 - y - c) % B64 : Nat) : Int), .int .u64 ((if x < y + c then 1 else 0 : Nat) : Int)], H) := by
  rw [callI_eq]
  unfold evCall evCallO
  rw [show Nat.beq 118 cfg0.add = false from rfl, cond_false, show Nat.beq 118 cfg0.sub = true from rfl, cond_true]
  have : natsOf [.int .u64 (x : Int), .int .u64 (y : Int), .int .u64 (c : Int)] = some (x, y, c) := by
    simp [natsOf]
    omega
  rw [this]
  by_cases h : x < y + c
  · have : Nat.blt x (y + c) = true := by rw [Nat.blt_eq]; exact h
    simp only [this, cond_true, if_pos h]
    rfl
  · have : Nat.blt x (y + c) = false := by
      cases hb : Nat.blt x (y + c) with
      | false => rfl
      | true => rw [Nat.blt_eq] at hb; exact absurd hb h
    simp only [this, cond_false, if_neg h]
    rfl

attribute [local simp] strip stripL LW' gW evOp oMove oAssign oPick oBinOp oUnOp oConvert oExtract oIndexAddr oIndex oLoad oStore oSlice oMakeSlice oCall oBuildSlice opd opds optOpd plain plain1 Tr.get_set tmOf builtinV binV isShift sameKind intBin undef resultV resOne packV ltNat ltNum ltLst calleeV shiftBin parts

theorem lz_spec {x : Nat} {H : AH} (hx : x < B64) :
    CW Tryz.prog cfg0 157 [.int .u64 (x : Int)] H fun v H' => H' = H ∧ v = .int .i64 (64 - (blen x : Int)) := by
  refine CW_intro 6 (by decide) (by decide) Tryz.func157 rfl rfl ?_
  obtain ⟨v1, H1, hc1, rfl, rfl⟩ := len64_spec (H := H) hx
  have hb : blen x ≤ 64 := by
    rcases Nat.lt_or_ge 64 (blen x) with h | h
    · have h0 : x ≠ 0 := by rintro rfl; simp [blen] at h
      have a := blen_ge h0
      have b : 2 ^ 64 ≤ 2 ^ (blen x - 1) := Nat.pow_le_pow_right (by decide) (by omega)
      have hx : x < 18446744073709551616 := hx
      omega
    · exact h
  have hw : IntKind.i64.wrap (64 - (blen x : Int)) = 64 - (blen x : Int) := by rw [IntKind.wrap_i64]; omega
  apply W_seq; intro b1 hb1
  apply W_region
  simp
  show W _ _ b1 _ _; subst hb1
  apply W_seq; intro b1 hb1
  apply W_region
  simp [hc1, hw]
  show W _ _ b1 _ _; subst hb1
  apply W_ret
  simp

/-- A number's length from its digits. -/
theorem blen_dv {xs : List Nat} (dx : Dig B64 xs) (tx : trimL xs = xs) (h : 0 < xs.length) : blen (dv B64 xs) = 64 * (xs.length - 1) + blen (xs[xs.length - 1]) := by
  have hs : xs = xs.take (xs.length - 1) ++ [xs[xs.length - 1]] := by
    have := List.take_append_getElem (l := xs) (i := xs.length - 1) (by omega)
    rw [this, show xs.length - 1 + 1 = xs.length by omega, List.take_length]
  have hl : (xs.take (xs.length - 1)).length = xs.length - 1 := by rw [List.length_take]; omega
  generalize hz : xs[xs.length - 1] = z at *
  have hz0 : z ≠ 0 := by
    intro h0
    rw [h0] at hs
    have := congrArg trimL hs
    rw [trimL_snoc0, tx] at this
    have := congrArg List.length this
    have := trimL_len (xs.take (xs.length - 1))
    omega
  have e : dv B64 xs = dv B64 (xs.take (xs.length - 1)) + 2 ^ (64 * (xs.length - 1)) * z := by
    have := congrArg (dv B64) hs
    rw [this, dv_append, hl]
    simp only [dv, Nat.mul_zero, Nat.add_zero]
    rw [Nat.pow_mul]
  have hlow : dv B64 (xs.take (xs.length - 1)) < 2 ^ (64 * (xs.length - 1)) := by
    have := dv_lt (dx.take (xs.length - 1))
    rw [hl] at this
    rw [Nat.pow_mul]
    exact this
  have hge : 2 ^ (64 * (xs.length - 1)) ≤ dv B64 xs := by
    rw [e]
    have : 2 ^ (64 * (xs.length - 1)) * 1 ≤ 2 ^ (64 * (xs.length - 1)) * z := Nat.mul_le_mul_left _ (by omega)
    omega
  rw [blen_shift hge]
  congr 2
  rw [e, Nat.add_mul_div_left _ _ (Nat.two_pow_pos _), Nat.div_eq_of_lt hlow, Nat.zero_add]

theorem length_spec {v : Value} {xs : List Nat} {H : AH} (hs : Sl H v xs) (dx : Dig B64 xs) (hlen : xs.length ≤ 17592186044416) :
    CW Tryz.prog cfg0 49 [v] H fun v' H' => H' = H ∧ v' = .int .i64 (blen (dv B64 xs) : Int) := by
  refine CW_intro 20 (by decide) (by decide) Tryz.func49 rfl rfl ?_
  obtain ⟨v1, H1, hc1, e1, s1⟩ := trim_spec hs (by omega)
  subst e1
  rw [← dv_trimL B64 xs]
  have tx := trimL_idem xs
  have dx := trimL_dig dx
  have lx : (trimL xs).length ≤ 17592186044416 := Nat.le_trans (trimL_len xs) hlen
  generalize trimL xs = xs at *
  have l1 := s1.len ltNat
  apply W_seq; intro b1 hb1
  apply W_region
  simp
  show W _ _ b1 _ _; subst hb1
  apply W_seq; intro b1 hb1
  apply W_region
  simp [hc1]
  show W _ _ b1 _ _; subst hb1
  apply W_seq; intro b1 hb1
  apply W_seq; intro b2 hb2
  apply W_region
  simp [l1]
  show W _ _ b2 _ _; subst hb2
  by_cases h0 : xs.length = 0
  · obtain rfl : xs = [] := List.length_eq_zero_iff.mp h0
    refine W_cond (t := true) (by simp) ?_
    apply W_seq; intro b2 hb2
    apply W_region
    simp
    show W _ _ b2 _ _; subst hb2
    apply W_ret
    simp [seqQ, dv, blen]
  · refine W_cond (t := false) (by simp; intro h; apply h0; simp [h]) ?_
    apply W_skip
    show W _ _ b1 _ _; subst hb1
    have i1 : xs.length - 1 < xs.length := by omega
    have a1 := s1.adr ltNat (k := .i64) i1
    have d1 := s1.load i1
    have hw : IntKind.i64.wrap ((xs.length : Int) - 1) = ((xs.length - 1 : Nat) : Int) := wrap_sub1 (by omega) (by omega)
    have hx : xs[xs.length - 1] < B64 := dx.get (List.getElem?_eq_getElem i1)
    obtain ⟨v3, H3, hc3, e3, e4⟩ := len64_spec (H := H1) hx
    subst e3; subst e4
    have hb := blen_dv dx tx (by omega)
    have hb64 : blen (xs[xs.length - 1]) ≤ 64 := by
      rcases Nat.lt_or_ge 64 (blen (xs[xs.length - 1])) with h | h
      · have h0 : xs[xs.length - 1] ≠ 0 := by intro e; rw [e] at h; simp [blen] at h
        have a := blen_ge h0
        have b : 2 ^ 64 ≤ 2 ^ (blen (xs[xs.length - 1]) - 1) := Nat.pow_le_pow_right (by decide) (by omega)
        have hx : xs[xs.length - 1] < 18446744073709551616 := hx
        omega
      · exact h
    have hw2 : IntKind.i64.wrap (64 * ((xs.length - 1 : Nat) : Int)) = 64 * ((xs.length - 1 : Nat) : Int) := by rw [IntKind.wrap_i64]; omega
    have hw3 : IntKind.i64.wrap (64 * ((xs.length - 1 : Nat) : Int) + (blen (xs[xs.length - 1]) : Int)) = (blen (dv B64 xs) : Int) := by rw [IntKind.wrap_i64, hb]; omega
    apply W_seq; intro b2 hb2
    apply W_region
    simp [l1, hw, hw2, a1, d1, hc3, hw3]
    show W _ _ b2 _ _; subst hb2
    apply W_ret
    simp

theorem from_spec {x : Nat} {H : AH} (hx : x < B64) :
    CW Tryz.prog cfg0 72 [.int .u64 (x : Int)] H fun v H' => Keep H H' ∧ Own H.n H' v (ds B64 x) := by
  refine CW_intro 7 (by decide) (by decide) Tryz.func72 rfl rfl ?_
  apply W_seq; intro b1 hb1
  apply W_region
  simp
  show W _ _ b1 _ _; subst hb1
  apply W_seq; intro b1 hb1
  apply W_seq; intro b2 hb2
  apply W_region
  simp
  show W _ _ b2 _ _; subst hb2
  by_cases h0 : x = 0
  · subst h0
    refine W_cond (t := true) (by simp) ?_
    apply W_seq; intro b2 hb2
    apply W_region
    simp
    show W _ _ b2 _ _; subst hb2
    apply W_ret
    simp [seqQ, ds_zero]
    exact ⟨.refl H, .nil⟩
  · refine W_cond (t := false) (by simp; omega) ?_
    apply W_skip
    show W _ _ b1 _ _; subst hb1
    have e : ds B64 x = [x] := by
      rw [ds_pos two64 h0, Nat.mod_eq_of_lt hx, Nat.div_eq_of_lt hx, ds_zero]
    have hbs : buildSliceV Tryz.prog H 28 1 [(0, .int .u64 (x : Int))] = some (.slice (some ⟨H.n, 0, none⟩) 1 1, H.new 1 ([x].map limb)) := by
      unfold buildSliceV
      simp only [tNat, zU64]
      kernel_rfl
    apply W_seq; intro b2 hb2
    apply W_region
    simp [hbs]
    show W _ _ b2 _ _; subst hb2
    apply W_ret
    simp
    rw [e]
    exact ⟨.new _ _ _, Own.new H [x]⟩
end
end Go.Proofs.YtjboehpfojpimaaGreatDoor

/-
  LISTS OF LIMBS: make, write. div.up.
-/
namespace Go.Proofs.YtjboehpfojpimaaGreatDoor
open Go Ev
set_option linter.unusedVariables false
set_option linter.unusedSimpArgs false
noncomputable section

theorem zeros_limb (n : Nat) : zeros (Value.int .u64 0).cells n = (List.replicate n 0).map limb := by
  unfold zeros
  apply List.ext_getElem?
  intro i
  rw [List.getElem?_map, List.getElem?_map, List.getElem?_replicate]
  by_cases h : i < n
  · rw [if_pos h, List.getElem?_range h]
    simp [limb, Value.cells, Nat.mod_one]
  · rw [if_neg h, List.getElem?_eq_none (by simp; omega)]
    rfl

theorem makeSlice_own {H : AH} {t : TypeId} (ht : LT t) {n : Nat} (hn : n ≤ 17592186044416) :
    ∃ v H', makeSliceV Tryz.prog H t (.int .i64 (n : Int)) (.int .i64 (n : Int)) = some (v, H') ∧ Keep H H' ∧ Own H.n H' v (List.replicate n 0) ∧ H'.n = H.n + 1 := by
  refine ⟨.slice (some ⟨H.n, 0, none⟩) n n, H.new 1 ((List.replicate n 0).map limb), ?_, .new _ _ _, ?_, rfl⟩
  · unfold makeSliceV
    simp only [ht.2, zU64]
    rw [if_pos (by omega)]
    simp only [Int.toNat_natCast, Nat.mul_one, zeros_limb]
  · have := Own.new H (List.replicate n 0)
    rwa [List.length_replicate] at this

/-- A write: the list changes, and nothing else. -/
theorem Own.store {n : Nat} {H : AH} {v : Value} {xs : List Nat} (h : Own n H v xs) {i : Nat} (hi : i < xs.length) (y : Nat) :
    ∃ H', storeV Tryz.prog H 82 (adr v i) (.int .u64 (y : Int)) = some H' ∧ Own n H' v (xs.set i y) ∧ H'.n = H.n ∧
      ∀ H0, Keep H0 H → H0.n ≤ n → Keep H0 H' := by
  cases h with
  | nil => cases hi
  | mk b o cap xs cs h1 h2 h3 h4 h5 h6 =>
    have hlen : Nat.ble (o + i + 1) cs.length = true := Nat.ble_eq.mpr (by omega)
    have e0 : (Value.int .u64 (y : Int)).cells = #[.int .u64 (y : Int)] := rfl
    have hw : H.write b (o + i) [.int .u64 (y : Int)] = some { n := H.n, lw := min H.lw b, t := H.t.set b (.rw 1 (cs.take (o + i) ++ [.int .u64 (y : Int)] ++ cs.drop (o + i + 1))) } := by
      rw [AH.write_def, h4]
      simp only [List.length_singleton, hlen, Bool.true_and]
      rfl
    refine ⟨{ n := H.n, lw := min H.lw b, t := H.t.set b (.rw 1 (cs.take (o + i) ++ [.int .u64 (y : Int)] ++ cs.drop (o + i + 1))) }, ?_, ?_, rfl, ?_⟩
    · unfold storeV Go.Proofs.YtjboehpfojpimaaGreatDoor.adr
      simp only [sU64, e0]
      rw [show Nat.beq (#[Value.int .u64 (y : Int)] : Array Value).size 1 = true from rfl, cond_true]
      exact hw
    · have hl : (xs.set i y).length = xs.length := List.length_set
      rw [← hl]
      refine .mk b o cap _ (cs.take (o + i) ++ [.int .u64 (y : Int)] ++ cs.drop (o + i + 1)) (by omega) h2 h3 ?_ ?_ ?_
      · unfold AH.blk; simp only [Tr.get_set, if_true]
      · simp only [List.length_append, List.length_take, List.length_drop, List.length_singleton]; omega
      · intro j x hj
        rw [List.getElem?_set] at hj
        by_cases e : i = j
        · subst e
          rw [if_pos rfl, if_pos hi] at hj
          cases hj
          rw [List.append_assoc, List.getElem?_append_right (by rw [List.length_take]; omega)]
          rw [List.length_take, show o + i - min (o + i) cs.length = 0 by omega]
          rfl
        · rw [if_neg e] at hj
          have := h6 j x hj
          rcases Nat.lt_or_ge (o + j) (o + i) with hlt | hge
          · rw [List.append_assoc, List.getElem?_append_left (by rw [List.length_take]; omega), List.getElem?_take, if_pos hlt]
            exact this
          · rw [List.getElem?_append_right (by simp only [List.length_append, List.length_take, List.length_singleton]; omega), List.getElem?_drop]
            simp only [List.length_append, List.length_take, List.length_singleton]
            rw [show o + i + 1 + (o + j - (min (o + i) cs.length + 1)) = o + j by omega]
            exact this
    · intro H0 k hn
      refine ⟨k.n, ?_, fun j hj => ?_⟩
      · have := k.lw
        show min H0.lw H0.n ≤ min H.lw b
        omega
      · have : j ≠ b := by omega
        rw [← k.blk j hj]
        unfold AH.blk
        simp only [Tr.get_set, if_neg this]
end
end Go.Proofs.YtjboehpfojpimaaGreatDoor

/-
  u64 arithmetic as naturals: or, and, shifts, sums. div.up, div.down.
-/
namespace Go.Proofs.YtjboehpfojpimaaGreatDoor
open Go Ev
set_option linter.unusedVariables false
set_option linter.unusedSimpArgs false
noncomputable section

theorem bv_nat {x : Nat} (h : x < B64) : (BitVec.ofInt 64 (x : Int)).toNat = x := by
  have h : x < 18446744073709551616 := h
  simp [BitVec.toNat_ofInt]
  omega

theorem or_u64 {x y : Nat} (hx : x < B64) (hy : y < B64) : intBin .or .u64 (x : Int) (y : Int) = some (.int .u64 ((x ||| y : Nat) : Int)) := by
  have h : x ||| y < 2 ^ 64 := Nat.or_lt_two_pow hx hy
  have e : (BitVec.ofInt 64 (x : Int) ||| BitVec.ofInt 64 (y : Int)).toNat = x ||| y := by rw [BitVec.toNat_or, bv_nat hx, bv_nat hy]
  show some (Value.int .u64 (IntKind.u64.wrap ((BitVec.ofInt 64 (x : Int) ||| BitVec.ofInt 64 (y : Int)).toNat : Nat))) = _
  rw [e, IntKind.wrap_u64]
  have h : x ||| y < 18446744073709551616 := h
  rw [Int.emod_eq_of_lt (by omega) (by omega)]

theorem and_u64 {x y : Nat} (hx : x < B64) (hy : y < B64) : intBin .and .u64 (x : Int) (y : Int) = some (.int .u64 ((x &&& y : Nat) : Int)) := by
  have h : x &&& y < 2 ^ 64 := Nat.and_lt_two_pow _ hy
  have e : (BitVec.ofInt 64 (x : Int) &&& BitVec.ofInt 64 (y : Int)).toNat = x &&& y := by rw [BitVec.toNat_and, bv_nat hx, bv_nat hy]
  show some (Value.int .u64 (IntKind.u64.wrap ((BitVec.ofInt 64 (x : Int) &&& BitVec.ofInt 64 (y : Int)).toNat : Nat))) = _
  rw [e, IntKind.wrap_u64]
  have h : x &&& y < 18446744073709551616 := h
  rw [Int.emod_eq_of_lt (by omega) (by omega)]

theorem shl_u64 {x s : Nat} (hs : s ≤ 64) : shiftBin .shl .u64 (x : Int) (s : Int) = some (.int .u64 ((x * 2 ^ s % B64 : Nat) : Int)) := by
  unfold shiftBin
  rw [if_neg (by omega)]
  simp only [show IntKind.u64.bits = 64 from rfl, Int.toNat_natCast, Nat.min_eq_left hs, IntKind.wrap_u64]
  congr 2

theorem shr_u64 {x s : Nat} (hs : s ≤ 64) : shiftBin .shr .u64 (x : Int) (s : Int) = some (.int .u64 ((x / 2 ^ s : Nat) : Int)) := by
  unfold shiftBin
  rw [if_neg (by omega)]
  simp only [show IntKind.u64.bits = 64 from rfl, Int.toNat_natCast, Nat.min_eq_left hs]
  rw [fdiv_nat]

theorem add_u64 {x y : Nat} : intBin .add .u64 (x : Int) (y : Int) = some (.int .u64 (((x + y) % B64 : Nat) : Int)) := by
  unfold intBin
  simp only [IntKind.wrap_u64]
  congr 2

theorem mul_u64 {x y : Nat} : intBin .mul .u64 (x : Int) (y : Int) = some (.int .u64 ((x * y % B64 : Nat) : Int)) := by
  unfold intBin
  simp only [IntKind.wrap_u64]
  congr 2

theorem add_i64 {x y : Nat} (h : x + y < 9223372036854775808) : intBin .add .i64 (x : Int) (y : Int) = some (.int .i64 ((x + y : Nat) : Int)) := by
  show some (Value.int .i64 (IntKind.i64.wrap ((x : Int) + (y : Int)))) = _
  have e : IntKind.i64.wrap ((x : Int) + (y : Int)) = ((x + y : Nat) : Int) := by rw [IntKind.wrap_i64]; omega
  rw [e]
theorem add1_i64 {x : Nat} (h : x < 9223372036854775800) : intBin .add .i64 (x : Int) 1 = some (.int .i64 ((x + 1 : Nat) : Int)) := by
  have := add_i64 (x := x) (y := 1) (by omega)
  simpa using this
theorem sub_i64 {x y : Nat} (h : x < 9223372036854775808) (hy : y ≤ x) : intBin .sub .i64 (x : Int) (y : Int) = some (.int .i64 ((x - y : Nat) : Int)) := by
  show some (Value.int .i64 (IntKind.i64.wrap ((x : Int) - (y : Int)))) = _
  have e : IntKind.i64.wrap ((x : Int) - (y : Int)) = ((x - y : Nat) : Int) := by rw [IntKind.wrap_i64]; omega
  rw [e]
theorem sub1_i64 {x : Nat} (h : x < 9223372036854775808) (hx : 0 < x) : intBin .sub .i64 (x : Int) 1 = some (.int .i64 ((x - 1 : Nat) : Int)) := by
  have := sub_i64 (x := x) (y := 1) h hx
  simpa using this
theorem sub_u64 {x y : Nat} (hx : x < B64) (hy : y ≤ x) : intBin .sub .u64 (x : Int) (y : Int) = some (.int .u64 ((x - y : Nat) : Int)) := by
  have hx : x < 18446744073709551616 := hx
  show some (Value.int .u64 (IntKind.u64.wrap ((x : Int) - (y : Int)))) = _
  have e : IntKind.u64.wrap ((x : Int) - (y : Int)) = ((x - y : Nat) : Int) := by rw [IntKind.wrap_u64]; omega
  rw [e]
theorem lss_nat {k : IntKind} {x y : Nat} : intBin .lss k (x : Int) (y : Int) = some (.bool (decide (x < y))) := by
  show some (Value.bool (decide ((x : Int) < (y : Int)))) = _
  congr 2; simp
theorem leq_nat {k : IntKind} {x y : Nat} : intBin .leq k (x : Int) (y : Int) = some (.bool (decide (x ≤ y))) := by
  show some (Value.bool (decide ((x : Int) ≤ (y : Int)))) = _
  congr 2; simp
theorem gtr_nat {k : IntKind} {x y : Nat} : intBin .gtr k (x : Int) (y : Int) = some (.bool (decide (y < x))) := by
  show some (Value.bool (decide ((x : Int) > (y : Int)))) = _
  congr 2; simp
theorem geq_nat {k : IntKind} {x y : Nat} : intBin .geq k (x : Int) (y : Int) = some (.bool (decide (y ≤ x))) := by
  show some (Value.bool (decide ((x : Int) ≥ (y : Int)))) = _
  congr 2; simp
theorem eql_nat {k : IntKind} {x y : Nat} : intBin .eql k (x : Int) (y : Int) = some (.bool (decide (x = y))) := by
  show some (Value.bool ((x : Int) == (y : Int))) = _
  congr 2
  by_cases h : x = y
  · simp [h]
  · have : ¬ (x : Int) = (y : Int) := by omega
    simp [h, this]
theorem neq_nat {k : IntKind} {x y : Nat} : intBin .neq k (x : Int) (y : Int) = some (.bool (decide (x ≠ y))) := by
  show some (Value.bool ((x : Int) != (y : Int))) = _
  congr 2
  by_cases h : x = y
  · simp [h]
  · have : ¬ (x : Int) = (y : Int) := by omega
    simp [h, this]

theorem or_add {s a b : Nat} (hb : b < 2 ^ s) : (a * 2 ^ s) ||| b = a * 2 ^ s + b := by
  rw [Nat.mul_comm, Nat.two_pow_add_eq_or_of_lt hb]
end
end Go.Proofs.YtjboehpfojpimaaGreatDoor

/-
  div.up: shifted to the left by less than a limb.
-/
namespace Go.Proofs.YtjboehpfojpimaaGreatDoor
open Go Ev
set_option linter.unusedVariables false
set_option linter.unusedSimpArgs false
noncomputable section

theorem set_mid (L : List Nat) (c y : Nat) (R : List Nat) {i : Nat} (h : L.length = i) : (L ++ c :: R).set i y = L ++ y :: R := by
  subst h
  rw [List.set_append_right _ _ (Nat.le_refl _), Nat.sub_self]
  rfl

theorem get_mid (L : List Nat) (c : Nat) (R : List Nat) {i : Nat} (h : L.length = i) (hi : i < (L ++ c :: R).length) : (L ++ c :: R)[i] = c := by
  subst h
  simp

theorem take_snoc {xs : List Nat} {i : Nat} (h : i < xs.length) : xs.take (i + 1) = xs.take i ++ [xs[i]] := (List.take_append_getElem (l := xs) (i := i) h).symm

/-- A limb, shifted: what stays and what goes up. -/
theorem limb_shift {x s : Nat} (hs : s < 64) : x * 2 ^ s = x * 2 ^ s % B64 + B64 * (x / 2 ^ (64 - s)) := by
  have e : B64 = 2 ^ (64 - s) * 2 ^ s := by rw [← Nat.pow_add, show 64 - s + s = 64 by omega]
  have h1 : x * 2 ^ s / B64 = x / 2 ^ (64 - s) := by
    rw [e, Nat.mul_div_mul_right _ _ (Nat.two_pow_pos s)]
  have := Nat.mod_add_div (x * 2 ^ s) B64
  rw [h1] at this
  exact this.symm

theorem limb_low {x s : Nat} (hs : s < 64) : ∃ a, x * 2 ^ s % B64 = a * 2 ^ s ∧ a < 2 ^ (64 - s) := by
  have e : B64 = 2 ^ (64 - s) * 2 ^ s := by rw [← Nat.pow_add, show 64 - s + s = 64 by omega]
  refine ⟨x % 2 ^ (64 - s), ?_, Nat.mod_lt _ (Nat.two_pow_pos _)⟩
  rw [e, Nat.mul_mod_mul_right]

theorem limb_fit {x c s : Nat} (hs : s < 64) (hc : c < 2 ^ s) : x * 2 ^ s % B64 + c < B64 := by
  obtain ⟨a, e1, h⟩ := limb_low (x := x) hs
  have e : B64 = 2 ^ (64 - s) * 2 ^ s := by rw [← Nat.pow_add, show 64 - s + s = 64 by omega]
  rw [e1, e]
  have : (a + 1) * 2 ^ s ≤ 2 ^ (64 - s) * 2 ^ s := Nat.mul_le_mul_right _ h
  rw [Nat.succ_mul] at this
  omega

attribute [-simp] Int.natCast_add Int.natCast_mul Int.natCast_ediv Int.natCast_emod Int.natCast_pow
attribute [local simp] strip stripL LW' gW evOp oMove oAssign oPick oBinOp oUnOp oConvert oExtract oIndexAddr oIndex oLoad oStore oSlice oMakeSlice oCall oBuildSlice opd opds optOpd plain plain1 Tr.get_set tmOf builtinV binV isShift sameKind undef resultV resOne packV ltNat ltNum ltLst calleeV parts lss_nat

theorem up_spec {v : Value} {xs : List Nat} {H : AH} (hs : Sl H v xs) (dx : Dig B64 xs) (hlen : xs.length ≤ 17592186044000) {s : Nat} (h64 : s < 64) :
    CW Tryz.prog cfg0 158 [v, .int .u64 (s : Int)] H fun v' H' => Keep H H' ∧ ∃ ys, Own H.n H' v' ys ∧ Dig B64 ys ∧ ys.length = xs.length + 1 ∧ dv B64 ys = dv B64 xs * 2 ^ s := by
  refine CW_intro 39 (by decide) (by decide) Tryz.func158 rfl rfl ?_
  obtain ⟨c0, H1, hmk, k1, o1, n1⟩ := makeSlice_own (H := H) ltNat (n := xs.length + 1) (by omega)
  have l0 := hs.len ltNat
  apply W_seq; intro b1 hb1
  apply W_region
  simp
  show W _ _ b1 _ _; subst hb1
  apply W_seq; intro b1 hb1
  apply W_region
  simp [l0, add1_i64 (x := xs.length) (by omega), hmk]
  show W _ _ b1 _ _; subst hb1
  apply W_seq; intro b1 hb1
  apply W_seq; intro b2 hb2
  apply W_region
  simp [l0]
  show W _ _ b2 _ _; subst hb2
  apply W_block
  refine W_loopK (fun m s' => s'.k = 39 ∧ ∃ (i c : Nat) (L : List Nat), m + i = xs.length ∧ L.length = i ∧ c < 2 ^ s ∧ Dig B64 L ∧ dv B64 L + B64 ^ i * c = dv B64 (xs.take i) * 2 ^ s ∧ Keep H s'.H ∧ Own H.n s'.H c0 (L ++ c :: List.replicate m 0) ∧
    s'.tm.get 1 = some (.int .u64 (s : Int)) ∧ s'.tm.get 5 = some c0 ∧ s'.tm.get 12 = some v ∧ s'.tm.get 13 = some (.int .i64 (xs.length : Int)) ∧ s'.tm.get 14 = some (.int .i64 (i : Int))) ?_ xs.length _
    ⟨rfl, 0, 0, [], by omega, rfl, Nat.two_pow_pos s, .nil _, by simp [dv], k1, o1, by simp, by simp, by simp, by simp, by simp⟩
  rintro m ⟨k, tm, H2⟩ ⟨hk, i, c, L, hmi, hL, hc, dL, hv, kH, own, t1, t5, t12, t13, t14⟩ Q' hQ'
  simp only at hk t1 t5 t12 t13 t14 kH own
  subst hk
  apply W_seq; intro b3 hb3
  apply W_region
  simp [t13, t14]
  show W _ _ b3 _ _; subst hb3
  apply W_seq; intro b3 hb3
  by_cases hi : i < xs.length
  · refine W_cond (t := true) (by simp [hi]) ?_
    apply W_skip
    show W _ _ b3 _ _; subst hb3
    have s2 := hs.keep kH
    have a1 := s2.adr ltNat (k := .i64) hi
    have d1 := s2.load hi
    have hx : xs[i] < B64 := dx.get (List.getElem?_eq_getElem hi)
    obtain ⟨m', rfl⟩ : ∃ m', m = m' + 1 := ⟨m - 1, by omega⟩
    have hlen2 : (L ++ c :: List.replicate (m' + 1) 0).length = xs.length + 1 := by simp; omega
    have own1 := own.sl
    have a2 := own1.adr ltNat (k := .i64) (i := i) (by omega)
    have d2 := own1.load (i := i) (by omega)
    rw [get_mid L c _ hL] at d2
    have hcB : c < B64 := Nat.lt_of_lt_of_le hc (by show 2 ^ s ≤ 2 ^ 64; exact Nat.pow_le_pow_right (by decide) (by omega))
    have hm : xs[i] * 2 ^ s % B64 < B64 := Nat.mod_lt _ (by decide)
    have hor : c ||| xs[i] * 2 ^ s % B64 = xs[i] * 2 ^ s % B64 + c := by
      obtain ⟨a, e1, _⟩ := limb_low (x := xs[i]) h64
      rw [Nat.or_comm, e1, or_add hc]
    obtain ⟨H3, st1, own3, n3, kp3⟩ := own.store (i := i) (by omega) (xs[i] * 2 ^ s % B64 + c)
    rw [set_mid L c _ _ hL] at own3
    have a3 := own3.sl.adr ltNat (k := .i64) (i := i + 1) (by simp; omega)
    obtain ⟨H4, st2, own4, n4, kp4⟩ := own3.store (i := i + 1) (by simp; omega) (xs[i] / 2 ^ (64 - s))
    have hset : (L ++ (xs[i] * 2 ^ s % B64 + c) :: List.replicate (m' + 1) 0).set (i + 1) (xs[i] / 2 ^ (64 - s)) = (L ++ [xs[i] * 2 ^ s % B64 + c]) ++ (xs[i] / 2 ^ (64 - s)) :: List.replicate m' 0 := by
      rw [show L ++ (xs[i] * 2 ^ s % B64 + c) :: List.replicate (m' + 1) 0 = (L ++ [xs[i] * 2 ^ s % B64 + c]) ++ 0 :: List.replicate m' 0 by simp [List.replicate_succ]]
      exact set_mid _ _ _ _ (by simp [hL])
    rw [hset] at own4
    have sh2 : shiftBin .shr .u64 ((xs[i] / 2 : Nat) : Int) ((63 - s : Nat) : Int) = some (.int .u64 ((xs[i] / 2 ^ (64 - s) : Nat) : Int)) := by
      rw [shr_u64 (by omega), Nat.div_div_eq_div_mul]
      rw [show 2 * 2 ^ (63 - s) = 2 ^ (64 - s) by rw [← Nat.pow_succ', show (63 - s).succ = 64 - s by omega]]
    have sh1 : shiftBin .shr .u64 (xs[i] : Int) 1 = some (.int .u64 ((xs[i] / 2 : Nat) : Int)) := shr_u64 (s := 1) (by omega)
    have sb : intBin .sub .u64 63 (s : Int) = some (.int .u64 ((63 - s : Nat) : Int)) := sub_u64 (x := 63) (by decide) (by omega)
    apply W_seq; intro b3 hb3
    apply W_block
    apply W_seq; intro b4 hb4
    apply W_region
    simp [t12, t14, a1, d1]
    show W _ _ b4 _ _; subst hb4
    apply W_seq; intro b4 hb4
    apply W_region
    simp [t1, t5, a2, d2, shl_u64 (x := xs[i]) (s := s) (by omega), or_u64 hcB hm, hor, st1]
    show W _ _ b4 _ _; subst hb4
    apply W_region
    simp [t1, t5, add1_i64 (x := i) (by omega), sh1, sb, sh2, a3, st2]
    show W _ _ b3 _ _; subst hb3
    apply W_region
    simp [t14, add1_i64 (x := i) (by omega)]
    apply hQ'
    refine ⟨m', by omega, rfl, i + 1, xs[i] / 2 ^ (64 - s), L ++ [xs[i] * 2 ^ s % B64 + c], by omega, by simp [hL], ?_, ?_, ?_, kp4 H (kp3 H kH (Nat.le_refl _)) (Nat.le_refl _), ?_, ?_⟩
    · rw [Nat.div_lt_iff_lt_mul (Nat.two_pow_pos _), ← Nat.pow_add, show s + (64 - s) = 64 by omega]
      exact hx
    · exact dL.append (.cons (limb_fit h64 hc) (.nil _))
    · rw [dv_append, hL, take_snoc hi, dv_append, List.length_take, Nat.min_eq_left (by omega)]
      simp only [dv, Nat.mul_zero, Nat.add_zero]
      have e1 := limb_shift (x := xs[i]) h64
      generalize hq : xs[i] * 2 ^ s % B64 = q at e1 ⊢
      generalize xs[i] / 2 ^ (64 - s) = r at e1 ⊢
      rw [Nat.add_mul, ← hv, Nat.mul_assoc (B64 ^ i) xs[i], e1, Nat.pow_succ, Nat.mul_assoc (B64 ^ i) B64 r, Nat.mul_add, Nat.mul_add]
      omega
    · simpa using own4
    · exact ⟨by simp [t1], by simp [t5], by simp [t12], by simp [t13], by simp⟩
  · refine W_cond (t := false) (by simp [hi]) ?_
    apply W_exit
    apply hQ'
    left
    refine ⟨rfl, ?_⟩
    have hi' : i = xs.length := by omega
    obtain rfl : m = 0 := by omega
    show W _ _ b1 _ _; subst hb1
    apply W_seq; intro b4 hb4
    apply W_region
    simp [t5]
    show W _ _ b4 _ _; subst hb4
    apply W_ret
    simp
    refine ⟨kH, L ++ [c], by simpa using own, ?_, by simp [hL, hi'], ?_⟩
    · have hcB : c < B64 := Nat.lt_of_lt_of_le hc (by show 2 ^ s ≤ 2 ^ 64; exact Nat.pow_le_pow_right (by decide) (by omega))
      exact dL.append (.cons hcB (.nil _))
    · rw [dv_append, hL]
      simp only [dv, Nat.mul_zero, Nat.add_zero]
      rw [hv, hi', List.take_length]
end
end Go.Proofs.YtjboehpfojpimaaGreatDoor

/-
  bits.Mul64.
-/
namespace Go.Proofs.YtjboehpfojpimaaGreatDoor
open Go Ev
set_option linter.unusedVariables false
set_option linter.unusedSimpArgs false
noncomputable section

theorem and32 {x : Nat} (hx : x < B64) : intBin .and .u64 (x : Int) 4294967295 = some (.int .u64 ((x % 4294967296 : Nat) : Int)) := by
  have := and_u64 (x := x) (y := 4294967295) hx (by decide)
  rw [show x &&& 4294967295 = x % 4294967296 from Nat.and_two_pow_sub_one_eq_mod x 32] at this
  exact this
theorem shr32 {x : Nat} : shiftBin .shr .u64 (x : Int) 32 = some (.int .u64 ((x / 4294967296 : Nat) : Int)) := shr_u64 (x := x) (s := 32) (by omega)

theorem mul64_arith {x y : Nat} (hx : x < B64) (hy : y < B64) :
    let x0 := x % 4294967296; let x1 := x / 4294967296; let y0 := y % 4294967296; let y1 := y / 4294967296
    let w0 := x0 * y0 % B64
    let t := (x1 * y0 % B64 + w0 / 4294967296) % B64
    let w1 := (t % 4294967296 + x0 * y1 % B64) % B64
    ((x1 * y1 % B64 + t / 4294967296) % B64 + w1 / 4294967296) % B64 = x * y / B64 := by
  intro x0 x1 y0 y1 w0 t w1
  have hx : x < 18446744073709551616 := hx
  have hy : y < 18446744073709551616 := hy
  have a0 : x0 ≤ 4294967295 := by show x % 4294967296 ≤ _; omega
  have a1 : x1 ≤ 4294967295 := by show x / 4294967296 ≤ _; omega
  have b0 : y0 ≤ 4294967295 := by show y % 4294967296 ≤ _; omega
  have b1 : y1 ≤ 4294967295 := by show y / 4294967296 ≤ _; omega
  have ex : x = 4294967296 * x1 + x0 := (Nat.div_add_mod x 4294967296).symm
  have ey : y = 4294967296 * y1 + y0 := (Nat.div_add_mod y 4294967296).symm
  have p00 : x0 * y0 ≤ 18446744065119617025 := Nat.mul_le_mul a0 b0
  have p10 : x1 * y0 ≤ 18446744065119617025 := Nat.mul_le_mul a1 b0
  have p01 : x0 * y1 ≤ 18446744065119617025 := Nat.mul_le_mul a0 b1
  have p11 : x1 * y1 ≤ 18446744065119617025 := Nat.mul_le_mul a1 b1
  have e : x * y = 18446744073709551616 * (x1 * y1) + 4294967296 * (x1 * y0) + 4294967296 * (x0 * y1) + x0 * y0 := by
    rw [ex, ey]
    simp only [Nat.mul_add, Nat.add_mul]
    rw [show 4294967296 * x1 * (4294967296 * y1) = 18446744073709551616 * (x1 * y1) by rw [Nat.mul_mul_mul_comm]]
    rw [Nat.mul_assoc 4294967296 x1 y0, Nat.mul_left_comm x0 4294967296 y1]
    omega
  rw [e]
  show ((x1 * y1 % 18446744073709551616 + t / 4294967296) % 18446744073709551616 + w1 / 4294967296) % 18446744073709551616 = _ / 18446744073709551616
  have hw0 : w0 = x0 * y0 := Nat.mod_eq_of_lt (by show _ < 18446744073709551616; omega)
  have ht : t = x1 * y0 + x0 * y0 / 4294967296 := by
    show (x1 * y0 % 18446744073709551616 + w0 / 4294967296) % 18446744073709551616 = _
    rw [hw0]; omega
  have hw1 : w1 = t % 4294967296 + x0 * y1 := by
    show (t % 4294967296 + x0 * y1 % 18446744073709551616) % 18446744073709551616 = _
    omega
  generalize x1 * y1 = p11 at *
  generalize x1 * y0 = p10 at *
  generalize x0 * y1 = p01 at *
  generalize x0 * y0 = p00 at *
  clear_value t w1
  omega

attribute [-simp] Int.natCast_add Int.natCast_mul Int.natCast_ediv Int.natCast_emod Int.natCast_pow
attribute [local simp] strip stripL LW' gW evOp oMove oAssign oPick oBinOp oUnOp oConvert oExtract oIndexAddr oIndex oLoad oStore oSlice oMakeSlice oCall oBuildSlice opd opds optOpd plain plain1 Tr.get_set tmOf builtinV binV isShift sameKind undef resultV resOne packV ltNat ltNum ltLst calleeV parts lss_nat

theorem mul64_spec {x y : Nat} (hx : x < B64) (hy : y < B64) {H : AH} :
    CW Tryz.prog cfg0 161 [.int .u64 (x : Int), .int .u64 (y : Int)] H fun v H' => H' = H ∧ v = .tuple #[.int .u64 ((x * y / B64 : Nat) : Int), .int .u64 ((x * y % B64 : Nat) : Int)] := by
  refine CW_intro 51 (by decide) (by decide) Tryz.func161 rfl rfl ?_
  have ht : ∀ z : Nat, z % B64 < B64 := fun z => Nat.mod_lt _ (by decide)
  have key := mul64_arith hx hy
  simp only at key
  iterate 12
    apply W_seq; intro b hb
    apply W_region
    simp [and32 hx, and32 hy, shr32, mul_u64, add_u64, and32 (ht _)]
    show W _ _ b _ _; subst hb
  apply W_ret
  simp
  have key2 := key
  simp only [Nat.mod_add_mod, Nat.add_mod_mod] at key2
  rw [← key2]
end
end Go.Proofs.YtjboehpfojpimaaGreatDoor

/-
  nat.trim of a new list is of the same new list. nat.told.
-/
namespace Go.Proofs.YtjboehpfojpimaaGreatDoor
open Go Ev
set_option linter.unusedVariables false
set_option linter.unusedSimpArgs false
noncomputable section

theorem Own.cut {n0 : Nat} {H : AH} {v : Value} {xs : List Nat} (h : Own n0 H v xs) {t : TypeId} (ht : LT t) {m : Nat} (hm : m ≤ xs.length) (h0 : 0 < xs.length) :
    ∃ v', sliceV Tryz.prog H t v none (some (.int .i64 (m : Int))) none = some v' ∧ Own n0 H v' (xs.take m) := by
  cases h with
  | nil => cases h0
  | mk b o cap xs cs h1 h2 h3 h4 h5 h6 =>
    have hl : (xs.take m).length = m := by rw [List.length_take]; omega
    have hsz : H.size b = some 1 := by unfold AH.size; rw [h4]
    refine ⟨.slice (some ⟨b, o, none⟩) (xs.take m).length cap, ?_, .mk b o cap _ cs (by omega) h2 h3 h4 h5 fun i x hx => h6 i x ?_⟩
    · unfold sliceV
      simp only [ht.1, sU64]
      unfold cutV boundV
      simp only [hsz, Option.isSome_some, Option.isNone_none, Bool.true_or]
      rw [if_pos (by omega)]
      have e1 : Nat.ble m cap = true := Nat.ble_eq.mpr (by omega)
      simp [boundV, e1, hl]
    · rw [List.getElem?_take] at hx
      split at hx
      · exact hx
      · cases hx

attribute [local simp] strip stripL LW' gW evOp oMove oAssign oPick oBinOp oUnOp oConvert oExtract oIndexAddr oIndex oLoad oStore oSlice oMakeSlice oCall opd opds optOpd plain plain1 Tr.get_set tmOf builtinV binV isShift sameKind intBin undef resultV resOne packV ltNat ltNum ltLst calleeV

theorem trim_own {v : Value} {xs : List Nat} {H : AH} {n0 : Nat} (hs : Own n0 H v xs) (hlen : xs.length < 1152921504606846976) :
    CW Tryz.prog cfg0 81 [v] H fun v' H' => H' = H ∧ Own n0 H v' (trimL xs) := by
  refine CW_intro 21 (by decide) (by decide) Tryz.func81 rfl rfl ?_
  apply W_seq; intro b1 hb1
  apply W_region
  simp
  show W _ _ b1 _ _; subst hb1
  apply W_seq; intro b1 hb1
  apply W_block
  refine W_loop (fun n s => s.k = 21 ∧ s.H = H ∧ ∃ v', s.tm.get 0 = some v' ∧ n ≤ xs.length ∧ Own n0 H v' (xs.take n) ∧ trimL (xs.take n) = trimL xs) ?_ xs.length _ ⟨rfl, rfl, v, by simp, Nat.le_refl _, by rw [List.take_length]; exact hs, by rw [List.take_length]⟩
  rintro n ⟨k, tm, H'⟩ ⟨h2, h3, v', h4, h5, h6, h7⟩
  simp only at h2 h3 h4
  subst h2; subst h3
  have hl : (xs.take n).length = n := by rw [List.length_take]; omega
  have hlenv := h6.sl.len ltNat
  rw [hl] at hlenv
  apply W_seq; intro b2 hb2
  apply W_seq; intro b3 hb3
  apply W_region
  by_cases hz : n = 0
  · subst hz
    simp [h4, hlenv]
    show W _ _ b3 _ _; subst hb3
    refine W_cond (t := false) (by simp) ?_
    apply W_exit
    left
    refine ⟨rfl, ?_⟩
    show W _ _ b1 _ _; subst hb1
    apply W_seq; intro b4 hb4
    apply W_region
    simp [h4]
    show W _ _ b4 _ _; subst hb4
    apply W_ret
    simp
    rw [← h7]
    exact h6
  · have hn : 0 < n := Nat.pos_of_ne_zero hz
    have hw : IntKind.i64.wrap ((n : Int) - 1) = ((n - 1 : Nat) : Int) := wrap_sub1 hn (by omega)
    have hi : n - 1 < (xs.take n).length := by omega
    have ha := h6.sl.adr ltNat (k := .i64) hi
    have hld := h6.sl.load hi
    simp [h4, hlenv, hn, hw, ha, hld]
    show W _ _ b3 _ _; subst hb3
    have hx : n - 1 < xs.length := by omega
    have htake : xs.take n = xs.take (n - 1) ++ [xs[n - 1]] := by
      have := List.take_append_getElem (l := xs) (i := n - 1) hx
      rw [this, show n - 1 + 1 = n by omega]
    by_cases h0 : xs[n - 1] = 0
    · refine W_cond (t := true) (by simp [h0]) ?_
      apply W_skip
      show W _ _ b2 _ _; subst hb2
      apply W_block
      apply W_region
      obtain ⟨v2, hv2, hs2⟩ := h6.cut ltNat (m := n - 1) (by omega) (by omega)
      simp [h4, hlenv, hw, hv2]
      refine ⟨n - 1, by omega, rfl, rfl, v2, by simp, by omega, ?_, ?_⟩
      · rw [List.take_take, show min (n - 1) n = n - 1 by omega] at hs2; exact hs2
      · rw [← h7, htake, h0, trimL_snoc0]
    · refine W_cond (t := false) (by simp; exact h0) ?_
      apply W_exit
      left
      refine ⟨rfl, ?_⟩
      show W _ _ b1 _ _; subst hb1
      apply W_seq; intro b4 hb4
      apply W_region
      simp [h4]
      show W _ _ b4 _ _; subst hb4
      apply W_ret
      simp
      rw [← h7]
      have : trimL (xs.take n) = xs.take n := by rw [htake]; exact trimL_snoc _ _ h0
      rw [this]
      exact h6

theorem told_spec {v : Value} {xs : List Nat} {H : AH} {n0 : Nat} (hs : Own n0 H v xs) (dx : Dig B64 xs) (hlen : xs.length ≤ 17592186044416) :
    CW Tryz.prog cfg0 98 [v] H fun v' H' => H' = H ∧ ((67108864 < blen (dv B64 xs) ∧ v' = .tuple #[.slice none 0 0, .int .i64 3]) ∨
      (blen (dv B64 xs) ≤ 67108864 ∧ ∃ u, v' = .tuple #[u, .int .i64 0] ∧ Own n0 H u (ds B64 (dv B64 xs)))) := by
  refine CW_intro 10 (by decide) (by decide) Tryz.func98 rfl rfl ?_
  obtain ⟨v1, H1, hc1, e1, s1⟩ := trim_own hs (by omega)
  subst e1
  have dt := trimL_dig dx
  obtain ⟨v2, H2, hc2, e2, e3⟩ := length_spec s1.sl dt (Nat.le_trans (trimL_len xs) hlen)
  subst e2; subst e3
  rw [dv_trimL] at hc2
  rw [trimL_ds two64 dx] at s1
  apply W_seq; intro b1 hb1
  apply W_region
  simp
  show W _ _ b1 _ _; subst hb1
  apply W_seq; intro b1 hb1
  apply W_region
  simp [hc1]
  show W _ _ b1 _ _; subst hb1
  apply W_seq; intro b1 hb1
  apply W_seq; intro b2 hb2
  apply W_region
  simp [hc2]
  show W _ _ b2 _ _; subst hb2
  by_cases h : 67108864 < blen (dv B64 xs)
  · refine W_cond (t := true) (by simp; omega) ?_
    apply W_seq; intro b2 hb2
    apply W_region
    simp
    show W _ _ b2 _ _; subst hb2
    apply W_ret
    simp [seqQ, h]
  · refine W_cond (t := false) (by simp; omega) ?_
    apply W_skip
    show W _ _ b1 _ _; subst hb1
    apply W_seq; intro b2 hb2
    apply W_region
    simp
    show W _ _ b2 _ _; subst hb2
    apply W_ret
    simp [h]
    exact ⟨by omega, s1⟩
end
end Go.Proofs.YtjboehpfojpimaaGreatDoor

/-
  div.down: shifted back.
-/
namespace Go.Proofs.YtjboehpfojpimaaGreatDoor
open Go Ev
set_option linter.unusedVariables false
set_option linter.unusedSimpArgs false
noncomputable section

/-- A list's limb, or 0. -/
def nth (xs : List Nat) (i : Nat) : Nat := xs[i]?.getD 0

theorem nth_get {xs : List Nat} {i : Nat} (h : i < xs.length) : nth xs i = xs[i] := by unfold nth; rw [List.getElem?_eq_getElem h]; rfl
theorem nth_out {xs : List Nat} {i : Nat} (h : xs.length ≤ i) : nth xs i = 0 := by unfold nth; rw [List.getElem?_eq_none h]; rfl

attribute [-simp] Int.natCast_add Int.natCast_mul Int.natCast_ediv Int.natCast_emod Int.natCast_pow
attribute [local simp] strip stripL LW' gW evOp oMove oAssign oPick oBinOp oUnOp oConvert oExtract oIndexAddr oIndex oLoad oStore oSlice oMakeSlice oCall oBuildSlice opd opds optOpd plain plain1 Tr.get_set tmOf builtinV binV isShift sameKind undef resultV resOne packV ltNat ltNum ltLst calleeV parts lss_nat

theorem down_spec {v : Value} {xs : List Nat} {H : AH} (hs : Sl H v xs) (dx : Dig B64 xs) (hlen : xs.length ≤ 17592186044000) {s : Nat} (h64 : s < 64) :
    CW Tryz.prog cfg0 160 [v, .int .u64 (s : Int)] H fun v' H' => Keep H H' ∧ Own H.n H' v' (ds B64 (dv B64 xs / 2 ^ s)) := by
  refine CW_intro 47 (by decide) (by decide) Tryz.func160 rfl rfl ?_
  obtain ⟨c0, H1, hmk, k1, o1, n1⟩ := makeSlice_own (H := H) ltNat (n := xs.length) (by omega)
  have l0 := hs.len ltNat
  apply W_seq; intro b1 hb1
  apply W_region
  simp
  show W _ _ b1 _ _; subst hb1
  apply W_seq; intro b1 hb1
  apply W_region
  simp [l0, hmk]
  show W _ _ b1 _ _; subst hb1
  apply W_seq; intro b1 hb1
  apply W_seq; intro b2 hb2
  apply W_region
  simp [l0]
  show W _ _ b2 _ _; subst hb2
  apply W_block
  refine W_loopK (fun m s' => s'.k = 47 ∧ ∃ (i : Nat) (L : List Nat), m + i = xs.length ∧ L.length = i ∧ Dig B64 L ∧ dv B64 L * 2 ^ s + nth xs 0 % 2 ^ s = dv B64 (xs.take i) + B64 ^ i * (nth xs i % 2 ^ s) ∧ Keep H s'.H ∧ Own H.n s'.H c0 (L ++ List.replicate m 0) ∧
    s'.tm.get 0 = some v ∧ s'.tm.get 1 = some (.int .u64 (s : Int)) ∧ s'.tm.get 5 = some c0 ∧ s'.tm.get 11 = some v ∧ s'.tm.get 12 = some (.int .i64 (xs.length : Int)) ∧ s'.tm.get 13 = some (.int .i64 (i : Int))) ?_ xs.length _
    ⟨rfl, 0, [], by omega, rfl, .nil _, by simp [dv], k1, o1, by simp, by simp, by simp, by simp, by simp, by simp⟩
  rintro m ⟨k, tm, H2⟩ ⟨hk, i, L, hmi, hL, dL, hv, kH, own, t0, t1, t5, t11, t12, t13⟩ Q' hQ'
  simp only at hk t0 t1 t5 t11 t12 t13 kH own
  subst hk
  apply W_seq; intro b3 hb3
  apply W_region
  simp [t12, t13]
  show W _ _ b3 _ _; subst hb3
  apply W_seq; intro b3 hb3
  by_cases hi : i < xs.length
  · refine W_cond (t := true) (by simp [hi]) ?_
    apply W_skip
    show W _ _ b3 _ _; subst hb3
    have s2 := hs.keep kH
    have a1 := s2.adr ltNat (k := .i64) hi
    have d1 := s2.load hi
    have hx : xs[i] < B64 := dx.get (List.getElem?_eq_getElem hi)
    obtain ⟨m', rfl⟩ : ∃ m', m = m' + 1 := ⟨m - 1, by omega⟩
    have own' : Own H.n H2 c0 (L ++ 0 :: List.replicate m' 0) := by rw [List.replicate_succ] at own; exact own
    have a2 := own'.sl.adr ltNat (k := .i64) (i := i) (by simp; omega)
    have hq : xs[i] / 2 ^ s < 2 ^ (64 - s) := by
      rw [Nat.div_lt_iff_lt_mul (Nat.two_pow_pos _), ← Nat.pow_add, show 64 - s + s = 64 by omega]
      exact hx
    have hqB : xs[i] / 2 ^ s < B64 := Nat.lt_of_lt_of_le hq (by show _ ≤ 2 ^ 64; exact Nat.pow_le_pow_right (by decide) (by omega))
    obtain ⟨H3, st1, own3, n3, kp3⟩ := own'.store (i := i) (by simp; omega) (xs[i] / 2 ^ s)
    rw [set_mid L 0 _ _ hL] at own3
    have kH3 := kp3 H kH (Nat.le_refl _)
    apply W_seq; intro b3 hb3
    have low : nth xs (i + 1) % 2 ^ s < 2 ^ s := Nat.mod_lt _ (Nat.two_pow_pos _)
    have e64 : 2 ^ s * 2 ^ (64 - s) = B64 := by rw [← Nat.pow_add, show s + (64 - s) = 64 by omega]
    have fin : ∀ (tm4 : Tr Value) (H4 : AH), Keep H H4 → Own H.n H4 c0 (L ++ (nth xs (i + 1) % 2 ^ s * 2 ^ (64 - s) + xs[i] / 2 ^ s) :: List.replicate m' 0) → tm4.get 0 = some v → tm4.get 1 = some (.int .u64 (s : Int)) → tm4.get 5 = some c0 → tm4.get 11 = some v →
        tm4.get 12 = some (.int .i64 (xs.length : Int)) → tm4.get 13 = some (.int .i64 (i : Int)) → W Tryz.prog cfg0 b3 ⟨47, tm4, H4⟩ Q' := fun tm4 H4 k4 o4 q0 q1 q5 q11 q12 q13 => by
      subst hb3
      apply W_region
      simp [q13, add1_i64 (x := i) (by omega)]
      apply hQ'
      refine ⟨m', by omega, rfl, i + 1, L ++ [nth xs (i + 1) % 2 ^ s * 2 ^ (64 - s) + xs[i] / 2 ^ s], by omega, by simp [hL], ?_, ?_, k4, by simpa using o4, by simp [q0], by simp [q1], by simp [q5], by simp [q11], by simp [q12], by simp⟩
      · refine dL.append (.cons ?_ (.nil _))
        have : (nth xs (i + 1) % 2 ^ s + 1) * 2 ^ (64 - s) ≤ 2 ^ s * 2 ^ (64 - s) := Nat.mul_le_mul_right _ low
        rw [e64, Nat.succ_mul] at this
        omega
      · rw [dv_append, hL, take_snoc hi, dv_append, List.length_take, Nat.min_eq_left (by omega)]
        simp only [dv, Nat.mul_zero, Nat.add_zero]
        rw [nth_get hi] at hv
        have e1 : 2 ^ s * (xs[i] / 2 ^ s) + xs[i] % 2 ^ s = xs[i] := Nat.div_add_mod _ _
        generalize nth xs (i + 1) % 2 ^ s = u at *
        generalize hr : xs[i] % 2 ^ s = r at *
        generalize hqq : xs[i] / 2 ^ s = q at *
        have e2 : (u * 2 ^ (64 - s) + q) * 2 ^ s = B64 * u + 2 ^ s * q := by rw [Nat.add_mul, Nat.mul_assoc, Nat.mul_comm (2 ^ (64 - s)), e64, Nat.mul_comm u, Nat.mul_comm q]
        have e3 : B64 ^ i * xs[i] = B64 ^ i * (2 ^ s * q) + B64 ^ i * r := by rw [← Nat.mul_add, e1]
        rw [Nat.add_mul, Nat.mul_assoc (B64 ^ i), e2, Nat.mul_add, e3, Nat.pow_succ, Nat.mul_assoc (B64 ^ i) B64 u]
        omega
    apply W_block
    apply W_seq; intro b4 hb4
    apply W_region
    simp [t11, t13, a1, d1]
    show W _ _ b4 _ _; subst hb4
    apply W_seq; intro b4 hb4
    apply W_region
    simp [t1, t5, t13, shr_u64 (x := xs[i]) (s := s) (by omega), a2, st1]
    show W _ _ b4 _ _; subst hb4
    apply W_seq; intro b4 hb4
    apply W_region
    simp [t0, l0, add1_i64 (x := i) (by omega)]
    show W _ _ b4 _ _; subst hb4
    by_cases hi2 : i + 1 < xs.length
    · refine W_cond (t := true) (by simp [hi2]) ?_
      have s3 := hs.keep kH3
      have a4 := s3.adr ltNat (k := .i64) hi2
      have d4 := s3.load hi2
      have a5 := own3.sl.adr ltNat (k := .i64) (i := i) (by simp; omega)
      have d5 := own3.sl.load (i := i) (by simp; omega)
      rw [get_mid L _ _ hL] at d5
      have hx1 : xs[i + 1] < B64 := dx.get (List.getElem?_eq_getElem hi2)
      have n1 : nth xs (i + 1) = xs[i + 1] := nth_get hi2
      have sb : intBin .sub .u64 63 (s : Int) = some (.int .u64 ((63 - s : Nat) : Int)) := sub_u64 (x := 63) (by decide) (by omega)
      have sh1 : shiftBin .shl .u64 (xs[i + 1] : Int) 1 = some (.int .u64 ((xs[i + 1] * 2 % B64 : Nat) : Int)) := shl_u64 (s := 1) (by omega)
      have em : xs[i + 1] * 2 % B64 * 2 ^ (63 - s) % B64 = nth xs (i + 1) % 2 ^ s * 2 ^ (64 - s) := by
        rw [n1, Nat.mod_mul_mod, Nat.mul_assoc, show 2 * 2 ^ (63 - s) = 2 ^ (64 - s) by rw [← Nat.pow_succ', show (63 - s).succ = 64 - s by omega], ← e64, Nat.mul_mod_mul_right]
      have sh2 : shiftBin .shl .u64 ((xs[i + 1] * 2 % B64 : Nat) : Int) ((63 - s : Nat) : Int) = some (.int .u64 ((nth xs (i + 1) % 2 ^ s * 2 ^ (64 - s) : Nat) : Int)) := by
        rw [shl_u64 (by omega), em]
      have hwB : nth xs (i + 1) % 2 ^ s * 2 ^ (64 - s) < B64 := by rw [← em]; exact Nat.mod_lt _ (by decide)
      have hor : xs[i] / 2 ^ s ||| nth xs (i + 1) % 2 ^ s * 2 ^ (64 - s) = nth xs (i + 1) % 2 ^ s * 2 ^ (64 - s) + xs[i] / 2 ^ s := by
        rw [Nat.or_comm, or_add hq]
      obtain ⟨H4, st4, own4, n4, kp4⟩ := own3.store (i := i) (by simp; omega) (nth xs (i + 1) % 2 ^ s * 2 ^ (64 - s) + xs[i] / 2 ^ s)
      rw [set_mid L _ _ _ hL] at own4
      apply W_mem (by kernel_rfl)
      simp [t0, t1, t5, a4, d4, a5, d5, add1_i64 (x := i) (by omega), sb, sh1, sh2, or_u64 hqB hwB, hor, st4]
      exact fin _ _ (kp4 H kH3 (Nat.le_refl _)) own4 (by simp [t0]) (by simp [t1]) (by simp [t5]) (by simp [t11]) (by simp [t12]) (by simp [t13])
    · refine W_cond (t := false) (by simp [hi2]) ?_
      apply W_skip
      have n0 : nth xs (i + 1) = 0 := nth_out (by omega)
      exact fin _ _ kH3 (by rw [n0]; simpa using own3) (by simp [t0]) (by simp [t1]) (by simp [t5]) (by simp [t11]) (by simp [t12]) (by simp [t13])
  · refine W_cond (t := false) (by simp [hi]) ?_
    apply W_exit
    apply hQ'
    left
    refine ⟨rfl, ?_⟩
    obtain rfl : m = 0 := by omega
    have hi' : i = xs.length := by omega
    obtain ⟨v5, H5, hc5, k5, o5⟩ := norm_spec own.sl (by simp; omega)
    show W _ _ b1 _ _; subst hb1
    apply W_seq; intro b4 hb4
    apply W_region
    simp [t5, hc5]
    show W _ _ b4 _ _; subst hb4
    apply W_ret
    simp
    refine ⟨kH.trans k5, ?_⟩
    have e : dv B64 xs / 2 ^ s = dv B64 L := by
      rw [hi', nth_out (Nat.le_refl _), List.take_length, Nat.zero_mod, Nat.mul_zero, Nat.add_zero] at hv
      rw [← hv, Nat.add_comm, Nat.add_mul_div_right _ _ (Nat.two_pow_pos _), Nat.div_eq_of_lt (Nat.mod_lt _ (Nat.two_pow_pos _)), Nat.zero_add]
    rw [e, ← trimL_ds two64 dL]
    have o5' : Own H2.n H5 v5 (trimL L) := by simpa using o5
    exact o5'.mono kH.n (.refl H5)
end
end Go.Proofs.YtjboehpfojpimaaGreatDoor

/-
  PLAIN LAW: a quotient's digit by the highest digits (Knuth): what the trial's test says.
-/
namespace Go.Proofs.YtjboehpfojpimaaGreatDoor
set_option linter.unusedVariables false

theorem est_num {b y1 y0 u d q r : Nat} (hq : q * y1 + r = u) : u * b + d = q * (y1 * b) + (b * r + d) := by
  rw [← hq, Nat.add_mul, Nat.mul_assoc, Nat.mul_comm r b]; omega

/-- The test holds: the digit is less. -/
theorem est_true {b y1 y0 u d q r : Nat} (hq : q * y1 + r = u) (hu : u < y1 * b + y0) (hd : d < b) (ht : b ≤ q ∨ b * r + d < q * y0) : (u * b + d) / (y1 * b + y0) < q := by
  have hy : 0 < y1 * b + y0 := by omega
  rw [Nat.div_lt_iff_lt_mul hy]
  rcases ht with ht | ht
  · have h1 : (u + 1) * b ≤ (y1 * b + y0) * b := Nat.mul_le_mul_right _ hu
    have h2 : b * (y1 * b + y0) ≤ q * (y1 * b + y0) := Nat.mul_le_mul_right _ ht
    rw [Nat.succ_mul] at h1
    rw [Nat.mul_comm b] at h2
    omega
  · rw [est_num (y0 := y0) (d := d) (b := b) hq, Nat.mul_add]
    omega

/-- The test fails: the digit is no less. -/
theorem est_false {b y1 y0 u d q r : Nat} (hq : q * y1 + r = u) (hy : 0 < y1 * b + y0) (ht : q * y0 ≤ b * r + d) : q ≤ (u * b + d) / (y1 * b + y0) := by
  rw [Nat.le_div_iff_mul_le hy, est_num (y0 := y0) (d := d) (b := b) hq, Nat.mul_add]
  omega

/-- The first trial is not below the digit. -/
theorem est_first {b y1 y0 u d : Nat} (h1 : 0 < y1) (hd : d < b) : (u * b + d) / (y1 * b + y0) ≤ u / y1 := by
  have hb : 0 < b := by omega
  have hy : 0 < y1 * b + y0 := by have := Nat.mul_pos h1 hb; omega
  have h2 : (u * b + d) / (y1 * b + y0) ≤ (u * b + d) / (y1 * b) := by
    rw [Nat.le_div_iff_mul_le (Nat.mul_pos h1 hb)]
    have := Nat.div_mul_le_self (u * b + d) (y1 * b + y0)
    rw [Nat.mul_add] at this
    omega
  have h3 : (u * b + d) / (y1 * b) = u / y1 := by
    rw [Nat.mul_comm y1 b, ← Nat.div_div_eq_div_mul, Nat.add_comm, Nat.add_mul_div_right _ _ hb, Nat.div_eq_of_lt hd, Nat.zero_add]
  omega

/-- The first trial is at most b + 1. -/
theorem est_small {b y1 y0 u : Nat} (h1 : b ≤ 2 * y1) (h0 : y0 < b) (hu : u < y1 * b + y0) (hp : 0 < y1) : u / y1 ≤ b + 1 := by
  have : u / y1 < b + 2 := by
    rw [Nat.div_lt_iff_lt_mul hp, Nat.add_mul, Nat.mul_comm b y1]
    omega
  omega

end Go.Proofs.YtjboehpfojpimaaGreatDoor

/-
  bits.Div64.
-/
namespace Go.Proofs.YtjboehpfojpimaaGreatDoor
open Go Ev
set_option linter.unusedVariables false
set_option linter.unusedSimpArgs false
noncomputable section

theorem quo_u64 {x y : Nat} (hx : x < B64) (hy : 0 < y) : intBin .quo .u64 (x : Int) (y : Int) = some (.int .u64 ((x / y : Nat) : Int)) := by
  have hx : x < 18446744073709551616 := hx
  have hle : x / y ≤ x := Nat.div_le_self x y
  have h0 : ¬ ((y : Int) = 0) := by omega
  have e : IntKind.u64.wrap ((x : Int).tdiv (y : Int)) = ((x / y : Nat) : Int) := by
    rw [IntKind.wrap_u64, Int.tdiv_eq_ediv_of_nonneg (by omega), ← Int.natCast_ediv]
    generalize x / y = q at *
    omega
  show (if (y : Int) = 0 then none else some (Value.int .u64 (IntKind.u64.wrap ((x : Int).tdiv (y : Int))))) = _
  rw [if_neg h0, e]

theorem rem_u64 {x y : Nat} (hy : 0 < y) : intBin .rem .u64 (x : Int) (y : Int) = some (.int .u64 ((x % y : Nat) : Int)) := by
  have h0 : ¬ ((y : Int) = 0) := by omega
  have e : (x : Int).tmod (y : Int) = ((x % y : Nat) : Int) := by
    rw [Int.tmod_eq_emod_of_nonneg (by omega), ← Int.natCast_emod]
  show (if (y : Int) = 0 then none else some (Value.int .u64 ((x : Int).tmod (y : Int)))) = _
  rw [if_neg h0, e]

theorem subm_u64 {x y : Nat} (hy : y ≤ B64) : intBin .sub .u64 (x : Int) (y : Int) = some (.int .u64 (((x + B64 - y) % B64 : Nat) : Int)) := by
  have hy : y ≤ 18446744073709551616 := hy
  have e : IntKind.u64.wrap ((x : Int) - (y : Int)) = (((x + 18446744073709551616 - y) % 18446744073709551616 : Nat) : Int) := by rw [IntKind.wrap_u64]; omega
  show some (Value.int .u64 (IntKind.u64.wrap ((x : Int) - (y : Int)))) = _
  rw [e]

/-- A rest, reckoned modulo 2^64. -/
theorem rest_mod {u b d q y : Nat} (hy : y < B64) (hy0 : 0 < y) (hq : q = (u * b + d) / y) : ((u * b % B64 + d) % B64 + B64 - q * y % B64) % B64 = (u * b + d) % y := by
  have e := Nat.div_add_mod (u * b + d) y
  rw [← hq, Nat.mul_comm y q] at e
  have hr : (u * b + d) % y < y := Nat.mod_lt _ hy0
  generalize (u * b + d) % y = r at *
  generalize q * y = p at *
  rw [Nat.mod_add_mod, ← e]
  have hy : y < 18446744073709551616 := hy
  show ((p + r) % 18446744073709551616 + 18446744073709551616 - p % 18446744073709551616) % 18446744073709551616 = r
  omega

abbrev b32 : Nat := 4294967296
theorem geqL {x : Nat} : intBin .geq .u64 (x : Int) 4294967296 = some (.bool (decide (4294967296 ≤ x))) := geq_nat (y := 4294967296)
theorem mulL {x : Nat} : intBin .mul .u64 4294967296 (x : Int) = some (.int .u64 ((4294967296 * x % B64 : Nat) : Int)) := mul_u64 (x := 4294967296)
theorem mulR {x : Nat} : intBin .mul .u64 (x : Int) 4294967296 = some (.int .u64 ((x * 4294967296 % B64 : Nat) : Int)) := mul_u64 (y := 4294967296)
theorem sub1_u64 {x : Nat} (hx : x < B64) (h : 0 < x) : intBin .sub .u64 (x : Int) 1 = some (.int .u64 ((x - 1 : Nat) : Int)) := sub_u64 (y := 1) hx h

/-- One round's arithmetic: the trial, its rest, the number and the divisor. -/
structure Est (y1 y0 u d q r : Nat) : Prop where
  y1lo : 2147483648 ≤ y1
  y1hi : y1 < 4294967296
  y0hi : y0 < 4294967296
  uhi : u < y1 * 4294967296 + y0
  dhi : d < 4294967296
  eq : q * y1 + r = u
  ge : (u * 4294967296 + d) / (y1 * 4294967296 + y0) ≤ q
  rhi : r < 4294967296
  qhi : q ≤ 4294967297

/-- Does the trial's test hold? -/
def estT (y0 d q r : Nat) : Bool := decide (4294967296 ≤ q) || decide (4294967296 * r + d < q * y0)

theorem Est.down {y1 y0 u d q r : Nat} (h : Est y1 y0 u d q r) (ht : estT y0 d q r = true) : 0 < q ∧ (q - 1) * y1 + (r + y1) = u ∧ (u * 4294967296 + d) / (y1 * 4294967296 + y0) ≤ q - 1 ∧ q - 1 ≤ 4294967296 := by
  have ht' : 4294967296 ≤ q ∨ 4294967296 * r + d < q * y0 := by simpa [estT] using ht
  have h1 := est_true h.eq h.uhi h.dhi ht'
  have hq : 0 < q := Nat.lt_of_le_of_lt (Nat.zero_le _) h1
  refine ⟨hq, ?_, Nat.le_sub_one_of_lt h1, by have := h.qhi; omega⟩
  obtain ⟨q', rfl⟩ : ∃ q', q = q' + 1 := ⟨q - 1, by omega⟩
  have := h.eq
  rw [Nat.succ_mul] at this
  rw [Nat.add_sub_cancel]
  omega

theorem Est.stop {y1 y0 u d q r : Nat} (h : Est y1 y0 u d q r) (ht : estT y0 d q r = false) : q = (u * 4294967296 + d) / (y1 * 4294967296 + y0) ∧ q < 4294967296 := by
  have ht' : q < 4294967296 ∧ q * y0 ≤ 4294967296 * r + d := by simpa [estT] using ht
  have := est_false h.eq (by have := h.y1lo; omega) ht'.2
  exact ⟨Nat.le_antisymm this h.ge, ht'.1⟩

/-- The break: the rest has grown over. -/
theorem est_break {y1 y0 u d q r : Nat} (y1lo : 2147483648 ≤ y1) (y0hi : y0 < 4294967296) (uhi : u < y1 * 4294967296 + y0) (dhi : d < 4294967296) (eq : q * y1 + r = u) (ge : (u * 4294967296 + d) / (y1 * 4294967296 + y0) ≤ q) (hr : 4294967296 ≤ r) (hq : q ≤ 4294967296) :
    q = (u * 4294967296 + d) / (y1 * 4294967296 + y0) ∧ q < 4294967296 := by
  have h1 : q * y0 ≤ 4294967296 * r + d := by
    have a : q * y0 ≤ 4294967296 * y0 := Nat.mul_le_mul_right _ hq
    omega
  have h2 := est_false eq (show 0 < y1 * 4294967296 + y0 by omega) h1
  have h3 : q = (u * 4294967296 + d) / (y1 * 4294967296 + y0) := Nat.le_antisymm h2 ge
  refine ⟨h3, ?_⟩
  rw [h3, Nat.div_lt_iff_lt_mul (by omega)]
  have : (u + 1) * 4294967296 ≤ (y1 * 4294967296 + y0) * 4294967296 := Nat.mul_le_mul_right _ uhi
  rw [Nat.succ_mul, Nat.mul_comm (y1 * 4294967296 + y0)] at this
  omega

theorem est_start {y1 y0 u d : Nat} (y1lo : 2147483648 ≤ y1) (y1hi : y1 < 4294967296) (y0hi : y0 < 4294967296) (uhi : u < y1 * 4294967296 + y0) (dhi : d < 4294967296) : Est y1 y0 u d (u / y1) (u % y1) :=
  ⟨y1lo, y1hi, y0hi, uhi, dhi, by rw [Nat.mul_comm]; exact Nat.div_add_mod u y1, est_first (by omega) dhi, Nat.lt_of_lt_of_le (Nat.mod_lt _ (by omega)) (by omega), est_small (by omega) y0hi uhi (by omega)⟩
end
end Go.Proofs.YtjboehpfojpimaaGreatDoor

/-
  bits.Div64: the walk.
-/
namespace Go.Proofs.YtjboehpfojpimaaGreatDoor
open Go Ev
set_option linter.unusedVariables false
set_option linter.unusedSimpArgs false
noncomputable section

theorem eql0 {x : Nat} : intBin .eql .u64 (x : Int) 0 = some (.bool (decide (x = 0))) := eql_nat (y := 0)

theorem conv_int_uint {n : Nat} (h : n < B64) : convV Tryz.prog 3 127 (.int .i64 (n : Int)) = some (.int .u64 (n : Int)) := by
  have h : n < 18446744073709551616 := h
  have e : IntKind.u64.wrap (n : Int) = (n : Int) := by rw [IntKind.wrap_u64]; omega
  unfold convV
  simp only [Tryz.underlying3, Tryz.underlying127, e]

theorem total_div {U N1 N0 b B yn qh u2 ql r3 : Nat} (e1 : yn * qh + u2 = U * b + N1) (e2 : yn * ql + r3 = u2 * b + N0) (hB : B = b * b) : U * B + (N1 * b + N0) = yn * (qh * b + ql) + r3 := by
  subst hB
  have e3 : (yn * qh + u2) * b = (U * b + N1) * b := by rw [e1]
  rw [Nat.add_mul, Nat.add_mul, Nat.mul_assoc, Nat.mul_assoc] at e3
  rw [Nat.mul_add]
  omega

attribute [-simp] Int.natCast_add Int.natCast_mul Int.natCast_ediv Int.natCast_emod Int.natCast_pow
attribute [local simp] strip stripL LW' gW evOp oMove oAssign oPick oBinOp oUnOp oConvert oExtract oIndexAddr oIndex oLoad oStore oSlice oMakeSlice oCall oBuildSlice opd opds optOpd plain plain1 Tr.get_set tmOf builtinV binV isShift sameKind undef resultV resOne packV ltNat ltNum ltLst calleeV parts lss_nat

theorem div64_spec {h l y : Nat} (hh : h < y) (hl : l < B64) (hy : y < B64) {H : AH} :
    CW Tryz.prog cfg0 156 [.int .u64 (h : Int), .int .u64 (l : Int), .int .u64 (y : Int)] H fun v H' => H' = H ∧ v = .tuple #[.int .u64 (((h * B64 + l) / y : Nat) : Int), .int .u64 (((h * B64 + l) % y : Nat) : Int)] := by
  refine CW_intro 135 (by decide) (by decide) Tryz.func156 rfl rfl ?_
  have y0 : 0 < y := by omega
  apply W_seq; intro b1 hb1
  apply W_region
  simp
  show W _ _ b1 _ _; subst hb1
  apply W_seq; intro b1 hb1
  apply W_seq; intro b2 hb2
  apply W_region
  simp [eql0]
  show W _ _ b2 _ _; subst hb2
  refine W_cond (t := false) (by simp; omega) ?_
  apply W_skip
  show W _ _ b1 _ _; subst hb1
  apply W_seq; intro b1 hb1
  apply W_seq; intro b2 hb2
  apply W_region
  simp [leq_nat]
  show W _ _ b2 _ _; subst hb2
  refine W_cond (t := false) (by simp; omega) ?_
  apply W_skip
  show W _ _ b1 _ _; subst hb1
  apply W_seq; intro b1 hb1
  apply W_seq; intro b2 hb2
  apply W_region
  simp [eql0]
  show W _ _ b2 _ _; subst hb2
  by_cases h0 : h = 0
  · subst h0
    refine W_cond (t := true) (by simp) ?_
    apply W_seq; intro b2 hb2
    apply W_loads (by kernel_rfl)
    simp [quo_u64 hl y0, rem_u64 (x := l) y0]
    show W _ _ b2 _ _; subst hb2
    apply W_ret
    simp [seqQ]
  · refine W_cond (t := false) (by simp; omega) ?_
    apply W_skip
    show W _ _ b1 _ _; subst hb1
    obtain ⟨v1, H1, hc1, e1, e2⟩ := lz_spec (H := H) hy
    subst e1; subst e2
    have hbl : blen y ≤ 64 := by
      rcases Nat.lt_or_ge 64 (blen y) with h | h
      · have a := blen_ge (n := y) (by omega)
        have b : 2 ^ 64 ≤ 2 ^ (blen y - 1) := Nat.pow_le_pow_right (by decide) (by omega)
        have hy : y < 18446744073709551616 := hy
        omega
      · exact h
    have hbl0 : 0 < blen y := by unfold blen; rw [if_neg (by omega)]; omega
    obtain ⟨s, hs⟩ : ∃ s, s = 64 - blen y := ⟨_, rfl⟩
    have h64 : s < 64 := by omega
    have es : (64 - (blen y : Int)) = (s : Int) := by omega
    rw [es] at hc1
    have ylt : y < 2 ^ (64 - s) := by have := blen_lt y; rwa [show blen y = 64 - s by omega] at this
    have yge : 2 ^ (63 - s) ≤ y := by have := blen_ge (n := y) (by omega); rwa [show blen y - 1 = 63 - s by omega] at this
    apply W_seq; intro b1 hb1
    apply W_region
    simp [hc1, conv_int_uint (n := s) (Nat.lt_trans h64 (by decide))]
    show W _ _ b1 _ _; subst hb1
    -- the numbers
    have eB : B64 = 2 ^ (64 - s) * 2 ^ s := by rw [← Nat.pow_add, show 64 - s + s = 64 by omega]
    obtain ⟨yn, hyn⟩ : ∃ yn, yn = y * 2 ^ s := ⟨_, rfl⟩
    have ynlt : yn < B64 := by rw [hyn, eB]; exact Nat.mul_lt_mul_of_pos_right ylt (Nat.two_pow_pos s)
    have ynge : 9223372036854775808 ≤ yn := by
      have : 2 ^ (63 - s) * 2 ^ s ≤ y * 2 ^ s := Nat.mul_le_mul_right _ yge
      rw [← Nat.pow_add, show 63 - s + s = 63 by omega, ← hyn] at this
      exact this
    have hlow : l / 2 ^ (64 - s) < 2 ^ s := by
      rw [Nat.div_lt_iff_lt_mul (Nat.two_pow_pos _), ← Nat.pow_add, show s + (64 - s) = 64 by omega]
      exact hl
    obtain ⟨u, hu⟩ : ∃ u, u = h * 2 ^ s + l / 2 ^ (64 - s) := ⟨_, rfl⟩
    have hhs : h * 2 ^ s + 2 ^ s ≤ yn := by rw [hyn, ← Nat.succ_mul]; exact Nat.mul_le_mul_right _ hh
    have ult : u < yn := by omega
    obtain ⟨n, hn⟩ : ∃ n, n = l * 2 ^ s % B64 := ⟨_, rfl⟩
    have nlt : n < B64 := by rw [hn]; exact Nat.mod_lt _ (by decide)
    have total : (h * B64 + l) * 2 ^ s = u * B64 + n := by
      have := limb_shift (x := l) h64
      rw [← hn] at this
      rw [Nat.add_mul, this, hu, Nat.add_mul, Nat.mul_comm B64 (l / _), Nat.mul_assoc h, Nat.mul_comm B64, ← Nat.mul_assoc]
      omega
    obtain ⟨y1, hy1⟩ : ∃ y1, y1 = yn / 4294967296 := ⟨_, rfl⟩
    obtain ⟨w0, hw0⟩ : ∃ w0, w0 = yn % 4294967296 := ⟨_, rfl⟩
    have eyn : yn = y1 * 4294967296 + w0 := by omega
    have ynlt' : yn < 18446744073709551616 := ynlt
    have y1lo : 2147483648 ≤ y1 := by omega
    have y1hi : y1 < 4294967296 := by omega
    have w0hi : w0 < 4294967296 := by omega
    obtain ⟨n1, hn1⟩ : ∃ n1, n1 = n / 4294967296 := ⟨_, rfl⟩
    obtain ⟨n0, hn0⟩ : ∃ n0, n0 = n % 4294967296 := ⟨_, rfl⟩
    have nlt' : n < 18446744073709551616 := nlt
    have en : n = n1 * 4294967296 + n0 := by omega
    have n1hi : n1 < 4294967296 := by omega
    have n0hi : n0 < 4294967296 := by omega
    have ulB : u < B64 := Nat.lt_trans ult ynlt
    have hpos := Nat.two_pow_pos s
    have hhB : h * 2 ^ s < B64 := by omega
    have hlB : l / 2 ^ (64 - s) < B64 := Nat.lt_of_le_of_lt (Nat.div_le_self _ _) hl
    -- the operations
    have f8 : shiftBin .shl .u64 (y : Int) (s : Int) = some (.int .u64 (yn : Int)) := by rw [shl_u64 (by omega), ← hyn, Nat.mod_eq_of_lt ynlt]
    have f9 : shiftBin .shr .u64 (yn : Int) 32 = some (.int .u64 (y1 : Int)) := by rw [shr32, ← hy1]
    have f10 : intBin .and .u64 (yn : Int) 4294967295 = some (.int .u64 (w0 : Int)) := by rw [and32 ynlt, ← hw0]
    have f11a : shiftBin .shl .u64 (h : Int) (s : Int) = some (.int .u64 ((h * 2 ^ s : Nat) : Int)) := by rw [shl_u64 (by omega), Nat.mod_eq_of_lt hhB]
    have f11b : intBin .sub .u64 64 (s : Int) = some (.int .u64 ((64 - s : Nat) : Int)) := sub_u64 (x := 64) (by decide) (by omega)
    have f11c : shiftBin .shr .u64 (l : Int) ((64 - s : Nat) : Int) = some (.int .u64 ((l / 2 ^ (64 - s) : Nat) : Int)) := shr_u64 (by omega)
    have f11d : intBin .or .u64 ((h * 2 ^ s : Nat) : Int) ((l / 2 ^ (64 - s) : Nat) : Int) = some (.int .u64 (u : Int)) := by rw [or_u64 hhB hlB, or_add hlow, ← hu]
    have f12 : shiftBin .shl .u64 (l : Int) (s : Int) = some (.int .u64 (n : Int)) := by rw [shl_u64 (by omega), ← hn]
    have f13 : shiftBin .shr .u64 (n : Int) 32 = some (.int .u64 (n1 : Int)) := by rw [shr32, ← hn1]
    have f14 : intBin .and .u64 (n : Int) 4294967295 = some (.int .u64 (n0 : Int)) := by rw [and32 nlt, ← hn0]
    have f15 : intBin .quo .u64 (u : Int) (y1 : Int) = some (.int .u64 ((u / y1 : Nat) : Int)) := quo_u64 ulB (by omega)
    have f16 : ∀ z : Nat, z < B64 → (intBin .mul .u64 ((z / y1 : Nat) : Int) (y1 : Int) = some (.int .u64 ((z / y1 * y1 : Nat) : Int)) ∧ intBin .sub .u64 (z : Int) ((z / y1 * y1 : Nat) : Int) = some (.int .u64 ((z % y1 : Nat) : Int))) := fun z hz => by
      have a := Nat.div_mul_le_self z y1
      refine ⟨by rw [mul_u64, Nat.mod_eq_of_lt (Nat.lt_of_le_of_lt a hz)], ?_⟩
      rw [sub_u64 hz a]
      have := Nat.div_add_mod z y1
      rw [Nat.mul_comm] at this
      rw [show z - z / y1 * y1 = z % y1 by omega]
    iterate 9
      apply W_seq; intro b hb
      apply W_region
      simp [f8, f9, f10, f11a, f11b, f11c, f11d, f12, f13, f14, f15, (f16 u ulB).1, (f16 u ulB).2]
      show W _ _ b _ _; subst hb
    refine W_then (fun s' => s'.k = 135 ∧ s'.H = H1 ∧ s'.tm.get 2 = some (.int .u64 (yn : Int)) ∧ s'.tm.get 8 = some (.int .u64 (s : Int)) ∧ s'.tm.get 9 = some (.int .u64 (y1 : Int)) ∧ s'.tm.get 10 = some (.int .u64 (w0 : Int)) ∧
      s'.tm.get 11 = some (.int .u64 (u : Int)) ∧ s'.tm.get 13 = some (.int .u64 (n1 : Int)) ∧ s'.tm.get 14 = some (.int .u64 (n0 : Int)) ∧ ∃ q : Nat, q = (u * 4294967296 + n1) / (y1 * 4294967296 + w0) ∧ q < 4294967296 ∧ s'.tm.get 15 = some (.int .u64 (q : Int))) ?_ ?_
    · apply W_block
      refine W_loopK (fun m s' => s'.k = 135 ∧ s'.H = H1 ∧ s'.tm.get 2 = some (.int .u64 (yn : Int)) ∧ s'.tm.get 8 = some (.int .u64 (s : Int)) ∧ s'.tm.get 9 = some (.int .u64 (y1 : Int)) ∧ s'.tm.get 10 = some (.int .u64 (w0 : Int)) ∧
        s'.tm.get 11 = some (.int .u64 (u : Int)) ∧ s'.tm.get 13 = some (.int .u64 (n1 : Int)) ∧ s'.tm.get 14 = some (.int .u64 (n0 : Int)) ∧ ∃ r : Nat, Est y1 w0 u n1 m r ∧ s'.tm.get 15 = some (.int .u64 (m : Int)) ∧ s'.tm.get 16 = some (.int .u64 (r : Int))) ?_ (u / y1) _
        ⟨rfl, rfl, by simp, by simp, by simp, by simp, by simp, by simp, by simp, _, est_start y1lo y1hi w0hi (by rw [← eyn]; exact ult) n1hi, by simp, by simp⟩
      rintro q ⟨k, tm, H2⟩ ⟨hk, hH, k2, k8, k9, k10, k11, k13, k14, r, E, tq, tr⟩ Q' hQ'
      simp only at hk hH k2 k8 k9 k10 k11 k13 k14 tq tr
      subst hk; subst hH
      have hqB : q < B64 := Nat.lt_of_le_of_lt E.qhi (by decide)
      have hrB := E.rhi
      apply W_seq; intro b3 hb3
      have qle := E.qhi
      have rB : 4294967296 * r < B64 := by show _ < 18446744073709551616; omega
      have mB : (4294967296 * r + n1) % B64 = 4294967296 * r + n1 := Nat.mod_eq_of_lt (by show _ < 18446744073709551616; omega)
      have key : ∀ tm', W Tryz.prog cfg0 b3 ⟨135, tm', H2⟩ Q' → W Tryz.prog cfg0 b3 ⟨135, tm', H2⟩ Q' := fun _ h => h
      have down : estT w0 n1 q r = true → ∀ tm', tm'.get 2 = some (.int .u64 (yn : Int)) → tm'.get 8 = some (.int .u64 (s : Int)) → tm'.get 9 = some (.int .u64 (y1 : Int)) → tm'.get 10 = some (.int .u64 (w0 : Int)) →
        tm'.get 11 = some (.int .u64 (u : Int)) → tm'.get 13 = some (.int .u64 (n1 : Int)) → tm'.get 14 = some (.int .u64 (n0 : Int)) → tm'.get 15 = some (.int .u64 (q : Int)) → tm'.get 16 = some (.int .u64 (r : Int)) → W Tryz.prog cfg0 b3 ⟨135, tm', H2⟩ Q' := fun ht tm' k2 k8 k9 k10 k11 k13 k14 tq tr => by
        obtain ⟨q0, e1, ge1, q1⟩ := E.down ht
        have f1 : intBin .sub .u64 (q : Int) 1 = some (.int .u64 ((q - 1 : Nat) : Int)) := sub1_u64 hqB q0
        have f2 : intBin .add .u64 (r : Int) (y1 : Int) = some (.int .u64 ((r + y1 : Nat) : Int)) := by rw [add_u64, Nat.mod_eq_of_lt (by show _ < 18446744073709551616; omega)]
        subst hb3
        apply W_block
        apply W_seq; intro b4 hb4
        apply W_region
        simp [tq, f1]
        show W _ _ b4 _ _; subst hb4
        apply W_seq; intro b4 hb4
        apply W_region
        simp [tr, k9, f2]
        show W _ _ b4 _ _; subst hb4
        apply W_seq; intro b4 hb4
        apply W_region
        simp [geqL]
        show W _ _ b4 _ _; subst hb4
        by_cases hr : 4294967296 ≤ r + y1
        · refine W_cond (t := true) (by simp [hr]) ?_
          apply W_exit
          right
          refine ⟨by decide, ?_⟩
          apply hQ'
          left
          have := est_break y1lo w0hi E.uhi E.dhi e1 ge1 hr q1
          exact ⟨rfl, rfl, rfl, rfl, by simp [k2], by simp [k8], by simp [k9], by simp [k10], by simp [k11], by simp [k13], by simp [k14], q - 1, this.1, this.2, by simp⟩
        · refine W_cond (t := false) (by simp [hr]) ?_
          apply W_skip
          apply hQ'
          exact ⟨q - 1, by omega, rfl, rfl, by simp [k2], by simp [k8], by simp [k9], by simp [k10], by simp [k11], by simp [k13], by simp [k14], r + y1, ⟨y1lo, y1hi, w0hi, E.uhi, E.dhi, e1, ge1, by omega, by omega⟩, by simp, by simp⟩
      apply W_seq; intro b4 hb4
      apply W_region
      by_cases hq : 4294967296 ≤ q
      · simp [tq, geqL, hq]
        show W _ _ b4 _ _; subst hb4
        refine W_cond (t := true) (by simp) ?_
        apply W_skip
        show W _ _ b3 _ _
        exact down (by simp [estT, hq]) _ (by simp [k2]) (by simp [k8]) (by simp [k9]) (by simp [k10]) (by simp [k11]) (by simp [k13]) (by simp [k14]) (by simp [tq]) (by simp [tr])
      · have hqw : q * w0 < B64 := by
          have a : q * w0 ≤ 4294967295 * w0 := Nat.mul_le_mul_right _ (by omega)
          show _ < 18446744073709551616
          omega
        have g1 : intBin .mul .u64 (q : Int) (w0 : Int) = some (.int .u64 ((q * w0 : Nat) : Int)) := by rw [mul_u64, Nat.mod_eq_of_lt hqw]
        have g2 : intBin .mul .u64 4294967296 (r : Int) = some (.int .u64 ((4294967296 * r : Nat) : Int)) := by rw [mulL, Nat.mod_eq_of_lt rB]
        have g3 : intBin .add .u64 ((4294967296 * r : Nat) : Int) (n1 : Int) = some (.int .u64 ((4294967296 * r + n1 : Nat) : Int)) := by rw [add_u64, mB]
        simp [tq, geqL, hq, tr, k10, k13, g1, g2, g3, gtr_nat]
        show W _ _ b4 _ _; subst hb4
        by_cases ht : 4294967296 * r + n1 < q * w0
        · refine W_cond (t := true) (by simp [ht]) ?_
          apply W_skip
          show W _ _ b3 _ _
          exact down (by simp [estT, ht]) _ (by simp [k2]) (by simp [k8]) (by simp [k9]) (by simp [k10]) (by simp [k11]) (by simp [k13]) (by simp [k14]) (by simp [tq]) (by simp [tr])
        · refine W_cond (t := false) (by simp [ht]) ?_
          apply W_exit
          apply hQ'
          left
          have := E.stop (by simp [estT, ht]; omega)
          exact ⟨rfl, rfl, rfl, rfl, by simp [k2], by simp [k8], by simp [k9], by simp [k10], by simp [k11], by simp [k13], by simp [k14], q, this.1, this.2, by simp [tq]⟩
    rintro ⟨k, tm, H2⟩ ⟨hk, hH, k2, k8, k9, k10, k11, k13, k14, qh, hqh, hqlt, k15⟩
    simp only at hk hH k2 k8 k9 k10 k11 k13 k14 k15
    subst hk; subst hH
    have ynpos : 0 < yn := by omega
    obtain ⟨u2, hu2⟩ : ∃ u2, u2 = (u * 4294967296 + n1) % yn := ⟨_, rfl⟩
    have u2lt : u2 < yn := by rw [hu2]; exact Nat.mod_lt _ ynpos
    have u2B : u2 < B64 := Nat.lt_trans u2lt ynlt
    rw [← eyn] at hqh
    have hrest := rest_mod (u := u) (b := 4294967296) (d := n1) (q := qh) ynlt ynpos hqh
    rw [← hu2] at hrest
    obtain ⟨pa, hpa⟩ : ∃ pa, pa = u * 4294967296 % B64 := ⟨_, rfl⟩
    obtain ⟨pb, hpb⟩ : ∃ pb, pb = (pa + n1) % B64 := ⟨_, rfl⟩
    obtain ⟨pc, hpc⟩ : ∃ pc, pc = qh * yn % B64 := ⟨_, rfl⟩
    rw [← hpa, ← hpb, ← hpc] at hrest
    have g21 : intBin .mul .u64 (u : Int) 4294967296 = some (.int .u64 (pa : Int)) := by rw [mulR, hpa]
    have g21a : intBin .add .u64 (pa : Int) (n1 : Int) = some (.int .u64 (pb : Int)) := by rw [add_u64, hpb]
    have g21b : intBin .mul .u64 (qh : Int) (yn : Int) = some (.int .u64 (pc : Int)) := by rw [mul_u64, hpc]
    have g21c : intBin .sub .u64 (pb : Int) (pc : Int) = some (.int .u64 (u2 : Int)) := by
      rw [subm_u64 (by rw [hpc]; exact Nat.le_of_lt (Nat.mod_lt _ (by decide))), hrest]
    have g22 : intBin .quo .u64 (u2 : Int) (y1 : Int) = some (.int .u64 ((u2 / y1 : Nat) : Int)) := quo_u64 u2B (by omega)
    apply W_seq; intro b hb
    apply W_region
    simp [k11, k13, k15, k2, g21, g21a, g21b, g21c]
    show W _ _ b _ _; subst hb
    apply W_seq; intro b hb
    apply W_region
    simp [k9, g22]
    show W _ _ b _ _; subst hb
    apply W_seq; intro b hb
    apply W_region
    simp [k9, (f16 u2 u2B).1, (f16 u2 u2B).2]
    show W _ _ b _ _; subst hb
    refine W_then (fun s' => s'.k = 135 ∧ s'.H = H2 ∧ s'.tm.get 2 = some (.int .u64 (yn : Int)) ∧ s'.tm.get 8 = some (.int .u64 (s : Int)) ∧ s'.tm.get 9 = some (.int .u64 (y1 : Int)) ∧ s'.tm.get 10 = some (.int .u64 (w0 : Int)) ∧
      s'.tm.get 11 = some (.int .u64 (u : Int)) ∧ s'.tm.get 13 = some (.int .u64 (n1 : Int)) ∧ s'.tm.get 14 = some (.int .u64 (n0 : Int)) ∧ s'.tm.get 15 = some (.int .u64 (qh : Int)) ∧ s'.tm.get 17 = some (.int .u64 (u2 : Int)) ∧ ∃ q : Nat, q = (u2 * 4294967296 + n0) / (y1 * 4294967296 + w0) ∧ q < 4294967296 ∧ s'.tm.get 18 = some (.int .u64 (q : Int))) ?_ ?_
    · apply W_block
      refine W_loopK (fun m s' => s'.k = 135 ∧ s'.H = H2 ∧ s'.tm.get 2 = some (.int .u64 (yn : Int)) ∧ s'.tm.get 8 = some (.int .u64 (s : Int)) ∧ s'.tm.get 9 = some (.int .u64 (y1 : Int)) ∧ s'.tm.get 10 = some (.int .u64 (w0 : Int)) ∧
        s'.tm.get 11 = some (.int .u64 (u : Int)) ∧ s'.tm.get 13 = some (.int .u64 (n1 : Int)) ∧ s'.tm.get 14 = some (.int .u64 (n0 : Int)) ∧ s'.tm.get 15 = some (.int .u64 (qh : Int)) ∧ s'.tm.get 17 = some (.int .u64 (u2 : Int)) ∧ ∃ r : Nat, Est y1 w0 u2 n0 m r ∧ s'.tm.get 18 = some (.int .u64 (m : Int)) ∧ s'.tm.get 16 = some (.int .u64 (r : Int))) ?_ (u2 / y1) _
        ⟨rfl, rfl, by simp [k2], by simp [k8], by simp [k9], by simp [k10], by simp [k11], by simp [k13], by simp [k14], by simp [k15], by simp, _, est_start y1lo y1hi w0hi (by rw [← eyn]; exact u2lt) n0hi, by simp, by simp⟩
      clear k2 k8 k9 k10 k11 k13 k14 k15
      rintro q ⟨k, tm, H3⟩ ⟨hk, hH, k2, k8, k9, k10, k11, k13, k14, k15, k17, r, E, tq, tr⟩ Q' hQ'
      simp only at hk hH k2 k8 k9 k10 k11 k13 k14 k15 k17 tq tr
      subst hk; subst hH
      have hqB : q < B64 := Nat.lt_of_le_of_lt E.qhi (by decide)
      have hrB := E.rhi
      apply W_seq; intro b3 hb3
      have qle := E.qhi
      have rB : 4294967296 * r < B64 := by show _ < 18446744073709551616; omega
      have mB : (4294967296 * r + n0) % B64 = 4294967296 * r + n0 := Nat.mod_eq_of_lt (by show _ < 18446744073709551616; omega)
      have key : ∀ tm', W Tryz.prog cfg0 b3 ⟨135, tm', H3⟩ Q' → W Tryz.prog cfg0 b3 ⟨135, tm', H3⟩ Q' := fun _ h => h
      have down : estT w0 n0 q r = true → ∀ tm', tm'.get 2 = some (.int .u64 (yn : Int)) → tm'.get 8 = some (.int .u64 (s : Int)) → tm'.get 9 = some (.int .u64 (y1 : Int)) → tm'.get 10 = some (.int .u64 (w0 : Int)) →
        tm'.get 11 = some (.int .u64 (u : Int)) → tm'.get 13 = some (.int .u64 (n1 : Int)) → tm'.get 14 = some (.int .u64 (n0 : Int)) → tm'.get 15 = some (.int .u64 (qh : Int)) → tm'.get 17 = some (.int .u64 (u2 : Int)) → tm'.get 18 = some (.int .u64 (q : Int)) → tm'.get 16 = some (.int .u64 (r : Int)) → W Tryz.prog cfg0 b3 ⟨135, tm', H3⟩ Q' := fun ht tm' k2 k8 k9 k10 k11 k13 k14 k15 k17 tq tr => by
        obtain ⟨q0, e1, ge1, q1⟩ := E.down ht
        have f1 : intBin .sub .u64 (q : Int) 1 = some (.int .u64 ((q - 1 : Nat) : Int)) := sub1_u64 hqB q0
        have f2 : intBin .add .u64 (r : Int) (y1 : Int) = some (.int .u64 ((r + y1 : Nat) : Int)) := by rw [add_u64, Nat.mod_eq_of_lt (by show _ < 18446744073709551616; omega)]
        subst hb3
        apply W_block
        apply W_seq; intro b4 hb4
        apply W_region
        simp [tq, f1]
        show W _ _ b4 _ _; subst hb4
        apply W_seq; intro b4 hb4
        apply W_region
        simp [tr, k9, f2]
        show W _ _ b4 _ _; subst hb4
        apply W_seq; intro b4 hb4
        apply W_region
        simp [geqL]
        show W _ _ b4 _ _; subst hb4
        by_cases hr : 4294967296 ≤ r + y1
        · refine W_cond (t := true) (by simp [hr]) ?_
          apply W_exit
          right
          refine ⟨by decide, ?_⟩
          apply hQ'
          left
          have := est_break y1lo w0hi E.uhi E.dhi e1 ge1 hr q1
          exact ⟨rfl, rfl, rfl, rfl, by simp [k2], by simp [k8], by simp [k9], by simp [k10], by simp [k11], by simp [k13], by simp [k14], by simp [k15], by simp [k17], q - 1, this.1, this.2, by simp⟩
        · refine W_cond (t := false) (by simp [hr]) ?_
          apply W_skip
          apply hQ'
          exact ⟨q - 1, by omega, rfl, rfl, by simp [k2], by simp [k8], by simp [k9], by simp [k10], by simp [k11], by simp [k13], by simp [k14], by simp [k15], by simp [k17], r + y1, ⟨y1lo, y1hi, w0hi, E.uhi, E.dhi, e1, ge1, by omega, by omega⟩, by simp, by simp⟩
      apply W_seq; intro b4 hb4
      apply W_region
      by_cases hq : 4294967296 ≤ q
      · simp [tq, geqL, hq]
        show W _ _ b4 _ _; subst hb4
        refine W_cond (t := true) (by simp) ?_
        apply W_skip
        show W _ _ b3 _ _
        exact down (by simp [estT, hq]) _ (by simp [k2]) (by simp [k8]) (by simp [k9]) (by simp [k10]) (by simp [k11]) (by simp [k13]) (by simp [k14]) (by simp [k15]) (by simp [k17]) (by simp [tq]) (by simp [tr])
      · have hqw : q * w0 < B64 := by
          have a : q * w0 ≤ 4294967295 * w0 := Nat.mul_le_mul_right _ (by omega)
          show _ < 18446744073709551616
          omega
        have g1 : intBin .mul .u64 (q : Int) (w0 : Int) = some (.int .u64 ((q * w0 : Nat) : Int)) := by rw [mul_u64, Nat.mod_eq_of_lt hqw]
        have g2 : intBin .mul .u64 4294967296 (r : Int) = some (.int .u64 ((4294967296 * r : Nat) : Int)) := by rw [mulL, Nat.mod_eq_of_lt rB]
        have g3 : intBin .add .u64 ((4294967296 * r : Nat) : Int) (n0 : Int) = some (.int .u64 ((4294967296 * r + n0 : Nat) : Int)) := by rw [add_u64, mB]
        simp [tq, geqL, hq, tr, k10, k14, g1, g2, g3, gtr_nat]
        show W _ _ b4 _ _; subst hb4
        by_cases ht : 4294967296 * r + n0 < q * w0
        · refine W_cond (t := true) (by simp [ht]) ?_
          apply W_skip
          show W _ _ b3 _ _
          exact down (by simp [estT, ht]) _ (by simp [k2]) (by simp [k8]) (by simp [k9]) (by simp [k10]) (by simp [k11]) (by simp [k13]) (by simp [k14]) (by simp [k15]) (by simp [k17]) (by simp [tq]) (by simp [tr])
        · refine W_cond (t := false) (by simp [ht]) ?_
          apply W_exit
          apply hQ'
          left
          have := E.stop (by simp [estT, ht]; omega)
          exact ⟨rfl, rfl, rfl, rfl, by simp [k2], by simp [k8], by simp [k9], by simp [k10], by simp [k11], by simp [k13], by simp [k14], by simp [k15], by simp [k17], q, this.1, this.2, by simp [tq]⟩
    rintro ⟨k, tm, H3⟩ ⟨hk, hH, k2, k8, k9, k10, k11, k13, k14, k15, k17, ql, hql, hqllt, k18⟩
    simp only at hk hH k2 k8 k9 k10 k11 k13 k14 k15 k17 k18
    subst hk; subst hH
    rw [← eyn] at hql
    obtain ⟨r3, hr3⟩ : ∃ r3, r3 = (u2 * 4294967296 + n0) % yn := ⟨_, rfl⟩
    have r3lt : r3 < yn := by rw [hr3]; exact Nat.mod_lt _ ynpos
    have hrest2 := rest_mod (u := u2) (b := 4294967296) (d := n0) (q := ql) ynlt ynpos hql
    obtain ⟨pd, hpd⟩ : ∃ pd, pd = u2 * 4294967296 % B64 := ⟨_, rfl⟩
    obtain ⟨pe, hpe⟩ : ∃ pe, pe = (pd + n0) % B64 := ⟨_, rfl⟩
    obtain ⟨pf, hpf⟩ : ∃ pf, pf = ql * yn % B64 := ⟨_, rfl⟩
    rw [← hr3, ← hpd, ← hpe, ← hpf] at hrest2
    have j1 : intBin .mul .u64 (qh : Int) 4294967296 = some (.int .u64 ((qh * 4294967296 : Nat) : Int)) := by rw [mulR, Nat.mod_eq_of_lt (by show _ < 18446744073709551616; omega)]
    have j2 : intBin .add .u64 ((qh * 4294967296 : Nat) : Int) (ql : Int) = some (.int .u64 ((qh * 4294967296 + ql : Nat) : Int)) := by rw [add_u64, Nat.mod_eq_of_lt (by show _ < 18446744073709551616; omega)]
    have j3 : intBin .mul .u64 (u2 : Int) 4294967296 = some (.int .u64 (pd : Int)) := by rw [mulR, hpd]
    have j4 : intBin .add .u64 (pd : Int) (n0 : Int) = some (.int .u64 (pe : Int)) := by rw [add_u64, hpe]
    have j5 : intBin .mul .u64 (ql : Int) (yn : Int) = some (.int .u64 (pf : Int)) := by rw [mul_u64, hpf]
    have j6 : intBin .sub .u64 (pe : Int) (pf : Int) = some (.int .u64 (r3 : Int)) := by
      rw [subm_u64 (by rw [hpf]; exact Nat.le_of_lt (Nat.mod_lt _ (by decide))), hrest2]
    have j7 : shiftBin .shr .u64 (r3 : Int) (s : Int) = some (.int .u64 ((r3 / 2 ^ s : Nat) : Int)) := shr_u64 (by omega)
    have all : (h * B64 + l) * 2 ^ s = yn * (qh * 4294967296 + ql) + r3 := by
      have e1 := Nat.div_add_mod (u * 4294967296 + n1) yn
      rw [← hqh, ← hu2] at e1
      have e2 := Nat.div_add_mod (u2 * 4294967296 + n0) yn
      rw [← hql, ← hr3] at e2
      rw [total, en]
      exact total_div e1 e2 (by decide)
    have hquo : (h * B64 + l) / y = qh * 4294967296 + ql := by
      rw [← Nat.mul_div_mul_right _ _ (Nat.two_pow_pos s), all, ← hyn, Nat.add_comm, Nat.add_mul_div_left _ _ ynpos, Nat.div_eq_of_lt r3lt, Nat.zero_add]
    have hrem : (h * B64 + l) % y = r3 / 2 ^ s := by
      have : (h * B64 + l) % y * 2 ^ s = r3 := by
        rw [← Nat.mul_mod_mul_right, all, ← hyn, Nat.add_comm, Nat.add_mul_mod_self_left, Nat.mod_eq_of_lt r3lt]
      rw [← this, Nat.mul_div_cancel _ (Nat.two_pow_pos s)]
    rw [hquo, hrem]
    apply W_seq; intro b hb
    apply W_region
    simp [k2, k8, k14, k15, k17, k18, j1, j2, j3, j4, j5, j6, j7]
    show W _ _ b _ _; subst hb
    apply W_ret
    simp
end
end Go.Proofs.YtjboehpfojpimaaGreatDoor

/-
  PLAIN LAW of div.guess (Knuth's D): the trial digit by the highest digits; what the multiplying and the taking away leave.
-/
namespace Go.Proofs.YtjboehpfojpimaaGreatDoor
set_option linter.unusedVariables false

/-- The numbers: V = (y1 B + y0) P + v', U = (u B + d) P + u'. -/
structure Top (B P V U y1 y0 v' u d u' : Nat) : Prop where
  hV : V = (y1 * B + y0) * P + v'
  hU : U = (u * B + d) * P + u'
  vlt : v' < P
  ult : u' < P
  d_lt : d < B
  y0lt : y0 < B
  y1pos : 0 < y1

section
variable {B P V U y1 y0 v' u d u' q r : Nat}

theorem Top.Ppos (T : Top B P V U y1 y0 v' u d u') : 0 < P := Nat.lt_of_le_of_lt (Nat.zero_le _) T.vlt
theorem Top.Bpos (T : Top B P V U y1 y0 v' u d u') : 0 < B := Nat.lt_of_le_of_lt (Nat.zero_le _) T.d_lt

theorem Top.Vge (T : Top B P V U y1 y0 v' u d u') : B * P ≤ V := by
  rw [T.hV]
  have : B * P ≤ (y1 * B + y0) * P := Nat.mul_le_mul_right _ (by
    have : 1 * B ≤ y1 * B := Nat.mul_le_mul_right _ T.y1pos
    omega)
  omega

theorem Top.Vpos (T : Top B P V U y1 y0 v' u d u') : 0 < V := Nat.lt_of_lt_of_le (Nat.mul_pos T.Bpos T.Ppos) T.Vge

theorem Top.Ult (T : Top B P V U y1 y0 v' u d u') : U < (u * B + d + 1) * P := by
  rw [T.hU, Nat.succ_mul]
  have := T.ult
  omega

/-- The digit is at most what the highest digit alone lets. -/
theorem Top.first (T : Top B P V U y1 y0 v' u d u') : U / V ≤ u / y1 := by
  rw [Nat.le_div_iff_mul_le T.y1pos]
  have h1 : U / V * V ≤ U := Nat.div_mul_le_self U V
  have h2 : U / V * (y1 * B * P) ≤ U / V * V := Nat.mul_le_mul_left _ (by
    rw [T.hV, Nat.add_mul]
    omega)
  have h3 := T.Ult
  have h4 : (u * B + d + 1) * P ≤ ((u + 1) * B) * P := Nat.mul_le_mul_right _ (by
    have := T.d_lt
    rw [Nat.succ_mul]; omega)
  have h5 : (U / V * y1) * (B * P) < (u + 1) * (B * P) := by
    rw [Nat.mul_assoc] at h2 h4
    rw [Nat.mul_assoc]
    omega
  have := Nat.lt_of_mul_lt_mul_right h5
  omega

/-- The highest digit is at most the divisor's, and then the digit is less than the base. -/
theorem Top.high {un un1 : Nat} (T : Top B P V U y1 y0 v' (un * B + un1) d u') (h : U < V * B) : un ≤ y1 := by
  rcases Nat.lt_or_ge y1 un with hlt | hge
  · exfalso
    have h1 : V < (y1 + 1) * B * P := by
      rw [T.hV]
      have a : (y1 * B + y0 + 1) * P ≤ (y1 + 1) * B * P := Nat.mul_le_mul_right _ (by have := T.y0lt; rw [Nat.succ_mul]; omega)
      have b := T.vlt
      rw [Nat.succ_mul] at a
      omega
    have h2 : V * B ≤ ((y1 + 1) * B * P) * B := Nat.mul_le_mul_right _ (Nat.le_of_lt h1)
    have h3 : ((y1 + 1) * B * P) * B ≤ U := by
      rw [T.hU]
      have a : ((y1 + 1) * B) * B ≤ (un * B) * B := Nat.mul_le_mul_right _ (Nat.mul_le_mul_right _ hlt)
      have b : ((y1 + 1) * B) * B * P ≤ ((un * B + un1) * B + d) * P := Nat.mul_le_mul_right _ (by
        rw [Nat.add_mul (un * B) un1 B]; omega)
      rw [Nat.mul_right_comm _ P B]
      omega
    omega
  · exact hge

/-- The test holds: the digit is less. -/
theorem Top.true (T : Top B P V U y1 y0 v' u d u') (hq : q * y1 + r = u) (ht : r * B + d < q * y0) : U / V < q := by
  rw [Nat.div_lt_iff_lt_mul T.Vpos]
  have h1 : q * ((y1 * B + y0) * P) ≤ q * V := Nat.mul_le_mul_left _ (by rw [T.hV]; omega)
  have h2 : (u * B + d + 1) * P ≤ (q * (y1 * B + y0)) * P := Nat.mul_le_mul_right _ (by
    rw [← hq, Nat.add_mul, Nat.mul_add, Nat.mul_assoc]; omega)
  have h3 := T.Ult
  rw [Nat.mul_assoc] at h2
  omega

/-- The test fails: the trial is at most one too great. -/
theorem Top.false (T : Top B P V U y1 y0 v' u d u') (hq : q * y1 + r = u) (hlt : q < B) (ht : q * y0 ≤ r * B + d) : q ≤ U / V + 1 := by
  have h1 : q * V ≤ q * ((y1 * B + y0) * P) + q * P := by
    rw [← Nat.mul_add]
    exact Nat.mul_le_mul_left _ (by rw [T.hV]; have := T.vlt; omega)
  have h2 : (q * (y1 * B + y0)) * P ≤ (u * B + d) * P := Nat.mul_le_mul_right _ (by
    rw [← hq, Nat.add_mul, Nat.mul_add, Nat.mul_assoc]; omega)
  rw [Nat.mul_assoc] at h2
  have h3 : q * P < B * P := Nat.mul_lt_mul_of_pos_right hlt T.Ppos
  have h4 := T.Vge
  have h5 : q * V < U + V := by
    have := T.hU
    omega
  have h6 : q * V < (U / V + 2) * V := by
    have a := Nat.div_add_mod U V
    have b := Nat.mod_lt U T.Vpos
    rw [Nat.mul_comm] at a
    rw [Nat.add_mul, Nat.two_mul]
    omega
  have := Nat.lt_of_mul_lt_mul_right h6
  omega
end

/-- What the taking away leaves. -/
theorem take_away {N U V q R b : Nat} (hV : 0 < V) (hge : U / V ≤ q) (hle : q ≤ U / V + 1) (hU : U < N) (hR : R < N) (hb : b ≤ 1) (e : R + q * V = U + N * b) :
    (b = 0 ∧ q = U / V ∧ R = U % V) ∨ (b = 1 ∧ q = U / V + 1 ∧ R + V = N + U % V) := by
  have a := Nat.div_add_mod U V
  have m := Nat.mod_lt U hV
  rw [Nat.mul_comm] at a
  rcases Nat.lt_or_ge (U / V) q with h | h
  · right
    obtain rfl : q = U / V + 1 := by omega
    rw [Nat.add_mul, Nat.one_mul] at e
    have hb1 : b = 1 := by
      rcases Nat.lt_or_ge b 1 with h0 | h0
      · exfalso
        obtain rfl : b = 0 := by omega
        rw [Nat.mul_zero] at e
        omega
      · omega
    subst hb1
    rw [Nat.mul_one] at e
    exact ⟨rfl, rfl, by omega⟩
  · left
    obtain rfl : q = U / V := by omega
    have hb0 : b = 0 := by
      rcases Nat.lt_or_ge b 1 with h0 | h0
      · omega
      · exfalso
        obtain rfl : b = 1 := by omega
        rw [Nat.mul_one] at e
        omega
    subst hb0
    rw [Nat.mul_zero] at e
    exact ⟨rfl, rfl, by omega⟩

/-- A step of the multiplying and taking away. -/
theorem mul_sub_step {B x y q carry borrow : Nat} (hx : x < B) (hq : q < B) (hc : carry < B) (hy : y < B) (hb : borrow ≤ 1) :
    let p := x * q
    let sum := (p % B + carry) % B
    let carry' := p / B + (p % B + carry) / B
    let y' := (y + B - sum - borrow) % B
    let borrow' := if y < sum + borrow then 1 else 0
    carry' < B ∧ y' < B ∧ y' + x * q + carry + borrow = y + B * (carry' + borrow') := by
  intro p sum carry' y' borrow'
  have hB : 0 < B := by omega
  have hp : p ≤ (B - 1) * (B - 1) := Nat.mul_le_mul (by omega) (by omega)
  have e1 := Nat.div_add_mod p B
  have e2 := Nat.div_add_mod (p % B + carry) B
  have hs : sum < B := Nat.mod_lt _ hB
  have hcy : carry' * B + sum = p + carry := by
    show (p / B + (p % B + carry) / B) * B + (p % B + carry) % B = p + carry
    rw [Nat.add_mul, Nat.mul_comm (p / B), Nat.mul_comm ((p % B + carry) / B)]
    omega
  have hcB : carry' < B := by
    have : (B - 1) * (B - 1) + (B - 1) = (B - 1) * B := by
      obtain ⟨b, rfl⟩ : ∃ b, B = b + 1 := ⟨B - 1, by omega⟩
      rw [Nat.add_sub_cancel, Nat.mul_succ]
    have h3 : carry' * B ≤ (B - 1) * B := by omega
    have := Nat.le_of_mul_le_mul_right h3 hB
    omega
  refine ⟨hcB, Nat.mod_lt _ hB, ?_⟩
  show (y + B - sum - borrow) % B + p + carry + borrow = y + B * (carry' + if y < sum + borrow then 1 else 0)
  have key : (y + B - sum - borrow) % B + sum + borrow = y + B * (if y < sum + borrow then 1 else 0) := by
    by_cases h : y < sum + borrow
    · rw [if_pos h, Nat.mod_eq_of_lt (by omega)]; omega
    · rw [if_neg h]
      have : y + B - sum - borrow = (y - sum - borrow) + B := by omega
      rw [this, Nat.add_mod_right, Nat.mod_eq_of_lt (by omega)]; omega
  rw [Nat.mul_add, Nat.mul_comm B carry']
  omega
end Go.Proofs.YtjboehpfojpimaaGreatDoor

/-
  THE ENGINE, part S: drawn regions of operations that change nothing (loads, slices, calls that only reckon).
-/
namespace Go.Proofs.YtjboehpfojpimaaGreatDoor.Ev
open Go Go.RowKit
set_option linter.unusedVariables false
set_option linter.unusedSimpArgs false
noncomputable section

/-- A heap as a drawn operation sees it. -/
def AH.top (H : AH) : AH := { n := H.n, lw := H.n, t := H.t }

/-- Operations one behind the other, of which none changes the heap. -/
def LR (P : Program) (C : Cfg) (k : Nat) : List SOp → Tr Value → AH → (Tr Value → Prop) → Prop
  | [], tm, _, K => K tm
  | o :: r, tm, H, K => match gW tm o.grd with
    | some true => match evOp P C (callI P C) tm H o.op with
      | some (v, H') => H' = H ∧ match o.dst with
        | none => LR P C k r tm H K
        | some d => d < k ∧ LR P C k r (tm.set d v) H K
      | none => False
    | some false => match o.dst with
      | none => LR P C k r tm H K
      | some d => d < k ∧ LR P C k r (tm.set d undef) H K
    | none => False

section
variable {P : Program} {C : Cfg} {Q : Ex → St → Prop} {ops : Array Oper} {k : Nat}

theorem LR_draw : ∀ (l : List Oper) (i : Nat) (tm : Tr Value) (H : AH) (K : Tr Value → Prop), LR P C k (stripL ops l) tm H.top K → ∃ tm', evDraw P C (callI P C) ops i false [] l ⟨k, tm, H⟩ = some ⟨k, tm', H⟩ ∧ K tm'
  | [], i, tm, H, K, h => ⟨tm, by simp only [evDraw], h⟩
  | o :: r, i, tm, H, K, h => by
    simp only [stripL, LR] at h
    simp only [evDraw]
    rw [gW_eq]
    split at h
    · rename_i hg
      rw [hg]
      split at h
      · rename_i v H1 hop
        obtain ⟨e, h⟩ := h
        subst e
        obtain ⟨tm1, hput, hl⟩ := put_dst (k := k) (H := H) (H1 := H) (K1 := fun tm => LR P C k (stripL ops r) tm H.top K) h
        obtain ⟨tm', h1, h2⟩ := LR_draw r (i + 1) tm1 H K hl
        refine ⟨tm', ?_, h2⟩
        have hd : evDrawOp P C (callI P C) ops i false [] ⟨k, tm, H⟩ o = some (v, H, false) := by
          unfold evDrawOp
          cases hh : heapOp o.op with
          | true =>
            rw [cond_true]
            simp only [hidden, hideT]
            have hop' : evOp P C (callI P C) tm { n := H.n, lw := H.n, t := H.t } o.op = some (v, { n := H.n, lw := H.n, t := H.t }) := hop
            rw [hop']
            have : Nat.ble H.n H.n = true := Nat.ble_eq.mpr (Nat.le_refl _)
            simp only [this, cond_true, Bool.not_false, Bool.and_self, Nat.sub_self, addT]
          | false =>
            rw [cond_false]
            rw [evOp_pure hh hop H]
        simp only [hd, hput, blt_self, cond_false]
        exact h1
      · exact h.elim
    · rename_i hg
      rw [hg]
      obtain ⟨tm1, hput, hl⟩ := put_dst (k := k) (H := H) (H1 := H) (K1 := fun tm => LR P C k (stripL ops r) tm H.top K) h
      obtain ⟨tm', h1, h2⟩ := LR_draw r (i + 1) tm1 H K hl
      refine ⟨tm', ?_, h2⟩
      simp only [hput]
      exact h1
    · exact h.elim

theorem W_reads {id : Nat} {s : St} (hd : (!memOnly ops && regOk ops) = true) (h : LR P C s.k (strip ops) s.tm s.H.top fun tm' => Q .norm ⟨s.k, tm', s.H⟩) : W P C (.region id ops true) s Q := by
  obtain ⟨k, tm, H⟩ := s
  obtain ⟨tm', h1, h2⟩ := LR_draw _ 0 _ _ _ h
  refine ⟨.norm, ⟨k, tm', H⟩, ?_, h2⟩
  rw [evI_eq]
  simp only [evStep]
  rw [callI_eq] at h1
  rw [Bool.and_eq_true] at hd
  have hm : memOnly ops = false := by simpa using hd.1
  have : evRegion P C (evCall P C (lvI P C)) ops true ⟨k, tm, H⟩ = some ⟨k, tm', H⟩ := by
    unfold evRegion evRegionD
    rw [hm, hd.2]
    simp only [Bool.and_false, cond_false, cond_true]
    exact h1
  rw [this]

/-- The heap behind a write of a drawn region. -/
def low (H H2 : AH) : AH := { n := H2.n, lw := min H.lw H2.lw, t := H2.t }

/-- Operations that change nothing, then stores. -/
def LX (P : Program) (C : Cfg) (k : Nat) : List SOp → Tr Value → AH → (Tr Value → AH → Prop) → Prop
  | [], tm, H, K => K tm H
  | o :: r, tm, H, K => match gW tm o.grd with
    | some true => match isStore o.op with
      | true => match evOp P C (callI P C) tm H.top o.op with
        | some (v, H2) => (H2.n = H.n ∧ H2.lw < H.n) ∧ match o.dst with
          | none => LX P C k r tm (low H H2) K
          | some d => d < k ∧ LX P C k r (tm.set d v) (low H H2) K
        | none => False
      | false => match evOp P C (callI P C) tm H.top o.op with
        | some (v, H2) => H2 = H.top ∧ match o.dst with
          | none => LX P C k r tm H K
          | some d => d < k ∧ LX P C k r (tm.set d v) H K
        | none => False
    | some false => match o.dst with
      | none => LX P C k r tm H K
      | some d => d < k ∧ LX P C k r (tm.set d undef) H K
    | none => False

/-- Behind the first store no heap is looked at but by stores. -/
def storesLast : List Oper → Bool
  | [] => true
  | o :: r => cond (isStore o.op) (r.all fun o => isStore o.op || !heapOp o.op) (storesLast r)

def storesAlone (ops : Array Oper) : Bool := (List.range ops.size).all fun i => match ops[i]? with
  | some o => !isStore o.op || alone ops i
  | none => true

theorem LX_draw (hst : ∀ i o, ops[i]? = some o → isStore o.op = true → alone ops i = true) : ∀ (l : List Oper) (i : Nat) (q : Bool) (tm : Tr Value) (H : AH) (K : Tr Value → AH → Prop), (∀ j, l[j]? = ops[i + j]?) →
    (q = true → ∀ o ∈ l, (isStore o.op || !heapOp o.op) = true) → storesLast l = true → LX P C k (stripL ops l) tm H K → ∃ tm' H', evDraw P C (callI P C) ops i q [] l ⟨k, tm, H⟩ = some ⟨k, tm', H'⟩ ∧ K tm' H'
  | [], i, q, tm, H, K, hl, hq, hs, h => ⟨tm, H, by simp only [evDraw], h⟩
  | o :: r, i, q, tm, H, K, hl, hq, hs, h => by
    have h0 : ops[i]? = some o := by simpa using (hl 0).symm
    have hl' : ∀ j, r[j]? = ops[i + 1 + j]? := fun j => by have := hl (j + 1); simpa [Nat.add_assoc, Nat.add_comm 1 j] using this
    have hq' : q = true → ∀ o ∈ r, (isStore o.op || !heapOp o.op) = true := fun e o' h' => hq e o' (List.mem_cons_of_mem _ h')
    simp only [stripL, LX] at h
    simp only [evDraw]
    rw [gW_eq]
    have hs' : storesLast r = true := by
      unfold storesLast at hs
      cases e : isStore o.op with
      | false => rw [e, cond_false] at hs; exact hs
      | true =>
        rw [e, cond_true] at hs
        clear h hl hl' hq hq' h0
        induction r with
        | nil => rfl
        | cons x r ih =>
          rw [List.all_cons, Bool.and_eq_true] at hs
          unfold storesLast
          cases isStore x.op with
          | false => rw [cond_false]; exact ih hs.2
          | true => rw [cond_true]; exact hs.2
    split at h
    · rename_i hg
      rw [hg]
      split at h
      · rename_i hstore
        split at h
        · rename_i v H2 hop
          obtain ⟨⟨e1, e2⟩, h⟩ := h
          obtain ⟨tm1, hput, hlx⟩ := put_dst (k := k) (H := H) (H1 := low H H2) (K1 := fun tm => LX P C k (stripL ops r) tm (low H H2) K) h
          have hall : ∀ o ∈ r, (isStore o.op || !heapOp o.op) = true := by
            unfold storesLast at hs
            rw [hstore, cond_true] at hs
            exact List.all_eq_true.mp hs
          obtain ⟨tm', H', h1, h2⟩ := LX_draw hst r (i + 1) true tm1 (low H H2) K hl' (fun _ => hall) hs' hlx
          refine ⟨tm', H', ?_, h2⟩
          have hh : heapOp o.op = true := by
            revert hstore
            cases o.op <;> simp [isStore, heapOp]
          have hd : evDrawOp P C (callI P C) ops i q [] ⟨k, tm, H⟩ o = some (v, low H H2, true) := by
            unfold evDrawOp
            rw [hh, cond_true]
            simp only [hidden, hideT]
            have hop' : evOp P C (callI P C) tm { n := H.n, lw := H.n, t := H.t } o.op = some (v, H2) := hop
            rw [hop']
            have a1 : Nat.ble H.n H2.n = true := Nat.ble_eq.mpr (by omega)
            have a2 : Nat.ble H.n H2.lw = false := by
              cases hb : Nat.ble H.n H2.lw with
              | false => rfl
              | true => have := Nat.le_of_ble_eq_true hb; omega
            simp only [a1, a2, cond_true, Bool.and_false, cond_false, hst i o h0 hstore, List.isEmpty_nil, Bool.and_self]
            rfl
          have hn : Nat.blt H.n (low H H2).n = false := by
            show Nat.blt H.n H2.n = false
            rw [e1]; exact blt_self _
          simp only [hd, hput, hn, cond_false]
          exact h1
        · exact h.elim
      · rename_i hstore
        split at h
        · rename_i v H2 hop
          obtain ⟨e, h⟩ := h
          subst e
          obtain ⟨tm1, hput, hlx⟩ := put_dst (k := k) (H := H) (H1 := H) (K1 := fun tm => LX P C k (stripL ops r) tm H K) h
          obtain ⟨tm', H', h1, h2⟩ := LX_draw hst r (i + 1) q tm1 H K hl' hq' hs' hlx
          refine ⟨tm', H', ?_, h2⟩
          have hd : evDrawOp P C (callI P C) ops i q [] ⟨k, tm, H⟩ o = some (v, H, q) := by
            unfold evDrawOp
            cases hh : heapOp o.op with
            | true =>
              have hqf : q = false := by
                cases q with
                | false => rfl
                | true => have := hq rfl o (List.mem_cons_self ..); rw [hstore, hh] at this; cases this
              subst hqf
              rw [cond_true]
              simp only [hidden, hideT]
              have hop' : evOp P C (callI P C) tm { n := H.n, lw := H.n, t := H.t } o.op = some (v, { n := H.n, lw := H.n, t := H.t }) := hop
              rw [hop']
              have : Nat.ble H.n H.n = true := Nat.ble_eq.mpr (Nat.le_refl _)
              simp only [this, cond_true, Bool.not_false, Bool.and_self, Nat.sub_self, addT]
            | false =>
              rw [cond_false]
              rw [evOp_pure hh hop H]
          simp only [hd, hput, blt_self, cond_false]
          exact h1
        · exact h.elim
    · rename_i hg
      rw [hg]
      obtain ⟨tm1, hput, hlx⟩ := put_dst (k := k) (H := H) (H1 := H) (K1 := fun tm => LX P C k (stripL ops r) tm H K) h
      obtain ⟨tm', H', h1, h2⟩ := LX_draw hst r (i + 1) q tm1 H K hl' hq' hs' hlx
      refine ⟨tm', H', ?_, h2⟩
      simp only [hput]
      exact h1
    · exact h.elim

theorem W_rws {id : Nat} {s : St} (hd : (!memOnly ops && regOk ops && storesAlone ops && storesLast ops.toList) = true) (h : LX P C s.k (strip ops) s.tm s.H fun tm' H' => Q .norm ⟨s.k, tm', H'⟩) : W P C (.region id ops true) s Q := by
  obtain ⟨k, tm, H⟩ := s
  rw [Bool.and_eq_true, Bool.and_eq_true, Bool.and_eq_true] at hd
  have hst : ∀ i o, ops[i]? = some o → isStore o.op = true → alone ops i = true := fun i o hi hs => by
    have := List.all_eq_true.mp hd.1.2 i (by simpa using lt_of_some hi)
    rw [hi] at this
    simpa [hs] using this
  obtain ⟨tm', H', h1, h2⟩ := LX_draw hst _ 0 false _ _ _ (fun j => by simp) (fun e => by cases e) hd.2 h
  refine ⟨.norm, ⟨k, tm', H'⟩, ?_, h2⟩
  rw [evI_eq]
  simp only [evStep]
  have hm : memOnly ops = false := by simpa using hd.1.1.1
  rw [callI_eq] at h1
  have : evRegion P C (evCall P C (lvI P C)) ops true ⟨k, tm, H⟩ = some ⟨k, tm', H'⟩ := by
    unfold evRegion evRegionD
    rw [hm, hd.1.1.2]
    simp only [Bool.and_false, cond_false, cond_true]
    exact h1
  rw [this]

/-- A halt between two parts; what is to hold is hidden behind a name. -/
theorem W_thenK (R : St → Prop) {a b : Code} {s : St} (h1 : ∀ Q' : Ex → St → Prop, (∀ s', R s' → Q' .norm s') → W P C a s Q') (h2 : ∀ s', R s' → W P C b s' Q) : W P C (.seq a b) s Q :=
  W_then R (h1 _ fun s' h => ⟨rfl, h⟩) h2

/-- Code that goes on, whatever way. -/
theorem W.mono' {c : Code} {s : St} {Q' : Ex → St → Prop} (hQ : ∀ e s, Q e s → Q' e s) (h : W P C c s Q) : W P C c s Q' := h.mono hQ
end

end

end Go.Proofs.YtjboehpfojpimaaGreatDoor.Ev

/-
  LISTS OF LIMBS: which block a slice lies in; lists that stay while another block is written; parts of a list.
-/
namespace Go.Proofs.YtjboehpfojpimaaGreatDoor
open Go Ev
set_option linter.unusedVariables false
set_option linter.unusedSimpArgs false
noncomputable section

/-- A slice's block. -/
def vblk : Value → Option Nat
  | .slice (some ⟨b, _, none⟩) _ _ => some b
  | _ => none

/-- Two slices lie in two blocks. -/
def Apart (v w : Value) : Prop := ∀ b, vblk v = some b → vblk w ≠ some b

/-- The same heap, but for one block. -/
structure But (b : Option Nat) (H H' : AH) : Prop where
  n : H'.n = H.n
  blk : ∀ j, j < H.n → b ≠ some j → H'.blk j = H.blk j

theorem But.refl (b : Option Nat) (H : AH) : But b H H := ⟨rfl, fun _ _ _ => rfl⟩
theorem But.trans {b : Option Nat} {H H1 H2 : AH} (x : But b H H1) (y : But b H1 H2) : But b H H2 := ⟨y.n.trans x.n, fun j hn hj => (y.blk j (by rw [x.n]; exact hn) hj).trans (x.blk j hn hj)⟩

theorem At.but {b : Option Nat} {H H' : AH} {c o : Nat} {xs : List Nat} (h : At H c o xs) (k : But b H H') (hb : b ≠ some c) : At H' c o xs := by
  obtain ⟨h1, cs, h2, h3, h4⟩ := h
  have e := k.blk c h1 hb
  exact ⟨by rw [k.n]; exact h1, cs, by unfold AH.cells; rw [e]; exact h2, by unfold AH.size; rw [e]; exact h3, h4⟩

theorem Sl.but {b : Option Nat} {H H' : AH} {v : Value} {xs : List Nat} (h : Sl H v xs) (k : But b H H') (hb : ∀ c, b = some c → vblk v ≠ some c) : Sl H' v xs := by
  cases h with
  | nil => exact .nil
  | emp b => exact .emp b
  | mk c o cap xs h1 h2 => exact .mk c o cap xs h1 (h2.but k fun e => hb c e rfl)

theorem Own.but {b : Option Nat} {n0 : Nat} {H H' : AH} {v : Value} {xs : List Nat} (h : Own n0 H v xs) (k : But b H H') (hb : ∀ c, b = some c → vblk v ≠ some c) : Own n0 H' v xs := by
  cases h with
  | nil => exact .nil
  | mk c o cap xs cs h1 h2 h3 h4 h5 h6 => exact .mk c o cap xs cs h1 h2 (by rw [k.n]; exact h3) (by rw [k.blk c h3 fun e => hb c e rfl]; exact h4) h5 h6

theorem Own.blk_lo {n0 : Nat} {H : AH} {v : Value} {xs : List Nat} (h : Own n0 H v xs) {b : Nat} (hb : vblk v = some b) : n0 ≤ b ∧ b < H.n := by
  cases h with
  | nil => cases hb
  | mk c o cap xs cs h1 h2 h3 h4 h5 h6 => cases hb; exact ⟨h2, h3⟩

theorem Sl.blk_lt {H : AH} {v : Value} {xs : List Nat} (h : Sl H v xs) {b : Nat} (hb : vblk v = some b) : b < H.n := by
  cases h with
  | nil => cases hb
  | emp _ => cases hb
  | mk c o cap xs h1 h2 => cases hb; exact h2.1

/-- A write: the list changes, and no other block. -/
theorem Own.put {n : Nat} {H : AH} {v : Value} {xs : List Nat} (h : Own n H v xs) {i : Nat} (hi : i < xs.length) (y : Nat) :
    ∃ H', storeV Tryz.prog H 82 (adr v i) (.int .u64 (y : Int)) = some H' ∧ Own n H' v (xs.set i y) ∧ H'.n = H.n ∧ (∀ j, vblk v ≠ some j → H'.blk j = H.blk j) ∧
      ∀ H0, Keep H0 H → H0.n ≤ n → Keep H0 H' := by
  cases h with
  | nil => cases hi
  | mk b o cap xs cs h1 h2 h3 h4 h5 h6 =>
    have hlen : Nat.ble (o + i + 1) cs.length = true := Nat.ble_eq.mpr (by omega)
    have e0 : (Value.int .u64 (y : Int)).cells = #[.int .u64 (y : Int)] := rfl
    have hw : H.write b (o + i) [.int .u64 (y : Int)] = some { n := H.n, lw := min H.lw b, t := H.t.set b (.rw 1 (cs.take (o + i) ++ [.int .u64 (y : Int)] ++ cs.drop (o + i + 1))) } := by
      rw [AH.write_def, h4]
      simp only [List.length_singleton, hlen, Bool.true_and]
      rfl
    refine ⟨{ n := H.n, lw := min H.lw b, t := H.t.set b (.rw 1 (cs.take (o + i) ++ [.int .u64 (y : Int)] ++ cs.drop (o + i + 1))) }, ?_, ?_, rfl, ?_, ?_⟩
    · unfold storeV Go.Proofs.YtjboehpfojpimaaGreatDoor.adr
      simp only [sU64, e0]
      rw [show Nat.beq (#[Value.int .u64 (y : Int)] : Array Value).size 1 = true from rfl, cond_true]
      exact hw
    · have hl : (xs.set i y).length = xs.length := List.length_set
      rw [← hl]
      refine .mk b o cap _ (cs.take (o + i) ++ [.int .u64 (y : Int)] ++ cs.drop (o + i + 1)) (by omega) h2 h3 ?_ ?_ ?_
      · unfold AH.blk; simp only [Tr.get_set, if_true]
      · simp only [List.length_append, List.length_take, List.length_drop, List.length_singleton]; omega
      · intro j x hj
        rw [List.getElem?_set] at hj
        by_cases e : i = j
        · subst e
          rw [if_pos rfl, if_pos hi] at hj
          cases hj
          rw [List.append_assoc, List.getElem?_append_right (by rw [List.length_take]; omega)]
          rw [List.length_take, show o + i - min (o + i) cs.length = 0 by omega]
          rfl
        · rw [if_neg e] at hj
          have := h6 j x hj
          rcases Nat.lt_or_ge (o + j) (o + i) with hlt | hge
          · rw [List.append_assoc, List.getElem?_append_left (by rw [List.length_take]; omega), List.getElem?_take, if_pos hlt]
            exact this
          · rw [List.getElem?_append_right (by simp only [List.length_append, List.length_take, List.length_singleton]; omega), List.getElem?_drop]
            simp only [List.length_append, List.length_take, List.length_singleton]
            rw [show o + i + 1 + (o + j - (min (o + i) cs.length + 1)) = o + j by omega]
            exact this
    · intro j hj
      have : j ≠ b := fun e => hj (by rw [e]; rfl)
      unfold AH.blk
      simp only [Tr.get_set, if_neg this]
    · intro H0 k hn
      refine ⟨k.n, ?_, fun j hj => ?_⟩
      · have := k.lw
        show min H0.lw H0.n ≤ min H.lw b
        omega
      · have : j ≠ b := by omega
        rw [← k.blk j hj]
        unfold AH.blk
        simp only [Tr.get_set, if_neg this]

/-- A slice whose limbs are another's, from a place on. -/
def View (w v : Value) (j m : Nat) : Prop := ∀ (t : TypeId), LT t → ∀ (k : IntKind) (i : Nat), i < m → indexAddrV Tryz.prog t w (.int k (i : Int)) = some (adr v (j + i))

/-- 'v[j:j+m]' of a list. -/
theorem Sl.part {H : AH} {v : Value} {xs : List Nat} (h : Sl H v xs) {t : TypeId} (ht : LT t) {j m : Nat} (hm : j + m ≤ xs.length) (h0 : 0 < m) :
    ∃ w, sliceV Tryz.prog H t v (some (.int .i64 (j : Int))) (some (.int .i64 ((j + m : Nat) : Int))) none = some w ∧ Sl H w ((xs.drop j).take m) ∧ View w v j m ∧ vblk w = vblk v := by
  cases h with
  | nil => simp at hm; omega
  | emp b => simp at hm; omega
  | mk b o cap xs h1 h2 =>
    have hl : ((xs.drop j).take m).length = m := by rw [List.length_take, List.length_drop]; omega
    obtain ⟨h2a, cs, h3, h4, h5⟩ := h2
    refine ⟨.slice (some ⟨b, o + j, none⟩) ((xs.drop j).take m).length (cap - j), ?_, .mk b (o + j) (cap - j) _ (by omega) ⟨h2a, cs, h3, h4, fun i x hx => ?_, by have := (List.getElem?_eq_some_iff.mp (h5.1 j _ (List.getElem?_eq_getElem (show j < xs.length by omega)))).1; omega⟩, ?_, rfl⟩
    · unfold sliceV
      simp only [ht.1, sU64]
      unfold cutV boundV
      simp only [h4, Option.isSome_some, Option.isNone_none, Bool.true_or]
      rw [if_pos (by omega)]
      have e1 : Nat.ble (j + m) cap = true := Nat.ble_eq.mpr (by omega)
      have e2 : Nat.blt j cap = true := by rw [Nat.blt_eq]; omega
      simp only [boundV, Int.toNat_natCast]
      rw [if_pos (by omega)]
      simp [e1, e2, hl]
    · rw [List.getElem?_take] at hx
      split at hx
      · rw [List.getElem?_drop] at hx
        have := h5.1 (j + i) x hx
        rwa [← Nat.add_assoc] at this
      · cases hx
    · intro t ht k i hi
      unfold indexAddrV Go.Proofs.YtjboehpfojpimaaGreatDoor.adr
      simp only [ht.1, sU64]
      rw [if_pos (by omega)]
      simp [Nat.add_assoc]
end
end Go.Proofs.YtjboehpfojpimaaGreatDoor

/-
  div.guess: the walk.
-/
namespace Go.Proofs.YtjboehpfojpimaaGreatDoor
open Go Ev
set_option linter.unusedVariables false
set_option linter.unusedSimpArgs false
noncomputable section

/-- What lay there before stays. -/
def KA (n0 : Nat) (H H1 : AH) : Prop := ∀ H0, Keep H0 H → H0.n ≤ n0 → Keep H0 H1
theorem KA.refl (n0 : Nat) (H : AH) : KA n0 H H := fun _ k _ => k
theorem KA.trans {n0 : Nat} {H H1 H2 : AH} (a : KA n0 H H1) (b : KA n0 H1 H2) : KA n0 H H2 := fun H0 k h => b H0 (a H0 k h) h

theorem Own.segload {n0 : Nat} {H : AH} {U0 : Value} {pre us post : List Nat} (h : Own n0 H U0 (pre ++ us ++ post)) {j : Nat} (hj : pre.length = j) {i : Nat} (hi : i < us.length) :
    loadV Tryz.prog H 82 (adr U0 (j + i)) = some (.int .u64 (us[i] : Nat)) := by
  subst hj
  have := h.sl.load (i := pre.length + i) (by simp; omega)
  rw [this]
  congr 3
  rw [List.getElem_append_left (by simp; omega), List.getElem_append_right (by omega)]
  simp

theorem Own.segstore {n0 : Nat} {H : AH} {U0 : Value} {pre us post : List Nat} (h : Own n0 H U0 (pre ++ us ++ post)) {j : Nat} (hj : pre.length = j) {i : Nat} (hi : i < us.length) (y : Nat) :
    ∃ H', storeV Tryz.prog H 82 (adr U0 (j + i)) (.int .u64 (y : Int)) = some H' ∧ Own n0 H' U0 (pre ++ us.set i y ++ post) ∧ But (vblk U0) H H' ∧ KA n0 H H' := by
  subst hj
  obtain ⟨H', h1, h2, h3, h4, h5⟩ := h.put (i := pre.length + i) (by simp; omega) y
  refine ⟨H', h1, ?_, ⟨h3, fun j _ => h4 j⟩, h5⟩
  rw [List.set_append_left _ _ (by simp; omega), List.set_append_right _ _ (by omega), Nat.add_sub_cancel_left] at h2
  exact h2

theorem add64_call0 (x y : Nat) (H : AH) : callI Tryz.prog cfg0 99 [.int .u64 (x : Int), .int .u64 (y : Int), .int .u64 0] H =
    some (.tuple #[.int .u64 (((x + y) % B64 : Nat) : Int), .int .u64 (((x + y) / B64 : Nat) : Int)], H) := add64_call x y 0 H (by omega)

theorem mul64_call {x y : Nat} (hx : x < B64) (hy : y < B64) (H : AH) : callI Tryz.prog cfg0 161 [.int .u64 (x : Int), .int .u64 (y : Int)] H =
    some (.tuple #[.int .u64 ((x * y / B64 : Nat) : Int), .int .u64 ((x * y % B64 : Nat) : Int)], H) := by
  obtain ⟨v, H', h, rfl, rfl⟩ := mul64_spec hx hy (H := H)
  exact h

theorem div64_call {h l y : Nat} (hh : h < y) (hl : l < B64) (hy : y < B64) (H : AH) : callI Tryz.prog cfg0 156 [.int .u64 (h : Int), .int .u64 (l : Int), .int .u64 (y : Int)] H =
    some (.tuple #[.int .u64 (((h * B64 + l) / y : Nat) : Int), .int .u64 (((h * B64 + l) % y : Nat) : Int)], H) := by
  obtain ⟨v, H', h, rfl, rfl⟩ := div64_spec hh hl hy (H := H)
  exact h

theorem neq0_u64 {x : Nat} : intBin .neq .u64 (x : Int) 0 = some (.bool (decide (x ≠ 0))) := neq_nat (y := 0)
theorem sub2_i64 {x : Nat} (h : x < 9223372036854775808) (hx : 2 ≤ x) : intBin .sub .i64 (x : Int) 2 = some (.int .i64 ((x - 2 : Nat) : Int)) := sub_i64 (x := x) (y := 2) h hx
theorem add_u64_lt {x y : Nat} (h : x + y < B64) : intBin .add .u64 (x : Int) (y : Int) = some (.int .u64 ((x + y : Nat) : Int)) := by rw [add_u64, Nat.mod_eq_of_lt h]

theorem split_last {xs : List Nat} {n : Nat} (h : xs.length = n + 1) : xs = xs.take n ++ [xs[n]'(by omega)] := by
  have := List.take_append_getElem (l := xs) (i := n) (by omega)
  rw [this, ← h, List.take_length]

/-- The highest digits. -/
theorem top_of {us vs : List Nat} {n : Nat} (hu : us.length = n + 1) (hv : vs.length = n) (h2 : 2 ≤ n) (du : Dig B64 us) (dv' : Dig B64 vs) (hp : 0 < vs[n - 1]'(by omega)) :
    Top B64 (B64 ^ (n - 2)) (dv B64 vs) (dv B64 us) (vs[n - 1]'(by omega)) (vs[n - 2]'(by omega)) (dv B64 (vs.take (n - 2))) ((us[n]'(by omega)) * B64 + us[n - 1]'(by omega)) (us[n - 2]'(by omega)) (dv B64 (us.take (n - 2))) := by
  obtain ⟨m, rfl⟩ : ∃ m, n = m + 2 := ⟨n - 2, by omega⟩
  simp only [Nat.add_sub_cancel, show m + 2 - 1 = m + 1 by omega] at hp ⊢
  have e1 : vs = vs.take m ++ [vs[m]'(by omega), vs[m + 1]'(by omega)] := by
    have a := split_last (n := m + 1) hv
    have b := take_snoc (xs := vs) (i := m) (by omega)
    rw [b, List.append_assoc] at a
    exact a
  have e2 : us = us.take m ++ [us[m]'(by omega), us[m + 1]'(by omega), us[m + 2]'(by omega)] := by
    have a := split_last (n := m + 2) hu
    have b := take_snoc (xs := us) (i := m + 1) (by omega)
    have c := take_snoc (xs := us) (i := m) (by omega)
    rw [b, c, List.append_assoc, List.append_assoc] at a
    exact a
  have l1 : (vs.take m).length = m := by rw [List.length_take]; omega
  have l2 : (us.take m).length = m := by rw [List.length_take]; omega
  refine ⟨?_, ?_, ?_, ?_, du.get (List.getElem?_eq_getElem (by omega)), dv'.get (List.getElem?_eq_getElem (by omega)), hp⟩
  · have := congrArg (dv B64) e1
    rw [this, dv_append, l1]
    simp only [dv, Nat.mul_zero, Nat.add_zero]
    rw [Nat.add_comm, Nat.mul_comm (B64 ^ m), Nat.mul_comm B64, Nat.add_comm (vs[m])]
  · have := congrArg (dv B64) e2
    rw [this, dv_append, l2]
    simp only [dv, Nat.mul_zero, Nat.add_zero]
    rw [Nat.add_comm, Nat.mul_comm (B64 ^ m), Nat.mul_comm B64 (us[m + 1] + _), Nat.add_comm (us[m + 1]), Nat.mul_comm B64 us[m + 2], Nat.add_comm (us[m])]
  · have := dv_lt (dv'.take m)
    rwa [l1] at this
  · have := dv_lt (du.take m)
    rwa [l2] at this
end
end Go.Proofs.YtjboehpfojpimaaGreatDoor

/-
  THE ORACLE: nat.trim, nat.Length, nat.Compare, bits.Len64, bits.Mul64, bits.Div64, by their specifications.
-/
namespace Go.Proofs.YtjboehpfojpimaaGreatDoor
open Go Ev
set_option linter.unusedVariables false
set_option linter.unusedSimpArgs false
noncomputable section

def cutTo : Value → Nat → Value
  | .slice a _ cap, n => .slice a n cap
  | v, _ => v

theorem Sl.cutX {H : AH} {v : Value} {xs : List Nat} (h : Sl H v xs) {t : TypeId} (ht : LT t) {m : Nat} (hm : m ≤ xs.length) (h0 : 0 < xs.length) :
    sliceV Tryz.prog H t v none (some (.int .i64 (m : Int))) none = some (cutTo v m) ∧ Sl H (cutTo v m) (xs.take m) := by
  cases h with
  | nil => cases h0
  | emp b => cases h0
  | mk b o cap xs h1 h2 =>
    have hl : (xs.take m).length = m := by rw [List.length_take]; omega
    obtain ⟨h2a, cs, h3, h4, h5⟩ := h2
    have hk : Sl H (.slice (some ⟨b, o, none⟩) (xs.take m).length cap) (xs.take m) := .mk b o cap _ (by omega) ⟨h2a, cs, h3, h4, fun i x hx => h5.1 i x (by
      rw [List.getElem?_take] at hx
      split at hx
      · exact hx
      · cases hx), h5.2⟩
    rw [hl] at hk
    refine ⟨?_, hk⟩
    unfold sliceV
    simp only [ht.1, sU64]
    unfold cutV boundV
    simp only [h4, Option.isSome_some, Option.isNone_none, Bool.true_or]
    rw [if_pos (by omega)]
    have e1 : Nat.ble m cap = true := Nat.ble_eq.mpr (by omega)
    simp [boundV, e1, cutTo]

theorem cutTo_full {H : AH} {v : Value} {xs : List Nat} (h : Sl H v xs) : cutTo v xs.length = v := by cases h <;> rfl
theorem cutTo_cutTo (v : Value) (n m : Nat) : cutTo (cutTo v n) m = cutTo v m := by cases v <;> rfl

section
attribute [local simp] strip stripL LW' gW evOp oMove oAssign oPick oBinOp oUnOp oConvert oExtract oIndexAddr oIndex oLoad oStore oSlice oMakeSlice oCall opd opds optOpd plain plain1 Tr.get_set tmOf builtinV binV isShift sameKind intBin undef resultV resOne packV ltNat ltNum ltLst

theorem trim_exact {v : Value} {xs : List Nat} {H : AH} (hs : Sl H v xs) (hlen : xs.length < 1152921504606846976) :
    CW Tryz.prog cfg0 81 [v] H fun v' H' => H' = H ∧ v' = cutTo v (trimL xs).length := by
  refine CW_intro 21 (by decide) (by decide) Tryz.func81 rfl rfl ?_
  apply W_seq; intro b1 hb1
  apply W_region
  simp
  show W _ _ b1 _ _; subst hb1
  apply W_seq; intro b1 hb1
  apply W_block
  refine W_loop (fun n s => s.k = 21 ∧ s.H = H ∧ ∃ v', s.tm.get 0 = some v' ∧ n ≤ xs.length ∧ v' = cutTo v n ∧ Sl H v' (xs.take n) ∧ trimL (xs.take n) = trimL xs) ?_ xs.length _ ⟨rfl, rfl, v, by simp, Nat.le_refl _, (cutTo_full hs).symm, by rw [List.take_length]; exact hs, by rw [List.take_length]⟩
  rintro n ⟨k, tm, H'⟩ ⟨h2, h3, v', h4, h5, hcut, h6, h7⟩
  simp only at h2 h3 h4
  subst h2; subst h3
  have hl : (xs.take n).length = n := by rw [List.length_take]; omega
  have hlenv := h6.len ltNat
  rw [hl] at hlenv
  apply W_seq; intro b2 hb2
  apply W_seq; intro b3 hb3
  apply W_region
  by_cases hz : n = 0
  · subst hz
    simp [h4, hlenv]
    show W _ _ b3 _ _; subst hb3
    refine W_cond (t := false) (by simp) ?_
    apply W_exit
    left
    refine ⟨rfl, ?_⟩
    show W _ _ b1 _ _; subst hb1
    apply W_seq; intro b4 hb4
    apply W_region
    simp [h4]
    show W _ _ b4 _ _; subst hb4
    apply W_ret
    simp
    rw [← h7, hcut]
    rfl
  · have hn : 0 < n := Nat.pos_of_ne_zero hz
    have hw : IntKind.i64.wrap ((n : Int) - 1) = ((n - 1 : Nat) : Int) := wrap_sub1 hn (by omega)
    have hi : n - 1 < (xs.take n).length := by omega
    have ha := h6.adr ltNat (k := .i64) hi
    have hld := h6.load hi
    simp [h4, hlenv, hn, hw, ha, hld]
    show W _ _ b3 _ _; subst hb3
    have hx : n - 1 < xs.length := by omega
    have htake : xs.take n = xs.take (n - 1) ++ [xs[n - 1]] := by
      have := List.take_append_getElem (l := xs) (i := n - 1) hx
      rw [this, show n - 1 + 1 = n by omega]
    by_cases h0 : xs[n - 1] = 0
    · refine W_cond (t := true) (by simp [h0]) ?_
      apply W_skip
      show W _ _ b2 _ _; subst hb2
      apply W_block
      apply W_region
      obtain ⟨hv2, hs2⟩ := h6.cutX ltNat (m := n - 1) (by omega) (by omega)
      simp [h4, hlenv, hw, hv2]
      refine ⟨n - 1, by omega, rfl, rfl, cutTo v' (n - 1), by simp, by omega, ?_, ?_, ?_⟩
      · rw [hcut, cutTo_cutTo]
      · rw [List.take_take, show min (n - 1) n = n - 1 by omega] at hs2; exact hs2
      · rw [← h7, htake, h0, trimL_snoc0]
    · refine W_cond (t := false) (by simp; exact h0) ?_
      apply W_exit
      left
      refine ⟨rfl, ?_⟩
      show W _ _ b1 _ _; subst hb1
      apply W_seq; intro b4 hb4
      apply W_region
      simp [h4]
      show W _ _ b4 _ _; subst hb4
      apply W_ret
      simp
      rw [← h7, hcut]
      have : trimL (xs.take n) = xs.take n := by rw [htake]; exact trimL_snoc _ _ h0
      rw [this, hl]
end

/-! ### limbs read off the abstract heap -/
def natsV : List Value → Option (List Nat)
  | [] => some []
  | .int .u64 (.ofNat n) :: r => cond (Nat.blt n 18446744073709551616) (match natsV r with
    | some l => some (n :: l)
    | none => none) none
  | _ => none

def limbsOf (H : AH) (v : Value) : Option (List Nat) :=
  match v with
  | .slice none 0 0 => some []
  | .slice (some ⟨b, o, none⟩) len cap => cond (Nat.blt b H.n && Nat.ble len cap && Nat.ble len 1000000000) (match H.size b, H.read b o len with
    | some 1, some l => natsV l
    | _, _ => none) none
  | _ => none

theorem natsV_spec : ∀ (l : List Value) (xs : List Nat), natsV l = some xs → xs.length = l.length ∧ Dig B64 xs ∧ ∀ (i x : Nat), xs[i]? = some x → l[i]? = some (.int .u64 (x : Int))
  | [], xs, h => by
    obtain rfl := Option.some.inj h
    exact ⟨rfl, .nil _, fun i x hx => by simp at hx⟩
  | v :: r, xs, h => by
    unfold natsV at h
    split at h <;> first | (rename_i e; cases e; done) | skip
    · rename_i n r' e
      injection e with e1 e2
      subst e1; subst e2
      cases hb : Nat.blt n 18446744073709551616 with
      | false => rw [hb] at h; cases h
      | true =>
        rw [hb, cond_true] at h
        split at h <;> first | (cases h; done) | skip
        rename_i l hl
        obtain rfl := Option.some.inj h
        obtain ⟨h1, h2, h3⟩ := natsV_spec _ _ hl
        refine ⟨by simp [h1], .cons (by rw [Nat.blt_eq] at hb; exact hb) h2, fun i x hx => ?_⟩
        cases i with
        | zero => simp at hx; subst hx; rfl
        | succ i => simp at hx ⊢; exact h3 i x hx
    · cases h

theorem limbsOf_spec {H : AH} {v : Value} {xs : List Nat} (h : limbsOf H v = some xs) : Sl H v xs ∧ Dig B64 xs ∧ xs.length ≤ 1000000000 := by
  unfold limbsOf at h
  split at h <;> first | (cases h; done) | skip
  · obtain rfl := Option.some.inj h
    exact ⟨.nil, .nil _, by simp⟩
  · rename_i b o len cap
    cases hc : (Nat.blt b H.n && Nat.ble len cap && Nat.ble len 1000000000) with
    | false => rw [hc] at h; cases h
    | true =>
      rw [hc, cond_true] at h
      rw [Bool.and_eq_true, Bool.and_eq_true, Nat.blt_eq] at hc
      have h1 := Nat.le_of_ble_eq_true hc.1.2
      have h2 := Nat.le_of_ble_eq_true hc.2
      split at h <;> first | (cases h; done) | skip
      rename_i l hsz hrd
      obtain ⟨e1, e2, e3⟩ := natsV_spec _ _ h
      rw [AH.read_def] at hrd
      split at hrd <;> first | (cases hrd; done) | skip
      rename_i cs hcs
      cases hb : Nat.ble (o + len) cs.length with
      | false => rw [hb] at hrd; cases hrd
      | true =>
        rw [hb, cond_true] at hrd
        obtain rfl := Option.some.inj hrd
        have hle := Nat.le_of_ble_eq_true hb
        have hl : xs.length = len := by rw [e1, List.length_take, List.length_drop]; omega
        refine ⟨?_, e2, by omega⟩
        subst hl
        refine .mk b o cap xs h1 ⟨hc.1.1, cs, hcs, hsz, fun i x hx => ?_, by omega⟩
        have := e3 i x hx
        rw [List.getElem?_take] at this
        split at this
        · rw [List.getElem?_drop] at this; exact this
        · cases this

/-! ### the oracle -/
def trimO (H : AH) : List Value → Option (Value × AH)
  | [v] => match limbsOf H v with
    | some xs => some (cutTo v (trimL xs).length, H)
    | none => none
  | _ => none
def lengthO (H : AH) : List Value → Option (Value × AH)
  | [v] => match limbsOf H v with
    | some xs => some (.int .i64 (.ofNat (blen (dv B64 xs))), H)
    | none => none
  | _ => none
def compareO (H : AH) : List Value → Option (Value × AH)
  | [v, u] => match limbsOf H v, limbsOf H u with
    | some xs, some ys => some (.int .i64 (cmpN (dv B64 xs) (dv B64 ys)), H)
    | _, _ => none
  | _ => none
def len64O (H : AH) : List Value → Option (Value × AH)
  | [.int .u64 (.ofNat x)] => cond (Nat.blt x 18446744073709551616) (some (.int .i64 (.ofNat (blen x)), H)) none
  | _ => none
def mul64O (H : AH) : List Value → Option (Value × AH)
  | [.int .u64 (.ofNat x), .int .u64 (.ofNat y)] => cond (Nat.blt x 18446744073709551616 && Nat.blt y 18446744073709551616) (some (.tuple #[.int .u64 (.ofNat (x * y / 18446744073709551616)), .int .u64 (.ofNat (x * y % 18446744073709551616))], H)) none
  | _ => none
def div64O (H : AH) : List Value → Option (Value × AH)
  | [.int .u64 (.ofNat h), .int .u64 (.ofNat l), .int .u64 (.ofNat y)] => cond (Nat.blt h y && Nat.blt l 18446744073709551616 && Nat.blt y 18446744073709551616)
      (some (.tuple #[.int .u64 (.ofNat ((h * 18446744073709551616 + l) / y)), .int .u64 (.ofNat ((h * 18446744073709551616 + l) % y))], H)) none
  | _ => none

def orcN (f : FuncId) (args : List Value) (H : AH) : Option (Value × AH) :=
  cond (Nat.beq f 81) (trimO H args)
  (cond (Nat.beq f 49) (lengthO H args)
  (cond (Nat.beq f 73) (compareO H args)
  (cond (Nat.beq f 82) (len64O H args)
  (cond (Nat.beq f 161) (mul64O H args)
  (cond (Nat.beq f 156) (div64O H args) none)))))

theorem orcN_le : CLe orcN (callI Tryz.prog cfg0) := by
  intro f args H r h
  unfold orcN at h
  cases h1 : Nat.beq f 81 with
  | true =>
    rw [h1, cond_true] at h
    obtain rfl := Nat.eq_of_beq_eq_true h1
    unfold trimO at h
    split at h <;> first | (cases h; done) | skip
    split at h <;> first | (cases h; done) | skip
    rename_i v xs hx
    obtain rfl := Option.some.inj h
    obtain ⟨e1, e2, e3⟩ := limbsOf_spec hx
    obtain ⟨_, _, hc, rfl, rfl⟩ := trim_exact e1 (by omega)
    exact hc
  | false =>
  rw [h1, cond_false] at h
  cases h1 : Nat.beq f 49 with
  | true =>
    rw [h1, cond_true] at h
    obtain rfl := Nat.eq_of_beq_eq_true h1
    unfold lengthO at h
    split at h <;> first | (cases h; done) | skip
    split at h <;> first | (cases h; done) | skip
    rename_i v xs hx
    obtain rfl := Option.some.inj h
    obtain ⟨e1, e2, e3⟩ := limbsOf_spec hx
    obtain ⟨_, _, hc, rfl, rfl⟩ := length_spec e1 e2 (by omega)
    exact hc
  | false =>
  rw [h1, cond_false] at h
  cases h1 : Nat.beq f 73 with
  | true =>
    rw [h1, cond_true] at h
    obtain rfl := Nat.eq_of_beq_eq_true h1
    unfold compareO at h
    split at h <;> first | (cases h; done) | skip
    split at h <;> first | (cases h; done) | skip
    rename_i v u xs ys hx hy
    obtain rfl := Option.some.inj h
    obtain ⟨e1, e2, e3⟩ := limbsOf_spec hx
    obtain ⟨f1, f2, f3⟩ := limbsOf_spec hy
    obtain ⟨_, _, hc, rfl, rfl⟩ := compare_spec e1 f1 e2 f2 (by omega) (by omega)
    exact hc
  | false =>
  rw [h1, cond_false] at h
  cases h1 : Nat.beq f 82 with
  | true =>
    rw [h1, cond_true] at h
    obtain rfl := Nat.eq_of_beq_eq_true h1
    unfold len64O at h
    split at h <;> first | (cases h; done) | skip
    rename_i x
    cases hb : Nat.blt x 18446744073709551616 with
    | false => rw [hb] at h; cases h
    | true =>
      rw [hb, cond_true] at h
      obtain rfl := Option.some.inj h
      rw [Nat.blt_eq] at hb
      obtain ⟨_, _, hc, rfl, rfl⟩ := len64_spec (H := H) hb
      exact hc
  | false =>
  rw [h1, cond_false] at h
  cases h1 : Nat.beq f 161 with
  | true =>
    rw [h1, cond_true] at h
    obtain rfl := Nat.eq_of_beq_eq_true h1
    unfold mul64O at h
    split at h <;> first | (cases h; done) | skip
    rename_i x y
    cases hb : (Nat.blt x 18446744073709551616 && Nat.blt y 18446744073709551616) with
    | false => rw [hb] at h; cases h
    | true =>
      rw [hb, cond_true] at h
      obtain rfl := Option.some.inj h
      rw [Bool.and_eq_true, Nat.blt_eq, Nat.blt_eq] at hb
      exact mul64_call hb.1 hb.2 H
  | false =>
  rw [h1, cond_false] at h
  cases h1 : Nat.beq f 156 with
  | true =>
    rw [h1, cond_true] at h
    obtain rfl := Nat.eq_of_beq_eq_true h1
    unfold div64O at h
    split at h <;> first | (cases h; done) | skip
    rename_i x l y
    cases hb : (Nat.blt x y && Nat.blt l 18446744073709551616 && Nat.blt y 18446744073709551616) with
    | false => rw [hb] at h; cases h
    | true =>
      rw [hb, cond_true] at h
      obtain rfl := Option.some.inj h
      rw [Bool.and_eq_true, Bool.and_eq_true, Nat.blt_eq, Nat.blt_eq, Nat.blt_eq] at hb
      exact div64_call hb.1.1 hb.1.2 hb.2 H
  | false => rw [h1] at h; cases h
end
end Go.Proofs.YtjboehpfojpimaaGreatDoor

/-
  Closed runs with the oracle.
-/
namespace Go.Proofs.YtjboehpfojpimaaGreatDoor
open Go Ev
set_option linter.unusedVariables false
noncomputable section

theorem runX_runs {n : Nat} {f : FuncId} {H : AH} (h : saysTrue (runX Tryz.prog cfg0 orcN n f [] H) = true) : ∃ n, saysTrue (run Tryz.prog cfg0 n f [] H) = true := by
  obtain ⟨H', hr⟩ := saysTrue_some h
  obtain ⟨m, hm⟩ := callI_run (runX_callI orcN_le hr)
  exact ⟨m, by rw [hm]; rfl⟩
end
end Go.Proofs.YtjboehpfojpimaaGreatDoor

/-
  THE ORACLE, more: nat.Norm, whole.norm, whole.fits, whole.result, with the heap that they leave, exactly.
-/
namespace Go.Proofs.YtjboehpfojpimaaGreatDoor
open Go Ev
set_option linter.unusedVariables false
set_option linter.unusedSimpArgs false
noncomputable section

def normX (H : AH) : List Nat → Value × AH
  | [] => (.slice none 0 0, H)
  | y :: r => (.slice (some ⟨H.n, 0, none⟩) (r.length + 1) (r.length + 1), H.new 1 ((y :: r).map limb))

theorem copyX {H : AH} {v : Value} {xs : List Nat} (h : Sl H v xs) (hl : xs.length ≤ 17592186044416) {t t2 : TypeId} (ht : LT t) (ht2 : LT t2) :
    appendV Tryz.prog H t t2 (.slice none 0 0) v = some (normX H xs) := by
  by_cases h0 : xs.length = 0
  · obtain rfl : xs = [] := List.length_eq_zero_iff.mp h0
    show _ = some (Value.slice none 0 0, H)
    generalize hn : ([] : List Nat) = ys at h
    cases h with
    | nil => simp [appendV, ht.2, ht2.2]
    | emp b => simp [appendV, ht.2, ht2.2]
    | mk b o cap xs h1 h2 => subst hn; simp [appendV, ht.2, ht2.2]
  · have hx : normX H xs = (.slice (some ⟨H.n, 0, none⟩) xs.length xs.length, H.new 1 (xs.map limb)) := by
      cases xs with
      | nil => exact absurd rfl h0
      | cons y r => rfl
    rw [hx]
    have hc := h.cells (by omega)
    obtain ⟨a, cap, rfl⟩ : ∃ a cap, v = .slice a xs.length cap := by cases h <;> exact ⟨_, _, rfl⟩
    have e1 : Nat.beq xs.length 0 = false := beq_false' h0
    have e2 : Nat.ble (xs.length * 8) 140737488355328 = true := Nat.ble_eq.mpr (by omega)
    have e3 : Nat.ble xs.length 281474976710656 = true := Nat.ble_eq.mpr (by omega)
    simp [appendV, ht.2, ht2.2, e1, e2, e3, hc, zU64, Value.cells]

theorem normX_sl {H : AH} (xs : List Nat) : Sl (normX H xs).2 (normX H xs).1 xs ∧ Keep H (normX H xs).2 ∧ H.n ≤ (normX H xs).2.n ∧ one (normX H xs).1 = true ∧ (∀ b sz cs, b < H.n → H.blk b = .rw sz cs → (normX H xs).2.blk b = .rw sz cs) := by
  cases xs with
  | nil => exact ⟨.nil, .refl H, Nat.le_refl _, rfl, fun b sz cs hb h => h⟩
  | cons y r =>
    have o := Own.new H (y :: r)
    refine ⟨o.sl, .new _ _ _, Nat.le_succ _, rfl, fun b sz cs hb h => ?_⟩
    show (H.new 1 _).blk b = _
    rw [AH.blk_new, if_neg (by omega)]
    exact h

/-- A cell written over, whole. -/
def setB (H : AH) (b : Nat) (ws : List Value) : AH := { n := H.n, lw := min H.lw b, t := H.t.set b (.rw 1 ws) }
theorem setB_blk (H : AH) (b : Nat) (ws : List Value) (j : Nat) : (setB H b ws).blk j = if j = b then .rw 1 ws else H.blk j := by
  unfold setB AH.blk
  simp only [Tr.get_set]
  by_cases h : j = b
  · rw [if_pos h, if_pos h]
  · rw [if_neg h, if_neg h]

theorem aWhole : isAggT Tryz.prog 30 = some true := by kernel_rfl
theorem sWhole : sizeT Tryz.prog 30 = some 2 := by kernel_rfl
theorem zWhole : zeroT Tryz.prog 30 = some (.agg #[.bool false, .slice none 0 0]) := by kernel_rfl
theorem aNatX : isAggT Tryz.prog 28 = some false := by kernel_rfl
theorem aBoolX : isAggT Tryz.prog 4 = some false := by kernel_rfl
theorem faNegX (b o : Nat) : fieldAddrV Tryz.prog 30 (.pointer (some ⟨b, o, none⟩)) 0 = some (.pointer (some ⟨b, o, none⟩)) := by kernel_rfl
theorem faAbsX (b o : Nat) : fieldAddrV Tryz.prog 30 (.pointer (some ⟨b, o, none⟩)) 1 = some (.pointer (some ⟨b, o + 1, none⟩)) := by kernel_rfl

theorem storeX {H : AH} {b : Nat} {p q p' q' : Value} (hb : H.blk b = .rw 1 [p', q']) (h1 : one p = true) (h2 : one q = true) (hc : (Value.agg #[p, q]).cells.toList = [p, q]) :
    storeV Tryz.prog H 30 (.pointer (some ⟨b, 0, none⟩)) (.agg #[p, q]) = some (setB H b [p, q]) := by
  unfold storeV
  have hs : (Value.agg #[p, q]).cells.size = 2 := by have := congrArg List.length hc; simpa using this
  simp only [sWhole, hs, hc]
  rw [show Nat.beq 2 2 = true from rfl, cond_true, AH.write_def, hb]
  simp [h1, h2, setB, show Nat.ble 2 2 = true from rfl]

theorem load2X {H : AH} {b : Nat} {p q : Value} (hb : H.blk b = .rw 1 [p, q]) : loadV Tryz.prog H 30 (.pointer (some ⟨b, 0, none⟩)) = some (.agg #[p, q]) := by
  unfold loadV
  simp only [aWhole, sWhole, AH.read_def, hb]
  simp [AH.cells_rw' hb, show Nat.ble 2 2 = true from rfl]

theorem load0X {H : AH} {b : Nat} {p q : Value} (hb : H.blk b = .rw 1 [p, q]) : loadV Tryz.prog H 4 (.pointer (some ⟨b, 0, none⟩)) = some p := by
  unfold loadV
  simp [aBoolX, AH.cells_rw' hb]
theorem load1X {H : AH} {b : Nat} {p q : Value} (hb : H.blk b = .rw 1 [p, q]) : loadV Tryz.prog H 28 (.pointer (some ⟨b, 0 + 1, none⟩)) = some q := by
  unfold loadV
  simp [aNatX, AH.cells_rw' hb]

attribute [-simp] Int.natCast_add Int.natCast_mul Int.natCast_ediv Int.natCast_emod Int.natCast_pow
attribute [local simp] strip stripL LW' LR gW evOp oMove oAssign oPick oBinOp oUnOp oConvert oExtract oIndexAddr oIndex oLoad oStore oField oFieldAddr oSlice oMakeSlice oBuildSlice oBuild oAlloc oBox oNilCheck oCall opd opds optOpd plain plain1 Tr.get_set tmOf builtinV binV isShift sameKind undef resultV resOne packV ltNat calleeV parts unV DW grdOf heapOp LX isStore
section
variable {H : AH} {u : Value} {xs : List Nat}

theorem normX_call (hs : Sl H u xs) (hlen : xs.length ≤ 17592186044416) : callI Tryz.prog cfg0 95 [u] H = some (normX H (trimL xs)) := by
  suffices h : CW Tryz.prog cfg0 95 [u] H fun v H' => v = (normX H (trimL xs)).1 ∧ H' = (normX H (trimL xs)).2 by
    obtain ⟨v, H', hc, rfl, rfl⟩ := h
    exact hc
  refine CW_intro 6 (by decide) (by decide) Tryz.func95 rfl rfl ?_
  obtain ⟨v1, H1, hc1, e1, hs1⟩ := trim_spec hs (by omega)
  subst e1
  have ha := copyX hs1 (by have := trimL_len xs; omega) ltNat ltNat
  obtain ⟨w, H3, hw⟩ : ∃ w H3, normX H1 (trimL xs) = (w, H3) := ⟨_, _, rfl⟩
  rw [hw] at ha ⊢
  apply W_seq; intro b1 hb1
  apply W_region
  simp
  show W _ _ b1 _ _; subst hb1
  apply W_seq; intro b1 hb1
  apply W_region
  simp [hc1, ha]
  show W _ _ b1 _ _; subst hb1
  apply W_ret
  simp

def signX (neg : Bool) (ys : List Nat) : Bool := neg && decide (0 < ys.length)
def wnormX (H : AH) (neg : Bool) (u : Value) (ys : List Nat) : Value × AH :=
  match normX ((H.new 1 [.bool neg, u]).new 1 [.bool false, .slice none 0 0]) ys with
  | (w, H3) => (w, setB H3 (H.n + 1) [.bool (signX neg ys), w])

theorem cells2 {b : Bool} {v : Value} (h : v.cells = #[v]) : (Value.agg #[.bool b, v]).cells.toList = [.bool b, v] := by
  simp [Value.cells]

theorem Sl.oneX {H : AH} {v : Value} {xs : List Nat} (h : Sl H v xs) : one v = true ∧ v.cells = #[v] := by cases h <;> exact ⟨rfl, rfl⟩

set_option maxRecDepth 20000 in
theorem wnormX_call (neg : Bool) (hs : Sl H u xs) (hlen : xs.length ≤ 17592186044416) :
    callI Tryz.prog cfg0 66 [.agg #[.bool neg, u]] H = some (.agg #[.bool (signX neg (trimL xs)), (wnormX H neg u (trimL xs)).1], (wnormX H neg u (trimL xs)).2) := by
  obtain ⟨o1, o2⟩ := hs.oneX
  have k1 := Keep.new H 1 [.bool neg, u]
  have b1 : (H.new 1 [.bool neg, u]).blk H.n = .rw 1 [.bool neg, u] := by rw [AH.blk_new, if_pos rfl]
  have n1 : (H.new 1 [.bool neg, u]).n = H.n + 1 := rfl
  obtain ⟨H1, hH1⟩ : ∃ H1, H1 = H.new 1 [.bool neg, u] := ⟨_, rfl⟩
  unfold wnormX
  rw [← hH1] at k1 b1 n1 ⊢
  have k2 := Keep.new H1 1 [.bool false, .slice none 0 0]
  have b2 : (H1.new 1 [.bool false, .slice none 0 0]).blk H.n = .rw 1 [.bool neg, u] := by rw [AH.blk_new, if_neg (by omega)]; exact b1
  have b2' : (H1.new 1 [.bool false, .slice none 0 0]).blk (H.n + 1) = .rw 1 [.bool false, .slice none 0 0] := by rw [AH.blk_new, if_pos n1.symm]
  have n2 : (H1.new 1 [.bool false, .slice none 0 0]).n = H.n + 2 := by show H1.n + 1 = _; rw [n1]
  obtain ⟨H2, hH2⟩ : ∃ H2, H2 = H1.new 1 [.bool false, .slice none 0 0] := ⟨_, rfl⟩
  rw [← hH2] at k2 b2 b2' n2 ⊢
  have hc := normX_call ((hs.keep k1).keep k2) hlen
  obtain ⟨s1, s2, s3, s4, s5⟩ := normX_sl (H := H2) (trimL xs)
  obtain ⟨w, H3, hw⟩ : ∃ w H3, normX H2 (trimL xs) = (w, H3) := ⟨_, _, rfl⟩
  rw [hw] at hc s1 s2 s3 s4 s5 ⊢
  simp only at s1 s2 s3 s4 s5 ⊢
  obtain ⟨t1, t2⟩ := s1.oneX
  have b3 := s5 _ _ _ (by omega) b2
  have b3' := s5 _ _ _ (by omega) b2'
  have hl := s1.len ltNat
  have hst := storeX (p := .bool (signX neg (trimL xs))) b3' rfl t1 (cells2 t2)
  have hld : loadV Tryz.prog (setB H3 (H.n + 1) [.bool (signX neg (trimL xs)), w]) 30 (.pointer (some ⟨H.n + 1, 0, none⟩)) = some (.agg #[.bool (signX neg (trimL xs)), w]) := load2X (by rw [setB_blk, if_pos rfl])
  obtain ⟨H4, hH4⟩ : ∃ H4, H4 = setB H3 (H.n + 1) [.bool (signX neg (trimL xs)), w] := ⟨_, rfl⟩
  rw [← hH4] at hst hld ⊢
  obtain ⟨sg, hsg⟩ : ∃ sg, sg = signX neg (trimL xs) := ⟨_, rfl⟩
  rw [← hsg] at hst hld ⊢
  suffices h : CW Tryz.prog cfg0 66 [.agg #[.bool neg, u]] H fun v H' => v = .agg #[.bool sg, w] ∧ H' = H4 by
    obtain ⟨v, H', hc, rfl, rfl⟩ := h
    exact hc
  obtain ⟨m, hm⟩ : ∃ m, m = (trimL xs).length := ⟨_, rfl⟩
  rw [← hm] at hl
  have hsg' : sg = (neg && decide (0 < m)) := by rw [hsg, hm]; rfl
  have hbld : buildV Tryz.prog 30 [(0, .bool sg), (1, w)] = some (.agg #[.bool sg, w]) := by
    obtain ⟨a, l, c, rfl⟩ : ∃ a l c, w = .slice a l c := by generalize trimL xs = ys at s1; cases s1 <;> exact ⟨_, _, _, rfl⟩
    rfl
  refine CW_intro 16 (by decide) (by decide) Tryz.func66 rfl rfl ?_
  apply W_seq; intro b1 hb1
  apply W_region
  simp [Value.cells, zWhole, ← hH1, ← hH2, n1]
  show W _ _ b1 _ _; subst hb1
  apply W_seq; intro b1 hb1
  apply W_region
  simp [faAbsX, load1X b2, hc]
  show W _ _ b1 _ _; subst hb1
  cases neg with
  | false =>
    rw [Bool.false_and] at hsg'
    subst hsg'
    apply W_seq; intro b1 hb1
    apply W_region
    simp [faNegX, load0X b3, hbld, hst]
    show W _ _ b1 _ _; subst hb1
    apply W_ret
    simp
    simp [hld]
  | true =>
    rw [Bool.true_and] at hsg'
    have hg : intBin .gtr .i64 (m : Int) 0 = some (.bool sg) := by rw [hsg']; exact gtr_nat (y := 0)
    apply W_seq; intro b1 hb1
    apply W_region
    simp [faNegX, load0X b3, hl, hg, hbld, hst]
    show W _ _ b1 _ _; subst hb1
    apply W_ret
    simp
    simp [hld]
end
end
end Go.Proofs.YtjboehpfojpimaaGreatDoor

/-
  THE ORACLE, more: whole.fits, whole.result; all of it in one.
-/
namespace Go.Proofs.YtjboehpfojpimaaGreatDoor
open Go Ev
set_option linter.unusedVariables false
set_option linter.unusedSimpArgs false
noncomputable section

attribute [-simp] Int.natCast_add Int.natCast_mul Int.natCast_ediv Int.natCast_emod Int.natCast_pow
attribute [local simp] strip stripL LW' LR gW evOp oMove oAssign oPick oBinOp oUnOp oConvert oExtract oIndexAddr oIndex oLoad oStore oField oFieldAddr oSlice oMakeSlice oBuildSlice oBuild oAlloc oBox oNilCheck oCall opd opds optOpd plain plain1 Tr.get_set tmOf builtinV binV isShift sameKind undef resultV resOne packV ltNat calleeV parts unV DW grdOf heapOp LX isStore
section
variable {H : AH} {u : Value} {xs : List Nat}

theorem normX_shape (H : AH) (ys : List Nat) : ∃ a l c, (normX H ys).1 = .slice a l c := by cases ys <;> exact ⟨_, _, _, rfl⟩

/-- What is kept of the elder blocks. -/
def Rws (n : Nat) (H H' : AH) : Prop := H.n ≤ H'.n ∧ ∀ b sz cs, b < n → H.blk b = .rw sz cs → H'.blk b = .rw sz cs
theorem Rws.trans {n : Nat} {H H' H2 : AH} (a : Rws n H H') (b : Rws n H' H2) : Rws n H H2 := ⟨Nat.le_trans a.1 b.1, fun j sz cs hj h => b.2 j sz cs hj (a.2 j sz cs hj h)⟩
theorem rws_new {n : Nat} (H : AH) (hn : n ≤ H.n) (cs : List Value) : Rws n H (H.new 1 cs) := ⟨Nat.le_succ _, fun j sz cs hj h => by rw [AH.blk_new, if_neg (by omega)]; exact h⟩
theorem rws_set {n b : Nat} (H : AH) (hb : n ≤ b) (ws : List Value) : Rws n H (setB H b ws) := ⟨Nat.le_refl _, fun j sz cs hj h => by rw [setB_blk, if_neg (by omega)]; exact h⟩
theorem rws_norm {n : Nat} (H : AH) (hn : n ≤ H.n) (ys : List Nat) : Rws n H (normX H ys).2 := by
  obtain ⟨_, _, s3, _, s5⟩ := normX_sl (H := H) ys
  exact ⟨s3, fun b sz cs hb h => s5 b sz cs (by omega) h⟩

theorem wnormX_sl (neg : Bool) (ys : List Nat) : (∃ a l c, (wnormX H neg u ys).1 = .slice a l c) ∧ Rws H.n H (wnormX H neg u ys).2 := by
  unfold wnormX
  obtain ⟨a, l, c, hs⟩ := normX_shape ((H.new 1 [.bool neg, u]).new 1 [.bool false, .slice none 0 0]) ys
  have r := rws_norm (n := H.n) ((H.new 1 [.bool neg, u]).new 1 [.bool false, .slice none 0 0]) (by show H.n ≤ H.n + 1 + 1; omega) ys
  obtain ⟨w, H3, hw⟩ : ∃ w H3, normX ((H.new 1 [.bool neg, u]).new 1 [.bool false, .slice none 0 0]) ys = (w, H3) := ⟨_, _, rfl⟩
  rw [hw] at hs r ⊢
  exact ⟨⟨a, l, c, hs⟩, (((rws_new H (Nat.le_refl _) _).trans (rws_new _ (by show H.n ≤ H.n + 1; omega) _)).trans r).trans (rws_set _ (by omega) _)⟩

def fitsX (H : AH) (neg : Bool) (u : Value) (ys : List Nat) : Value × AH :=
  match wnormX ((H.new 1 [.bool neg, u]).new 1 [.bool false, .slice none 0 0]) neg u ys with
  | (w, H3) => (w, setB H3 (H.n + 1) [.bool (signX neg ys), w])

theorem fitsX_sl (neg : Bool) (ys : List Nat) : (∃ a l c, (fitsX H neg u ys).1 = .slice a l c) ∧ Rws H.n H (fitsX H neg u ys).2 := by
  unfold fitsX
  obtain ⟨hs, r⟩ := wnormX_sl (H := (H.new 1 [.bool neg, u]).new 1 [.bool false, .slice none 0 0]) (u := u) neg ys
  have r : Rws H.n _ _ := ⟨r.1, fun b sz cs hb h => r.2 b sz cs (by show b < H.n + 1 + 1; omega) h⟩
  obtain ⟨w, H3, hw⟩ : ∃ w H3, wnormX ((H.new 1 [.bool neg, u]).new 1 [.bool false, .slice none 0 0]) neg u ys = (w, H3) := ⟨_, _, rfl⟩
  rw [hw] at hs r ⊢
  exact ⟨hs, (((rws_new H (Nat.le_refl _) _).trans (rws_new _ (by show H.n ≤ H.n + 1; omega) _)).trans r).trans (rws_set _ (by omega) _)⟩

set_option maxRecDepth 20000 in
theorem fitsX_call (neg : Bool) (hs : Sl H u xs) (dx : Dig B64 xs) (hlen : xs.length ≤ 17592186044416) (hb : blen (dv B64 xs) ≤ 67108864) :
    callI Tryz.prog cfg0 96 [.agg #[.bool neg, u]] H = some (.tuple #[.agg #[.bool (signX neg (trimL xs)), (fitsX H neg u (trimL xs)).1], .int .i64 0], (fitsX H neg u (trimL xs)).2) := by
  obtain ⟨o1, o2⟩ := hs.oneX
  have k1 := Keep.new H 1 [.bool neg, u]
  have q1 : (H.new 1 [.bool neg, u]).blk H.n = .rw 1 [.bool neg, u] := by rw [AH.blk_new, if_pos rfl]
  have n1 : (H.new 1 [.bool neg, u]).n = H.n + 1 := rfl
  obtain ⟨H1, hH1⟩ : ∃ H1, H1 = H.new 1 [.bool neg, u] := ⟨_, rfl⟩
  unfold fitsX
  rw [← hH1] at k1 q1 n1 ⊢
  have k2 := Keep.new H1 1 [.bool false, .slice none 0 0]
  have q2 : (H1.new 1 [.bool false, .slice none 0 0]).blk H.n = .rw 1 [.bool neg, u] := by rw [AH.blk_new, if_neg (by omega)]; exact q1
  have q2' : (H1.new 1 [.bool false, .slice none 0 0]).blk (H.n + 1) = .rw 1 [.bool false, .slice none 0 0] := by rw [AH.blk_new, if_pos n1.symm]
  have n2 : (H1.new 1 [.bool false, .slice none 0 0]).n = H.n + 2 := by show H1.n + 1 = _; rw [n1]
  obtain ⟨H2, hH2⟩ : ∃ H2, H2 = H1.new 1 [.bool false, .slice none 0 0] := ⟨_, rfl⟩
  rw [← hH2] at k2 q2 q2' n2 ⊢
  have hs2 := (hs.keep k1).keep k2
  have hc := wnormX_call neg hs2 hlen
  obtain ⟨v0, H0, hc0, e0, e1⟩ := length_spec hs2 dx hlen
  rw [e0, e1] at hc0
  obtain ⟨s1, s2⟩ := wnormX_sl (H := H2) (u := u) neg (trimL xs)
  obtain ⟨w, H3, hw⟩ : ∃ w H3, wnormX H2 neg u (trimL xs) = (w, H3) := ⟨_, _, rfl⟩
  rw [hw] at hc s1 s2 ⊢
  simp only at s1 s2 hc ⊢
  obtain ⟨a, l, c, rfl⟩ := s1
  have q3' := s2.2 _ _ _ (by omega) q2'
  have hst := storeX (p := .bool (signX neg (trimL xs))) q3' rfl rfl (cells2 (v := .slice a l c) rfl)
  have hld : loadV Tryz.prog (setB H3 (H.n + 1) [.bool (signX neg (trimL xs)), .slice a l c]) 30 (.pointer (some ⟨H.n + 1, 0, none⟩)) = some (.agg #[.bool (signX neg (trimL xs)), .slice a l c]) := load2X (by rw [setB_blk, if_pos rfl])
  obtain ⟨H4, hH4⟩ : ∃ H4, H4 = setB H3 (H.n + 1) [.bool (signX neg (trimL xs)), .slice a l c] := ⟨_, rfl⟩
  rw [← hH4] at hst hld ⊢
  obtain ⟨sg, hsg⟩ : ∃ sg, sg = signX neg (trimL xs) := ⟨_, rfl⟩
  rw [← hsg] at hst hld hc ⊢
  suffices h : CW Tryz.prog cfg0 96 [.agg #[.bool neg, u]] H fun v H' => v = .tuple #[.agg #[.bool sg, .slice a l c], .int .i64 0] ∧ H' = H4 by
    obtain ⟨v, H', hc, rfl, rfl⟩ := h
    exact hc
  obtain ⟨B, hB⟩ : ∃ B, B = blen (dv B64 xs) := ⟨_, rfl⟩
  rw [← hB] at hc0 hb
  have hg : intBin .gtr .i64 (B : Int) 67108864 = some (.bool false) := by
    have h := gtr_nat (k := .i64) (x := B) (y := 67108864)
    rw [decide_eq_false (by omega)] at h
    exact h
  refine CW_intro 11 (by decide) (by decide) Tryz.func96 rfl rfl ?_
  apply W_seq; intro b1 hb1
  apply W_region
  simp [Value.cells, zWhole, ← hH1, ← hH2, n1]
  show W _ _ b1 _ _; subst hb1
  apply W_seq; intro b1 hb1
  apply W_seq; intro b2 hb2
  apply W_region
  simp [faAbsX, load1X q2, hc0, hg]
  show W _ _ b2 _ _; subst hb2
  refine W_cond (t := false) (by simp) ?_
  apply W_skip
  show W _ _ b1 _ _; subst hb1
  apply W_seq; intro b1 hb1
  apply W_region
  simp [load2X q2, hc, hst]
  show W _ _ b1 _ _; subst hb1
  apply W_ret
  simp
  simp [hld]

def resX (H : AH) (neg : Bool) (u : Value) (ys : List Nat) : Value × AH :=
  match fitsX (H.new 1 [.bool false, .slice none 0 0]) neg u ys with
  | (w, H3) => (w, setB H3 H.n [.bool (signX neg ys), w])

set_option maxRecDepth 20000 in
theorem resX_call (neg : Bool) (hs : Sl H u xs) (dx : Dig B64 xs) (hlen : xs.length ≤ 17592186044416) (hb : blen (dv B64 xs) ≤ 67108864) :
    callI Tryz.prog cfg0 68 [.bool neg, u, .int .i64 0] H = some (.tuple #[.agg #[.bool (signX neg (trimL xs)), (resX H neg u (trimL xs)).1], .int .i64 0], (resX H neg u (trimL xs)).2) := by
  have k1 := Keep.new H 1 [.bool false, .slice none 0 0]
  have q1 : (H.new 1 [.bool false, .slice none 0 0]).blk H.n = .rw 1 [.bool false, .slice none 0 0] := by rw [AH.blk_new, if_pos rfl]
  have n1 : (H.new 1 [.bool false, .slice none 0 0]).n = H.n + 1 := rfl
  obtain ⟨H1, hH1⟩ : ∃ H1, H1 = H.new 1 [.bool false, .slice none 0 0] := ⟨_, rfl⟩
  unfold resX
  rw [← hH1] at k1 q1 n1 ⊢
  have hs1 := hs.keep k1
  have hc := fitsX_call neg hs1 dx hlen hb
  obtain ⟨s1, s2⟩ := fitsX_sl (H := H1) (u := u) neg (trimL xs)
  obtain ⟨w, H3, hw⟩ : ∃ w H3, fitsX H1 neg u (trimL xs) = (w, H3) := ⟨_, _, rfl⟩
  rw [hw] at hc s1 s2 ⊢
  simp only at s1 s2 hc ⊢
  obtain ⟨a, l, c, rfl⟩ := s1
  have q3' := s2.2 _ _ _ (by omega) q1
  have hst := storeX (p := .bool (signX neg (trimL xs))) q3' rfl rfl (cells2 (v := .slice a l c) rfl)
  have hld : loadV Tryz.prog (setB H3 H.n [.bool (signX neg (trimL xs)), .slice a l c]) 30 (.pointer (some ⟨H.n, 0, none⟩)) = some (.agg #[.bool (signX neg (trimL xs)), .slice a l c]) := load2X (by rw [setB_blk, if_pos rfl])
  obtain ⟨H4, hH4⟩ : ∃ H4, H4 = setB H3 H.n [.bool (signX neg (trimL xs)), .slice a l c] := ⟨_, rfl⟩
  rw [← hH4] at hst hld ⊢
  obtain ⟨sg, hsg⟩ : ∃ sg, sg = signX neg (trimL xs) := ⟨_, rfl⟩
  rw [← hsg] at hst hld hc ⊢
  suffices h : CW Tryz.prog cfg0 68 [.bool neg, u, .int .i64 0] H fun v H' => v = .tuple #[.agg #[.bool sg, .slice a l c], .int .i64 0] ∧ H' = H4 by
    obtain ⟨v, H', hc, rfl, rfl⟩ := h
    exact hc
  have hbld : buildV Tryz.prog 30 [(0, .bool neg), (1, u)] = some (.agg #[.bool neg, u]) := by
    obtain ⟨a, l, c, rfl⟩ : ∃ a l c, u = .slice a l c := by cases hs <;> exact ⟨_, _, _, rfl⟩
    rfl
  have hne : intBin .neq .i64 0 0 = some (.bool false) := rfl
  refine CW_intro 18 (by decide) (by decide) Tryz.func68 rfl rfl ?_
  apply W_seq; intro b1 hb1
  apply W_region
  simp [Value.cells, zWhole, ← hH1]
  show W _ _ b1 _ _; subst hb1
  apply W_seq; intro b1 hb1
  apply W_seq; intro b2 hb2
  apply W_region
  simp [hne]
  show W _ _ b2 _ _; subst hb2
  refine W_cond (t := false) (by simp) ?_
  apply W_skip
  show W _ _ b1 _ _; subst hb1
  apply W_seq; intro b1 hb1
  apply W_region
  simp [hbld, hc, hst]
  show W _ _ b1 _ _; subst hb1
  apply W_ret
  simp
  simp [hld]
end

/-! ### the oracle -/
def normO (H : AH) : List Value → Option (Value × AH)
  | [v] => match limbsOf H v with
    | some xs => some (normX H (trimL xs))
    | none => none
  | _ => none
def wnormO (H : AH) : List Value → Option (Value × AH)
  | [.agg ⟨[.bool neg, u]⟩] => match limbsOf H u with
    | some xs => match trimL xs with
      | ys => match wnormX H neg u ys with
        | (w, H') => some (.agg #[.bool (signX neg ys), w], H')
    | none => none
  | _ => none
def fitsO (H : AH) : List Value → Option (Value × AH)
  | [.agg ⟨[.bool neg, u]⟩] => match limbsOf H u with
    | some xs => cond (Nat.ble xs.length 1000) (match trimL xs with
      | ys => match fitsX H neg u ys with
        | (w, H') => some (.tuple #[.agg #[.bool (signX neg ys), w], .int .i64 0], H')) none
    | none => none
  | _ => none
def resO (H : AH) : List Value → Option (Value × AH)
  | [.bool neg, u, .int .i64 (.ofNat 0)] => match limbsOf H u with
    | some xs => cond (Nat.ble xs.length 1000) (match trimL xs with
      | ys => match resX H neg u ys with
        | (w, H') => some (.tuple #[.agg #[.bool (signX neg ys), w], .int .i64 0], H')) none
    | none => none
  | _ => none

def orcM (f : FuncId) (args : List Value) (H : AH) : Option (Value × AH) :=
  match orcN f args H with
  | some r => some r
  | none =>
    cond (Nat.beq f 95) (normO H args)
    (cond (Nat.beq f 66) (wnormO H args)
    (cond (Nat.beq f 96) (fitsO H args)
    (cond (Nat.beq f 68) (resO H args) none)))

theorem blen_small {xs : List Nat} (dx : Dig B64 xs) {L : Nat} (lx : xs.length ≤ L) : blen (dv B64 xs) ≤ 64 * L := by
  rcases Nat.eq_zero_or_pos (dv B64 xs) with h0 | h0
  · rw [h0]; exact Nat.zero_le _
  · have h1 := blen_ge (n := dv B64 xs) (by omega)
    have h2 := dv_lt dx
    have h3 : B64 ^ xs.length ≤ B64 ^ L := Nat.pow_le_pow_right (by decide) lx
    have h4 : B64 ^ L = 2 ^ (64 * L) := (Nat.pow_mul 2 64 L).symm
    rw [h4] at h3
    have := (Nat.pow_lt_pow_iff_right (a := 2) (by decide)).mp (Nat.lt_of_le_of_lt h1 (Nat.lt_of_lt_of_le h2 h3))
    omega

theorem blen_1000 {xs : List Nat} (dx : Dig B64 xs) (h : xs.length ≤ 1000) : blen (dv B64 xs) ≤ 67108864 := by
  have := blen_small dx h
  omega

theorem orcM_le : CLe orcM (callI Tryz.prog cfg0) := by
  intro f args H r h
  unfold orcM at h
  split at h
  · rename_i r' hr
    obtain rfl := Option.some.inj h
    exact orcN_le _ _ _ _ hr
  · cases h1 : Nat.beq f 95 with
    | true =>
      rw [h1, cond_true] at h
      obtain rfl := Nat.eq_of_beq_eq_true h1
      unfold normO at h
      split at h <;> first | (cases h; done) | skip
      split at h <;> first | (cases h; done) | skip
      rename_i v xs hx
      obtain rfl := Option.some.inj h
      obtain ⟨e1, e2, e3⟩ := limbsOf_spec hx
      exact normX_call e1 (by omega)
    | false =>
    rw [h1, cond_false] at h
    cases h1 : Nat.beq f 66 with
    | true =>
      rw [h1, cond_true] at h
      obtain rfl := Nat.eq_of_beq_eq_true h1
      unfold wnormO at h
      split at h <;> first | (cases h; done) | skip
      split at h <;> first | (cases h; done) | skip
      rename_i neg v xs hx
      obtain rfl := Option.some.inj h
      obtain ⟨e1, e2, e3⟩ := limbsOf_spec hx
      exact wnormX_call _ e1 (by omega)
    | false =>
    rw [h1, cond_false] at h
    cases h1 : Nat.beq f 96 with
    | true =>
      rw [h1, cond_true] at h
      obtain rfl := Nat.eq_of_beq_eq_true h1
      unfold fitsO at h
      split at h <;> first | (cases h; done) | skip
      split at h <;> first | (cases h; done) | skip
      rename_i neg v xs hx
      cases hl : Nat.ble xs.length 1000 with
      | false => rw [hl] at h; cases h
      | true =>
        rw [hl, cond_true] at h
        obtain rfl := Option.some.inj h
        obtain ⟨e1, e2, e3⟩ := limbsOf_spec hx
        exact fitsX_call _ e1 e2 (by omega) (blen_1000 e2 (Nat.le_of_ble_eq_true hl))
    | false =>
    rw [h1, cond_false] at h
    cases h1 : Nat.beq f 68 with
    | true =>
      rw [h1, cond_true] at h
      obtain rfl := Nat.eq_of_beq_eq_true h1
      unfold resO at h
      split at h <;> first | (cases h; done) | skip
      split at h <;> first | (cases h; done) | skip
      rename_i neg v xs hx
      cases hl : Nat.ble xs.length 1000 with
      | false => rw [hl] at h; cases h
      | true =>
        rw [hl, cond_true] at h
        obtain rfl := Option.some.inj h
        obtain ⟨e1, e2, e3⟩ := limbsOf_spec hx
        exact resX_call _ e1 e2 (by omega) (blen_1000 e2 (Nat.le_of_ble_eq_true hl))
    | false => rw [h1] at h; cases h

theorem runM_runs {n : Nat} {f : FuncId} {H : AH} (h : saysTrue (runX Tryz.prog cfg0 orcM n f [] H) = true) : ∃ n, saysTrue (run Tryz.prog cfg0 n f [] H) = true := by
  obtain ⟨H', hr⟩ := saysTrue_some h
  obtain ⟨m, hm⟩ := callI_run (runX_callI orcM_le hr)
  exact ⟨m, by rw [hm]; rfl⟩
end
end Go.Proofs.YtjboehpfojpimaaGreatDoor
