/-
  THE ENGINE, part M: code and calls: what the evaluator computes of a call, the machine does.
-/
import Derived.Test.YtldapilhmmbjhaaEvN
namespace Go.Proofs.Ytldapilhmmbjhaa.Ev
open Go Go.RowKit
set_option linter.unusedVariables false
noncomputable section
set_option linter.unusedSimpArgs false

def subEntry : Array Value → Sem Value := fun args => do
  let (x, y, b) ← Extern.MathBitsCarry.three "Sub64" args
  pure (Extern.MathBitsCarry.pair ((x + Extern.MathBitsCarry.m64 - y - b) % Extern.MathBitsCarry.m64) (if x < y + b then 1 else 0))

theorem run_add {P : Program} (x y c : Nat) (hc : c ≤ 1) (w : World) : (add64Entry #[.int .u64 x, .int .u64 y, .int .u64 c]).run P w =
    .ok (.tuple #[.int .u64 (Int.ofNat ((x + y + c) % 18446744073709551616)), .int .u64 (Int.ofNat ((x + y + c) / 18446744073709551616))]) w := by
  have : c = 0 ∨ c = 1 := by omega
  rcases this with rfl | rfl <;> rfl

theorem run_sub {P : Program} (x y c : Nat) (hc : c ≤ 1) (w : World) : (subEntry #[.int .u64 x, .int .u64 y, .int .u64 c]).run P w =
    .ok (.tuple #[.int .u64 (Int.ofNat ((x + 18446744073709551616 - y - c) % 18446744073709551616)), .int .u64 (cond (Nat.blt x (y + c)) 1 0)]) w := by
  have key : ∀ k : Nat, k ≤ 1 → (subEntry #[.int .u64 x, .int .u64 y, .int .u64 k]).run P w = .ok (Extern.MathBitsCarry.pair ((x + Extern.MathBitsCarry.m64 - y - k) % Extern.MathBitsCarry.m64) (if x < y + k then 1 else 0)) w := by
    intro k hk
    have : k = 0 ∨ k = 1 := by omega
    rcases this with rfl | rfl <;> rfl
  rw [key c hc]
  unfold Extern.MathBitsCarry.pair
  by_cases h : x < y + c
  · have : Nat.blt x (y + c) = true := by rw [Nat.blt_eq]; exact h
    rw [if_pos h, this]; rfl
  · have : Nat.blt x (y + c) = false := by
      cases hb : Nat.blt x (y + c) with
      | false => rfl
      | true => rw [Nat.blt_eq] at hb; exact absurd hb h
    rw [if_neg h, this]; rfl

/-- What a program must bear for the evaluator to speak of it. -/
structure CfgOk (P : Program) (C : Cfg) : Prop where
  mixed : P.follows .mixedOrders = true
  names : ∀ (f : Nat) (fn : Func), P.funcs[f]? = some fn → fn.body.isSome = true → (fn.name == "runtime.NumGoroutine") = false
  add : ∃ fn, P.funcs[C.add]? = some fn ∧ (fn.name == "runtime.NumGoroutine") = false ∧ fn.body.isNone = true ∧ Extern.findNext fn = none ∧ Extern.find fn = some add64Entry
  sub : ∃ fn, P.funcs[C.sub]? = some fn ∧ (fn.name == "runtime.NumGoroutine") = false ∧ fn.body.isNone = true ∧ Extern.findNext fn = none ∧ Extern.find fn = some subEntry

def exitOf : Ex → Exit
  | .norm => .normal
  | .exit id => .exit id
  | .ret => .ret

/-- A loop, from a round's begin. -/
def LW (P : Program) (body : Code) (Q : Exit → Act → World → Prop) (a : Act) (w : World) : Prop :=
  ∀ (b : Frame) (k : List Item) (cs : List Frame), ∃ e a' w', Q e a' w' ∧ Arrives P (lone (b.at a (.code body :: .inLoop body :: k)) cs w) b k cs e a' w'

theorem LW.wp {P : Program} {body : Code} {Q : Exit → Act → World → Prop} {a : Act} {w : World} (h : LW P body Q a w) : (Code.loop body).wp P Q a w := fun b k cs => by
  obtain ⟨e, a', w', hq, harr⟩ := h b k cs
  exact ⟨e, a', w', hq, .of_steps (.one step_loop) harr⟩

def CodeOk (P : Program) (C : Cfg) (B : Nat) (f : Code → St → Option (Ex × St)) : Prop :=
  ∀ c s ex s', f c s = some (ex, s') → ∀ S L a w, GO C S L → AI S L s.k s.tm a → Inv B S L s.H w → ∀ Q : Exit → Act → World → Prop, (∀ a' w', Done B S L s.H w s' a' w' → Q (exitOf ex) a' w') → c.wp P Q a w ∧ ∀ body, c = .loop body → LW P body Q a w

theorem natsOf_some {S : Nat → Prop} {L : Nat → Loc} {args : List Value} {x y c : Nat} {args' : List Value} (h : natsOf args = some (x, y, c)) (hv : VRs S L args args') :
    args' = [.int .u64 x, .int .u64 y, .int .u64 c] ∧ c ≤ 1 := by
  unfold natsOf at h
  split at h <;> first | (cases h; done) | skip
  rename_i a b d
  split at h <;> first | (cases h; done) | skip
  rename_i hb
  obtain ⟨h1, h2, h3, h4⟩ := hb
  injection h with h
  injection h with e1 e2
  injection e2 with e2 e3
  obtain ⟨x', y', z', rfl, v1, v2, v3⟩ := hv.inv3
  cases v1; cases v2; cases v3
  subst e1; subst e2; subst e3
  exact ⟨by rw [Int.toNat_of_nonneg h1, Int.toNat_of_nonneg h2, Int.toNat_of_nonneg h3], by omega⟩

theorem tmOf_get : ∀ (vs : List Value) (i : Nat) (t : Tr Value) (k : Nat), (tmOf i vs t).get k = if i ≤ k ∧ k < i + vs.length then vs[k - i]? else t.get k
  | [], i, t, k => by rw [if_neg (by rw [List.length_nil]; omega)]; rfl
  | v :: vs, i, t, k => by
    simp only [tmOf]
    rw [tmOf_get vs (i + 1) (t.set i v) k, Tr.get_set]
    by_cases h : i + 1 ≤ k ∧ k < i + 1 + vs.length
    · rw [if_pos h, if_pos (by simp; omega)]
      have : k - i = (k - (i + 1)) + 1 := by omega
      rw [this]; rfl
    · rw [if_neg h]
      by_cases e : k = i
      · subst e; rw [if_pos rfl, if_pos (by simp)]; simp
      · rw [if_neg e, if_neg (by simp; omega)]

theorem loadVar_run {B : Nat} {S : Nat → Prop} {L : Nat → Loc} {H : AH} {w : World} {P : Program} (hI : Inv B S L H w) {t : TypeId} {x x' v : Value} (h : loadV P H t x = some v) (hx : VR S L x x') :
    ∃ v', (do loadVar t (← asAddr x') : Sem Value).run P w = .ok v' w ∧ VR S L v v' := by
  obtain ⟨v', h1, h2⟩ := loadV_run (P := P) hI h hx
  refine ⟨v', ?_, h2⟩
  unfold loadV at h
  split at h <;> first | (cases h; done) | skip
  cases hx with
  | ptr i o hS =>
    simp only [Instr.loadAt, Instr.sureAddr, Sem.run_bind, Sem.run_pure, Result.andThen_ok] at h1
    simp only [asAddr, Sem.run_bind, Sem.run_pure, Result.andThen_ok, h1]

def resSem (tmps : Array Value) (r : ResultVar) : Sem Value :=
  match r with
  | .tmp t => pure (tmps.getD t undef)
  | .cell c t => do loadVar t (← asAddr (tmps.getD c undef))

theorem results_eq (fn : Func) (tmps : Array Value) : results fn tmps = (do let vs ← fn.results.mapM (resSem tmps); pure (if h : vs.size = 1 then vs[0] else .tuple vs)) := rfl

theorem resultV_run {B : Nat} {S : Nat → Prop} {L : Nat → Loc} {w : World} {P : Program} {s : St} {a : Act} (hA : AI S L s.k s.tm a) (hI : Inv B S L s.H w) : ∀ (rs : List ResultVar) (vs : List Value), resultV P s rs = some vs →
    ∃ vs', (rs.mapM (resSem a.tmps) : Sem (List Value)).run P w = .ok vs' w ∧ VRs S L vs vs'
  | [], vs, h => by
    simp only [resultV] at h
    obtain rfl := Option.some.inj h
    exact ⟨[], by simp, .nil⟩
  | r :: rs, vs, h => by
    simp only [resultV] at h
    cases hr : resOne P s r with
    | none => rw [hr] at h; cases h
    | some v =>
      rw [hr] at h
      simp only at h
      cases hrs : resultV P s rs with
      | none => rw [hrs] at h; cases h
      | some vs1 =>
        rw [hrs] at h
        obtain rfl := Option.some.inj h
        obtain ⟨vs', h1, h2⟩ := resultV_run hA hI rs vs1 hrs
        have hone : ∃ v', (resSem a.tmps r).run P w = .ok v' w ∧ VR S L v v' := by
          cases r with
          | tmp t => exact ⟨_, rfl, (hA.tmp t v hr).2⟩
          | cell c t =>
            simp only [resOne] at hr
            cases hc : s.tm.get c with
            | none => rw [hc] at hr; cases hr
            | some x => rw [hc] at hr; exact loadVar_run hI hr (hA.tmp c x hc).2
        obtain ⟨v', h3, h4⟩ := hone
        refine ⟨v' :: vs', ?_, .cons h4 h2⟩
        rw [List.mapM_cons]
        simp only [Sem.run_bind, h3, Result.andThen_ok, h1, Sem.run_pure]

theorem results_run {B : Nat} {S : Nat → Prop} {L : Nat → Loc} {w : World} {P : Program} {s : St} {a : Act} (hA : AI S L s.k s.tm a) (hI : Inv B S L s.H w) {fn : Func} {vs : List Value} (h : resultV P s fn.results.toList = some vs) :
    ∃ v', (results fn a.tmps).run P w = .ok v' w ∧ VR S L (packV vs) v' := by
  obtain ⟨vs', h1, h2⟩ := resultV_run (P := P) hA hI _ _ h
  have h3 : (results fn a.tmps).run P w = .ok (if h : vs'.toArray.size = 1 then vs'.toArray[0] else .tuple vs'.toArray) w := by
    rw [results_eq, Array.mapM_eq_mapM_toList]
    simp only [Sem.run_bind, Sem.run_map, h1, Result.andThen_ok, Sem.run_pure]
  refine ⟨_, h3, ?_⟩
  match vs, vs', h2 with
  | [v], [v'], h2 => exact h2.2 0 v v' rfl rfl
  | [], [], h2 => exact .tuple _ _ rfl (fun k v v' h => by simp at h)
  | v :: u :: r, v' :: u' :: r', h2 =>
    have e : ¬ ((v' :: u' :: r').toArray.size = 1) := by simp
    rw [dif_neg e]
    exact .tuple _ _ (by simpa using h2.1) (fun k x y hx hy => h2.2 k x y (by simpa using hx) (by simpa using hy))
  | [], _ :: _, h2 => have := h2.1; simp at this
  | [v], [], h2 => have := h2.1; simp at this
  | [v], _ :: _ :: _, h2 => have := h2.1; simp at this
  | _ :: _ :: _, [], h2 => have := h2.1; simp at this
  | _ :: _ :: _, [_], h2 => have := h2.1; simp at this

theorem call_ok {P : Program} {C : Cfg} {B : Nat} (hC : CfgOk P C) {ih : Code → St → Option (Ex × St)} (hih : CodeOk P C B ih) : CallOk P C B (evCall P C ih) := by
  intro f args H v H' h S L w args' hG hI hargs
  unfold evCall at h
  cases hfa : Nat.beq f C.add with
  | true =>
    rw [hfa, cond_true] at h
    obtain rfl := Nat.eq_of_beq_eq_true hfa
    split at h <;> first | (cases h; done) | skip
    rename_i x y c hn
    injection h with h; injection h with h1 h2; subst h1; subst h2
    obtain ⟨rfl, hc⟩ := natsOf_some hn hargs
    obtain ⟨fn, e1, e2, e3, e4, e5⟩ := hC.add
    refine .inl ⟨_, w, ?_, Good.same hI (v' := .tuple #[.int .u64 (Int.ofNat ((x + y + c) % 18446744073709551616)), .int .u64 (Int.ofNat ((x + y + c) / 18446744073709551616))]) (plain_vr rfl)⟩
    rw [run_callFunc_extern e1 e2 e3 e4 e5]
    show ((add64Entry #[.int .u64 x, .int .u64 y, .int .u64 c]).run P w).andThen _ = _
    rw [run_add x y c hc w]
    rfl
  | false =>
    rw [hfa, cond_false] at h
    cases hfs : Nat.beq f C.sub with
    | true =>
      rw [hfs, cond_true] at h
      obtain rfl := Nat.eq_of_beq_eq_true hfs
      split at h <;> first | (cases h; done) | skip
      rename_i x y c hn
      injection h with h; injection h with h1 h2; subst h1; subst h2
      obtain ⟨rfl, hc⟩ := natsOf_some hn hargs
      obtain ⟨fn, e1, e2, e3, e4, e5⟩ := hC.sub
      refine .inl ⟨_, w, ?_, Good.same hI (v' := .tuple #[.int .u64 (Int.ofNat ((x + 18446744073709551616 - y - c) % 18446744073709551616)), .int .u64 (cond (Nat.blt x (y + c)) 1 0)]) (plain_vr rfl)⟩
      rw [run_callFunc_extern e1 e2 e3 e4 e5]
      show ((subEntry #[.int .u64 x, .int .u64 y, .int .u64 c]).run P w).andThen _ = _
      rw [run_sub x y c hc w]
      rfl
    | false =>
      rw [hfs, cond_false] at h
      split at h <;> first | (cases h; done) | skip
      rename_i fn hfn
      split at h <;> first | (cases h; done) | skip
      rename_i c hbody
      rw [Bool.or_true, cond_true] at h
      have hname := hC.names f fn hfn (by rw [hbody]; rfl)
      have hrun : (callFunc f args'.toArray).run P w = .ok (.enter f args'.toArray) w := by
        have hname' : fn.name ≠ "runtime.NumGoroutine" := by simpa using hname
        simp [callFunc, hfn, hname', hbody]
      refine .inr ⟨hrun, calls_of_wp hfn hbody ?_⟩
      have hlen := hargs.1
      let a0 : Act := { tmps := args'.toArray ++ Array.replicate (fn.ntmps - args'.toArray.size) undef, defers := [] }
      have hA : AI S L (args.length + (fn.ntmps - args.length)) (tmOf 0 args .nil) a0 := by
        refine ⟨rfl, by simp [a0, hlen], fun t u hu => ?_⟩
        rw [tmOf_get] at hu
        split at hu
        · rename_i ht
          simp only [Nat.sub_zero] at hu
          obtain ⟨u', h1, h2⟩ := hargs.get hu
          have hlt : t < args'.length := by omega
          refine ⟨by omega, ?_⟩
          have : a0.tmps.getD t undef = u' := by
            rw [Array.getD_eq_getD_getElem?]
            show (((args'.toArray ++ Array.replicate (fn.ntmps - args'.toArray.size) undef))[t]?).getD undef = u'
            rw [Array.getElem?_append, if_pos (by simpa using hlt), List.getElem?_toArray, h1]
            rfl
          rw [this]; exact h2
        · cases hu
      have fin : ∀ (s1 : St) (vs : List Value), resultV P s1 fn.results.toList = some vs → ∀ a' w', Done B S L H w s1 a' w' →
          a'.defers = [] ∧ ∃ v', (results fn a'.tmps).run P w' = .ok v' w' ∧ ∃ v'', (Ending.returned v') = .returned v'' ∧ Good B S L H w (packV vs) s1.H v'' w' := by
        intro s1 vs hr a' w' hd
        obtain ⟨L', d1, d2, d3⟩ := hd
        obtain ⟨v', r1, r2⟩ := results_run (P := P) d1 d2 hr
        exact ⟨d1.defers, v', r1, v', rfl, L', d2, d3, r2⟩
      split at h <;> first | (cases h; done) | skip
      · rename_i s1 hcode
        refine (hih c _ _ s1 hcode S L a0 w hG hA hI _ fun a' w' hd => ?_).1
        split at h <;> first | (cases h; done) | skip
        rename_i vs hr
        injection h with h; injection h with h1 h2; subst h1; subst h2
        exact fin s1 vs hr a' w' hd
      · rename_i s1 hcode
        refine (hih c _ _ s1 hcode S L a0 w hG hA hI _ fun a' w' hd => ?_).1
        split at h <;> first | (cases h; done) | skip
        rename_i vs hr
        injection h with h; injection h with h1 h2; subst h1; subst h2
        exact fin s1 vs hr a' w' hd

theorem then_of {next : Act → World → Prop} {Q : Exit → Act → World → Prop} {ex : Ex} {a : Act} {w : World} (h : ex ≠ .norm) (hQ : Q (exitOf ex) a w) : Exit.then next Q (exitOf ex) a w := by
  cases ex <;> first | exact absurd rfl h | exact hQ

theorem code_ok {P : Program} {C : Cfg} {B : Nat} (hC : CfgOk P C) : ∀ n, CodeOk P C B (ev P C n)
  | 0 => fun c s ex s' h => by rw [ev_zero] at h; cases h
  | n + 1 => by
    have ih := code_ok (B := B) hC n
    have hcall := call_ok hC ih
    rw [ev_succ]
    intro c s ex s' h S L a w hG hA hI Q hQ
    cases c <;> simp only [evStep] at h <;> first | (cases h; done) | skip
    case skip =>
      injection h with h; injection h with h1 h2; subst h1; subst h2
      exact ⟨wp_skip (hQ a w (Done.refl hA hI)), fun _ e => by cases e⟩
    case exit id =>
      injection h with h; injection h with h1 h2; subst h1; subst h2
      exact ⟨wp_exit (hQ a w (Done.refl hA hI)), fun _ e => by cases e⟩
    case ret =>
      injection h with h; injection h with h1 h2; subst h1; subst h2
      exact ⟨wp_ret (hQ a w (Done.refl hA hI)), fun _ e => by cases e⟩
    case region id ops draw =>
      split at h <;> first | (cases h; done) | skip
      rename_i s1 hr
      injection h with h; injection h with h1 h2; subst h1; subst h2
      exact ⟨evRegion_ok hC.mixed hcall hr hG hA hI hQ id, fun _ e => by cases e⟩
    case seq x y =>
      refine ⟨wp_seq ?_, fun _ e => by cases e⟩
      split at h
      · rename_i s1 hx
        refine (ih x s .norm s1 hx S L a w hG hA hI _ fun a1 w1 hd => ?_).1
        obtain ⟨L1, d1, d2, d3⟩ := hd
        exact (ih y s1 ex s' h _ L1 a1 w1 (hG.mono (fun _ h => .inl h) d3.agree) d1 d2 Q fun a2 w2 hd2 => hQ a2 w2 (hd2.trans hI d2 d3)).1
      · rename_i hne
        refine (ih x s ex s' h S L a w hG hA hI _ fun a1 w1 hd => then_of (fun e => ?_) (hQ a1 w1 hd)).1
        subst e; exact hne s' h
    case cond x y z =>
      refine ⟨?_, fun _ e => by cases e⟩
      split at h <;> first | (cases h; done) | skip
      rename_i t hx
      have hv := opd_vr2 hG (fun t v _ hv => (hA.tmp t v hv).2) hx
      generalize hxe : a.eval x = u at hv
      cases hv
      refine wp_cond hxe ?_
      have := (ih (cond t y z) s ex s' h S L a w hG hA hI Q hQ).1
      cases t <;> exact this
    case block id body =>
      refine ⟨wp_block ?_, fun _ e => by cases e⟩
      split at h
      · rename_i j s1 hb
        refine (ih body s (.exit j) s1 hb S L a w hG hA hI _ fun a1 w1 hd => ?_).1
        cases hj : Nat.beq j id with
        | true =>
          rw [hj, cond_true] at h
          injection h with h; injection h with h1 h2; subst h1; subst h2
          have e := Nat.eq_of_beq_eq_true hj
          show Exit.inBlock id Q (.exit j) a1 w1
          simp only [Exit.inBlock, e, if_true]
          exact hQ a1 w1 hd
        | false =>
          rw [hj, cond_false] at h
          injection h with h; injection h with h1 h2; subst h1; subst h2
          have e : j ≠ id := fun e => by subst e; rw [Nat.beq_refl] at hj; cases hj
          show Exit.inBlock id Q (.exit j) a1 w1
          simp only [Exit.inBlock, e, if_false]
          exact hQ a1 w1 hd
      · rename_i hne
        refine (ih body s ex s' h S L a w hG hA hI _ fun a1 w1 hd => ?_).1
        cases ex with
        | norm => exact hQ a1 w1 hd
        | exit j => exact absurd h (hne j s')
        | ret => exact hQ a1 w1 hd
    case loop body =>
      have key : LW P body Q a w := by
        intro b k cs
        split at h
        · rename_i s1 hb
          have h1 := (ih body s .norm s1 hb S L a w hG hA hI (fun e a1 w1 => e = .normal ∧ Done B S L s.H w s1 a1 w1) fun a1 w1 hd => ⟨rfl, hd⟩).1
          obtain ⟨e, a1, w1, ⟨rfl, hd⟩, harr⟩ := h1 b (.inLoop body :: k) cs
          obtain ⟨L1, d1, d2, d3⟩ := hd
          have h2 := (ih (.loop body) s1 ex s' h _ L1 a1 w1 (hG.mono (fun _ h => .inl h) d3.agree) d1 d2 Q fun a2 w2 hd2 => hQ a2 w2 (hd2.trans hI d2 d3)).2 body rfl
          obtain ⟨e2, a2, w2, hq, harr2⟩ := h2 b k cs
          have harr' : Steps P (lone (b.at a (.code body :: .inLoop body :: k)) cs w) (lone (b.at a1 (.inLoop body :: k)) cs w1) := harr
          exact ⟨e2, a2, w2, hq, .of_steps (harr'.trans (.one step_inLoop)) harr2⟩
        · rename_i hne
          have h1 := (ih body s ex s' h S L a w hG hA hI (Exit.then (fun _ _ => False) Q) fun a1 w1 hd => then_of (fun e => by subst e; exact hne s' h) (hQ a1 w1 hd)).1
          obtain ⟨e, a1, w1, hq, harr⟩ := h1 b (.inLoop body :: k) cs
          have hne' : e ≠ .normal := fun e' => by subst e'; exact hq
          refine ⟨e, a1, w1, ?_, .pass (x := .inLoop body) rfl (fun a w => .inl hne') harr⟩
          cases e <;> first | exact hq.elim | exact hq
      exact ⟨key.wp, fun body' e => by cases e; exact key⟩

/-- A call that the evaluator finishes is finished by the machine: the value; what lay below block B is as it was. -/
theorem run_calls {P : Program} {C : Cfg} {B : Nat} (hC : CfgOk P C) {n : Nat} {f : FuncId} {args args' : List Value} {H H' : AH} {v : Value} (h : run P C n f args H = some (v, H')) {fn : Func} (hf : P.funcs[f]? = some fn) (hb : fn.body.isSome = true)
    {S : Nat → Prop} {L : Nat → Loc} {w : World} (hG : GO C S L) (hI : Inv B S L H w) (ha : VRs S L args args') :
    Calls P f args'.toArray w fun e w' => ∃ v', e = .returned v' ∧ Good B S L H w v H' v' w' := by
  rcases call_ok hC (code_ok (B := B) hC n) f args H v H' h S L w args' hG hI ha with ⟨v', w', h1, h2⟩ | ⟨_, h2⟩
  · exfalso
    have hname := hC.names f fn hf hb
    have hname' : fn.name ≠ "runtime.NumGoroutine" := by simpa using hname
    cases hbody : fn.body with
    | none => rw [hbody] at hb; cases hb
    | some c =>
      rw [show (callFunc f args'.toArray).run P w = .ok (.enter f args'.toArray) w by simp [callFunc, hf, hname', hbody]] at h1
      injection h1 with h1 _
      cases h1
  · exact h2

theorem Good.below {B : Nat} {S : Nat → Prop} {L : Nat → Loc} {H H' : AH} {w w' : World} {v v' : Value} (hI : Inv B S L H w) (h : Good B S L H w v H' v' w') : Below B w w' := by
  obtain ⟨L', g1, g2, g3⟩ := h
  refine ⟨g2.os, g2.tape, g2.output, g2.size, fun k hk => ?_⟩
  rcases g2.frame k (Nat.lt_of_lt_of_le hk hI.base) with h1 | ⟨i, sz, cs, h1, h2, _⟩
  · exact h1
  · have := (hI.rw i sz cs h1).2.1; omega

#print axioms run_calls

end
end Go.Proofs.Ytldapilhmmbjhaa.Ev
