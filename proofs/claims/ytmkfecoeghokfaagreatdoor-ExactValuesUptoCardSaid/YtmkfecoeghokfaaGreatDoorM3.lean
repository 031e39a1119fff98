/-
  The engine and the walks that the claim's last text leans on, part 3 of 9: EvRc, EvM, EvMb, EvP, EvQ, Cfg, Laid, Np, Na, Nb, EvR, Nc, Nd, Ne, Nf, Ng, Nh.
-/
import Derived.Test.YtmkfecoeghokfaaGreatDoorM2
import Derived.Recover
import Derived.Defers
import Derived.Test.YtmkfecoeghokfaaGreatDoorRows
import Derived.WalkKit
import Derived.ProofKit
import Derived.OpenShut
import Derived.ChangeOld
import Derived.SizedLaws
import Derived.Test.YtmkfecoeghokfaaGreatDoorCards
import Derived.Test.YtmkfecoeghokfaaGreatDoorTie
import Derived.LaidMore
import Derived.Deep.Strs
import Derived.MakeChecks
import Derived.FnData
import Derived.Stop.Joined
import Derived.SevenTiedAt
import Derived.KernelRfl
import Derived.Laws.Bits64
import Derived.Laws.BitsLemmas
namespace Go.Proofs.YtmkfecoeghokfaaGreatDoor.Ev
open Go Go.RowKit
set_option linter.unusedVariables false
noncomputable section
set_option linter.unusedSimpArgs false
set_option maxHeartbeats 2000000
set_option maxRecDepth 20000
theorem dh {P : Program} {o : Oper} {a : Act} {K K' : Act -> World -> Prop} {Q Q' : Exit -> Act -> World -> Prop} {r : Result Next} (hK : ∀ a w, K a w -> K' a w) (hQ : ∀ ch a w, Q (.panic ch) a w -> Q' (.panic ch) a w) (hL : LetsOut Q -> LetsOut Q') (h : o.upon P a K Q r) : o.upon P a K' Q' r := by
  cases r with
  | ok n w =>
    cases n <;> first | exact h.elim | exact hK _ _ h | exact Calls.mono h (fun e w' he => by cases e <;> first | exact hK _ _ he | exact hQ _ _ _ he | exact hL he) | exact Rows.mono h (fun _ _ he => hK _ _ he)
  | halt x w => cases x <;> first | exact h.elim | exact hQ _ _ _ h
section
variable {P : Program} {ops : Array Oper} {rv : Value}
theorem BP(i:Nat):(ops.map (WT rv))[i]?=(ops[i]?).map (WT rv):=by simp
theorem Mj:(ops.map (WT rv)).size=ops.size:=by simp
theorem Ni(o:Oper):(WT rv o).after=o.after/\(WT rv o).guard=o.guard/\(WT rv o).dst=o.dst:=by unfold WT;cases isRec o.op<;>exact⟨rfl,rfl,rfl⟩
theorem HK(md:Region.Mode)(listed:Array Bool):Region.ready md (ops.map (WT rv)) listed=Region.ready md ops listed:=by unfold Region.ready;rw[Mj];congr 1;funext i;rw[BP];cases ops[i]? with|none=>rfl|some o=>simp[(Ni (rv:=rv) o).1]
theorem DM(a:Array Value):yielded (ops.map (WT rv)) a=yielded ops a:=by funext j;unfold yielded;rw[BP];cases ops[j]? with|none=>rfl|some o=>simp[(Ni (rv:=rv) o).2.2]
structure OneRec (ops : Array Oper) (r : Nat) : Prop where
  at_ : ∃ o, ops[r]? = some o /\ isRec o.op = true /\ o.guard = none
  one : ∀ i o, ops[i]? = some o -> isRec o.op = true -> i = r
theorem filter_one{l:List Oper}{p:Oper->Bool}(h:(l.filter p).length=1): ∃(r:Nat) (o:Oper),l[r]?=some o/\p o=true/\ ∀(i:Nat)(o':Oper),l[i]?=some o'->p o'=true->i=r:=by induction l with
 |nil=>simp at h
 |cons x xs ih=>
  by_cases hx:p x=true;·rw[List.filter_cons_of_pos hx]at h;have h0:xs.filter p=[]:=List.eq_nil_of_length_eq_zero (by simpa using h);refine⟨0,x,rfl,hx,fun i o' hi hp=>?_⟩;cases i with|zero=>rfl|succ i=>have:o'∈xs.filter p:=List.mem_filter.mpr ⟨List.mem_of_getElem? hi,hp⟩;rw[h0]at this;cases this
  ·rw[List.filter_cons_of_neg hx]at h;obtain⟨r,o,h1,h2,h3⟩:=ih h;refine⟨r+1,o,h1,h2,fun i o' hi hp=>?_⟩;cases i with|zero=>simp at hi;subst hi;exact absurd hp hx|succ i=>rw[h3 i o' hi hp]
theorem Fb(h:Rr ops=true): ∃r,OneRec ops r:=by unfold Rr at h;rw[Bool.and_eq_true]at h;obtain⟨r,o,h1,h2,h3⟩:=filter_one (Nat.eq_of_beq_eq_true h.1);have hg:=List.all_eq_true.mp h.2 o (List.mem_of_getElem? h1);refine⟨r,⟨o,by simpa using h1,h2,?_⟩,fun i o' hi hp=>h3 i o' (by simpa using hi) hp⟩;rw[h2]at hg;simpa using hg
def RL(Q:Exit->Act->World->Prop):Prop:= ∀e a w,Q e a w->e= .normal
theorem RL.lets{Q:Exit->Act->World->Prop}(h:RL Q): ¬LetsOut Q:=fun⟨a,w,q⟩=>by cases h _ _ _ q
theorem Dy {o : Oper} (h : isRec o.op = true) (ρ : Operand -> Value) (w : World) : (execOp ρ o).run P w = .ok .recover w := by
  obtain ⟨dst, op, ty, pos, after, guard⟩ := o
  cases op <;> first | (cases h; done) | skip
  rename_i c
  obtain ⟨callee, args, ts⟩ := c
  cases callee with
  | builtin b => cases b <;> first | (cases h; done) | (simp [execOp, resolve, invoke, builtin])
  | value f => cases h
  | invoke r m => cases h
theorem DN{Q:Exit->Act->World->Prop}{QS:Exit->Act->List Frame->World->Prop}(hQ:RL Q){r:Nat}(hr:OneRec ops r){cs cs':List Frame}(NN:recoverD cs=some (rv,cs')\/(recoverD cs=none/\rv= .nilIface/\cs'=cs)){i:Nat}{rest:List Nat}{K:Act->World->Prop}{a:Act}{w:World}(c0:List Frame)(hc:i=r->c0=cs)(hk: ∀a w,K a w->wpOpsS P ops QS rest a (if i=r then cs' else c0) w)(h:wpOp P (ops.map (WT rv)) Q i K a w):wpOpsS P ops QS (i::rest) a c0 w:=by unfold wpOp at h;rw[BP]at h;simp only[wpOpsS];cases ho:ops[i]? with
 |none=>
  rw[ho]at h;have Ug:i≠r:=fun e=>by obtain⟨o,h1,_⟩:=hr.at_;rw[<-e,ho]at h1;cases h1
  have:=hk a w h;rw[if_neg Ug]at this;exact this
 |some o=>
  rw[ho]at h;simp only[Option.map_some]at h;rw[DM]at h;have RA:Region.wanted (WT rv o) (yielded ops a.tmps)=Region.wanted o (yielded ops a.tmps):=by unfold Region.wanted;rw[(Ni (rv:=rv) o).2.1]
  rw[RA]at h;by_cases vT:i=r
  ·obtain⟨o',h1,h2,h3⟩:=hr.at_;rw[<-vT,ho]at h1;obtain rfl:=Option.some.inj h1;have hw:Region.wanted o (yielded ops a.tmps)=true:=by unfold Region.wanted;rw[h3]
   simp only[hw,if_true]at h⊢;have h:=h.resolve_right (fun x=>hQ.lets x.2);have hs:WT rv o= { o with op:= .assign (.const rv) } :=by unfold WT;rw[h2,cond_true]
   rw[hs]at h;have h':K (a.put o.dst rv) w:=h;have dP:=hk _ _ h';rw[if_pos vT]at dP;rw[Dy h2];rw[hc vT];simp only;rcases NN with e|⟨e1,e2,e3⟩;·rw[e];exact dP
   ·rw[e1];subst e2;subst e3;exact dP
  ·have hn:isRec o.op=false:=by cases hb:isRec o.op with|false=>rfl|true=>exact absurd (hr.one i o ho hb) vT
   have hs:WT rv o=o:=by unfold WT;rw[hn,cond_false]
   rw[hs]at h;by_cases hw:Region.wanted o (yielded ops a.tmps)=true
   ·simp only[hw,if_true]at h⊢;have h:=h.resolve_right (fun x=>hQ.lets x.2);unfold Oper.wp at h;have dP: ∀a w,K a w->wpOpsS P ops QS rest a c0 w:=fun a w q=>by have:=hk a w q;rwa[if_neg vT]at this
    generalize(execOp a.eval o).run P w=res at h⊢;split;·exact h.elim
    ·exact dh dP (fun ch a w q=>by cases hQ _ _ _ q) (fun x=>absurd x hQ.lets) h
   ·simp only[hw,if_false,Bool.false_eq_true]at h⊢;have:=hk _ _ h;rw[if_neg vT]at this;exact this
theorem DO{Q:Exit->Act->World->Prop}{QS:Exit->Act->List Frame->World->Prop}(hQ:RL Q){r:Nat}(hr:OneRec ops r){cs cs':List Frame}(NN:recoverD cs=some (rv,cs')\/(recoverD cs=none/\rv= .nilIface/\cs'=cs))(pE: ∀a w,Q .normal a w->QS .normal a cs' w): ∀(n k:Nat)(a:Act)(w:World),r<k+n->wpOps P (ops.map (WT rv)) Q (List.range' k n) a w->wpOpsS P ops QS (List.range' k n) a (if r<k then cs' else cs) w
 |0,k,a,w,hk,h=>by rw[if_pos (by omega)];exact pE a w h
 |n+1,k,a,w,hk,h=>by
  rw[List.range'_succ,wpOps_cons]at h;rw[List.range'_succ];refine DN hQ hr NN _ (fun e=>by rw[if_neg (by omega)]) (fun a w q=>?_) h;have:=DO hQ hr NN pE n (k+1) a w (by omega) q;by_cases e:k=r;·rw[if_pos e];rwa[if_pos (by omega)]at this
  ·rw[if_neg e];by_cases e2:r<k;·rw[if_pos e2];rwa[if_pos (by omega)]at this
   ·rw[if_neg e2];rwa[if_neg (by omega)]at this
theorem HR(hR:W6 (ops.map (WT rv))){listed:Array Bool}(X4:listed.size=ops.size)(h:Region.ready .any (ops.map (WT rv)) listed=[]): ∀m,m<ops.size->listed[m]?=some true:=by intro m hm;induction m using Nat.strongRecOn with
 |_ m ih=>cases hb:listed[m]with|true=>rw[Array.getElem?_eq_getElem (by omega),hb]|false=>exfalso;obtain⟨o,ho⟩:=Yq (ops:=ops.map (WT rv)) (by rw[Mj];exact hm);have:m∈Region.ready .any (ops.map (WT rv)) listed:=mem_ready.2 ⟨by simp[Array.getD,X4,hm,hb],o,ho,fun e he Eu=>by have YW:=hR.lead m o ho e (by simpa using he) Eu;have:=ih e.on YW (by omega);simp[Array.getD_eq_getD_getElem?,this]⟩;rw[h]at this;cases this
theorem GF{listed:Array Bool}{i:Nat}(h:i∈Region.ready .any ops listed):listed[i]?=some false:=by
 have h1:=(mem_ready.1 h).1;rcases Nat.lt_or_ge i listed.size with h2|h2;·rw[Array.getElem?_eq_getElem h2];simp[Array.getD,h2]at h1;rw[h1]
 ·simp[Array.getD,Nat.not_lt.mpr h2]at h1
theorem oP{Q:Exit->Act->World->Prop}{QS:Exit->Act->List Frame->World->Prop}(hQ:RL Q){r:Nat}(hr:OneRec ops r){cs cs':List Frame}(NN:recoverD cs=some (rv,cs')\/(recoverD cs=none/\rv= .nilIface/\cs'=cs))(pE: ∀a w,Q .normal a w->QS .normal a cs' w)(hR:W6 (ops.map (WT rv)))(CI:r<ops.size): ∀(fuel t:Nat)(listed:Array Bool)(a:Act)(w:World),listed.size=ops.size->wpAny P .any (ops.map (WT rv)) Q fuel listed a w->wpOpsS P ops QS (Region.linearise.go .any ops fuel t listed []) a (if listed[r]?=some true then cs' else cs) w:=by intro fuel;induction fuel with
 |zero=>intro t listed a w X4 h;have Om:=HR hR X4 h.1 r CI;rw[if_pos Om];exact pE a w h.2
 |succ fuel ih=>intro t listed a w X4 h;obtain⟨h₀,h₁⟩:=h;simp only[Region.linearise.go];change wpOpsS P ops QS (match(Region.ready .any ops listed)[t%(Region.ready .any ops listed).length]? with|some i=>Region.linearise.go .any ops fuel (t/(Region.ready .any ops listed).length) (listed.setIfInBounds i true) [i]|none=>[].reverse) a _ w;cases hi:(Region.ready .any ops listed)[t%(Region.ready .any ops listed).length]? with
  |none=>
   have bW:Region.ready .any ops listed=[]:=by cases hr:Region.ready .any ops listed with|nil=>rfl|cons x xs=>rw[hr]at hi;have YW:t%(x::xs).length<(x::xs).length:=Nat.mod_lt _ (by simp);simp at hi;simp at YW;omega
   have qj:Region.ready .any (ops.map (WT rv)) listed=[]:=by rw[HK];exact bW
   rw[if_pos (HR hR X4 qj r CI)];exact pE a w (h₀ qj)
  |some i=>
   have Im:=List.mem_of_getElem? hi;have Uk:=GF Im;simp only[];rw[linearise_go_acc,List.reverse_singleton,List.singleton_append];refine DN hQ hr NN _ (fun e=>by rw[<-e,Uk];rfl) (fun a w q=>?_) (h₁ i (by rw[HK];exact Im));have:=ih (t/(Region.ready .any ops listed).length) (listed.setIfInBounds i true) a w (by simp[X4]) q;have Tj:(listed.setIfInBounds i true)[r]?=some true↔(i=r\/listed[r]?=some true):=by
    rw[Array.getElem?_setIfInBounds];by_cases e:i=r
    ·have hl:i<listed.size:=by
      rcases Nat.lt_or_ge i listed.size with h2|h2;·exact h2
      ·rw[Array.getElem?_eq_none h2]at Uk;cases Uk
     simp[e];omega
    ·simp[e]
   by_cases e:i=r;·rw[if_pos e];rwa[if_pos (Tj.mpr (.inl e))]at this
   ·rw[if_neg e];by_cases e2:listed[r]?=some true;·rw[if_pos e2];rwa[if_pos (Tj.mpr (.inr e2))]at this
    ·rw[if_neg e2];rwa[if_neg (fun x=>by rcases Tj.mp x with x|x;exact e x;exact e2 x)]at this
theorem Ka{id:Nat}{QS:Exit->Act->List Frame->World->Prop}{a:Act}{cs:List Frame}{w:World}(h: ∀t,wpOpsS P ops QS (Region.schedule (P.follows .mixedOrders) ops t) a cs { w with drawn:=w.drawn+1 }):(Code.region id ops true).wpS P QS a cs w:=fun b k hb hr=>let⟨e,a',cs',w',q,r⟩:=wp_opsS _ a cs _ (h _) b k hb hr;⟨e,a',cs',w',q,.of_steps (.one step_region_draw) r⟩
theorem BO{Q:Exit->Act->World->Prop}{QS:Exit->Act->List Frame->World->Prop}(hm:P.follows .mixedOrders=true)(hQ:RL Q){cs cs':List Frame}(NN:recoverD cs=some (rv,cs')\/(recoverD cs=none/\rv= .nilIface/\cs'=cs))(pE: ∀a w,Q .normal a w->QS .normal a cs' w)(ho:Rr ops=true){draw:Bool}(s6:draw=true->Ue (ops.map (WT rv))=true){a:Act}{w:World}(h:Ut P (ops.map (WT rv)) draw Q a w)(id:Nat):(Code.region id ops draw).wpS P QS a cs w:=by
 obtain⟨r,hr⟩:=Fb ho;have CI:r<ops.size:=by obtain⟨o,h1,_⟩:=hr.at_;exact Yu h1
 cases draw with|false=>refine wpS_region ?_;have h:wpOps P (ops.map (WT rv)) Q (List.range (ops.map (WT rv)).size) a w:=h;rw[Mj,List.range_eq_range']at h;have:=DO hQ hr NN pE ops.size 0 a w (by omega) h;rw[if_neg (by omega)]at this;rw[List.range_eq_range'];exact this|true=>refine Ka fun t=>?_;simp only[Region.schedule,hm,Bool.true_or,if_true];have h:wpAny P .any (ops.map (WT rv)) Q (ops.map (WT rv)).size (Array.replicate (ops.map (WT rv)).size false) a { w with drawn:=w.drawn+1 } :=h;rw[Mj]at h;have:=oP hQ hr NN pE (SD (s6 rfl)) CI ops.size t _ a _ (by simp) h;rw[if_neg (by simp[CI])]at this;exact this
theorem KF{P:Program}{C:Cfg}{call:FuncId->List Value->AH->Option (Value×AH)}{ops:Array Oper}{s s':St}(h:YB P C call ops true s=some s'):Ue ops=true:=by unfold YB at h;cases hb:(true&&Vm ops)with
 |false=>rw[hb,cond_false]at h;cases hs:(true&&isSplit C ops)with
  |true=>rw[hs,cond_true]at h;unfold UE at h;cases D9:Uh ops with
   |false=>rw[D9,cond_false]at h;unfold Oz at h;cases hpp:Lw ops with|false=>rw[hpp]at h;cases h|true=>unfold Lw at hpp;rw[Bool.and_eq_true]at hpp;exact hpp.1
   |true=>unfold Uh at D9;simp only[Bool.and_eq_true]at D9;exact D9.1.1.1.1
  |false=>rw[hs,cond_false]at h;unfold W8 at h;rw[cond_true]at h;cases hr:Ue ops with|false=>rw[hr]at h;cases h|true=>rfl
 |true=>rw[hb,cond_true]at h;cases hr:Ue ops with|false=>rw[hr]at h;cases h|true=>rfl
end
def Mi : Array Value -> Sem Value := fun args => do
  let (x, y, b) <- Extern.MathBitsCarry.three "Sub64" args
  pure (Extern.MathBitsCarry.pair ((x + Extern.MathBitsCarry.m64 - y - b) % Extern.MathBitsCarry.m64) (if x < y + b then 1 else 0))
theorem oV{P:Program}(x y c:Nat)(hc:c<=1)(w:World):(add64Entry #[.int .u64 x,.int .u64 y,.int .u64 c]).run P w= .ok (.tuple #[.int .u64 (Int.ofNat ((x+y+c)%18446744073709551616)),.int .u64 (Int.ofNat ((x+y+c)/18446744073709551616))]) w:=by
 have:c=0\/c=1:=by omega
 rcases this with rfl|rfl<;>rfl
theorem oU{P:Program}(x y c:Nat)(hc:c<=1)(w:World):(Mi #[.int .u64 x,.int .u64 y,.int .u64 c]).run P w= .ok (.tuple #[.int .u64 (Int.ofNat ((x+18446744073709551616-y-c)%18446744073709551616)),.int .u64 (cond (Nat.blt x (y+c)) 1 0)]) w:=by
 have key: ∀k:Nat,k<=1->(Mi #[.int .u64 x,.int .u64 y,.int .u64 k]).run P w= .ok (Extern.MathBitsCarry.pair ((x+Extern.MathBitsCarry.m64-y-k)%Extern.MathBitsCarry.m64) (if x<y+k then 1 else 0)) w:=by
  intro k hk;have:k=0\/k=1:=by omega
  rcases this with rfl|rfl<;>rfl
 rw[key c hc];unfold Extern.MathBitsCarry.pair;by_cases h:x<y+c
 ·have:Nat.blt x (y+c)=true:=by rw[Nat.blt_eq];exact h
  rw[if_pos h,this];rfl
 ·have:Nat.blt x (y+c)=false:=by cases hb:Nat.blt x (y+c)with|false=>rfl|true=>rw[Nat.blt_eq]at hb;exact absurd hb h
  rw[if_neg h,this];rfl
structure CfgOk (P : Program) (C : Cfg) : Prop where
  mixed : P.follows .mixedOrders = true
  names : ∀ (f : Nat) (fn : Func), P.funcs[f]? = some fn -> fn.body.isSome = true -> (fn.name == "runtime.NumGoroutine") = false
  add : ∃ fn, P.funcs[C.add]? = some fn /\ (fn.name == "runtime.NumGoroutine") = false /\ fn.body.isNone = true /\ Extern.findNext fn = none /\ Extern.find fn = some add64Entry
  sub : ∃ fn, P.funcs[C.sub]? = some fn /\ (fn.name == "runtime.NumGoroutine") = false /\ fn.body.isNone = true /\ Extern.findNext fn = none /\ Extern.find fn = some Mi
def KE:Ex->Exit| .norm=> .normal| .exit id=> .exit id| .ret=> .ret| .pan _=> .normal
def LW(P:Program)(body:Code)(Q:Exit->Act->World->Prop)(a:Act)(w:World):Prop:= ∀(b:Frame)(k:List Item)(cs:List Frame),∃e a' w',Q e a' w'/\Arrives P (lone (b.at a (.code body:: .inLoop body::k)) cs w) b k cs e a' w'
theorem LW.wp{P:Program}{body:Code}{Q:Exit->Act->World->Prop}{a:Act}{w:World}(h:LW P body Q a w):(Code.loop body).wp P Q a w:=fun b k cs=>by obtain⟨e,a',w',hq,gw⟩:=h b k cs;exact⟨e,a',w',hq,.of_steps (.one step_loop) gw⟩
def Rz(Df:List Deferred)(B:Nat)(S:Nat->Prop)(L:Nat->Loc)(H:AH)(w:World)(ex:Ex)(s':St)(e:Exit)(a':Act)(w':World):Prop:=match ex with| .pan v=> ∃v',e= .panic [{ v:=v',recovered:=false }]/\ ∃L',AI Df (ext S H.n s'.H.n) L' s'.k s'.tm a'/\Inv B (ext S H.n s'.H.n) L' s'.H w'/\Fr S L H w L' s'.H w'/\VR (ext S H.n s'.H.n) L' v v'|ex=>e=KE ex/\UK Df B S L H w s' a' w'
theorem Rz.trans{Df:List Deferred}{B:Nat}{S:Nat->Prop}{L L1:Nat->Loc}{H:AH}{w w1:World}{s1 s2:St}{ex:Ex}{e:Exit}{a2:Act}{w2:World}(hI:Inv B S L H w)(OY:Inv B (ext S H.n s1.H.n) L1 s1.H w1)(hF:Fr S L H w L1 s1.H w1)(h:Rz Df B (ext S H.n s1.H.n) L1 s1.H w1 ex s2 e a2 w2):Rz Df B S L H w ex s2 e a2 w2:=by cases ex with|pan v=>obtain⟨v',he,L2,h1,h2,h3,h4⟩:=h;rw[Kg hF.n h3.n]at h1 h2 h4;exact⟨v',he,L2,h1,h2,hF.trans hI OY (fun _ h=> .inl h) h3,h4⟩|norm=>exact⟨h.1,h.2.trans hI OY hF⟩|exit j=>exact⟨h.1,h.2.trans hI OY hF⟩|ret=>exact⟨h.1,h.2.trans hI OY hF⟩
theorem Rz.norm{Df:List Deferred}{B:Nat}{S:Nat->Prop}{L:Nat->Loc}{H:AH}{w:World}{s':St}{e:Exit}{a':Act}{w':World}(h:Rz Df B S L H w .norm s' e a' w'):e= .normal/\UK Df B S L H w s' a' w':=h
theorem Rz.not_normal{Df:List Deferred}{B:Nat}{S:Nat->Prop}{L:Nat->Loc}{H:AH}{w:World}{ex:Ex}{s':St}{e:Exit}{a':Act}{w':World}(Ug:ex≠ .norm)(h:Rz Df B S L H w ex s' e a' w'):e≠ .normal:=by cases ex with|pan v=>obtain⟨v',he,_⟩:=h;subst he;simp|norm=>exact absurd rfl Ug|exit j=>rw[h.1];simp[KE]|ret=>rw[h.1];simp[KE]
def dD(P:Program)(C:Cfg)(B:Nat)(f:Code->St->Option (Ex×St)):Prop:= ∀c s ex s',f c s=some (ex,s')-> ∀Df S L a w,GO C S L->AI Df S L s.k s.tm a->Inv B S L s.H w-> ∀Q:Exit->Act->World->Prop,(∀e a' w',Rz Df B S L s.H w ex s' e a' w'->Q e a' w')->c.wp P Q a w/\ ∀body,c= .loop body->LW P body Q a w
def BA(B:Nat)(S:Nat->Prop)(L:Nat->Loc)(H:AH)(w:World)(o:Out)(H':AH)(e:Ending)(w':World):Prop:=match o with| .ret v=> ∃v',e= .returned v'/\Good B S L H w v H' v' w'| .pan v=> ∃v',e= .panicked [{ v:=v',recovered:=false }]/\Good B S L H w v H' v' w'
def PJ(P:Program)(C:Cfg)(B:Nat)(call:FuncId->List Value->AH->Option (Out×AH)):Prop:= ∀f args H o H',call f args H=some (o,H')-> ∀S L w args',GO C S L->Inv B S L H w->UQ S L args args'->(∃v v' w',o= .ret v/\(callFunc f args'.toArray).run P w= .ok (.value v') w'/\Good B S L H w v H' v' w')\/((callFunc f args'.toArray).run P w= .ok (.enter f args'.toArray) w/\Calls P f args'.toArray w fun e w'=>BA B S L H w o H' e w')
def HE(P:Program)(C:Cfg)(B:Nat)(call:FuncId->List Value->AH->Option (Value×AH)):Prop:= ∀f args H v H',call f args H=some (v,H')-> ∀S L w args',GO C S L->Inv B S L H w->UQ S L args args'->(callFunc f args'.toArray).run P w= .ok (.enter f args'.toArray) w/\Calls P f args'.toArray w fun e w'=> ∃v',e= .panicked [{ v:=v',recovered:=false }]/\Good B S L H w v H' v' w'
structure LvOk (P : Program) (C : Cfg) (B : Nat) (ih : Lv) : Prop where
  code : dD P C B ih.code
  call : W5 P C B ih.call
theorem Qz{r:Option (Out×AH)}{v:Value}{H:AH}(h:LY r=some (v,H)):r=some (.ret v,H):=by
 unfold LY at h;split at h;·injection h with h;injection h with h1 h2;subst h1;subst h2;rfl
 ·cases h
theorem Qx{r:Option (Out×AH)}{v:Value}{H:AH}(h:A6 r=some (v,H)):r=some (.pan v,H):=by
 unfold A6 at h;split at h;·injection h with h;injection h with h1 h2;subst h1;subst h2;rfl
 ·cases h
theorem PJ.ret{P:Program}{C:Cfg}{B:Nat}{call:FuncId->List Value->AH->Option (Out×AH)}(h:PJ P C B call):W5 P C B (fun f args H=>LY (call f args H)):=by
 intro f args H v H' hc S L w args' hG hI ha;rcases h f args H _ H' (Qz hc) S L w args' hG hI ha with⟨v1,v',w',e,h1,h2⟩|⟨h1,h2⟩;·cases e;exact .inl ⟨v',w',h1,h2⟩
 ·exact .inr ⟨h1,h2⟩
theorem PJ.pan{P:Program}{C:Cfg}{B:Nat}{call:FuncId->List Value->AH->Option (Out×AH)}(h:PJ P C B call):HE P C B (fun f args H=>A6 (call f args H)):=by
 intro f args H v H' hc S L w args' hG hI ha;rcases h f args H _ H' (Qx hc) S L w args' hG hI ha with⟨v1,v',w',e,h1,h2⟩|⟨h1,h2⟩;·cases e
 ·exact⟨h1,h2⟩
theorem Lq{S:Nat->Prop}{L:Nat->Loc}{args:List Value}{x y c:Nat}{args':List Value}(h:PW args=some (x,y,c))(hv:UQ S L args args'):args'=[.int .u64 x,.int .u64 y,.int .u64 c]/\c<=1:=by
 unfold PW at h;split at h<;>first|(cases h;done)|skip
 rename_i a b d;split at h<;>first|(cases h;done)|skip
 rename_i hb;obtain⟨h1,h2,h3,h4⟩:=hb;injection h with h;injection h with e1 e2;injection e2 with e2 e3;obtain⟨x',y',z',rfl,v1,v2,v3⟩:=hv.inv3;cases v1;cases v2;cases v3;subst e1;subst e2;subst e3;exact⟨by rw[Int.toNat_of_nonneg h1,Int.toNat_of_nonneg h2,Int.toNat_of_nonneg h3],by omega⟩
theorem DI: ∀(vs:List Value)(i:Nat)(t:Tr Value)(k:Nat),(Yw i vs t).get k=if i<=k/\k<i+vs.length then vs[k-i]? else t.get k
 |[],i,t,k=>by rw[if_neg (by rw[List.length_nil];omega)];rfl
 |v::vs,i,t,k=>by
  simp only[Yw];rw[DI vs (i+1) (t.set i v) k,Tr.get_set];by_cases h:i+1<=k/\k<i+1+vs.length
  ·rw[if_pos h,if_pos (by simp;omega)];have:k-i=(k-(i+1))+1:=by omega
   rw[this];rfl
  ·rw[if_neg h];by_cases e:k=i;·subst e;rw[if_pos rfl,if_pos (by simp)];simp
   ·rw[if_neg e,if_neg (by simp;omega)]
theorem EI{B:Nat}{S:Nat->Prop}{L:Nat->Loc}{H:AH}{w:World}{P:Program}(hI:Inv B S L H w){t:TypeId}{x x' v:Value}(h:Z4 P H t x=some v)(hx:VR S L x x'): ∃v',(do loadVar t (<-asAddr x'):Sem Value).run P w= .ok v' w/\VR S L v v':=by
 obtain⟨v',h1,h2⟩:=Hu (P:=P) hI h hx;refine⟨v',?_,h2⟩;unfold Z4 at h;split at h<;>first|(cases h;done)|skip
 cases hx with|ptr i o hS=>simp only[Instr.loadAt,Instr.sureAddr,Sem.run_bind,Sem.run_pure,Result.andThen_ok]at h1;simp only[asAddr,Sem.run_bind,Sem.run_pure,Result.andThen_ok,h1]
def BZ(tmps:Array Value)(r:ResultVar):Sem Value:=match r with| .tmp t=>pure (tmps.getD t undef)| .cell c t=>do loadVar t (<-asAddr (tmps.getD c undef))
theorem BX(fn:Func)(tmps:Array Value):results fn tmps=(do let vs<-fn.results.mapM (BZ tmps);pure (if h:vs.size=1 then vs[0]else .tuple vs)):=rfl
theorem LZ{Df:List Deferred}{B:Nat}{S:Nat->Prop}{L:Nat->Loc}{w:World}{P:Program}{s:St}{a:Act}(hA:AI Df S L s.k s.tm a)(hI:Inv B S L s.H w): ∀(rs:List ResultVar)(vs:List Value),Zw P s rs=some vs-> ∃LU,(rs.mapM (BZ a.tmps):Sem (List Value)).run P w= .ok LU w/\UQ S L vs LU
 |[],vs,h=>by simp only[Zw]at h;obtain rfl:=Option.some.inj h;exact⟨[],by simp,.nil⟩
 |r::rs,vs,h=>by simp only[Zw]at h;cases hr:ZH P s r with
  |none=>rw[hr]at h;cases h
  |some v=>rw[hr]at h;simp only at h;cases CI:Zw P s rs with
   |none=>rw[CI]at h;cases h
   |some vs1=>
    rw[CI]at h;obtain rfl:=Option.some.inj h;obtain⟨LU,h1,h2⟩:=LZ hA hI rs vs1 CI;have On: ∃v',(BZ a.tmps r).run P w= .ok v' w/\VR S L v v':=by cases r with
     |tmp t=>exact⟨_,rfl,(hA.tmp t v hr).2⟩
     |cell c t=>simp only[ZH]at hr;cases hc:s.tm.get c with|none=>rw[hc]at hr;cases hr|some x=>rw[hc]at hr;exact EI hI hr (hA.tmp c x hc).2
    obtain⟨v',h3,h4⟩:=On;refine⟨v'::LU,?_,.cons h4 h2⟩;rw[List.mapM_cons];simp only[Sem.run_bind,h3,Result.andThen_ok,h1,Sem.run_pure]
theorem Rw{Df:List Deferred}{B:Nat}{S:Nat->Prop}{L:Nat->Loc}{w:World}{P:Program}{s:St}{a:Act}(hA:AI Df S L s.k s.tm a)(hI:Inv B S L s.H w){fn:Func}{vs:List Value}(h:Zw P s fn.results.toList=some vs): ∃v',(results fn a.tmps).run P w= .ok v' w/\VR S L (Z5 vs) v':=by
 obtain⟨LU,h1,h2⟩:=LZ (P:=P) hA hI _ _ h;have h3:(results fn a.tmps).run P w= .ok (if h:LU.toArray.size=1 then LU.toArray[0]else .tuple LU.toArray) w:=by rw[BX,Array.mapM_eq_mapM_toList];simp only[Sem.run_bind,Sem.run_map,h1,Result.andThen_ok,Sem.run_pure]
 refine⟨_,h3,?_⟩;match vs,LU,h2 with
  |[v],[v'],h2=>exact h2.2 0 v v' rfl rfl
  |[],[],h2=>exact .tuple _ _ rfl (fun k v v' h=>by simp at h)
  |v::u::r,v'::u'::r',h2=>
   have e: ¬ ((v'::u'::r').toArray.size=1):=by simp
   rw[dif_neg e];exact .tuple _ _ (by simpa using h2.1) (fun k x y hx hy=>h2.2 k x y (by simpa using hx) (by simpa using hy))
  |[],_::_,h2=>have:=h2.1;simp at this
  |[v],[],h2=>have:=h2.1;simp at this
  |[v],_::_::_,h2=>have:=h2.1;simp at this
  |_::_::_,[],h2=>have:=h2.1;simp at this
  |_::_::_,[_],h2=>have:=h2.1;simp at this
section
variable {P : Program} {C : Cfg} {B : Nat}
theorem IG{S:Nat->Prop}{L:Nat->Loc}{tm:Tr Value}{a:Act}{c:Call}{g:FuncId}{args:List Value}(hx: ∀x∈c.operands,∀u,YE C tm x=some u->VR S L u (a.eval x))(h:ZD C tm c=some (g,args))(ty:TypeId): ∃Ol cs':Array Value,∃UL:List Value,(∀w,(resolve a.eval c ty).run P w= .ok { target:= .fn (.func g) cs',args:=Ol++UL.toArray } w)/\UQ S L args (Ol.toList++UL++cs'.toList):=by
 obtain⟨callee,VT,ks⟩:=c;unfold ZD at h;cases callee<;>simp only at h<;>first|(cases h;done)|skip
 rename_i f;split at h<;>first|(cases h;done)|skip
 rename_i fv h1;split at h<;>first|(cases h;done)|skip
 rename_i g' fs cs xs h3 h4;injection h with h;injection h with e1 e2;subst e1;subst e2;have hf:=hx f (by simp[Call.operands]) _ h1;have hxs:=SG (ρ:=a.eval) (fun x qV u h=>hx x (by simp only[Call.operands,Array.mem_append];exact .inr (by simpa using qV)) u h) h4;generalize mT:a.eval f=f' at hf;unfold ZU at h3;split at h3<;>first|(cases h3;done)|skip
 rename_i g0 fs0 Wr;injection h3 with h3;injection h3 with h5 h6;injection h6 with h6 h7;subst h5;subst h6;subst h7;cases hf with
  |func _ _ Ol _ cs' e1 q1 e2 q2=>
   have kV:UQ S L fs0.toList Ol.toList:=⟨by simpa using e1,fun k x y hx hy=>q1 k x y (by simpa using hx) (by simpa using hy)⟩;have S9:UQ S L Wr.toList cs'.toList:=⟨by simpa using e2,fun k x y hx hy=>q2 k x y (by simpa using hx) (by simpa using hy)⟩;refine⟨Ol,cs',VT.toList.map a.eval,fun w=>?_,(kV.append hxs).append S9⟩;have e:VT.map a.eval=(VT.toList.map a.eval).toArray:=by apply Array.ext';simp
   simp[resolve,mT,Deferred.ofValue,e]
theorem KG{Df:List Deferred}{call M9:FuncId->List Value->AH->Option (Value×AH)}(Xb:W5 P C B call)(mV:HE P C B M9){ops:Array Oper}{Q:Exit->Act->World->Prop} : ∀(l:List Oper)(k:Nat)(s:St)(ex:Ex)(s':St)(S:Nat->Prop)(L:Nat->Loc)(a:Act)(w:World),GO C S L->(∀j,l[j]?=ops[k+j]?)->SS P C call M9 ops l s=some (ex,s')->AI Df S L s.k s.tm a->Inv B S L s.H w->(∀e a' w',Rz Df B S L s.H w ex s' e a' w'->Q e a' w')->wpOps P ops Q (List.range' k l.length) a w
 |[],k,s,ex,s',S,L,a,w,hG,hl,h,hA,hI,hQ=>by cases h
 |o::rest,k,s,ex,s',S,L,a,w,hG,hl,h,hA,hI,hQ=>by
  have h0:ops[k]?=some o:=by simpa using(hl 0).symm
  have Lj: ∀j,rest[j]?=ops[k+1+j]?:=fun j=>by have:=hl (j+1);simpa[Nat.add_assoc,Nat.add_comm 1 j]using this
  rw[List.length_cons,List.range'_succ,wpOps_cons];unfold wpOp;rw[h0];dsimp only;simp only[SS]at h;split at h<;>first|(cases h;done)|skip
  ·rename_i hw;rw[UT hw (hA.guard o),if_pos rfl];split at h
   ·rename_i v H1 hp;injection h with h;injection h with e1 e2;subst e1;subst e2;refine .inl ?_;unfold Oper.wp;unfold Yk at hp;split at hp<;>first|(cases hp;done)|skip
    ·rename_i x Y7;split at hp<;>first|(cases hp;done)|skip
     rename_i t u hx;injection hp with hp;injection hp with e1 e2;subst e1;subst e2;have hv:=MC hG hA hx;generalize MK:a.eval x=x' at hv;have RB:(execOp a.eval o).run P w= .halt (.panic x') w:=by obtain⟨dst,op,ty,pos,after,guard⟩:=o;simp only at Y7;subst Y7;cases hv with|iface _ _ u' hu=>simp[execOp,MK,Instr.panic]
     rw[RB];exact hQ _ a w ⟨x',rfl,L,hA.mono (fun _ h=> .inl h) (fun _ _=>rfl),hI.mono (fun _ h=> .inl h) (fun i h=>hI.bd i (Xc h)),Fr.refl hI,hv.mono (fun _ h=> .inl h) (fun _ _=>rfl)⟩
    ·rename_i c Y7;split at hp<;>first|(cases hp;done)|skip
     rename_i g args hd;obtain⟨dst,op,ty,pos,after,guard⟩:=o;simp only at Y7;subst Y7;obtain⟨Ol,cs',UL,h2,h3⟩:=IG (P:=P) (fun x _ u hx=>MC hG hA hx) hd ty;obtain⟨h4,h5⟩:=mV g args s.H v H1 hp S L w _ hG hI h3;have e:Ol++UL.toArray++cs'=(Ol.toList++UL++cs'.toList).toArray:=by apply Array.ext';simp
     have RB:(execOp a.eval { dst,op:=Op.call c,type:=ty,pos,after,guard }).run P w= .ok (.enter g (Ol.toList++UL++cs'.toList).toArray) w:=by simp only[execOp,Sem.run_bind,h2,Result.andThen_ok,invoke];rw[e,h4]
     rw[RB];refine Calls.mono h5 fun e w' ⟨v',he,hg⟩=>?_;subst he;obtain⟨L1,g1,g2,g3⟩:=hg;exact hQ _ a w' ⟨v',rfl,L1,hA.mono (fun _ h=> .inl h) g2.agree,g1,g2,g3⟩
   ·split at h<;>first|(cases h;done)|skip
    rename_i v H1 Y7;split at h<;>first|(cases h;done)|skip
    rename_i s1 YN;refine .inl ((Wj Xb hG hI (fun x _ u hx=>MC hG hA hx) Y7).wp fun v' w1 Ez=>?_);obtain⟨L1,g1,g2,g3⟩:=Ez;obtain⟨e1,e2,_⟩:=Xq YN;subst e1;refine KG Xb mV rest (k+1) s1 ex s' _ L1 _ w1 (hG.mono (fun _ h=> .inl h) g2.agree) Lj h (hA.put (fun _ h=> .inl h) g2.agree g3 YN) g1 fun e a' w' hd=>hQ e a' w' (hd.trans hI g1 g2)
  ·rename_i hw;rw[UT hw (hA.guard o),if_neg (by simp)];split at h<;>first|(cases h;done)|skip
   rename_i s1 YN;obtain⟨e1,e2,_⟩:=Xq YN;refine KG Xb mV rest (k+1) s1 ex s' S L _ w hG Lj h (hA.put (fun _ h=>h) (fun _ _=>rfl) PM YN) (by rw[e1];exact hI) fun e a' w' hd=>hQ e a' w' (by rw[e1]at hd;exact hd)
end
theorem ao{next:Act->World->Prop}{Q:Exit->Act->World->Prop}{e:Exit}{a:Act}{w:World}(h:e≠ .normal)(hQ:Q e a w):Exit.then next Q e a w:=by cases e<;>first|exact absurd rfl h|exact hQ
theorem oQ{P:Program}{C:Cfg}{B:Nat}(hC:CfgOk P C){ih:Lv}(D8:LvOk P C B ih)(hcO:PJ P C B (Wf P C ih)):dD P C B (Wb P C ih):=by
 have Xb:W5 P C B (YC P C ih):=hcO.ret;have mV:HE P C B (XJ P C ih):=hcO.pan;have ih:=D8.code;intro c s ex s' h Df S L a w hG hA hI Q hQ;cases c<;>simp only[Wb]at h<;>first|(cases h;done)|skip
 case skip=>injection h with h;injection h with h1 h2;subst h1;subst h2;exact⟨wp_skip (hQ _ a w ⟨rfl,UK.refl hA hI⟩),fun _ e=>by cases e⟩
 case exit id=>injection h with h;injection h with h1 h2;subst h1;subst h2;exact⟨wp_exit (hQ _ a w ⟨rfl,UK.refl hA hI⟩),fun _ e=>by cases e⟩
 case ret=>injection h with h;injection h with h1 h2;subst h1;subst h2;exact⟨wp_ret (hQ _ a w ⟨rfl,UK.refl hA hI⟩),fun _ e=>by cases e⟩
 case region id ops draw=>
  split at h;·rename_i s1 hr;injection h with h;injection h with h1 h2;subst h1;subst h2;exact⟨F7 hC.mixed Xb hr hG hA hI (fun a' w' hd=>hQ _ a' w' ⟨rfl,hd⟩) id,fun _ e=>by cases e⟩
  ·cases draw with|true=>cases h|false=>rw[cond_false]at h;refine⟨wp_region ?_,fun _ e=>by cases e⟩;have:=KG (Q:=Q) Xb mV ops.toList 0 s ex s' S L a w hG (fun j=>by simp) h hA hI hQ;rw[List.range_eq_range'];simpa using this
 case seq x y=>
  refine⟨wp_seq ?_,fun _ e=>by cases e⟩;split at h;·rename_i s1 hx;refine(ih x s .norm s1 hx Df S L a w hG hA hI _ fun e a1 w1 hd=>?_).1;obtain⟨rfl,hd⟩:=hd;obtain⟨L1,d1,d2,d3⟩:=hd;exact(ih y s1 ex s' h Df _ L1 a1 w1 (hG.mono (fun _ h=> .inl h) d3.agree) d1 d2 Q fun e a2 w2 Kj=>hQ e a2 w2 (Kj.trans hI d2 d3)).1
  ·rename_i Ug;refine(ih x s ex s' h Df S L a w hG hA hI _ fun e a1 w1 hd=>ao (hd.not_normal fun e=>?_) (hQ e a1 w1 hd)).1;subst e;exact Ug s' h
 case cond x y z=>
  refine⟨?_,fun _ e=>by cases e⟩;split at h<;>first|(cases h;done)|skip
  rename_i t hx;have hv:=N6 hG (fun t v _ hv=>(hA.tmp t v hv).2) hx;generalize MK:a.eval x=u at hv;cases hv;refine wp_cond MK ?_;have:=(ih (cond t y z) s ex s' h Df S L a w hG hA hI Q hQ).1;cases t<;>exact this
 case block id body=>
  refine⟨wp_block ?_,fun _ e=>by cases e⟩;split at h;·rename_i j s1 hb;refine(ih body s (.exit j) s1 hb Df S L a w hG hA hI _ fun e a1 w1 hd=>?_).1;obtain⟨rfl,hd⟩:=hd;cases hj:Nat.beq j id with
   |true=>rw[hj,cond_true]at h;injection h with h;injection h with h1 h2;subst h1;subst h2;have e:=Nat.eq_of_beq_eq_true hj;show Exit.inBlock id Q (.exit j) a1 w1;simp only[Exit.inBlock,e,if_true];exact hQ _ a1 w1 ⟨rfl,hd⟩
   |false=>
    rw[hj,cond_false]at h;injection h with h;injection h with h1 h2;subst h1;subst h2;have e:j≠id:=fun e=>by subst e;rw[Nat.beq_refl]at hj;cases hj
    show Exit.inBlock id Q (.exit j) a1 w1;simp only[Exit.inBlock,e,if_false];exact hQ _ a1 w1 ⟨rfl,hd⟩
  ·rename_i Ug;refine(ih body s ex s' h Df S L a w hG hA hI _ fun e a1 w1 hd=>?_).1;cases ex with|norm=>rw[hd.1];exact hQ _ a1 w1 ⟨rfl,hd.2⟩|exit j=>exact absurd h (Ug j s')|ret=>rw[hd.1];exact hQ _ a1 w1 ⟨rfl,hd.2⟩|pan v=>have:=hQ e a1 w1 hd;obtain⟨v',rfl,_⟩:=hd;exact this
 case loop body=>
  have key:LW P body Q a w:=by
   intro b k cs;split at h;·rename_i s1 hb;have h1:=(ih body s .norm s1 hb Df S L a w hG hA hI (fun e a1 w1=>e= .normal/\UK Df B S L s.H w s1 a1 w1) fun e a1 w1 hd=>hd).1;obtain⟨e,a1,w1,⟨rfl,hd⟩,gw⟩:=h1 b (.inLoop body::k) cs;obtain⟨L1,d1,d2,d3⟩:=hd;have h2:=(ih (.loop body) s1 ex s' h Df _ L1 a1 w1 (hG.mono (fun _ h=> .inl h) d3.agree) d1 d2 Q fun e a2 w2 Kj=>hQ e a2 w2 (Kj.trans hI d2 d3)).2 body rfl;obtain⟨e2,a2,w2,hq,yh⟩:=h2 b k cs;have yg:Steps P (lone (b.at a (.code body:: .inLoop body::k)) cs w) (lone (b.at a1 (.inLoop body::k)) cs w1):=gw;exact⟨e2,a2,w2,hq,.of_steps (yg.trans (.one step_inLoop)) yh⟩
   ·rename_i Ug;have h1:=(ih body s ex s' h Df S L a w hG hA hI (Exit.then (fun _ _=>False) Q) fun e a1 w1 hd=>ao (hd.not_normal fun e=>by subst e;exact Ug s' h) (hQ e a1 w1 hd)).1;obtain⟨e,a1,w1,hq,gw⟩:=h1 b (.inLoop body::k) cs;have hne':e≠ .normal:=fun e'=>by subst e';exact hq
    refine⟨e,a1,w1,?_,.pass (x:= .inLoop body) rfl (fun a w=> .inl hne') gw⟩;cases e<;>first|exact hq.elim|exact hq
  exact⟨key.wp,fun body' e=>by cases e;exact key⟩
section
variable {P : Program} {C : Cfg} {B : Nat}
theorem fN(hC:CfgOk P C){ih:Lv}(D8:LvOk P C B ih){rv:Value}{cs cs':List Frame}(NN:recoverD cs=some (rv,cs')\/(recoverD cs=none/\rv= .nilIface/\cs'=cs)): ∀(c:Code)(s:St)(ex:Ex)(s':St),F8 P C ih rv c s=some (ex,s')->(ex= .norm\/ex= .ret)/\ ∀S L a w,GO C S L->AI [] S L s.k s.tm a->Inv B S L s.H w-> ∀Q:Exit->Act->List Frame->World->Prop,(∀a' w',UK [] B S L s.H w s' a' w'->Q (KE ex) a' cs' w')->c.wpS P Q a cs w:=by intro c;induction c with
 |seq x y zt zu=>intro s ex s' h;simp only[F8]at h;cases hf:RF x with
  |true=>
   rw[hf,cond_true]at h;split at h<;>first|(cases h;done)|skip
   rename_i s1 h1;have hnr:ih.code y s1=some (ex,s')/\(ex= .norm\/ex= .ret):=by
    unfold N4 at h;split at h<;>first|(cases h;done)|skip
    ·rename_i s2 e;injection h with h;injection h with e1 e2;subst e1;subst e2;exact⟨e,.inl rfl⟩
    ·rename_i s2 e;injection h with h;injection h with e1 e2;subst e1;subst e2;exact⟨e,.inr rfl⟩
   refine⟨hnr.2,fun S L a w hG hA hI Q hQ=>wpS_seq ((zt s .norm s1 h1).2 S L a w hG hA hI _ fun a1 w1 hd=>?_)⟩;obtain⟨L1,d1,d2,d3⟩:=hd;show y.wpS P Q a1 cs' w1;refine wpS_of_wp (D8.code y s1 ex s' hnr.1 [] _ L1 a1 w1 (hG.mono (fun _ h=> .inl h) d3.agree) d1 d2 _ fun e a2 w2 Kj=>?_).1;have Ii:=Kj.trans hI d2 d3;rcases hnr.2 with e1|e1<;>(subst e1;rw[Ii.1];exact hQ a2 w2 Ii.2)
  |false=>
   rw[hf,cond_false]at h;split at h<;>first|(cases h;done)|skip
   rename_i s1 h1;obtain⟨g1,g2⟩:=zu s1 ex s' h;refine⟨g1,fun S L a w hG hA hI Q hQ=>wpS_seq (wpS_of_wp (D8.code x s .norm s1 h1 [] S L a w hG hA hI _ fun e a1 w1 hd=>?_).1)⟩;obtain⟨rfl,hd⟩:=hd;obtain⟨L1,d1,d2,d3⟩:=hd;exact g2 _ L1 a1 w1 (hG.mono (fun _ h=> .inl h) d3.agree) d1 d2 Q fun a2 w2 Kj=>hQ a2 w2 (Kj.trans hI d2 d3)
 |region id ops draw=>intro s ex s' h;simp only[F8]at h;cases ho:Rr ops with
  |false=>rw[ho]at h;cases h
  |true=>
   rw[ho,cond_true]at h;split at h<;>first|(cases h;done)|skip
   rename_i s1 h1;injection h with h;injection h with e1 e2;subst e1;subst e2;refine⟨.inl rfl,fun S L a w hG hA hI Q hQ=>?_⟩;have s6:=NY (Q:=fun e a' w'=>e= .normal/\UK [] B S L s.H w s1 a' w') hC.mixed D8.call h1 hG hA hI fun a' w' hd=>⟨rfl,hd⟩;exact BO hC.mixed (fun e a w q=>q.1) NN (fun a w q=>hQ a w q.2) ho (fun e=>by subst e;exact KF h1) s6 id
 |_=>intro s ex s' h;cases h
theorem KK{S:Nat->Prop}{L:Nat->Loc}{args args':List Value}(Hj:UQ S L args args')(n:Nat):AI [] S L (args.length+(n-args.length)) (Yw 0 args .nil) { tmps:=args'.toArray++Array.replicate (n-args'.toArray.size) undef,defers:=[] } :=by
 have hlen:=Hj.1;refine⟨rfl,by simp[hlen],fun t u hu=>?_⟩;rw[DI]at hu;split at hu
 ·rename_i ht;simp only[Nat.sub_zero]at hu;obtain⟨u',h1,h2⟩:=Hj.get hu;have YW:t<args'.length:=by omega
  refine⟨by omega,?_⟩;have:(args'.toArray++Array.replicate (n-args'.toArray.size) undef).getD t undef=u':=by rw[Array.getD_eq_getD_getElem?];rw[Array.getElem?_append,if_pos (by simpa using YW),List.getElem?_toArray,h1];rfl
  show VR S L u ((args'.toArray++Array.replicate (n-args'.toArray.size) undef).getD t undef);rw[this];exact h2
 ·cases hu
theorem HN(hC:CfgOk P C){f:FuncId}{fn:Func}{c:Code}(br:P.funcs[f]?=some fn)(SO:fn.body=some c)(args:Array Value)(w:World):(callFunc f args).run P w= .ok (.enter f args) w:=by
 have gN:=hC.names f fn br (by rw[SO];rfl);have CM:fn.name≠ "runtime.NumGoroutine":=by simpa using gN
 simp[callFunc,br,CM,SO]
def Vb:FrameMode->FrameMode| .panicking [{ v:=v,recovered:=false,goexit:=false }]=> .panicking [{ v:=v,recovered:=true }]|m=>m
theorem Fi{u:FrameMode}(h:u= .returning\/ ∃v,u= .panicking [{ v:=v,recovered:=false }]):settle (Vb u)= .returning:=by rcases h with rfl|⟨v,rfl⟩<;>rfl
theorem cL{u:FrameMode}{rv:Value}(h:(u= .returning/\rv= .nilIface)\/u= .panicking [{ v:=rv,recovered:=false }])(c:Frame)(hc:c.mode=u)(cs:List Frame):recoverD (c::cs)=some (rv,{ c with mode:=Vb u } ::cs)\/(recoverD (c::cs)=none/\rv= .nilIface/\({ c with mode:=Vb u } ::cs)=c::cs):=by
 rcases h with⟨rfl,rfl⟩|rfl;·right;refine⟨by simp[recoverD,hc],rfl,?_⟩;rw[show Vb .returning=c.mode from hc.symm]
 ·left;simp[recoverD,hc];rfl
theorem fR(hC:CfgOk P C){ih:Lv}(D8:LvOk P C B ih){g:FuncId}{args:List Value}{rv:Value}{H H':AH}(h:Pf P C ih g args rv H=some H'){S:Nat->Prop}{L:Nat->Loc}{w:World}{args':List Value}(hG:GO C S L)(hI:Inv B S L H w)(ha:UQ S L args args'){u:FrameMode}(hu:(u= .returning/\rv= .nilIface)\/u= .panicking [{ v:=rv,recovered:=false }]): ∃fn,P.funcs[g]?=some fn/\fn.body.isSome=true/\CallsD P g args'.toArray u w fun e u' w'=>(∃v,e= .returned v)/\u'=Vb u/\ ∃L',Inv B (ext S H.n H'.n) L' H' w'/\Fr S L H w L' H' w':=by
 unfold Pf at h;split at h<;>first|(cases h;done)|skip
 rename_i fn br;split at h<;>first|(cases h;done)|skip
 rename_i c SO;refine⟨fn,br,by rw[SO];rfl,callsD_of_wpS br SO fun c₀ cs hc=>?_⟩;have NN:=cL hu c₀ hc cs;have fin: ∀(ex:Ex)(s1:St)(vs:List Value),(ex= .norm\/ex= .ret)->Zw P s1 fn.results.toList=some vs->s1.H=H'-> ∀a' w',UK [] B S L H w s1 a' w'->bodyPostS P fn c₀ cs (fun e u' w'=>(∃v,e= .returned v)/\u'=Vb u/\ ∃L',Inv B (ext S H.n H'.n) L' H' w'/\Fr S L H w L' H' w') (KE ex) a' ({ c₀ with mode:=Vb u } ::cs) w':=fun ex s1 vs hex hr he a' w' hd=>by obtain⟨L',d1,d2,d3⟩:=hd;obtain⟨v',r1,r2⟩:=Rw (P:=P) d1 d2 hr;subst he;have:a'.defers=[]/\ ∃u',({ c₀ with mode:=Vb u } ::cs)= { c₀ with mode:=u' } ::cs/\ ∃v,(results fn a'.tmps).run P w'= .ok v w'/\(∃v1,Ending.returned v= .returned v1)/\u'=Vb u/\ ∃L',Inv B (ext S H.n s1.H.n) L' s1.H w'/\Fr S L H w L' s1.H w':=⟨d1.defers,Vb u,rfl,v',r1,⟨v',rfl⟩,rfl,L',d2,d3⟩;rcases hex with rfl|rfl<;>exact this
 split at h<;>first|(cases h;done)|skip
 ·rename_i s1 he;split at h<;>first|(cases h;done)|skip
  rename_i vs hr;exact(fN hC D8 NN c _ _ _ he).2 S L _ w hG (KK ha fn.ntmps) hI _ (fin _ s1 vs (.inl rfl) hr (Option.some.inj h))
 ·rename_i s1 he;split at h<;>first|(cases h;done)|skip
  rename_i vs hr;exact(fN hC D8 NN c _ _ _ he).2 S L _ w hG (KK ha fn.ntmps) hI _ (fin _ s1 vs (.inr rfl) hr (Option.some.inj h))
theorem Gn{c:Code}{a:Code}{ops:Array Oper}{o1:Oper}{dc:Call}{rest:Code}(h:Rj c=some (a,ops,o1,dc,rest)): ∃id ty pos after,c= .seq a (.seq (.region id ops false) rest)/\ops.toList=[o1,⟨none,.defer dc,ty,pos,after,none⟩]:=by
 unfold Rj at h;split at h<;>first|(cases h;done)|skip
 rename_i a' id ops' rest';unfold fy at h;split at h<;>first|(cases h;done)|skip
 rename_i kM c' ty pos after EV;injection h with h;injection h with e1 h;injection h with e2 h;injection h with e3 h;injection h with e4 e5;subst e1;subst e2;subst e3;subst e4;subst e5;exact⟨id,ty,pos,after,rfl,EV⟩
theorem Bv{ex:Ex}{rv:Value}(h:VI ex=some rv){Df:List Deferred}{S:Nat->Prop}{L:Nat->Loc}{H:AH}{w:World}{s':St}{e:Exit}{a':Act}{w':World}(hd:Rz Df B S L H w ex s' e a' w'):UK Df B S L H w s' a' w'/\(((e= .normal\/e= .ret)/\rv= .nilIface)\/e= .panic [{ v:=rv,recovered:=false }]):=by
 unfold VI at h;split at h<;>first|(cases h;done)|skip
 ·obtain rfl:=Option.some.inj h;exact⟨hd.2,.inl ⟨.inl hd.1,rfl⟩⟩
 ·obtain rfl:=Option.some.inj h;exact⟨hd.2,.inl ⟨.inr hd.1,rfl⟩⟩
 ·rename_i v;cases hp:plain v with
  |false=>rw[hp]at h;cases h
  |true=>
   rw[hp,cond_true]at h;split at h<;>first|(cases h;done)|skip
   obtain rfl:=Option.some.inj h;obtain⟨v',he,L',d1,d2,d3,d4⟩:=hd;obtain rfl:=jt hp d4;exact⟨⟨L',d1,d2,d3⟩,.inr he⟩
theorem Ad(hC:CfgOk P C){ih:Lv}(D8:LvOk P C B ih):PJ P C B (Wf P C ih):=by intro f args H o H' h S L w args' hG hI Hj;unfold Wf at h;cases hfa:Nat.beq f C.add with
 |true=>
  rw[hfa,cond_true]at h;obtain rfl:=Nat.eq_of_beq_eq_true hfa;split at h<;>first|(cases h;done)|skip
  rename_i x y c hn;injection h with h;injection h with h1 h2;subst h1;subst h2;obtain⟨rfl,hc⟩:=Lq hn Hj;obtain⟨fn,e1,e2,e3,e4,e5⟩:=hC.add;refine .inl ⟨_,_,w,rfl,?_,Good.same hI (v':= .tuple #[.int .u64 (Int.ofNat ((x+y+c)%18446744073709551616)),.int .u64 (Int.ofNat ((x+y+c)/18446744073709551616))]) (VK rfl)⟩;rw[run_callFunc_extern e1 e2 e3 e4 e5];show((add64Entry #[.int .u64 x,.int .u64 y,.int .u64 c]).run P w).andThen _=_;rw[oV x y c hc w];rfl
 |false=>rw[hfa,cond_false]at h;cases kV:Nat.beq f C.sub with
  |true=>
   rw[kV,cond_true]at h;obtain rfl:=Nat.eq_of_beq_eq_true kV;split at h<;>first|(cases h;done)|skip
   rename_i x y c hn;injection h with h;injection h with h1 h2;subst h1;subst h2;obtain⟨rfl,hc⟩:=Lq hn Hj;obtain⟨fn,e1,e2,e3,e4,e5⟩:=hC.sub;refine .inl ⟨_,_,w,rfl,?_,Good.same hI (v':= .tuple #[.int .u64 (Int.ofNat ((x+18446744073709551616-y-c)%18446744073709551616)),.int .u64 (cond (Nat.blt x (y+c)) 1 0)]) (VK rfl)⟩;rw[run_callFunc_extern e1 e2 e3 e4 e5];show((Mi #[.int .u64 x,.int .u64 y,.int .u64 c]).run P w).andThen _=_;rw[oU x y c hc w];rfl
  |false=>
   rw[kV,cond_false]at h;split at h<;>first|(cases h;done)|skip
   rename_i fn br;split at h<;>first|(cases h;done)|skip
   rename_i c SO;have hA:=KK Hj fn.ntmps;right;refine⟨HN hC br SO _ w,?_⟩;unfold SX at h;split at h
   ·rename_i x a ops o1 dc rest hdf;obtain⟨id,ty,pos,after,rfl,EV⟩:=Gn hdf;unfold Vk at h;split at h<;>first|(cases h;done)|skip
    rename_i s1 ha;split at h<;>first|(cases h;done)|skip
    rename_i s2 hl;split at h<;>first|(cases h;done)|skip
    rename_i g La hd;split at h<;>first|(cases h;done)|skip
    rename_i ex s3 hr;split at h<;>first|(cases h;done)|skip
    rename_i rv hrv;split at h<;>first|(cases h;done)|skip
    rename_i H4 hdef;split at h<;>first|(cases h;done)|skip
    rename_i vs MM;injection h with h;injection h with h1 h2;subst h1;subst h2;refine calls_of_wp_defers br SO (wp_seq ((D8.code a _ .norm s1 ha [] S L _ w hG hA hI _ fun e a1 w1 Ih=>?_).1));obtain⟨rfl,Ih⟩:=Ih;obtain⟨L1,d1,d2,d3⟩:=Ih;have UO:=hG.mono (S':=ext S H.n s1.H.n) (L':=L1) (fun _ h=> .inl h) d3.agree;refine wp_seq (wp_region ?_);have X4:ops.size=2:=by have:=congrArg List.length EV;simpa using this
    have gL:ops[0]?=some o1:=by rw[<-Array.getElem?_toList,EV];rfl
    have yJ:ops[1]?=some ⟨none,.defer dc,ty,pos,after,none⟩:=by rw[<-Array.getElem?_toList,EV];rfl
    rw[X4];show wpOps P ops _ [0,1] a1 w1;have next: ∀(a2:Act)(w2:World),UK [] B (ext S H.n s1.H.n) L1 s1.H w1 s2 a2 w2->wpOps P ops (Exit.then (fun a' w'=>rest.wp P (bodyPostD P fn fun e w'=>BA B S L H w (.ret (Z5 vs)) H4 e w') a' w') (bodyPostD P fn fun e w'=>BA B S L H w (.ret (Z5 vs)) H4 e w')) [1] a2 w2:=fun a2 w2 Kj=>by
     have hd2':=Kj.trans hI d2 d3;obtain⟨L2,f1,f2,f3⟩:=hd2';have LK:=hG.mono (S':=ext S H.n s2.H.n) (L':=L2) (fun _ h=> .inl h) f3.agree;rw[wpOps_cons];unfold wpOp;rw[yJ];dsimp only;have RA:Region.wanted ⟨none,.defer dc,ty,pos,after,none⟩ (yielded ops a2.tmps)=true:=rfl;rw[RA,if_pos rfl];refine .inl ?_;obtain⟨Ol,cs',UL,q1,q2⟩:=IG (P:=P) (fun x _ u hx=>MC LK f1 hx) hd ty;have RB:(execOp a2.eval ⟨none,.defer dc,ty,pos,after,none⟩).run P w2= .ok (.defer { target:= .fn (.func g) cs',args:=Ol++UL.toArray }) w2:=by simp only[execOp,Sem.run_bind,q1,Result.andThen_ok,Sem.run_pure]
     unfold Oper.wp;rw[RB];have f1d:=f1.defers;show rest.wp P _ { a2 with defers:= { target:= .fn (.func g) cs',args:=Ol++UL.toArray } ::a2.defers } w2;rw[f1d];have hA2:AI [{ target:= .fn (.func g) cs',args:=Ol++UL.toArray }] (ext S H.n s2.H.n) L2 s2.k s2.tm { a2 with defers:=[{ target:= .fn (.func g) cs',args:=Ol++UL.toArray }] } :=⟨rfl,f1.size,f1.tmp⟩;refine(D8.code rest s2 ex s3 hr _ _ L2 _ w2 LK hA2 f2 _ fun e a3 w3 Ii=>?_).1;obtain⟨Ii,yL⟩:=Bv hrv Ii;obtain⟨L3,g1,g2,g3⟩:=Ii;rw[Kg f3.n g3.n]at g1 g2;have g30:=f3.trans hI f2 (fun _ h=> .inl h) g3;have xL:=hG.mono (S':=ext S H.n s3.H.n) (L':=L3) (fun _ h=> .inl h) g30.agree;have leave: ∀u:FrameMode,((u= .returning/\rv= .nilIface)\/u= .panicking [{ v:=rv,recovered:=false }])->Leaves P fn a3.tmps (fun e w'=>BA B S L H w (.ret (Z5 vs)) H4 e w') a3.defers u w3:=fun u hu=>by
      rw[g1.defers];have se:UQ (ext S H.n s3.H.n) L3 La (Ol.toList++UL++cs'.toList):=q2.mono (fun i hi=>by
       rcases hi with hi|⟨h1,h2⟩;·exact .inl hi
       ·exact .inr ⟨h1,Nat.lt_of_lt_of_le h2 g3.n⟩) (fun i hi=>g3.agree i hi);obtain⟨fng,hfg,hbg,hcd⟩:=fR hC D8 hdef xL g2 se hu;obtain⟨cg,hcg⟩: ∃cg,fng.body=some cg:=Option.isSome_iff_exists.mp hbg;have e:Ol++UL.toArray++cs'=(Ol.toList++UL++cs'.toList).toArray:=by apply Array.ext';simp
      refine leaves_cons (by rcases hu with⟨rfl,_⟩|rfl<;>simp) (f:=g) (args:=(Ol.toList++UL++cs'.toList).toArray) (by simp only[invoke];rw[e];exact HN hC hfg hcg _ w3) (hcd.mono fun e u' w4 hx=>?_);obtain⟨⟨v4,rfl⟩,rfl,L4,i1,i2⟩:=hx;show Leaves P fn a3.tmps _ [] (settle (Vb u)) w4;rw[Fi (by rcases hu with⟨h,_⟩|h;exact .inl h;exact .inr ⟨_,h⟩)];rw[Kg g30.n i2.n]at i1;have g4:=g30.trans hI g2 (fun _ h=> .inl h) i2;have hA4:AI a3.defers (ext S H.n H4.n) L4 s3.k s3.tm a3:=⟨rfl,g1.size,fun t v ht=>⟨(g1.tmp t v ht).1,(g1.tmp t v ht).2.mono (fun i hi=>by
       rcases hi with hi|⟨h1,h2⟩;·exact .inl hi
       ·exact .inr ⟨h1,Nat.lt_of_lt_of_le h2 i2.n⟩) (fun i hi=>i2.agree i hi)⟩⟩;obtain⟨v',r1,r2⟩:=Rw (P:=P) (s:= { k:=s3.k,tm:=s3.tm,H:=H4 }) hA4 i1 MM;exact⟨v',r1,v',rfl,L4,i1,g4,r2⟩
     rcases yL with⟨rfl|rfl,bW⟩|rfl;·exact leave .returning (.inl ⟨rfl,bW⟩)
     ·exact leave .returning (.inl ⟨rfl,bW⟩)
     ·exact leave _ (.inr rfl)
    rw[wpOps_cons];unfold wpOp;rw[gL];dsimp only;rw[Wv]at hl;split at hl<;>first|(cases hl;done)|skip
    ·rename_i hw;rw[UT hw (d1.guard o1),if_pos rfl];split at hl<;>first|(cases hl;done)|skip
     rename_i v1 H1 Y7;split at hl<;>first|(cases hl;done)|skip
     rename_i s2' YN;rw[SV]at hl;obtain rfl:=Option.some.inj hl;refine .inl ((Wj D8.call UO d2 (fun x _ u hx=>MC UO d1 hx) Y7).wp fun v' w2 Ez=>?_);obtain⟨L2,p1,p2,p3⟩:=Ez;obtain⟨e1,e2,_⟩:=Xq YN;refine next _ w2 ⟨L2,?_,by rw[e1];exact p1,by rw[e1];exact p2⟩;have:=d1.put (S':=ext (ext S H.n s1.H.n) s1.H.n H1.n) (L':=L2) (fun _ h=> .inl h) p2.agree p3 YN;rw[e1];exact this
    ·rename_i hw;rw[UT hw (d1.guard o1),if_neg (by simp)];split at hl<;>first|(cases hl;done)|skip
     rename_i s2' YN;rw[SV]at hl;obtain rfl:=Option.some.inj hl;obtain⟨e1,e2,_⟩:=Xq YN;have:=d1.put (S':=ext S H.n s1.H.n) (L':=L1) (fun _ h=>h) (fun _ _=>rfl) PM YN;refine next _ w1 ?_;have vV:=UK.refl (B:=B) (w:=w1) this (by rw[e1];exact d2);rw[e1]at vV;exact vV
   ·refine calls_of_wp br SO ?_;unfold Ee at h;split at h<;>first|(cases h;done)|skip
    ·rename_i s1 Ey;split at h<;>first|(cases h;done)|skip
     rename_i vs hr;injection h with h;injection h with h1 h2;subst h1;subst h2;refine(D8.code c _ _ s1 Ey [] S L _ w hG hA hI _ fun e a' w' hd=>?_).1;obtain⟨rfl,L',d1,d2,d3⟩:=hd;obtain⟨v',r1,r2⟩:=Rw (P:=P) d1 d2 hr;exact⟨d1.defers,v',r1,v',rfl,L',d2,d3,r2⟩
    ·rename_i s1 Ey;split at h<;>first|(cases h;done)|skip
     rename_i vs hr;injection h with h;injection h with h1 h2;subst h1;subst h2;refine(D8.code c _ _ s1 Ey [] S L _ w hG hA hI _ fun e a' w' hd=>?_).1;obtain⟨rfl,L',d1,d2,d3⟩:=hd;obtain⟨v',r1,r2⟩:=Rw (P:=P) d1 d2 hr;exact⟨d1.defers,v',r1,v',rfl,L',d2,d3,r2⟩
    ·rename_i v s1 Ey;injection h with h;injection h with h1 h2;subst h1;subst h2;refine(D8.code c _ _ s1 Ey [] S L _ w hG hA hI _ fun e a' w' hd=>?_).1;obtain⟨v',rfl,L',d1,d2,d3,d4⟩:=hd;exact⟨d1.defers,v',rfl,L',d2,d3,d4⟩
theorem qT(hC:CfgOk P C): ∀n,LvOk P C B (lv P C n)|0=>⟨(fun c s ex s' h=>by rw[P5]at h;cases h),(fun f args H v H' h=>by rw[P5]at h;cases h)⟩|n+1=>by have ih:=qT hC n;have hO:=Ad hC ih;rw[P4];exact⟨oQ hC ih hO,hO.ret⟩
theorem HO{P:Program}{C:Cfg}{B:Nat}(hC:CfgOk P C){n:Nat}{f:FuncId}{args args':List Value}{H H':AH}{v:Value}(h:run P C n f args H=some (v,H')){fn:Func}(hf:P.funcs[f]?=some fn)(hb:fn.body.isSome=true){S:Nat->Prop}{L:Nat->Loc}{w:World}(hG:GO C S L)(hI:Inv B S L H w)(ha:UQ S L args args'):Calls P f args'.toArray w fun e w'=> ∃v',e= .returned v'/\Good B S L H w v H' v' w':=by
 rcases(Ad hC (qT (B:=B) hC n)).ret f args H v H' h S L w args' hG hI ha with⟨v',w',h1,h2⟩|⟨_,h2⟩
 ·exfalso;have gN:=hC.names f fn hf hb;have CM:fn.name≠ "runtime.NumGoroutine":=by simpa using gN
  cases SO:fn.body with|none=>rw[SO]at hb;cases hb|some c=>rw[show(callFunc f args'.toArray).run P w= .ok (.enter f args'.toArray) w by simp[callFunc,hf,CM,SO]]at h1;injection h1 with h1 _;cases h1
 ·exact h2
theorem Good.below{B:Nat}{S:Nat->Prop}{L:Nat->Loc}{H H':AH}{w w':World}{v v':Value}(hI:Inv B S L H w)(h:Good B S L H w v H' v' w'):Below B w w':=by
 obtain⟨L',g1,g2,g3⟩:=h;refine⟨g2.os,g2.tape,g2.output,g2.size,fun k hk=>?_⟩;rcases g2.frame k (Nat.lt_of_lt_of_le hk hI.base)with h1|⟨i,sz,cs,h1,h2,_⟩;·exact h1
 ·have:=(hI.rw i sz cs h1).2.1;omega
#print axioms HO
end
end
end Go.Proofs.YtmkfecoeghokfaaGreatDoor.Ev
namespace Go.Proofs.YtmkfecoeghokfaaGreatDoor.Ev
open Go Go.RowKit
set_option linter.unusedVariables false
set_option linter.unusedSimpArgs false
noncomputable section
set_option maxHeartbeats 2000000
set_option maxRecDepth 20000
section
def Kw(f g:FuncId->List Value->AH->Option (Value×AH)):Prop:= ∀x a H r,f x a H=some r->g x a H=some r
def ELe(f g:Code->St->Option (Ex×St)):Prop:= ∀c s r,f c s=some r->g c s=some r
section
variable {P : Program} {C : Cfg} {f g : FuncId -> List Value -> AH -> Option (Value × AH)}
theorem W2(h:Kw f g){tm:Tr Value}{H:AH}{op:Op}{r:Value×AH}(he:Z2 P C f tm H op=some r):Z2 P C g tm H op=some r:=by
 cases op;case call c=>obtain⟨callee,VT,ks⟩:=c;cases callee with
  |value x=>
   simp only[Z2,Yd]at he⊢;split at he<;>first|(cases he;done)|skip
   split at he<;>first|(cases he;done)|skip
   exact h _ _ _ _ he
  |builtin b=>exact he
  |invoke x m=>
   simp only[Z2,Yd]at he⊢;split at he<;>first|(cases he;done)|skip
   split at he<;>first|(cases he;done)|skip
   exact h _ _ _ _ he
 all_goals exact he
theorem Ss(h:Kw f g){ops:Array Oper} : ∀(l:List Oper)(s s':St),W7 P C f ops l s=some s'->W7 P C g ops l s=some s'
 |[],s,s',he=>he
 |o::rest,s,s',he=>by
  rw[Wv]at he⊢;split at he<;>first|(cases he;done)|skip
  ·rename_i hw;split at he<;>first|(cases he;done)|skip
   rename_i v H Y7;split at he<;>first|(cases he;done)|skip
   rename_i s1 YN;simp only[W2 h Y7,YN];exact Ss h rest s1 s' he
  ·rename_i hw;split at he<;>first|(cases he;done)|skip
   rename_i s1 YN;try simp only[YN]
   exact Ss h rest s1 s' he
theorem Lb(h:Kw f g){X:Xs}{ops:Array Oper}{i:Nat}{q:Bool}{ms:List (Nat×Nat×Nat)}{s:St}{o:Oper}{r:Value×AH×Bool}(he:XU X P C f ops i q ms s o=some r):XU X P C g ops i q ms s o=some r:=by unfold XU at he⊢;cases hh:Zz o.op with
 |false=>
  rw[hh,cond_false]at he;rw[cond_false];split at he<;>first|(cases he;done)|skip
  rename_i v H2 Y7;simp only[W2 h Y7];exact he
 |true=>rw[hh,cond_true]at he;rw[cond_true];cases hf:X.fv i with
  |some vf=>rw[hf]at he;exact he
  |none=>
   rw[hf]at he;simp only at he⊢;split at he<;>first|(cases he;done)|skip
   rename_i v H2 Y7;simp only[W2 h Y7];exact he
theorem UZ(h:Kw f g){X:Xs}{ops:Array Oper} : ∀(l:List Oper)(i:Nat)(q:Bool)(ms:List (Nat×Nat×Nat))(s s':St),XP X P C f ops i q ms l s=some s'->XP X P C g ops i q ms l s=some s'
 |[],i,q,ms,s,s',he=>by simp only[XP]at he⊢;exact he
 |o::rest,i,q,ms,s,s',he=>by
  simp only[XP]at he⊢;split at he<;>first|(cases he;done)|skip
  ·rename_i hw;split at he<;>first|(cases he;done)|skip
   rename_i v H q' Y7;split at he<;>first|(cases he;done)|skip
   rename_i s1 YN;simp only[Lb h Y7,YN];exact UZ h rest _ _ _ s1 s' he
  ·rename_i hw;split at he<;>first|(cases he;done)|skip
   rename_i s1 YN;try simp only[YN]
   exact UZ h rest _ _ _ s1 s' he
theorem Nz(h:Kw f g){ops:Array Oper} : ∀(l:List Oper)(i:Nat)(fs:List (Nat×Nat×Bool))(s s':St),V6 P C f ops i fs l s=some s'->V6 P C g ops i fs l s=some s'
 |[],i,fs,s,s',he=>by simp only[V6]at he⊢;exact he
 |o::rest,i,fs,s,s',he=>by
  simp only[V6]at he⊢;split at he<;>first|(cases he;done)|skip
  ·rename_i hw;split at he<;>first|(cases he;done)|skip
   ·rename_i hf;split at he<;>first|(cases he;done)|skip
    rename_i v H Y7;split at he<;>first|(cases he;done)|skip
    rename_i s1 YN;simp only[W2 h Y7,YN];exact Nz h rest _ _ s1 s' he
   ·rename_i b w hf;cases hc:V2 ((before ops).getD i 0) b w fs with
    |false=>rw[hc]at he;cases he
    |true=>
     rw[hc,cond_true]at he;rw[cond_true];split at he<;>first|(cases he;done)|skip
     rename_i v H Y7;split at he<;>first|(cases he;done)|skip
     rename_i s1 YN;simp only[W2 h Y7,YN];exact Nz h rest _ _ s1 s' he
  ·rename_i hw;split at he<;>first|(cases he;done)|skip
   rename_i s1 YN;try simp only[YN]
   exact Nz h rest _ _ s1 s' he
theorem RI(h:Kw f g){ops:Array Oper} : ∀(l:List Oper)(s s':St),TF P C f ops l s=some s'->TF P C g ops l s=some s'
 |[],s,s',he=>he
 |o::rest,s,s',he=>by
  simp only[TF]at he⊢;split at he<;>first|(cases he;done)|skip
  ·cases hh:Zz o.op with
   |true=>rw[hh]at he;cases he
   |false=>
    rw[hh,cond_false]at he;rw[cond_false];split at he<;>first|(cases he;done)|skip
    rename_i v H Y7;split at he<;>first|(cases he;done)|skip
    rename_i s1 YN;simp only[W2 h Y7,YN];exact RI h rest s1 s' he
  ·split at he<;>first|(cases he;done)|skip
   rename_i s1 YN;try simp only[YN]
   exact RI h rest s1 s' he
theorem F9(h:Kw f g){ops:Array Oper}{s s':St}(he:UD P C f ops s=some s'):UD P C g ops s=some s':=by unfold UD at he⊢;cases hc:Uh ops with
 |false=>rw[hc]at he;cases he
 |true=>
  rw[hc,cond_true]at he;rw[cond_true];split at he<;>first|(cases he;done)|skip
  rename_i s1 o1 oz Ft gL gH;split at he<;>first|(cases he;done)|skip
  rename_i b _ NQ;split at he<;>first|(cases he;done)|skip
  rename_i sz cs XO;split at he<;>first|(cases he;done)|skip
  rename_i v Hx Hn;split at he<;>first|(cases he;done)|skip
  rename_i s3 ib;split at he<;>first|(cases he;done)|skip
  rename_i vz H4 Re;simp only[RI h _ _ _ Ft,gL,gH,NQ,XO,W2 h Hn,UZ h _ _ _ _ _ _ ib,W2 h Re];exact he
theorem fP(h:Kw f g){ops:Array Oper}{s s':St}(he:Oz P C f ops s=some s'):Oz P C g ops s=some s':=by unfold Oz at he⊢;cases hc:Lw ops with
 |false=>rw[hc]at he;cases he
 |true=>
  rw[hc,cond_true]at he;rw[cond_true];split at he<;>first|(cases he;done)|skip
  rename_i oz gH;split at he<;>first|(cases he;done)|skip
  rename_i b _ NQ;split at he<;>first|(cases he;done)|skip
  rename_i sz cs XO;split at he<;>first|(cases he;done)|skip
  rename_i s3 ib;split at he<;>first|(cases he;done)|skip
  rename_i vz H4 Re;simp only[gH,NQ,XO,UZ h _ _ _ _ _ _ ib,W2 h Re];exact he
theorem Cu(h:Kw f g){ops:Array Oper}{s s':St}(he:UE P C f ops s=some s'):UE P C g ops s=some s':=by unfold UE at he⊢;cases hs:Uh ops with|true=>rw[hs,cond_true]at he;rw[cond_true];exact F9 h he|false=>rw[hs,cond_false]at he;rw[cond_false];exact fP h he
theorem Rm(h:Kw f g){ops:Array Oper}{draw:Bool}{s s':St}(he:YB P C f ops draw s=some s'):YB P C g ops draw s=some s':=by unfold YB at he⊢;cases hb:(draw&&Vm ops)with
 |true=>rw[hb,cond_true]at he;rw[cond_true];cases hr:Ue ops with|false=>rw[hr]at he;cases he|true=>rw[hr,cond_true]at he;rw[cond_true];exact Nz h _ _ _ _ _ he
 |false=>rw[hb,cond_false]at he;rw[cond_false];cases hs:(draw&&isSplit C ops)with
  |true=>rw[hs,cond_true]at he;rw[cond_true];exact Cu h he
  |false=>rw[hs,cond_false]at he;rw[cond_false];unfold W8 at he⊢;cases draw with
   |false=>rw[cond_false]at he⊢;exact Ss h _ _ _ he
   |true=>rw[cond_true]at he⊢;cases hr:Ue ops with|false=>rw[hr]at he;cases he|true=>rw[hr,cond_true]at he;rw[cond_true];exact UZ h _ _ _ _ _ _ he
theorem OD{ops:Array Oper}{s:St} :YB P C f ops false s=W7 P C f ops ops.toList s:=by unfold YB W8;simp
end
structure LLe (u v : Lv) : Prop where
  code : ELe u.code v.code
  call : Kw u.call v.call
section
variable {P : Program} {C : Cfg} {u v : Lv}
theorem fO(h:LLe u v){rv:Value} : ∀(c:Code)(s:St)(r:Ex×St),F8 P C u rv c s=some r->F8 P C v rv c s=some r:=by intro c;induction c with
 |seq x y zt zu=>intro s r he;simp only[F8]at he⊢;cases hf:RF x with
  |true=>
   rw[hf,cond_true]at he;rw[cond_true];split at he<;>first|(cases he;done)|skip
   rename_i s1 h1;rw[zt _ _ h1];simp only;unfold N4 at he⊢;split at he<;>first|(cases he;done)|skip
   ·rename_i s2 e;rw[h.code _ _ _ e];exact he
   ·rename_i s2 e;rw[h.code _ _ _ e];exact he
  |false=>
   rw[hf,cond_false]at he;rw[cond_false];split at he<;>first|(cases he;done)|skip
   rename_i s1 h1;rw[h.code _ _ _ h1];exact zu _ _ he
 |region id ops draw=>intro s r he;simp only[F8]at he⊢;cases ho:Rr ops with
  |false=>rw[ho]at he;cases he
  |true=>
   rw[ho,cond_true]at he;rw[cond_true];split at he<;>first|(cases he;done)|skip
   rename_i s1 h1;rw[Rm h.call h1];exact he
 |_=>intro s r he;cases he
theorem fS(h:LLe u v){g:FuncId}{args:List Value}{rv:Value}{H H':AH}(he:Pf P C u g args rv H=some H'):Pf P C v g args rv H=some H':=by
 unfold Pf at he⊢;split at he<;>first|(cases he;done)|skip
 split at he<;>first|(cases he;done)|skip
 split at he<;>first|(cases he;done)|skip
 ·rename_i hc;rw[fO h _ _ _ hc];exact he
 ·rename_i hc;rw[fO h _ _ _ hc];exact he
theorem Ie(h:LLe u v){fn:Func}{a:Code}{ops:Array Oper}{o1:Oper}{c:Call}{rest:Code}{s0:St}{r:Out×AH}(he:Vk P C u fn a ops o1 c rest s0=some r):Vk P C v fn a ops o1 c rest s0=some r:=by
 unfold Vk at he⊢;split at he<;>first|(cases he;done)|skip
 rename_i h1;rw[h.code _ _ _ h1];simp only;split at he<;>first|(cases he;done)|skip
 rename_i h2;rw[Ss h.call _ _ _ h2];simp only;split at he<;>first|(cases he;done)|skip
 rename_i h3;split at he<;>first|(cases he;done)|skip
 rename_i h4;rw[h.code _ _ _ h4];simp only;split at he<;>first|(cases he;done)|skip
 rename_i h5;split at he<;>first|(cases he;done)|skip
 rename_i h6;rw[fS h h6];exact he
theorem aH(h:LLe u v){fn:Func}{c:Code}{s0:St}{r:Out×AH}(he:SX P C u fn c s0=some r):SX P C v fn c s0=some r:=by
 unfold SX at he⊢;split at he;·exact Ie h he
 ·cases hc:u.code c s0 with|none=>rw[hc]at he;cases he|some x=>rw[hc]at he;rw[h.code _ _ _ hc];exact he
theorem Qg(h:LLe u v)(x:FuncId)(a:List Value)(H:AH)(r:Out×AH)(he:Wf P C u x a H=some r):Wf P C v x a H=some r:=by unfold Wf at he⊢;cases h1:Nat.beq x C.add with
 |true=>rw[h1,cond_true]at he;rw[cond_true];exact he
 |false=>rw[h1,cond_false]at he;rw[cond_false];cases h2:Nat.beq x C.sub with
  |true=>rw[h2,cond_true]at he;rw[cond_true];exact he
  |false=>
   rw[h2,cond_false]at he;rw[cond_false];split at he<;>first|(cases he;done)|skip
   split at he<;>first|(cases he;done)|skip
   exact aH h he
theorem Uz(h:LLe u v):Kw (YC P C u) (YC P C v):=fun x a H r he=>by obtain⟨w,H'⟩:=r;have:=Qg h _ _ _ _ (Qz he);unfold YC;rw[this];rfl
theorem Ct(h:LLe u v):Kw (XJ P C u) (XJ P C v):=fun x a H r he=>by obtain⟨w,H'⟩:=r;have:=Qg h _ _ _ _ (Qx he);unfold XJ;rw[this];rfl
theorem ot(h:LLe u v){x:FuncId}{a:List Value}{H:AH}{r:Value×AH}(he:YC P C u x a H=some r):XJ P C v x a H=none:=by obtain⟨w,H'⟩:=r;have:=Qg h _ _ _ _ (Qz he);unfold XJ;rw[this];rfl
theorem nJ(h:LLe u v){x:FuncId}{a:List Value}{H:AH}{r:Value×AH}(he:XJ P C u x a H=some r):YC P C v x a H=none:=by obtain⟨w,H'⟩:=r;have:=Qg h _ _ _ _ (Qx he);unfold YC;rw[this];rfl
theorem Nx{f:FuncId->List Value->AH->Option (Value×AH)}{tm:Tr Value}{H:AH}{c:Call}{g:FuncId}{args:List Value}(h:ZD C tm c=some (g,args)):Yd P C f tm H c=f g args H:=by
 obtain⟨callee,VT,ks⟩:=c;unfold ZD at h;cases callee<;>simp only at h<;>first|(cases h;done)|skip
 split at h<;>first|(cases h;done)|skip
 rename_i fv h1;split at h<;>first|(cases h;done)|skip
 rename_i h3 h4;injection h with h;injection h with e1 e2;subst e1;subst e2;simp only[Yd,h1,h3,h4]
theorem O9(h:LLe u v){tm:Tr Value}{H:AH}{op:Op}{r:Value×AH}(he:Z2 P C (YC P C u) tm H op=some r):Yk C (XJ P C v) tm H op=none:=by
 cases op;case call c=>simp only[Yk];cases hd:ZD C tm c with|none=>rfl|some x=>obtain⟨g,args⟩:=x;simp only[Z2]at he;rw[Nx hd]at he;exact ot h he
 case panic x=>cases he
 all_goals rfl
theorem aF(h:LLe u v){tm:Tr Value}{H:AH}{op:Op}{r:Value×AH}(he:Yk C (XJ P C u) tm H op=some r):Z2 P C (YC P C v) tm H op=none:=by
 cases op;case call c=>simp only[Yk]at he;cases hd:ZD C tm c with|none=>rw[hd]at he;cases he|some x=>obtain⟨g,args⟩:=x;rw[hd]at he;simp only[Z2];rw[Nx hd];exact nJ h he
 case panic x=>rfl
 all_goals cases he
theorem jq(h:LLe u v){tm:Tr Value}{H:AH}{op:Op}{r:Value×AH}(he:Yk C (XJ P C u) tm H op=some r):Yk C (XJ P C v) tm H op=some r:=by
 cases op;case call c=>simp only[Yk]at he⊢;cases hd:ZD C tm c with|none=>rw[hd]at he;cases he|some x=>rw[hd]at he;exact Ct h _ _ _ _ he
 case panic x=>exact he
 all_goals cases he
theorem Pg(h:LLe u v){ops:Array Oper} : ∀(l:List Oper)(s:St)(r:Ex×St),SS P C (YC P C u) (XJ P C u) ops l s=some r->SS P C (YC P C v) (XJ P C v) ops l s=some r/\W7 P C (YC P C v) ops l s=none
 |[],s,r,he=>by cases he
 |o::rest,s,r,he=>by
  rw[Wv];simp only[SS]at he⊢;split at he<;>first|(cases he;done)|skip
  ·rename_i hw;split at he;·rename_i v1 H1 hp;rw[jq h hp];simp only[aF h hp];exact⟨he,trivial⟩
   ·rename_i hp;split at he<;>first|(cases he;done)|skip
    rename_i v1 H1 Y7;split at he<;>first|(cases he;done)|skip
    rename_i s1 YN;rw[O9 h Y7];simp only[W2 (Uz h) Y7,YN];exact Pg h rest s1 r he
  ·rename_i hw;split at he<;>first|(cases he;done)|skip
   rename_i s1 YN;try simp only[YN]
   exact Pg h rest s1 r he
theorem IA(h:LLe u v):ELe (Wb P C u) (Wb P C v):=by
 intro c s r he;cases c<;>simp only[Wb]at he⊢ <;>first|exact he|skip
 ·rename_i id ops draw;split at he;·rename_i s1 hr;rw[Rm (Uz h) hr];exact he
  ·cases draw with|true=>cases he|false=>rw[cond_false]at he;obtain⟨h1,h2⟩:=Pg h _ _ _ he;rw[OD,h2];exact h1
 ·split at he;·rename_i s1 hr;rw[h.code _ _ _ hr];exact h.code _ _ _ he
  ·rename_i hn;rw[h.code _ _ _ he];split;·rename_i s1 e;exact absurd (he.trans e) (by intro e';exact hn s1 e')
   ·rfl
 ·split at he<;>first|(cases he;done)|skip
  exact h.code _ _ _ he
 ·split at he;·rename_i j s1 hr;rw[h.code _ _ _ hr];exact he
  ·rename_i hn;rw[h.code _ _ _ he];split;·rename_i j s1 e;exact absurd (he.trans e) (by intro e';exact hn j s1 e')
   ·rfl
 ·split at he;·rename_i s1 hr;rw[h.code _ _ _ hr];exact h.code _ _ _ he
  ·rename_i hn;rw[h.code _ _ _ he];split;·rename_i s1 e;exact absurd (he.trans e) (by intro e';exact hn s1 e')
   ·rfl
end
theorem QL{P:Program}{C:Cfg} : ∀{n m:Nat},n<=m->LLe (lv P C n) (lv P C m)|0,m,_=>⟨(fun c s r h=>by rw[P5]at h;cases h),(fun x a H r h=>by rw[P5]at h;cases h)⟩|n+1,0,h=>by omega|n+1,m+1,h=>by have ih:=QL (P:=P) (C:=C) (show n<=m by omega);rw[P4,P4];exact⟨IA ih,Uz ih⟩
theorem pR{P:Program}{C:Cfg}{n m:Nat}(h:n<=m):ELe (ev P C n) (ev P C m):=(QL h).code
open Classical in def D4(P:Program)(C:Cfg)(c:Code)(s:St):Option (Ex×St):=if h: ∃n r,ev P C n c s=some r then some (Classical.choose (Classical.choose_spec h))else none
open Classical in def ZY(P:Program)(C:Cfg)(f:FuncId)(args:List Value)(H:AH):Option (Value×AH):=if h: ∃n r,(lv P C n).call f args H=some r then some (Classical.choose (Classical.choose_spec h))else none
theorem fQ{P:Program}{C:Cfg}{n:Nat}{c:Code}{s:St}{r:Ex×St}(h:ev P C n c s=some r):D4 P C c s=some r:=by have hx: ∃n r,ev P C n c s=some r:=⟨n,r,h⟩;unfold D4;rw[dif_pos hx];have h2:=Classical.choose_spec (Classical.choose_spec hx);have a:=pR (Nat.le_max_left n (Classical.choose hx)) c s r h;have b:=pR (Nat.le_max_right n (Classical.choose hx)) c s _ h2;rw[a]at b;exact b.symm
theorem F6{P:Program}{C:Cfg}{c:Code}{s:St}{r:Ex×St}(h:D4 P C c s=some r): ∃n,ev P C n c s=some r:=by
 unfold D4 at h;split at h;·rename_i hx;obtain rfl:=Option.some.inj h;exact⟨_,Classical.choose_spec (Classical.choose_spec hx)⟩
 ·cases h
theorem FE{P:Program}{C:Cfg}{n:Nat}{f:FuncId}{args:List Value}{H:AH}{r:Value×AH}(h:(lv P C n).call f args H=some r):ZY P C f args H=some r:=by have hx: ∃n r,(lv P C n).call f args H=some r:=⟨n,r,h⟩;unfold ZY;rw[dif_pos hx];have h2:=Classical.choose_spec (Classical.choose_spec hx);have a:=(QL (Nat.le_max_left n (Classical.choose hx))).call _ _ _ r h;have b:=(QL (Nat.le_max_right n (Classical.choose hx))).call _ _ _ _ h2;rw[a]at b;exact b.symm
theorem Nv{P:Program}{C:Cfg}{f:FuncId}{args:List Value}{H:AH}{r:Value×AH}(h:ZY P C f args H=some r): ∃n,(lv P C n).call f args H=some r:=by
 unfold ZY at h;split at h;·rename_i hx;obtain rfl:=Option.some.inj h;exact⟨_,Classical.choose_spec (Classical.choose_spec hx)⟩
 ·cases h
def Rp(P:Program)(C:Cfg):Lv:=⟨D4 P C,ZY P C⟩
theorem iC{P:Program}{C:Cfg}(n:Nat):LLe (lv P C n) (Rp P C):=⟨fun c s r h=>fQ h,fun x a H r h=>FE h⟩
section
variable {P : Program} {C : Cfg} {F : FuncId -> List Value -> AH -> Option (Value × AH)} {G : Nat -> FuncId -> List Value -> AH -> Option (Value × AH)}
theorem TX(Vr: ∀x a H r,F x a H=some r-> ∃n,G n x a H=some r)(Xi: ∀{n m:Nat},n<=m->Kw (G n) (G m)){tm:Tr Value}{H:AH}{op:Op}{r:Value×AH}(he:Z2 P C (F) tm H op=some r): ∃n,Z2 P C (G n) tm H op=some r:=by
 cases op;case call c=>obtain⟨callee,VT,ks⟩:=c;cases callee with
  |value x=>
   simp only[Z2,Yd]at he⊢;split at he<;>first|(cases he;done)|skip
   split at he<;>first|(cases he;done)|skip
   obtain⟨n,hn⟩:=Vr _ _ _ _ he;exact⟨n,hn⟩
  |builtin b=>exact⟨0,he⟩
  |invoke x m=>
   simp only[Z2,Yd]at he⊢;split at he<;>first|(cases he;done)|skip
   split at he<;>first|(cases he;done)|skip
   obtain⟨n,hn⟩:=Vr _ _ _ _ he;exact⟨n,hn⟩
 all_goals exact⟨0,he⟩
theorem Qh(Vr: ∀x a H r,F x a H=some r-> ∃n,G n x a H=some r)(Xi: ∀{n m:Nat},n<=m->Kw (G n) (G m)){ops:Array Oper} : ∀(l:List Oper)(s s':St),W7 P C (F) ops l s=some s'-> ∃n,W7 P C (G n) ops l s=some s'
 |[],s,s',he=>⟨0,he⟩
 |o::rest,s,s',he=>by
  rw[Wv]at he;split at he<;>first|(cases he;done)|skip
  ·rename_i hw;split at he<;>first|(cases he;done)|skip
   rename_i v H Y7;split at he<;>first|(cases he;done)|skip
   rename_i s1 YN;obtain⟨n1,h1⟩:=TX Vr Xi Y7;obtain⟨n2,h2⟩:=Qh Vr Xi rest s1 s' he;refine⟨max n1 n2,?_⟩;rw[Wv,hw];simp only[W2 (Xi (Nat.le_max_left n1 n2)) h1,YN];exact Ss (Xi (Nat.le_max_right n1 n2)) _ _ _ h2
  ·rename_i hw;split at he<;>first|(cases he;done)|skip
   rename_i s1 YN;obtain⟨n2,h2⟩:=Qh Vr Xi rest s1 s' he;refine⟨n2,?_⟩;rw[Wv,hw];try simp only[YN]
   exact h2
theorem Gq(Vr: ∀x a H r,F x a H=some r-> ∃n,G n x a H=some r)(Xi: ∀{n m:Nat},n<=m->Kw (G n) (G m)){X:Xs}{ops:Array Oper}{i:Nat}{q:Bool}{ms:List (Nat×Nat×Nat)}{s:St}{o:Oper}{r:Value×AH×Bool}(he:XU X P C (F) ops i q ms s o=some r): ∃n,XU X P C (G n) ops i q ms s o=some r:=by unfold XU at he⊢;cases hh:Zz o.op with
 |false=>
  rw[hh,cond_false]at he;simp only[cond_false];split at he<;>first|(cases he;done)|skip
  rename_i v H2 Y7;obtain⟨n,hn⟩:=TX Vr Xi Y7;exact⟨n,by simp only[hn];exact he⟩
 |true=>rw[hh,cond_true]at he;simp only[cond_true];cases hf:X.fv i with
  |some vf=>rw[hf]at he;exact⟨0,he⟩
  |none=>
   rw[hf]at he;simp only at he;split at he<;>first|(cases he;done)|skip
   rename_i v H2 Y7;obtain⟨n,hn⟩:=TX Vr Xi Y7;exact⟨n,by simp only[hn];exact he⟩
theorem SW(Vr: ∀x a H r,F x a H=some r-> ∃n,G n x a H=some r)(Xi: ∀{n m:Nat},n<=m->Kw (G n) (G m)){X:Xs}{ops:Array Oper} : ∀(l:List Oper)(i:Nat)(q:Bool)(ms:List (Nat×Nat×Nat))(s s':St),XP X P C (F) ops i q ms l s=some s'-> ∃n,XP X P C (G n) ops i q ms l s=some s'
 |[],i,q,ms,s,s',he=>⟨0,by simp only[XP]at he⊢;exact he⟩
 |o::rest,i,q,ms,s,s',he=>by
  simp only[XP]at he⊢;split at he<;>first|(cases he;done)|skip
  ·rename_i hw;split at he<;>first|(cases he;done)|skip
   rename_i v H q' Y7;split at he<;>first|(cases he;done)|skip
   rename_i s1 YN;obtain⟨n1,h1⟩:=Gq Vr Xi Y7;obtain⟨n2,h2⟩:=SW Vr Xi rest _ _ _ s1 s' he;refine⟨max n1 n2,?_⟩;simp only[Lb (Xi (Nat.le_max_left n1 n2)) h1,YN];exact UZ (Xi (Nat.le_max_right n1 n2)) _ _ _ _ _ _ h2
  ·rename_i hw;split at he<;>first|(cases he;done)|skip
   rename_i s1 YN;obtain⟨n2,h2⟩:=SW Vr Xi rest _ _ _ s1 s' he;refine⟨n2,?_⟩;try simp only[YN]
   exact h2
theorem Qi{f g:FuncId->List Value->AH->Option (Value×AH)}{ops:Array Oper} : ∀(l:List Oper)(i:Nat)(fs:List (Nat×Nat×Bool))(s s':St),V6 P C f ops i fs l s=some s'->V6 P C g ops i fs l s=some s'
 |[],i,fs,s,s',he=>by simp only[V6]at he⊢;exact he
 |o::rest,i,fs,s,s',he=>by
  have Io: ∀tm H r x,WV C tm o.op=some x->Z2 P C f tm H o.op=some r->Z2 P C g tm H o.op=some r:=fun tm H r x hm Y7=>by
   cases e:o.op;case call c=>rw[e]at hm Y7;obtain⟨callee,VT,ks⟩:=c;cases callee with|value x=>simp[WV,Zz]at hm|builtin b=>exact Y7|invoke x m=>simp[WV,Zz]at hm
   all_goals(rw[e]at Y7;exact Y7)
  simp only[V6]at he⊢;split at he<;>first|(cases he;done)|skip
  ·rename_i hw;split at he<;>first|(cases he;done)|skip
   ·rename_i hf;split at he<;>first|(cases he;done)|skip
    rename_i v H Y7;split at he<;>first|(cases he;done)|skip
    rename_i s1 YN;simp only[Io _ _ _ _ hf Y7,YN];exact Qi rest _ _ s1 s' he
   ·rename_i b w hf;cases hc:V2 ((before ops).getD i 0) b w fs with
    |false=>rw[hc]at he;cases he
    |true=>
     rw[hc,cond_true]at he;rw[cond_true];split at he<;>first|(cases he;done)|skip
     rename_i v H Y7;split at he<;>first|(cases he;done)|skip
     rename_i s1 YN;simp only[Io _ _ _ _ hf Y7,YN];exact Qi rest _ _ s1 s' he
  ·rename_i hw;split at he<;>first|(cases he;done)|skip
   rename_i s1 YN;try simp only[YN]
   exact Qi rest _ _ s1 s' he
theorem OC(Vr: ∀x a H r,F x a H=some r-> ∃n,G n x a H=some r)(Xi: ∀{n m:Nat},n<=m->Kw (G n) (G m)){ops:Array Oper} : ∀(l:List Oper)(s s':St),TF P C (F) ops l s=some s'-> ∃n,TF P C (G n) ops l s=some s'
 |[],s,s',he=>⟨0,he⟩
 |o::rest,s,s',he=>by
  simp only[TF]at he⊢;split at he<;>first|(cases he;done)|skip
  ·rename_i hw;cases hh:Zz o.op with
   |true=>rw[hh]at he;cases he
   |false=>
    rw[hh,cond_false]at he;split at he<;>first|(cases he;done)|skip
    rename_i v H Y7;split at he<;>first|(cases he;done)|skip
    rename_i s1 YN;obtain⟨n1,h1⟩:=TX Vr Xi Y7;obtain⟨n2,h2⟩:=OC Vr Xi rest s1 s' he;refine⟨max n1 n2,?_⟩;simp only[cond_false,W2 (Xi (Nat.le_max_left n1 n2)) h1,YN];exact RI (Xi (Nat.le_max_right n1 n2)) _ _ _ h2
  ·rename_i hw;split at he<;>first|(cases he;done)|skip
   rename_i s1 YN;obtain⟨n2,h2⟩:=OC Vr Xi rest s1 s' he;refine⟨n2,?_⟩;try simp only[YN]
   exact h2
theorem Gr(Vr: ∀x a H r,F x a H=some r-> ∃n,G n x a H=some r)(Xi: ∀{n m:Nat},n<=m->Kw (G n) (G m)){ops:Array Oper}{s s':St}(he:UD P C (F) ops s=some s'): ∃n,UD P C (G n) ops s=some s':=by unfold UD at he⊢;cases hc:Uh ops with
 |false=>rw[hc]at he;cases he
 |true=>
  rw[hc,cond_true]at he;simp only[cond_true];split at he<;>first|(cases he;done)|skip
  rename_i s1 o1 oz Ft gL gH;split at he<;>first|(cases he;done)|skip
  rename_i b _ NQ;split at he<;>first|(cases he;done)|skip
  rename_i sz cs XO;split at he<;>first|(cases he;done)|skip
  rename_i v Hx Hn;split at he<;>first|(cases he;done)|skip
  rename_i s3 ib;split at he<;>first|(cases he;done)|skip
  rename_i vz H4 Re;obtain⟨n1,h1⟩:=OC Vr Xi _ _ _ Ft;obtain⟨n2,h2⟩:=TX Vr Xi Hn;obtain⟨n3,h3⟩:=SW Vr Xi _ _ _ _ _ _ ib;obtain⟨n4,h4⟩:=TX Vr Xi Re;have m1:n1<=n1+n2+n3+n4:=by omega
  have m2:n2<=n1+n2+n3+n4:=by omega
  have m3:n3<=n1+n2+n3+n4:=by omega
  have m4:n4<=n1+n2+n3+n4:=by omega
  refine⟨n1+n2+n3+n4,?_⟩;simp only[RI (Xi m1) _ _ _ h1,gL,gH,NQ,XO,W2 (Xi m2) h2,UZ (Xi m3) _ _ _ _ _ _ h3,W2 (Xi m4) h4];exact he
theorem aD(Vr: ∀x a H r,F x a H=some r-> ∃n,G n x a H=some r)(Xi: ∀{n m:Nat},n<=m->Kw (G n) (G m)){ops:Array Oper}{s s':St}(he:Oz P C (F) ops s=some s'): ∃n,Oz P C (G n) ops s=some s':=by unfold Oz at he⊢;cases hc:Lw ops with
 |false=>rw[hc]at he;cases he
 |true=>
  rw[hc,cond_true]at he;simp only[cond_true];split at he<;>first|(cases he;done)|skip
  rename_i oz gH;split at he<;>first|(cases he;done)|skip
  rename_i b _ NQ;split at he<;>first|(cases he;done)|skip
  rename_i sz cs XO;split at he<;>first|(cases he;done)|skip
  rename_i s3 ib;split at he<;>first|(cases he;done)|skip
  rename_i vz H4 Re;obtain⟨n3,h3⟩:=SW Vr Xi _ _ _ _ _ _ ib;obtain⟨n4,h4⟩:=TX Vr Xi Re;have m3:n3<=n3+n4:=by omega
  have m4:n4<=n3+n4:=by omega
  refine⟨n3+n4,?_⟩;simp only[gH,NQ,XO,UZ (Xi m3) _ _ _ _ _ _ h3,W2 (Xi m4) h4];exact he
theorem Ea(Vr: ∀x a H r,F x a H=some r-> ∃n,G n x a H=some r)(Xi: ∀{n m:Nat},n<=m->Kw (G n) (G m)){ops:Array Oper}{s s':St}(he:UE P C (F) ops s=some s'): ∃n,UE P C (G n) ops s=some s':=by unfold UE at he⊢;cases hs:Uh ops with|true=>rw[hs,cond_true]at he;simp only[cond_true];exact Gr Vr Xi he|false=>rw[hs,cond_false]at he;simp only[cond_false];exact aD Vr Xi he
theorem NZ(Vr: ∀x a H r,F x a H=some r-> ∃n,G n x a H=some r)(Xi: ∀{n m:Nat},n<=m->Kw (G n) (G m)){ops:Array Oper}{draw:Bool}{s s':St}(he:YB P C (F) ops draw s=some s'): ∃n,YB P C (G n) ops draw s=some s':=by unfold YB at he⊢;cases hb:(draw&&Vm ops)with
 |true=>rw[hb,cond_true]at he;simp only[cond_true];cases hr:Ue ops with|false=>rw[hr]at he;cases he|true=>rw[hr,cond_true]at he;exact⟨0,by rw[cond_true];exact Qi _ _ _ _ _ he⟩
 |false=>rw[hb,cond_false]at he;simp only[cond_false];cases hs:(draw&&isSplit C ops)with
  |true=>rw[hs,cond_true]at he;simp only[cond_true];exact Ea Vr Xi he
  |false=>rw[hs,cond_false]at he;simp only[cond_false];unfold W8 at he⊢;cases draw with
   |false=>rw[cond_false]at he;simp only[cond_false];exact Qh Vr Xi _ _ _ he
   |true=>rw[cond_true]at he;simp only[cond_true];cases hr:Ue ops with|false=>rw[hr]at he;cases he|true=>rw[hr,cond_true]at he;simp only[cond_true];exact SW Vr Xi _ _ _ _ _ _ he
end
section
variable {P : Program} {C : Cfg}
theorem WY{c:Code}{s:St}{r:Ex×St}(h:D4 P C c s=some r): ∃n,∀m,n<=m->(lv P C m).code c s=some r:=by obtain⟨n,hn⟩:=F6 h;exact⟨n,fun m hm=>(QL hm).code _ _ _ hn⟩
theorem Qp{n m:Nat}(h:n<=m):Kw (lv P C n).call (lv P C m).call:=(QL h).call
theorem oo{ops:Array Oper}{draw:Bool}{s s':St}(h:YB P C (ZY P C) ops draw s=some s'): ∃n,∀m,n<=m->YB P C (lv P C m).call ops draw s=some s':=by obtain⟨n,hn⟩:=NZ (F:=ZY P C) (G:=fun n=>(lv P C n).call) (fun x a H r h=>Nv h) (fun h=>Qp h) h;exact⟨n,fun m hm=>Rm (Qp hm) hn⟩
theorem iQ{ops:Array Oper}{l:List Oper}{s s':St}(h:W7 P C (ZY P C) ops l s=some s'): ∃n,∀m,n<=m->W7 P C (lv P C m).call ops l s=some s':=by obtain⟨n,hn⟩:=Qh (F:=ZY P C) (G:=fun n=>(lv P C n).call) (fun x a H r h=>Nv h) (fun h=>Qp h) _ _ _ h;exact⟨n,fun m hm=>Ss (Qp hm) _ _ _ hn⟩
theorem An{rv:Value} : ∀(c:Code)(s:St)(r:Ex×St),F8 P C (Rp P C) rv c s=some r-> ∃n,∀m,n<=m->F8 P C (lv P C m) rv c s=some r:=by intro c;induction c with
 |seq x y zt zu=>intro s r he;simp only[F8]at he⊢;cases hf:RF x with
  |true=>
   rw[hf,cond_true]at he;simp only[cond_true];split at he<;>first|(cases he;done)|skip
   rename_i s1 h1;obtain⟨n1,e1⟩:=zt _ _ h1;unfold N4 at he⊢;split at he<;>first|(cases he;done)|skip
   ·rename_i s2 e;obtain⟨n2,e2⟩:=WY e;refine⟨max n1 n2,fun m hm=>?_⟩;rw[e1 m (by omega)];simp only[e2 m (by omega)];exact he
   ·rename_i s2 e;obtain⟨n2,e2⟩:=WY e;refine⟨max n1 n2,fun m hm=>?_⟩;rw[e1 m (by omega)];simp only[e2 m (by omega)];exact he
  |false=>
   rw[hf,cond_false]at he;simp only[cond_false];split at he<;>first|(cases he;done)|skip
   rename_i s1 h1;obtain⟨n1,e1⟩:=WY h1;obtain⟨n2,e2⟩:=zu _ _ he;refine⟨max n1 n2,fun m hm=>?_⟩;rw[e1 m (by omega)];exact e2 m (by omega)
 |region id ops draw=>intro s r he;simp only[F8]at he⊢;cases ho:Rr ops with
  |false=>rw[ho]at he;cases he
  |true=>
   rw[ho,cond_true]at he;simp only[cond_true];split at he<;>first|(cases he;done)|skip
   rename_i s1 h1;obtain⟨n,hn⟩:=oo h1;exact⟨n,fun m hm=>by rw[hn m hm];exact he⟩
 |_=>intro s r he;cases he
theorem aG{g:FuncId}{args:List Value}{rv:Value}{H H':AH}(he:Pf P C (Rp P C) g args rv H=some H'): ∃n,∀m,n<=m->Pf P C (lv P C m) g args rv H=some H':=by
 unfold Pf at he⊢;split at he<;>first|(cases he;done)|skip
 rename_i hf;split at he<;>first|(cases he;done)|skip
 rename_i hb;split at he<;>first|(cases he;done)|skip
 ·rename_i hc;obtain⟨n,hn⟩:=An _ _ _ hc;exact⟨n,fun m hm=>by simp only[hf,hb,hn m hm];exact he⟩
 ·rename_i hc;obtain⟨n,hn⟩:=An _ _ _ hc;exact⟨n,fun m hm=>by simp only[hf,hb,hn m hm];exact he⟩
theorem KH{fn:Func}{a:Code}{ops:Array Oper}{o1:Oper}{c:Call}{rest:Code}{s0:St}{r:Out×AH}(he:Vk P C (Rp P C) fn a ops o1 c rest s0=some r): ∃n,∀m,n<=m->Vk P C (lv P C m) fn a ops o1 c rest s0=some r:=by
 unfold Vk at he⊢;split at he<;>first|(cases he;done)|skip
 rename_i h1;split at he<;>first|(cases he;done)|skip
 rename_i h2;split at he<;>first|(cases he;done)|skip
 rename_i h3;split at he<;>first|(cases he;done)|skip
 rename_i h4;split at he<;>first|(cases he;done)|skip
 rename_i h5;split at he<;>first|(cases he;done)|skip
 rename_i h6;obtain⟨n1,e1⟩:=WY h1;obtain⟨n2,e2⟩:=iQ h2;obtain⟨n3,e3⟩:=WY h4;obtain⟨n4,e4⟩:=aG h6;refine⟨max (max n1 n2) (max n3 n4),fun m hm=>?_⟩;simp only[e1 m (by omega),e2 m (by omega),h3,e3 m (by omega),h5,e4 m (by omega)];exact he
theorem Cs{fn:Func}{c:Code}{s0:St}{r:Out×AH}(he:SX P C (Rp P C) fn c s0=some r): ∃n,∀m,n<=m->SX P C (lv P C m) fn c s0=some r:=by
 unfold SX at he⊢;split at he;·rename_i hd;obtain⟨n,hn⟩:=KH he;exact⟨n,fun m hm=>by simp only[hn m hm]⟩
 ·rename_i hd;cases hc:(Rp P C).code c s0 with|none=>rw[hc]at he;cases he|some x=>obtain⟨n,hn⟩:=WY hc;rw[hc]at he;exact⟨n,fun m hm=>by simp only[hn m hm];exact he⟩
theorem IK{x:FuncId}{a:List Value}{H:AH}{r:Out×AH}(he:Wf P C (Rp P C) x a H=some r): ∃n,∀m,n<=m->Wf P C (lv P C m) x a H=some r:=by unfold Wf at he⊢;cases h1:Nat.beq x C.add with
 |true=>rw[h1,cond_true]at he;exact⟨0,fun m _=>by rw[cond_true];exact he⟩
 |false=>rw[h1,cond_false]at he;simp only[cond_false];cases h2:Nat.beq x C.sub with
  |true=>rw[h2,cond_true]at he;exact⟨0,fun m _=>by rw[cond_true];exact he⟩
  |false=>
   rw[h2,cond_false]at he;simp only[cond_false];split at he<;>first|(cases he;done)|skip
   rename_i hf;split at he<;>first|(cases he;done)|skip
   rename_i hb;obtain⟨n,hn⟩:=Cs he;exact⟨n,fun m hm=>hn m hm⟩
theorem WZ:ZY P C=YC P C (Rp P C):=by funext x a H;cases h:ZY P C x a H with
 |some r=>obtain⟨n,hn⟩:=Nv h;cases n with|zero=>rw[P5]at hn;cases hn|succ n=>rw[P4]at hn;exact(Uz (iC n) _ _ _ _ hn).symm
 |none=>cases h2:YC P C (Rp P C) x a H with
  |none=>rfl
  |some r=>
   obtain⟨v,H'⟩:=r;obtain⟨n,hn⟩:=IK (Qz h2);have:(lv P C (n+1)).call x a H=some (v,H'):=by rw[P4];show YC P C (lv P C n) x a H=_;unfold YC;rw[hn n (Nat.le_refl _)];rfl
   rw[FE this]at h;cases h
def My(P:Program)(C:Cfg):FuncId->List Value->AH->Option (Value×AH):=XJ P C (Rp P C)
theorem KR{f:FuncId}{args:List Value}{H:AH}{r:Value×AH}(he:ZY P C f args H=some r): ∃n,YC P C (lv P C n) f args H=some r:=by obtain⟨n,hn⟩:=Nv he;cases n with|zero=>rw[P5]at hn;cases hn|succ n=>rw[P4]at hn;exact⟨n,hn⟩
theorem aS{f:FuncId}{args:List Value}{H:AH}{r:Value×AH}(h:ZY P C f args H=some r): ∃n,run P C n f args H=some r:=KR h
theorem af{x:FuncId}{a:List Value}{H:AH}{r:Value×AH}(h:YC P C (Rp P C) x a H=some r): ∃n,YC P C (lv P C n) x a H=some r:=by rw[<-WZ]at h;exact KR h
theorem nL{x:FuncId}{a:List Value}{H:AH}{r:Value×AH}(h:My P C x a H=some r): ∃n,∀m,n<=m->XJ P C (lv P C m) x a H=some r:=by obtain⟨v,H'⟩:=r;obtain⟨n,hn⟩:=IK (Qx h);exact⟨n,fun m hm=>by unfold XJ;rw[hn m hm];rfl⟩
theorem cU{tm:Tr Value}{H:AH}{op:Op}{r:Value×AH}(he:Yk C (My P C) tm H op=some r): ∃n,∀m,n<=m->Yk C (XJ P C (lv P C m)) tm H op=some r:=by
 cases op;case call c=>simp only[Yk]at he⊢;cases hd:ZD C tm c with|none=>rw[hd]at he;cases he|some x=>rw[hd]at he;exact nL he
 case panic x=>exact⟨0,fun m _=>he⟩
 all_goals cases he
theorem uh{tm:Tr Value}{H:AH}{op:Op}{r:Value×AH}(he:Z2 P C (YC P C (Rp P C)) tm H op=some r): ∃n,∀m,n<=m->Z2 P C (YC P C (lv P C m)) tm H op=some r:=by obtain⟨n,hn⟩:=TX (F:=YC P C (Rp P C)) (G:=fun n=>YC P C (lv P C n)) (fun x a H r h=>af h) (fun h=>Uz (QL h)) he;exact⟨n,fun m hm=>W2 (Uz (QL hm)) hn⟩
theorem MW{ops:Array Oper} : ∀(l:List Oper)(s:St)(r:Ex×St),SS P C (YC P C (Rp P C)) (My P C) ops l s=some r-> ∃n,∀m,n<=m->SS P C (YC P C (lv P C m)) (XJ P C (lv P C m)) ops l s=some r
 |[],s,r,he=>by cases he
 |o::rest,s,r,he=>by
  simp only[SS]at he⊢;split at he<;>first|(cases he;done)|skip
  ·rename_i hw;split at he;·rename_i v1 H1 hp;obtain⟨n,hn⟩:=cU hp;exact⟨n,fun m hm=>by simp only[hn m hm];exact he⟩
   ·rename_i hp;split at he<;>first|(cases he;done)|skip
    rename_i v1 H1 Y7;split at he<;>first|(cases he;done)|skip
    rename_i s1 YN;obtain⟨n1,h1⟩:=uh Y7;obtain⟨n2,h2⟩:=MW rest s1 r he;refine⟨max n1 n2,fun m hm=>?_⟩;have yF:=O9 (u:=lv P C m) (v:=lv P C m) (QL (Nat.le_refl m)) (h1 m (by omega));simp only[yF,h1 m (by omega),YN];exact h2 m (by omega)
  ·rename_i hw;split at he<;>first|(cases he;done)|skip
   rename_i s1 YN;obtain⟨n2,h2⟩:=MW rest s1 r he;exact⟨n2,fun m hm=>h2 m hm⟩
theorem Uj(c:Code)(s:St):D4 P C c s=Wb P C (Rp P C) c s:=by
 have up: ∀r,D4 P C c s=some r->Wb P C (Rp P C) c s=some r:=fun r h=>by obtain⟨n,hn⟩:=F6 h;cases n with|zero=>rw[mh]at hn;cases hn|succ n=>rw[Ao]at hn;exact IA (iC n) c s r hn
 have down: ∀r,Wb P C (Rp P C) c s=some r->D4 P C c s=some r:=fun r he=>by
  have fin1:(∃n,∀m,n<=m->Wb P C (lv P C m) c s=some r)->D4 P C c s=some r:=fun⟨n,h⟩=>fQ (n:=n+1) (by rw[Ao];exact h n (Nat.le_refl _));apply fin1;cases c<;>simp only[Wb]at he⊢ <;>first|(cases he;done)|skip
  ·exact⟨0,fun m _=>he⟩
  ·rename_i id ops draw;split at he;·rename_i s1 hr;obtain⟨n,hn⟩:=NZ (F:=YC P C (Rp P C)) (G:=fun n=>YC P C (lv P C n)) (fun x a H r h=>af h) (fun h=>Uz (QL h)) hr;exact⟨n,fun m hm=>by rw[Rm (Uz (QL hm)) hn];exact he⟩
   ·cases draw with|true=>cases he|false=>rw[cond_false]at he;obtain⟨n,hn⟩:=MW _ _ _ he;refine⟨n,fun m hm=>?_⟩;have h2:=(Pg (QL (Nat.le_refl m)) _ _ _ (hn m hm)).2;rw[OD,h2];exact hn m hm
  ·split at he;·rename_i s1 hr;obtain⟨n1,h1⟩:=WY hr;obtain⟨n2,h2⟩:=WY he;exact⟨max n1 n2,fun m hm=>by rw[h1 m (by omega)];exact h2 m (by omega)⟩
   ·rename_i hn;obtain⟨n1,h1⟩:=WY he;refine⟨n1,fun m hm=>?_⟩;rw[h1 m hm];split;·rename_i s1 e;exact absurd (he.trans e) (by intro e';exact hn s1 e')
    ·rfl
  ·split at he<;>first|(cases he;done)|skip
   obtain⟨n1,h1⟩:=WY he;exact⟨n1,fun m hm=>h1 m hm⟩
  ·split at he;·rename_i j s1 hr;obtain⟨n1,h1⟩:=WY hr;exact⟨n1,fun m hm=>by rw[h1 m hm];exact he⟩
   ·rename_i hn;obtain⟨n1,h1⟩:=WY he;refine⟨n1,fun m hm=>?_⟩;rw[h1 m hm];split;·rename_i j s1 e;exact absurd (he.trans e) (by intro e';exact hn j s1 e')
    ·rfl
  ·split at he;·rename_i s1 hr;obtain⟨n1,h1⟩:=WY hr;obtain⟨n2,h2⟩:=WY he;exact⟨max n1 n2,fun m hm=>by rw[h1 m (by omega)];exact h2 m (by omega)⟩
   ·rename_i hn;obtain⟨n1,h1⟩:=WY he;refine⟨n1,fun m hm=>?_⟩;rw[h1 m hm];split;·rename_i s1 e;exact absurd (he.trans e) (by intro e';exact hn s1 e')
    ·rfl
  ·exact⟨0,fun m _=>he⟩
  ·exact⟨0,fun m _=>he⟩
 cases h:D4 P C c s with
  |some r=>exact(up r h).symm
  |none=>cases h2:Wb P C (Rp P C) c s with|none=>rfl|some r=>rw[down r h2]at h;cases h
end
end
structure uB where
  dst : Option Tmp
  op : Op
  grd : Option (Option Tmp × Bool)
def ZR(ops:Array Oper):List Oper->List uB
 |[]=>[]
 |o::r=>⟨o.dst,o.op,match o.guard with|none=>none|some (j,b)=>some ((ops[j]?).bind (·.dst),b)⟩::ZR ops r
def strip(ops:Array Oper):List uB:=ZR ops ops.toList
section
variable (P : Program) (C : Cfg)
def CW(f:FuncId)(args:List Value)(H:AH)(Q:Value->AH->Prop):Prop:= ∃v H',ZY P C f args H=some (v,H')/\Q v H'
def gW(tm:Tr Value)(g:Option (Option Tmp×Bool)):Option Bool:=match g with
 |none=>some true
 |some (some d,want)=>match tm.get d with|some (.bool b)=>some (b==want)|some (.tuple _)=>some false|_=>none
 |some (none,_)=>none
def Xm(k:Nat):List uB->Tr Value->AH->(Tr Value->AH->Prop)->Prop
 |[],tm,H,K=>K tm H
 |o::r,tm,H,K=>match gW tm o.grd with
  |some true=>match Z2 P C (ZY P C) tm H o.op with
   |some (v,H')=>match o.dst with|none=>Xm k r tm H' K|some d=>d<k/\Xm k r (tm.set d v) H' K
   |none=>False
  |some false=>match o.dst with|none=>Xm k r tm H K|some d=>d<k/\Xm k r (tm.set d undef) H K
  |none=>False
def W(c:Code)(s:St)(Q:Ex->St->Prop):Prop:= ∃ex s',D4 P C c s=some (ex,s')/\Q ex s'
end
section
variable {P : Program} {C : Cfg} {Q : Ex -> St -> Prop}
theorem En{ops:Array Oper}{tm:Tr Value}{o:Oper} :Xd ops tm o=gW tm (match o.guard with|none=>none|some (j,b)=>some ((ops[j]?).bind (·.dst),b)):=by unfold Xd gW;cases o.guard with|none=>rfl|some x=>obtain⟨j,b⟩:=x;simp only;cases(ops[j]?).bind (·.dst)<;>rfl
theorem PH{ops:Array Oper}{k:Nat} : ∀(l:List Oper)(tm:Tr Value)(H:AH)(K:Tr Value->AH->Prop),Xm P C k (ZR ops l) tm H K-> ∃Xg H',W7 P C (ZY P C) ops l ⟨k,tm,H⟩=some ⟨k,Xg,H'⟩/\K Xg H'
 |[],tm,H,K,h=>⟨tm,H,rfl,h⟩
 |o::r,tm,H,K,h=>by
  have put: ∀(v:Value)(H1:AH),(match o.dst with|none=>Xm P C k (ZR ops r) tm H1 K|some d=>d<k/\Xm P C k (ZR ops r) (tm.set d v) H1 K)-> ∃Q3,(St.put ⟨k,tm,H⟩ o.dst v H1)=some ⟨k,Q3,H1⟩/\Xm P C k (ZR ops r) Q3 H1 K:=fun v H1 h=>by cases hd:o.dst with
   |none=>rw[hd]at h;exact⟨tm,rfl,h⟩
   |some d=>
    rw[hd]at h;have:Nat.blt d k=true:=by rw[Nat.blt_eq];exact h.1
    exact⟨tm.set d v,by simp only[St.put,N9,this,cond_true],h.2⟩
  rw[Wv];simp only;rw[En];simp only[ZR,Xm]at h;split at h
  ·rename_i hg;rw[hg];split at h;·rename_i v H1 Y7;obtain⟨Q3,YN,hl⟩:=put v H1 h;obtain⟨Xg,H',h1,h2⟩:=PH r Q3 H1 K hl;refine⟨Xg,H',?_,h2⟩;simp only[Y7,YN];exact h1
   ·exact h.elim
  ·rename_i hg;rw[hg];obtain⟨Q3,YN,hl⟩:=put undef H h;obtain⟨Xg,H',h1,h2⟩:=PH r Q3 H K hl;refine⟨Xg,H',?_,h2⟩;simp only[YN];exact h1
  ·exact h.elim
theorem Zk{i:Nat}{ops:Array Oper}{s:St}(h:Xm P C s.k (strip ops) s.tm s.H fun Xg H'=>Q .norm ⟨s.k,Xg,H'⟩):W P C (.region i ops false) s Q:=by
 obtain⟨k,tm,H⟩:=s;obtain⟨Xg,H',h1,h2⟩:=PH (ops:=ops) ops.toList tm H _ h;refine⟨.norm,⟨k,Xg,H'⟩,?_,h2⟩;rw[Uj];simp only[Wb];rw[WZ]at h1;have:YB P C (YC P C (Rp P C)) ops false ⟨k,tm,H⟩=some ⟨k,Xg,H'⟩:=by unfold YB W8;simp only[Bool.false_and,cond_false];exact h1
 rw[this]
theorem ND:(Rp P C).code=D4 P C:=rfl
def Yx(P:Program)(C:Cfg)(b:Code)(Q:Ex->St->Prop):Ex->St->Prop| .norm,s=>W P C b s Q|e,s=>Q e s
theorem Zh{a b:Code}{s:St}(h: ∀b',b'=b->W P C a s (Yx P C b' Q)):W P C (.seq a b) s Q:=by obtain⟨ex,s1,h1,h2⟩:=h b rfl;unfold W;rw[Uj];simp only[Wb,ND,h1];cases ex with|norm=>exact h2|exit j=>exact⟨_,_,rfl,h2⟩|ret=>exact⟨_,_,rfl,h2⟩|pan v=>exact⟨_,_,rfl,h2⟩
theorem Zr{s:St}(h:Q .norm s):W P C .skip s Q:=⟨.norm,s,by rw[Uj];rfl,h⟩
theorem YP{i:Nat}{s:St}(h:Q (.exit i) s):W P C (.exit i) s Q:=⟨.exit i,s,by rw[Uj];rfl,h⟩
theorem Zu{s:St}(h:Q .ret s):W P C .ret s Q:=⟨.ret,s,by rw[Uj];rfl,h⟩
theorem Za{x:Operand}{a b:Code}{s:St}{t:Bool}(hx:YE C s.tm x=some (.bool t))(h:W P C (cond t a b) s Q):W P C (.cond x a b) s Q:=by unfold W;rw[Uj];simp only[Wb,ND,hx];exact h
def Yn(id:Nat)(Q:Ex->St->Prop):Ex->St->Prop| .exit j,s=>(j=id/\Q .norm s)\/(j≠id/\Q (.exit j) s)|e,s=>Q e s
theorem ZS{id:Nat}{b:Code}{s:St}(h:W P C b s (Yn id Q)):W P C (.block id b) s Q:=by obtain⟨ex,s1,h1,h2⟩:=h;unfold W;rw[Uj];simp only[Wb,ND,h1];cases ex with
 |norm=>exact⟨_,_,rfl,h2⟩
 |exit j=>
  rcases h2 with⟨e,h2⟩|⟨e,h2⟩;·exact⟨.norm,s1,by simp only[XC e,cond_true],h2⟩
  ·exact⟨.exit j,s1,by simp only[Xh e,cond_false],h2⟩
 |ret=>exact⟨_,_,rfl,h2⟩
 |pan v=>exact⟨_,_,rfl,h2⟩
theorem Gh{b:Code}{s:St}(h:W P C b s (Yx P C (.loop b) Q)):W P C (.loop b) s Q:=by obtain⟨ex,s1,h1,h2⟩:=h;unfold W;rw[Uj];simp only[Wb,ND,h1];cases ex with|norm=>exact h2|exit j=>exact⟨_,_,rfl,h2⟩|ret=>exact⟨_,_,rfl,h2⟩|pan v=>exact⟨_,_,rfl,h2⟩
def T5(I:Nat->St->Prop)(n:Nat)(Q:Ex->St->Prop):Ex->St->Prop| .norm,s=> ∃m,m<n/\I m s|e,s=>Q e s
theorem Gg{b:Code}(I:Nat->St->Prop)(h: ∀n s,I n s->W P C b s (T5 I n Q)): ∀(n:Nat)(s:St),I n s->W P C (.loop b) s Q:=by intro n;induction n using Nat.strongRecOn with
 |_ n ih=>intro s hI;apply Gh;obtain⟨ex,s1,h1,h2⟩:=h n s hI;refine⟨ex,s1,h1,?_⟩;cases ex with|norm=>obtain⟨m,hm,D6⟩:=h2;exact ih m hm s1 D6|exit j=>exact h2|ret=>exact h2|pan v=>exact h2
theorem W.mono{c:Code}{s:St}{Q':Ex->St->Prop}(h:W P C c s Q)(hQ: ∀e s,Q e s->Q' e s):W P C c s Q':=by obtain⟨e,s1,h1,h2⟩:=h;exact⟨e,s1,h1,hQ _ _ h2⟩
theorem CW.mono{f:FuncId}{args:List Value}{H:AH}{Q Q':Value->AH->Prop}(h:CW P C f args H Q)(hQ: ∀v H',Q v H'->Q' v H'):CW P C f args H Q':=by obtain⟨v,H',h1,h2⟩:=h;exact⟨v,H',h1,hQ _ _ h2⟩
theorem dE(k:Nat){f:FuncId}{fn:Func}{c:Code}{args:List Value}{H:AH}{R:Value->AH->Prop}(ha:Nat.beq f C.add=false)(hs:Nat.beq f C.sub=false)(hf:P.funcs[f]?=some fn)(hb:fn.body=some c)(hk:args.length+(fn.ntmps-args.length)=k)(h:W P C c { k:=k,tm:=Yw 0 args .nil,H:=H } fun ex s=>(ex= .norm\/ex= .ret)/\ ∃vs,Zw P s fn.results.toList=some vs/\R (Z5 vs) s.H)(hd:Rj c=none:=by rfl):CW P C f args H R:=by
 subst hk;obtain⟨ex,s,h1,h2,vs,h3,h4⟩:=h;refine⟨Z5 vs,s.H,?_,h4⟩;rw[WZ];unfold YC Wf;rw[ha,cond_false,hs,cond_false,hf];simp only[hb,SX,hd];show LY (Ee P fn (D4 P C c _))=_;rw[h1];rcases h2 with rfl|rfl;·simp only[Ee,h3,LY]
 ·simp only[Ee,h3,LY]
def KQ(P:Program)(C:Cfg):FuncId->List Value->AH->Option (Out×AH):=Wf P C (Rp P C)
def CWO(P:Program)(C:Cfg)(f:FuncId)(args:List Value)(H:AH)(R:Out->AH->Prop):Prop:= ∃o H',KQ P C f args H=some (o,H')/\R o H'
theorem KO{f:FuncId}{args:List Value}{H:AH}{v:Value}{H':AH}(h:KQ P C f args H=some (.ret v,H')):ZY P C f args H=some (v,H'):=by rw[WZ];unfold YC;have:Wf P C (Rp P C) f args H=_:=h;rw[this];rfl
theorem KP{f:FuncId}{args:List Value}{H:AH}{v:Value}{H':AH}(h:KQ P C f args H=some (.pan v,H')):My P C f args H=some (v,H'):=by unfold My XJ;have:Wf P C (Rp P C) f args H=_:=h;rw[this];rfl
theorem aw(k:Nat){f:FuncId}{fn:Func}{c:Code}{args:List Value}{H:AH}{R:Out->AH->Prop}(ha:Nat.beq f C.add=false)(hs:Nat.beq f C.sub=false)(hf:P.funcs[f]?=some fn)(hb:fn.body=some c)(hk:args.length+(fn.ntmps-args.length)=k)(h:W P C c { k:=k,tm:=Yw 0 args .nil,H:=H } fun ex s=>((ex= .norm\/ex= .ret)/\ ∃vs,Zw P s fn.results.toList=some vs/\R (.ret (Z5 vs)) s.H)\/ ∃v,ex= .pan v/\R (.pan v) s.H)(hd:Rj c=none:=by rfl):CWO P C f args H R:=by
 subst hk;obtain⟨ex,s,h1,h2⟩:=h;unfold CWO KQ Wf;rw[ha,cond_false,hs,cond_false,hf];simp only[hb,SX,hd];show∃o H',Ee P fn (D4 P C c _)=some (o,H')/\R o H';rw[h1];rcases h2 with⟨h2,vs,h3,h4⟩|⟨v,rfl,h4⟩
 ·refine⟨.ret (Z5 vs),s.H,?_,h4⟩;rcases h2 with rfl|rfl;·simp only[Ee,h3]
  ·simp only[Ee,h3]
 ·exact⟨.pan v,s.H,rfl,h4⟩
def XM(P:Program)(C:Cfg)(k:Nat):List uB->Tr Value->AH->(Value->Tr Value->AH->Prop)->Prop
 |[],tm,H,K=>False
 |o::r,tm,H,K=>match gW tm o.grd with
  |some true=>match Z2 P C (ZY P C) tm H o.op with
   |some (v,H')=>match o.dst with|none=>XM P C k r tm H' K|some d=>d<k/\XM P C k r (tm.set d v) H' K
   |none=>match Yk C (My P C) tm H o.op with|some (v,H')=>K v tm H'|none=>False
  |some false=>match o.dst with|none=>XM P C k r tm H K|some d=>d<k/\XM P C k r (tm.set d undef) H K
  |none=>False
theorem HA{ops:Array Oper}{k:Nat} : ∀(l:List Oper)(tm:Tr Value)(H:AH)(K:Value->Tr Value->AH->Prop),XM P C k (ZR ops l) tm H K-> ∃v Xg H',SS P C (YC P C (Rp P C)) (XJ P C (Rp P C)) ops l ⟨k,tm,H⟩=some (.pan v,⟨k,Xg,H'⟩)/\K v Xg H'
 |[],tm,H,K,h=>h.elim
 |o::r,tm,H,K,h=>by
  have put: ∀(v:Value)(H1:AH),(match o.dst with|none=>XM P C k (ZR ops r) tm H1 K|some d=>d<k/\XM P C k (ZR ops r) (tm.set d v) H1 K)-> ∃Q3,(St.put ⟨k,tm,H⟩ o.dst v H1)=some ⟨k,Q3,H1⟩/\XM P C k (ZR ops r) Q3 H1 K:=fun v H1 h=>by cases hd:o.dst with
   |none=>rw[hd]at h;exact⟨tm,rfl,h⟩
   |some d=>
    rw[hd]at h;have:Nat.blt d k=true:=by rw[Nat.blt_eq];exact h.1
    exact⟨tm.set d v,by simp only[St.put,N9,this,cond_true],h.2⟩
  simp only[SS];rw[En];simp only[ZR,XM]at h;split at h
  ·rename_i hg;rw[hg];split at h;·rename_i v H1 Y7;obtain⟨Q3,YN,hl⟩:=put v H1 h;obtain⟨v2,Xg,H',h1,h2⟩:=HA r Q3 H1 K hl;refine⟨v2,Xg,H',?_,h2⟩;rw[WZ]at Y7;have hn:=O9 (u:=Rp P C) (v:=Rp P C) ⟨fun _ _ _ h=>h,fun _ _ _ _ h=>h⟩ Y7;simp only[hn,Y7,YN];exact h1
   ·split at h;·rename_i v H1 hp;refine⟨v,tm,H1,?_,h⟩;have hp:Yk C (XJ P C (Rp P C)) tm H o.op=some (v,H1):=hp;simp only[hp]
    ·exact h.elim
  ·rename_i hg;rw[hg];obtain⟨Q3,YN,hl⟩:=put undef H h;obtain⟨v2,Xg,H',h1,h2⟩:=HA r Q3 H K hl;refine⟨v2,Xg,H',?_,h2⟩;simp only[YN];exact h1
  ·exact h.elim
theorem Ch{i:Nat}{ops:Array Oper}{s:St}(h:XM P C s.k (strip ops) s.tm s.H fun v Xg H'=>Q (.pan v) ⟨s.k,Xg,H'⟩):W P C (.region i ops false) s Q:=by obtain⟨k,tm,H⟩:=s;obtain⟨v,Xg,H',h1,h2⟩:=HA (ops:=ops) ops.toList tm H _ h;refine⟨.pan v,⟨k,Xg,H'⟩,?_,h2⟩;rw[Uj];simp only[Wb];have hn:=(Pg (u:=Rp P C) (v:=Rp P C) ⟨fun _ _ _ h=>h,fun _ _ _ _ h=>h⟩ _ _ _ h1).2;rw[OD,hn];exact h1
def WS(P:Program)(C:Cfg)(rv:Value)(c:Code)(s:St)(Q:Ex->St->Prop):Prop:= ∃ex s',F8 P C (Rp P C) rv c s=some (ex,s')/\Q ex s'
theorem WM{rv:Value}{id:Nat}{ops:Array Oper}{draw:Bool}{s:St}(ho:Rr ops=true)(h:W P C (.region id (ops.map (WT rv)) draw) s fun ex s'=>ex= .norm/\Q .norm s'):WS P C rv (.region id ops draw) s Q:=by
 obtain⟨ex,s',h1,rfl,h2⟩:=h;refine⟨.norm,s',?_,h2⟩;simp only[F8];rw[ho,cond_true];rw[Uj]at h1;simp only[Wb]at h1;show(match YB P C (ZY P C) (ops.map (WT rv)) draw s with|some s'=>some (Ex.norm,s')|none=>none)=_;rw[WZ];split at h1;·rename_i s1 hr;rw[hr];exact h1
 ·exfalso;cases draw with
  |true=>cases h1
  |false=>
   rw[cond_false]at h1;have: ∀(l:List Oper)(s:St)(s':St),SS P C (YC P C (Rp P C)) (XJ P C (Rp P C)) (ops.map (WT rv)) l s≠some (.norm,s'):=by intro l;induction l with
    |nil=>intro s s' e;cases e
    |cons o r ih=>
     intro s s' e;simp only[SS]at e;split at e<;>first|(cases e;done)|skip
     ·split at e;·cases e
      ·split at e<;>first|(cases e;done)|skip
       split at e<;>first|(cases e;done)|skip
       exact ih _ _ e
     ·split at e<;>first|(cases e;done)|skip
      exact ih _ _ e
   exact this _ _ _ h1
theorem eZ{rv:Value}{a b:Code}{s:St}(hf:RF a=true)(h:WS P C rv a s fun ex s'=>ex= .norm/\W P C b s' fun ex s'=>(ex= .norm\/ex= .ret)/\Q ex s'):WS P C rv (.seq a b) s Q:=by obtain⟨ex,s1,h1,rfl,ex2,s2,h2,h3,h4⟩:=h;refine⟨ex2,s2,?_,h4⟩;simp only[F8,hf,cond_true,h1];show N4 (D4 P C b s1)=_;rw[h2];rcases h3 with rfl|rfl<;>rfl
def Cd(P:Program)(C:Cfg)(g:FuncId)(args:List Value)(rv:Value)(H:AH)(K:AH->Prop):Prop:= ∃H',Pf P C (Rp P C) g args rv H=some H'/\K H'
theorem WN(k:Nat){g:FuncId}{fn:Func}{c:Code}{args:List Value}{rv:Value}{H:AH}{K:AH->Prop}(hf:P.funcs[g]?=some fn)(hb:fn.body=some c)(hk:args.length+(fn.ntmps-args.length)=k)(h:WS P C rv c { k:=k,tm:=Yw 0 args .nil,H:=H } fun ex s=>(ex= .norm\/ex= .ret)/\ ∃vs,Zw P s fn.results.toList=some vs/\K s.H):Cd P C g args rv H K:=by
 subst hk;obtain⟨ex,s,h1,h2,vs,h3,h4⟩:=h;refine⟨s.H,?_,h4⟩;unfold Pf;simp only[hf,hb,h1];rcases h2 with rfl|rfl;·simp only[h3]
 ·simp only[h3]
theorem dG(k:Nat){f:FuncId}{fn:Func}{c a:Code}{ops:Array Oper}{o1:Oper}{dc:Call}{rest:Code}{args:List Value}{H:AH}{R:Value->AH->Prop}(ha:Nat.beq f C.add=false)(hs:Nat.beq f C.sub=false)(hf:P.funcs[f]?=some fn)(hb:fn.body=some c)(hk:args.length+(fn.ntmps-args.length)=k)(hd:Rj c=some (a,ops,o1,dc,rest))(h:W P C a { k:=k,tm:=Yw 0 args .nil,H:=H } fun ex s=>ex= .norm/\Xm P C s.k (ZR ops [o1]) s.tm s.H fun db H2=> ∃g La,ZD C db dc=some (g,La)/\W P C rest ⟨s.k,db,H2⟩ fun xu s3=> ∃rv,VI xu=some rv/\Cd P C g La rv s3.H fun H4=> ∃vs,Zw P ⟨s3.k,s3.tm,H4⟩ fn.results.toList=some vs/\R (Z5 vs) H4):CW P C f args H R:=by subst hk;obtain⟨ex,s1,h1,rfl,h2⟩:=h;obtain⟨db,H2,h3,g,La,h4,xu,s3,h5,rv,h6,H4,h7,vs,h8,h9⟩:=PH [o1] _ _ _ h2;refine⟨Z5 vs,H4,?_,h9⟩;rw[WZ];unfold YC Wf;rw[ha,cond_false,hs,cond_false,hf];simp only[hb,SX,hd];unfold Vk;have h1:(Rp P C).code a { k:=args.length+(fn.ntmps-args.length),tm:=Yw 0 args .nil,H:=H } =some (.norm,s1):=h1;have h3:W7 P C (Rp P C).call ops [o1] s1=some ⟨s1.k,db,H2⟩:=h3;have h5:(Rp P C).code rest ⟨s1.k,db,H2⟩=some (xu,s3):=h5;simp only[h1,h3,h4,h5,h6,h7,h8,LY]
variable {tm : Tr Value} {H : AH} {K : Value -> AH -> Prop}
end
end
end Go.Proofs.YtmkfecoeghokfaaGreatDoor.Ev
namespace Go.Proofs.YtmkfecoeghokfaaGreatDoor
open Go.ChangeShapes Go.WideShapes Go.ChangeAt Go.RowKit Go.Proofs.YtmkfecoeghokfaaGreatDoor.Ev
set_option linter.unusedVariables false
noncomputable section
set_option maxHeartbeats 2000000
set_option maxRecDepth 20000
def xc:Cfg:= { ng:=0,add:=203,sub:=206,sp:=[(78,9),(74,9)] }
theorem jg:(Tryz.prog.funcs.toList.all fun fn=>fn.body.isNone||!(fn.name== "runtime.NumGoroutine"))=true:=by kernel_rfl
theorem rX (n : Nat) : CfgOk Tryz.prog { xc with ng := n } where
  mixed := Tryz.checked.mixed
  names := fun f fn hf hb => by
    have h := List.all_eq_true.mp jg fn (by rw [Array.mem_toList_iff]; exact Array.mem_of_getElem? hf)
    cases SO : fn.body with
    | none => rw [SO] at hb; cases hb
    | some c =>
      rw [SO] at h
      simpa using h
  add := ⟨Tryz.f203, Tryz.func203, by kernel_rfl, by kernel_rfl, by kernel_rfl, by kernel_rfl⟩
  sub := ⟨Tryz.f206, Tryz.func206, by kernel_rfl, by kernel_rfl, by kernel_rfl, by kernel_rfl⟩
end
end Go.Proofs.YtmkfecoeghokfaaGreatDoor
namespace Go.Proofs.YtmkfecoeghokfaaGreatDoor
open Go.ChangeShapes Go.WideShapes Go.ChangeAt Go.RowKit Go.Proofs.YtmkfecoeghokfaaGreatDoor.Ev
set_option linter.unusedVariables false
noncomputable section
set_option linter.unusedSimpArgs false
set_option maxHeartbeats 2000000
set_option maxRecDepth 20000
def lz(k:Int)(s:List UInt8)(a:Int):List Value:=[.int .i64 k,.string ⟨s.toArray⟩,.int .i64 a]
def oZ(k:Int)(s:List UInt8)(a:Int){H:Type} :DataW H:= .agg [.lit (.int .i64 k),.lit (.string s),.lit (.int .i64 a)]
def Ob:List (Int×List UInt8×Int):=[(0,[],0),(1,[112,105],0),(2,[45],1),(3,[43],2),(4,[45],2),(5,[42],2),(6,[47],2),(7,[97,98,115],1),(8,[109,105,110],2),(9,[109,97,120],2),(10,[115,113,114,116],1),(11,[101,120,112],1),(12,[108,110],1),(13,[115,105,110],1),(14,[99,111,115],1),(15,[97,116,97,110],1)]
def WL:List Value:=Ob.flatMap fun x=>lz x.1 x.2.1 x.2.2
theorem bJ{H:Type} :(Rows.laid_surd_expr_rows:DataW H)= .agg (Ob.map fun x=>oZ x.1 x.2.1 x.2.2):=rfl
theorem xW:Tryz.prog.globalNamed "surd/expr.rows"=some 0:=by kernel_rfl
theorem Zam:(Tryz.prog.globals[0]?).map (·.type)=some 181:=by kernel_rfl
theorem Zao:Tryz.prog.underlying 181=some (.array 16 180):=by kernel_rfl
theorem uRow: ∃f0 f1 f2,Tryz.prog.underlying 180=some (.struct #[f0,f1,f2])/\f0.type=50/\f0.offset=0/\f1.type=9/\f1.offset=1/\f2.type=3/\f2.offset=2:=⟨_,_,_,Tryz.underlying180,rfl,rfl,rfl,rfl,rfl,rfl⟩
theorem uOp:Tryz.prog.underlying 50=some (.int .i64):=by kernel_rfl
theorem cOp:Tryz.prog.cellsOf 50=1:=by kernel_rfl
theorem cStr:Tryz.prog.cellsOf 9=1:=by kernel_rfl
theorem cInt:Tryz.prog.cellsOf 3=1:=by kernel_rfl
theorem w8:Tryz.prog.cellsOf 180=3:=by kernel_rfl
theorem w9:Tryz.prog.cellsOf 181=48:=by kernel_rfl
section
variable {H : Type} {enc : TypeId × Value -> H} {w : World} {base : Nat} {sp : Nat -> Bool} {held : Bool}
theorem uW{m:Nat}{l:List Value}{k:Int}{s:List UInt8}{a:Int}{p:List MemPlace}(h:DataW.trod enc Tryz.prog w base sp held m 180 l=some (oZ k s a,p)):l=lz k s a:=by obtain⟨f0,f1,f2,hu,e1,e2,e3,e4,e5,e6⟩:=uRow;obtain⟨y0,y1,y2,n,hx,hl,h0,h1,h2⟩:=Deep.trod_struct3 hu h;rw[e1,e2,cOp]at h0;rw[e3,e4,cStr]at h1;rw[e5,e6,cInt]at h2;rw[w8]at hl;obtain⟨n0,c0,x0,_⟩:=DataW.trod_int uOp h0;obtain⟨s1,c1,x1,_⟩:=DataW.trod_string Tryz.underlying9 h1;obtain⟨n2,c2,x2,_⟩:=DataW.trod_int Tryz.underlying3 h2;subst x0;subst x1;subst x2;simp only[oZ,Prod.mk.injEq,DataW.agg.injEq,List.cons.injEq,DataW.lit.injEq,Lit.int.injEq,Lit.string.injEq,true_and,and_true]at hx;obtain⟨⟨rfl,rfl,rfl⟩,_⟩:=hx;match l,hl with|[a0,a1,a2],_=>simp at c0 c1 c2;subst c0;subst c1;subst c2;rfl
theorem oW{fuel:Nat}{cs:List Value}{p:List MemPlace}(h:DataW.trod enc Tryz.prog w base sp held fuel 181 cs=some (Rows.laid_surd_expr_rows,p)):cs=WL:=by
 obtain⟨xs,m,_,hx,hl,hn,pA⟩:=DataW.trod_array Zao h;rw[w9]at hl;rw[bJ]at hx;simp only[Prod.mk.injEq,DataW.agg.injEq]at hx;have key: ∀i,i<16->(cs.drop (i*3)).take 3=(WL.drop (i*3)).take 3:=by
  intro i hi;have h1:=pA i hi;rw[w8]at h1;have h2:(xs.map (·.1))[i]?=some (oZ ((Ob[i]?.getD (0,[],0))).1 (Ob[i]?.getD (0,[],0)).2.1 (Ob[i]?.getD (0,[],0)).2.2):=by rw[<-hx.1,List.getElem?_map,List.getElem?_eq_getElem (show i<Ob.length from hi)];rfl
  rw[List.getElem?_map]at h2;cases hxi:xs[i]? with
   |none=>rw[hxi]at h2;cases h2
   |some y=>
    rw[hxi]at h1 h2;obtain⟨y1,y2⟩:=y;simp only[Option.map_some,Option.some.injEq]at h2;subst h2;rw[uW h1];clear h1 hx pA hn hl h hxi;have:i=0\/i=1\/i=2\/i=3\/i=4\/i=5\/i=6\/i=7\/i=8\/i=9\/i=10\/i=11\/i=12\/i=13\/i=14\/i=15:=by omega
    rcases this with rfl|rfl|rfl|rfl|rfl|rfl|rfl|rfl|rfl|rfl|rfl|rfl|rfl|rfl|rfl|rfl<;>rfl
 apply List.ext_getElem?;intro k;by_cases hk:k<48
 ·have:=key (k/3) (by omega);have h3:=congrArg (fun l=>l[k%3]?) this;simp only[List.getElem?_take,List.getElem?_drop]at h3;rw[if_pos (Nat.mod_lt _ (by decide)),if_pos (Nat.mod_lt _ (by decide))]at h3;have e:k/3*3+k%3=k:=by omega
  rw[e]at h3;exact h3
 ·rw[List.getElem?_eq_none (by omega),List.getElem?_eq_none (by show WL.length<=k;have:WL.length=48:=rfl;omega)]
end
theorem nP{W:World}(h:laidMetH Tryz.prog [("surd/expr.rows",Rows.laid_surd_expr_rows)] W): ∀k v,WL[k]?=some v->W.cell? ⟨0,k,none⟩=some v:=by rw[MakeChecks.laidMetH_plain _ _ _ (by kernel_rfl)]at h;obtain⟨ps,⟨g0,t0,Wr,f0,p0,q0,yy,vO,hv0,mU,_⟩,_,_⟩:=h;obtain rfl:=Option.some.inj (xW.symm.trans yy);obtain rfl:=Option.some.inj (Zam.symm.trans vO);have hc:=oW mU;intro k v hk;rw[World.var?_cell yy hv0 k,<-hk,<-hc];simp
def Mf:AH:= { n:=0+1,lw:=0+1,t:=Tr.nil.set 0 (.ro 3 WL) }
def Zy:Cfg:= { xc with ng:=0+1 }
def jW:Nat->Ev.Loc:=fun i=>⟨i,0,3,48⟩
def qJ:Nat->Prop:=fun i=>i<0+1
theorem oX:GO Zy qJ jW:=fun g hg=>⟨hg,rfl,rfl⟩
theorem BV:WL.all ZO=true:=rfl
theorem di{S:Nat->Prop}{L:Nat->Ev.Loc}{v:Value}(h:ZO v=true):VR S L v v:=by exact Oa h
theorem Fh{w:World}(h: ∀k v,WL[k]?=some v->w.cell? ⟨0,k,none⟩=some v):Inv w.heap.size qJ jW Mf w:=by
 have XO: ∀i b,Mf.blk i=b->b≠ .dead->i=0/\b= .ro 3 WL:=by
  intro i b hb hd;by_cases hi:i=0;·subst hi;exact⟨rfl,by rw[<-hb];rfl⟩
  ·exfalso;apply hd;rw[<-hb];unfold AH.blk Mf;simp only[Tr.get_set,if_neg hi,Tr.get_nil]
 have h0:=h 0 _ rfl;have X4:0<w.heap.size:=by
  by_cases hx:0<w.heap.size;·exact hx
  ·exfalso;have:w.heap[0]?=none:=Array.getElem?_eq_none (by omega);simp[World.cell?,this]at h0
 refine⟨fun i sz cs hb=>?_,fun i sz cs hb=>?_,fun i j a b c d hb=>?_,fun i hi=>hi,Nat.le_refl _⟩
 ·obtain⟨rfl,he⟩:=XO i _ hb (by intro e;cases e);cases he;refine⟨Nat.lt_succ_self _,X4,rfl,fun k v hk=>⟨v,?_,?_⟩⟩;·have:=h k v hk;simpa[jW]using this
  ·exact di (List.all_eq_true.mp BV v (List.mem_of_getElem? hk))
 ·obtain⟨_,he⟩:=XO i _ hb (by intro e;cases e);cases he
 ·obtain⟨_,he⟩:=XO i _ hb (by intro e;cases e);cases he
end
end Go.Proofs.YtmkfecoeghokfaaGreatDoor
namespace Go.Proofs.YtmkfecoeghokfaaGreatDoor
set_option linter.unusedVariables false
set_option linter.unusedSimpArgs false
set_option maxHeartbeats 2000000
set_option maxRecDepth 20000
def YS:List Nat->List Nat
 |[]=>[]
 |x::xs=>match YS xs with|[]=>if x=0 then[]else[x]|y::ys=>x::y::ys
theorem VE: ∀(xs:List Nat),YS (xs++[0])=YS xs|[]=>rfl|x::xs=>by simp[YS,VE xs]
theorem S6: ∀(xs:List Nat)(x:Nat),x≠0->YS (xs++[x])=xs++[x]|[],x,h=>by simp[YS,h]|y::xs,x,h=>by have:=S6 xs x h;simp only[List.cons_append,YS,this];cases xs<;>rfl
theorem XG(xs:List Nat):(YS xs).length<=xs.length:=by induction xs with
 |nil=>simp[YS]
 |cons x xs ih=>
  simp only[YS];split;·split<;>simp
  ·rename_i y ys e;rw[e]at ih;simp at ih⊢;exact ih
def YG(B:Nat)(xs:List Nat):Prop:= ∀x∈xs,x<B
theorem YG.nil(B:Nat):YG B []:=fun x h=>by cases h
theorem YG.cons{B x:Nat}{xs:List Nat}(h:x<B)(hs:YG B xs):YG B (x::xs):=fun y hy=>by
 rcases List.mem_cons.mp hy with e|e;·rw[e];exact h
 ·exact hs y e
theorem YG.tail{B x:Nat}{xs:List Nat}(h:YG B (x::xs)):YG B xs:=fun y hy=>h y (List.mem_cons_of_mem _ hy)
theorem YG.head{B x:Nat}{xs:List Nat}(h:YG B (x::xs)):x<B:=h x (List.mem_cons_self ..)
theorem YG.append{B:Nat}{xs ys:List Nat}(h:YG B xs)(h':YG B ys):YG B (xs++ys):=fun y hy=>by
 rcases List.mem_append.mp hy with e|e;·exact h y e
 ·exact h' y e
theorem YG.get{B:Nat}{xs:List Nat}(h:YG B xs){i x:Nat}(hi:xs[i]?=some x):x<B:=h x (List.mem_of_getElem? hi)
theorem YG.take{B:Nat}{xs:List Nat}(h:YG B xs)(n:Nat):YG B (xs.take n):=fun y hy=>h y (List.mem_of_mem_take hy)
theorem YG.drop{B:Nat}{xs:List Nat}(h:YG B xs)(n:Nat):YG B (xs.drop n):=fun y hy=>h y (List.mem_of_mem_drop hy)
def dv(B:Nat):List Nat->Nat|[]=>0|x::xs=>x+B*dv B xs
theorem Yt(B:Nat): ∀(xs ys:List Nat),dv B (xs++ys)=dv B xs+B^xs.length*dv B ys|[],ys=>by simp[dv]|x::xs,ys=>by simp only[List.cons_append,dv,Yt B xs ys,List.length_cons,Nat.pow_succ,Nat.mul_add];rw[Nat.add_assoc,<-Nat.mul_assoc,Nat.mul_comm B (B^_)]
theorem X3{B:Nat} : ∀{xs:List Nat},YG B xs->dv B xs<B^xs.length
 |[],_=>by simp[dv]
 |x::xs,h=>by
  have h1:=h.head;have h2:=X3 h.tail;simp only[dv,List.length_cons,Nat.pow_succ];have:B*dv B xs+B<=B*B^xs.length:=by rw[<-Nat.mul_succ];exact Nat.mul_le_mul_left _ h2
  rw[Nat.mul_comm (B^_) B];omega
theorem UF(B:Nat): ∀n,dv B (List.replicate n 0)=0|0=>rfl|n+1=>by simp[List.replicate_succ,dv,UF B n]
theorem WX(B:Nat): ∀(xs:List Nat),dv B (YS xs)=dv B xs
 |[]=>rfl
 |x::xs=>by
  have ih:=WX B xs;simp only[YS];split
  ·rename_i e;rw[e]at ih;simp only[dv]at ih⊢;split;·rename_i h;simp[dv,h,<-ih]
   ·simp[dv,<-ih]
  ·rename_i y ys e;rw[e]at ih;simp only[dv]at ih⊢;rw[ih]
theorem XH{B:Nat} : ∀{xs:List Nat},YG B xs->YG B (YS xs)
 |[],h=>h
 |x::xs,h=>by
  have ih:=XH h.tail;simp only[YS];split
  ·split;·exact .nil B
   ·exact .cons h.head (.nil B)
  ·rename_i y ys e;rw[e]at ih;exact .cons h.head ih
theorem S5: ∀(xs:List Nat),YS (YS xs)=YS xs
 |[]=>rfl
 |x::xs=>by
  have ih:=S5 xs;simp only[YS];split
  ·split;·rfl
   ·rename_i h;simp[YS,h]
  ·rename_i y ys e;rw[e]at ih;simp only[YS]at ih⊢;rw[ih]
def ds(B:Nat)(n:Nat):List Nat:=if h:n=0\/B<2 then[]else n%B::ds B (n/B) termination_by n decreasing_by exact Nat.div_lt_self (by omega) (by omega)
theorem XY(B:Nat):ds B 0=[]:=by rw[ds];simp
theorem TG{B n:Nat}(hB:2<=B)(hn:n≠0):ds B n=n%B::ds B (n/B):=by rw[ds,dif_neg (by omega)]
theorem YT{B:Nat}(hB:2<=B)(n:Nat):dv B (ds B n)=n:=by induction n using Nat.strongRecOn with
 |_ n ih=>
  by_cases h:n=0;·subst h;rw[XY];rfl
  ·rw[TG hB h];simp only[dv];rw[ih (n/B) (Nat.div_lt_self (by omega) (by omega))];exact Nat.mod_add_div n B
theorem Yv{B:Nat}(hB:2<=B)(n:Nat):YG B (ds B n):=by induction n using Nat.strongRecOn with
 |_ n ih=>
  by_cases h:n=0;·subst h;rw[XY];exact .nil B
  ·rw[TG hB h];exact .cons (Nat.mod_lt _ (by omega)) (ih (n/B) (Nat.div_lt_self (by omega) (by omega)))
theorem OM(B:Nat)(hB:2<=B): ∀{xs:List Nat},dv B xs=0->YS xs=[]
 |[],_=>rfl
 |x::xs,h=>by
  simp only[dv]at h;have h1:x=0:=by omega
  have h2:dv B xs=0:=by
   have:B*dv B xs=0:=by omega
   rcases Nat.mul_eq_zero.mp this with e|e;·omega
   ·exact e
  simp[YS,OM B hB h2,h1]
theorem Xl{B:Nat}(hB:2<=B): ∀{xs:List Nat},YG B xs->YS xs=ds B (dv B xs)
 |[],_=>(XY B).symm
 |x::xs,h=>by
  have ih:=Xl hB h.tail;have hx:=h.head;by_cases h0:dv B (x::xs)=0;·rw[h0,XY];exact OM B hB h0
  ·have e1:(x+B*dv B xs)%B=x:=by rw[Nat.add_mul_mod_self_left];exact Nat.mod_eq_of_lt hx
   have e2:(x+B*dv B xs)/B=dv B xs:=by rw[Nat.add_mul_div_left _ _ (by omega),Nat.div_eq_of_lt hx,Nat.zero_add]
   rw[TG hB h0];simp only[dv,e1,e2];rw[<-ih];simp only[YS];split
   ·rename_i e;split
    ·rename_i hz;exfalso;apply h0;have:dv B xs=0:=by rw[<-WX B xs,e];rfl
     simp[dv,hz,this]
    ·rw[e]
   ·rename_i y ys e;rw[e]
theorem Ts{B:Nat}(hB:2<=B)(n:Nat):YS (ds B n)=ds B n:=by rw[Xl hB (Yv hB n),YT hB]
theorem XB{B:Nat}(hB:2<=B): ∀{k n:Nat},n<B^k->(ds B n).length<=k
 |0,n,h=>by
  have:n=0:=by simpa using h
  subst this;rw[XY];exact Nat.le_refl _
 |k+1,n,h=>by
  by_cases h0:n=0;·subst h0;rw[XY];exact Nat.zero_le _
  ·rw[TG hB h0];have:n/B<B^k:=by rw[Nat.div_lt_iff_lt_mul (by omega)];rw[Nat.pow_succ]at h;exact h
   simpa using XB hB this
theorem F3{B:Nat}(hB:2<=B)(n:Nat):n<B^(ds B n).length:=by have:=X3 (Yv hB n);rwa[YT hB]at this
theorem fY{B:Nat}(hB:2<=B){n:Nat}(hn:n≠0):B^((ds B n).length-1)<=n:=by
 rcases Nat.lt_or_ge n (B^((ds B n).length-1))with h|h
 ·have:=XB hB h;have h2:(ds B n).length≠0:=by rw[TG hB hn];simp
  omega
 ·exact h
theorem Gp{B:Nat}{xs ys:List Nat}{x y:Nat}(h1:YG B xs)(h2:YG B ys)(hl:xs.length=ys.length)(h:x<y)(zs:List Nat):dv B (xs++x::zs)<dv B (ys++y::zs):=by
 rw[Yt,Yt,<-hl];simp only[dv];have a:=X3 h1;have hm:B^xs.length*(x+1+B*dv B zs)<=B^xs.length*(y+B*dv B zs):=Nat.mul_le_mul_left _ (by omega);have e:B^xs.length*(x+1+B*dv B zs)=B^xs.length*(x+B*dv B zs)+B^xs.length:=by rw[show x+1+B*dv B zs=(x+B*dv B zs)+1 by omega,Nat.mul_succ]
 omega
end Go.Proofs.YtmkfecoeghokfaaGreatDoor
namespace Go.Proofs.YtmkfecoeghokfaaGreatDoor
open Go Ev
set_option linter.unusedVariables false
set_option linter.unusedSimpArgs false
noncomputable section
set_option maxHeartbeats 2000000
set_option maxRecDepth 20000
section
attribute [-simp] Int.natCast_add Int.natCast_mul Int.natCast_ediv Int.natCast_emod Int.natCast_pow
attribute [local simp] strip ZR Xm gW Z2 Ye ZW Yf ZK Yg Zs Zt Zi ZJ Ya ZP ZA Zl ZI Zj Zf ZB ZC YV Zo Yd YE Yy ZL plain ZO Tr.get_set Yw Zp Ys ZT sameKind undef Zw ZH Z5 ZU parts XZ Zz Zq ZD ZQ XM Yk Zn ZN ZV ZM
section
theorem uL:Tryz.prog.underlying 30=some (.slice 101):=by kernel_rfl
theorem uNum:Tryz.prog.underlying 37=some (.slice 101):=by kernel_rfl
theorem uLst:Tryz.prog.underlying 25=some (.slice 101):=by kernel_rfl
theorem Mg:Xk Tryz.prog 101=some 1:=by kernel_rfl
theorem aU64:Xx Tryz.prog 101=some false:=by kernel_rfl
theorem Zal:WO Tryz.prog 30=some (101,1,8):=by kernel_rfl
theorem tNum:WO Tryz.prog 37=some (101,1,8):=by kernel_rfl
theorem tLst:WO Tryz.prog 25=some (101,1,8):=by kernel_rfl
theorem DB:WA Tryz.prog 101=some (.int .u64 0):=by kernel_rfl
def LT(t:TypeId):Prop:=Tryz.prog.underlying t=some (.slice 101)/\WO Tryz.prog t=some (101,1,8)
theorem Zv:LT 30:=⟨uL,Zal⟩
theorem Z1:LT 37:=⟨uNum,tNum⟩
theorem Yl:LT 25:=⟨uLst,tLst⟩
def At(H:AH)(b o:Nat)(xs:List Nat):Prop:=b<H.n/\ ∃cs,H.cells b=some cs/\H.size b=some 1/\(∀(i x:Nat),xs[i]?=some x->cs[o+i]?=some (.int .u64 (x:Int)))/\o<=cs.length
inductive Sl(H:AH):Value->List Nat->Prop|nil:Sl H (.slice none 0 0) []|emp(b:Nat):Sl H (.slice (some ⟨b,0,some 0⟩) 0 0) []|mk(b o cap:Nat)(xs:List Nat):xs.length<=cap->At H b o xs->Sl H (.slice (some ⟨b,o,none⟩) xs.length cap) xs
structure Zg (H H' : AH) : Prop where
  n : H.n <= H'.n
  lw : min H.lw H.n <= H'.lw
  blk : ∀ j, j < H.n -> H'.blk j = H.blk j
theorem Zg.refl(H:AH):Zg H H:=⟨Nat.le_refl _,Nat.min_le_left _ _,fun _ _=>rfl⟩
theorem Zg.trans{H H1 H2:AH}(a:Zg H H1)(b:Zg H1 H2):Zg H H2:=⟨Nat.le_trans a.n b.n,by have:=a.n;have:=a.lw;have:=b.lw;omega,fun j hj=>(b.blk j (Nat.lt_of_lt_of_le hj a.n)).trans (a.blk j hj)⟩
theorem Zg.q{H H':AH}(k:Zg H H'){b:Nat}{x:Ou}(q:H.blk b=x)(h:b<H.n:=by omega):H'.blk b=x:=(k.blk b h).trans q
theorem hid{α:Sort _}(a:α): ∃x,x=a:=⟨a,rfl⟩
section
variable {P : Program} {C : Ev.Cfg} {Q : Ev.Ex -> St -> Prop}
theorem Zb{i:Nat}{ops:Array Oper}{b:Code}{s:St}(h: ∀b',b'=b->Xm P C s.k (strip ops) s.tm s.H fun Xg H'=>Yx P C b' Q .norm ⟨s.k,Xg,H'⟩):W P C (.seq (.region i ops false) b) s Q:=Zh fun b' e=>Zk (h b' e)
theorem Z8(k:Nat){f:FuncId}{fn:Func}{c:Code}{args:List Value}{H:AH}{R:Value->AH->Prop}(hf:P.funcs[f]?=some fn)(h:W P C c { k:=k,tm:=Yw 0 args .nil,H:=H } fun ex s=>(ex= .norm\/ex= .ret)/\ ∃vs,Zw P s fn.results.toList=some vs/\R (Z5 vs) s.H)(ha:Nat.beq f C.add=false:=by decide)(hs:Nat.beq f C.sub=false:=by decide)(hb:fn.body=some c:=by exact rfl)(hk:args.length+(fn.ntmps-args.length)=k:=by exact rfl)(hd:Rj c=none:=by exact rfl):CW P C f args H R:=dE k ha hs hf hb hk h hd
end
theorem At.keep{H H':AH}{b o:Nat}{xs:List Nat}(h:At H b o xs)(k:Zg H H'):At H' b o xs:=by obtain⟨h1,cs,h2,h3,h4⟩:=h;have e:=k.blk b h1;exact⟨Nat.lt_of_lt_of_le h1 k.n,cs,by unfold AH.cells;rw[e];exact h2,by unfold AH.size;rw[e];exact h3,h4⟩
theorem Sl.keep{H H':AH}{v:Value}{xs:List Nat}(h:Sl H v xs)(k:Zg H H'):Sl H' v xs:=by cases h with|nil=>exact .nil|emp b=>exact .emp b|mk b o cap xs h1 h2=>exact .mk b o cap xs h1 (h2.keep k)
theorem Sl.len{H:AH}{v:Value}{xs:List Nat}(h:Sl H v xs){t:TypeId}(ht:LT t):QE Tryz.prog t v=some xs.length:=by unfold QE;rw[ht.1];cases h<;>rfl
def adr(v:Value)(i:Nat):Value:=match v with| .slice (some ⟨b,o,none⟩) _ _=> .pointer (some ⟨b,o+i,none⟩)|_=> .pointer none
theorem Sl.adr{H:AH}{v:Value}{xs:List Nat}(h:Sl H v xs){t:TypeId}(ht:LT t){i:Nat}{k:IntKind}(hi:i<xs.length):Yj Tryz.prog t v (.int k (i:Int))=some (adr v i):=by cases h with|nil=>cases hi|emp b=>cases hi|mk b o cap xs h1 h2=>unfold Yj Go.Proofs.YtmkfecoeghokfaaGreatDoor.adr;simp only[ht.1,Mg];rw[if_pos (by omega)];simp
theorem Sl.load{H:AH}{v:Value}{xs:List Nat}(h:Sl H v xs){i:Nat}(hi:i<xs.length):Z4 Tryz.prog H 101 (Go.Proofs.YtmkfecoeghokfaaGreatDoor.adr v i)=some (.int .u64 (xs[i]:Nat)):=by cases h with|nil=>cases hi|emp b=>cases hi|mk b o cap xs h1 h2=>obtain⟨_,cs,h3,h4,h5⟩:=h2;unfold Z4 Go.Proofs.YtmkfecoeghokfaaGreatDoor.adr;simp only[aU64,h3];exact h5.1 i _ (List.getElem?_eq_getElem hi)
theorem R7{n:Nat}(h:n<9223372036854775808):IntKind.i64.wrap (n:Int)=(n:Int):=by rw[IntKind.wrap_i64];omega
theorem M6{n:Nat}(h0:0<n)(h:n<9223372036854775808):IntKind.i64.wrap ((n:Int)-1)=((n-1:Nat):Int):=by rw[IntKind.wrap_i64];omega
theorem Sl.cut{H:AH}{v:Value}{xs:List Nat}(h:Sl H v xs){t:TypeId}(ht:LT t){m:Nat}(hm:m<=xs.length)(h0:0<xs.length): ∃v',Vo Tryz.prog H t v none (some (.int .i64 (m:Int))) none=some v'/\Sl H v' (xs.take m):=by cases h with
 |nil=>cases h0
 |emp b=>cases h0
 |mk b o cap xs h1 h2=>
  have hl:(xs.take m).length=m:=by rw[List.length_take];omega
  obtain⟨mn,cs,h3,h4,h5⟩:=h2;refine⟨.slice (some ⟨b,o,none⟩) (xs.take m).length cap,?_,.mk b o cap _ (by omega) ⟨mn,cs,h3,h4,fun i x hx=>h5.1 i x ?_,h5.2⟩⟩;·unfold Vo;simp only[ht.1,Mg];unfold Mz Xu;simp only[h4,Option.isSome_some,Option.isNone_none,Bool.true_or];rw[if_pos (by omega)];have e1:Nat.ble m cap=true:=Nat.ble_eq.mpr (by omega);simp[Xu,e1,hl]
  ·rw[List.getElem?_take]at hx;split at hx;·exact hx
   ·cases hx
attribute [local simp] strip ZR Xm gW Z2 Ye ZW Yf ZK Yg Zs Zt Zi ZJ Ya ZP ZI Zj Yd YE Yy ZL plain ZO Tr.get_set Yw Zp Ys ZT sameKind Zd undef Zw ZH Z5 Zv Z1 Yl
theorem Vf{v:Value}{xs:List Nat}{H:AH}(hs:Sl H v xs)(hlen:xs.length<1152921504606846976):CW Tryz.prog Zy 160 [v] H fun v' H'=>H'=H/\Sl H v' (YS xs):=by
 refine Z8 21 Tryz.func160 ?_;apply Zb;intro b1 Ze;simp;subst Ze;apply Zh;intro b1 Ze;apply ZS;refine Gg (fun n s=>s.k=21/\s.H=H/\ ∃v',s.tm.get 0=some v'/\n<=xs.length/\Sl H v' (xs.take n)/\YS (xs.take n)=YS xs) ?_ xs.length _ ⟨rfl,rfl,v,by simp,Nat.le_refl _,by rw[List.take_length];exact hs,by rw[List.take_length]⟩;rintro n ⟨k,tm,H'⟩ ⟨h2,h3,v',h4,h5,h6,h7⟩;simp only at h2 h3 h4;subst h2;subst h3;have hl:(xs.take n).length=n:=by rw[List.length_take];omega
 have NP:=h6.len Zv;rw[hl]at NP;apply Zh;intro b2 Zx;apply Zb;intro b3 Z9;by_cases hz:n=0;·subst hz;simp[h4,NP];subst Z9;refine Za (t:=false) (by simp) ?_;apply YP;left;refine⟨rfl,?_⟩;subst Ze;apply Zb;intro b4 Yz;simp[h4];subst Yz;apply Zu;simp;rw[<-h7];exact h6
 ·have hn:0<n:=Nat.pos_of_ne_zero hz;have hw:IntKind.i64.wrap ((n:Int)-1)=((n-1:Nat):Int):=M6 hn (by omega);have hi:n-1<(xs.take n).length:=by omega
  have ha:=h6.adr Zv (k:= .i64) hi;have YD:=h6.load hi;simp[h4,NP,hn,hw,ha,YD];subst Z9;have hx:n-1<xs.length:=by omega
  have PZ:xs.take n=xs.take (n-1)++[xs[n-1]]:=by have:=List.take_append_getElem (l:=xs) (i:=n-1) hx;rw[this,show n-1+1=n by omega]
  by_cases h0:xs[n-1]=0
  ·refine Za (t:=true) (by simp[h0]) ?_;apply Zr;subst Zx;apply ZS;apply Zk;obtain⟨v2,hv2,CH⟩:=h6.cut Zv (m:=n-1) (by omega) (by omega);simp[h4,NP,hw,hv2];refine⟨n-1,by omega,rfl,rfl,v2,by simp,by omega,?_,?_⟩;·rw[List.take_take,show min (n-1) n=n-1 by omega]at CH;exact CH
   ·rw[<-h7,PZ,h0,VE]
  ·refine Za (t:=false) (by simp;exact h0) ?_;apply YP;left;refine⟨rfl,?_⟩;subst Ze;apply Zb;intro b4 Yz;simp[h4];subst Yz;apply Zu;simp;rw[<-h7];have:YS (xs.take n)=xs.take n:=by rw[PZ];exact S6 _ _ h0
   rw[this];exact h6
end
end
section
attribute [-simp] Int.natCast_add Int.natCast_mul Int.natCast_ediv Int.natCast_emod Int.natCast_pow
attribute [local simp] strip ZR Xm gW Z2 Ye ZW Yf ZK Yg Zs Zt Zi ZJ Ya ZP ZA Zl ZI Zj Zf ZB ZC YV Zo Yd YE Yy ZL plain ZO Tr.get_set Yw Zp Ys ZT sameKind undef Zw ZH Z5 Zv Z1 Yl ZU parts XZ Zz Zq ZD ZQ XM Yk Zn ZN ZV ZM
section
def Uc(x:Nat):Value:= .int .u64 (x:Int)
inductive Ym(n:Nat)(H:AH):Value->List Nat->Prop|nil:Ym n H (.slice none 0 0) []|mk(b o cap:Nat)(xs:List Nat)(cs:List Value):xs.length<=cap->n<=b->b<H.n->H.blk b= .rw 1 cs->o+cap<=cs.length->(∀(i x:Nat),xs[i]?=some x->cs[o+i]?=some (Uc x))->Ym n H (.slice (some ⟨b,o,none⟩) xs.length cap) xs
theorem Ym.sl{n:Nat}{H:AH}{v:Value}{xs:List Nat}(h:Ym n H v xs):Sl H v xs:=by cases h with|nil=>exact .nil|mk b o cap xs cs h1 h2 h3 h4 h5 h6=>exact .mk b o cap xs h1 ⟨h3,cs,by unfold AH.cells;rw[h4],by unfold AH.size;rw[h4],h6,by omega⟩
theorem Ym.mono{n m:Nat}{H H':AH}{v:Value}{xs:List Nat}(h:Ym n H v xs)(hn:m<=n)(k:Zg H H'):Ym m H' v xs:=by cases h with|nil=>exact .nil|mk b o cap xs cs h1 h2 h3 h4 h5 h6=>exact .mk b o cap xs cs h1 (Nat.le_trans hn h2) (Nat.lt_of_lt_of_le h3 k.n) (by rw[k.blk b h3];exact h4) h5 h6
theorem Ym.m{n:Nat}{H H':AH}{v:Value}{xs:List Nat}(h:Ym n H v xs)(k:Zg H H'):Ym n H' v xs:=h.mono Nat.le.refl k
theorem AH.blk_new(H:AH)(sz:Nat)(cs:List Value)(j:Nat):(H.new sz cs).blk j=if j=H.n then .rw sz cs else H.blk j:=by
 unfold AH.new AH.blk;simp only[Tr.get_set];by_cases e:j=H.n;·rw[if_pos e,if_pos e]
 ·rw[if_neg e,if_neg e]
theorem Zg.new(H:AH)(sz:Nat)(cs:List Value):Zg H (H.new sz cs):=⟨Nat.le_succ _,Nat.min_le_left _ _,fun j hj=>by rw[AH.blk_new,if_neg (by omega)]⟩
theorem Ym.new(H:AH)(xs:List Nat):Ym H.n (H.new 1 (xs.map Uc)) (.slice (some ⟨H.n,0,none⟩) xs.length xs.length) xs:= .mk H.n 0 xs.length xs (xs.map Uc) (Nat.le_refl _) (Nat.le_refl _) (Nat.lt_succ_self _) (by rw[AH.blk_new,if_pos rfl]) (by simp) (fun i x h=>by simp[h])
theorem GL{cs:List Value}{o:Nat}{xs:List Nat}(h0:0<xs.length)(h: ∀(i x:Nat),xs[i]?=some x->cs[o+i]?=some (Uc x)):o+xs.length<=cs.length/\(cs.drop o).take xs.length=xs.map Uc:=by
 have hl:o+xs.length<=cs.length:=by have:=h (xs.length-1) _ (List.getElem?_eq_getElem (by omega));have:=(List.getElem?_eq_some_iff.mp this).1;omega
 refine⟨hl,List.ext_getElem? fun i=>?_⟩;rw[List.getElem?_take,List.getElem?_drop,List.getElem?_map];by_cases hi:i<xs.length;·rw[if_pos hi,List.getElem?_eq_getElem hi,Option.map_some];exact h i _ (List.getElem?_eq_getElem hi)
 ·rw[if_neg hi,List.getElem?_eq_none (by omega)];rfl
theorem Sl.cells{H:AH}{v:Value}{xs:List Nat}(h:Sl H v xs)(h0:0<xs.length):Wm H 1 v xs.length=some (xs.map Uc):=by cases h with|nil=>cases h0|emp b=>cases h0|mk b o cap xs h1 h2=>obtain⟨_,cs,h3,h4,h5⟩:=h2;obtain⟨h6,h7⟩:=GL h0 h5.1;have:Nat.ble (o+xs.length) cs.length=true:=Nat.ble_eq.mpr (by omega);simp only[Wm,AH.read_def,h3,this,cond_true,Nat.mul_one,h7]
theorem Sl.copyNew{H:AH}{v:Value}{xs:List Nat}(h:Sl H v xs)(hl:xs.length<=17592186044416){t t2:TypeId}(ht:LT t)(ie:LT t2): ∃v' H',Wp Tryz.prog H t t2 (.slice none 0 0) v=some (v',H')/\Zg H H'/\Ym H.n H' v' xs:=by
 by_cases h0:xs.length=0;·obtain rfl:xs=[]:=List.length_eq_zero_iff.mp h0;refine⟨.slice none 0 0,H,?_,.refl H,.nil⟩;generalize hn:([]:List Nat)=ys at h;cases h with|nil=>simp[Wp,ht.2,ie.2]|emp b=>simp[Wp,ht.2,ie.2]|mk b o cap xs h1 h2=>subst hn;simp[Wp,ht.2,ie.2]
 ·refine⟨.slice (some ⟨H.n,0,none⟩) xs.length xs.length,H.new 1 (xs.map Uc),?_,.new _ _ _,.new H xs⟩;have hc:=h.cells (by omega);obtain⟨a,cap,rfl⟩: ∃a cap,v= .slice a xs.length cap:=by cases h<;>exact⟨_,_,rfl⟩
  have e1:Nat.beq xs.length 0=false:=Xh h0;have e2:Nat.ble (xs.length*8) 140737488355328=true:=Nat.ble_eq.mpr (by omega);have e3:Nat.ble xs.length 281474976710656=true:=Nat.ble_eq.mpr (by omega);simp[Wp,ht.2,ie.2,e1,e2,e3,hc,DB,Value.cells]
attribute [local simp] strip ZR Xm gW Z2 Ye ZW Yf ZK Yg Zs Zt Zi ZJ Ya ZP ZI Zj Yd YE Yy ZL plain ZO Tr.get_set Yw Zp Ys ZT sameKind Zd undef Zw ZH Z5 Zv Z1 Yl ZU
theorem Vu{v:Value}{xs:List Nat}{H:AH}(hs:Sl H v xs)(hlen:xs.length<=17592186044416):CW Tryz.prog Zy 120 [v] H fun v' H'=>Zg H H'/\Ym H.n H' v' (YS xs):=by refine Z8 6 Tryz.func120 ?_;obtain⟨v1,H1,NR,e1,Ft⟩:=Vf hs (by omega);subst e1;obtain⟨v2,H2,ha,hk,ho⟩:=Ft.copyNew (by have:=XG xs;omega) Zv Zv;apply Zb;intro b1 Ze;simp;subst Ze;apply Zb;intro b1 Ze;simp[NR,ha];subst Ze;apply Zu;simp;exact⟨hk,ho⟩
end
end
end
end Go.Proofs.YtmkfecoeghokfaaGreatDoor
namespace Go.Proofs.YtmkfecoeghokfaaGreatDoor.Ev
open Go Go.RowKit
set_option linter.unusedVariables false
set_option linter.unusedSimpArgs false
noncomputable section
set_option maxHeartbeats 2000000
set_option maxRecDepth 20000
def NH(ops:Array Oper):Bool:=ops.toList.all fun o=>match o.op with| .load .. =>true|op=>!Zz op
theorem OT{bits b:Nat} : ∀{l:List (Nat×Nat×Bool)},(∀x∈l,x.2.2=false)->V2 bits b false l=true|[],_=>rfl|(k,b',w')::r,h=>by have h1:w'=false:=h (k,b',w') (List.mem_cons_self ..);subst h1;simp only[V2,Bool.or_self,Bool.not_false,Bool.or_true,Bool.true_or,Bool.true_and];exact OT fun x hx=>h x (List.mem_cons_of_mem _ hx)
section
variable {P : Program} {C : Cfg} {call : FuncId -> List Value -> AH -> Option (Value × AH)} {ops : Array Oper}
theorem Rl: ∀(l:List Oper)(i:Nat)(fs:List (Nat×Nat×Bool))(s s':St),(∀x∈fs,x.2.2=false)->(∀o∈l,(match o.op with| .load .. =>true|op=>!Zz op)=true)->W7 P C call ops l s=some s'->V6 P C call ops i fs l s=some s'
 |[],i,fs,s,s',hf,hl,h=>by rw[SV]at h;simp only[V6];exact h
 |o::rest,i,fs,s,s',hf,hl,h=>by
  have ho:=hl o (List.mem_cons_self ..);have Lj:=fun o' h'=>hl o' (List.mem_cons_of_mem _ h');rw[Wv]at h;simp only[V6];split at h<;>first|(cases h;done)|skip
  ·split at h<;>first|(cases h;done)|skip
   rename_i v H1 Y7;split at h<;>first|(cases h;done)|skip
   rename_i s1 YN;cases hh:Zz o.op with
    |false=>
     have hm:WV C s.tm o.op=some none:=by
      unfold WV;split;·rename_i e;rw[e]at hh;cases hh
      ·rename_i e;rw[e]at hh;cases hh
      ·rw[hh];rfl
     have hH:Z2 P C call s.tm s.H o.op=some (v,s.H):=Su hh Y7 s.H;rw[hH]at Y7;cases Y7;simp only[hm,hH,YN];exact Rl rest _ _ s1 s' hf Lj h
    |true=>
     split at ho
     ·rename_i t x e;rw[e]at Y7;simp only[Z2,Ya]at Y7;split at Y7<;>first|(cases Y7;done)|skip
      rename_i a ha;split at Y7<;>first|(cases Y7;done)|skip
      rename_i v' hv;cases Y7;obtain⟨b,off,rfl⟩: ∃b off,a= .pointer (some ⟨b,off,none⟩):=by
       unfold Z4 at hv;split at hv;·exact⟨_,_,rfl⟩
       ·cases hv
      have hm:WV C s.tm o.op=some (some (b,false)):=by rw[e];simp only[WV,ha]
      have Io:Z2 P C call s.tm s.H o.op=some (v,s.H):=by rw[e];simp only[Z2,Ya,ha,hv]
      simp only[hm,OT hf,cond_true,Io,YN];exact Rl rest _ _ s1 s' (fun x hx=>by
       rcases List.mem_cons.mp hx with e|e;·rw[e]
       ·exact hf x e) Lj h
     ·rw[hh]at ho;cases ho
  ·split at h<;>first|(cases h;done)|skip
   rename_i s1 YN;try simp only[YN]
   exact Rl rest _ _ s1 s' hf Lj h
end
section
variable {P : Program} {C : Cfg} {Q : Ex -> St -> Prop}
theorem GJ{ops:Array Oper}(h:NH ops=true):Vm ops=true:=by unfold NH at h;unfold Vm;rw[List.all_eq_true]at h⊢;intro o ho;have:=h o ho;revert this;cases o.op<;>simp
theorem Ri{i:Nat}{ops:Array Oper}{s:St}(hd:(NH ops&&Ue ops)=true)(h:Xm P C s.k (strip ops) s.tm s.H fun Xg H'=>Q .norm ⟨s.k,Xg,H'⟩):W P C (.region i ops true) s Q:=by
 rw[Bool.and_eq_true]at hd;obtain⟨k,tm,H⟩:=s;obtain⟨Xg,H',h1,h2⟩:=PH (ops:=ops) ops.toList tm H _ h;refine⟨.norm,⟨k,Xg,H'⟩,?_,h2⟩;rw[Uj];simp only[Wb];rw[WZ]at h1;have:YB P C (YC P C (Rp P C)) ops true ⟨k,tm,H⟩=some ⟨k,Xg,H'⟩:=by unfold YB;rw[GJ hd.1,hd.2];simp only[Bool.and_self,cond_true];refine Rl _ _ _ _ _ (fun x hx=>by cases hx) (fun o ho=>?_) h1;have:=hd.1;unfold NH at this;rw[List.all_eq_true]at this;exact this o ho
 rw[this]
def ZZ:Op->Bool| .store .. =>true|_=>false
def P7(ops:Array Oper):Bool:=Vm ops&&Ue ops&&(List.range ops.size).all fun i=>match ops[i]? with|some o=>!ZZ o.op||alone ops i|none=>true
theorem Lt{bits b:Nat}{w:Bool} : ∀{l:List (Nat×Nat×Bool)},(∀x∈l,(w||x.2.2)=true->bits.testBit x.1=true)->V2 bits b w l=true
 |[],_=>rfl
 |(k,b',w')::r,h=>by have h1:=h (k,b',w') (List.mem_cons_self ..);simp only[V2,Bool.and_eq_true,Bool.or_eq_true,Bool.not_eq_true'];refine⟨?_,Lt fun x hx=>h x (List.mem_cons_of_mem _ hx)⟩;cases hw:(w||w')with|false=>exact .inl (.inr rfl)|true=>exact .inr (h1 hw)
theorem SU{call:FuncId->List Value->AH->Option (Value×AH)}{ops:Array Oper}(hm:P7 ops=true): ∀(l:List Oper)(i:Nat)(fs:List (Nat×Nat×Bool))(s s':St),(∀j,l[j]?=ops[i+j]?)->(∀x∈fs,x.1<i/\ ∃o,ops[x.1]?=some o/\Zz o.op=true/\x.2.2=ZZ o.op)->W7 P C call ops l s=some s'->V6 P C call ops i fs l s=some s'
 |[],i,fs,s,s',hl,hf,h=>by rw[SV]at h;simp only[V6];exact h
 |o::rest,i,fs,s,s',hl,hf,h=>by
  have h0:ops[i]?=some o:=by simpa using(hl 0).symm
  have Lj: ∀j,rest[j]?=ops[i+1+j]?:=fun j=>by have:=hl (j+1);simpa[Nat.add_assoc,Nat.add_comm 1 j]using this
  have sX: ∀x∈fs,x.1<i+1/\ ∃o,ops[x.1]?=some o/\Zz o.op=true/\x.2.2=ZZ o.op:=fun x hx=>⟨Nat.lt_succ_of_lt (hf x hx).1,(hf x hx).2⟩;unfold P7 at hm;rw[Bool.and_eq_true,Bool.and_eq_true]at hm;have qu: ∀k ok,ops[k]?=some ok->ZZ ok.op=true->alone ops k=true:=fun k ok hk hs=>by have:=hm.2;rw[List.all_eq_true]at this;have:=this k (by simpa using Yu hk);rw[hk]at this;simpa[hs]using this
  have ho:(match o.op with| .load .. =>true| .store .. =>true|op=>!Zz op)=true:=by have:=hm.1.1;unfold Vm at this;rw[List.all_eq_true]at this;exact this o (by rw[<-Array.getElem?_toList]at h0;exact List.mem_of_getElem? h0)
  have clear: ∀b,Zz o.op=true->V2 ((before ops).getD i 0) b (ZZ o.op) fs=true:=fun b hh=>Lt fun x hx hw=>by obtain⟨h1,ok,h2,h3,h4⟩:=hf x hx;rw[h4]at hw;cases hs:ZZ o.op with|true=>exact(OK (qu i o h0 hs) h2 (by omega) h3).1 h1|false=>rw[hs,Bool.false_or]at hw;exact(OK (qu x.1 ok h2 hw) h0 (by omega) hh).2 h1
  have LG:P7 ops=true:=by unfold P7;rw[Bool.and_eq_true,Bool.and_eq_true];exact hm
  rw[Wv]at h;simp only[V6];split at h<;>first|(cases h;done)|skip
  ·split at h<;>first|(cases h;done)|skip
   rename_i v H1 Y7;split at h<;>first|(cases h;done)|skip
   rename_i s1 YN;cases hh:Zz o.op with
    |false=>
     have MN:WV C s.tm o.op=some none:=by
      unfold WV;split;·rename_i e;rw[e]at hh;cases hh
      ·rename_i e;rw[e]at hh;cases hh
      ·rw[hh];rfl
     have hH:Z2 P C call s.tm s.H o.op=some (v,s.H):=Su hh Y7 s.H;rw[hH]at Y7;cases Y7;simp only[MN,hH,YN];exact SU LG rest _ _ s1 s' Lj sX h
    |true=>
     split at ho
     ·rename_i t x e;have mL:=Y7;rw[e]at Y7;simp only[Z2,Ya]at Y7;split at Y7<;>first|(cases Y7;done)|skip
      rename_i a ha;split at Y7<;>first|(cases Y7;done)|skip
      rename_i v' hv;obtain⟨b,off,rfl⟩: ∃b off,a= .pointer (some ⟨b,off,none⟩):=by
       unfold Z4 at hv;split at hv;·exact⟨_,_,rfl⟩
       ·cases hv
      have MN:WV C s.tm o.op=some (some (b,false)):=by rw[e];simp only[WV,ha]
      have hc:=clear b hh;rw[show ZZ o.op=false by rw[e];rfl]at hc;simp only[MN,hc,cond_true,mL,YN];exact SU LG rest _ _ s1 s' Lj (fun x hx=>by
       rcases List.mem_cons.mp hx with e1|e1;·rw[e1];exact⟨Nat.lt_succ_self _,o,h0,hh,by rw[e];rfl⟩
       ·exact sX x e1) h
     ·rename_i t x y e;have mL:=Y7;rw[e]at Y7;simp only[Z2,ZP]at Y7;split at Y7<;>first|(cases Y7;done)|skip
      rename_i a a' ha ha';split at Y7<;>first|(cases Y7;done)|skip
      rename_i H' hv;obtain⟨b,off,rfl⟩: ∃b off,a= .pointer (some ⟨b,off,none⟩):=by
       unfold YZ at hv;split at hv;·exact⟨_,_,rfl⟩
       ·cases hv
      have MN:WV C s.tm o.op=some (some (b,true)):=by rw[e];simp only[WV,ha]
      have hc:=clear b hh;rw[show ZZ o.op=true by rw[e];rfl]at hc;simp only[MN,hc,cond_true,mL,YN];exact SU LG rest _ _ s1 s' Lj (fun x hx=>by
       rcases List.mem_cons.mp hx with e1|e1;·rw[e1];exact⟨Nat.lt_succ_self _,o,h0,hh,by rw[e];rfl⟩
       ·exact sX x e1) h
     ·rw[hh]at ho;cases ho
  ·split at h<;>first|(cases h;done)|skip
   rename_i s1 YN;try simp only[YN]
   exact SU LG rest _ _ s1 s' Lj sX h
theorem pj{i:Nat}{ops:Array Oper}{s:St}(hd:P7 ops=true)(h:Xm P C s.k (strip ops) s.tm s.H fun Xg H'=>Q .norm ⟨s.k,Xg,H'⟩):W P C (.region i ops true) s Q:=by
 obtain⟨k,tm,H⟩:=s;obtain⟨Xg,H',h1,h2⟩:=PH (ops:=ops) ops.toList tm H _ h;refine⟨.norm,⟨k,Xg,H'⟩,?_,h2⟩;rw[Uj];simp only[Wb];rw[WZ]at h1;have:YB P C (YC P C (Rp P C)) ops true ⟨k,tm,H⟩=some ⟨k,Xg,H'⟩:=by have yq:=hd;unfold P7 at yq;rw[Bool.and_eq_true,Bool.and_eq_true]at yq;unfold YB;rw[yq.1.1,yq.1.2];simp only[Bool.and_self,cond_true];exact SU hd _ _ _ _ _ (fun j=>by simp) (fun x hx=>by cases hx) h1
 rw[this]
def RP(H:AH)(bits:Nat)(ms:List (Nat×Nat×Nat)):AH:= { n:=H.n,lw:=H.n,t:=U6 H.t (hidden bits ms) }
def grown(H H2:AH):AH:= { n:=H2.n,lw:=H.lw,t:=Nr H.t H2 H.n (H2.n-H.n) }
def Yh(ops:Array Oper)(o:Oper):Option (Option Tmp×Bool):=match o.guard with|none=>none|some (j,b)=>some ((ops[j]?).bind (·.dst),b)
theorem S7{ops:Array Oper}{tm:Tr Value}{o:Oper} :Xd ops tm o=gW tm (Yh ops o):=En
def DG(X:Xs)(P:Program)(C:Cfg)(ops:Array Oper)(k i:Nat)(q:Bool)(ms:List (Nat×Nat×Nat))(l:List Oper)(tm:Tr Value)(H:AH)(K:Tr Value->AH->Prop):Prop:= ∃Xg H',XP X P C (ZY P C) ops i q ms l ⟨k,tm,H⟩=some ⟨k,Xg,H'⟩/\K Xg H'
def DW(X:Xs)(P:Program)(C:Cfg)(ops:Array Oper)(k:Nat):Nat->Bool->List (Nat×Nat×Nat)->List Oper->Tr Value->AH->(Tr Value->AH->Prop)->Prop
 |_,_,_,[],tm,H,K=>K tm H
 |i,q,ms,o::r,tm,H,K=>match gW tm (Yh ops o)with
  |some true=>match Zz o.op with
   |true=>DG X P C ops k i q ms (o::r) tm H K
   |false=>match Z2 P C (ZY P C) tm H o.op with
    |some (v,_)=>match o.dst with|none=>DW X P C ops k (i+1) q ms r tm H K|some d=>d<k/\DW X P C ops k (i+1) q ms r (tm.set d v) H K
    |none=>False
  |some false=>match o.dst with|none=>DW X P C ops k (i+1) q ms r tm H K|some d=>d<k/\DW X P C ops k (i+1) q ms r (tm.set d undef) H K
  |none=>False
variable {X : Xs} {ops : Array Oper} {k i : Nat} {q : Bool} {ms : List (Nat × Nat × Nat)} {tm : Tr Value} {H : AH} {K : Tr Value -> AH -> Prop}
theorem Tv{o:Oper}{v:Value}{H1:AH}{K1:Tr Value->Prop}(h:match o.dst with|none=>K1 tm|some d=>d<k/\K1 (tm.set d v)): ∃Q3,(St.put ⟨k,tm,H⟩ o.dst v H1)=some ⟨k,Q3,H1⟩/\K1 Q3:=by cases hd:o.dst with
 |none=>rw[hd]at h;exact⟨tm,rfl,h⟩
 |some d=>
  rw[hd]at h;have:Nat.blt d k=true:=by rw[Nat.blt_eq];exact h.1
  exact⟨tm.set d v,by simp only[St.put,N9,this,cond_true],h.2⟩
theorem XE(n:Nat):Nat.blt n n=false:=by cases hb:Nat.blt n n with|false=>rfl|true=>rw[Nat.blt_eq]at hb;omega
theorem IV: ∀(l:List Oper)(i:Nat)(q:Bool)(ms:List (Nat×Nat×Nat))(tm:Tr Value)(H:AH),DW X P C ops k i q ms l tm H K->DG X P C ops k i q ms l tm H K
 |[],i,q,ms,tm,H,h=>⟨tm,H,by simp only[XP],h⟩
 |o::r,i,q,ms,tm,H,h=>by
  simp only[DW]at h;split at h
  ·rename_i hg;split at h;·exact h
   ·rename_i hh;split at h;·rename_i v H2 Y7;obtain⟨Q3,YN,hl⟩:=Tv (H:=H) (H1:=H) (K1:=fun tm=>DW X P C ops k (i+1) q ms r tm H K) h;obtain⟨Xg,H',h1,h2⟩:=IV r (i+1) q ms Q3 H hl;refine⟨Xg,H',?_,h2⟩;simp only[XP];rw[S7,hg];simp only[XU,hh,cond_false,Y7,YN,XE];exact h1
    ·exact h.elim
  ·rename_i hg;obtain⟨Q3,YN,hl⟩:=Tv (H:=H) (H1:=H) (K1:=fun tm=>DW X P C ops k (i+1) q ms r tm H K) h;obtain⟨Xg,H',h1,h2⟩:=IV r (i+1) q ms Q3 H hl;refine⟨Xg,H',?_,h2⟩;simp only[XP];rw[S7,hg];simp only[YN];exact h1
  ·exact h.elim
theorem YI{id:Nat}{s:St}(hd:(!Vm ops&&Ue ops&&!isSplit C ops)=true)(h:DW (X0 ops) P C ops s.k 0 false [] ops.toList s.tm s.H fun Xg H'=>Q .norm ⟨s.k,Xg,H'⟩):W P C (.region id ops true) s Q:=by
 obtain⟨k,tm,H⟩:=s;obtain⟨Xg,H',h1,h2⟩:=IV _ _ _ _ _ _ h;refine⟨.norm,⟨k,Xg,H'⟩,?_,h2⟩;rw[Uj];simp only[Wb];rw[WZ]at h1;rw[Bool.and_eq_true,Bool.and_eq_true]at hd;have hm:Vm ops=false:=by simpa using hd.1.1
 have hs:isSplit C ops=false:=by simpa using hd.2
 have:YB P C (YC P C (Rp P C)) ops true ⟨k,tm,H⟩=some ⟨k,Xg,H'⟩:=by unfold YB W8;rw[hm,hs,hd.1.2];simp only[Bool.and_false,cond_false,cond_true];exact h1
 rw[this]
theorem Z0{o:Oper}{r:List Oper}{v:Value}(hg:gW tm (Yh ops o)=some true)(hh:Zz o.op=true)(hq:q=false)(he:Z2 P C (ZY P C) tm (RP H ((before ops).getD i 0) ms) o.op=some (v,RP H ((before ops).getD i 0) ms))(h:match o.dst with|none=>DW X P C ops k (i+1) q ms r tm H K|some d=>d<k/\DW X P C ops k (i+1) q ms r (tm.set d v) H K)(hf:X.fv i=none:=by first|rfl|kernel_rfl):DG X P C ops k i q ms (o::r) tm H K:=by
 obtain⟨Q3,YN,hl⟩:=Tv (H:=H) (H1:=H) (K1:=fun tm=>DW X P C ops k (i+1) q ms r tm H K) h;obtain⟨Xg,H',h1,h2⟩:=IV r (i+1) q ms Q3 H hl;refine⟨Xg,H',?_,h2⟩;subst hq;have Y7:XU X P C (ZY P C) ops i false ms ⟨k,tm,H⟩ o=some (v,H,false):=by unfold XU;rw[hh,cond_true,hf];simp only;have pB:Z2 P C (ZY P C) tm { n:=H.n,lw:=H.n,t:=U6 H.t (hidden ((before ops).getD i 0) ms) } o.op=some (v,{ n:=H.n,lw:=H.n,t:=U6 H.t (hidden ((before ops).getD i 0) ms) }):=he;rw[pB];have:Nat.ble H.n H.n=true:=Nat.ble_eq.mpr (Nat.le_refl _);simp only[this,cond_true,Bool.not_false,Bool.and_self,Nat.sub_self,Nr]
 simp only[XP];rw[S7,hg];simp only[Y7,YN,XE,cond_false];exact h1
theorem YU{o:Oper}{r:List Oper}{v:Value}{H2:AH}(hg:gW tm (Yh ops o)=some true)(hh:Zz o.op=true)(hq:q=false)(he:Z2 P C (ZY P C) tm (RP H ((before ops).getD i 0) ms) o.op=some (v,H2))(hn:H.n<=H2.n)(LH:H.n<=H2.lw)(h:match o.dst with|none=>DW X P C ops k (i+1) q (cond (Nat.blt H.n H2.n) ((i,H.n,H2.n)::ms) ms) r tm (grown H H2) K|some d=>d<k/\DW X P C ops k (i+1) q (cond (Nat.blt H.n H2.n) ((i,H.n,H2.n)::ms) ms) r (tm.set d v) (grown H H2) K)(hf:X.fv i=none:=by first|rfl|kernel_rfl):DG X P C ops k i q ms (o::r) tm H K:=by
 obtain⟨Q3,YN,hl⟩:=Tv (H:=H) (H1:=grown H H2) (K1:=fun tm=>DW X P C ops k (i+1) q (cond (Nat.blt H.n H2.n) ((i,H.n,H2.n)::ms) ms) r tm (grown H H2) K) h;obtain⟨Xg,H',h1,h2⟩:=IV r (i+1) q _ Q3 _ hl;refine⟨Xg,H',?_,h2⟩;subst hq;have Y7:XU X P C (ZY P C) ops i false ms ⟨k,tm,H⟩ o=some (v,grown H H2,false):=by unfold XU;rw[hh,cond_true,hf];simp only;have pB:Z2 P C (ZY P C) tm { n:=H.n,lw:=H.n,t:=U6 H.t (hidden ((before ops).getD i 0) ms) } o.op=some (v,H2):=he;rw[pB];have e1:Nat.ble H.n H2.n=true:=Nat.ble_eq.mpr hn;have e2:Nat.ble H.n H2.lw=true:=Nat.ble_eq.mpr LH;simp only[e1,e2,cond_true,Bool.not_false,Bool.and_self];rfl
 simp only[XP];rw[S7,hg];simp only[Y7,YN];exact h1
theorem YH{o:Oper}{r:List Oper}{v:Value}{H2:AH}(hg:gW tm (Yh ops o)=some true)(hh:Zz o.op=true)(ha:X.al i=true)(hhid:hidden ((before ops).getD i 0) ms=[])(he:Z2 P C (ZY P C) tm { n:=H.n,lw:=H.n,t:=H.t } o.op=some (v,H2))(hn:H.n<=H2.n)(LH:H2.lw<H.n)(h:match o.dst with|none=>DW X P C ops k (i+1) true (cond (Nat.blt H.n H2.n) ((i,H.n,H2.n)::ms) ms) r tm { n:=H2.n,lw:=min H.lw H2.lw,t:=H2.t } K|some d=>d<k/\DW X P C ops k (i+1) true (cond (Nat.blt H.n H2.n) ((i,H.n,H2.n)::ms) ms) r (tm.set d v) { n:=H2.n,lw:=min H.lw H2.lw,t:=H2.t } K)(hf:X.fv i=none:=by first|rfl|kernel_rfl):DG X P C ops k i q ms (o::r) tm H K:=by
 obtain⟨Q3,YN,hl⟩:=Tv (H:=H) (H1:= { n:=H2.n,lw:=min H.lw H2.lw,t:=H2.t }) (K1:=fun tm=>DW X P C ops k (i+1) true (cond (Nat.blt H.n H2.n) ((i,H.n,H2.n)::ms) ms) r tm { n:=H2.n,lw:=min H.lw H2.lw,t:=H2.t } K) h;obtain⟨Xg,H',h1,h2⟩:=IV r (i+1) true _ Q3 _ hl;refine⟨Xg,H',?_,h2⟩;have Y7:XU X P C (ZY P C) ops i q ms ⟨k,tm,H⟩ o=some (v,{ n:=H2.n,lw:=min H.lw H2.lw,t:=H2.t },true):=by
  unfold XU;rw[hh,cond_true,hf];simp only[hhid,U6];rw[he];have e1:Nat.ble H.n H2.n=true:=Nat.ble_eq.mpr hn;have e2:Nat.ble H.n H2.lw=false:=by cases hb:Nat.ble H.n H2.lw with|false=>rfl|true=>have:=Nat.le_of_ble_eq_true hb;omega
  simp only[e1,e2,cond_true,Bool.and_false,cond_false,ha,List.isEmpty_nil,Bool.and_self]
 simp only[XP];rw[S7,hg];simp only[Y7,YN];exact h1
theorem YQ{b:Code}(I:Nat->St->Prop)(h: ∀n s,I n s-> ∀Q':Ex->St->Prop,(∀e s',T5 I n Q e s'->Q' e s')->W P C b s Q')(n:Nat)(s:St)(hI:I n s):W P C (.loop b) s Q:=Gg I (fun n s hI=>h n s hI _ (fun _ _ h=>h)) n s hI
theorem Ms(R:St->Prop){a b:Code}{s:St}(h1:W P C a s fun e s'=>e= .norm/\R s')(h2: ∀s',R s'->W P C b s' Q):W P C (.seq a b) s Q:=by refine Zh fun b' hb=>h1.mono ?_;rintro e s' ⟨rfl,hr⟩;subst hb;exact h2 s' hr
end
end
end Go.Proofs.YtmkfecoeghokfaaGreatDoor.Ev
namespace Go.Proofs.YtmkfecoeghokfaaGreatDoor
open Go Ev
set_option linter.unusedVariables false
set_option linter.unusedSimpArgs false
noncomputable section
set_option maxHeartbeats 2000000
set_option maxRecDepth 20000
section
attribute [-simp] Int.natCast_add Int.natCast_mul Int.natCast_ediv Int.natCast_emod Int.natCast_pow
attribute [local simp] strip ZR Xm gW Z2 Ye ZW Yf ZK Yg Zs Zt Zi ZJ Ya ZP ZA Zl ZI Zj Zf ZB ZC YV Zo Yd YE Yy ZL plain ZO Tr.get_set Yw Zp Ys ZT sameKind undef Zw ZH Z5 Zv Z1 Yl ZU parts XZ DW Yh Zz ZZ Zq ZD ZQ XM Yk Zn ZN ZV ZM
section
abbrev Zc:Nat:=18446744073709551616
theorem Z7:2<=Zc:=by decide
def XL(a b:Nat):Int:=if a<b then-1 else if b<a then 1 else 0
theorem MZ{xs ys:List Nat}(hx:YS xs=xs)(hy:YS ys=ys)(dx:YG Zc xs)(dy:YG Zc ys)(h:xs.length<ys.length):dv Zc xs<dv Zc ys:=by
 have h1:=X3 dx;have e:ys=ds Zc (dv Zc ys):=by rw[<-Xl Z7 dy,hy]
 have Ug:dv Zc ys≠0:=by intro h0;rw[h0,XY]at e;rw[e]at h;simp at h
 have h2:=fY Z7 Ug;rw[<-e]at h2;have h3:Zc^xs.length<=Zc^(ys.length-1):=Nat.pow_le_pow_right (by decide) (by omega);omega
attribute [local simp] strip ZR Xm gW Z2 Ye ZW Yf ZK Yg Zs Zt Zi ZJ Ya ZP ZI Zj Yd YE Yy ZL plain ZO Tr.get_set Yw Zp Ys ZT sameKind Zd undef Zw ZH Z5 Zv Z1 Yl ZU
theorem UH{va vb:Value}{xs ys:List Nat}{H:AH}(ha:Sl H va xs)(hb:Sl H vb ys)(dx:YG Zc xs)(dy:YG Zc ys)(lx:xs.length<=17592186044416)(ly:ys.length<=17592186044416):CW Tryz.prog Zy 162 [va,vb] H fun v H'=>H'=H/\v= .int .i64 (XL (dv Zc xs) (dv Zc ys)):=by
 refine Z8 45 Tryz.func162 ?_;obtain⟨v1,H1,NR,e1,s1⟩:=Vf ha (by omega);obtain⟨v2,H2,Jd,e2,s2⟩:=Vf hb (by omega);subst e1;subst e2;rw[<-WX Zc xs,<-WX Zc ys];have tx:=S5 xs;have ty:=S5 ys;have dx:=XH dx;have dy:=XH dy;have lx:(YS xs).length<=17592186044416:=Nat.le_trans (XG xs) lx;have ly:(YS ys).length<=17592186044416:=Nat.le_trans (XG ys) ly;generalize YS xs=xs at*;generalize YS ys=ys at*;have l1:=s1.len Zv;have l2:=s2.len Zv;apply Zb;intro b1 Ze;simp;subst Ze;apply Zb;intro b1 Ze;simp[NR,Jd];subst Ze;apply Zh;intro b1 Ze;apply Zb;intro b2 Zx;simp[l1,l2];subst Zx;by_cases hl:xs.length=ys.length
 ·refine Za (t:=false) (by simp[hl]) ?_;apply Zr;subst Ze;apply Zh;intro b1 Ze;apply Zh;intro b2 Zx;have mG:IntKind.i64.wrap ((xs.length:Int)-1)=(xs.length:Int)-1:=by rw[IntKind.wrap_i64];omega
  apply Zk;simp[l1,mG];subst Zx;apply ZS;refine Gg (fun n s=>s.k=45/\s.H=H2/\s.tm.get 0=some v1/\s.tm.get 1=some v2/\s.tm.get 5=some (.int .i64 ((n:Int)-1))/\n<=xs.length/\xs.drop n=ys.drop n) ?_ xs.length _ ⟨rfl,rfl,by simp,by simp,by simp,Nat.le_refl _,by rw[List.drop_length,hl,List.drop_length]⟩;rintro n ⟨k,tm,H'⟩ ⟨h2,h3,h4,h5,h6,h7,h8⟩;simp only at h2 h3 h4 h5 h6;subst h2;subst h3;apply Zh;intro b2 Zx;apply Zb;intro b3 Z9;simp[h4,h5,h6];subst Z9;have e44:xs.drop n=ys.drop n:=h8;by_cases hz:n=0
  ·subst hz;refine Za (t:=false) (by simp) ?_;apply YP;left;refine⟨rfl,?_⟩;subst Ze;apply Zb;intro b4 Yz;simp;subst Yz;apply Zu;have:xs=ys:=by simpa using h8
   simp[XL,this]
  ·have e:(n:Int)-1=((n-1:Nat):Int):=by omega
   refine Za (t:=true) (by simp;omega) ?_;apply Zr;subst Zx;have i1:n-1<xs.length:=by omega
   have i2:n-1<ys.length:=by omega
   have a1:=s1.adr Zv (k:= .i64) i1;have a2:=s2.adr Zv (k:= .i64) i2;have d1:=s1.load i1;have d2:=s2.load i2;rw[e]at h6;have sx:xs=xs.take (n-1)++xs[n-1]::xs.drop n:=by have:=List.take_append_drop (n-1) xs;rw[List.drop_eq_getElem_cons i1,show n-1+1=n by omega]at this;exact this.symm
   have sy:ys=ys.take (n-1)++ys[n-1]::ys.drop n:=by have:=List.take_append_drop (n-1) ys;rw[List.drop_eq_getElem_cons i2,show n-1+1=n by omega]at this;exact this.symm
   have zJ:(xs.take (n-1)).length=(ys.take (n-1)).length:=by simp[List.length_take,hl]
   apply Zh;intro b4 Yz;apply ZS;apply Zh;intro b5 SP;apply Zh;intro b6 Px;apply Ri (by kernel_rfl);simp[h4,h5,h6,a1,a2,d1,d2];subst Px;by_cases YW:xs[n-1]<ys[n-1]
   ·refine Za (t:=true) (by simp;omega) ?_;apply Zb;intro b7 mz;simp;subst mz;apply Zu;have hd:dv Zc xs<dv Zc ys:=by rw[sx,sy,h8];exact Gp (dx.take _) (dy.take _) zJ YW _
    simp[Yx,Yn,T5,XL,hd]
   ·refine Za (t:=false) (by simp;omega) ?_;apply Zr;subst SP;apply Zh;intro b6 Px;apply Ri (by kernel_rfl);simp[h4,h5,h6,a1,a2,d1,d2];subst Px;by_cases hgt:ys[n-1]<xs[n-1]
    ·refine Za (t:=true) (by simp;omega) ?_;apply Zb;intro b7 mz;simp;subst mz;apply Zu;have hd:dv Zc ys<dv Zc xs:=by rw[sx,sy,h8];exact Gp (dy.take _) (dx.take _) zJ.symm hgt _
     have Kj: ¬dv Zc xs<dv Zc ys:=by omega
     simp[Yx,Yn,T5,XL,hd,Kj]
    ·refine Za (t:=false) (by simp;omega) ?_;apply Zr;subst Yz;have LD:IntKind.i64.wrap (((n-1:Nat):Int)-1)=((n-1:Nat):Int)-1:=by rw[IntKind.wrap_i64];omega
     apply Zk;simp[h6,LD];refine⟨n-1,by omega,rfl,rfl,?_⟩;simp[h4,h5];refine⟨by omega,?_⟩;rw[List.drop_eq_getElem_cons i1,List.drop_eq_getElem_cons i2,show n-1+1=n by omega,h8];congr 1;omega
 ·refine Za (t:=true) (by simp;omega) ?_;apply Zh;intro b2 Zx;apply Zb;intro b3 Z9;simp[l1,l2];subst Z9;by_cases YW:xs.length<ys.length;·refine Za (t:=true) (by simp;omega) ?_;apply Zb;intro b3 Z9;simp;subst Z9;apply Zu;have:=MZ tx ty dx dy YW;simp[Yx,XL,this]
  ·refine Za (t:=false) (by simp;omega) ?_;apply Zr;subst Zx;apply Zb;intro b2 Zx;simp;subst Zx;apply Zu;have:=MZ ty tx dy dx (by omega);have h2: ¬dv Zc xs<dv Zc ys:=by omega
   simp[Yx,XL,this,h2]
end
section
def Zm(n:Nat):Nat:=if n=0 then 0 else Nat.log2 n+1
theorem Wq(n:Nat):n<2^Zm n:=by
 unfold Zm;split;·omega
 ·exact Nat.lt_log2_self
theorem W1{n:Nat}(h:n≠0):2^(Zm n-1)<=n:=by unfold Zm;rw[if_neg h];exact Nat.log2_self_le h
theorem aV{n k:Nat}(h1:n<2^k)(h2:k=0\/2^(k-1)<=n):Zm n=k:=by
 rcases h2 with h2|h2
 ·subst h2;have:n=0:=by simpa using h1
  subst this;rfl
 ·have hn:n≠0:=by have:=Nat.two_pow_pos (k-1);omega
  have a:2^(Zm n-1)<2^k:=Nat.lt_of_le_of_lt (W1 hn) h1;have b:2^(k-1)<2^Zm n:=Nat.lt_of_le_of_lt h2 (Wq n);have a':=(Nat.pow_lt_pow_iff_right (by decide)).mp a;have b':=(Nat.pow_lt_pow_iff_right (by decide)).mp b;omega
theorem Tb{n k:Nat}(h:2^k<=n):Zm n=k+Zm (n/2^k):=by
 have hk:=Nat.two_pow_pos k;have hq:n/2^k≠0:=by have:=Nat.div_pos h hk;omega
 apply aV;·rw[Nat.pow_add,Nat.mul_comm];have:=Wq (n/2^k);exact(Nat.div_lt_iff_lt_mul hk).mp this
 ·right;have h1:=W1 hq;have h2:Zm (n/2^k)≠0:=by unfold Zm;rw[if_neg hq];omega
  rw[show k+Zm (n/2^k)-1=(Zm (n/2^k)-1)+k by omega,Nat.pow_add];exact(Nat.le_div_iff_mul_le hk).mp h1
theorem Pk(x k:Nat):(x:Int).fdiv (2^k)=((x/2^k:Nat):Int):=by rw[Int.fdiv_eq_ediv_of_nonneg _ (Int.le_of_lt (Int.pow_pos (by decide)))];rw[Int.natCast_ediv,Int.natCast_pow];rfl
theorem KW:IntKind.u64.bits=64:=rfl
def jE(s:ByteArray):Bool:=(List.range 256).all fun n=>match s[n]? with|some b=>Nat.beq b.toNat (Zm n)|none=>false
theorem jD{s:ByteArray}(h:jE s=true){n:Nat}(hn:n<256):Jo Tryz.prog 9 (.string s) (.int .u8 (n:Int))=some (.int .u8 (Zm n:Int)):=by
 unfold jE at h;rw[List.all_eq_true]at h;have:=h n (List.mem_range.mpr hn);split at this;·rename_i b hb;have e:=Nat.eq_of_beq_eq_true this;unfold Jo;simp only[Tryz.underlying9];rw[if_pos (by omega)];simp only[Int.toNat_natCast,hb,e]
 ·cases this
attribute [local simp] strip ZR Xm gW Z2 Ye ZW Yf ZK Yg Zs Zt Zi ZJ Ya ZP ZI Zj Yd YE Yy ZL plain ZO Tr.get_set Yw Zp Ys ZT sameKind Zd undef Zw ZH Z5 Zv Z1 Yl ZU Y0
theorem Js{x:Nat}{H:AH}(hx:x<Zc):CW Tryz.prog Zy 163 [.int .u64 (x:Int)] H fun v H'=>H'=H/\v= .int .i64 (Zm x:Int):=by
 have hx:x<18446744073709551616:=hx;refine Z8 25 Tryz.func163 ?_;apply Zb;intro b1 Ze;simp;subst Ze;refine Ms (fun s=>s.k=25/\s.H=H/\ ∃y n:Nat,s.tm.get 0=some (.int .u64 (y:Int))/\s.tm.get 2=some (.int .i64 (n:Int))/\y<4294967296/\n<=32/\Zm x=n+Zm y) ?_ ?_
 ·apply Zb;intro b1 Ze;simp;subst Ze;by_cases h:4294967296<=x;·have f1:(x:Int).fdiv 4294967296=((x/4294967296:Nat):Int):=Pk x 32;have f2:Zm x=32+Zm (x/4294967296):=Tb (k:=32) h;refine Za (t:=true) (by simp;omega) ?_;apply Zb;intro b1 Ze;simp[KW,f1];subst Ze;apply Zk;simp;exact⟨x/4294967296,rfl,32,rfl,by omega,by omega,f2⟩
  ·refine Za (t:=false) (by simp;omega) ?_;apply Zr;simp;exact⟨x,rfl,0,rfl,by omega,by omega,by omega⟩
 rintro⟨k,tm,H'⟩ ⟨h2,h3,y,n,h4,h5,h6,h7,h8⟩;simp only at h2 h3 h4 h5;subst h2;subst h3;refine Ms (fun s=>s.k=25/\s.H=H'/\ ∃y n:Nat,s.tm.get 0=some (.int .u64 (y:Int))/\s.tm.get 2=some (.int .i64 (n:Int))/\y<65536/\n<=48/\Zm x=n+Zm y) ?_ ?_
 ·apply Zb;intro b1 Ze;simp[h4,h5];subst Ze;by_cases h:65536<=y
  ·have f1:(y:Int).fdiv 65536=((y/65536:Nat):Int):=Pk y 16;have f2:Zm y=16+Zm (y/65536):=Tb (k:=16) h;have hw:IntKind.i64.wrap ((n:Int)+16)=((n+16:Nat):Int):=by rw[IntKind.wrap_i64];omega
   refine Za (t:=true) (by simp;omega) ?_;apply Zb;intro b1 Ze;simp[h4,h5,KW,f1];subst Ze;apply Zk;simp[h4,h5,hw];exact⟨y/65536,rfl,n+16,rfl,by omega,by omega,by omega⟩
  ·refine Za (t:=false) (by simp;omega) ?_;apply Zr;simp[h4,h5];exact⟨y,rfl,n,rfl,by omega,by omega,h8⟩
 rintro⟨k,tm,H'⟩ ⟨h2,h3,y,n,h4,h5,h6,h7,h8⟩;simp only at h2 h3 h4 h5;subst h2;subst h3;refine Ms (fun s=>s.k=25/\s.H=H'/\ ∃y n:Nat,s.tm.get 0=some (.int .u64 (y:Int))/\s.tm.get 2=some (.int .i64 (n:Int))/\y<256/\n<=56/\Zm x=n+Zm y) ?_ ?_
 ·apply Zb;intro b1 Ze;simp[h4,h5];subst Ze;by_cases h:256<=y
  ·have f1:(y:Int).fdiv 256=((y/256:Nat):Int):=Pk y 8;have f2:Zm y=8+Zm (y/256):=Tb (k:=8) h;have hw:IntKind.i64.wrap ((n:Int)+8)=((n+8:Nat):Int):=by rw[IntKind.wrap_i64];omega
   refine Za (t:=true) (by simp;omega) ?_;apply Zb;intro b1 Ze;simp[h4,h5,KW,f1];subst Ze;apply Zk;simp[h4,h5,hw];exact⟨y/256,rfl,n+8,rfl,by omega,by omega,by omega⟩
  ·refine Za (t:=false) (by simp;omega) ?_;apply Zr;simp[h4,h5];exact⟨y,rfl,n,rfl,by omega,by omega,h8⟩
 rintro⟨k,tm,H'⟩ ⟨h2,h3,y,n,h4,h5,h6,h7,h8⟩;simp only at h2 h3 h4 h5;subst h2;subst h3;apply Zb;intro b1 Ze;have hb8:Zm y<=8:=by
  rcases Nat.lt_or_ge 8 (Zm y)with h|h
  ·have h0:y≠0:=by rintro rfl;simp[Zm]at h
   have a:=W1 h0;have b:2^8<=2^(Zm y-1):=Nat.pow_le_pow_right (by decide) (by omega);omega
  ·exact h
 generalize hs:ByteArray.mk _=s;have ht:jE s=true:=by rw[<-hs];kernel_rfl
 have e1:=jD ht h6;have e2:IntKind.u8.wrap (y:Int)=(y:Int):=by rw[IntKind.wrap_u8];omega
 have e3:IntKind.i64.wrap (Zm y:Int)=(Zm y:Int):=R7 (by omega);have e4:IntKind.i64.wrap ((n:Int)+(Zm y:Int))=(Zm x:Int):=by rw[IntKind.wrap_i64,h8];omega
 simp[h4,h5,TY,Tryz.underlying101,Tryz.underlying5,Tryz.underlying3,e1,e2,e3,e4];subst Ze;apply Zu;simp
end
section
theorem Qa(x y c:Nat)(H:AH)(hc:c<=1):ZY Tryz.prog Zy 203 [.int .u64 (x:Int),.int .u64 (y:Int),.int .u64 (c:Int)] H=some (.tuple #[.int .u64 (((x+y+c)%Zc:Nat):Int),.int .u64 (((x+y+c)/Zc:Nat):Int)],H):=by
 rw[WZ];unfold YC Wf;rw[show Nat.beq 203 Zy.add=true from rfl,cond_true];have:PW [.int .u64 (x:Int),.int .u64 (y:Int),.int .u64 (c:Int)]=some (x,y,c):=by simp[PW];omega
 rw[this];rfl
theorem QW(x y c:Nat)(H:AH)(hc:c<=1):ZY Tryz.prog Zy 206 [.int .u64 (x:Int),.int .u64 (y:Int),.int .u64 (c:Int)] H=some (.tuple #[.int .u64 (((x+Zc-y-c)%Zc:Nat):Int),.int .u64 ((if x<y+c then 1 else 0:Nat):Int)],H):=by
 rw[WZ];unfold YC Wf;rw[show Nat.beq 206 Zy.add=false from rfl,cond_false,show Nat.beq 206 Zy.sub=true from rfl,cond_true];have:PW [.int .u64 (x:Int),.int .u64 (y:Int),.int .u64 (c:Int)]=some (x,y,c):=by simp[PW];omega
 rw[this];by_cases h:x<y+c
 ·have:Nat.blt x (y+c)=true:=by rw[Nat.blt_eq];exact h
  simp only[this,cond_true,if_pos h];rfl
 ·have:Nat.blt x (y+c)=false:=by cases hb:Nat.blt x (y+c)with|false=>rfl|true=>rw[Nat.blt_eq]at hb;exact absurd hb h
  simp only[this,cond_false,if_neg h];rfl
attribute [local simp] strip ZR Xm gW Z2 Ye ZW Yf ZK Yg Zs Zt Zi ZJ Ya ZP ZI Zj Yd Zf YE Yy ZL plain ZO Tr.get_set Yw Zp Ys ZT sameKind Zd undef Zw ZH Z5 Zv Z1 Yl ZU Y0 parts
theorem AB{x:Nat}{H:AH}(hx:x<Zc):CW Tryz.prog Zy 216 [.int .u64 (x:Int)] H fun v H'=>H'=H/\v= .int .i64 (64-(Zm x:Int)):=by
 refine Z8 6 Tryz.func216 ?_;obtain⟨v1,H1,NR,rfl,rfl⟩:=Js (H:=H) hx;have hb:Zm x<=64:=by
  rcases Nat.lt_or_ge 64 (Zm x)with h|h
  ·have h0:x≠0:=by rintro rfl;simp[Zm]at h
   have a:=W1 h0;have b:2^64<=2^(Zm x-1):=Nat.pow_le_pow_right (by decide) (by omega);have hx:x<18446744073709551616:=hx;omega
  ·exact h
 have hw:IntKind.i64.wrap (64-(Zm x:Int))=64-(Zm x:Int):=by rw[IntKind.wrap_i64];omega
 apply Zb;intro b1 Ze;simp;subst Ze;apply Zb;intro b1 Ze;simp[NR,hw];subst Ze;apply Zu;simp
theorem lJ{xs:List Nat}(dx:YG Zc xs)(tx:YS xs=xs)(h:0<xs.length):Zm (dv Zc xs)=64*(xs.length-1)+Zm (xs[xs.length-1]):=by
 have hs:xs=xs.take (xs.length-1)++[xs[xs.length-1]]:=by have:=List.take_append_getElem (l:=xs) (i:=xs.length-1) (by omega);rw[this,show xs.length-1+1=xs.length by omega,List.take_length]
 have hl:(xs.take (xs.length-1)).length=xs.length-1:=by rw[List.length_take];omega
 generalize hz:xs[xs.length-1]=z at*;have zp:z≠0:=by intro h0;rw[h0]at hs;have:=congrArg YS hs;rw[VE,tx]at this;have:=congrArg List.length this;have:=XG (xs.take (xs.length-1));omega
 have e:dv Zc xs=dv Zc (xs.take (xs.length-1))+2^(64*(xs.length-1))*z:=by have:=congrArg (dv Zc) hs;rw[this,Yt,hl];simp only[dv,Nat.mul_zero,Nat.add_zero];rw[Nat.pow_mul]
 have Sb:dv Zc (xs.take (xs.length-1))<2^(64*(xs.length-1)):=by have:=X3 (dx.take (xs.length-1));rw[hl]at this;rw[Nat.pow_mul];exact this
 have Sa:2^(64*(xs.length-1))<=dv Zc xs:=by rw[e];have:2^(64*(xs.length-1))*1<=2^(64*(xs.length-1))*z:=Nat.mul_le_mul_left _ (by omega);omega
 rw[Tb Sa];congr 2;rw[e,Nat.add_mul_div_left _ _ (Nat.two_pow_pos _),Nat.div_eq_of_lt Sb,Nat.zero_add]
theorem Vh{v:Value}{xs:List Nat}{H:AH}(hs:Sl H v xs)(dx:YG Zc xs)(hlen:xs.length<=17592186044416):CW Tryz.prog Zy 123 [v] H fun v' H'=>H'=H/\v'= .int .i64 (Zm (dv Zc xs):Int):=by
 refine Z8 20 Tryz.func123 ?_;obtain⟨v1,H1,NR,e1,s1⟩:=Vf hs (by omega);subst e1;rw[<-WX Zc xs];have tx:=S5 xs;have dx:=XH dx;have lx:(YS xs).length<=17592186044416:=Nat.le_trans (XG xs) hlen;generalize YS xs=xs at*;have l1:=s1.len Zv;apply Zb;intro b1 Ze;simp;subst Ze;apply Zb;intro b1 Ze;simp[NR];subst Ze;apply Zh;intro b1 Ze;apply Zb;intro b2 Zx;simp[l1];subst Zx;by_cases h0:xs.length=0;·obtain rfl:xs=[]:=List.length_eq_zero_iff.mp h0;refine Za (t:=true) (by simp) ?_;apply Zb;intro b2 Zx;simp;subst Zx;apply Zu;simp[Yx,dv,Zm]
 ·refine Za (t:=false) (by simp;intro h;apply h0;simp[h]) ?_;apply Zr;subst Ze;have i1:xs.length-1<xs.length:=by omega
  have a1:=s1.adr Zv (k:= .i64) i1;have d1:=s1.load i1;have hw:IntKind.i64.wrap ((xs.length:Int)-1)=((xs.length-1:Nat):Int):=M6 (by omega) (by omega);have hx:xs[xs.length-1]<Zc:=dx.get (List.getElem?_eq_getElem i1);obtain⟨v3,H3,yo,e3,e4⟩:=Js (H:=H1) hx;subst e3;subst e4;have hb:=lJ dx tx (by omega);have hb64:Zm (xs[xs.length-1])<=64:=by
   rcases Nat.lt_or_ge 64 (Zm (xs[xs.length-1]))with h|h
   ·have h0:xs[xs.length-1]≠0:=by intro e;rw[e]at h;simp[Zm]at h
    have a:=W1 h0;have b:2^64<=2^(Zm (xs[xs.length-1])-1):=Nat.pow_le_pow_right (by decide) (by omega);have hx:xs[xs.length-1]<18446744073709551616:=hx;omega
   ·exact h
  have tp:IntKind.i64.wrap (64*((xs.length-1:Nat):Int))=64*((xs.length-1:Nat):Int):=by rw[IntKind.wrap_i64];omega
  have hw3:IntKind.i64.wrap (64*((xs.length-1:Nat):Int)+(Zm (xs[xs.length-1]):Int))=(Zm (dv Zc xs):Int):=by rw[IntKind.wrap_i64,hb];omega
  apply Zb;intro b2 Zx;simp[l1,hw,tp,a1,d1,yo,hw3];subst Zx;apply Zu;simp
theorem Th{x:Nat}{H:AH}(hx:x<Zc):CW Tryz.prog Zy 164 [.int .u64 (x:Int)] H fun v H'=>Zg H H'/\Ym H.n H' v (ds Zc x):=by
 refine Z8 7 Tryz.func164 ?_;apply Zb;intro b1 Ze;simp;subst Ze;apply Zh;intro b1 Ze;apply Zb;intro b2 Zx;simp;subst Zx;by_cases h0:x=0;·subst h0;refine Za (t:=true) (by simp) ?_;apply Zb;intro b2 Zx;simp;subst Zx;apply Zu;simp[Yx,XY];exact⟨.refl H,.nil⟩
 ·refine Za (t:=false) (by simp;omega) ?_;apply Zr;subst Ze;have e:ds Zc x=[x]:=by rw[TG Z7 h0,Nat.mod_eq_of_lt hx,Nat.div_eq_of_lt hx,XY]
  have bp:YX Tryz.prog H 30 1 [(0,.int .u64 (x:Int))]=some (.slice (some ⟨H.n,0,none⟩) 1 1,H.new 1 ([x].map Uc)):=by unfold YX;simp only[Zal,DB];kernel_rfl
  apply Zb;intro b2 Zx;simp[bp];subst Zx;apply Zu;simp;rw[e];exact⟨.new _ _ _,Ym.new H [x]⟩
end
theorem JD(n:Nat):zeros (Value.int .u64 0).cells n=(List.replicate n 0).map Uc:=by
 unfold zeros;apply List.ext_getElem?;intro i;rw[List.getElem?_map,List.getElem?_map,List.getElem?_replicate];by_cases h:i<n;·rw[if_pos h,List.getElem?_range h];simp[Uc,Value.cells,Nat.mod_one]
 ·rw[if_neg h,List.getElem?_eq_none (by simp;omega)];rfl
theorem YL{H:AH}{t:TypeId}(ht:LT t){n:Nat}(hn:n<=17592186044416): ∃v H',VL Tryz.prog H t (.int .i64 (n:Int)) (.int .i64 (n:Int))=some (v,H')/\Zg H H'/\Ym H.n H' v (List.replicate n 0)/\H'.n=H.n+1:=by
 refine⟨.slice (some ⟨H.n,0,none⟩) n n,H.new 1 ((List.replicate n 0).map Uc),?_,.new _ _ _,?_,rfl⟩;·unfold VL;simp only[ht.2,DB];rw[if_pos (by omega)];simp only[Int.toNat_natCast,Nat.mul_one,JD]
 ·have:=Ym.new H (List.replicate n 0);rwa[List.length_replicate]at this
theorem Ym.store{n:Nat}{H:AH}{v:Value}{xs:List Nat}(h:Ym n H v xs){i:Nat}(hi:i<xs.length)(y:Nat): ∃H',YZ Tryz.prog H 101 (adr v i) (.int .u64 (y:Int))=some H'/\Ym n H' v (xs.set i y)/\H'.n=H.n/\ ∀H0,Zg H0 H->H0.n<=n->Zg H0 H':=by cases h with
 |nil=>cases hi
 |mk b o cap xs cs h1 h2 h3 h4 h5 h6=>
  have hlen:Nat.ble (o+i+1) cs.length=true:=Nat.ble_eq.mpr (by omega);have e0:(Value.int .u64 (y:Int)).cells=#[.int .u64 (y:Int)]:=rfl;have hw:H.write b (o+i) [.int .u64 (y:Int)]=some { n:=H.n,lw:=min H.lw b,t:=H.t.set b (.rw 1 (cs.take (o+i)++[.int .u64 (y:Int)]++cs.drop (o+i+1))) } :=by rw[AH.write_def,h4];simp only[List.length_singleton,hlen,Bool.true_and];rfl
  refine⟨{ n:=H.n,lw:=min H.lw b,t:=H.t.set b (.rw 1 (cs.take (o+i)++[.int .u64 (y:Int)]++cs.drop (o+i+1))) },?_,?_,rfl,?_⟩;·unfold YZ Go.Proofs.YtmkfecoeghokfaaGreatDoor.adr;simp only[Mg,e0];rw[show Nat.beq (#[Value.int .u64 (y:Int)]:Array Value).size 1=true from rfl,cond_true];exact hw
  ·have hl:(xs.set i y).length=xs.length:=List.length_set;rw[<-hl];refine .mk b o cap _ (cs.take (o+i)++[.int .u64 (y:Int)]++cs.drop (o+i+1)) (by omega) h2 h3 ?_ ?_ ?_;·unfold AH.blk;simp only[Tr.get_set,if_true]
   ·simp only[List.length_append,List.length_take,List.length_drop,List.length_singleton];omega
   ·intro j x hj;rw[List.getElem?_set]at hj;by_cases e:i=j;·subst e;rw[if_pos rfl,if_pos hi]at hj;cases hj;rw[List.append_assoc,List.getElem?_append_right (by rw[List.length_take];omega)];rw[List.length_take,show o+i-min (o+i) cs.length=0 by omega];rfl
    ·rw[if_neg e]at hj;have:=h6 j x hj;rcases Nat.lt_or_ge (o+j) (o+i)with YW|Sa;·rw[List.append_assoc,List.getElem?_append_left (by rw[List.length_take];omega),List.getElem?_take,if_pos YW];exact this
     ·rw[List.getElem?_append_right (by simp only[List.length_append,List.length_take,List.length_singleton];omega),List.getElem?_drop];simp only[List.length_append,List.length_take,List.length_singleton];rw[show o+i+1+(o+j-(min (o+i) cs.length+1))=o+j by omega];exact this
  ·intro H0 k hn;refine⟨k.n,?_,fun j hj=>?_⟩;·have:=k.lw;show min H0.lw H0.n<=min H.lw b;omega
   ·have:j≠b:=by omega
    rw[<-k.blk j hj];unfold AH.blk;simp only[Tr.get_set,if_neg this]
theorem Mx{x:Nat}(h:x<Zc):(BitVec.ofInt 64 (x:Int)).toNat=x:=by have h:x<18446744073709551616:=h;simp[BitVec.toNat_ofInt];omega
theorem JW{x y:Nat}(hx:x<Zc)(hy:y<Zc):Zd .or .u64 (x:Int) (y:Int)=some (.int .u64 ((x|||y:Nat):Int)):=by
 have h:x|||y<2^64:=Nat.or_lt_two_pow hx hy;have e:(BitVec.ofInt 64 (x:Int)|||BitVec.ofInt 64 (y:Int)).toNat=x|||y:=by rw[BitVec.toNat_or,Mx hx,Mx hy]
 show some (Value.int .u64 (IntKind.u64.wrap ((BitVec.ofInt 64 (x:Int)|||BitVec.ofInt 64 (y:Int)).toNat:Nat)))=_;rw[e,IntKind.wrap_u64];have h:x|||y<18446744073709551616:=h;rw[Int.emod_eq_of_lt (by omega) (by omega)]
theorem B7{x y:Nat}(hx:x<Zc)(hy:y<Zc):Zd .and .u64 (x:Int) (y:Int)=some (.int .u64 ((x&&&y:Nat):Int)):=by
 have h:x&&&y<2^64:=Nat.and_lt_two_pow _ hy;have e:(BitVec.ofInt 64 (x:Int)&&&BitVec.ofInt 64 (y:Int)).toNat=x&&&y:=by rw[BitVec.toNat_and,Mx hx,Mx hy]
 show some (Value.int .u64 (IntKind.u64.wrap ((BitVec.ofInt 64 (x:Int)&&&BitVec.ofInt 64 (y:Int)).toNat:Nat)))=_;rw[e,IntKind.wrap_u64];have h:x&&&y<18446744073709551616:=h;rw[Int.emod_eq_of_lt (by omega) (by omega)]
theorem Sm{x s:Nat}(hs:s<=64):Y0 .shl .u64 (x:Int) (s:Int)=some (.int .u64 ((x*2^s%Zc:Nat):Int)):=by unfold Y0;rw[if_neg (by omega)];simp only[show IntKind.u64.bits=64 from rfl,Int.toNat_natCast,Nat.min_eq_left hs,IntKind.wrap_u64];congr 2
theorem Tw{x s:Nat}(hs:s<=64):Y0 .shr .u64 (x:Int) (s:Int)=some (.int .u64 ((x/2^s:Nat):Int)):=by unfold Y0;rw[if_neg (by omega)];simp only[show IntKind.u64.bits=64 from rfl,Int.toNat_natCast,Nat.min_eq_left hs];rw[Pk]
theorem Tq{x y:Nat} :Zd .add .u64 (x:Int) (y:Int)=some (.int .u64 (((x+y)%Zc:Nat):Int)):=by unfold Zd;simp only[IntKind.wrap_u64];congr 2
theorem Tu{x y:Nat} :Zd .mul .u64 (x:Int) (y:Int)=some (.int .u64 ((x*y%Zc:Nat):Int)):=by unfold Zd;simp only[IntKind.wrap_u64];congr 2
theorem WK{x y:Nat}(h:x+y<9223372036854775808):Zd .add .i64 (x:Int) (y:Int)=some (.int .i64 ((x+y:Nat):Int)):=by
 show some (Value.int .i64 (IntKind.i64.wrap ((x:Int)+(y:Int))))=_;have e:IntKind.i64.wrap ((x:Int)+(y:Int))=((x+y:Nat):Int):=by rw[IntKind.wrap_i64];omega
 rw[e]
theorem YR{x:Nat}(h:x<9223372036854775800):Zd .add .i64 (x:Int) 1=some (.int .i64 ((x+1:Nat):Int)):=by have:=WK (x:=x) (y:=1) (by omega);simpa using this
theorem Oe{x y:Nat}(h:x<9223372036854775808)(hy:y<=x):Zd .sub .i64 (x:Int) (y:Int)=some (.int .i64 ((x-y:Nat):Int)):=by
 show some (Value.int .i64 (IntKind.i64.wrap ((x:Int)-(y:Int))))=_;have e:IntKind.i64.wrap ((x:Int)-(y:Int))=((x-y:Nat):Int):=by rw[IntKind.wrap_i64];omega
 rw[e]
theorem Uf{x:Nat}(h:x<9223372036854775808)(hx:0<x):Zd .sub .i64 (x:Int) 1=some (.int .i64 ((x-1:Nat):Int)):=by have:=Oe (x:=x) (y:=1) h hx;simpa using this
theorem Sn{x y:Nat}(hx:x<Zc)(hy:y<=x):Zd .sub .u64 (x:Int) (y:Int)=some (.int .u64 ((x-y:Nat):Int)):=by
 have hx:x<18446744073709551616:=hx;show some (Value.int .u64 (IntKind.u64.wrap ((x:Int)-(y:Int))))=_;have e:IntKind.u64.wrap ((x:Int)-(y:Int))=((x-y:Nat):Int):=by rw[IntKind.wrap_u64];omega
 rw[e]
theorem Z3{k:IntKind}{x y:Nat} :Zd .lss k (x:Int) (y:Int)=some (.bool (decide (x<y))):=by show some (Value.bool (decide ((x:Int)<(y:Int))))=_;congr 2;simp
theorem P0{k:IntKind}{x y:Nat} :Zd .leq k (x:Int) (y:Int)=some (.bool (decide (x<=y))):=by show some (Value.bool (decide ((x:Int)<=(y:Int))))=_;congr 2;simp
theorem WW{k:IntKind}{x y:Nat} :Zd .gtr k (x:Int) (y:Int)=some (.bool (decide (y<x))):=by show some (Value.bool (decide ((x:Int)>(y:Int))))=_;congr 2;simp
theorem NV{k:IntKind}{x y:Nat} :Zd .geq k (x:Int) (y:Int)=some (.bool (decide (y<=x))):=by show some (Value.bool (decide ((x:Int)≥(y:Int))))=_;congr 2;simp
theorem PD{k:IntKind}{x y:Nat} :Zd .eql k (x:Int) (y:Int)=some (.bool (decide (x=y))):=by
 show some (Value.bool ((x:Int)==(y:Int)))=_;congr 2;by_cases h:x=y;·simp[h]
 ·have: ¬ (x:Int)=(y:Int):=by omega
  simp[h,this]
theorem Kp{k:IntKind}{x y:Nat} :Zd .neq k (x:Int) (y:Int)=some (.bool (decide (x≠y))):=by
 show some (Value.bool ((x:Int) !=(y:Int)))=_;congr 2;by_cases h:x=y;·simp[h]
 ·have: ¬ (x:Int)=(y:Int):=by omega
  simp[h,this]
theorem Bo{s a b:Nat}(hb:b<2^s):(a*2^s)|||b=a*2^s+b:=by rw[Nat.mul_comm,Nat.two_pow_add_eq_or_of_lt hb]
end
section
attribute [-simp] Int.natCast_add Int.natCast_mul Int.natCast_ediv Int.natCast_emod Int.natCast_pow
attribute [local simp] strip ZR Xm gW Z2 Ye ZW Yf ZK Yg Zs Zt Zi ZJ Ya ZP ZA Zl ZI Zj Zf ZB ZC YV Zo Yd YE Yy ZL plain ZO Tr.get_set Yw Zp Ys ZT sameKind undef Zw ZH Z5 Zv Z1 Yl ZU parts Z3 XZ DW Yh Zz ZZ Zq ZD ZQ XM Yk Zn ZN ZV ZM
theorem WG(L:List Nat)(c y:Nat)(R:List Nat){i:Nat}(h:L.length=i):(L++c::R).set i y=L++y::R:=by subst h;rw[List.set_append_right _ _ (Nat.le_refl _),Nat.sub_self];rfl
theorem NT(L:List Nat)(c:Nat)(R:List Nat){i:Nat}(h:L.length=i)(hi:i<(L++c::R).length):(L++c::R)[i]=c:=by subst h;simp
theorem Xo{xs:List Nat}{i:Nat}(h:i<xs.length):xs.take (i+1)=xs.take i++[xs[i]]:=(List.take_append_getElem (l:=xs) (i:=i) h).symm
theorem Jt{x s:Nat}(hs:s<64):x*2^s=x*2^s%Zc+Zc*(x/2^(64-s)):=by
 have e:Zc=2^(64-s)*2^s:=by rw[<-Nat.pow_add,show 64-s+s=64 by omega]
 have h1:x*2^s/Zc=x/2^(64-s):=by rw[e,Nat.mul_div_mul_right _ _ (Nat.two_pow_pos s)]
 have:=Nat.mod_add_div (x*2^s) Zc;rw[h1]at this;exact this.symm
theorem EJ{x s:Nat}(hs:s<64): ∃a,x*2^s%Zc=a*2^s/\a<2^(64-s):=by
 have e:Zc=2^(64-s)*2^s:=by rw[<-Nat.pow_add,show 64-s+s=64 by omega]
 refine⟨x%2^(64-s),?_,Nat.mod_lt _ (Nat.two_pow_pos _)⟩;rw[e,Nat.mul_mod_mul_right]
theorem iR{x c s:Nat}(hs:s<64)(hc:c<2^s):x*2^s%Zc+c<Zc:=by
 obtain⟨a,e1,h⟩:=EJ (x:=x) hs;have e:Zc=2^(64-s)*2^s:=by rw[<-Nat.pow_add,show 64-s+s=64 by omega]
 rw[e1,e];have:(a+1)*2^s<=2^(64-s)*2^s:=Nat.mul_le_mul_right _ h;rw[Nat.succ_mul]at this;omega
theorem au{v:Value}{xs:List Nat}{H:AH}(hs:Sl H v xs)(dx:YG Zc xs)(hlen:xs.length<=17592186044000){s:Nat}(fB:s<64):CW Tryz.prog Zy 217 [v,.int .u64 (s:Int)] H fun v' H'=>Zg H H'/\ ∃ys,Ym H.n H' v' ys/\YG Zc ys/\ys.length=xs.length+1/\dv Zc ys=dv Zc xs*2^s:=by
 refine Z8 39 Tryz.func217 ?_;obtain⟨c0,H1,RC,k1,o1,n1⟩:=YL (H:=H) Zv (n:=xs.length+1) (by omega);have l0:=hs.len Zv;apply Zb;intro b1 Ze;simp;subst Ze;apply Zb;intro b1 Ze;simp[l0,YR (x:=xs.length) (by omega),RC];subst Ze;apply Zh;intro b1 Ze;apply Zb;intro b2 Zx;simp[l0];subst Zx;apply ZS;refine YQ (fun m s'=>s'.k=39/\ ∃(i c:Nat) (L:List Nat),m+i=xs.length/\L.length=i/\c<2^s/\YG Zc L/\dv Zc L+Zc^i*c=dv Zc (xs.take i)*2^s/\Zg H s'.H/\Ym H.n s'.H c0 (L++c::List.replicate m 0)/\s'.tm.get 1=some (.int .u64 (s:Int))/\s'.tm.get 5=some c0/\s'.tm.get 12=some v/\s'.tm.get 13=some (.int .i64 (xs.length:Int))/\s'.tm.get 14=some (.int .i64 (i:Int))) ?_ xs.length _ ⟨rfl,0,0,[],by omega,rfl,Nat.two_pow_pos s,.nil _,by simp[dv],k1,o1,by simp,by simp,by simp,by simp,by simp⟩;rintro m ⟨k,tm,H2⟩ ⟨hk,i,c,L,Kk,hL,hc,dL,hv,kH,own,t1,t5,t12,t13,t14⟩ Q' Y4;simp only at hk t1 t5 t12 t13 t14 kH own;subst hk;apply Zb;intro b3 Z9;simp[t13,t14];subst Z9;apply Zh;intro b3 Z9;by_cases hi:i<xs.length
 ·refine Za (t:=true) (by simp[hi]) ?_;apply Zr;subst Z9;have s2:=hs.keep kH;have a1:=s2.adr Zv (k:= .i64) hi;have d1:=s2.load hi;have hx:xs[i]<Zc:=dx.get (List.getElem?_eq_getElem hi);obtain⟨m',rfl⟩: ∃m',m=m'+1:=⟨m-1,by omega⟩;have EY:(L++c::List.replicate (m'+1) 0).length=xs.length+1:=by simp;omega
  have Za7:=own.sl;have a2:=Za7.adr Zv (k:= .i64) (i:=i) (by omega);have d2:=Za7.load (i:=i) (by omega);rw[NT L c _ hL]at d2;have Ay:c<Zc:=Nat.lt_of_lt_of_le hc (by show 2^s<=2^64;exact Nat.pow_le_pow_right (by decide) (by omega));have hm:xs[i]*2^s%Zc<Zc:=Nat.mod_lt _ (by decide);have hor:c|||xs[i]*2^s%Zc=xs[i]*2^s%Zc+c:=by obtain⟨a,e1,_⟩:=EJ (x:=xs[i]) fB;rw[Nat.or_comm,e1,Bo hc]
  obtain⟨H3,SB,Sh,n3,kp3⟩:=own.store (i:=i) (by omega) (xs[i]*2^s%Zc+c);rw[WG L c _ _ hL]at Sh;have a3:=Sh.sl.adr Zv (k:= .i64) (i:=i+1) (by simp;omega);obtain⟨H4,TK,Vz,n4,zS⟩:=Sh.store (i:=i+1) (by simp;omega) (xs[i]/2^(64-s));have Tj:(L++(xs[i]*2^s%Zc+c)::List.replicate (m'+1) 0).set (i+1) (xs[i]/2^(64-s))=(L++[xs[i]*2^s%Zc+c])++(xs[i]/2^(64-s))::List.replicate m' 0:=by rw[show L++(xs[i]*2^s%Zc+c)::List.replicate (m'+1) 0=(L++[xs[i]*2^s%Zc+c])++0::List.replicate m' 0 by simp[List.replicate_succ]];exact WG _ _ _ _ (by simp[hL])
  rw[Tj]at Vz;have sh2:Y0 .shr .u64 ((xs[i]/2:Nat):Int) ((63-s:Nat):Int)=some (.int .u64 ((xs[i]/2^(64-s):Nat):Int)):=by rw[Tw (by omega),Nat.div_div_eq_div_mul];rw[show 2*2^(63-s)=2^(64-s) by rw[<-Nat.pow_succ',show(63-s).succ=64-s by omega]]
  have sh1:Y0 .shr .u64 (xs[i]:Int) 1=some (.int .u64 ((xs[i]/2:Nat):Int)):=Tw (s:=1) (by omega);have sb:Zd .sub .u64 63 (s:Int)=some (.int .u64 ((63-s:Nat):Int)):=Sn (x:=63) (by decide) (by omega);apply Zh;intro b3 Z9;apply ZS;apply Zb;intro b4 Yz;simp[t12,t14,a1,d1];subst Yz;apply Zb;intro b4 Yz;simp[t1,t5,a2,d2,Sm (x:=xs[i]) (s:=s) (by omega),JW Ay hm,hor,SB];subst Yz;apply Zk;simp[t1,t5,YR (x:=i) (by omega),sh1,sb,sh2,a3,TK];subst Z9;apply Zk;simp[t14,YR (x:=i) (by omega)];apply Y4;refine⟨m',by omega,rfl,i+1,xs[i]/2^(64-s),L++[xs[i]*2^s%Zc+c],by omega,by simp[hL],?_,?_,?_,zS H (kp3 H kH (Nat.le_refl _)) (Nat.le_refl _),?_,?_⟩;·rw[Nat.div_lt_iff_lt_mul (Nat.two_pow_pos _),<-Nat.pow_add,show s+(64-s)=64 by omega];exact hx
  ·exact dL.append (.cons (iR fB hc) (.nil _))
  ·rw[Yt,hL,Xo hi,Yt,List.length_take,Nat.min_eq_left (by omega)];simp only[dv,Nat.mul_zero,Nat.add_zero];have e1:=Jt (x:=xs[i]) fB;generalize hq:xs[i]*2^s%Zc=q at e1⊢;generalize xs[i]/2^(64-s)=r at e1⊢;rw[Nat.add_mul,<-hv,Nat.mul_assoc (Zc^i) xs[i],e1,Nat.pow_succ,Nat.mul_assoc (Zc^i) Zc r,Nat.mul_add,Nat.mul_add];omega
  ·simpa using Vz
  ·exact⟨by simp[t1],by simp[t5],by simp[t12],by simp[t13],by simp⟩
 ·refine Za (t:=false) (by simp[hi]) ?_;apply YP;apply Y4;left;refine⟨rfl,?_⟩;have UN:i=xs.length:=by omega
  obtain rfl:m=0:=by omega
  subst Ze;apply Zb;intro b4 Yz;simp[t5];subst Yz;apply Zu;simp;refine⟨kH,L++[c],by simpa using own,?_,by simp[hL,UN],?_⟩;·have Ay:c<Zc:=Nat.lt_of_lt_of_le hc (by show 2^s<=2^64;exact Nat.pow_le_pow_right (by decide) (by omega));exact dL.append (.cons Ay (.nil _))
  ·rw[Yt,hL];simp only[dv,Nat.mul_zero,Nat.add_zero];rw[hv,UN,List.take_length]
end
end
end Go.Proofs.YtmkfecoeghokfaaGreatDoor
