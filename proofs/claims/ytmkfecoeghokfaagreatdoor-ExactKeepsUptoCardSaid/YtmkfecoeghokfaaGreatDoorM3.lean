/-
  The engine and the walks that the claim's last text leans on, part 3 of 9: EvRc, EvM, EvMb, EvP, EvQ, Cfg, Laid, Np, Na, Nb, EvR, Nc, Nd, Ne, Nf, Ng.
-/
import Derived.Test.YtmkfecoeghokfaaGreatDoorM2
import Derived.Recover
import Derived.Defers
import Derived.Test.YtmkfecoeghokfaaGreatDoorRows
import Derived.WalkKit
import Derived.ProofKit
import Derived.OpenShut
import Derived.ChangeOld
import Derived.SizedLaws
import Derived.Test.YtmkfecoeghokfaaGreatDoorCards
import Derived.Test.YtmkfecoeghokfaaGreatDoorTie
import Derived.LaidMore
import Derived.Deep.Strs
import Derived.MakeChecks
import Derived.FnData
import Derived.Stop.Joined
import Derived.SevenTiedAt
import Derived.KernelRfl
import Derived.Laws.Bits64
import Derived.Laws.BitsLemmas
namespace Go.Proofs.YtmkfecoeghokfaaGreatDoor.Ev
open Go Go.RowKit
set_option linter.unusedVariables false
noncomputable section
set_option linter.unusedSimpArgs false
set_option maxHeartbeats 2000000
set_option maxRecDepth 20000
theorem aP {P : Program} {o : Oper} {a : Act} {K K' : Act -> World -> Prop} {Q Q' : Exit -> Act -> World -> Prop} {r : Result Next} (hK : ∀ a w, K a w -> K' a w) (hQ : ∀ ch a w, Q (.panic ch) a w -> Q' (.panic ch) a w) (hL : LetsOut Q -> LetsOut Q') (h : o.upon P a K Q r) : o.upon P a K' Q' r := by
  cases r with
  | ok n w =>
    cases n <;> first | exact h.elim | exact hK _ _ h | exact Calls.mono h (fun e w' he => by cases e <;> first | exact hK _ _ he | exact hQ _ _ _ he | exact hL he) | exact Rows.mono h (fun _ _ he => hK _ _ he)
  | halt x w => cases x <;> first | exact h.elim | exact hQ _ _ _ h
section
variable {P : Program} {ops : Array Oper} {rv : Value}
theorem Cz(i:Nat):(ops.map (Wr rv))[i]?=(ops[i]?).map (Wr rv):=by simp
theorem NU:(ops.map (Wr rv)).size=ops.size:=by simp
theorem OO(o:Oper):(Wr rv o).after=o.after/\(Wr rv o).guard=o.guard/\(Wr rv o).dst=o.dst:=by unfold Wr;cases isRec o.op<;>exact⟨rfl,rfl,rfl⟩
theorem IF(md:Region.Mode)(listed:Array Bool):Region.ready md (ops.map (Wr rv)) listed=Region.ready md ops listed:=by unfold Region.ready;rw[NU];congr 1;funext i;rw[Cz];cases ops[i]? with|none=>rfl|some o=>simp[(OO (rv:=rv) o).1]
theorem ER(a:Array Value):yielded (ops.map (Wr rv)) a=yielded ops a:=by funext j;unfold yielded;rw[Cz];cases ops[j]? with|none=>rfl|some o=>simp[(OO (rv:=rv) o).2.2]
structure OneRec (ops : Array Oper) (r : Nat) : Prop where
  at_ : ∃ o, ops[r]? = some o /\ isRec o.op = true /\ o.guard = none
  one : ∀ i o, ops[i]? = some o -> isRec o.op = true -> i = r
theorem filter_one{l:List Oper}{p:Oper->Bool}(h:(l.filter p).length=1): ∃(r:Nat) (o:Oper),l[r]?=some o/\p o=true/\ ∀(i:Nat)(o':Oper),l[i]?=some o'->p o'=true->i=r:=by induction l with
 |nil=>simp at h
 |cons x xs ih=>
  by_cases hx:p x=true;·rw[List.filter_cons_of_pos hx]at h;have h0:xs.filter p=[]:=List.eq_nil_of_length_eq_zero (by simpa using h);refine⟨0,x,rfl,hx,fun i o' hi hp=>?_⟩;cases i with|zero=>rfl|succ i=>have:o'∈xs.filter p:=List.mem_filter.mpr ⟨List.mem_of_getElem? hi,hp⟩;rw[h0]at this;cases this
  ·rw[List.filter_cons_of_neg hx]at h;obtain⟨r,o,h1,h2,h3⟩:=ih h;refine⟨r+1,o,h1,h2,fun i o' hi hp=>?_⟩;cases i with|zero=>simp at hi;subst hi;exact absurd hp hx|succ i=>rw[h3 i o' hi hp]
theorem Gi(h:SH ops=true): ∃r,OneRec ops r:=by unfold SH at h;rw[Bool.and_eq_true]at h;obtain⟨r,o,h1,h2,h3⟩:=filter_one (Nat.eq_of_beq_eq_true h.1);have hg:=List.all_eq_true.mp h.2 o (List.mem_of_getElem? h1);refine⟨r,⟨o,by simpa using h1,h2,?_⟩,fun i o' hi hp=>h3 i o' (by simpa using hi) hp⟩;rw[h2]at hg;simpa using hg
def Rh(Q:Exit->Act->World->Prop):Prop:= ∀e a w,Q e a w->e= .normal
theorem Rh.lets{Q:Exit->Act->World->Prop}(h:Rh Q): ¬LetsOut Q:=fun⟨a,w,q⟩=>by cases h _ _ _ q
theorem Ew {o : Oper} (h : isRec o.op = true) (ρ : Operand -> Value) (w : World) : (execOp ρ o).run P w = .ok .recover w := by
  obtain ⟨dst, op, ty, pos, after, guard⟩ := o
  cases op <;> first | (cases h; done) | skip
  rename_i c
  obtain ⟨callee, args, ts⟩ := c
  cases callee with
  | builtin b => cases b <;> first | (cases h; done) | (simp [execOp, resolve, invoke, builtin])
  | value f => cases h
  | invoke r m => cases h
theorem ES{Q:Exit->Act->World->Prop}{QS:Exit->Act->List Frame->World->Prop}(hQ:Rh Q){r:Nat}(hr:OneRec ops r){cs cs':List Frame}(Ni:recoverD cs=some (rv,cs')\/(recoverD cs=none/\rv= .nilIface/\cs'=cs)){i:Nat}{rest:List Nat}{K:Act->World->Prop}{a:Act}{w:World}(c0:List Frame)(hc:i=r->c0=cs)(hk: ∀a w,K a w->wpOpsS P ops QS rest a (if i=r then cs' else c0) w)(h:wpOp P (ops.map (Wr rv)) Q i K a w):wpOpsS P ops QS (i::rest) a c0 w:=by unfold wpOp at h;rw[Cz]at h;simp only[wpOpsS];cases ho:ops[i]? with
 |none=>
  rw[ho]at h;have Tl:i≠r:=fun e=>by obtain⟨o,h1,_⟩:=hr.at_;rw[<-e,ho]at h1;cases h1
  have:=hk a w h;rw[if_neg Tl]at this;exact this
 |some o=>
  rw[ho]at h;simp only[Option.map_some]at h;rw[ER]at h;have Rt:Region.wanted (Wr rv o) (yielded ops a.tmps)=Region.wanted o (yielded ops a.tmps):=by unfold Region.wanted;rw[(OO (rv:=rv) o).2.1]
  rw[Rt]at h;by_cases sk:i=r
  ·obtain⟨o',h1,h2,h3⟩:=hr.at_;rw[<-sk,ho]at h1;obtain rfl:=Option.some.inj h1;have hw:Region.wanted o (yielded ops a.tmps)=true:=by unfold Region.wanted;rw[h3]
   simp only[hw,if_true]at h⊢;have h:=h.resolve_right (fun x=>hQ.lets x.2);have hs:Wr rv o= { o with op:= .assign (.const rv) } :=by unfold Wr;rw[h2,cond_true]
   rw[hs]at h;have h':K (a.put o.dst rv) w:=h;have ba:=hk _ _ h';rw[if_pos sk]at ba;rw[Ew h2];rw[hc sk];simp only;rcases Ni with e|⟨e1,e2,e3⟩;·rw[e];exact ba
   ·rw[e1];subst e2;subst e3;exact ba
  ·have hn:isRec o.op=false:=by cases hb:isRec o.op with|false=>rfl|true=>exact absurd (hr.one i o ho hb) sk
   have hs:Wr rv o=o:=by unfold Wr;rw[hn,cond_false]
   rw[hs]at h;by_cases hw:Region.wanted o (yielded ops a.tmps)=true
   ·simp only[hw,if_true]at h⊢;have h:=h.resolve_right (fun x=>hQ.lets x.2);unfold Oper.wp at h;have ba: ∀a w,K a w->wpOpsS P ops QS rest a c0 w:=fun a w q=>by have:=hk a w q;rwa[if_neg sk]at this
    generalize(execOp a.eval o).run P w=res at h⊢;split;·exact h.elim
    ·exact aP ba (fun ch a w q=>by cases hQ _ _ _ q) (fun x=>absurd x hQ.lets) h
   ·simp only[hw,if_false,Bool.false_eq_true]at h⊢;have:=hk _ _ h;rw[if_neg sk]at this;exact this
theorem EU{Q:Exit->Act->World->Prop}{QS:Exit->Act->List Frame->World->Prop}(hQ:Rh Q){r:Nat}(hr:OneRec ops r){cs cs':List Frame}(Ni:recoverD cs=some (rv,cs')\/(recoverD cs=none/\rv= .nilIface/\cs'=cs))(mX: ∀a w,Q .normal a w->QS .normal a cs' w): ∀(n k:Nat)(a:Act)(w:World),r<k+n->wpOps P (ops.map (Wr rv)) Q (List.range' k n) a w->wpOpsS P ops QS (List.range' k n) a (if r<k then cs' else cs) w
 |0,k,a,w,hk,h=>by rw[if_pos (by omega)];exact mX a w h
 |n+1,k,a,w,hk,h=>by
  rw[List.range'_succ,wpOps_cons]at h;rw[List.range'_succ];refine ES hQ hr Ni _ (fun e=>by rw[if_neg (by omega)]) (fun a w q=>?_) h;have:=EU hQ hr Ni mX n (k+1) a w (by omega) q;by_cases e:k=r;·rw[if_pos e];rwa[if_pos (by omega)]at this
  ·rw[if_neg e];by_cases e2:r<k;·rw[if_pos e2];rwa[if_pos (by omega)]at this
   ·rw[if_neg e2];rwa[if_neg (by omega)]at this
theorem IM(hR:WI (ops.map (Wr rv))){listed:Array Bool}(XG:listed.size=ops.size)(h:Region.ready .any (ops.map (Wr rv)) listed=[]): ∀m,m<ops.size->listed[m]?=some true:=by intro m hm;induction m using Nat.strongRecOn with
 |_ m ih=>cases hb:listed[m]with|true=>rw[Array.getElem?_eq_getElem (by omega),hb]|false=>exfalso;obtain⟨o,ho⟩:=Yl (ops:=ops.map (Wr rv)) (by rw[NU];exact hm);have:m∈Region.ready .any (ops.map (Wr rv)) listed:=mem_ready.2 ⟨by simp[Array.getD,XG,hm,hb],o,ho,fun e he Fx=>by have YX:=hR.lead m o ho e (by simpa using he) Fx;have:=ih e.on YX (by omega);simp[Array.getD_eq_getD_getElem?,this]⟩;rw[h]at this;cases this
theorem Ga{listed:Array Bool}{i:Nat}(h:i∈Region.ready .any ops listed):listed[i]?=some false:=by
 have h1:=(mem_ready.1 h).1;rcases Nat.lt_or_ge i listed.size with h2|h2;·rw[Array.getElem?_eq_getElem h2];simp[Array.getD,h2]at h1;rw[h1]
 ·simp[Array.getD,Nat.not_lt.mpr h2]at h1
theorem kV{Q:Exit->Act->World->Prop}{QS:Exit->Act->List Frame->World->Prop}(hQ:Rh Q){r:Nat}(hr:OneRec ops r){cs cs':List Frame}(Ni:recoverD cs=some (rv,cs')\/(recoverD cs=none/\rv= .nilIface/\cs'=cs))(mX: ∀a w,Q .normal a w->QS .normal a cs' w)(hR:WI (ops.map (Wr rv)))(DN:r<ops.size): ∀(fuel t:Nat)(listed:Array Bool)(a:Act)(w:World),listed.size=ops.size->wpAny P .any (ops.map (Wr rv)) Q fuel listed a w->wpOpsS P ops QS (Region.linearise.go .any ops fuel t listed []) a (if listed[r]?=some true then cs' else cs) w:=by intro fuel;induction fuel with
 |zero=>intro t listed a w XG h;have Qn:=IM hR XG h.1 r DN;rw[if_pos Qn];exact mX a w h.2
 |succ fuel ih=>intro t listed a w XG h;obtain⟨h₀,h₁⟩:=h;simp only[Region.linearise.go];change wpOpsS P ops QS (match(Region.ready .any ops listed)[t%(Region.ready .any ops listed).length]? with|some i=>Region.linearise.go .any ops fuel (t/(Region.ready .any ops listed).length) (listed.setIfInBounds i true) [i]|none=>[].reverse) a _ w;cases hi:(Region.ready .any ops listed)[t%(Region.ready .any ops listed).length]? with
  |none=>
   have AW:Region.ready .any ops listed=[]:=by cases hr:Region.ready .any ops listed with|nil=>rfl|cons x xs=>rw[hr]at hi;have YX:t%(x::xs).length<(x::xs).length:=Nat.mod_lt _ (by simp);simp at hi;simp at YX;omega
   have mN:Region.ready .any (ops.map (Wr rv)) listed=[]:=by rw[IF];exact AW
   rw[if_pos (IM hR XG mN r DN)];exact mX a w (h₀ mN)
  |some i=>
   have jn:=List.mem_of_getElem? hi;have Ug:=Ga jn;simp only[];rw[linearise_go_acc,List.reverse_singleton,List.singleton_append];refine ES hQ hr Ni _ (fun e=>by rw[<-e,Ug];rfl) (fun a w q=>?_) (h₁ i (by rw[IF];exact jn));have:=ih (t/(Region.ready .any ops listed).length) (listed.setIfInBounds i true) a w (by simp[XG]) q;have TU:(listed.setIfInBounds i true)[r]?=some true↔(i=r\/listed[r]?=some true):=by
    rw[Array.getElem?_setIfInBounds];by_cases e:i=r
    ·have hl:i<listed.size:=by
      rcases Nat.lt_or_ge i listed.size with h2|h2;·exact h2
      ·rw[Array.getElem?_eq_none h2]at Ug;cases Ug
     simp[e];omega
    ·simp[e]
   by_cases e:i=r;·rw[if_pos e];rwa[if_pos (TU.mpr (.inl e))]at this
   ·rw[if_neg e];by_cases e2:listed[r]?=some true;·rw[if_pos e2];rwa[if_pos (TU.mpr (.inr e2))]at this
    ·rw[if_neg e2];rwa[if_neg (fun x=>by rcases TU.mp x with x|x;exact e x;exact e2 x)]at this
theorem Lq{id:Nat}{QS:Exit->Act->List Frame->World->Prop}{a:Act}{cs:List Frame}{w:World}(h: ∀t,wpOpsS P ops QS (Region.schedule (P.follows .mixedOrders) ops t) a cs { w with drawn:=w.drawn+1 }):(Code.region id ops true).wpS P QS a cs w:=fun b k hb hr=>let⟨e,a',cs',w',q,r⟩:=wp_opsS _ a cs _ (h _) b k hb hr;⟨e,a',cs',w',q,.of_steps (.one step_region_draw) r⟩
theorem CZ{Q:Exit->Act->World->Prop}{QS:Exit->Act->List Frame->World->Prop}(hm:P.follows .mixedOrders=true)(hQ:Rh Q){cs cs':List Frame}(Ni:recoverD cs=some (rv,cs')\/(recoverD cs=none/\rv= .nilIface/\cs'=cs))(mX: ∀a w,Q .normal a w->QS .normal a cs' w)(ho:SH ops=true){draw:Bool}(pJ:draw=true->VC (ops.map (Wr rv))=true){a:Act}{w:World}(h:Ul P (ops.map (Wr rv)) draw Q a w)(id:Nat):(Code.region id ops draw).wpS P QS a cs w:=by
 obtain⟨r,hr⟩:=Gi ho;have DN:r<ops.size:=by obtain⟨o,h1,_⟩:=hr.at_;exact Yp h1
 cases draw with|false=>refine wpS_region ?_;have h:wpOps P (ops.map (Wr rv)) Q (List.range (ops.map (Wr rv)).size) a w:=h;rw[NU,List.range_eq_range']at h;have:=EU hQ hr Ni mX ops.size 0 a w (by omega) h;rw[if_neg (by omega)]at this;rw[List.range_eq_range'];exact this|true=>refine Lq fun t=>?_;simp only[Region.schedule,hm,Bool.true_or,if_true];have h:wpAny P .any (ops.map (Wr rv)) Q (ops.map (Wr rv)).size (Array.replicate (ops.map (Wr rv)).size false) a { w with drawn:=w.drawn+1 } :=h;rw[NU]at h;have:=kV hQ hr Ni mX (Sw (pJ rfl)) DN ops.size t _ a _ (by simp) h;rw[if_neg (by simp[DN])]at this;exact this
theorem Kd{P:Program}{C:Cfg}{call:FuncId->List Value->AH->Option (Value×AH)}{ops:Array Oper}{s s':St}(h:YI P C call ops true s=some s'):VC ops=true:=by unfold YI at h;cases hb:(true&&Ws ops)with
 |false=>rw[hb,cond_false]at h;cases hs:(true&&isSplit C ops)with
  |true=>rw[hs,cond_true]at h;unfold V9 at h;cases E7:VD ops with
   |false=>rw[E7,cond_false]at h;unfold PE at h;cases ze:MF ops with|false=>rw[ze]at h;cases h|true=>unfold MF at ze;rw[Bool.and_eq_true]at ze;exact ze.1
   |true=>unfold VD at E7;simp only[Bool.and_eq_true]at E7;exact E7.1.1.1.1
  |false=>rw[hs,cond_false]at h;unfold WG at h;rw[cond_true]at h;cases hr:VC ops with|false=>rw[hr]at h;cases h|true=>rfl
 |true=>rw[hb,cond_true]at h;cases hr:VC ops with|false=>rw[hr]at h;cases h|true=>rfl
end
def NV : Array Value -> Sem Value := fun args => do
  let (x, y, b) <- Extern.MathBitsCarry.three "Sub64" args
  pure (Extern.MathBitsCarry.pair ((x + Extern.MathBitsCarry.m64 - y - b) % Extern.MathBitsCarry.m64) (if x < y + b then 1 else 0))
theorem kz{P:Program}(x y c:Nat)(hc:c<=1)(w:World):(add64Entry #[.int .u64 x,.int .u64 y,.int .u64 c]).run P w= .ok (.tuple #[.int .u64 (Int.ofNat ((x+y+c)%18446744073709551616)),.int .u64 (Int.ofNat ((x+y+c)/18446744073709551616))]) w:=by
 have:c=0\/c=1:=by omega
 rcases this with rfl|rfl<;>rfl
theorem kZ{P:Program}(x y c:Nat)(hc:c<=1)(w:World):(NV #[.int .u64 x,.int .u64 y,.int .u64 c]).run P w= .ok (.tuple #[.int .u64 (Int.ofNat ((x+18446744073709551616-y-c)%18446744073709551616)),.int .u64 (cond (Nat.blt x (y+c)) 1 0)]) w:=by
 have key: ∀k:Nat,k<=1->(NV #[.int .u64 x,.int .u64 y,.int .u64 k]).run P w= .ok (Extern.MathBitsCarry.pair ((x+Extern.MathBitsCarry.m64-y-k)%Extern.MathBitsCarry.m64) (if x<y+k then 1 else 0)) w:=by
  intro k hk;have:k=0\/k=1:=by omega
  rcases this with rfl|rfl<;>rfl
 rw[key c hc];unfold Extern.MathBitsCarry.pair;by_cases h:x<y+c
 ·have:Nat.blt x (y+c)=true:=by rw[Nat.blt_eq];exact h
  rw[if_pos h,this];rfl
 ·have:Nat.blt x (y+c)=false:=by cases hb:Nat.blt x (y+c)with|false=>rfl|true=>rw[Nat.blt_eq]at hb;exact absurd hb h
  rw[if_neg h,this];rfl
structure CfgOk (P : Program) (C : Cfg) : Prop where
  mixed : P.follows .mixedOrders = true
  names : ∀ (f : Nat) (fn : Func), P.funcs[f]? = some fn -> fn.body.isSome = true -> (fn.name == "runtime.NumGoroutine") = false
  add : ∃ fn, P.funcs[C.add]? = some fn /\ (fn.name == "runtime.NumGoroutine") = false /\ fn.body.isNone = true /\ Extern.findNext fn = none /\ Extern.find fn = some add64Entry
  sub : ∃ fn, P.funcs[C.sub]? = some fn /\ (fn.name == "runtime.NumGoroutine") = false /\ fn.body.isNone = true /\ Extern.findNext fn = none /\ Extern.find fn = some NV
def Kf:Ex->Exit| .norm=> .normal| .exit id=> .exit id| .ret=> .ret| .pan _=> .normal
def LW(P:Program)(body:Code)(Q:Exit->Act->World->Prop)(a:Act)(w:World):Prop:= ∀(b:Frame)(k:List Item)(cs:List Frame),∃e a' w',Q e a' w'/\Arrives P (lone (b.at a (.code body:: .inLoop body::k)) cs w) b k cs e a' w'
theorem LW.wp{P:Program}{body:Code}{Q:Exit->Act->World->Prop}{a:Act}{w:World}(h:LW P body Q a w):(Code.loop body).wp P Q a w:=fun b k cs=>by obtain⟨e,a',w',hq,dm⟩:=h b k cs;exact⟨e,a',w',hq,.of_steps (.one step_loop) dm⟩
def SC(Df:List Deferred)(B:Nat)(S:Nat->Prop)(L:Nat->Loc)(H:AH)(w:World)(ex:Ex)(s':St)(e:Exit)(a':Act)(w':World):Prop:=match ex with| .pan v=> ∃v',e= .panic [{ v:=v',recovered:=false }]/\ ∃L',AI Df (ext S H.n s'.H.n) L' s'.k s'.tm a'/\Inv B (ext S H.n s'.H.n) L' s'.H w'/\Fr S L H w L' s'.H w'/\VR (ext S H.n s'.H.n) L' v v'|ex=>e=Kf ex/\UU Df B S L H w s' a' w'
theorem SC.trans{Df:List Deferred}{B:Nat}{S:Nat->Prop}{L L1:Nat->Loc}{H:AH}{w w1:World}{s1 s2:St}{ex:Ex}{e:Exit}{a2:Act}{w2:World}(hI:Inv B S L H w)(P0:Inv B (ext S H.n s1.H.n) L1 s1.H w1)(hF:Fr S L H w L1 s1.H w1)(h:SC Df B (ext S H.n s1.H.n) L1 s1.H w1 ex s2 e a2 w2):SC Df B S L H w ex s2 e a2 w2:=by cases ex with|pan v=>obtain⟨v',he,L2,h1,h2,h3,h4⟩:=h;rw[Lt hF.n h3.n]at h1 h2 h4;exact⟨v',he,L2,h1,h2,hF.trans hI P0 (fun _ h=> .inl h) h3,h4⟩|norm=>exact⟨h.1,h.2.trans hI P0 hF⟩|exit j=>exact⟨h.1,h.2.trans hI P0 hF⟩|ret=>exact⟨h.1,h.2.trans hI P0 hF⟩
theorem SC.norm{Df:List Deferred}{B:Nat}{S:Nat->Prop}{L:Nat->Loc}{H:AH}{w:World}{s':St}{e:Exit}{a':Act}{w':World}(h:SC Df B S L H w .norm s' e a' w'):e= .normal/\UU Df B S L H w s' a' w':=h
theorem SC.not_normal{Df:List Deferred}{B:Nat}{S:Nat->Prop}{L:Nat->Loc}{H:AH}{w:World}{ex:Ex}{s':St}{e:Exit}{a':Act}{w':World}(Tl:ex≠ .norm)(h:SC Df B S L H w ex s' e a' w'):e≠ .normal:=by cases ex with|pan v=>obtain⟨v',he,_⟩:=h;subst he;simp|norm=>exact absurd rfl Tl|exit j=>rw[h.1];simp[Kf]|ret=>rw[h.1];simp[Kf]
def bn(P:Program)(C:Cfg)(B:Nat)(f:Code->St->Option (Ex×St)):Prop:= ∀c s ex s',f c s=some (ex,s')-> ∀Df S L a w,GO C S L->AI Df S L s.k s.tm a->Inv B S L s.H w-> ∀Q:Exit->Act->World->Prop,(∀e a' w',SC Df B S L s.H w ex s' e a' w'->Q e a' w')->c.wp P Q a w/\ ∀body,c= .loop body->LW P body Q a w
def CO(B:Nat)(S:Nat->Prop)(L:Nat->Loc)(H:AH)(w:World)(o:Out)(H':AH)(e:Ending)(w':World):Prop:=match o with| .ret v=> ∃v',e= .returned v'/\Good B S L H w v H' v' w'| .pan v=> ∃v',e= .panicked [{ v:=v',recovered:=false }]/\Good B S L H w v H' v' w'
def Pd(P:Program)(C:Cfg)(B:Nat)(call:FuncId->List Value->AH->Option (Out×AH)):Prop:= ∀f args H o H',call f args H=some (o,H')-> ∀S L w args',GO C S L->Inv B S L H w->UX S L args args'->(∃v v' w',o= .ret v/\(callFunc f args'.toArray).run P w= .ok (.value v') w'/\Good B S L H w v H' v' w')\/((callFunc f args'.toArray).run P w= .ok (.enter f args'.toArray) w/\Calls P f args'.toArray w fun e w'=>CO B S L H w o H' e w')
def IB(P:Program)(C:Cfg)(B:Nat)(call:FuncId->List Value->AH->Option (Value×AH)):Prop:= ∀f args H v H',call f args H=some (v,H')-> ∀S L w args',GO C S L->Inv B S L H w->UX S L args args'->(callFunc f args'.toArray).run P w= .ok (.enter f args'.toArray) w/\Calls P f args'.toArray w fun e w'=> ∃v',e= .panicked [{ v:=v',recovered:=false }]/\Good B S L H w v H' v' w'
structure LvOk (P : Program) (C : Cfg) (B : Nat) (ih : Lv) : Prop where
  code : bn P C B ih.code
  call : WK P C B ih.call
theorem R3{r:Option (Out×AH)}{v:Value}{H:AH}(h:M3 r=some (v,H)):r=some (.ret v,H):=by
 unfold M3 at h;split at h;·injection h with h;injection h with h1 h2;subst h1;subst h2;rfl
 ·cases h
theorem R0{r:Option (Out×AH)}{v:Value}{H:AH}(h:BW r=some (v,H)):r=some (.pan v,H):=by
 unfold BW at h;split at h;·injection h with h;injection h with h1 h2;subst h1;subst h2;rfl
 ·cases h
theorem Pd.ret{P:Program}{C:Cfg}{B:Nat}{call:FuncId->List Value->AH->Option (Out×AH)}(h:Pd P C B call):WK P C B (fun f args H=>M3 (call f args H)):=by
 intro f args H v H' hc S L w args' hG hI ha;rcases h f args H _ H' (R3 hc) S L w args' hG hI ha with⟨v1,v',w',e,h1,h2⟩|⟨h1,h2⟩;·cases e;exact .inl ⟨v',w',h1,h2⟩
 ·exact .inr ⟨h1,h2⟩
theorem Pd.pan{P:Program}{C:Cfg}{B:Nat}{call:FuncId->List Value->AH->Option (Out×AH)}(h:Pd P C B call):IB P C B (fun f args H=>BW (call f args H)):=by
 intro f args H v H' hc S L w args' hG hI ha;rcases h f args H _ H' (R0 hc) S L w args' hG hI ha with⟨v1,v',w',e,h1,h2⟩|⟨h1,h2⟩;·cases e
 ·exact⟨h1,h2⟩
theorem MK{S:Nat->Prop}{L:Nat->Loc}{args:List Value}{x y c:Nat}{args':List Value}(h:QE args=some (x,y,c))(hv:UX S L args args'):args'=[.int .u64 x,.int .u64 y,.int .u64 c]/\c<=1:=by
 unfold QE at h;split at h<;>first|(cases h;done)|skip
 rename_i a b d;split at h<;>first|(cases h;done)|skip
 rename_i hb;obtain⟨h1,h2,h3,h4⟩:=hb;injection h with h;injection h with e1 e2;injection e2 with e2 e3;obtain⟨x',y',z',rfl,v1,v2,v3⟩:=hv.inv3;cases v1;cases v2;cases v3;subst e1;subst e2;subst e3;exact⟨by rw[Int.toNat_of_nonneg h1,Int.toNat_of_nonneg h2,Int.toNat_of_nonneg h3],by omega⟩
theorem EL: ∀(vs:List Value)(i:Nat)(t:Tr Value)(k:Nat),(Yu i vs t).get k=if i<=k/\k<i+vs.length then vs[k-i]? else t.get k
 |[],i,t,k=>by rw[if_neg (by rw[List.length_nil];omega)];rfl
 |v::vs,i,t,k=>by
  simp only[Yu];rw[EL vs (i+1) (t.set i v) k,Tr.get_set];by_cases h:i+1<=k/\k<i+1+vs.length
  ·rw[if_pos h,if_pos (by simp;omega)];have:k-i=(k-(i+1))+1:=by omega
   rw[this];rfl
  ·rw[if_neg h];by_cases e:k=i;·subst e;rw[if_pos rfl,if_pos (by simp)];simp
   ·rw[if_neg e,if_neg (by simp;omega)]
theorem FE{B:Nat}{S:Nat->Prop}{L:Nat->Loc}{H:AH}{w:World}{P:Program}(hI:Inv B S L H w){t:TypeId}{x x' v:Value}(h:Z9 P H t x=some v)(hx:VR S L x x'): ∃v',(do loadVar t (<-asAddr x'):Sem Value).run P w= .ok v' w/\VR S L v v':=by
 obtain⟨v',h1,h2⟩:=Ix (P:=P) hI h hx;refine⟨v',?_,h2⟩;unfold Z9 at h;split at h<;>first|(cases h;done)|skip
 cases hx with|ptr i o hS=>simp only[Instr.loadAt,Instr.sureAddr,Sem.run_bind,Sem.run_pure,Result.andThen_ok]at h1;simp only[asAddr,Sem.run_bind,Sem.run_pure,Result.andThen_ok,h1]
def Cq(tmps:Array Value)(r:ResultVar):Sem Value:=match r with| .tmp t=>pure (tmps.getD t undef)| .cell c t=>do loadVar t (<-asAddr (tmps.getD c undef))
theorem Cr(fn:Func)(tmps:Array Value):results fn tmps=(do let vs<-fn.results.mapM (Cq tmps);pure (if h:vs.size=1 then vs[0]else .tuple vs)):=rfl
theorem M1{Df:List Deferred}{B:Nat}{S:Nat->Prop}{L:Nat->Loc}{w:World}{P:Program}{s:St}{a:Act}(hA:AI Df S L s.k s.tm a)(hI:Inv B S L s.H w): ∀(rs:List ResultVar)(vs:List Value),Zv P s rs=some vs-> ∃M6,(rs.mapM (Cq a.tmps):Sem (List Value)).run P w= .ok M6 w/\UX S L vs M6
 |[],vs,h=>by simp only[Zv]at h;obtain rfl:=Option.some.inj h;exact⟨[],by simp,.nil⟩
 |r::rs,vs,h=>by simp only[Zv]at h;cases hr:ZG P s r with
  |none=>rw[hr]at h;cases h
  |some v=>rw[hr]at h;simp only at h;cases DN:Zv P s rs with
   |none=>rw[DN]at h;cases h
   |some vs1=>
    rw[DN]at h;obtain rfl:=Option.some.inj h;obtain⟨M6,h1,h2⟩:=M1 hA hI rs vs1 DN;have PN: ∃v',(Cq a.tmps r).run P w= .ok v' w/\VR S L v v':=by cases r with
     |tmp t=>exact⟨_,rfl,(hA.tmp t v hr).2⟩
     |cell c t=>simp only[ZG]at hr;cases hc:s.tm.get c with|none=>rw[hc]at hr;cases hr|some x=>rw[hc]at hr;exact FE hI hr (hA.tmp c x hc).2
    obtain⟨v',h3,h4⟩:=PN;refine⟨v'::M6,?_,.cons h4 h2⟩;rw[List.mapM_cons];simp only[Sem.run_bind,h3,Result.andThen_ok,h1,Sem.run_pure]
theorem SG{Df:List Deferred}{B:Nat}{S:Nat->Prop}{L:Nat->Loc}{w:World}{P:Program}{s:St}{a:Act}(hA:AI Df S L s.k s.tm a)(hI:Inv B S L s.H w){fn:Func}{vs:List Value}(h:Zv P s fn.results.toList=some vs): ∃v',(results fn a.tmps).run P w= .ok v' w/\VR S L (Z3 vs) v':=by
 obtain⟨M6,h1,h2⟩:=M1 (P:=P) hA hI _ _ h;have h3:(results fn a.tmps).run P w= .ok (if h:M6.toArray.size=1 then M6.toArray[0]else .tuple M6.toArray) w:=by rw[Cr,Array.mapM_eq_mapM_toList];simp only[Sem.run_bind,Sem.run_map,h1,Result.andThen_ok,Sem.run_pure]
 refine⟨_,h3,?_⟩;match vs,M6,h2 with
  |[v],[v'],h2=>exact h2.2 0 v v' rfl rfl
  |[],[],h2=>exact .tuple _ _ rfl (fun k v v' h=>by simp at h)
  |v::u::r,v'::u'::r',h2=>
   have e: ¬ ((v'::u'::r').toArray.size=1):=by simp
   rw[dif_neg e];exact .tuple _ _ (by simpa using h2.1) (fun k x y hx hy=>h2.2 k x y (by simpa using hx) (by simpa using hy))
  |[],_::_,h2=>have:=h2.1;simp at this
  |[v],[],h2=>have:=h2.1;simp at this
  |[v],_::_::_,h2=>have:=h2.1;simp at this
  |_::_::_,[],h2=>have:=h2.1;simp at this
  |_::_::_,[_],h2=>have:=h2.1;simp at this
section
variable {P : Program} {C : Cfg} {B : Nat}
theorem JA{S:Nat->Prop}{L:Nat->Loc}{tm:Tr Value}{a:Act}{c:Call}{g:FuncId}{args:List Value}(hx: ∀x∈c.operands,∀u,YF C tm x=some u->VR S L u (a.eval x))(h:ZL C tm c=some (g,args))(ty:TypeId): ∃PS cs':Array Value,∃UW:List Value,(∀w,(resolve a.eval c ty).run P w= .ok { target:= .fn (.func g) cs',args:=PS++UW.toArray } w)/\UX S L args (PS.toList++UW++cs'.toList):=by
 obtain⟨callee,VZ,gQ⟩:=c;unfold ZL at h;cases callee<;>simp only at h<;>first|(cases h;done)|skip
 rename_i f;split at h<;>first|(cases h;done)|skip
 rename_i fv h1;split at h<;>first|(cases h;done)|skip
 rename_i g' fs cs xs h3 h4;injection h with h;injection h with e1 e2;subst e1;subst e2;have hf:=hx f (by simp[Call.operands]) _ h1;have hxs:=Su (ρ:=a.eval) (fun x mA u h=>hx x (by simp only[Call.operands,Array.mem_append];exact .inr (by simpa using mA)) u h) h4;generalize FZ:a.eval f=f' at hf;unfold ZW at h3;split at h3<;>first|(cases h3;done)|skip
 rename_i g0 fs0 Wd;injection h3 with h3;injection h3 with h5 h6;injection h6 with h6 h7;subst h5;subst h6;subst h7;cases hf with
  |func _ _ PS _ cs' e1 q1 e2 q2=>
   have pU:UX S L fs0.toList PS.toList:=⟨by simpa using e1,fun k x y hx hy=>q1 k x y (by simpa using hx) (by simpa using hy)⟩;have Tk:UX S L Wd.toList cs'.toList:=⟨by simpa using e2,fun k x y hx hy=>q2 k x y (by simpa using hx) (by simpa using hy)⟩;refine⟨PS,cs',VZ.toList.map a.eval,fun w=>?_,(pU.append hxs).append Tk⟩;have e:VZ.map a.eval=(VZ.toList.map a.eval).toArray:=by apply Array.ext';simp
   simp[resolve,FZ,Deferred.ofValue,e]
theorem Kc{Df:List Deferred}{call MY:FuncId->List Value->AH->Option (Value×AH)}(Y4:WK P C B call)(jf:IB P C B MY){ops:Array Oper}{Q:Exit->Act->World->Prop} : ∀(l:List Oper)(k:Nat)(s:St)(ex:Ex)(s':St)(S:Nat->Prop)(L:Nat->Loc)(a:Act)(w:World),GO C S L->(∀j,l[j]?=ops[k+j]?)->So P C call MY ops l s=some (ex,s')->AI Df S L s.k s.tm a->Inv B S L s.H w->(∀e a' w',SC Df B S L s.H w ex s' e a' w'->Q e a' w')->wpOps P ops Q (List.range' k l.length) a w
 |[],k,s,ex,s',S,L,a,w,hG,hl,h,hA,hI,hQ=>by cases h
 |o::rest,k,s,ex,s',S,L,a,w,hG,hl,h,hA,hI,hQ=>by
  have h0:ops[k]?=some o:=by simpa using(hl 0).symm
  have MQ: ∀j,rest[j]?=ops[k+1+j]?:=fun j=>by have:=hl (j+1);simpa[Nat.add_assoc,Nat.add_comm 1 j]using this
  rw[List.length_cons,List.range'_succ,wpOps_cons];unfold wpOp;rw[h0];dsimp only;simp only[So]at h;split at h<;>first|(cases h;done)|skip
  ·rename_i hw;rw[Uy hw (hA.guard o),if_pos rfl];split at h
   ·rename_i v H1 hp;injection h with h;injection h with e1 e2;subst e1;subst e2;refine .inl ?_;unfold Oper.wp;unfold Yg at hp;split at hp<;>first|(cases hp;done)|skip
    ·rename_i x YB;split at hp<;>first|(cases hp;done)|skip
     rename_i t u hx;injection hp with hp;injection hp with e1 e2;subst e1;subst e2;have hv:=Mn hG hA hx;generalize Me:a.eval x=x' at hv;have Rs:(execOp a.eval o).run P w= .halt (.panic x') w:=by obtain⟨dst,op,ty,pos,after,guard⟩:=o;simp only at YB;subst YB;cases hv with|iface _ _ u' hu=>simp[execOp,Me,Instr.panic]
     rw[Rs];exact hQ _ a w ⟨x',rfl,L,hA.mono (fun _ h=> .inl h) (fun _ _=>rfl),hI.mono (fun _ h=> .inl h) (fun i h=>hI.bd i (Y6 h)),Fr.refl hI,hv.mono (fun _ h=> .inl h) (fun _ _=>rfl)⟩
    ·rename_i c YB;split at hp<;>first|(cases hp;done)|skip
     rename_i g args hd;obtain⟨dst,op,ty,pos,after,guard⟩:=o;simp only at YB;subst YB;obtain⟨PS,cs',UW,h2,h3⟩:=JA (P:=P) (fun x _ u hx=>Mn hG hA hx) hd ty;obtain⟨h4,h5⟩:=jf g args s.H v H1 hp S L w _ hG hI h3;have e:PS++UW.toArray++cs'=(PS.toList++UW++cs'.toList).toArray:=by apply Array.ext';simp
     have Rs:(execOp a.eval { dst,op:=Op.call c,type:=ty,pos,after,guard }).run P w= .ok (.enter g (PS.toList++UW++cs'.toList).toArray) w:=by simp only[execOp,Sem.run_bind,h2,Result.andThen_ok,invoke];rw[e,h4]
     rw[Rs];refine Calls.mono h5 fun e w' ⟨v',he,hg⟩=>?_;subst he;obtain⟨L1,g1,g2,g3⟩:=hg;exact hQ _ a w' ⟨v',rfl,L1,hA.mono (fun _ h=> .inl h) g2.agree,g1,g2,g3⟩
   ·split at h<;>first|(cases h;done)|skip
    rename_i v H1 YB;split at h<;>first|(cases h;done)|skip
    rename_i s1 YT;refine .inl ((X5 Y4 hG hI (fun x _ u hx=>Mn hG hA hx) YB).wp fun v' w1 FY=>?_);obtain⟨L1,g1,g2,g3⟩:=FY;obtain⟨e1,e2,_⟩:=Xe YT;subst e1;refine Kc Y4 jf rest (k+1) s1 ex s' _ L1 _ w1 (hG.mono (fun _ h=> .inl h) g2.agree) MQ h (hA.put (fun _ h=> .inl h) g2.agree g3 YT) g1 fun e a' w' hd=>hQ e a' w' (hd.trans hI g1 g2)
  ·rename_i hw;rw[Uy hw (hA.guard o),if_neg (by simp)];split at h<;>first|(cases h;done)|skip
   rename_i s1 YT;obtain⟨e1,e2,_⟩:=Xe YT;refine Kc Y4 jf rest (k+1) s1 ex s' S L _ w hG MQ h (hA.put (fun _ h=>h) (fun _ _=>rfl) Q8 YT) (by rw[e1];exact hI) fun e a' w' hd=>hQ e a' w' (by rw[e1]at hd;exact hd)
end
theorem BM{next:Act->World->Prop}{Q:Exit->Act->World->Prop}{e:Exit}{a:Act}{w:World}(h:e≠ .normal)(hQ:Q e a w):Exit.then next Q e a w:=by cases e<;>first|exact absurd rfl h|exact hQ
theorem kW{P:Program}{C:Cfg}{B:Nat}(hC:CfgOk P C){ih:Lv}(E6:LvOk P C B ih)(hcO:Pd P C B (X1 P C ih)):bn P C B (XO P C ih):=by
 have Y4:WK P C B (YG P C ih):=hcO.ret;have jf:IB P C B (Xy P C ih):=hcO.pan;have ih:=E6.code;intro c s ex s' h Df S L a w hG hA hI Q hQ;cases c<;>simp only[XO]at h<;>first|(cases h;done)|skip
 case skip=>injection h with h;injection h with h1 h2;subst h1;subst h2;exact⟨wp_skip (hQ _ a w ⟨rfl,UU.refl hA hI⟩),fun _ e=>by cases e⟩
 case exit id=>injection h with h;injection h with h1 h2;subst h1;subst h2;exact⟨wp_exit (hQ _ a w ⟨rfl,UU.refl hA hI⟩),fun _ e=>by cases e⟩
 case ret=>injection h with h;injection h with h1 h2;subst h1;subst h2;exact⟨wp_ret (hQ _ a w ⟨rfl,UU.refl hA hI⟩),fun _ e=>by cases e⟩
 case region id ops draw=>
  split at h;·rename_i s1 hr;injection h with h;injection h with h1 h2;subst h1;subst h2;exact⟨G9 hC.mixed Y4 hr hG hA hI (fun a' w' hd=>hQ _ a' w' ⟨rfl,hd⟩) id,fun _ e=>by cases e⟩
  ·cases draw with|true=>cases h|false=>rw[cond_false]at h;refine⟨wp_region ?_,fun _ e=>by cases e⟩;have:=Kc (Q:=Q) Y4 jf ops.toList 0 s ex s' S L a w hG (fun j=>by simp) h hA hI hQ;rw[List.range_eq_range'];simpa using this
 case seq x y=>
  refine⟨wp_seq ?_,fun _ e=>by cases e⟩;split at h;·rename_i s1 hx;refine(ih x s .norm s1 hx Df S L a w hG hA hI _ fun e a1 w1 hd=>?_).1;obtain⟨rfl,hd⟩:=hd;obtain⟨L1,d1,d2,d3⟩:=hd;exact(ih y s1 ex s' h Df _ L1 a1 w1 (hG.mono (fun _ h=> .inl h) d3.agree) d1 d2 Q fun e a2 w2 Jn=>hQ e a2 w2 (Jn.trans hI d2 d3)).1
  ·rename_i Tl;refine(ih x s ex s' h Df S L a w hG hA hI _ fun e a1 w1 hd=>BM (hd.not_normal fun e=>?_) (hQ e a1 w1 hd)).1;subst e;exact Tl s' h
 case cond x y z=>
  refine⟨?_,fun _ e=>by cases e⟩;split at h<;>first|(cases h;done)|skip
  rename_i t hx;have hv:=Nx hG (fun t v _ hv=>(hA.tmp t v hv).2) hx;generalize Me:a.eval x=u at hv;cases hv;refine wp_cond Me ?_;have:=(ih (cond t y z) s ex s' h Df S L a w hG hA hI Q hQ).1;cases t<;>exact this
 case block id body=>
  refine⟨wp_block ?_,fun _ e=>by cases e⟩;split at h;·rename_i j s1 hb;refine(ih body s (.exit j) s1 hb Df S L a w hG hA hI _ fun e a1 w1 hd=>?_).1;obtain⟨rfl,hd⟩:=hd;cases hj:Nat.beq j id with
   |true=>rw[hj,cond_true]at h;injection h with h;injection h with h1 h2;subst h1;subst h2;have e:=Nat.eq_of_beq_eq_true hj;show Exit.inBlock id Q (.exit j) a1 w1;simp only[Exit.inBlock,e,if_true];exact hQ _ a1 w1 ⟨rfl,hd⟩
   |false=>
    rw[hj,cond_false]at h;injection h with h;injection h with h1 h2;subst h1;subst h2;have e:j≠id:=fun e=>by subst e;rw[Nat.beq_refl]at hj;cases hj
    show Exit.inBlock id Q (.exit j) a1 w1;simp only[Exit.inBlock,e,if_false];exact hQ _ a1 w1 ⟨rfl,hd⟩
  ·rename_i Tl;refine(ih body s ex s' h Df S L a w hG hA hI _ fun e a1 w1 hd=>?_).1;cases ex with|norm=>rw[hd.1];exact hQ _ a1 w1 ⟨rfl,hd.2⟩|exit j=>exact absurd h (Tl j s')|ret=>rw[hd.1];exact hQ _ a1 w1 ⟨rfl,hd.2⟩|pan v=>have:=hQ e a1 w1 hd;obtain⟨v',rfl,_⟩:=hd;exact this
 case loop body=>
  have key:LW P body Q a w:=by
   intro b k cs;split at h;·rename_i s1 hb;have h1:=(ih body s .norm s1 hb Df S L a w hG hA hI (fun e a1 w1=>e= .normal/\UU Df B S L s.H w s1 a1 w1) fun e a1 w1 hd=>hd).1;obtain⟨e,a1,w1,⟨rfl,hd⟩,dm⟩:=h1 b (.inLoop body::k) cs;obtain⟨L1,d1,d2,d3⟩:=hd;have h2:=(ih (.loop body) s1 ex s' h Df _ L1 a1 w1 (hG.mono (fun _ h=> .inl h) d3.agree) d1 d2 Q fun e a2 w2 Jn=>hQ e a2 w2 (Jn.trans hI d2 d3)).2 body rfl;obtain⟨e2,a2,w2,hq,uI⟩:=h2 b k cs;have uJ:Steps P (lone (b.at a (.code body:: .inLoop body::k)) cs w) (lone (b.at a1 (.inLoop body::k)) cs w1):=dm;exact⟨e2,a2,w2,hq,.of_steps (uJ.trans (.one step_inLoop)) uI⟩
   ·rename_i Tl;have h1:=(ih body s ex s' h Df S L a w hG hA hI (Exit.then (fun _ _=>False) Q) fun e a1 w1 hd=>BM (hd.not_normal fun e=>by subst e;exact Tl s' h) (hQ e a1 w1 hd)).1;obtain⟨e,a1,w1,hq,dm⟩:=h1 b (.inLoop body::k) cs;have hne':e≠ .normal:=fun e'=>by subst e';exact hq
    refine⟨e,a1,w1,?_,.pass (x:= .inLoop body) rfl (fun a w=> .inl hne') dm⟩;cases e<;>first|exact hq.elim|exact hq
  exact⟨key.wp,fun body' e=>by cases e;exact key⟩
section
variable {P : Program} {C : Cfg} {B : Nat}
theorem cN(hC:CfgOk P C){ih:Lv}(E6:LvOk P C B ih){rv:Value}{cs cs':List Frame}(Ni:recoverD cs=some (rv,cs')\/(recoverD cs=none/\rv= .nilIface/\cs'=cs)): ∀(c:Code)(s:St)(ex:Ex)(s':St),Fa P C ih rv c s=some (ex,s')->(ex= .norm\/ex= .ret)/\ ∀S L a w,GO C S L->AI [] S L s.k s.tm a->Inv B S L s.H w-> ∀Q:Exit->Act->List Frame->World->Prop,(∀a' w',UU [] B S L s.H w s' a' w'->Q (Kf ex) a' cs' w')->c.wpS P Q a cs w:=by intro c;induction c with
 |seq x y wZ wY=>intro s ex s' h;simp only[Fa]at h;cases hf:Rm x with
  |true=>
   rw[hf,cond_true]at h;split at h<;>first|(cases h;done)|skip
   rename_i s1 h1;have hnr:ih.code y s1=some (ex,s')/\(ex= .norm\/ex= .ret):=by
    unfold Nv at h;split at h<;>first|(cases h;done)|skip
    ·rename_i s2 e;injection h with h;injection h with e1 e2;subst e1;subst e2;exact⟨e,.inl rfl⟩
    ·rename_i s2 e;injection h with h;injection h with e1 e2;subst e1;subst e2;exact⟨e,.inr rfl⟩
   refine⟨hnr.2,fun S L a w hG hA hI Q hQ=>wpS_seq ((wZ s .norm s1 h1).2 S L a w hG hA hI _ fun a1 w1 hd=>?_)⟩;obtain⟨L1,d1,d2,d3⟩:=hd;show y.wpS P Q a1 cs' w1;refine wpS_of_wp (E6.code y s1 ex s' hnr.1 [] _ L1 a1 w1 (hG.mono (fun _ h=> .inl h) d3.agree) d1 d2 _ fun e a2 w2 Jn=>?_).1;have JW:=Jn.trans hI d2 d3;rcases hnr.2 with e1|e1<;>(subst e1;rw[JW.1];exact hQ a2 w2 JW.2)
  |false=>
   rw[hf,cond_false]at h;split at h<;>first|(cases h;done)|skip
   rename_i s1 h1;obtain⟨g1,g2⟩:=wY s1 ex s' h;refine⟨g1,fun S L a w hG hA hI Q hQ=>wpS_seq (wpS_of_wp (E6.code x s .norm s1 h1 [] S L a w hG hA hI _ fun e a1 w1 hd=>?_).1)⟩;obtain⟨rfl,hd⟩:=hd;obtain⟨L1,d1,d2,d3⟩:=hd;exact g2 _ L1 a1 w1 (hG.mono (fun _ h=> .inl h) d3.agree) d1 d2 Q fun a2 w2 Jn=>hQ a2 w2 (Jn.trans hI d2 d3)
 |region id ops draw=>intro s ex s' h;simp only[Fa]at h;cases ho:SH ops with
  |false=>rw[ho]at h;cases h
  |true=>
   rw[ho,cond_true]at h;split at h<;>first|(cases h;done)|skip
   rename_i s1 h1;injection h with h;injection h with e1 e2;subst e1;subst e2;refine⟨.inl rfl,fun S L a w hG hA hI Q hQ=>?_⟩;have pJ:=O7 (Q:=fun e a' w'=>e= .normal/\UU [] B S L s.H w s1 a' w') hC.mixed E6.call h1 hG hA hI fun a' w' hd=>⟨rfl,hd⟩;exact CZ hC.mixed (fun e a w q=>q.1) Ni (fun a w q=>hQ a w q.2) ho (fun e=>by subst e;exact Kd h1) pJ id
 |_=>intro s ex s' h;cases h
theorem L5{S:Nat->Prop}{L:Nat->Loc}{args args':List Value}(Im:UX S L args args')(n:Nat):AI [] S L (args.length+(n-args.length)) (Yu 0 args .nil) { tmps:=args'.toArray++Array.replicate (n-args'.toArray.size) undef,defers:=[] } :=by
 have hlen:=Im.1;refine⟨rfl,by simp[hlen],fun t u hu=>?_⟩;rw[EL]at hu;split at hu
 ·rename_i ht;simp only[Nat.sub_zero]at hu;obtain⟨u',h1,h2⟩:=Im.get hu;have YX:t<args'.length:=by omega
  refine⟨by omega,?_⟩;have:(args'.toArray++Array.replicate (n-args'.toArray.size) undef).getD t undef=u':=by rw[Array.getD_eq_getD_getElem?];rw[Array.getElem?_append,if_pos (by simpa using YX),List.getElem?_toArray,h1];rfl
  show VR S L u ((args'.toArray++Array.replicate (n-args'.toArray.size) undef).getD t undef);rw[this];exact h2
 ·cases hu
theorem IJ(hC:CfgOk P C){f:FuncId}{fn:Func}{c:Code}(Az:P.funcs[f]?=some fn)(Sr:fn.body=some c)(args:Array Value)(w:World):(callFunc f args).run P w= .ok (.enter f args) w:=by
 have dQ:=hC.names f fn Az (by rw[Sr];rfl);have DO:fn.name≠ "runtime.NumGoroutine":=by simpa using dQ
 simp[callFunc,Az,DO,Sr]
def WD:FrameMode->FrameMode| .panicking [{ v:=v,recovered:=false,goexit:=false }]=> .panicking [{ v:=v,recovered:=true }]|m=>m
theorem Gn{u:FrameMode}(h:u= .returning\/ ∃v,u= .panicking [{ v:=v,recovered:=false }]):settle (WD u)= .returning:=by rcases h with rfl|⟨v,rfl⟩<;>rfl
theorem au{u:FrameMode}{rv:Value}(h:(u= .returning/\rv= .nilIface)\/u= .panicking [{ v:=rv,recovered:=false }])(c:Frame)(hc:c.mode=u)(cs:List Frame):recoverD (c::cs)=some (rv,{ c with mode:=WD u } ::cs)\/(recoverD (c::cs)=none/\rv= .nilIface/\({ c with mode:=WD u } ::cs)=c::cs):=by
 rcases h with⟨rfl,rfl⟩|rfl;·right;refine⟨by simp[recoverD,hc],rfl,?_⟩;rw[show WD .returning=c.mode from hc.symm]
 ·left;simp[recoverD,hc];rfl
theorem cR(hC:CfgOk P C){ih:Lv}(E6:LvOk P C B ih){g:FuncId}{args:List Value}{rv:Value}{H H':AH}(h:QW P C ih g args rv H=some H'){S:Nat->Prop}{L:Nat->Loc}{w:World}{args':List Value}(hG:GO C S L)(hI:Inv B S L H w)(ha:UX S L args args'){u:FrameMode}(hu:(u= .returning/\rv= .nilIface)\/u= .panicking [{ v:=rv,recovered:=false }]): ∃fn,P.funcs[g]?=some fn/\fn.body.isSome=true/\CallsD P g args'.toArray u w fun e u' w'=>(∃v,e= .returned v)/\u'=WD u/\ ∃L',Inv B (ext S H.n H'.n) L' H' w'/\Fr S L H w L' H' w':=by
 unfold QW at h;split at h<;>first|(cases h;done)|skip
 rename_i fn Az;split at h<;>first|(cases h;done)|skip
 rename_i c Sr;refine⟨fn,Az,by rw[Sr];rfl,callsD_of_wpS Az Sr fun c₀ cs hc=>?_⟩;have Ni:=au hu c₀ hc cs;have fin: ∀(ex:Ex)(s1:St)(vs:List Value),(ex= .norm\/ex= .ret)->Zv P s1 fn.results.toList=some vs->s1.H=H'-> ∀a' w',UU [] B S L H w s1 a' w'->bodyPostS P fn c₀ cs (fun e u' w'=>(∃v,e= .returned v)/\u'=WD u/\ ∃L',Inv B (ext S H.n H'.n) L' H' w'/\Fr S L H w L' H' w') (Kf ex) a' ({ c₀ with mode:=WD u } ::cs) w':=fun ex s1 vs hex hr he a' w' hd=>by obtain⟨L',d1,d2,d3⟩:=hd;obtain⟨v',r1,r2⟩:=SG (P:=P) d1 d2 hr;subst he;have:a'.defers=[]/\ ∃u',({ c₀ with mode:=WD u } ::cs)= { c₀ with mode:=u' } ::cs/\ ∃v,(results fn a'.tmps).run P w'= .ok v w'/\(∃v1,Ending.returned v= .returned v1)/\u'=WD u/\ ∃L',Inv B (ext S H.n s1.H.n) L' s1.H w'/\Fr S L H w L' s1.H w':=⟨d1.defers,WD u,rfl,v',r1,⟨v',rfl⟩,rfl,L',d2,d3⟩;rcases hex with rfl|rfl<;>exact this
 split at h<;>first|(cases h;done)|skip
 ·rename_i s1 he;split at h<;>first|(cases h;done)|skip
  rename_i vs hr;exact(cN hC E6 Ni c _ _ _ he).2 S L _ w hG (L5 ha fn.ntmps) hI _ (fin _ s1 vs (.inl rfl) hr (Option.some.inj h))
 ·rename_i s1 he;split at h<;>first|(cases h;done)|skip
  rename_i vs hr;exact(cN hC E6 Ni c _ _ _ he).2 S L _ w hG (L5 ha fn.ntmps) hI _ (fin _ s1 vs (.inr rfl) hr (Option.some.inj h))
theorem Hp{c:Code}{a:Code}{ops:Array Oper}{o1:Oper}{dc:Call}{rest:Code}(h:SQ c=some (a,ops,o1,dc,rest)): ∃id ty pos after,c= .seq a (.seq (.region id ops false) rest)/\ops.toList=[o1,⟨none,.defer dc,ty,pos,after,none⟩]:=by
 unfold SQ at h;split at h<;>first|(cases h;done)|skip
 rename_i a' id ops' rest';unfold cz at h;split at h<;>first|(cases h;done)|skip
 rename_i sJ c' ty pos after FR;injection h with h;injection h with e1 h;injection h with e2 h;injection h with e3 h;injection h with e4 e5;subst e1;subst e2;subst e3;subst e4;subst e5;exact⟨id,ty,pos,after,rfl,FR⟩
theorem Cn{ex:Ex}{rv:Value}(h:Vw ex=some rv){Df:List Deferred}{S:Nat->Prop}{L:Nat->Loc}{H:AH}{w:World}{s':St}{e:Exit}{a':Act}{w':World}(hd:SC Df B S L H w ex s' e a' w'):UU Df B S L H w s' a' w'/\(((e= .normal\/e= .ret)/\rv= .nilIface)\/e= .panic [{ v:=rv,recovered:=false }]):=by
 unfold Vw at h;split at h<;>first|(cases h;done)|skip
 ·obtain rfl:=Option.some.inj h;exact⟨hd.2,.inl ⟨.inl hd.1,rfl⟩⟩
 ·obtain rfl:=Option.some.inj h;exact⟨hd.2,.inl ⟨.inr hd.1,rfl⟩⟩
 ·rename_i v;cases hp:plain v with
  |false=>rw[hp]at h;cases h
  |true=>
   rw[hp,cond_true]at h;split at h<;>first|(cases h;done)|skip
   obtain rfl:=Option.some.inj h;obtain⟨v',he,L',d1,d2,d3,d4⟩:=hd;obtain rfl:=fX hp d4;exact⟨⟨L',d1,d2,d3⟩,.inr he⟩
theorem CB(hC:CfgOk P C){ih:Lv}(E6:LvOk P C B ih):Pd P C B (X1 P C ih):=by intro f args H o H' h S L w args' hG hI Im;unfold X1 at h;cases hfa:Nat.beq f C.add with
 |true=>
  rw[hfa,cond_true]at h;obtain rfl:=Nat.eq_of_beq_eq_true hfa;split at h<;>first|(cases h;done)|skip
  rename_i x y c hn;injection h with h;injection h with h1 h2;subst h1;subst h2;obtain⟨rfl,hc⟩:=MK hn Im;obtain⟨fn,e1,e2,e3,e4,e5⟩:=hC.add;refine .inl ⟨_,_,w,rfl,?_,Good.same hI (v':= .tuple #[.int .u64 (Int.ofNat ((x+y+c)%18446744073709551616)),.int .u64 (Int.ofNat ((x+y+c)/18446744073709551616))]) (VP rfl)⟩;rw[run_callFunc_extern e1 e2 e3 e4 e5];show((add64Entry #[.int .u64 x,.int .u64 y,.int .u64 c]).run P w).andThen _=_;rw[kz x y c hc w];rfl
 |false=>rw[hfa,cond_false]at h;cases pU:Nat.beq f C.sub with
  |true=>
   rw[pU,cond_true]at h;obtain rfl:=Nat.eq_of_beq_eq_true pU;split at h<;>first|(cases h;done)|skip
   rename_i x y c hn;injection h with h;injection h with h1 h2;subst h1;subst h2;obtain⟨rfl,hc⟩:=MK hn Im;obtain⟨fn,e1,e2,e3,e4,e5⟩:=hC.sub;refine .inl ⟨_,_,w,rfl,?_,Good.same hI (v':= .tuple #[.int .u64 (Int.ofNat ((x+18446744073709551616-y-c)%18446744073709551616)),.int .u64 (cond (Nat.blt x (y+c)) 1 0)]) (VP rfl)⟩;rw[run_callFunc_extern e1 e2 e3 e4 e5];show((NV #[.int .u64 x,.int .u64 y,.int .u64 c]).run P w).andThen _=_;rw[kZ x y c hc w];rfl
  |false=>
   rw[pU,cond_false]at h;split at h<;>first|(cases h;done)|skip
   rename_i fn Az;split at h<;>first|(cases h;done)|skip
   rename_i c Sr;have hA:=L5 Im fn.ntmps;right;refine⟨IJ hC Az Sr _ w,?_⟩;unfold Si at h;split at h
   ·rename_i x a ops o1 dc rest hdf;obtain⟨id,ty,pos,after,rfl,FR⟩:=Hp hdf;unfold W6 at h;split at h<;>first|(cases h;done)|skip
    rename_i s1 ha;split at h<;>first|(cases h;done)|skip
    rename_i s2 hl;split at h<;>first|(cases h;done)|skip
    rename_i g MX hd;split at h<;>first|(cases h;done)|skip
    rename_i ex s3 hr;split at h<;>first|(cases h;done)|skip
    rename_i rv hrv;split at h<;>first|(cases h;done)|skip
    rename_i H4 hdef;split at h<;>first|(cases h;done)|skip
    rename_i vs Md;injection h with h;injection h with h1 h2;subst h1;subst h2;refine calls_of_wp_defers Az Sr (wp_seq ((E6.code a _ .norm s1 ha [] S L _ w hG hA hI _ fun e a1 w1 JX=>?_).1));obtain⟨rfl,JX⟩:=JX;obtain⟨L1,d1,d2,d3⟩:=JX;have Td:=hG.mono (S':=ext S H.n s1.H.n) (L':=L1) (fun _ h=> .inl h) d3.agree;refine wp_seq (wp_region ?_);have XG:ops.size=2:=by have:=congrArg List.length FR;simpa using this
    have dP:ops[0]?=some o1:=by rw[<-Array.getElem?_toList,FR];rfl
    have vM:ops[1]?=some ⟨none,.defer dc,ty,pos,after,none⟩:=by rw[<-Array.getElem?_toList,FR];rfl
    rw[XG];show wpOps P ops _ [0,1] a1 w1;have next: ∀(a2:Act)(w2:World),UU [] B (ext S H.n s1.H.n) L1 s1.H w1 s2 a2 w2->wpOps P ops (Exit.then (fun a' w'=>rest.wp P (bodyPostD P fn fun e w'=>CO B S L H w (.ret (Z3 vs)) H4 e w') a' w') (bodyPostD P fn fun e w'=>CO B S L H w (.ret (Z3 vs)) H4 e w')) [1] a2 w2:=fun a2 w2 Jn=>by
     have hd2':=Jn.trans hI d2 d3;obtain⟨L2,f1,f2,f3⟩:=hd2';have Fw:=hG.mono (S':=ext S H.n s2.H.n) (L':=L2) (fun _ h=> .inl h) f3.agree;rw[wpOps_cons];unfold wpOp;rw[vM];dsimp only;have Rt:Region.wanted ⟨none,.defer dc,ty,pos,after,none⟩ (yielded ops a2.tmps)=true:=rfl;rw[Rt,if_pos rfl];refine .inl ?_;obtain⟨PS,cs',UW,q1,q2⟩:=JA (P:=P) (fun x _ u hx=>Mn Fw f1 hx) hd ty;have Rs:(execOp a2.eval ⟨none,.defer dc,ty,pos,after,none⟩).run P w2= .ok (.defer { target:= .fn (.func g) cs',args:=PS++UW.toArray }) w2:=by simp only[execOp,Sem.run_bind,q1,Result.andThen_ok,Sem.run_pure]
     unfold Oper.wp;rw[Rs];have f1d:=f1.defers;show rest.wp P _ { a2 with defers:= { target:= .fn (.func g) cs',args:=PS++UW.toArray } ::a2.defers } w2;rw[f1d];have hA2:AI [{ target:= .fn (.func g) cs',args:=PS++UW.toArray }] (ext S H.n s2.H.n) L2 s2.k s2.tm { a2 with defers:=[{ target:= .fn (.func g) cs',args:=PS++UW.toArray }] } :=⟨rfl,f1.size,f1.tmp⟩;refine(E6.code rest s2 ex s3 hr _ _ L2 _ w2 Fw hA2 f2 _ fun e a3 w3 JW=>?_).1;obtain⟨JW,vP⟩:=Cn hrv JW;obtain⟨L3,g1,g2,g3⟩:=JW;rw[Lt f3.n g3.n]at g1 g2;have g30:=f3.trans hI f2 (fun _ h=> .inl h) g3;have ur:=hG.mono (S':=ext S H.n s3.H.n) (L':=L3) (fun _ h=> .inl h) g30.agree;have leave: ∀u:FrameMode,((u= .returning/\rv= .nilIface)\/u= .panicking [{ v:=rv,recovered:=false }])->Leaves P fn a3.tmps (fun e w'=>CO B S L H w (.ret (Z3 vs)) H4 e w') a3.defers u w3:=fun u hu=>by
      rw[g1.defers];have po:UX (ext S H.n s3.H.n) L3 MX (PS.toList++UW++cs'.toList):=q2.mono (fun i hi=>by
       rcases hi with hi|⟨h1,h2⟩;·exact .inl hi
       ·exact .inr ⟨h1,Nat.lt_of_lt_of_le h2 g3.n⟩) (fun i hi=>g3.agree i hi);obtain⟨fng,yB,hbg,hcd⟩:=cR hC E6 hdef ur g2 po hu;obtain⟨cg,hcg⟩: ∃cg,fng.body=some cg:=Option.isSome_iff_exists.mp hbg;have e:PS++UW.toArray++cs'=(PS.toList++UW++cs'.toList).toArray:=by apply Array.ext';simp
      refine leaves_cons (by rcases hu with⟨rfl,_⟩|rfl<;>simp) (f:=g) (args:=(PS.toList++UW++cs'.toList).toArray) (by simp only[invoke];rw[e];exact IJ hC yB hcg _ w3) (hcd.mono fun e u' w4 hx=>?_);obtain⟨⟨v4,rfl⟩,rfl,L4,i1,i2⟩:=hx;show Leaves P fn a3.tmps _ [] (settle (WD u)) w4;rw[Gn (by rcases hu with⟨h,_⟩|h;exact .inl h;exact .inr ⟨_,h⟩)];rw[Lt g30.n i2.n]at i1;have g4:=g30.trans hI g2 (fun _ h=> .inl h) i2;have hA4:AI a3.defers (ext S H.n H4.n) L4 s3.k s3.tm a3:=⟨rfl,g1.size,fun t v ht=>⟨(g1.tmp t v ht).1,(g1.tmp t v ht).2.mono (fun i hi=>by
       rcases hi with hi|⟨h1,h2⟩;·exact .inl hi
       ·exact .inr ⟨h1,Nat.lt_of_lt_of_le h2 i2.n⟩) (fun i hi=>i2.agree i hi)⟩⟩;obtain⟨v',r1,r2⟩:=SG (P:=P) (s:= { k:=s3.k,tm:=s3.tm,H:=H4 }) hA4 i1 Md;exact⟨v',r1,v',rfl,L4,i1,g4,r2⟩
     rcases vP with⟨rfl|rfl,AW⟩|rfl;·exact leave .returning (.inl ⟨rfl,AW⟩)
     ·exact leave .returning (.inl ⟨rfl,AW⟩)
     ·exact leave _ (.inr rfl)
    rw[wpOps_cons];unfold wpOp;rw[dP];dsimp only;rw[Wi]at hl;split at hl<;>first|(cases hl;done)|skip
    ·rename_i hw;rw[Uy hw (d1.guard o1),if_pos rfl];split at hl<;>first|(cases hl;done)|skip
     rename_i v1 H1 YB;split at hl<;>first|(cases hl;done)|skip
     rename_i s2' YT;rw[Sm]at hl;obtain rfl:=Option.some.inj hl;refine .inl ((X5 E6.call Td d2 (fun x _ u hx=>Mn Td d1 hx) YB).wp fun v' w2 FY=>?_);obtain⟨L2,p1,p2,p3⟩:=FY;obtain⟨e1,e2,_⟩:=Xe YT;refine next _ w2 ⟨L2,?_,by rw[e1];exact p1,by rw[e1];exact p2⟩;have:=d1.put (S':=ext (ext S H.n s1.H.n) s1.H.n H1.n) (L':=L2) (fun _ h=> .inl h) p2.agree p3 YT;rw[e1];exact this
    ·rename_i hw;rw[Uy hw (d1.guard o1),if_neg (by simp)];split at hl<;>first|(cases hl;done)|skip
     rename_i s2' YT;rw[Sm]at hl;obtain rfl:=Option.some.inj hl;obtain⟨e1,e2,_⟩:=Xe YT;have:=d1.put (S':=ext S H.n s1.H.n) (L':=L1) (fun _ h=>h) (fun _ _=>rfl) Q8 YT;refine next _ w1 ?_;have sj:=UU.refl (B:=B) (w:=w1) this (by rw[e1];exact d2);rw[e1]at sj;exact sj
   ·refine calls_of_wp Az Sr ?_;unfold Fh at h;split at h<;>first|(cases h;done)|skip
    ·rename_i s1 Fz;split at h<;>first|(cases h;done)|skip
     rename_i vs hr;injection h with h;injection h with h1 h2;subst h1;subst h2;refine(E6.code c _ _ s1 Fz [] S L _ w hG hA hI _ fun e a' w' hd=>?_).1;obtain⟨rfl,L',d1,d2,d3⟩:=hd;obtain⟨v',r1,r2⟩:=SG (P:=P) d1 d2 hr;exact⟨d1.defers,v',r1,v',rfl,L',d2,d3,r2⟩
    ·rename_i s1 Fz;split at h<;>first|(cases h;done)|skip
     rename_i vs hr;injection h with h;injection h with h1 h2;subst h1;subst h2;refine(E6.code c _ _ s1 Fz [] S L _ w hG hA hI _ fun e a' w' hd=>?_).1;obtain⟨rfl,L',d1,d2,d3⟩:=hd;obtain⟨v',r1,r2⟩:=SG (P:=P) d1 d2 hr;exact⟨d1.defers,v',r1,v',rfl,L',d2,d3,r2⟩
    ·rename_i v s1 Fz;injection h with h;injection h with h1 h2;subst h1;subst h2;refine(E6.code c _ _ s1 Fz [] S L _ w hG hA hI _ fun e a' w' hd=>?_).1;obtain⟨v',rfl,L',d1,d2,d3,d4⟩:=hd;exact⟨d1.defers,v',rfl,L',d2,d3,d4⟩
theorem nj(hC:CfgOk P C): ∀n,LvOk P C B (lv P C n)|0=>⟨(fun c s ex s' h=>by rw[Pw]at h;cases h),(fun f args H v H' h=>by rw[Pw]at h;cases h)⟩|n+1=>by have ih:=nj hC n;have hO:=CB hC ih;rw[Pu];exact⟨kW hC ih hO,hO.ret⟩
theorem IK{P:Program}{C:Cfg}{B:Nat}(hC:CfgOk P C){n:Nat}{f:FuncId}{args args':List Value}{H H':AH}{v:Value}(h:run P C n f args H=some (v,H')){fn:Func}(hf:P.funcs[f]?=some fn)(hb:fn.body.isSome=true){S:Nat->Prop}{L:Nat->Loc}{w:World}(hG:GO C S L)(hI:Inv B S L H w)(ha:UX S L args args'):Calls P f args'.toArray w fun e w'=> ∃v',e= .returned v'/\Good B S L H w v H' v' w':=by
 rcases(CB hC (nj (B:=B) hC n)).ret f args H v H' h S L w args' hG hI ha with⟨v',w',h1,h2⟩|⟨_,h2⟩
 ·exfalso;have dQ:=hC.names f fn hf hb;have DO:fn.name≠ "runtime.NumGoroutine":=by simpa using dQ
  cases Sr:fn.body with|none=>rw[Sr]at hb;cases hb|some c=>rw[show(callFunc f args'.toArray).run P w= .ok (.enter f args'.toArray) w by simp[callFunc,hf,DO,Sr]]at h1;injection h1 with h1 _;cases h1
 ·exact h2
theorem Good.below{B:Nat}{S:Nat->Prop}{L:Nat->Loc}{H H':AH}{w w':World}{v v':Value}(hI:Inv B S L H w)(h:Good B S L H w v H' v' w'):Below B w w':=by
 obtain⟨L',g1,g2,g3⟩:=h;refine⟨g2.os,g2.tape,g2.output,g2.size,fun k hk=>?_⟩;rcases g2.frame k (Nat.lt_of_lt_of_le hk hI.base)with h1|⟨i,sz,cs,h1,h2,_⟩;·exact h1
 ·have:=(hI.rw i sz cs h1).2.1;omega
#print axioms IK
end
end
end Go.Proofs.YtmkfecoeghokfaaGreatDoor.Ev
namespace Go.Proofs.YtmkfecoeghokfaaGreatDoor.Ev
open Go Go.RowKit
set_option linter.unusedVariables false
set_option linter.unusedSimpArgs false
noncomputable section
set_option maxHeartbeats 2000000
set_option maxRecDepth 20000
section
def LP(f g:FuncId->List Value->AH->Option (Value×AH)):Prop:= ∀x a H r,f x a H=some r->g x a H=some r
def ELe(f g:Code->St->Option (Ex×St)):Prop:= ∀c s r,f c s=some r->g c s=some r
section
variable {P : Program} {C : Cfg} {f g : FuncId -> List Value -> AH -> Option (Value × AH)}
theorem WM(h:LP f g){tm:Tr Value}{H:AH}{op:Op}{r:Value×AH}(he:ZF P C f tm H op=some r):ZF P C g tm H op=some r:=by
 cases op;case call c=>obtain⟨callee,VZ,gQ⟩:=c;cases callee with
  |value x=>
   simp only[ZF,Z6]at he⊢;split at he<;>first|(cases he;done)|skip
   split at he<;>first|(cases he;done)|skip
   exact h _ _ _ _ he
  |builtin b=>exact he
  |invoke x m=>
   simp only[ZF,Z6]at he⊢;split at he<;>first|(cases he;done)|skip
   split at he<;>first|(cases he;done)|skip
   exact h _ _ _ _ he
 all_goals exact he
theorem T8(h:LP f g){ops:Array Oper} : ∀(l:List Oper)(s s':St),WH P C f ops l s=some s'->WH P C g ops l s=some s'
 |[],s,s',he=>he
 |o::rest,s,s',he=>by
  rw[Wi]at he⊢;split at he<;>first|(cases he;done)|skip
  ·rename_i hw;split at he<;>first|(cases he;done)|skip
   rename_i v H YB;split at he<;>first|(cases he;done)|skip
   rename_i s1 YT;simp only[WM h YB,YT];exact T8 h rest s1 s' he
  ·rename_i hw;split at he<;>first|(cases he;done)|skip
   rename_i s1 YT;try simp only[YT]
   exact T8 h rest s1 s' he
theorem MW(h:LP f g){X:Xs}{ops:Array Oper}{i:Nat}{q:Bool}{ms:List (Nat×Nat×Nat)}{s:St}{o:Oper}{r:Value×AH×Bool}(he:Y5 X P C f ops i q ms s o=some r):Y5 X P C g ops i q ms s o=some r:=by unfold Y5 at he⊢;cases hh:Zw o.op with
 |false=>
  rw[hh,cond_false]at he;rw[cond_false];split at he<;>first|(cases he;done)|skip
  rename_i v H2 YB;simp only[WM h YB];exact he
 |true=>rw[hh,cond_true]at he;rw[cond_true];cases hf:X.fv i with
  |some vf=>rw[hf]at he;exact he
  |none=>
   rw[hf]at he;simp only at he⊢;split at he<;>first|(cases he;done)|skip
   rename_i v H2 YB;simp only[WM h YB];exact he
theorem Us(h:LP f g){X:Xs}{ops:Array Oper} : ∀(l:List Oper)(i:Nat)(q:Bool)(ms:List (Nat×Nat×Nat))(s s':St),Xo X P C f ops i q ms l s=some s'->Xo X P C g ops i q ms l s=some s'
 |[],i,q,ms,s,s',he=>by simp only[Xo]at he⊢;exact he
 |o::rest,i,q,ms,s,s',he=>by
  simp only[Xo]at he⊢;split at he<;>first|(cases he;done)|skip
  ·rename_i hw;split at he<;>first|(cases he;done)|skip
   rename_i v H q' YB;split at he<;>first|(cases he;done)|skip
   rename_i s1 YT;simp only[MW h YB,YT];exact Us h rest _ _ _ s1 s' he
  ·rename_i hw;split at he<;>first|(cases he;done)|skip
   rename_i s1 YT;try simp only[YT]
   exact Us h rest _ _ _ s1 s' he
theorem O5(h:LP f g){ops:Array Oper} : ∀(l:List Oper)(i:Nat)(fs:List (Nat×Nat×Bool))(s s':St),Vu P C f ops i fs l s=some s'->Vu P C g ops i fs l s=some s'
 |[],i,fs,s,s',he=>by simp only[Vu]at he⊢;exact he
 |o::rest,i,fs,s,s',he=>by
  simp only[Vu]at he⊢;split at he<;>first|(cases he;done)|skip
  ·rename_i hw;split at he<;>first|(cases he;done)|skip
   ·rename_i hf;split at he<;>first|(cases he;done)|skip
    rename_i v H YB;split at he<;>first|(cases he;done)|skip
    rename_i s1 YT;simp only[WM h YB,YT];exact O5 h rest _ _ s1 s' he
   ·rename_i b w hf;cases hc:Vv ((before ops).getD i 0) b w fs with
    |false=>rw[hc]at he;cases he
    |true=>
     rw[hc,cond_true]at he;rw[cond_true];split at he<;>first|(cases he;done)|skip
     rename_i v H YB;split at he<;>first|(cases he;done)|skip
     rename_i s1 YT;simp only[WM h YB,YT];exact O5 h rest _ _ s1 s' he
  ·rename_i hw;split at he<;>first|(cases he;done)|skip
   rename_i s1 YT;try simp only[YT]
   exact O5 h rest _ _ s1 s' he
theorem Rk(h:LP f g){ops:Array Oper} : ∀(l:List Oper)(s s':St),UO P C f ops l s=some s'->UO P C g ops l s=some s'
 |[],s,s',he=>he
 |o::rest,s,s',he=>by
  simp only[UO]at he⊢;split at he<;>first|(cases he;done)|skip
  ·cases hh:Zw o.op with
   |true=>rw[hh]at he;cases he
   |false=>
    rw[hh,cond_false]at he;rw[cond_false];split at he<;>first|(cases he;done)|skip
    rename_i v H YB;split at he<;>first|(cases he;done)|skip
    rename_i s1 YT;simp only[WM h YB,YT];exact Rk h rest s1 s' he
  ·split at he<;>first|(cases he;done)|skip
   rename_i s1 YT;try simp only[YT]
   exact Rk h rest s1 s' he
theorem Fb(h:LP f g){ops:Array Oper}{s s':St}(he:V4 P C f ops s=some s'):V4 P C g ops s=some s':=by unfold V4 at he⊢;cases hc:VD ops with
 |false=>rw[hc]at he;cases he
 |true=>
  rw[hc,cond_true]at he;rw[cond_true];split at he<;>first|(cases he;done)|skip
  rename_i s1 o1 oz DM dP dM;split at he<;>first|(cases he;done)|skip
  rename_i b _ Nf;split at he<;>first|(cases he;done)|skip
  rename_i sz cs Wa;split at he<;>first|(cases he;done)|skip
  rename_i v Hx Iq;split at he<;>first|(cases he;done)|skip
  rename_i s3 dC;split at he<;>first|(cases he;done)|skip
  rename_i vz H4 RG;simp only[Rk h _ _ _ DM,dP,dM,Nf,Wa,WM h Iq,Us h _ _ _ _ _ _ dC,WM h RG];exact he
theorem cP(h:LP f g){ops:Array Oper}{s s':St}(he:PE P C f ops s=some s'):PE P C g ops s=some s':=by unfold PE at he⊢;cases hc:MF ops with
 |false=>rw[hc]at he;cases he
 |true=>
  rw[hc,cond_true]at he;rw[cond_true];split at he<;>first|(cases he;done)|skip
  rename_i oz dM;split at he<;>first|(cases he;done)|skip
  rename_i b _ Nf;split at he<;>first|(cases he;done)|skip
  rename_i sz cs Wa;split at he<;>first|(cases he;done)|skip
  rename_i s3 dC;split at he<;>first|(cases he;done)|skip
  rename_i vz H4 RG;simp only[dM,Nf,Wa,Us h _ _ _ _ _ _ dC,WM h RG];exact he
theorem Dr(h:LP f g){ops:Array Oper}{s s':St}(he:V9 P C f ops s=some s'):V9 P C g ops s=some s':=by unfold V9 at he⊢;cases hs:VD ops with|true=>rw[hs,cond_true]at he;rw[cond_true];exact Fb h he|false=>rw[hs,cond_false]at he;rw[cond_false];exact cP h he
theorem SO(h:LP f g){ops:Array Oper}{draw:Bool}{s s':St}(he:YI P C f ops draw s=some s'):YI P C g ops draw s=some s':=by unfold YI at he⊢;cases hb:(draw&&Ws ops)with
 |true=>rw[hb,cond_true]at he;rw[cond_true];cases hr:VC ops with|false=>rw[hr]at he;cases he|true=>rw[hr,cond_true]at he;rw[cond_true];exact O5 h _ _ _ _ _ he
 |false=>rw[hb,cond_false]at he;rw[cond_false];cases hs:(draw&&isSplit C ops)with
  |true=>rw[hs,cond_true]at he;rw[cond_true];exact Dr h he
  |false=>rw[hs,cond_false]at he;rw[cond_false];unfold WG at he⊢;cases draw with
   |false=>rw[cond_false]at he⊢;exact T8 h _ _ _ he
   |true=>rw[cond_true]at he⊢;cases hr:VC ops with|false=>rw[hr]at he;cases he|true=>rw[hr,cond_true]at he;rw[cond_true];exact Us h _ _ _ _ _ _ he
theorem Ol{ops:Array Oper}{s:St} :YI P C f ops false s=WH P C f ops ops.toList s:=by unfold YI WG;simp
end
structure LLe (u v : Lv) : Prop where
  code : ELe u.code v.code
  call : LP u.call v.call
section
variable {P : Program} {C : Cfg} {u v : Lv}
theorem cO(h:LLe u v){rv:Value} : ∀(c:Code)(s:St)(r:Ex×St),Fa P C u rv c s=some r->Fa P C v rv c s=some r:=by intro c;induction c with
 |seq x y wZ wY=>intro s r he;simp only[Fa]at he⊢;cases hf:Rm x with
  |true=>
   rw[hf,cond_true]at he;rw[cond_true];split at he<;>first|(cases he;done)|skip
   rename_i s1 h1;rw[wZ _ _ h1];simp only;unfold Nv at he⊢;split at he<;>first|(cases he;done)|skip
   ·rename_i s2 e;rw[h.code _ _ _ e];exact he
   ·rename_i s2 e;rw[h.code _ _ _ e];exact he
  |false=>
   rw[hf,cond_false]at he;rw[cond_false];split at he<;>first|(cases he;done)|skip
   rename_i s1 h1;rw[h.code _ _ _ h1];exact wY _ _ he
 |region id ops draw=>intro s r he;simp only[Fa]at he⊢;cases ho:SH ops with
  |false=>rw[ho]at he;cases he
  |true=>
   rw[ho,cond_true]at he;rw[cond_true];split at he<;>first|(cases he;done)|skip
   rename_i s1 h1;rw[SO h.call h1];exact he
 |_=>intro s r he;cases he
theorem cS(h:LLe u v){g:FuncId}{args:List Value}{rv:Value}{H H':AH}(he:QW P C u g args rv H=some H'):QW P C v g args rv H=some H':=by
 unfold QW at he⊢;split at he<;>first|(cases he;done)|skip
 split at he<;>first|(cases he;done)|skip
 split at he<;>first|(cases he;done)|skip
 ·rename_i hc;rw[cO h _ _ _ hc];exact he
 ·rename_i hc;rw[cO h _ _ _ hc];exact he
theorem Jx(h:LLe u v){fn:Func}{a:Code}{ops:Array Oper}{o1:Oper}{c:Call}{rest:Code}{s0:St}{r:Out×AH}(he:W6 P C u fn a ops o1 c rest s0=some r):W6 P C v fn a ops o1 c rest s0=some r:=by
 unfold W6 at he⊢;split at he<;>first|(cases he;done)|skip
 rename_i h1;rw[h.code _ _ _ h1];simp only;split at he<;>first|(cases he;done)|skip
 rename_i h2;rw[T8 h.call _ _ _ h2];simp only;split at he<;>first|(cases he;done)|skip
 rename_i h3;split at he<;>first|(cases he;done)|skip
 rename_i h4;rw[h.code _ _ _ h4];simp only;split at he<;>first|(cases he;done)|skip
 rename_i h5;split at he<;>first|(cases he;done)|skip
 rename_i h6;rw[cS h h6];exact he
theorem Ai(h:LLe u v){fn:Func}{c:Code}{s0:St}{r:Out×AH}(he:Si P C u fn c s0=some r):Si P C v fn c s0=some r:=by
 unfold Si at he⊢;split at he;·exact Jx h he
 ·cases hc:u.code c s0 with|none=>rw[hc]at he;cases he|some x=>rw[hc]at he;rw[h.code _ _ _ hc];exact he
theorem RN(h:LLe u v)(x:FuncId)(a:List Value)(H:AH)(r:Out×AH)(he:X1 P C u x a H=some r):X1 P C v x a H=some r:=by unfold X1 at he⊢;cases h1:Nat.beq x C.add with
 |true=>rw[h1,cond_true]at he;rw[cond_true];exact he
 |false=>rw[h1,cond_false]at he;rw[cond_false];cases h2:Nat.beq x C.sub with
  |true=>rw[h2,cond_true]at he;rw[cond_true];exact he
  |false=>
   rw[h2,cond_false]at he;rw[cond_false];split at he<;>first|(cases he;done)|skip
   split at he<;>first|(cases he;done)|skip
   exact Ai h he
theorem Ur(h:LLe u v):LP (YG P C u) (YG P C v):=fun x a H r he=>by obtain⟨w,H'⟩:=r;have:=RN h _ _ _ _ (R3 he);unfold YG;rw[this];rfl
theorem Dq(h:LLe u v):LP (Xy P C u) (Xy P C v):=fun x a H r he=>by obtain⟨w,H'⟩:=r;have:=RN h _ _ _ _ (R0 he);unfold Xy;rw[this];rfl
theorem ko(h:LLe u v){x:FuncId}{a:List Value}{H:AH}{r:Value×AH}(he:YG P C u x a H=some r):Xy P C v x a H=none:=by obtain⟨w,H'⟩:=r;have:=RN h _ _ _ _ (R3 he);unfold Xy;rw[this];rfl
theorem kg(h:LLe u v){x:FuncId}{a:List Value}{H:AH}{r:Value×AH}(he:Xy P C u x a H=some r):YG P C v x a H=none:=by obtain⟨w,H'⟩:=r;have:=RN h _ _ _ _ (R0 he);unfold YG;rw[this];rfl
theorem O1{f:FuncId->List Value->AH->Option (Value×AH)}{tm:Tr Value}{H:AH}{c:Call}{g:FuncId}{args:List Value}(h:ZL C tm c=some (g,args)):Z6 P C f tm H c=f g args H:=by
 obtain⟨callee,VZ,gQ⟩:=c;unfold ZL at h;cases callee<;>simp only at h<;>first|(cases h;done)|skip
 split at h<;>first|(cases h;done)|skip
 rename_i fv h1;split at h<;>first|(cases h;done)|skip
 rename_i h3 h4;injection h with h;injection h with e1 e2;subst e1;subst e2;simp only[Z6,h1,h3,h4]
theorem Oy(h:LLe u v){tm:Tr Value}{H:AH}{op:Op}{r:Value×AH}(he:ZF P C (YG P C u) tm H op=some r):Yg C (Xy P C v) tm H op=none:=by
 cases op;case call c=>simp only[Yg];cases hd:ZL C tm c with|none=>rfl|some x=>obtain⟨g,args⟩:=x;simp only[ZF]at he;rw[O1 hd]at he;exact ko h he
 case panic x=>cases he
 all_goals rfl
theorem Ak(h:LLe u v){tm:Tr Value}{H:AH}{op:Op}{r:Value×AH}(he:Yg C (Xy P C u) tm H op=some r):ZF P C (YG P C v) tm H op=none:=by
 cases op;case call c=>simp only[Yg]at he;cases hd:ZL C tm c with|none=>rw[hd]at he;cases he|some x=>obtain⟨g,args⟩:=x;rw[hd]at he;simp only[ZF];rw[O1 hd];exact kg h he
 case panic x=>rfl
 all_goals cases he
theorem fY(h:LLe u v){tm:Tr Value}{H:AH}{op:Op}{r:Value×AH}(he:Yg C (Xy P C u) tm H op=some r):Yg C (Xy P C v) tm H op=some r:=by
 cases op;case call c=>simp only[Yg]at he⊢;cases hd:ZL C tm c with|none=>rw[hd]at he;cases he|some x=>rw[hd]at he;exact Dq h _ _ _ _ he
 case panic x=>exact he
 all_goals cases he
theorem QV(h:LLe u v){ops:Array Oper} : ∀(l:List Oper)(s:St)(r:Ex×St),So P C (YG P C u) (Xy P C u) ops l s=some r->So P C (YG P C v) (Xy P C v) ops l s=some r/\WH P C (YG P C v) ops l s=none
 |[],s,r,he=>by cases he
 |o::rest,s,r,he=>by
  rw[Wi];simp only[So]at he⊢;split at he<;>first|(cases he;done)|skip
  ·rename_i hw;split at he;·rename_i v1 H1 hp;rw[fY h hp];simp only[Ak h hp];exact⟨he,trivial⟩
   ·rename_i hp;split at he<;>first|(cases he;done)|skip
    rename_i v1 H1 YB;split at he<;>first|(cases he;done)|skip
    rename_i s1 YT;rw[Oy h YB];simp only[WM (Ur h) YB,YT];exact QV h rest s1 r he
  ·rename_i hw;split at he<;>first|(cases he;done)|skip
   rename_i s1 YT;try simp only[YT]
   exact QV h rest s1 r he
theorem Ia(h:LLe u v):ELe (XO P C u) (XO P C v):=by
 intro c s r he;cases c<;>simp only[XO]at he⊢ <;>first|exact he|skip
 ·rename_i id ops draw;split at he;·rename_i s1 hr;rw[SO (Ur h) hr];exact he
  ·cases draw with|true=>cases he|false=>rw[cond_false]at he;obtain⟨h1,h2⟩:=QV h _ _ _ he;rw[Ol,h2];exact h1
 ·split at he;·rename_i s1 hr;rw[h.code _ _ _ hr];exact h.code _ _ _ he
  ·rename_i hn;rw[h.code _ _ _ he];split;·rename_i s1 e;exact absurd (he.trans e) (by intro e';exact hn s1 e')
   ·rfl
 ·split at he<;>first|(cases he;done)|skip
  exact h.code _ _ _ he
 ·split at he;·rename_i j s1 hr;rw[h.code _ _ _ hr];exact he
  ·rename_i hn;rw[h.code _ _ _ he];split;·rename_i j s1 e;exact absurd (he.trans e) (by intro e';exact hn j s1 e')
   ·rfl
 ·split at he;·rename_i s1 hr;rw[h.code _ _ _ hr];exact h.code _ _ _ he
  ·rename_i hn;rw[h.code _ _ _ he];split;·rename_i s1 e;exact absurd (he.trans e) (by intro e';exact hn s1 e')
   ·rfl
end
theorem Qg{P:Program}{C:Cfg} : ∀{n m:Nat},n<=m->LLe (lv P C n) (lv P C m)|0,m,_=>⟨(fun c s r h=>by rw[Pw]at h;cases h),(fun x a H r h=>by rw[Pw]at h;cases h)⟩|n+1,0,h=>by omega|n+1,m+1,h=>by have ih:=Qg (P:=P) (C:=C) (show n<=m by omega);rw[Pu,Pu];exact⟨Ia ih,Ur ih⟩
theorem mj{P:Program}{C:Cfg}{n m:Nat}(h:n<=m):ELe (ev P C n) (ev P C m):=(Qg h).code
open Classical in def EB(P:Program)(C:Cfg)(c:Code)(s:St):Option (Ex×St):=if h: ∃n r,ev P C n c s=some r then some (Classical.choose (Classical.choose_spec h))else none
open Classical in def ZU(P:Program)(C:Cfg)(f:FuncId)(args:List Value)(H:AH):Option (Value×AH):=if h: ∃n r,(lv P C n).call f args H=some r then some (Classical.choose (Classical.choose_spec h))else none
theorem cQ{P:Program}{C:Cfg}{n:Nat}{c:Code}{s:St}{r:Ex×St}(h:ev P C n c s=some r):EB P C c s=some r:=by have hx: ∃n r,ev P C n c s=some r:=⟨n,r,h⟩;unfold EB;rw[dif_pos hx];have h2:=Classical.choose_spec (Classical.choose_spec hx);have a:=mj (Nat.le_max_left n (Classical.choose hx)) c s r h;have b:=mj (Nat.le_max_right n (Classical.choose hx)) c s _ h2;rw[a]at b;exact b.symm
theorem G8{P:Program}{C:Cfg}{c:Code}{s:St}{r:Ex×St}(h:EB P C c s=some r): ∃n,ev P C n c s=some r:=by
 unfold EB at h;split at h;·rename_i hx;obtain rfl:=Option.some.inj h;exact⟨_,Classical.choose_spec (Classical.choose_spec hx)⟩
 ·cases h
theorem GH{P:Program}{C:Cfg}{n:Nat}{f:FuncId}{args:List Value}{H:AH}{r:Value×AH}(h:(lv P C n).call f args H=some r):ZU P C f args H=some r:=by have hx: ∃n r,(lv P C n).call f args H=some r:=⟨n,r,h⟩;unfold ZU;rw[dif_pos hx];have h2:=Classical.choose_spec (Classical.choose_spec hx);have a:=(Qg (Nat.le_max_left n (Classical.choose hx))).call _ _ _ r h;have b:=(Qg (Nat.le_max_right n (Classical.choose hx))).call _ _ _ _ h2;rw[a]at b;exact b.symm
theorem OA{P:Program}{C:Cfg}{f:FuncId}{args:List Value}{H:AH}{r:Value×AH}(h:ZU P C f args H=some r): ∃n,(lv P C n).call f args H=some r:=by
 unfold ZU at h;split at h;·rename_i hx;obtain rfl:=Option.some.inj h;exact⟨_,Classical.choose_spec (Classical.choose_spec hx)⟩
 ·cases h
def SY(P:Program)(C:Cfg):Lv:=⟨EB P C,ZU P C⟩
theorem fa{P:Program}{C:Cfg}(n:Nat):LLe (lv P C n) (SY P C):=⟨fun c s r h=>cQ h,fun x a H r h=>GH h⟩
section
variable {P : Program} {C : Cfg} {F : FuncId -> List Value -> AH -> Option (Value × AH)} {G : Nat -> FuncId -> List Value -> AH -> Option (Value × AH)}
theorem Tu(Wq: ∀x a H r,F x a H=some r-> ∃n,G n x a H=some r)(Xa: ∀{n m:Nat},n<=m->LP (G n) (G m)){tm:Tr Value}{H:AH}{op:Op}{r:Value×AH}(he:ZF P C (F) tm H op=some r): ∃n,ZF P C (G n) tm H op=some r:=by
 cases op;case call c=>obtain⟨callee,VZ,gQ⟩:=c;cases callee with
  |value x=>
   simp only[ZF,Z6]at he⊢;split at he<;>first|(cases he;done)|skip
   split at he<;>first|(cases he;done)|skip
   obtain⟨n,hn⟩:=Wq _ _ _ _ he;exact⟨n,hn⟩
  |builtin b=>exact⟨0,he⟩
  |invoke x m=>
   simp only[ZF,Z6]at he⊢;split at he<;>first|(cases he;done)|skip
   split at he<;>first|(cases he;done)|skip
   obtain⟨n,hn⟩:=Wq _ _ _ _ he;exact⟨n,hn⟩
 all_goals exact⟨0,he⟩
theorem RM(Wq: ∀x a H r,F x a H=some r-> ∃n,G n x a H=some r)(Xa: ∀{n m:Nat},n<=m->LP (G n) (G m)){ops:Array Oper} : ∀(l:List Oper)(s s':St),WH P C (F) ops l s=some s'-> ∃n,WH P C (G n) ops l s=some s'
 |[],s,s',he=>⟨0,he⟩
 |o::rest,s,s',he=>by
  rw[Wi]at he;split at he<;>first|(cases he;done)|skip
  ·rename_i hw;split at he<;>first|(cases he;done)|skip
   rename_i v H YB;split at he<;>first|(cases he;done)|skip
   rename_i s1 YT;obtain⟨n1,h1⟩:=Tu Wq Xa YB;obtain⟨n2,h2⟩:=RM Wq Xa rest s1 s' he;refine⟨max n1 n2,?_⟩;rw[Wi,hw];simp only[WM (Xa (Nat.le_max_left n1 n2)) h1,YT];exact T8 (Xa (Nat.le_max_right n1 n2)) _ _ _ h2
  ·rename_i hw;split at he<;>first|(cases he;done)|skip
   rename_i s1 YT;obtain⟨n2,h2⟩:=RM Wq Xa rest s1 s' he;refine⟨n2,?_⟩;rw[Wi,hw];try simp only[YT]
   exact h2
theorem Hr(Wq: ∀x a H r,F x a H=some r-> ∃n,G n x a H=some r)(Xa: ∀{n m:Nat},n<=m->LP (G n) (G m)){X:Xs}{ops:Array Oper}{i:Nat}{q:Bool}{ms:List (Nat×Nat×Nat)}{s:St}{o:Oper}{r:Value×AH×Bool}(he:Y5 X P C (F) ops i q ms s o=some r): ∃n,Y5 X P C (G n) ops i q ms s o=some r:=by unfold Y5 at he⊢;cases hh:Zw o.op with
 |false=>
  rw[hh,cond_false]at he;simp only[cond_false];split at he<;>first|(cases he;done)|skip
  rename_i v H2 YB;obtain⟨n,hn⟩:=Tu Wq Xa YB;exact⟨n,by simp only[hn];exact he⟩
 |true=>rw[hh,cond_true]at he;simp only[cond_true];cases hf:X.fv i with
  |some vf=>rw[hf]at he;exact⟨0,he⟩
  |none=>
   rw[hf]at he;simp only at he;split at he<;>first|(cases he;done)|skip
   rename_i v H2 YB;obtain⟨n,hn⟩:=Tu Wq Xa YB;exact⟨n,by simp only[hn];exact he⟩
theorem Sj(Wq: ∀x a H r,F x a H=some r-> ∃n,G n x a H=some r)(Xa: ∀{n m:Nat},n<=m->LP (G n) (G m)){X:Xs}{ops:Array Oper} : ∀(l:List Oper)(i:Nat)(q:Bool)(ms:List (Nat×Nat×Nat))(s s':St),Xo X P C (F) ops i q ms l s=some s'-> ∃n,Xo X P C (G n) ops i q ms l s=some s'
 |[],i,q,ms,s,s',he=>⟨0,by simp only[Xo]at he⊢;exact he⟩
 |o::rest,i,q,ms,s,s',he=>by
  simp only[Xo]at he⊢;split at he<;>first|(cases he;done)|skip
  ·rename_i hw;split at he<;>first|(cases he;done)|skip
   rename_i v H q' YB;split at he<;>first|(cases he;done)|skip
   rename_i s1 YT;obtain⟨n1,h1⟩:=Hr Wq Xa YB;obtain⟨n2,h2⟩:=Sj Wq Xa rest _ _ _ s1 s' he;refine⟨max n1 n2,?_⟩;simp only[MW (Xa (Nat.le_max_left n1 n2)) h1,YT];exact Us (Xa (Nat.le_max_right n1 n2)) _ _ _ _ _ _ h2
  ·rename_i hw;split at he<;>first|(cases he;done)|skip
   rename_i s1 YT;obtain⟨n2,h2⟩:=Sj Wq Xa rest _ _ _ s1 s' he;refine⟨n2,?_⟩;try simp only[YT]
   exact h2
theorem RL{f g:FuncId->List Value->AH->Option (Value×AH)}{ops:Array Oper} : ∀(l:List Oper)(i:Nat)(fs:List (Nat×Nat×Bool))(s s':St),Vu P C f ops i fs l s=some s'->Vu P C g ops i fs l s=some s'
 |[],i,fs,s,s',he=>by simp only[Vu]at he⊢;exact he
 |o::rest,i,fs,s,s',he=>by
  have JU: ∀tm H r x,XN C tm o.op=some x->ZF P C f tm H o.op=some r->ZF P C g tm H o.op=some r:=fun tm H r x hm YB=>by
   cases e:o.op;case call c=>rw[e]at hm YB;obtain⟨callee,VZ,gQ⟩:=c;cases callee with|value x=>simp[XN,Zw]at hm|builtin b=>exact YB|invoke x m=>simp[XN,Zw]at hm
   all_goals(rw[e]at YB;exact YB)
  simp only[Vu]at he⊢;split at he<;>first|(cases he;done)|skip
  ·rename_i hw;split at he<;>first|(cases he;done)|skip
   ·rename_i hf;split at he<;>first|(cases he;done)|skip
    rename_i v H YB;split at he<;>first|(cases he;done)|skip
    rename_i s1 YT;simp only[JU _ _ _ _ hf YB,YT];exact RL rest _ _ s1 s' he
   ·rename_i b w hf;cases hc:Vv ((before ops).getD i 0) b w fs with
    |false=>rw[hc]at he;cases he
    |true=>
     rw[hc,cond_true]at he;rw[cond_true];split at he<;>first|(cases he;done)|skip
     rename_i v H YB;split at he<;>first|(cases he;done)|skip
     rename_i s1 YT;simp only[JU _ _ _ _ hf YB,YT];exact RL rest _ _ s1 s' he
  ·rename_i hw;split at he<;>first|(cases he;done)|skip
   rename_i s1 YT;try simp only[YT]
   exact RL rest _ _ s1 s' he
theorem Om(Wq: ∀x a H r,F x a H=some r-> ∃n,G n x a H=some r)(Xa: ∀{n m:Nat},n<=m->LP (G n) (G m)){ops:Array Oper} : ∀(l:List Oper)(s s':St),UO P C (F) ops l s=some s'-> ∃n,UO P C (G n) ops l s=some s'
 |[],s,s',he=>⟨0,he⟩
 |o::rest,s,s',he=>by
  simp only[UO]at he⊢;split at he<;>first|(cases he;done)|skip
  ·rename_i hw;cases hh:Zw o.op with
   |true=>rw[hh]at he;cases he
   |false=>
    rw[hh,cond_false]at he;split at he<;>first|(cases he;done)|skip
    rename_i v H YB;split at he<;>first|(cases he;done)|skip
    rename_i s1 YT;obtain⟨n1,h1⟩:=Tu Wq Xa YB;obtain⟨n2,h2⟩:=Om Wq Xa rest s1 s' he;refine⟨max n1 n2,?_⟩;simp only[cond_false,WM (Xa (Nat.le_max_left n1 n2)) h1,YT];exact Rk (Xa (Nat.le_max_right n1 n2)) _ _ _ h2
  ·rename_i hw;split at he<;>first|(cases he;done)|skip
   rename_i s1 YT;obtain⟨n2,h2⟩:=Om Wq Xa rest s1 s' he;refine⟨n2,?_⟩;try simp only[YT]
   exact h2
theorem Ht(Wq: ∀x a H r,F x a H=some r-> ∃n,G n x a H=some r)(Xa: ∀{n m:Nat},n<=m->LP (G n) (G m)){ops:Array Oper}{s s':St}(he:V4 P C (F) ops s=some s'): ∃n,V4 P C (G n) ops s=some s':=by unfold V4 at he⊢;cases hc:VD ops with
 |false=>rw[hc]at he;cases he
 |true=>
  rw[hc,cond_true]at he;simp only[cond_true];split at he<;>first|(cases he;done)|skip
  rename_i s1 o1 oz DM dP dM;split at he<;>first|(cases he;done)|skip
  rename_i b _ Nf;split at he<;>first|(cases he;done)|skip
  rename_i sz cs Wa;split at he<;>first|(cases he;done)|skip
  rename_i v Hx Iq;split at he<;>first|(cases he;done)|skip
  rename_i s3 dC;split at he<;>first|(cases he;done)|skip
  rename_i vz H4 RG;obtain⟨n1,h1⟩:=Om Wq Xa _ _ _ DM;obtain⟨n2,h2⟩:=Tu Wq Xa Iq;obtain⟨n3,h3⟩:=Sj Wq Xa _ _ _ _ _ _ dC;obtain⟨n4,h4⟩:=Tu Wq Xa RG;have m1:n1<=n1+n2+n3+n4:=by omega
  have m2:n2<=n1+n2+n3+n4:=by omega
  have m3:n3<=n1+n2+n3+n4:=by omega
  have m4:n4<=n1+n2+n3+n4:=by omega
  refine⟨n1+n2+n3+n4,?_⟩;simp only[Rk (Xa m1) _ _ _ h1,dP,dM,Nf,Wa,WM (Xa m2) h2,Us (Xa m3) _ _ _ _ _ _ h3,WM (Xa m4) h4];exact he
theorem Al(Wq: ∀x a H r,F x a H=some r-> ∃n,G n x a H=some r)(Xa: ∀{n m:Nat},n<=m->LP (G n) (G m)){ops:Array Oper}{s s':St}(he:PE P C (F) ops s=some s'): ∃n,PE P C (G n) ops s=some s':=by unfold PE at he⊢;cases hc:MF ops with
 |false=>rw[hc]at he;cases he
 |true=>
  rw[hc,cond_true]at he;simp only[cond_true];split at he<;>first|(cases he;done)|skip
  rename_i oz dM;split at he<;>first|(cases he;done)|skip
  rename_i b _ Nf;split at he<;>first|(cases he;done)|skip
  rename_i sz cs Wa;split at he<;>first|(cases he;done)|skip
  rename_i s3 dC;split at he<;>first|(cases he;done)|skip
  rename_i vz H4 RG;obtain⟨n3,h3⟩:=Sj Wq Xa _ _ _ _ _ _ dC;obtain⟨n4,h4⟩:=Tu Wq Xa RG;have m3:n3<=n3+n4:=by omega
  have m4:n4<=n3+n4:=by omega
  refine⟨n3+n4,?_⟩;simp only[dM,Nf,Wa,Us (Xa m3) _ _ _ _ _ _ h3,WM (Xa m4) h4];exact he
theorem Fc(Wq: ∀x a H r,F x a H=some r-> ∃n,G n x a H=some r)(Xa: ∀{n m:Nat},n<=m->LP (G n) (G m)){ops:Array Oper}{s s':St}(he:V9 P C (F) ops s=some s'): ∃n,V9 P C (G n) ops s=some s':=by unfold V9 at he⊢;cases hs:VD ops with|true=>rw[hs,cond_true]at he;simp only[cond_true];exact Ht Wq Xa he|false=>rw[hs,cond_false]at he;simp only[cond_false];exact Al Wq Xa he
theorem O6(Wq: ∀x a H r,F x a H=some r-> ∃n,G n x a H=some r)(Xa: ∀{n m:Nat},n<=m->LP (G n) (G m)){ops:Array Oper}{draw:Bool}{s s':St}(he:YI P C (F) ops draw s=some s'): ∃n,YI P C (G n) ops draw s=some s':=by unfold YI at he⊢;cases hb:(draw&&Ws ops)with
 |true=>rw[hb,cond_true]at he;simp only[cond_true];cases hr:VC ops with|false=>rw[hr]at he;cases he|true=>rw[hr,cond_true]at he;exact⟨0,by rw[cond_true];exact RL _ _ _ _ _ he⟩
 |false=>rw[hb,cond_false]at he;simp only[cond_false];cases hs:(draw&&isSplit C ops)with
  |true=>rw[hs,cond_true]at he;simp only[cond_true];exact Fc Wq Xa he
  |false=>rw[hs,cond_false]at he;simp only[cond_false];unfold WG at he⊢;cases draw with
   |false=>rw[cond_false]at he;simp only[cond_false];exact RM Wq Xa _ _ _ he
   |true=>rw[cond_true]at he;simp only[cond_true];cases hr:VC ops with|false=>rw[hr]at he;cases he|true=>rw[hr,cond_true]at he;simp only[cond_true];exact Sj Wq Xa _ _ _ _ _ _ he
end
section
variable {P : Program} {C : Cfg}
theorem Wo{c:Code}{s:St}{r:Ex×St}(h:EB P C c s=some r): ∃n,∀m,n<=m->(lv P C m).code c s=some r:=by obtain⟨n,hn⟩:=G8 h;exact⟨n,fun m hm=>(Qg hm).code _ _ _ hn⟩
theorem RD{n m:Nat}(h:n<=m):LP (lv P C n).call (lv P C m).call:=(Qg h).call
theorem km{ops:Array Oper}{draw:Bool}{s s':St}(h:YI P C (ZU P C) ops draw s=some s'): ∃n,∀m,n<=m->YI P C (lv P C m).call ops draw s=some s':=by obtain⟨n,hn⟩:=O6 (F:=ZU P C) (G:=fun n=>(lv P C n).call) (fun x a H r h=>OA h) (fun h=>RD h) h;exact⟨n,fun m hm=>SO (RD hm) hn⟩
theorem eM{ops:Array Oper}{l:List Oper}{s s':St}(h:WH P C (ZU P C) ops l s=some s'): ∃n,∀m,n<=m->WH P C (lv P C m).call ops l s=some s':=by obtain⟨n,hn⟩:=RM (F:=ZU P C) (G:=fun n=>(lv P C n).call) (fun x a H r h=>OA h) (fun h=>RD h) _ _ _ h;exact⟨n,fun m hm=>T8 (RD hm) _ _ _ hn⟩
theorem C5{rv:Value} : ∀(c:Code)(s:St)(r:Ex×St),Fa P C (SY P C) rv c s=some r-> ∃n,∀m,n<=m->Fa P C (lv P C m) rv c s=some r:=by intro c;induction c with
 |seq x y wZ wY=>intro s r he;simp only[Fa]at he⊢;cases hf:Rm x with
  |true=>
   rw[hf,cond_true]at he;simp only[cond_true];split at he<;>first|(cases he;done)|skip
   rename_i s1 h1;obtain⟨n1,e1⟩:=wZ _ _ h1;unfold Nv at he⊢;split at he<;>first|(cases he;done)|skip
   ·rename_i s2 e;obtain⟨n2,e2⟩:=Wo e;refine⟨max n1 n2,fun m hm=>?_⟩;rw[e1 m (by omega)];simp only[e2 m (by omega)];exact he
   ·rename_i s2 e;obtain⟨n2,e2⟩:=Wo e;refine⟨max n1 n2,fun m hm=>?_⟩;rw[e1 m (by omega)];simp only[e2 m (by omega)];exact he
  |false=>
   rw[hf,cond_false]at he;simp only[cond_false];split at he<;>first|(cases he;done)|skip
   rename_i s1 h1;obtain⟨n1,e1⟩:=Wo h1;obtain⟨n2,e2⟩:=wY _ _ he;refine⟨max n1 n2,fun m hm=>?_⟩;rw[e1 m (by omega)];exact e2 m (by omega)
 |region id ops draw=>intro s r he;simp only[Fa]at he⊢;cases ho:SH ops with
  |false=>rw[ho]at he;cases he
  |true=>
   rw[ho,cond_true]at he;simp only[cond_true];split at he<;>first|(cases he;done)|skip
   rename_i s1 h1;obtain⟨n,hn⟩:=km h1;exact⟨n,fun m hm=>by rw[hn m hm];exact he⟩
 |_=>intro s r he;cases he
theorem Aj{g:FuncId}{args:List Value}{rv:Value}{H H':AH}(he:QW P C (SY P C) g args rv H=some H'): ∃n,∀m,n<=m->QW P C (lv P C m) g args rv H=some H':=by
 unfold QW at he⊢;split at he<;>first|(cases he;done)|skip
 rename_i hf;split at he<;>first|(cases he;done)|skip
 rename_i hb;split at he<;>first|(cases he;done)|skip
 ·rename_i hc;obtain⟨n,hn⟩:=C5 _ _ _ hc;exact⟨n,fun m hm=>by simp only[hf,hb,hn m hm];exact he⟩
 ·rename_i hc;obtain⟨n,hn⟩:=C5 _ _ _ hc;exact⟨n,fun m hm=>by simp only[hf,hb,hn m hm];exact he⟩
theorem Kb{fn:Func}{a:Code}{ops:Array Oper}{o1:Oper}{c:Call}{rest:Code}{s0:St}{r:Out×AH}(he:W6 P C (SY P C) fn a ops o1 c rest s0=some r): ∃n,∀m,n<=m->W6 P C (lv P C m) fn a ops o1 c rest s0=some r:=by
 unfold W6 at he⊢;split at he<;>first|(cases he;done)|skip
 rename_i h1;split at he<;>first|(cases he;done)|skip
 rename_i h2;split at he<;>first|(cases he;done)|skip
 rename_i h3;split at he<;>first|(cases he;done)|skip
 rename_i h4;split at he<;>first|(cases he;done)|skip
 rename_i h5;split at he<;>first|(cases he;done)|skip
 rename_i h6;obtain⟨n1,e1⟩:=Wo h1;obtain⟨n2,e2⟩:=eM h2;obtain⟨n3,e3⟩:=Wo h4;obtain⟨n4,e4⟩:=Aj h6;refine⟨max (max n1 n2) (max n3 n4),fun m hm=>?_⟩;simp only[e1 m (by omega),e2 m (by omega),h3,e3 m (by omega),h5,e4 m (by omega)];exact he
theorem Dp{fn:Func}{c:Code}{s0:St}{r:Out×AH}(he:Si P C (SY P C) fn c s0=some r): ∃n,∀m,n<=m->Si P C (lv P C m) fn c s0=some r:=by
 unfold Si at he⊢;split at he;·rename_i hd;obtain⟨n,hn⟩:=Kb he;exact⟨n,fun m hm=>by simp only[hn m hm]⟩
 ·rename_i hd;cases hc:(SY P C).code c s0 with|none=>rw[hc]at he;cases he|some x=>obtain⟨n,hn⟩:=Wo hc;rw[hc]at he;exact⟨n,fun m hm=>by simp only[hn m hm];exact he⟩
theorem JE{x:FuncId}{a:List Value}{H:AH}{r:Out×AH}(he:X1 P C (SY P C) x a H=some r): ∃n,∀m,n<=m->X1 P C (lv P C m) x a H=some r:=by unfold X1 at he⊢;cases h1:Nat.beq x C.add with
 |true=>rw[h1,cond_true]at he;exact⟨0,fun m _=>by rw[cond_true];exact he⟩
 |false=>rw[h1,cond_false]at he;simp only[cond_false];cases h2:Nat.beq x C.sub with
  |true=>rw[h2,cond_true]at he;exact⟨0,fun m _=>by rw[cond_true];exact he⟩
  |false=>
   rw[h2,cond_false]at he;simp only[cond_false];split at he<;>first|(cases he;done)|skip
   rename_i hf;split at he<;>first|(cases he;done)|skip
   rename_i hb;obtain⟨n,hn⟩:=Dp he;exact⟨n,fun m hm=>hn m hm⟩
theorem XF:ZU P C=YG P C (SY P C):=by funext x a H;cases h:ZU P C x a H with
 |some r=>obtain⟨n,hn⟩:=OA h;cases n with|zero=>rw[Pw]at hn;cases hn|succ n=>rw[Pu]at hn;exact(Ur (fa n) _ _ _ _ hn).symm
 |none=>cases h2:YG P C (SY P C) x a H with
  |none=>rfl
  |some r=>
   obtain⟨v,H'⟩:=r;obtain⟨n,hn⟩:=JE (R3 h2);have:(lv P C (n+1)).call x a H=some (v,H'):=by rw[Pu];show YG P C (lv P C n) x a H=_;unfold YG;rw[hn n (Nat.le_refl _)];rfl
   rw[GH this]at h;cases h
def NF(P:Program)(C:Cfg):FuncId->List Value->AH->Option (Value×AH):=Xy P C (SY P C)
theorem LF{f:FuncId}{args:List Value}{H:AH}{r:Value×AH}(he:ZU P C f args H=some r): ∃n,YG P C (lv P C n) f args H=some r:=by obtain⟨n,hn⟩:=OA he;cases n with|zero=>rw[Pw]at hn;cases hn|succ n=>rw[Pu]at hn;exact⟨n,hn⟩
theorem B8{f:FuncId}{args:List Value}{H:AH}{r:Value×AH}(h:ZU P C f args H=some r): ∃n,run P C n f args H=some r:=LF h
theorem BQ{x:FuncId}{a:List Value}{H:AH}{r:Value×AH}(h:YG P C (SY P C) x a H=some r): ∃n,YG P C (lv P C n) x a H=some r:=by rw[<-XF]at h;exact LF h
theorem ke{x:FuncId}{a:List Value}{H:AH}{r:Value×AH}(h:NF P C x a H=some r): ∃n,∀m,n<=m->Xy P C (lv P C m) x a H=some r:=by obtain⟨v,H'⟩:=r;obtain⟨n,hn⟩:=JE (R0 h);exact⟨n,fun m hm=>by unfold Xy;rw[hn m hm];rfl⟩
theorem af{tm:Tr Value}{H:AH}{op:Op}{r:Value×AH}(he:Yg C (NF P C) tm H op=some r): ∃n,∀m,n<=m->Yg C (Xy P C (lv P C m)) tm H op=some r:=by
 cases op;case call c=>simp only[Yg]at he⊢;cases hd:ZL C tm c with|none=>rw[hd]at he;cases he|some x=>rw[hd]at he;exact ke he
 case panic x=>exact⟨0,fun m _=>he⟩
 all_goals cases he
theorem qH{tm:Tr Value}{H:AH}{op:Op}{r:Value×AH}(he:ZF P C (YG P C (SY P C)) tm H op=some r): ∃n,∀m,n<=m->ZF P C (YG P C (lv P C m)) tm H op=some r:=by obtain⟨n,hn⟩:=Tu (F:=YG P C (SY P C)) (G:=fun n=>YG P C (lv P C n)) (fun x a H r h=>BQ h) (fun h=>Ur (Qg h)) he;exact⟨n,fun m hm=>WM (Ur (Qg hm)) hn⟩
theorem NA{ops:Array Oper} : ∀(l:List Oper)(s:St)(r:Ex×St),So P C (YG P C (SY P C)) (NF P C) ops l s=some r-> ∃n,∀m,n<=m->So P C (YG P C (lv P C m)) (Xy P C (lv P C m)) ops l s=some r
 |[],s,r,he=>by cases he
 |o::rest,s,r,he=>by
  simp only[So]at he⊢;split at he<;>first|(cases he;done)|skip
  ·rename_i hw;split at he;·rename_i v1 H1 hp;obtain⟨n,hn⟩:=af hp;exact⟨n,fun m hm=>by simp only[hn m hm];exact he⟩
   ·rename_i hp;split at he<;>first|(cases he;done)|skip
    rename_i v1 H1 YB;split at he<;>first|(cases he;done)|skip
    rename_i s1 YT;obtain⟨n1,h1⟩:=qH YB;obtain⟨n2,h2⟩:=NA rest s1 r he;refine⟨max n1 n2,fun m hm=>?_⟩;have vH:=Oy (u:=lv P C m) (v:=lv P C m) (Qg (Nat.le_refl m)) (h1 m (by omega));simp only[vH,h1 m (by omega),YT];exact h2 m (by omega)
  ·rename_i hw;split at he<;>first|(cases he;done)|skip
   rename_i s1 YT;obtain⟨n2,h2⟩:=NA rest s1 r he;exact⟨n2,fun m hm=>h2 m hm⟩
theorem VW(c:Code)(s:St):EB P C c s=XO P C (SY P C) c s:=by
 have up: ∀r,EB P C c s=some r->XO P C (SY P C) c s=some r:=fun r h=>by obtain⟨n,hn⟩:=G8 h;cases n with|zero=>rw[iN]at hn;cases hn|succ n=>rw[C6]at hn;exact Ia (fa n) c s r hn
 have down: ∀r,XO P C (SY P C) c s=some r->EB P C c s=some r:=fun r he=>by
  have fin1:(∃n,∀m,n<=m->XO P C (lv P C m) c s=some r)->EB P C c s=some r:=fun⟨n,h⟩=>cQ (n:=n+1) (by rw[C6];exact h n (Nat.le_refl _));apply fin1;cases c<;>simp only[XO]at he⊢ <;>first|(cases he;done)|skip
  ·exact⟨0,fun m _=>he⟩
  ·rename_i id ops draw;split at he;·rename_i s1 hr;obtain⟨n,hn⟩:=O6 (F:=YG P C (SY P C)) (G:=fun n=>YG P C (lv P C n)) (fun x a H r h=>BQ h) (fun h=>Ur (Qg h)) hr;exact⟨n,fun m hm=>by rw[SO (Ur (Qg hm)) hn];exact he⟩
   ·cases draw with|true=>cases he|false=>rw[cond_false]at he;obtain⟨n,hn⟩:=NA _ _ _ he;refine⟨n,fun m hm=>?_⟩;have h2:=(QV (Qg (Nat.le_refl m)) _ _ _ (hn m hm)).2;rw[Ol,h2];exact hn m hm
  ·split at he;·rename_i s1 hr;obtain⟨n1,h1⟩:=Wo hr;obtain⟨n2,h2⟩:=Wo he;exact⟨max n1 n2,fun m hm=>by rw[h1 m (by omega)];exact h2 m (by omega)⟩
   ·rename_i hn;obtain⟨n1,h1⟩:=Wo he;refine⟨n1,fun m hm=>?_⟩;rw[h1 m hm];split;·rename_i s1 e;exact absurd (he.trans e) (by intro e';exact hn s1 e')
    ·rfl
  ·split at he<;>first|(cases he;done)|skip
   obtain⟨n1,h1⟩:=Wo he;exact⟨n1,fun m hm=>h1 m hm⟩
  ·split at he;·rename_i j s1 hr;obtain⟨n1,h1⟩:=Wo hr;exact⟨n1,fun m hm=>by rw[h1 m hm];exact he⟩
   ·rename_i hn;obtain⟨n1,h1⟩:=Wo he;refine⟨n1,fun m hm=>?_⟩;rw[h1 m hm];split;·rename_i j s1 e;exact absurd (he.trans e) (by intro e';exact hn j s1 e')
    ·rfl
  ·split at he;·rename_i s1 hr;obtain⟨n1,h1⟩:=Wo hr;obtain⟨n2,h2⟩:=Wo he;exact⟨max n1 n2,fun m hm=>by rw[h1 m (by omega)];exact h2 m (by omega)⟩
   ·rename_i hn;obtain⟨n1,h1⟩:=Wo he;refine⟨n1,fun m hm=>?_⟩;rw[h1 m hm];split;·rename_i s1 e;exact absurd (he.trans e) (by intro e';exact hn s1 e')
    ·rfl
  ·exact⟨0,fun m _=>he⟩
  ·exact⟨0,fun m _=>he⟩
 cases h:EB P C c s with
  |some r=>exact(up r h).symm
  |none=>cases h2:XO P C (SY P C) c s with|none=>rfl|some r=>rw[down r h2]at h;cases h
end
end
structure rE where
  dst : Option Tmp
  op : Op
  grd : Option (Option Tmp × Bool)
def ZQ(ops:Array Oper):List Oper->List rE
 |[]=>[]
 |o::r=>⟨o.dst,o.op,match o.guard with|none=>none|some (j,b)=>some ((ops[j]?).bind (·.dst),b)⟩::ZQ ops r
def strip(ops:Array Oper):List rE:=ZQ ops ops.toList
section
variable (P : Program) (C : Cfg)
def CW(f:FuncId)(args:List Value)(H:AH)(Q:Value->AH->Prop):Prop:= ∃v H',ZU P C f args H=some (v,H')/\Q v H'
def gW(tm:Tr Value)(g:Option (Option Tmp×Bool)):Option Bool:=match g with
 |none=>some true
 |some (some d,want)=>match tm.get d with|some (.bool b)=>some (b==want)|some (.tuple _)=>some false|_=>none
 |some (none,_)=>none
def Xj(k:Nat):List rE->Tr Value->AH->(Tr Value->AH->Prop)->Prop
 |[],tm,H,K=>K tm H
 |o::r,tm,H,K=>match gW tm o.grd with
  |some true=>match ZF P C (ZU P C) tm H o.op with
   |some (v,H')=>match o.dst with|none=>Xj k r tm H' K|some d=>d<k/\Xj k r (tm.set d v) H' K
   |none=>False
  |some false=>match o.dst with|none=>Xj k r tm H K|some d=>d<k/\Xj k r (tm.set d undef) H K
  |none=>False
def W(c:Code)(s:St)(Q:Ex->St->Prop):Prop:= ∃ex s',EB P C c s=some (ex,s')/\Q ex s'
end
section
variable {P : Program} {C : Cfg} {Q : Ex -> St -> Prop}
theorem Fq{ops:Array Oper}{tm:Tr Value}{o:Oper} :Y2 ops tm o=gW tm (match o.guard with|none=>none|some (j,b)=>some ((ops[j]?).bind (·.dst),b)):=by unfold Y2 gW;cases o.guard with|none=>rfl|some x=>obtain⟨j,b⟩:=x;simp only;cases(ops[j]?).bind (·.dst)<;>rfl
theorem Pe{ops:Array Oper}{k:Nat} : ∀(l:List Oper)(tm:Tr Value)(H:AH)(K:Tr Value->AH->Prop),Xj P C k (ZQ ops l) tm H K-> ∃Y7 H',WH P C (ZU P C) ops l ⟨k,tm,H⟩=some ⟨k,Y7,H'⟩/\K Y7 H'
 |[],tm,H,K,h=>⟨tm,H,rfl,h⟩
 |o::r,tm,H,K,h=>by
  have put: ∀(v:Value)(H1:AH),(match o.dst with|none=>Xj P C k (ZQ ops r) tm H1 K|some d=>d<k/\Xj P C k (ZQ ops r) (tm.set d v) H1 K)-> ∃SS,(St.put ⟨k,tm,H⟩ o.dst v H1)=some ⟨k,SS,H1⟩/\Xj P C k (ZQ ops r) SS H1 K:=fun v H1 h=>by cases hd:o.dst with
   |none=>rw[hd]at h;exact⟨tm,rfl,h⟩
   |some d=>
    rw[hd]at h;have:Nat.blt d k=true:=by rw[Nat.blt_eq];exact h.1
    exact⟨tm.set d v,by simp only[St.put,QB,this,cond_true],h.2⟩
  rw[Wi];simp only;rw[Fq];simp only[ZQ,Xj]at h;split at h
  ·rename_i hg;rw[hg];split at h;·rename_i v H1 YB;obtain⟨SS,YT,hl⟩:=put v H1 h;obtain⟨Y7,H',h1,h2⟩:=Pe r SS H1 K hl;refine⟨Y7,H',?_,h2⟩;simp only[YB,YT];exact h1
   ·exact h.elim
  ·rename_i hg;rw[hg];obtain⟨SS,YT,hl⟩:=put undef H h;obtain⟨Y7,H',h1,h2⟩:=Pe r SS H K hl;refine⟨Y7,H',?_,h2⟩;simp only[YT];exact h1
  ·exact h.elim
theorem Zl{i:Nat}{ops:Array Oper}{s:St}(h:Xj P C s.k (strip ops) s.tm s.H fun Y7 H'=>Q .norm ⟨s.k,Y7,H'⟩):W P C (.region i ops false) s Q:=by
 obtain⟨k,tm,H⟩:=s;obtain⟨Y7,H',h1,h2⟩:=Pe (ops:=ops) ops.toList tm H _ h;refine⟨.norm,⟨k,Y7,H'⟩,?_,h2⟩;rw[VW];simp only[XO];rw[XF]at h1;have:YI P C (YG P C (SY P C)) ops false ⟨k,tm,H⟩=some ⟨k,Y7,H'⟩:=by unfold YI WG;simp only[Bool.false_and,cond_false];exact h1
 rw[this]
theorem Np:(SY P C).code=EB P C:=rfl
def YQ(P:Program)(C:Cfg)(b:Code)(Q:Ex->St->Prop):Ex->St->Prop| .norm,s=>W P C b s Q|e,s=>Q e s
theorem Zi{a b:Code}{s:St}(h: ∀b',b'=b->W P C a s (YQ P C b' Q)):W P C (.seq a b) s Q:=by obtain⟨ex,s1,h1,h2⟩:=h b rfl;unfold W;rw[VW];simp only[XO,Np,h1];cases ex with|norm=>exact h2|exit j=>exact⟨_,_,rfl,h2⟩|ret=>exact⟨_,_,rfl,h2⟩|pan v=>exact⟨_,_,rfl,h2⟩
theorem Zr{s:St}(h:Q .norm s):W P C .skip s Q:=⟨.norm,s,by rw[VW];rfl,h⟩
theorem YN{i:Nat}{s:St}(h:Q (.exit i) s):W P C (.exit i) s Q:=⟨.exit i,s,by rw[VW];rfl,h⟩
theorem ZZ{s:St}(h:Q .ret s):W P C .ret s Q:=⟨.ret,s,by rw[VW];rfl,h⟩
theorem Zb{x:Operand}{a b:Code}{s:St}{t:Bool}(hx:YF C s.tm x=some (.bool t))(h:W P C (cond t a b) s Q):W P C (.cond x a b) s Q:=by unfold W;rw[VW];simp only[XO,Np,hx];exact h
def Yv(id:Nat)(Q:Ex->St->Prop):Ex->St->Prop| .exit j,s=>(j=id/\Q .norm s)\/(j≠id/\Q (.exit j) s)|e,s=>Q e s
theorem ZR{id:Nat}{b:Code}{s:St}(h:W P C b s (Yv id Q)):W P C (.block id b) s Q:=by obtain⟨ex,s1,h1,h2⟩:=h;unfold W;rw[VW];simp only[XO,Np,h1];cases ex with
 |norm=>exact⟨_,_,rfl,h2⟩
 |exit j=>
  rcases h2 with⟨e,h2⟩|⟨e,h2⟩;·exact⟨.norm,s1,by simp only[XJ e,cond_true],h2⟩
  ·exact⟨.exit j,s1,by simp only[Y9 e,cond_false],h2⟩
 |ret=>exact⟨_,_,rfl,h2⟩
 |pan v=>exact⟨_,_,rfl,h2⟩
theorem Hg{b:Code}{s:St}(h:W P C b s (YQ P C (.loop b) Q)):W P C (.loop b) s Q:=by obtain⟨ex,s1,h1,h2⟩:=h;unfold W;rw[VW];simp only[XO,Np,h1];cases ex with|norm=>exact h2|exit j=>exact⟨_,_,rfl,h2⟩|ret=>exact⟨_,_,rfl,h2⟩|pan v=>exact⟨_,_,rfl,h2⟩
def TI(I:Nat->St->Prop)(n:Nat)(Q:Ex->St->Prop):Ex->St->Prop| .norm,s=> ∃m,m<n/\I m s|e,s=>Q e s
theorem I9{b:Code}(I:Nat->St->Prop)(h: ∀n s,I n s->W P C b s (TI I n Q)): ∀(n:Nat)(s:St),I n s->W P C (.loop b) s Q:=by intro n;induction n using Nat.strongRecOn with
 |_ n ih=>intro s hI;apply Hg;obtain⟨ex,s1,h1,h2⟩:=h n s hI;refine⟨ex,s1,h1,?_⟩;cases ex with|norm=>obtain⟨m,hm,E0⟩:=h2;exact ih m hm s1 E0|exit j=>exact h2|ret=>exact h2|pan v=>exact h2
theorem W.mono{c:Code}{s:St}{Q':Ex->St->Prop}(h:W P C c s Q)(hQ: ∀e s,Q e s->Q' e s):W P C c s Q':=by obtain⟨e,s1,h1,h2⟩:=h;exact⟨e,s1,h1,hQ _ _ h2⟩
theorem CW.mono{f:FuncId}{args:List Value}{H:AH}{Q Q':Value->AH->Prop}(h:CW P C f args H Q)(hQ: ∀v H',Q v H'->Q' v H'):CW P C f args H Q':=by obtain⟨v,H',h1,h2⟩:=h;exact⟨v,H',h1,hQ _ _ h2⟩
theorem bm(k:Nat){f:FuncId}{fn:Func}{c:Code}{args:List Value}{H:AH}{R:Value->AH->Prop}(ha:Nat.beq f C.add=false)(hs:Nat.beq f C.sub=false)(hf:P.funcs[f]?=some fn)(hb:fn.body=some c)(hk:args.length+(fn.ntmps-args.length)=k)(h:W P C c { k:=k,tm:=Yu 0 args .nil,H:=H } fun ex s=>(ex= .norm\/ex= .ret)/\ ∃vs,Zv P s fn.results.toList=some vs/\R (Z3 vs) s.H)(hd:SQ c=none:=by rfl):CW P C f args H R:=by
 subst hk;obtain⟨ex,s,h1,h2,vs,h3,h4⟩:=h;refine⟨Z3 vs,s.H,?_,h4⟩;rw[XF];unfold YG X1;rw[ha,cond_false,hs,cond_false,hf];simp only[hb,Si,hd];show M3 (Fh P fn (EB P C c _))=_;rw[h1];rcases h2 with rfl|rfl;·simp only[Fh,h3,M3]
 ·simp only[Fh,h3,M3]
def LD(P:Program)(C:Cfg):FuncId->List Value->AH->Option (Out×AH):=X1 P C (SY P C)
def yr(P:Program)(C:Cfg)(f:FuncId)(args:List Value)(H:AH)(R:Out->AH->Prop):Prop:= ∃o H',LD P C f args H=some (o,H')/\R o H'
theorem Oi{f:FuncId}{args:List Value}{H:AH}{v:Value}{H':AH}(h:LD P C f args H=some (.ret v,H')):ZU P C f args H=some (v,H'):=by rw[XF];unfold YG;have:X1 P C (SY P C) f args H=_:=h;rw[this];rfl
theorem Oh{f:FuncId}{args:List Value}{H:AH}{v:Value}{H':AH}(h:LD P C f args H=some (.pan v,H')):NF P C f args H=some (v,H'):=by unfold NF Xy;have:X1 P C (SY P C) f args H=_:=h;rw[this];rfl
theorem JJ(k:Nat){f:FuncId}{fn:Func}{c:Code}{args:List Value}{H:AH}{R:Out->AH->Prop}(ha:Nat.beq f C.add=false)(hs:Nat.beq f C.sub=false)(hf:P.funcs[f]?=some fn)(hb:fn.body=some c)(hk:args.length+(fn.ntmps-args.length)=k)(h:W P C c { k:=k,tm:=Yu 0 args .nil,H:=H } fun ex s=>((ex= .norm\/ex= .ret)/\ ∃vs,Zv P s fn.results.toList=some vs/\R (.ret (Z3 vs)) s.H)\/ ∃v,ex= .pan v/\R (.pan v) s.H)(hd:SQ c=none:=by rfl):yr P C f args H R:=by
 subst hk;obtain⟨ex,s,h1,h2⟩:=h;unfold yr LD X1;rw[ha,cond_false,hs,cond_false,hf];simp only[hb,Si,hd];show∃o H',Fh P fn (EB P C c _)=some (o,H')/\R o H';rw[h1];rcases h2 with⟨h2,vs,h3,h4⟩|⟨v,rfl,h4⟩
 ·refine⟨.ret (Z3 vs),s.H,?_,h4⟩;rcases h2 with rfl|rfl;·simp only[Fh,h3]
  ·simp only[Fh,h3]
 ·exact⟨.pan v,s.H,rfl,h4⟩
def Xt(P:Program)(C:Cfg)(k:Nat):List rE->Tr Value->AH->(Value->Tr Value->AH->Prop)->Prop
 |[],tm,H,K=>False
 |o::r,tm,H,K=>match gW tm o.grd with
  |some true=>match ZF P C (ZU P C) tm H o.op with
   |some (v,H')=>match o.dst with|none=>Xt P C k r tm H' K|some d=>d<k/\Xt P C k r (tm.set d v) H' K
   |none=>match Yg C (NF P C) tm H o.op with|some (v,H')=>K v tm H'|none=>False
  |some false=>match o.dst with|none=>Xt P C k r tm H K|some d=>d<k/\Xt P C k r (tm.set d undef) H K
  |none=>False
theorem IA{ops:Array Oper}{k:Nat} : ∀(l:List Oper)(tm:Tr Value)(H:AH)(K:Value->Tr Value->AH->Prop),Xt P C k (ZQ ops l) tm H K-> ∃v Y7 H',So P C (YG P C (SY P C)) (Xy P C (SY P C)) ops l ⟨k,tm,H⟩=some (.pan v,⟨k,Y7,H'⟩)/\K v Y7 H'
 |[],tm,H,K,h=>h.elim
 |o::r,tm,H,K,h=>by
  have put: ∀(v:Value)(H1:AH),(match o.dst with|none=>Xt P C k (ZQ ops r) tm H1 K|some d=>d<k/\Xt P C k (ZQ ops r) (tm.set d v) H1 K)-> ∃SS,(St.put ⟨k,tm,H⟩ o.dst v H1)=some ⟨k,SS,H1⟩/\Xt P C k (ZQ ops r) SS H1 K:=fun v H1 h=>by cases hd:o.dst with
   |none=>rw[hd]at h;exact⟨tm,rfl,h⟩
   |some d=>
    rw[hd]at h;have:Nat.blt d k=true:=by rw[Nat.blt_eq];exact h.1
    exact⟨tm.set d v,by simp only[St.put,QB,this,cond_true],h.2⟩
  simp only[So];rw[Fq];simp only[ZQ,Xt]at h;split at h
  ·rename_i hg;rw[hg];split at h;·rename_i v H1 YB;obtain⟨SS,YT,hl⟩:=put v H1 h;obtain⟨v2,Y7,H',h1,h2⟩:=IA r SS H1 K hl;refine⟨v2,Y7,H',?_,h2⟩;rw[XF]at YB;have hn:=Oy (u:=SY P C) (v:=SY P C) ⟨fun _ _ _ h=>h,fun _ _ _ _ h=>h⟩ YB;simp only[hn,YB,YT];exact h1
   ·split at h;·rename_i v H1 hp;refine⟨v,tm,H1,?_,h⟩;have hp:Yg C (Xy P C (SY P C)) tm H o.op=some (v,H1):=hp;simp only[hp]
    ·exact h.elim
  ·rename_i hg;rw[hg];obtain⟨SS,YT,hl⟩:=put undef H h;obtain⟨v2,Y7,H',h1,h2⟩:=IA r SS H K hl;refine⟨v2,Y7,H',?_,h2⟩;simp only[YT];exact h1
  ·exact h.elim
theorem LM{i:Nat}{ops:Array Oper}{s:St}(h:Xt P C s.k (strip ops) s.tm s.H fun v Y7 H'=>Q (.pan v) ⟨s.k,Y7,H'⟩):W P C (.region i ops false) s Q:=by obtain⟨k,tm,H⟩:=s;obtain⟨v,Y7,H',h1,h2⟩:=IA (ops:=ops) ops.toList tm H _ h;refine⟨.pan v,⟨k,Y7,H'⟩,?_,h2⟩;rw[VW];simp only[XO];have hn:=(QV (u:=SY P C) (v:=SY P C) ⟨fun _ _ _ h=>h,fun _ _ _ _ h=>h⟩ _ _ _ h1).2;rw[Ol,hn];exact h1
def WS(P:Program)(C:Cfg)(rv:Value)(c:Code)(s:St)(Q:Ex->St->Prop):Prop:= ∃ex s',Fa P C (SY P C) rv c s=some (ex,s')/\Q ex s'
theorem Wl{rv:Value}{id:Nat}{ops:Array Oper}{draw:Bool}{s:St}(ho:SH ops=true)(h:W P C (.region id (ops.map (Wr rv)) draw) s fun ex s'=>ex= .norm/\Q .norm s'):WS P C rv (.region id ops draw) s Q:=by
 obtain⟨ex,s',h1,rfl,h2⟩:=h;refine⟨.norm,s',?_,h2⟩;simp only[Fa];rw[ho,cond_true];rw[VW]at h1;simp only[XO]at h1;show(match YI P C (ZU P C) (ops.map (Wr rv)) draw s with|some s'=>some (Ex.norm,s')|none=>none)=_;rw[XF];split at h1;·rename_i s1 hr;rw[hr];exact h1
 ·exfalso;cases draw with
  |true=>cases h1
  |false=>
   rw[cond_false]at h1;have: ∀(l:List Oper)(s:St)(s':St),So P C (YG P C (SY P C)) (Xy P C (SY P C)) (ops.map (Wr rv)) l s≠some (.norm,s'):=by intro l;induction l with
    |nil=>intro s s' e;cases e
    |cons o r ih=>
     intro s s' e;simp only[So]at e;split at e<;>first|(cases e;done)|skip
     ·split at e;·cases e
      ·split at e<;>first|(cases e;done)|skip
       split at e<;>first|(cases e;done)|skip
       exact ih _ _ e
     ·split at e<;>first|(cases e;done)|skip
      exact ih _ _ e
   exact this _ _ _ h1
theorem bx{rv:Value}{a b:Code}{s:St}(hf:Rm a=true)(h:WS P C rv a s fun ex s'=>ex= .norm/\W P C b s' fun ex s'=>(ex= .norm\/ex= .ret)/\Q ex s'):WS P C rv (.seq a b) s Q:=by obtain⟨ex,s1,h1,rfl,ex2,s2,h2,h3,h4⟩:=h;refine⟨ex2,s2,?_,h4⟩;simp only[Fa,hf,cond_true,h1];show Nv (EB P C b s1)=_;rw[h2];rcases h3 with rfl|rfl<;>rfl
def ED(P:Program)(C:Cfg)(g:FuncId)(args:List Value)(rv:Value)(H:AH)(K:AH->Prop):Prop:= ∃H',QW P C (SY P C) g args rv H=some H'/\K H'
theorem Wk(k:Nat){g:FuncId}{fn:Func}{c:Code}{args:List Value}{rv:Value}{H:AH}{K:AH->Prop}(hf:P.funcs[g]?=some fn)(hb:fn.body=some c)(hk:args.length+(fn.ntmps-args.length)=k)(h:WS P C rv c { k:=k,tm:=Yu 0 args .nil,H:=H } fun ex s=>(ex= .norm\/ex= .ret)/\ ∃vs,Zv P s fn.results.toList=some vs/\K s.H):ED P C g args rv H K:=by
 subst hk;obtain⟨ex,s,h1,h2,vs,h3,h4⟩:=h;refine⟨s.H,?_,h4⟩;unfold QW;simp only[hf,hb,h1];rcases h2 with rfl|rfl;·simp only[h3]
 ·simp only[h3]
theorem bk(k:Nat){f:FuncId}{fn:Func}{c a:Code}{ops:Array Oper}{o1:Oper}{dc:Call}{rest:Code}{args:List Value}{H:AH}{R:Value->AH->Prop}(ha:Nat.beq f C.add=false)(hs:Nat.beq f C.sub=false)(hf:P.funcs[f]?=some fn)(hb:fn.body=some c)(hk:args.length+(fn.ntmps-args.length)=k)(hd:SQ c=some (a,ops,o1,dc,rest))(h:W P C a { k:=k,tm:=Yu 0 args .nil,H:=H } fun ex s=>ex= .norm/\Xj P C s.k (ZQ ops [o1]) s.tm s.H fun CX H2=> ∃g MX,ZL C CX dc=some (g,MX)/\W P C rest ⟨s.k,CX,H2⟩ fun tE s3=> ∃rv,Vw tE=some rv/\ED P C g MX rv s3.H fun H4=> ∃vs,Zv P ⟨s3.k,s3.tm,H4⟩ fn.results.toList=some vs/\R (Z3 vs) H4):CW P C f args H R:=by subst hk;obtain⟨ex,s1,h1,rfl,h2⟩:=h;obtain⟨CX,H2,h3,g,MX,h4,tE,s3,h5,rv,h6,H4,h7,vs,h8,h9⟩:=Pe [o1] _ _ _ h2;refine⟨Z3 vs,H4,?_,h9⟩;rw[XF];unfold YG X1;rw[ha,cond_false,hs,cond_false,hf];simp only[hb,Si,hd];unfold W6;have h1:(SY P C).code a { k:=args.length+(fn.ntmps-args.length),tm:=Yu 0 args .nil,H:=H } =some (.norm,s1):=h1;have h3:WH P C (SY P C).call ops [o1] s1=some ⟨s1.k,CX,H2⟩:=h3;have h5:(SY P C).code rest ⟨s1.k,CX,H2⟩=some (tE,s3):=h5;simp only[h1,h3,h4,h5,h6,h7,h8,M3]
variable {tm : Tr Value} {H : AH} {K : Value -> AH -> Prop}
end
end
end Go.Proofs.YtmkfecoeghokfaaGreatDoor.Ev
namespace Go.Proofs.YtmkfecoeghokfaaGreatDoor
open Go.ChangeShapes Go.WideShapes Go.ChangeAt Go.RowKit Go.Proofs.YtmkfecoeghokfaaGreatDoor.Ev
set_option linter.unusedVariables false
noncomputable section
set_option maxHeartbeats 2000000
set_option maxRecDepth 20000
def tL:Cfg:= { ng:=0,add:=203,sub:=206,sp:=[(78,9),(74,9)] }
theorem fp:(Tryz.prog.funcs.toList.all fun fn=>fn.body.isNone||!(fn.name== "runtime.NumGoroutine"))=true:=by kernel_rfl
theorem oS (n : Nat) : CfgOk Tryz.prog { tL with ng := n } where
  mixed := Tryz.checked.mixed
  names := fun f fn hf hb => by
    have h := List.all_eq_true.mp fp fn (by rw [Array.mem_toList_iff]; exact Array.mem_of_getElem? hf)
    cases Sr : fn.body with
    | none => rw [Sr] at hb; cases hb
    | some c =>
      rw [Sr] at h
      simpa using h
  add := ⟨Tryz.f203, Tryz.func203, by kernel_rfl, by kernel_rfl, by kernel_rfl, by kernel_rfl⟩
  sub := ⟨Tryz.f206, Tryz.func206, by kernel_rfl, by kernel_rfl, by kernel_rfl, by kernel_rfl⟩
end
end Go.Proofs.YtmkfecoeghokfaaGreatDoor
namespace Go.Proofs.YtmkfecoeghokfaaGreatDoor
open Go.ChangeShapes Go.WideShapes Go.ChangeAt Go.RowKit Go.Proofs.YtmkfecoeghokfaaGreatDoor.Ev
set_option linter.unusedVariables false
noncomputable section
set_option linter.unusedSimpArgs false
set_option maxHeartbeats 2000000
set_option maxRecDepth 20000
def lz(k:Int)(s:List UInt8)(a:Int):List Value:=[.int .i64 k,.string ⟨s.toArray⟩,.int .i64 a]
def kp(k:Int)(s:List UInt8)(a:Int){H:Type} :DataW H:= .agg [.lit (.int .i64 k),.lit (.string s),.lit (.int .i64 a)]
def PY:List (Int×List UInt8×Int):=[(0,[],0),(1,[112,105],0),(2,[45],1),(3,[43],2),(4,[45],2),(5,[42],2),(6,[47],2),(7,[97,98,115],1),(8,[109,105,110],2),(9,[109,97,120],2),(10,[115,113,114,116],1),(11,[101,120,112],1),(12,[108,110],1),(13,[115,105,110],1),(14,[99,111,115],1),(15,[97,116,97,110],1)]
def Wv:List Value:=PY.flatMap fun x=>lz x.1 x.2.1 x.2.2
theorem AJ{H:Type} :(Rows.laid_surd_expr_rows:DataW H)= .agg (PY.map fun x=>kp x.1 x.2.1 x.2.2):=rfl
theorem uf:Tryz.prog.globalNamed "surd/expr.rows"=some 0:=by kernel_rfl
theorem yb:(Tryz.prog.globals[0]?).map (·.type)=some 181:=by kernel_rfl
theorem yj:Tryz.prog.underlying 181=some (.array 16 180):=by kernel_rfl
theorem uRow: ∃f0 f1 f2,Tryz.prog.underlying 180=some (.struct #[f0,f1,f2])/\f0.type=50/\f0.offset=0/\f1.type=9/\f1.offset=1/\f2.type=3/\f2.offset=2:=⟨_,_,_,Tryz.underlying180,rfl,rfl,rfl,rfl,rfl,rfl⟩
theorem uOp:Tryz.prog.underlying 50=some (.int .i64):=by kernel_rfl
theorem cOp:Tryz.prog.cellsOf 50=1:=by kernel_rfl
theorem cStr:Tryz.prog.cellsOf 9=1:=by kernel_rfl
theorem cInt:Tryz.prog.cellsOf 3=1:=by kernel_rfl
theorem tN:Tryz.prog.cellsOf 180=3:=by kernel_rfl
theorem tM:Tryz.prog.cellsOf 181=48:=by kernel_rfl
section
variable {H : Type} {enc : TypeId × Value -> H} {w : World} {base : Nat} {sp : Nat -> Bool} {held : Bool}
theorem rp{m:Nat}{l:List Value}{k:Int}{s:List UInt8}{a:Int}{p:List MemPlace}(h:DataW.trod enc Tryz.prog w base sp held m 180 l=some (kp k s a,p)):l=lz k s a:=by obtain⟨f0,f1,f2,hu,e1,e2,e3,e4,e5,e6⟩:=uRow;obtain⟨y0,y1,y2,n,hx,hl,h0,h1,h2⟩:=Deep.trod_struct3 hu h;rw[e1,e2,cOp]at h0;rw[e3,e4,cStr]at h1;rw[e5,e6,cInt]at h2;rw[tN]at hl;obtain⟨n0,c0,x0,_⟩:=DataW.trod_int uOp h0;obtain⟨s1,c1,x1,_⟩:=DataW.trod_string Tryz.underlying9 h1;obtain⟨n2,c2,x2,_⟩:=DataW.trod_int Tryz.underlying3 h2;subst x0;subst x1;subst x2;simp only[kp,Prod.mk.injEq,DataW.agg.injEq,List.cons.injEq,DataW.lit.injEq,Lit.int.injEq,Lit.string.injEq,true_and,and_true]at hx;obtain⟨⟨rfl,rfl,rfl⟩,_⟩:=hx;match l,hl with|[a0,a1,a2],_=>simp at c0 c1 c2;subst c0;subst c1;subst c2;rfl
theorem ky{fuel:Nat}{cs:List Value}{p:List MemPlace}(h:DataW.trod enc Tryz.prog w base sp held fuel 181 cs=some (Rows.laid_surd_expr_rows,p)):cs=Wv:=by
 obtain⟨xs,m,_,hx,hl,hn,hel⟩:=DataW.trod_array yj h;rw[tM]at hl;rw[AJ]at hx;simp only[Prod.mk.injEq,DataW.agg.injEq]at hx;have key: ∀i,i<16->(cs.drop (i*3)).take 3=(Wv.drop (i*3)).take 3:=by
  intro i hi;have h1:=hel i hi;rw[tN]at h1;have h2:(xs.map (·.1))[i]?=some (kp ((PY[i]?.getD (0,[],0))).1 (PY[i]?.getD (0,[],0)).2.1 (PY[i]?.getD (0,[],0)).2.2):=by rw[<-hx.1,List.getElem?_map,List.getElem?_eq_getElem (show i<PY.length from hi)];rfl
  rw[List.getElem?_map]at h2;cases hxi:xs[i]? with
   |none=>rw[hxi]at h2;cases h2
   |some y=>
    rw[hxi]at h1 h2;obtain⟨y1,y2⟩:=y;simp only[Option.map_some,Option.some.injEq]at h2;subst h2;rw[rp h1];clear h1 hx hel hn hl h hxi;have:i=0\/i=1\/i=2\/i=3\/i=4\/i=5\/i=6\/i=7\/i=8\/i=9\/i=10\/i=11\/i=12\/i=13\/i=14\/i=15:=by omega
    rcases this with rfl|rfl|rfl|rfl|rfl|rfl|rfl|rfl|rfl|rfl|rfl|rfl|rfl|rfl|rfl|rfl<;>rfl
 apply List.ext_getElem?;intro k;by_cases hk:k<48
 ·have:=key (k/3) (by omega);have h3:=congrArg (fun l=>l[k%3]?) this;simp only[List.getElem?_take,List.getElem?_drop]at h3;rw[if_pos (Nat.mod_lt _ (by decide)),if_pos (Nat.mod_lt _ (by decide))]at h3;have e:k/3*3+k%3=k:=by omega
  rw[e]at h3;exact h3
 ·rw[List.getElem?_eq_none (by omega),List.getElem?_eq_none (by show Wv.length<=k;have:Wv.length=48:=rfl;omega)]
end
theorem jB{W:World}(h:laidMetH Tryz.prog [("surd/expr.rows",Rows.laid_surd_expr_rows)] W): ∀k v,Wv[k]?=some v->W.cell? ⟨0,k,none⟩=some v:=by rw[MakeChecks.laidMetH_plain _ _ _ (by kernel_rfl)]at h;obtain⟨ps,⟨g0,t0,Wd,f0,p0,q0,vr,sY,hv0,yE,_⟩,_,_⟩:=h;obtain rfl:=Option.some.inj (uf.symm.trans vr);obtain rfl:=Option.some.inj (yb.symm.trans sY);have hc:=ky yE;intro k v hk;rw[World.var?_cell vr hv0 k,<-hk,<-hc];simp
def NZ:AH:= { n:=0+1,lw:=0+1,t:=Tr.nil.set 0 (.ro 3 Wv) }
def ZY:Cfg:= { tL with ng:=0+1 }
def fM:Nat->Ev.Loc:=fun i=>⟨i,0,3,48⟩
def nW:Nat->Prop:=fun i=>i<0+1
theorem ks:GO ZY nW fM:=fun g hg=>⟨hg,rfl,rfl⟩
theorem Ct:Wv.all ZM=true:=rfl
theorem aO{S:Nat->Prop}{L:Nat->Ev.Loc}{v:Value}(h:ZM v=true):VR S L v v:=by exact PZ h
theorem Gm{w:World}(h: ∀k v,Wv[k]?=some v->w.cell? ⟨0,k,none⟩=some v):Inv w.heap.size nW fM NZ w:=by
 have Wa: ∀i b,NZ.blk i=b->b≠ .dead->i=0/\b= .ro 3 Wv:=by
  intro i b hb hd;by_cases hi:i=0;·subst hi;exact⟨rfl,by rw[<-hb];rfl⟩
  ·exfalso;apply hd;rw[<-hb];unfold AH.blk NZ;simp only[Tr.get_set,if_neg hi,Tr.get_nil]
 have h0:=h 0 _ rfl;have XG:0<w.heap.size:=by
  by_cases hx:0<w.heap.size;·exact hx
  ·exfalso;have:w.heap[0]?=none:=Array.getElem?_eq_none (by omega);simp[World.cell?,this]at h0
 refine⟨fun i sz cs hb=>?_,fun i sz cs hb=>?_,fun i j a b c d hb=>?_,fun i hi=>hi,Nat.le_refl _⟩
 ·obtain⟨rfl,he⟩:=Wa i _ hb (by intro e;cases e);cases he;refine⟨Nat.lt_succ_self _,XG,rfl,fun k v hk=>⟨v,?_,?_⟩⟩;·have:=h k v hk;simpa[fM]using this
  ·exact aO (List.all_eq_true.mp Ct v (List.mem_of_getElem? hk))
 ·obtain⟨_,he⟩:=Wa i _ hb (by intro e;cases e);cases he
 ·obtain⟨_,he⟩:=Wa i _ hb (by intro e;cases e);cases he
end
end Go.Proofs.YtmkfecoeghokfaaGreatDoor
namespace Go.Proofs.YtmkfecoeghokfaaGreatDoor
set_option linter.unusedVariables false
set_option linter.unusedSimpArgs false
set_option maxHeartbeats 2000000
set_option maxRecDepth 20000
def YZ:List Nat->List Nat
 |[]=>[]
 |x::xs=>match YZ xs with|[]=>if x=0 then[]else[x]|y::ys=>x::y::ys
theorem VM: ∀(xs:List Nat),YZ (xs++[0])=YZ xs|[]=>rfl|x::xs=>by simp[YZ,VM xs]
theorem SZ: ∀(xs:List Nat)(x:Nat),x≠0->YZ (xs++[x])=xs++[x]|[],x,h=>by simp[YZ,h]|y::xs,x,h=>by have:=SZ xs x h;simp only[List.cons_append,YZ,this];cases xs<;>rfl
theorem XS(xs:List Nat):(YZ xs).length<=xs.length:=by induction xs with
 |nil=>simp[YZ]
 |cons x xs ih=>
  simp only[YZ];split;·split<;>simp
  ·rename_i y ys e;rw[e]at ih;simp at ih⊢;exact ih
def YH(B:Nat)(xs:List Nat):Prop:= ∀x∈xs,x<B
theorem YH.nil(B:Nat):YH B []:=fun x h=>by cases h
theorem YH.cons{B x:Nat}{xs:List Nat}(h:x<B)(hs:YH B xs):YH B (x::xs):=fun y hy=>by
 rcases List.mem_cons.mp hy with e|e;·rw[e];exact h
 ·exact hs y e
theorem YH.tail{B x:Nat}{xs:List Nat}(h:YH B (x::xs)):YH B xs:=fun y hy=>h y (List.mem_cons_of_mem _ hy)
theorem YH.head{B x:Nat}{xs:List Nat}(h:YH B (x::xs)):x<B:=h x (List.mem_cons_self ..)
theorem YH.append{B:Nat}{xs ys:List Nat}(h:YH B xs)(h':YH B ys):YH B (xs++ys):=fun y hy=>by
 rcases List.mem_append.mp hy with e|e;·exact h y e
 ·exact h' y e
theorem YH.get{B:Nat}{xs:List Nat}(h:YH B xs){i x:Nat}(hi:xs[i]?=some x):x<B:=h x (List.mem_of_getElem? hi)
theorem YH.take{B:Nat}{xs:List Nat}(h:YH B xs)(n:Nat):YH B (xs.take n):=fun y hy=>h y (List.mem_of_mem_take hy)
theorem YH.drop{B:Nat}{xs:List Nat}(h:YH B xs)(n:Nat):YH B (xs.drop n):=fun y hy=>h y (List.mem_of_mem_drop hy)
def dv(B:Nat):List Nat->Nat|[]=>0|x::xs=>x+B*dv B xs
theorem Yn(B:Nat): ∀(xs ys:List Nat),dv B (xs++ys)=dv B xs+B^xs.length*dv B ys|[],ys=>by simp[dv]|x::xs,ys=>by simp only[List.cons_append,dv,Yn B xs ys,List.length_cons,Nat.pow_succ,Nat.mul_add];rw[Nat.add_assoc,<-Nat.mul_assoc,Nat.mul_comm B (B^_)]
theorem Wh{B:Nat} : ∀{xs:List Nat},YH B xs->dv B xs<B^xs.length
 |[],_=>by simp[dv]
 |x::xs,h=>by
  have h1:=h.head;have h2:=Wh h.tail;simp only[dv,List.length_cons,Nat.pow_succ];have:B*dv B xs+B<=B*B^xs.length:=by rw[<-Nat.mul_succ];exact Nat.mul_le_mul_left _ h2
  rw[Nat.mul_comm (B^_) B];omega
theorem UP(B:Nat): ∀n,dv B (List.replicate n 0)=0|0=>rfl|n+1=>by simp[List.replicate_succ,dv,UP B n]
theorem Wp(B:Nat): ∀(xs:List Nat),dv B (YZ xs)=dv B xs
 |[]=>rfl
 |x::xs=>by
  have ih:=Wp B xs;simp only[YZ];split
  ·rename_i e;rw[e]at ih;simp only[dv]at ih⊢;split;·rename_i h;simp[dv,h,<-ih]
   ·simp[dv,<-ih]
  ·rename_i y ys e;rw[e]at ih;simp only[dv]at ih⊢;rw[ih]
theorem XT{B:Nat} : ∀{xs:List Nat},YH B xs->YH B (YZ xs)
 |[],h=>h
 |x::xs,h=>by
  have ih:=XT h.tail;simp only[YZ];split
  ·split;·exact .nil B
   ·exact .cons h.head (.nil B)
  ·rename_i y ys e;rw[e]at ih;exact .cons h.head ih
theorem Sz: ∀(xs:List Nat),YZ (YZ xs)=YZ xs
 |[]=>rfl
 |x::xs=>by
  have ih:=Sz xs;simp only[YZ];split
  ·split;·rfl
   ·rename_i h;simp[YZ,h]
  ·rename_i y ys e;rw[e]at ih;simp only[YZ]at ih⊢;rw[ih]
def ds(B:Nat)(n:Nat):List Nat:=if h:n=0\/B<2 then[]else n%B::ds B (n/B) termination_by n decreasing_by exact Nat.div_lt_self (by omega) (by omega)
theorem Xl(B:Nat):ds B 0=[]:=by rw[ds];simp
theorem TW{B n:Nat}(hB:2<=B)(hn:n≠0):ds B n=n%B::ds B (n/B):=by rw[ds,dif_neg (by omega)]
theorem YL{B:Nat}(hB:2<=B)(n:Nat):dv B (ds B n)=n:=by induction n using Nat.strongRecOn with
 |_ n ih=>
  by_cases h:n=0;·subst h;rw[Xl];rfl
  ·rw[TW hB h];simp only[dv];rw[ih (n/B) (Nat.div_lt_self (by omega) (by omega))];exact Nat.mod_add_div n B
theorem Yx{B:Nat}(hB:2<=B)(n:Nat):YH B (ds B n):=by induction n using Nat.strongRecOn with
 |_ n ih=>
  by_cases h:n=0;·subst h;rw[Xl];exact .nil B
  ·rw[TW hB h];exact .cons (Nat.mod_lt _ (by omega)) (ih (n/B) (Nat.div_lt_self (by omega) (by omega)))
theorem Ob(B:Nat)(hB:2<=B): ∀{xs:List Nat},dv B xs=0->YZ xs=[]
 |[],_=>rfl
 |x::xs,h=>by
  simp only[dv]at h;have h1:x=0:=by omega
  have h2:dv B xs=0:=by
   have:B*dv B xs=0:=by omega
   rcases Nat.mul_eq_zero.mp this with e|e;·omega
   ·exact e
  simp[YZ,Ob B hB h2,h1]
theorem Xi{B:Nat}(hB:2<=B): ∀{xs:List Nat},YH B xs->YZ xs=ds B (dv B xs)
 |[],_=>(Xl B).symm
 |x::xs,h=>by
  have ih:=Xi hB h.tail;have hx:=h.head;by_cases h0:dv B (x::xs)=0;·rw[h0,Xl];exact Ob B hB h0
  ·have e1:(x+B*dv B xs)%B=x:=by rw[Nat.add_mul_mod_self_left];exact Nat.mod_eq_of_lt hx
   have e2:(x+B*dv B xs)/B=dv B xs:=by rw[Nat.add_mul_div_left _ _ (by omega),Nat.div_eq_of_lt hx,Nat.zero_add]
   rw[TW hB h0];simp only[dv,e1,e2];rw[<-ih];simp only[YZ];split
   ·rename_i e;split
    ·rename_i hz;exfalso;apply h0;have:dv B xs=0:=by rw[<-Wp B xs,e];rfl
     simp[dv,hz,this]
    ·rw[e]
   ·rename_i y ys e;rw[e]
theorem Pj{B:Nat}(hB:2<=B)(n:Nat):YZ (ds B n)=ds B n:=by rw[Xi hB (Yx hB n),YL hB]
theorem XI{B:Nat}(hB:2<=B): ∀{k n:Nat},n<B^k->(ds B n).length<=k
 |0,n,h=>by
  have:n=0:=by simpa using h
  subst this;rw[Xl];exact Nat.le_refl _
 |k+1,n,h=>by
  by_cases h0:n=0;·subst h0;rw[Xl];exact Nat.zero_le _
  ·rw[TW hB h0];have:n/B<B^k:=by rw[Nat.div_lt_iff_lt_mul (by omega)];rw[Nat.pow_succ]at h;exact h
   simpa using XI hB this
theorem GA{B:Nat}(hB:2<=B)(n:Nat):n<B^(ds B n).length:=by have:=Wh (Yx hB n);rwa[YL hB]at this
theorem cX{B:Nat}(hB:2<=B){n:Nat}(hn:n≠0):B^((ds B n).length-1)<=n:=by
 rcases Nat.lt_or_ge n (B^((ds B n).length-1))with h|h
 ·have:=XI hB h;have h2:(ds B n).length≠0:=by rw[TW hB hn];simp
  omega
 ·exact h
theorem Hq{B:Nat}{xs ys:List Nat}{x y:Nat}(h1:YH B xs)(h2:YH B ys)(hl:xs.length=ys.length)(h:x<y)(zs:List Nat):dv B (xs++x::zs)<dv B (ys++y::zs):=by
 rw[Yn,Yn,<-hl];simp only[dv];have a:=Wh h1;have hm:B^xs.length*(x+1+B*dv B zs)<=B^xs.length*(y+B*dv B zs):=Nat.mul_le_mul_left _ (by omega);have e:B^xs.length*(x+1+B*dv B zs)=B^xs.length*(x+B*dv B zs)+B^xs.length:=by rw[show x+1+B*dv B zs=(x+B*dv B zs)+1 by omega,Nat.mul_succ]
 omega
end Go.Proofs.YtmkfecoeghokfaaGreatDoor
namespace Go.Proofs.YtmkfecoeghokfaaGreatDoor
open Go Ev
set_option linter.unusedVariables false
set_option linter.unusedSimpArgs false
noncomputable section
set_option maxHeartbeats 2000000
set_option maxRecDepth 20000
section
attribute [-simp] Int.natCast_add Int.natCast_mul Int.natCast_ediv Int.natCast_emod Int.natCast_pow
attribute [local simp] strip ZQ Xj gW ZF Ya ZX Yb ZJ Yc Zs Zt Zg ZI Z5 ZN ZB Zk ZH Zh Ze ZC ZD YW Zo Z6 YF Yw ZK plain ZM Tr.get_set Yu Zp Yq ZV sameKind undef Zv ZG Z3 ZW parts Xw Zw Zn ZL ZS Xt Yg Zm ZP Zy ZO
section
theorem rM:Tryz.prog.underlying 30=some (.slice 101):=by kernel_rfl
theorem uNum:Tryz.prog.underlying 37=some (.slice 101):=by kernel_rfl
theorem uLst:Tryz.prog.underlying 25=some (.slice 101):=by kernel_rfl
theorem NX:Xh Tryz.prog 101=some 1:=by kernel_rfl
theorem aU64:XY Tryz.prog 101=some false:=by kernel_rfl
theorem ya:Vd Tryz.prog 30=some (101,1,8):=by kernel_rfl
theorem tNum:Vd Tryz.prog 37=some (101,1,8):=by kernel_rfl
theorem tLst:Vd Tryz.prog 25=some (101,1,8):=by kernel_rfl
theorem EF:W0 Tryz.prog 101=some (.int .u64 0):=by kernel_rfl
def LT(t:TypeId):Prop:=Tryz.prog.underlying t=some (.slice 101)/\Vd Tryz.prog t=some (101,1,8)
theorem Zu:LT 30:=⟨rM,ya⟩
theorem ZA:LT 37:=⟨uNum,tNum⟩
theorem Yh:LT 25:=⟨uLst,tLst⟩
def At(H:AH)(b o:Nat)(xs:List Nat):Prop:=b<H.n/\ ∃cs,H.cells b=some cs/\H.size b=some 1/\(∀(i x:Nat),xs[i]?=some x->cs[o+i]?=some (.int .u64 (x:Int)))/\o<=cs.length
inductive Sl(H:AH):Value->List Nat->Prop|nil:Sl H (.slice none 0 0) []|emp(b:Nat):Sl H (.slice (some ⟨b,0,some 0⟩) 0 0) []|mk(b o cap:Nat)(xs:List Nat):xs.length<=cap->At H b o xs->Sl H (.slice (some ⟨b,o,none⟩) xs.length cap) xs
structure Zj (H H' : AH) : Prop where
  n : H.n <= H'.n
  lw : min H.lw H.n <= H'.lw
  blk : ∀ j, j < H.n -> H'.blk j = H.blk j
theorem Zj.refl(H:AH):Zj H H:=⟨Nat.le_refl _,Nat.min_le_left _ _,fun _ _=>rfl⟩
theorem Zj.trans{H H1 H2:AH}(a:Zj H H1)(b:Zj H1 H2):Zj H H2:=⟨Nat.le_trans a.n b.n,by have:=a.n;have:=a.lw;have:=b.lw;omega,fun j hj=>(b.blk j (Nat.lt_of_lt_of_le hj a.n)).trans (a.blk j hj)⟩
theorem Zj.q{H H':AH}(k:Zj H H'){b:Nat}{x:Qj}(q:H.blk b=x)(h:b<H.n:=by omega):H'.blk b=x:=(k.blk b h).trans q
theorem hid{α:Sort _}(a:α): ∃x,x=a:=⟨a,rfl⟩
section
variable {P : Program} {C : Ev.Cfg} {Q : Ev.Ex -> St -> Prop}
theorem Za{i:Nat}{ops:Array Oper}{b:Code}{s:St}(h: ∀b',b'=b->Xj P C s.k (strip ops) s.tm s.H fun Y7 H'=>YQ P C b' Q .norm ⟨s.k,Y7,H'⟩):W P C (.seq (.region i ops false) b) s Q:=Zi fun b' e=>Zl (h b' e)
theorem Yd(k:Nat){f:FuncId}{fn:Func}{c:Code}{args:List Value}{H:AH}{R:Value->AH->Prop}(hf:P.funcs[f]?=some fn)(h:W P C c { k:=k,tm:=Yu 0 args .nil,H:=H } fun ex s=>(ex= .norm\/ex= .ret)/\ ∃vs,Zv P s fn.results.toList=some vs/\R (Z3 vs) s.H)(ha:Nat.beq f C.add=false:=by decide)(hs:Nat.beq f C.sub=false:=by decide)(hb:fn.body=some c:=by exact rfl)(hk:args.length+(fn.ntmps-args.length)=k:=by exact rfl)(hd:SQ c=none:=by exact rfl):CW P C f args H R:=bm k ha hs hf hb hk h hd
end
theorem At.keep{H H':AH}{b o:Nat}{xs:List Nat}(h:At H b o xs)(k:Zj H H'):At H' b o xs:=by obtain⟨h1,cs,h2,h3,h4⟩:=h;have e:=k.blk b h1;exact⟨Nat.lt_of_lt_of_le h1 k.n,cs,by unfold AH.cells;rw[e];exact h2,by unfold AH.size;rw[e];exact h3,h4⟩
theorem Sl.keep{H H':AH}{v:Value}{xs:List Nat}(h:Sl H v xs)(k:Zj H H'):Sl H' v xs:=by cases h with|nil=>exact .nil|emp b=>exact .emp b|mk b o cap xs h1 h2=>exact .mk b o cap xs h1 (h2.keep k)
theorem Sl.len{H:AH}{v:Value}{xs:List Nat}(h:Sl H v xs){t:TypeId}(ht:LT t):QI Tryz.prog t v=some xs.length:=by unfold QI;rw[ht.1];cases h<;>rfl
def adr(v:Value)(i:Nat):Value:=match v with| .slice (some ⟨b,o,none⟩) _ _=> .pointer (some ⟨b,o+i,none⟩)|_=> .pointer none
theorem Sl.adr{H:AH}{v:Value}{xs:List Nat}(h:Sl H v xs){t:TypeId}(ht:LT t){i:Nat}{k:IntKind}(hi:i<xs.length):Yi Tryz.prog t v (.int k (i:Int))=some (adr v i):=by cases h with|nil=>cases hi|emp b=>cases hi|mk b o cap xs h1 h2=>unfold Yi Go.Proofs.YtmkfecoeghokfaaGreatDoor.adr;simp only[ht.1,NX];rw[if_pos (by omega)];simp
theorem Sl.load{H:AH}{v:Value}{xs:List Nat}(h:Sl H v xs){i:Nat}(hi:i<xs.length):Z9 Tryz.prog H 101 (Go.Proofs.YtmkfecoeghokfaaGreatDoor.adr v i)=some (.int .u64 (xs[i]:Nat)):=by cases h with|nil=>cases hi|emp b=>cases hi|mk b o cap xs h1 h2=>obtain⟨_,cs,h3,h4,h5⟩:=h2;unfold Z9 Go.Proofs.YtmkfecoeghokfaaGreatDoor.adr;simp only[aU64,h3];exact h5.1 i _ (List.getElem?_eq_getElem hi)
theorem NR{n:Nat}(h:n<9223372036854775808):IntKind.i64.wrap (n:Int)=(n:Int):=by rw[IntKind.wrap_i64];omega
theorem Mx{n:Nat}(h0:0<n)(h:n<9223372036854775808):IntKind.i64.wrap ((n:Int)-1)=((n-1:Nat):Int):=by rw[IntKind.wrap_i64];omega
theorem Sl.cut{H:AH}{v:Value}{xs:List Nat}(h:Sl H v xs){t:TypeId}(ht:LT t){m:Nat}(hm:m<=xs.length)(h0:0<xs.length): ∃v',Ve Tryz.prog H t v none (some (.int .i64 (m:Int))) none=some v'/\Sl H v' (xs.take m):=by cases h with
 |nil=>cases h0
 |emp b=>cases h0
 |mk b o cap xs h1 h2=>
  have hl:(xs.take m).length=m:=by rw[List.length_take];omega
  obtain⟨iJ,cs,h3,h4,h5⟩:=h2;refine⟨.slice (some ⟨b,o,none⟩) (xs.take m).length cap,?_,.mk b o cap _ (by omega) ⟨iJ,cs,h3,h4,fun i x hx=>h5.1 i x ?_,h5.2⟩⟩;·unfold Ve;simp only[ht.1,NX];unfold Jw Xk;simp only[h4,Option.isSome_some,Option.isNone_none,Bool.true_or];rw[if_pos (by omega)];have e1:Nat.ble m cap=true:=Nat.ble_eq.mpr (by omega);simp[Xk,e1,hl]
  ·rw[List.getElem?_take]at hx;split at hx;·exact hx
   ·cases hx
attribute [local simp] strip ZQ Xj gW ZF Ya ZX Yb ZJ Yc Zs Zt Zg ZI Z5 ZN ZH Zh Z6 YF Yw ZK plain ZM Tr.get_set Yu Zp Yq ZV sameKind Zd undef Zv ZG Z3 Zu ZA Yh
theorem WA{v:Value}{xs:List Nat}{H:AH}(hs:Sl H v xs)(hlen:xs.length<1152921504606846976):CW Tryz.prog ZY 160 [v] H fun v' H'=>H'=H/\Sl H v' (YZ xs):=by
 refine Yd 21 Tryz.func160 ?_;apply Za;intro b1 Zf;simp;subst Zf;apply Zi;intro b1 Zf;apply ZR;refine I9 (fun n s=>s.k=21/\s.H=H/\ ∃v',s.tm.get 0=some v'/\n<=xs.length/\Sl H v' (xs.take n)/\YZ (xs.take n)=YZ xs) ?_ xs.length _ ⟨rfl,rfl,v,by simp,Nat.le_refl _,by rw[List.take_length];exact hs,by rw[List.take_length]⟩;rintro n ⟨k,tm,H'⟩ ⟨h2,h3,v',h4,h5,h6,h7⟩;simp only at h2 h3 h4;subst h2;subst h3;have hl:(xs.take n).length=n:=by rw[List.length_take];omega
 have Ng:=h6.len Zu;rw[hl]at Ng;apply Zi;intro b2 ZT;apply Za;intro b3 Z4;by_cases hz:n=0;·subst hz;simp[h4,Ng];subst Z4;refine Zb (t:=false) (by simp) ?_;apply YN;left;refine⟨rfl,?_⟩;subst Zf;apply Za;intro b4 Yy;simp[h4];subst Yy;apply ZZ;simp;rw[<-h7];exact h6
 ·have hn:0<n:=Nat.pos_of_ne_zero hz;have hw:IntKind.i64.wrap ((n:Int)-1)=((n-1:Nat):Int):=Mx hn (by omega);have hi:n-1<(xs.take n).length:=by omega
  have ha:=h6.adr Zu (k:= .i64) hi;have Y1:=h6.load hi;simp[h4,Ng,hn,hw,ha,Y1];subst Z4;have hx:n-1<xs.length:=by omega
  have QL:xs.take n=xs.take (n-1)++[xs[n-1]]:=by have:=List.take_append_getElem (l:=xs) (i:=n-1) hx;rw[this,show n-1+1=n by omega]
  by_cases h0:xs[n-1]=0
  ·refine Zb (t:=true) (by simp[h0]) ?_;apply Zr;subst ZT;apply ZR;apply Zl;obtain⟨v2,hv2,DL⟩:=h6.cut Zu (m:=n-1) (by omega) (by omega);simp[h4,Ng,hw,hv2];refine⟨n-1,by omega,rfl,rfl,v2,by simp,by omega,?_,?_⟩;·rw[List.take_take,show min (n-1) n=n-1 by omega]at DL;exact DL
   ·rw[<-h7,QL,h0,VM]
  ·refine Zb (t:=false) (by simp;exact h0) ?_;apply YN;left;refine⟨rfl,?_⟩;subst Zf;apply Za;intro b4 Yy;simp[h4];subst Yy;apply ZZ;simp;rw[<-h7];have:YZ (xs.take n)=xs.take n:=by rw[QL];exact SZ _ _ h0
   rw[this];exact h6
end
end
section
attribute [-simp] Int.natCast_add Int.natCast_mul Int.natCast_ediv Int.natCast_emod Int.natCast_pow
attribute [local simp] strip ZQ Xj gW ZF Ya ZX Yb ZJ Yc Zs Zt Zg ZI Z5 ZN ZB Zk ZH Zh Ze ZC ZD YW Zo Z6 YF Yw ZK plain ZM Tr.get_set Yu Zp Yq ZV sameKind undef Zv ZG Z3 Zu ZA Yh ZW parts Xw Zw Zn ZL ZS Xt Yg Zm ZP Zy ZO
section
def V6(x:Nat):Value:= .int .u64 (x:Int)
inductive Ym(n:Nat)(H:AH):Value->List Nat->Prop|nil:Ym n H (.slice none 0 0) []|mk(b o cap:Nat)(xs:List Nat)(cs:List Value):xs.length<=cap->n<=b->b<H.n->H.blk b= .rw 1 cs->o+cap<=cs.length->(∀(i x:Nat),xs[i]?=some x->cs[o+i]?=some (V6 x))->Ym n H (.slice (some ⟨b,o,none⟩) xs.length cap) xs
theorem Ym.sl{n:Nat}{H:AH}{v:Value}{xs:List Nat}(h:Ym n H v xs):Sl H v xs:=by cases h with|nil=>exact .nil|mk b o cap xs cs h1 h2 h3 h4 h5 h6=>exact .mk b o cap xs h1 ⟨h3,cs,by unfold AH.cells;rw[h4],by unfold AH.size;rw[h4],h6,by omega⟩
theorem Ym.mono{n m:Nat}{H H':AH}{v:Value}{xs:List Nat}(h:Ym n H v xs)(hn:m<=n)(k:Zj H H'):Ym m H' v xs:=by cases h with|nil=>exact .nil|mk b o cap xs cs h1 h2 h3 h4 h5 h6=>exact .mk b o cap xs cs h1 (Nat.le_trans hn h2) (Nat.lt_of_lt_of_le h3 k.n) (by rw[k.blk b h3];exact h4) h5 h6
theorem Ym.m{n:Nat}{H H':AH}{v:Value}{xs:List Nat}(h:Ym n H v xs)(k:Zj H H'):Ym n H' v xs:=h.mono Nat.le.refl k
theorem AH.blk_new(H:AH)(sz:Nat)(cs:List Value)(j:Nat):(H.new sz cs).blk j=if j=H.n then .rw sz cs else H.blk j:=by
 unfold AH.new AH.blk;simp only[Tr.get_set];by_cases e:j=H.n;·rw[if_pos e,if_pos e]
 ·rw[if_neg e,if_neg e]
theorem Zj.new(H:AH)(sz:Nat)(cs:List Value):Zj H (H.new sz cs):=⟨Nat.le_succ _,Nat.min_le_left _ _,fun j hj=>by rw[AH.blk_new,if_neg (by omega)]⟩
theorem Ym.new(H:AH)(xs:List Nat):Ym H.n (H.new 1 (xs.map V6)) (.slice (some ⟨H.n,0,none⟩) xs.length xs.length) xs:= .mk H.n 0 xs.length xs (xs.map V6) (Nat.le_refl _) (Nat.le_refl _) (Nat.lt_succ_self _) (by rw[AH.blk_new,if_pos rfl]) (by simp) (fun i x h=>by simp[h])
theorem HI{cs:List Value}{o:Nat}{xs:List Nat}(h0:0<xs.length)(h: ∀(i x:Nat),xs[i]?=some x->cs[o+i]?=some (V6 x)):o+xs.length<=cs.length/\(cs.drop o).take xs.length=xs.map V6:=by
 have hl:o+xs.length<=cs.length:=by have:=h (xs.length-1) _ (List.getElem?_eq_getElem (by omega));have:=(List.getElem?_eq_some_iff.mp this).1;omega
 refine⟨hl,List.ext_getElem? fun i=>?_⟩;rw[List.getElem?_take,List.getElem?_drop,List.getElem?_map];by_cases hi:i<xs.length;·rw[if_pos hi,List.getElem?_eq_getElem hi,Option.map_some];exact h i _ (List.getElem?_eq_getElem hi)
 ·rw[if_neg hi,List.getElem?_eq_none (by omega)];rfl
theorem Sl.cells{H:AH}{v:Value}{xs:List Nat}(h:Sl H v xs)(h0:0<xs.length):X9 H 1 v xs.length=some (xs.map V6):=by cases h with|nil=>cases h0|emp b=>cases h0|mk b o cap xs h1 h2=>obtain⟨_,cs,h3,h4,h5⟩:=h2;obtain⟨h6,h7⟩:=HI h0 h5.1;have:Nat.ble (o+xs.length) cs.length=true:=Nat.ble_eq.mpr (by omega);simp only[X9,AH.read_def,h3,this,cond_true,Nat.mul_one,h7]
theorem Sl.copyNew{H:AH}{v:Value}{xs:List Nat}(h:Sl H v xs)(hl:xs.length<=17592186044416){t t2:TypeId}(ht:LT t)(ef:LT t2): ∃v' H',XA Tryz.prog H t t2 (.slice none 0 0) v=some (v',H')/\Zj H H'/\Ym H.n H' v' xs:=by
 by_cases h0:xs.length=0;·obtain rfl:xs=[]:=List.length_eq_zero_iff.mp h0;refine⟨.slice none 0 0,H,?_,.refl H,.nil⟩;generalize hn:([]:List Nat)=ys at h;cases h with|nil=>simp[XA,ht.2,ef.2]|emp b=>simp[XA,ht.2,ef.2]|mk b o cap xs h1 h2=>subst hn;simp[XA,ht.2,ef.2]
 ·refine⟨.slice (some ⟨H.n,0,none⟩) xs.length xs.length,H.new 1 (xs.map V6),?_,.new _ _ _,.new H xs⟩;have hc:=h.cells (by omega);obtain⟨a,cap,rfl⟩: ∃a cap,v= .slice a xs.length cap:=by cases h<;>exact⟨_,_,rfl⟩
  have e1:Nat.beq xs.length 0=false:=Y9 h0;have e2:Nat.ble (xs.length*8) 140737488355328=true:=Nat.ble_eq.mpr (by omega);have e3:Nat.ble xs.length 281474976710656=true:=Nat.ble_eq.mpr (by omega);simp[XA,ht.2,ef.2,e1,e2,e3,hc,EF,Value.cells]
attribute [local simp] strip ZQ Xj gW ZF Ya ZX Yb ZJ Yc Zs Zt Zg ZI Z5 ZN ZH Zh Z6 YF Yw ZK plain ZM Tr.get_set Yu Zp Yq ZV sameKind Zd undef Zv ZG Z3 Zu ZA Yh ZW
theorem Vl{v:Value}{xs:List Nat}{H:AH}(hs:Sl H v xs)(hlen:xs.length<=17592186044416):CW Tryz.prog ZY 120 [v] H fun v' H'=>Zj H H'/\Ym H.n H' v' (YZ xs):=by refine Yd 6 Tryz.func120 ?_;obtain⟨v1,H1,Nd,e1,DM⟩:=WA hs (by omega);subst e1;obtain⟨v2,H2,ha,hk,ho⟩:=DM.copyNew (by have:=XS xs;omega) Zu Zu;apply Za;intro b1 Zf;simp;subst Zf;apply Za;intro b1 Zf;simp[Nd,ha];subst Zf;apply ZZ;simp;exact⟨hk,ho⟩
end
end
end
end Go.Proofs.YtmkfecoeghokfaaGreatDoor
namespace Go.Proofs.YtmkfecoeghokfaaGreatDoor.Ev
open Go Go.RowKit
set_option linter.unusedVariables false
set_option linter.unusedSimpArgs false
noncomputable section
set_option maxHeartbeats 2000000
set_option maxRecDepth 20000
def Nm(ops:Array Oper):Bool:=ops.toList.all fun o=>match o.op with| .load .. =>true|op=>!Zw op
theorem P4{bits b:Nat} : ∀{l:List (Nat×Nat×Bool)},(∀x∈l,x.2.2=false)->Vv bits b false l=true|[],_=>rfl|(k,b',w')::r,h=>by have h1:w'=false:=h (k,b',w') (List.mem_cons_self ..);subst h1;simp only[Vv,Bool.or_self,Bool.not_false,Bool.or_true,Bool.true_or,Bool.true_and];exact P4 fun x hx=>h x (List.mem_cons_of_mem _ hx)
section
variable {P : Program} {C : Cfg} {call : FuncId -> List Value -> AH -> Option (Value × AH)} {ops : Array Oper}
theorem SP: ∀(l:List Oper)(i:Nat)(fs:List (Nat×Nat×Bool))(s s':St),(∀x∈fs,x.2.2=false)->(∀o∈l,(match o.op with| .load .. =>true|op=>!Zw op)=true)->WH P C call ops l s=some s'->Vu P C call ops i fs l s=some s'
 |[],i,fs,s,s',hf,hl,h=>by rw[Sm]at h;simp only[Vu];exact h
 |o::rest,i,fs,s,s',hf,hl,h=>by
  have ho:=hl o (List.mem_cons_self ..);have MQ:=fun o' h'=>hl o' (List.mem_cons_of_mem _ h');rw[Wi]at h;simp only[Vu];split at h<;>first|(cases h;done)|skip
  ·split at h<;>first|(cases h;done)|skip
   rename_i v H1 YB;split at h<;>first|(cases h;done)|skip
   rename_i s1 YT;cases hh:Zw o.op with
    |false=>
     have hm:XN C s.tm o.op=some none:=by
      unfold XN;split;·rename_i e;rw[e]at hh;cases hh
      ·rename_i e;rw[e]at hh;cases hh
      ·rw[hh];rfl
     have hH:ZF P C call s.tm s.H o.op=some (v,s.H):=T9 hh YB s.H;rw[hH]at YB;cases YB;simp only[hm,hH,YT];exact SP rest _ _ s1 s' hf MQ h
    |true=>
     split at ho
     ·rename_i t x e;rw[e]at YB;simp only[ZF,Z5]at YB;split at YB<;>first|(cases YB;done)|skip
      rename_i a ha;split at YB<;>first|(cases YB;done)|skip
      rename_i v' hv;cases YB;obtain⟨b,off,rfl⟩: ∃b off,a= .pointer (some ⟨b,off,none⟩):=by
       unfold Z9 at hv;split at hv;·exact⟨_,_,rfl⟩
       ·cases hv
      have hm:XN C s.tm o.op=some (some (b,false)):=by rw[e];simp only[XN,ha]
      have JU:ZF P C call s.tm s.H o.op=some (v,s.H):=by rw[e];simp only[ZF,Z5,ha,hv]
      simp only[hm,P4 hf,cond_true,JU,YT];exact SP rest _ _ s1 s' (fun x hx=>by
       rcases List.mem_cons.mp hx with e|e;·rw[e]
       ·exact hf x e) MQ h
     ·rw[hh]at ho;cases ho
  ·split at h<;>first|(cases h;done)|skip
   rename_i s1 YT;try simp only[YT]
   exact SP rest _ _ s1 s' hf MQ h
end
section
variable {P : Program} {C : Cfg} {Q : Ex -> St -> Prop}
theorem HG{ops:Array Oper}(h:Nm ops=true):Ws ops=true:=by unfold Nm at h;unfold Ws;rw[List.all_eq_true]at h⊢;intro o ho;have:=h o ho;revert this;cases o.op<;>simp
theorem SR{i:Nat}{ops:Array Oper}{s:St}(hd:(Nm ops&&VC ops)=true)(h:Xj P C s.k (strip ops) s.tm s.H fun Y7 H'=>Q .norm ⟨s.k,Y7,H'⟩):W P C (.region i ops true) s Q:=by
 rw[Bool.and_eq_true]at hd;obtain⟨k,tm,H⟩:=s;obtain⟨Y7,H',h1,h2⟩:=Pe (ops:=ops) ops.toList tm H _ h;refine⟨.norm,⟨k,Y7,H'⟩,?_,h2⟩;rw[VW];simp only[XO];rw[XF]at h1;have:YI P C (YG P C (SY P C)) ops true ⟨k,tm,H⟩=some ⟨k,Y7,H'⟩:=by unfold YI;rw[HG hd.1,hd.2];simp only[Bool.and_self,cond_true];refine SP _ _ _ _ _ (fun x hx=>by cases hx) (fun o ho=>?_) h1;have:=hd.1;unfold Nm at this;rw[List.all_eq_true]at this;exact this o ho
 rw[this]
def Zz:Op->Bool| .store .. =>true|_=>false
def Px(ops:Array Oper):Bool:=Ws ops&&VC ops&&(List.range ops.size).all fun i=>match ops[i]? with|some o=>!Zz o.op||alone ops i|none=>true
theorem MH{bits b:Nat}{w:Bool} : ∀{l:List (Nat×Nat×Bool)},(∀x∈l,(w||x.2.2)=true->bits.testBit x.1=true)->Vv bits b w l=true
 |[],_=>rfl
 |(k,b',w')::r,h=>by have h1:=h (k,b',w') (List.mem_cons_self ..);simp only[Vv,Bool.and_eq_true,Bool.or_eq_true,Bool.not_eq_true'];refine⟨?_,MH fun x hx=>h x (List.mem_cons_of_mem _ hx)⟩;cases hw:(w||w')with|false=>exact .inl (.inr rfl)|true=>exact .inr (h1 hw)
theorem Sn{call:FuncId->List Value->AH->Option (Value×AH)}{ops:Array Oper}(hm:Px ops=true): ∀(l:List Oper)(i:Nat)(fs:List (Nat×Nat×Bool))(s s':St),(∀j,l[j]?=ops[i+j]?)->(∀x∈fs,x.1<i/\ ∃o,ops[x.1]?=some o/\Zw o.op=true/\x.2.2=Zz o.op)->WH P C call ops l s=some s'->Vu P C call ops i fs l s=some s'
 |[],i,fs,s,s',hl,hf,h=>by rw[Sm]at h;simp only[Vu];exact h
 |o::rest,i,fs,s,s',hl,hf,h=>by
  have h0:ops[i]?=some o:=by simpa using(hl 0).symm
  have MQ: ∀j,rest[j]?=ops[i+1+j]?:=fun j=>by have:=hl (j+1);simpa[Nat.add_assoc,Nat.add_comm 1 j]using this
  have pX: ∀x∈fs,x.1<i+1/\ ∃o,ops[x.1]?=some o/\Zw o.op=true/\x.2.2=Zz o.op:=fun x hx=>⟨Nat.lt_succ_of_lt (hf x hx).1,(hf x hx).2⟩;unfold Px at hm;rw[Bool.and_eq_true,Bool.and_eq_true]at hm;have mH: ∀k ok,ops[k]?=some ok->Zz ok.op=true->alone ops k=true:=fun k ok hk hs=>by have:=hm.2;rw[List.all_eq_true]at this;have:=this k (by simpa using Yp hk);rw[hk]at this;simpa[hs]using this
  have ho:(match o.op with| .load .. =>true| .store .. =>true|op=>!Zw op)=true:=by have:=hm.1.1;unfold Ws at this;rw[List.all_eq_true]at this;exact this o (by rw[<-Array.getElem?_toList]at h0;exact List.mem_of_getElem? h0)
  have clear: ∀b,Zw o.op=true->Vv ((before ops).getD i 0) b (Zz o.op) fs=true:=fun b hh=>MH fun x hx hw=>by obtain⟨h1,ok,h2,h3,h4⟩:=hf x hx;rw[h4]at hw;cases hs:Zz o.op with|true=>exact(Oe (mH i o h0 hs) h2 (by omega) h3).1 h1|false=>rw[hs,Bool.false_or]at hw;exact(Oe (mH x.1 ok h2 hw) h0 (by omega) hh).2 h1
  have Lg:Px ops=true:=by unfold Px;rw[Bool.and_eq_true,Bool.and_eq_true];exact hm
  rw[Wi]at h;simp only[Vu];split at h<;>first|(cases h;done)|skip
  ·split at h<;>first|(cases h;done)|skip
   rename_i v H1 YB;split at h<;>first|(cases h;done)|skip
   rename_i s1 YT;cases hh:Zw o.op with
    |false=>
     have Mc:XN C s.tm o.op=some none:=by
      unfold XN;split;·rename_i e;rw[e]at hh;cases hh
      ·rename_i e;rw[e]at hh;cases hh
      ·rw[hh];rfl
     have hH:ZF P C call s.tm s.H o.op=some (v,s.H):=T9 hh YB s.H;rw[hH]at YB;cases YB;simp only[Mc,hH,YT];exact Sn Lg rest _ _ s1 s' MQ pX h
    |true=>
     split at ho
     ·rename_i t x e;have pN:=YB;rw[e]at YB;simp only[ZF,Z5]at YB;split at YB<;>first|(cases YB;done)|skip
      rename_i a ha;split at YB<;>first|(cases YB;done)|skip
      rename_i v' hv;obtain⟨b,off,rfl⟩: ∃b off,a= .pointer (some ⟨b,off,none⟩):=by
       unfold Z9 at hv;split at hv;·exact⟨_,_,rfl⟩
       ·cases hv
      have Mc:XN C s.tm o.op=some (some (b,false)):=by rw[e];simp only[XN,ha]
      have hc:=clear b hh;rw[show Zz o.op=false by rw[e];rfl]at hc;simp only[Mc,hc,cond_true,pN,YT];exact Sn Lg rest _ _ s1 s' MQ (fun x hx=>by
       rcases List.mem_cons.mp hx with e1|e1;·rw[e1];exact⟨Nat.lt_succ_self _,o,h0,hh,by rw[e];rfl⟩
       ·exact pX x e1) h
     ·rename_i t x y e;have pN:=YB;rw[e]at YB;simp only[ZF,ZN]at YB;split at YB<;>first|(cases YB;done)|skip
      rename_i a a' ha ha';split at YB<;>first|(cases YB;done)|skip
      rename_i H' hv;obtain⟨b,off,rfl⟩: ∃b off,a= .pointer (some ⟨b,off,none⟩):=by
       unfold YV at hv;split at hv;·exact⟨_,_,rfl⟩
       ·cases hv
      have Mc:XN C s.tm o.op=some (some (b,true)):=by rw[e];simp only[XN,ha]
      have hc:=clear b hh;rw[show Zz o.op=true by rw[e];rfl]at hc;simp only[Mc,hc,cond_true,pN,YT];exact Sn Lg rest _ _ s1 s' MQ (fun x hx=>by
       rcases List.mem_cons.mp hx with e1|e1;·rw[e1];exact⟨Nat.lt_succ_self _,o,h0,hh,by rw[e];rfl⟩
       ·exact pX x e1) h
     ·rw[hh]at ho;cases ho
  ·split at h<;>first|(cases h;done)|skip
   rename_i s1 YT;try simp only[YT]
   exact Sn Lg rest _ _ s1 s' MQ pX h
theorem lM{i:Nat}{ops:Array Oper}{s:St}(hd:Px ops=true)(h:Xj P C s.k (strip ops) s.tm s.H fun Y7 H'=>Q .norm ⟨s.k,Y7,H'⟩):W P C (.region i ops true) s Q:=by
 obtain⟨k,tm,H⟩:=s;obtain⟨Y7,H',h1,h2⟩:=Pe (ops:=ops) ops.toList tm H _ h;refine⟨.norm,⟨k,Y7,H'⟩,?_,h2⟩;rw[VW];simp only[XO];rw[XF]at h1;have:YI P C (YG P C (SY P C)) ops true ⟨k,tm,H⟩=some ⟨k,Y7,H'⟩:=by have yF:=hd;unfold Px at yF;rw[Bool.and_eq_true,Bool.and_eq_true]at yF;unfold YI;rw[yF.1.1,yF.1.2];simp only[Bool.and_self,cond_true];exact Sn hd _ _ _ _ _ (fun j=>by simp) (fun x hx=>by cases hx) h1
 rw[this]
def PM(H:AH)(bits:Nat)(ms:List (Nat×Nat×Nat)):AH:= { n:=H.n,lw:=H.n,t:=UN H.t (hidden bits ms) }
def grown(H H2:AH):AH:= { n:=H2.n,lw:=H.lw,t:=Od H.t H2 H.n (H2.n-H.n) }
def Yf(ops:Array Oper)(o:Oper):Option (Option Tmp×Bool):=match o.guard with|none=>none|some (j,b)=>some ((ops[j]?).bind (·.dst),b)
theorem VL{ops:Array Oper}{tm:Tr Value}{o:Oper} :Y2 ops tm o=gW tm (Yf ops o):=Fq
def DG(X:Xs)(P:Program)(C:Cfg)(ops:Array Oper)(k i:Nat)(q:Bool)(ms:List (Nat×Nat×Nat))(l:List Oper)(tm:Tr Value)(H:AH)(K:Tr Value->AH->Prop):Prop:= ∃Y7 H',Xo X P C (ZU P C) ops i q ms l ⟨k,tm,H⟩=some ⟨k,Y7,H'⟩/\K Y7 H'
def DW(X:Xs)(P:Program)(C:Cfg)(ops:Array Oper)(k:Nat):Nat->Bool->List (Nat×Nat×Nat)->List Oper->Tr Value->AH->(Tr Value->AH->Prop)->Prop
 |_,_,_,[],tm,H,K=>K tm H
 |i,q,ms,o::r,tm,H,K=>match gW tm (Yf ops o)with
  |some true=>match Zw o.op with
   |true=>DG X P C ops k i q ms (o::r) tm H K
   |false=>match ZF P C (ZU P C) tm H o.op with
    |some (v,_)=>match o.dst with|none=>DW X P C ops k (i+1) q ms r tm H K|some d=>d<k/\DW X P C ops k (i+1) q ms r (tm.set d v) H K
    |none=>False
  |some false=>match o.dst with|none=>DW X P C ops k (i+1) q ms r tm H K|some d=>d<k/\DW X P C ops k (i+1) q ms r (tm.set d undef) H K
  |none=>False
variable {X : Xs} {ops : Array Oper} {k i : Nat} {q : Bool} {ms : List (Nat × Nat × Nat)} {tm : Tr Value} {H : AH} {K : Tr Value -> AH -> Prop}
theorem Ud{o:Oper}{v:Value}{H1:AH}{K1:Tr Value->Prop}(h:match o.dst with|none=>K1 tm|some d=>d<k/\K1 (tm.set d v)): ∃SS,(St.put ⟨k,tm,H⟩ o.dst v H1)=some ⟨k,SS,H1⟩/\K1 SS:=by cases hd:o.dst with
 |none=>rw[hd]at h;exact⟨tm,rfl,h⟩
 |some d=>
  rw[hd]at h;have:Nat.blt d k=true:=by rw[Nat.blt_eq];exact h.1
  exact⟨tm.set d v,by simp only[St.put,QB,this,cond_true],h.2⟩
theorem Xu(n:Nat):Nat.blt n n=false:=by cases hb:Nat.blt n n with|false=>rfl|true=>rw[Nat.blt_eq]at hb;omega
theorem OK: ∀(l:List Oper)(i:Nat)(q:Bool)(ms:List (Nat×Nat×Nat))(tm:Tr Value)(H:AH),DW X P C ops k i q ms l tm H K->DG X P C ops k i q ms l tm H K
 |[],i,q,ms,tm,H,h=>⟨tm,H,by simp only[Xo],h⟩
 |o::r,i,q,ms,tm,H,h=>by
  simp only[DW]at h;split at h
  ·rename_i hg;split at h;·exact h
   ·rename_i hh;split at h;·rename_i v H2 YB;obtain⟨SS,YT,hl⟩:=Ud (H:=H) (H1:=H) (K1:=fun tm=>DW X P C ops k (i+1) q ms r tm H K) h;obtain⟨Y7,H',h1,h2⟩:=OK r (i+1) q ms SS H hl;refine⟨Y7,H',?_,h2⟩;simp only[Xo];rw[VL,hg];simp only[Y5,hh,cond_false,YB,YT,Xu];exact h1
    ·exact h.elim
  ·rename_i hg;obtain⟨SS,YT,hl⟩:=Ud (H:=H) (H1:=H) (K1:=fun tm=>DW X P C ops k (i+1) q ms r tm H K) h;obtain⟨Y7,H',h1,h2⟩:=OK r (i+1) q ms SS H hl;refine⟨Y7,H',?_,h2⟩;simp only[Xo];rw[VL,hg];simp only[YT];exact h1
  ·exact h.elim
theorem Y8{id:Nat}{s:St}(hd:(!Ws ops&&VC ops&&!isSplit C ops)=true)(h:DW (X0 ops) P C ops s.k 0 false [] ops.toList s.tm s.H fun Y7 H'=>Q .norm ⟨s.k,Y7,H'⟩):W P C (.region id ops true) s Q:=by
 obtain⟨k,tm,H⟩:=s;obtain⟨Y7,H',h1,h2⟩:=OK _ _ _ _ _ _ h;refine⟨.norm,⟨k,Y7,H'⟩,?_,h2⟩;rw[VW];simp only[XO];rw[XF]at h1;rw[Bool.and_eq_true,Bool.and_eq_true]at hd;have hm:Ws ops=false:=by simpa using hd.1.1
 have hs:isSplit C ops=false:=by simpa using hd.2
 have:YI P C (YG P C (SY P C)) ops true ⟨k,tm,H⟩=some ⟨k,Y7,H'⟩:=by unfold YI WG;rw[hm,hs,hd.1.2];simp only[Bool.and_false,cond_false,cond_true];exact h1
 rw[this]
theorem CJ{id:Nat}{s:St}{fl z b sz:Nat}{cs cs2:List Value}{v:Value}{o1 oz:Oper}(hd:(!Ws ops&&isSplit C ops&&VD ops)=true)(Gv:YE ops=fl)(hz:ops.size-1=z)(h1:ops[fl]?=some o1)(hz1:ops[z]?=some oz)(hb:s.H.blk b= .rw sz cs)(UM: ∃SS w,UO P C (ZU P C) ops (ops.toList.take fl) s=some ⟨s.k,SS,s.H⟩/\XN C SS o1.op=some (some (b,w))/\ZF P C (ZU P C) SS (only s.H b (.rw sz cs)) o1.op=some (v,only s.H b (.rw sz cs)))(h:DW (Xf ops v) P C ops s.k 0 false [] ops.toList s.tm { n:=s.H.n,lw:=s.H.lw,t:=s.H.t.set b .dead } fun yc H3=> ∃H4,ZF P C (ZU P C) yc (only H3 b (.rw sz cs)) oz.op=some (.tuple #[],H4)/\H4.blk b= .rw sz cs2/\H4.lw<=b/\H4.n=H3.n/\Q .norm ⟨s.k,yc,{ n:=H3.n,lw:=min H3.lw H4.lw,t:=H3.t.set b (.rw sz cs2) }⟩):W P C (.region id ops true) s Q:=by
 obtain⟨k,tm,H⟩:=s;obtain⟨SS,w,p1,p2,p3⟩:=UM;obtain⟨yc,H3,g1,H4,g2,g3,g4,g5,g6⟩:=OK _ _ _ _ _ _ h;refine⟨.norm,_,?_,g6⟩;rw[VW];simp only[XO];rw[XF]at p1 p3 g1 g2;rw[Bool.and_eq_true,Bool.and_eq_true]at hd;have hm:Ws ops=false:=by simpa using hd.1.1
 have e1:Nat.beq sz sz=true:=Nat.beq_refl _;have e2:Nat.ble H4.lw b=true:=Nat.ble_eq.mpr g4;have e3:Nat.beq H4.n H3.n=true:=by rw[g5];exact Nat.beq_refl _
 have:YI P C (YG P C (SY P C)) ops true ⟨k,tm,H⟩=some ⟨k,yc,{ n:=H3.n,lw:=min H3.lw H4.lw,t:=H3.t.set b (.rw sz cs2) }⟩:=by unfold YI;rw[hm,hd.1.2];simp only[Bool.and_false,cond_false,Bool.and_self,cond_true];unfold V9 V4;rw[hd.2,cond_true,cond_true,Gv,hz,h1,hz1,p1];simp only[p2,hb,p3,g1,g2,g3,e1,e2,e3,Bool.and_self,cond_true]
 rw[this]
theorem Z7{o:Oper}{r:List Oper}{v:Value}(hg:gW tm (Yf ops o)=some true)(hh:Zw o.op=true)(hq:q=false)(he:ZF P C (ZU P C) tm (PM H ((before ops).getD i 0) ms) o.op=some (v,PM H ((before ops).getD i 0) ms))(h:match o.dst with|none=>DW X P C ops k (i+1) q ms r tm H K|some d=>d<k/\DW X P C ops k (i+1) q ms r (tm.set d v) H K)(hf:X.fv i=none:=by first|rfl|kernel_rfl):DG X P C ops k i q ms (o::r) tm H K:=by
 obtain⟨SS,YT,hl⟩:=Ud (H:=H) (H1:=H) (K1:=fun tm=>DW X P C ops k (i+1) q ms r tm H K) h;obtain⟨Y7,H',h1,h2⟩:=OK r (i+1) q ms SS H hl;refine⟨Y7,H',?_,h2⟩;subst hq;have YB:Y5 X P C (ZU P C) ops i false ms ⟨k,tm,H⟩ o=some (v,H,false):=by unfold Y5;rw[hh,cond_true,hf];simp only;have uA:ZF P C (ZU P C) tm { n:=H.n,lw:=H.n,t:=UN H.t (hidden ((before ops).getD i 0) ms) } o.op=some (v,{ n:=H.n,lw:=H.n,t:=UN H.t (hidden ((before ops).getD i 0) ms) }):=he;rw[uA];have:Nat.ble H.n H.n=true:=Nat.ble_eq.mpr (Nat.le_refl _);simp only[this,cond_true,Bool.not_false,Bool.and_self,Nat.sub_self,Od]
 simp only[Xo];rw[VL,hg];simp only[YB,YT,Xu,cond_false];exact h1
theorem OJ{o:Oper}{r:List Oper}{v:Value}(hg:gW tm (Yf ops o)=some true)(hh:Zw o.op=true)(hf:X.fv i=some v)(h:match o.dst with|none=>DW X P C ops k (i+1) q ms r tm H K|some d=>d<k/\DW X P C ops k (i+1) q ms r (tm.set d v) H K):DG X P C ops k i q ms (o::r) tm H K:=by
 obtain⟨SS,YT,hl⟩:=Ud (H:=H) (H1:=H) (K1:=fun tm=>DW X P C ops k (i+1) q ms r tm H K) h;obtain⟨Y7,H',h1,h2⟩:=OK r (i+1) q ms SS H hl;refine⟨Y7,H',?_,h2⟩;have YB:Y5 X P C (ZU P C) ops i q ms ⟨k,tm,H⟩ o=some (v,H,q):=by unfold Y5;rw[hh,cond_true,hf]
 simp only[Xo];rw[VL,hg];simp only[YB,YT,Xu,cond_false];exact h1
theorem YJ{o:Oper}{r:List Oper}{v:Value}{H2:AH}(hg:gW tm (Yf ops o)=some true)(hh:Zw o.op=true)(hq:q=false)(he:ZF P C (ZU P C) tm (PM H ((before ops).getD i 0) ms) o.op=some (v,H2))(hn:H.n<=H2.n)(Nh:H.n<=H2.lw)(h:match o.dst with|none=>DW X P C ops k (i+1) q (cond (Nat.blt H.n H2.n) ((i,H.n,H2.n)::ms) ms) r tm (grown H H2) K|some d=>d<k/\DW X P C ops k (i+1) q (cond (Nat.blt H.n H2.n) ((i,H.n,H2.n)::ms) ms) r (tm.set d v) (grown H H2) K)(hf:X.fv i=none:=by first|rfl|kernel_rfl):DG X P C ops k i q ms (o::r) tm H K:=by
 obtain⟨SS,YT,hl⟩:=Ud (H:=H) (H1:=grown H H2) (K1:=fun tm=>DW X P C ops k (i+1) q (cond (Nat.blt H.n H2.n) ((i,H.n,H2.n)::ms) ms) r tm (grown H H2) K) h;obtain⟨Y7,H',h1,h2⟩:=OK r (i+1) q _ SS _ hl;refine⟨Y7,H',?_,h2⟩;subst hq;have YB:Y5 X P C (ZU P C) ops i false ms ⟨k,tm,H⟩ o=some (v,grown H H2,false):=by unfold Y5;rw[hh,cond_true,hf];simp only;have uA:ZF P C (ZU P C) tm { n:=H.n,lw:=H.n,t:=UN H.t (hidden ((before ops).getD i 0) ms) } o.op=some (v,H2):=he;rw[uA];have e1:Nat.ble H.n H2.n=true:=Nat.ble_eq.mpr hn;have e2:Nat.ble H.n H2.lw=true:=Nat.ble_eq.mpr Nh;simp only[e1,e2,cond_true,Bool.not_false,Bool.and_self];rfl
 simp only[Xo];rw[VL,hg];simp only[YB,YT];exact h1
theorem YO{o:Oper}{r:List Oper}{v:Value}{H2:AH}(hg:gW tm (Yf ops o)=some true)(hh:Zw o.op=true)(ha:X.al i=true)(pT:hidden ((before ops).getD i 0) ms=[])(he:ZF P C (ZU P C) tm { n:=H.n,lw:=H.n,t:=H.t } o.op=some (v,H2))(hn:H.n<=H2.n)(Nh:H2.lw<H.n)(h:match o.dst with|none=>DW X P C ops k (i+1) true (cond (Nat.blt H.n H2.n) ((i,H.n,H2.n)::ms) ms) r tm { n:=H2.n,lw:=min H.lw H2.lw,t:=H2.t } K|some d=>d<k/\DW X P C ops k (i+1) true (cond (Nat.blt H.n H2.n) ((i,H.n,H2.n)::ms) ms) r (tm.set d v) { n:=H2.n,lw:=min H.lw H2.lw,t:=H2.t } K)(hf:X.fv i=none:=by first|rfl|kernel_rfl):DG X P C ops k i q ms (o::r) tm H K:=by
 obtain⟨SS,YT,hl⟩:=Ud (H:=H) (H1:= { n:=H2.n,lw:=min H.lw H2.lw,t:=H2.t }) (K1:=fun tm=>DW X P C ops k (i+1) true (cond (Nat.blt H.n H2.n) ((i,H.n,H2.n)::ms) ms) r tm { n:=H2.n,lw:=min H.lw H2.lw,t:=H2.t } K) h;obtain⟨Y7,H',h1,h2⟩:=OK r (i+1) true _ SS _ hl;refine⟨Y7,H',?_,h2⟩;have YB:Y5 X P C (ZU P C) ops i q ms ⟨k,tm,H⟩ o=some (v,{ n:=H2.n,lw:=min H.lw H2.lw,t:=H2.t },true):=by
  unfold Y5;rw[hh,cond_true,hf];simp only[pT,UN];rw[he];have e1:Nat.ble H.n H2.n=true:=Nat.ble_eq.mpr hn;have e2:Nat.ble H.n H2.lw=false:=by cases hb:Nat.ble H.n H2.lw with|false=>rfl|true=>have:=Nat.le_of_ble_eq_true hb;omega
  simp only[e1,e2,cond_true,Bool.and_false,cond_false,ha,List.isEmpty_nil,Bool.and_self]
 simp only[Xo];rw[VL,hg];simp only[YB,YT];exact h1
theorem YS{b:Code}(I:Nat->St->Prop)(h: ∀n s,I n s-> ∀Q':Ex->St->Prop,(∀e s',TI I n Q e s'->Q' e s')->W P C b s Q')(n:Nat)(s:St)(hI:I n s):W P C (.loop b) s Q:=I9 I (fun n s hI=>h n s hI _ (fun _ _ h=>h)) n s hI
theorem NL(R:St->Prop){a b:Code}{s:St}(h1:W P C a s fun e s'=>e= .norm/\R s')(h2: ∀s',R s'->W P C b s' Q):W P C (.seq a b) s Q:=by refine Zi fun b' hb=>h1.mono ?_;rintro e s' ⟨rfl,hr⟩;subst hb;exact h2 s' hr
end
end
end Go.Proofs.YtmkfecoeghokfaaGreatDoor.Ev
namespace Go.Proofs.YtmkfecoeghokfaaGreatDoor
open Go Ev
set_option linter.unusedVariables false
set_option linter.unusedSimpArgs false
noncomputable section
set_option maxHeartbeats 2000000
set_option maxRecDepth 20000
section
attribute [-simp] Int.natCast_add Int.natCast_mul Int.natCast_ediv Int.natCast_emod Int.natCast_pow
attribute [local simp] strip ZQ Xj gW ZF Ya ZX Yb ZJ Yc Zs Zt Zg ZI Z5 ZN ZB Zk ZH Zh Ze ZC ZD YW Zo Z6 YF Yw ZK plain ZM Tr.get_set Yu Zp Yq ZV sameKind undef Zv ZG Z3 Zu ZA Yh ZW parts Xw DW Yf Zw Zz Zn ZL ZS Xt Yg Zm ZP Zy ZO
section
abbrev Zc:Nat:=18446744073709551616
theorem Z2:2<=Zc:=by decide
def Wn(a b:Nat):Int:=if a<b then-1 else if b<a then 1 else 0
theorem ND{xs ys:List Nat}(hx:YZ xs=xs)(hy:YZ ys=ys)(dx:YH Zc xs)(dy:YH Zc ys)(h:xs.length<ys.length):dv Zc xs<dv Zc ys:=by
 have h1:=Wh dx;have e:ys=ds Zc (dv Zc ys):=by rw[<-Xi Z2 dy,hy]
 have Tl:dv Zc ys≠0:=by intro h0;rw[h0,Xl]at e;rw[e]at h;simp at h
 have h2:=cX Z2 Tl;rw[<-e]at h2;have h3:Zc^xs.length<=Zc^(ys.length-1):=Nat.pow_le_pow_right (by decide) (by omega);omega
attribute [local simp] strip ZQ Xj gW ZF Ya ZX Yb ZJ Yc Zs Zt Zg ZI Z5 ZN ZH Zh Z6 YF Yw ZK plain ZM Tr.get_set Yu Zp Yq ZV sameKind Zd undef Zv ZG Z3 Zu ZA Yh ZW
theorem UR{va vb:Value}{xs ys:List Nat}{H:AH}(ha:Sl H va xs)(hb:Sl H vb ys)(dx:YH Zc xs)(dy:YH Zc ys)(lx:xs.length<=17592186044416)(ly:ys.length<=17592186044416):CW Tryz.prog ZY 162 [va,vb] H fun v H'=>H'=H/\v= .int .i64 (Wn (dv Zc xs) (dv Zc ys)):=by
 refine Yd 45 Tryz.func162 ?_;obtain⟨v1,H1,Nd,e1,s1⟩:=WA ha (by omega);obtain⟨v2,H2,Jm,e2,s2⟩:=WA hb (by omega);subst e1;subst e2;rw[<-Wp Zc xs,<-Wp Zc ys];have tx:=Sz xs;have ty:=Sz ys;have dx:=XT dx;have dy:=XT dy;have lx:(YZ xs).length<=17592186044416:=Nat.le_trans (XS xs) lx;have ly:(YZ ys).length<=17592186044416:=Nat.le_trans (XS ys) ly;generalize YZ xs=xs at*;generalize YZ ys=ys at*;have l1:=s1.len Zu;have l2:=s2.len Zu;apply Za;intro b1 Zf;simp;subst Zf;apply Za;intro b1 Zf;simp[Nd,Jm];subst Zf;apply Zi;intro b1 Zf;apply Za;intro b2 ZT;simp[l1,l2];subst ZT;by_cases hl:xs.length=ys.length
 ·refine Zb (t:=false) (by simp[hl]) ?_;apply Zr;subst Zf;apply Zi;intro b1 Zf;apply Zi;intro b2 ZT;have js:IntKind.i64.wrap ((xs.length:Int)-1)=(xs.length:Int)-1:=by rw[IntKind.wrap_i64];omega
  apply Zl;simp[l1,js];subst ZT;apply ZR;refine I9 (fun n s=>s.k=45/\s.H=H2/\s.tm.get 0=some v1/\s.tm.get 1=some v2/\s.tm.get 5=some (.int .i64 ((n:Int)-1))/\n<=xs.length/\xs.drop n=ys.drop n) ?_ xs.length _ ⟨rfl,rfl,by simp,by simp,by simp,Nat.le_refl _,by rw[List.drop_length,hl,List.drop_length]⟩;rintro n ⟨k,tm,H'⟩ ⟨h2,h3,h4,h5,h6,h7,h8⟩;simp only at h2 h3 h4 h5 h6;subst h2;subst h3;apply Zi;intro b2 ZT;apply Za;intro b3 Z4;simp[h4,h5,h6];subst Z4;have e44:xs.drop n=ys.drop n:=h8;by_cases hz:n=0
  ·subst hz;refine Zb (t:=false) (by simp) ?_;apply YN;left;refine⟨rfl,?_⟩;subst Zf;apply Za;intro b4 Yy;simp;subst Yy;apply ZZ;have:xs=ys:=by simpa using h8
   simp[Wn,this]
  ·have e:(n:Int)-1=((n-1:Nat):Int):=by omega
   refine Zb (t:=true) (by simp;omega) ?_;apply Zr;subst ZT;have i1:n-1<xs.length:=by omega
   have i2:n-1<ys.length:=by omega
   have a1:=s1.adr Zu (k:= .i64) i1;have a2:=s2.adr Zu (k:= .i64) i2;have d1:=s1.load i1;have d2:=s2.load i2;rw[e]at h6;have sx:xs=xs.take (n-1)++xs[n-1]::xs.drop n:=by have:=List.take_append_drop (n-1) xs;rw[List.drop_eq_getElem_cons i1,show n-1+1=n by omega]at this;exact this.symm
   have sy:ys=ys.take (n-1)++ys[n-1]::ys.drop n:=by have:=List.take_append_drop (n-1) ys;rw[List.drop_eq_getElem_cons i2,show n-1+1=n by omega]at this;exact this.symm
   have wA:(xs.take (n-1)).length=(ys.take (n-1)).length:=by simp[List.length_take,hl]
   apply Zi;intro b4 Yy;apply ZR;apply Zi;intro b5 SV;apply Zi;intro b6 QN;apply SR (by kernel_rfl);simp[h4,h5,h6,a1,a2,d1,d2];subst QN;by_cases YX:xs[n-1]<ys[n-1]
   ·refine Zb (t:=true) (by simp;omega) ?_;apply Za;intro b7 iA;simp;subst iA;apply ZZ;have hd:dv Zc xs<dv Zc ys:=by rw[sx,sy,h8];exact Hq (dx.take _) (dy.take _) wA YX _
    simp[YQ,Yv,TI,Wn,hd]
   ·refine Zb (t:=false) (by simp;omega) ?_;apply Zr;subst SV;apply Zi;intro b6 QN;apply SR (by kernel_rfl);simp[h4,h5,h6,a1,a2,d1,d2];subst QN;by_cases vY:ys[n-1]<xs[n-1]
    ·refine Zb (t:=true) (by simp;omega) ?_;apply Za;intro b7 iA;simp;subst iA;apply ZZ;have hd:dv Zc ys<dv Zc xs:=by rw[sx,sy,h8];exact Hq (dy.take _) (dx.take _) wA.symm vY _
     have Jn: ¬dv Zc xs<dv Zc ys:=by omega
     simp[YQ,Yv,TI,Wn,hd,Jn]
    ·refine Zb (t:=false) (by simp;omega) ?_;apply Zr;subst Yy;have Lj:IntKind.i64.wrap (((n-1:Nat):Int)-1)=((n-1:Nat):Int)-1:=by rw[IntKind.wrap_i64];omega
     apply Zl;simp[h6,Lj];refine⟨n-1,by omega,rfl,rfl,?_⟩;simp[h4,h5];refine⟨by omega,?_⟩;rw[List.drop_eq_getElem_cons i1,List.drop_eq_getElem_cons i2,show n-1+1=n by omega,h8];congr 1;omega
 ·refine Zb (t:=true) (by simp;omega) ?_;apply Zi;intro b2 ZT;apply Za;intro b3 Z4;simp[l1,l2];subst Z4;by_cases YX:xs.length<ys.length;·refine Zb (t:=true) (by simp;omega) ?_;apply Za;intro b3 Z4;simp;subst Z4;apply ZZ;have:=ND tx ty dx dy YX;simp[YQ,Wn,this]
  ·refine Zb (t:=false) (by simp;omega) ?_;apply Zr;subst ZT;apply Za;intro b2 ZT;simp;subst ZT;apply ZZ;have:=ND ty tx dy dx (by omega);have h2: ¬dv Zc xs<dv Zc ys:=by omega
   simp[YQ,Wn,this,h2]
end
section
def Zq(n:Nat):Nat:=if n=0 then 0 else Nat.log2 n+1
theorem Ww(n:Nat):n<2^Zq n:=by
 unfold Zq;split;·omega
 ·exact Nat.lt_log2_self
theorem WN{n:Nat}(h:n≠0):2^(Zq n-1)<=n:=by unfold Zq;rw[if_neg h];exact Nat.log2_self_le h
theorem B5{n k:Nat}(h1:n<2^k)(h2:k=0\/2^(k-1)<=n):Zq n=k:=by
 rcases h2 with h2|h2
 ·subst h2;have:n=0:=by simpa using h1
  subst this;rfl
 ·have hn:n≠0:=by have:=Nat.two_pow_pos (k-1);omega
  have a:2^(Zq n-1)<2^k:=Nat.lt_of_le_of_lt (WN hn) h1;have b:2^(k-1)<2^Zq n:=Nat.lt_of_le_of_lt h2 (Ww n);have a':=(Nat.pow_lt_pow_iff_right (by decide)).mp a;have b':=(Nat.pow_lt_pow_iff_right (by decide)).mp b;omega
theorem U9{n k:Nat}(h:2^k<=n):Zq n=k+Zq (n/2^k):=by
 have hk:=Nat.two_pow_pos k;have hq:n/2^k≠0:=by have:=Nat.div_pos h hk;omega
 apply B5;·rw[Nat.pow_add,Nat.mul_comm];have:=Ww (n/2^k);exact(Nat.div_lt_iff_lt_mul hk).mp this
 ·right;have h1:=WN hq;have h2:Zq (n/2^k)≠0:=by unfold Zq;rw[if_neg hq];omega
  rw[show k+Zq (n/2^k)-1=(Zq (n/2^k)-1)+k by omega,Nat.pow_add];exact(Nat.le_div_iff_mul_le hk).mp h1
theorem QT(x k:Nat):(x:Int).fdiv (2^k)=((x/2^k:Nat):Int):=by rw[Int.fdiv_eq_ediv_of_nonneg _ (Int.le_of_lt (Int.pow_pos (by decide)))];rw[Int.natCast_ediv,Int.natCast_pow];rfl
theorem LK:IntKind.u64.bits=64:=rfl
def gh(s:ByteArray):Bool:=(List.range 256).all fun n=>match s[n]? with|some b=>Nat.beq b.toNat (Zq n)|none=>false
theorem gj{s:ByteArray}(h:gh s=true){n:Nat}(hn:n<256):Kz Tryz.prog 9 (.string s) (.int .u8 (n:Int))=some (.int .u8 (Zq n:Int)):=by
 unfold gh at h;rw[List.all_eq_true]at h;have:=h n (List.mem_range.mpr hn);split at this;·rename_i b hb;have e:=Nat.eq_of_beq_eq_true this;unfold Kz;simp only[Tryz.underlying9];rw[if_pos (by omega)];simp only[Int.toNat_natCast,hb,e]
 ·cases this
attribute [local simp] strip ZQ Xj gW ZF Ya ZX Yb ZJ Yc Zs Zt Zg ZI Z5 ZN ZH Zh Z6 YF Yw ZK plain ZM Tr.get_set Yu Zp Yq ZV sameKind Zd undef Zv ZG Z3 Zu ZA Yh ZW YC
theorem KW{x:Nat}{H:AH}(hx:x<Zc):CW Tryz.prog ZY 163 [.int .u64 (x:Int)] H fun v H'=>H'=H/\v= .int .i64 (Zq x:Int):=by
 have hx:x<18446744073709551616:=hx;refine Yd 25 Tryz.func163 ?_;apply Za;intro b1 Zf;simp;subst Zf;refine NL (fun s=>s.k=25/\s.H=H/\ ∃y n:Nat,s.tm.get 0=some (.int .u64 (y:Int))/\s.tm.get 2=some (.int .i64 (n:Int))/\y<4294967296/\n<=32/\Zq x=n+Zq y) ?_ ?_
 ·apply Za;intro b1 Zf;simp;subst Zf;by_cases h:4294967296<=x;·have f1:(x:Int).fdiv 4294967296=((x/4294967296:Nat):Int):=QT x 32;have f2:Zq x=32+Zq (x/4294967296):=U9 (k:=32) h;refine Zb (t:=true) (by simp;omega) ?_;apply Za;intro b1 Zf;simp[LK,f1];subst Zf;apply Zl;simp;exact⟨x/4294967296,rfl,32,rfl,by omega,by omega,f2⟩
  ·refine Zb (t:=false) (by simp;omega) ?_;apply Zr;simp;exact⟨x,rfl,0,rfl,by omega,by omega,by omega⟩
 rintro⟨k,tm,H'⟩ ⟨h2,h3,y,n,h4,h5,h6,h7,h8⟩;simp only at h2 h3 h4 h5;subst h2;subst h3;refine NL (fun s=>s.k=25/\s.H=H'/\ ∃y n:Nat,s.tm.get 0=some (.int .u64 (y:Int))/\s.tm.get 2=some (.int .i64 (n:Int))/\y<65536/\n<=48/\Zq x=n+Zq y) ?_ ?_
 ·apply Za;intro b1 Zf;simp[h4,h5];subst Zf;by_cases h:65536<=y
  ·have f1:(y:Int).fdiv 65536=((y/65536:Nat):Int):=QT y 16;have f2:Zq y=16+Zq (y/65536):=U9 (k:=16) h;have hw:IntKind.i64.wrap ((n:Int)+16)=((n+16:Nat):Int):=by rw[IntKind.wrap_i64];omega
   refine Zb (t:=true) (by simp;omega) ?_;apply Za;intro b1 Zf;simp[h4,h5,LK,f1];subst Zf;apply Zl;simp[h4,h5,hw];exact⟨y/65536,rfl,n+16,rfl,by omega,by omega,by omega⟩
  ·refine Zb (t:=false) (by simp;omega) ?_;apply Zr;simp[h4,h5];exact⟨y,rfl,n,rfl,by omega,by omega,h8⟩
 rintro⟨k,tm,H'⟩ ⟨h2,h3,y,n,h4,h5,h6,h7,h8⟩;simp only at h2 h3 h4 h5;subst h2;subst h3;refine NL (fun s=>s.k=25/\s.H=H'/\ ∃y n:Nat,s.tm.get 0=some (.int .u64 (y:Int))/\s.tm.get 2=some (.int .i64 (n:Int))/\y<256/\n<=56/\Zq x=n+Zq y) ?_ ?_
 ·apply Za;intro b1 Zf;simp[h4,h5];subst Zf;by_cases h:256<=y
  ·have f1:(y:Int).fdiv 256=((y/256:Nat):Int):=QT y 8;have f2:Zq y=8+Zq (y/256):=U9 (k:=8) h;have hw:IntKind.i64.wrap ((n:Int)+8)=((n+8:Nat):Int):=by rw[IntKind.wrap_i64];omega
   refine Zb (t:=true) (by simp;omega) ?_;apply Za;intro b1 Zf;simp[h4,h5,LK,f1];subst Zf;apply Zl;simp[h4,h5,hw];exact⟨y/256,rfl,n+8,rfl,by omega,by omega,by omega⟩
  ·refine Zb (t:=false) (by simp;omega) ?_;apply Zr;simp[h4,h5];exact⟨y,rfl,n,rfl,by omega,by omega,h8⟩
 rintro⟨k,tm,H'⟩ ⟨h2,h3,y,n,h4,h5,h6,h7,h8⟩;simp only at h2 h3 h4 h5;subst h2;subst h3;apply Za;intro b1 Zf;have hb8:Zq y<=8:=by
  rcases Nat.lt_or_ge 8 (Zq y)with h|h
  ·have h0:y≠0:=by rintro rfl;simp[Zq]at h
   have a:=WN h0;have b:2^8<=2^(Zq y-1):=Nat.pow_le_pow_right (by decide) (by omega);omega
  ·exact h
 generalize hs:ByteArray.mk _=s;have ht:gh s=true:=by rw[<-hs];kernel_rfl
 have e1:=gj ht h6;have e2:IntKind.u8.wrap (y:Int)=(y:Int):=by rw[IntKind.wrap_u8];omega
 have e3:IntKind.i64.wrap (Zq y:Int)=(Zq y:Int):=NR (by omega);have e4:IntKind.i64.wrap ((n:Int)+(Zq y:Int))=(Zq x:Int):=by rw[IntKind.wrap_i64,h8];omega
 simp[h4,h5,Sh,Tryz.underlying101,Tryz.underlying5,Tryz.underlying3,e1,e2,e3,e4];subst Zf;apply ZZ;simp
end
section
theorem RU(x y c:Nat)(H:AH)(hc:c<=1):ZU Tryz.prog ZY 203 [.int .u64 (x:Int),.int .u64 (y:Int),.int .u64 (c:Int)] H=some (.tuple #[.int .u64 (((x+y+c)%Zc:Nat):Int),.int .u64 (((x+y+c)/Zc:Nat):Int)],H):=by
 rw[XF];unfold YG X1;rw[show Nat.beq 203 ZY.add=true from rfl,cond_true];have:QE [.int .u64 (x:Int),.int .u64 (y:Int),.int .u64 (c:Int)]=some (x,y,c):=by simp[QE];omega
 rw[this];rfl
theorem R7(x y c:Nat)(H:AH)(hc:c<=1):ZU Tryz.prog ZY 206 [.int .u64 (x:Int),.int .u64 (y:Int),.int .u64 (c:Int)] H=some (.tuple #[.int .u64 (((x+Zc-y-c)%Zc:Nat):Int),.int .u64 ((if x<y+c then 1 else 0:Nat):Int)],H):=by
 rw[XF];unfold YG X1;rw[show Nat.beq 206 ZY.add=false from rfl,cond_false,show Nat.beq 206 ZY.sub=true from rfl,cond_true];have:QE [.int .u64 (x:Int),.int .u64 (y:Int),.int .u64 (c:Int)]=some (x,y,c):=by simp[QE];omega
 rw[this];by_cases h:x<y+c
 ·have:Nat.blt x (y+c)=true:=by rw[Nat.blt_eq];exact h
  simp only[this,cond_true,if_pos h];rfl
 ·have:Nat.blt x (y+c)=false:=by cases hb:Nat.blt x (y+c)with|false=>rfl|true=>rw[Nat.blt_eq]at hb;exact absurd hb h
  simp only[this,cond_false,if_neg h];rfl
attribute [local simp] strip ZQ Xj gW ZF Ya ZX Yb ZJ Yc Zs Zt Zg ZI Z5 ZN ZH Zh Z6 Ze YF Yw ZK plain ZM Tr.get_set Yu Zp Yq ZV sameKind Zd undef Zv ZG Z3 Zu ZA Yh ZW YC parts
theorem Bx{x:Nat}{H:AH}(hx:x<Zc):CW Tryz.prog ZY 216 [.int .u64 (x:Int)] H fun v H'=>H'=H/\v= .int .i64 (64-(Zq x:Int)):=by
 refine Yd 6 Tryz.func216 ?_;obtain⟨v1,H1,Nd,rfl,rfl⟩:=KW (H:=H) hx;have hb:Zq x<=64:=by
  rcases Nat.lt_or_ge 64 (Zq x)with h|h
  ·have h0:x≠0:=by rintro rfl;simp[Zq]at h
   have a:=WN h0;have b:2^64<=2^(Zq x-1):=Nat.pow_le_pow_right (by decide) (by omega);have hx:x<18446744073709551616:=hx;omega
  ·exact h
 have hw:IntKind.i64.wrap (64-(Zq x:Int))=64-(Zq x:Int):=by rw[IntKind.wrap_i64];omega
 apply Za;intro b1 Zf;simp;subst Zf;apply Za;intro b1 Zf;simp[Nd,hw];subst Zf;apply ZZ;simp
theorem iV{xs:List Nat}(dx:YH Zc xs)(tx:YZ xs=xs)(h:0<xs.length):Zq (dv Zc xs)=64*(xs.length-1)+Zq (xs[xs.length-1]):=by
 have hs:xs=xs.take (xs.length-1)++[xs[xs.length-1]]:=by have:=List.take_append_getElem (l:=xs) (i:=xs.length-1) (by omega);rw[this,show xs.length-1+1=xs.length by omega,List.take_length]
 have hl:(xs.take (xs.length-1)).length=xs.length-1:=by rw[List.length_take];omega
 generalize hz:xs[xs.length-1]=z at*;have wq:z≠0:=by intro h0;rw[h0]at hs;have:=congrArg YZ hs;rw[VM,tx]at this;have:=congrArg List.length this;have:=XS (xs.take (xs.length-1));omega
 have e:dv Zc xs=dv Zc (xs.take (xs.length-1))+2^(64*(xs.length-1))*z:=by have:=congrArg (dv Zc) hs;rw[this,Yn,hl];simp only[dv,Nat.mul_zero,Nat.add_zero];rw[Nat.pow_mul]
 have PQ:dv Zc (xs.take (xs.length-1))<2^(64*(xs.length-1)):=by have:=Wh (dx.take (xs.length-1));rw[hl]at this;rw[Nat.pow_mul];exact this
 have TE:2^(64*(xs.length-1))<=dv Zc xs:=by rw[e];have:2^(64*(xs.length-1))*1<=2^(64*(xs.length-1))*z:=Nat.mul_le_mul_left _ (by omega);omega
 rw[U9 TE];congr 2;rw[e,Nat.add_mul_div_left _ _ (Nat.two_pow_pos _),Nat.div_eq_of_lt PQ,Nat.zero_add]
theorem W4{v:Value}{xs:List Nat}{H:AH}(hs:Sl H v xs)(dx:YH Zc xs)(hlen:xs.length<=17592186044416):CW Tryz.prog ZY 123 [v] H fun v' H'=>H'=H/\v'= .int .i64 (Zq (dv Zc xs):Int):=by
 refine Yd 20 Tryz.func123 ?_;obtain⟨v1,H1,Nd,e1,s1⟩:=WA hs (by omega);subst e1;rw[<-Wp Zc xs];have tx:=Sz xs;have dx:=XT dx;have lx:(YZ xs).length<=17592186044416:=Nat.le_trans (XS xs) hlen;generalize YZ xs=xs at*;have l1:=s1.len Zu;apply Za;intro b1 Zf;simp;subst Zf;apply Za;intro b1 Zf;simp[Nd];subst Zf;apply Zi;intro b1 Zf;apply Za;intro b2 ZT;simp[l1];subst ZT;by_cases h0:xs.length=0;·obtain rfl:xs=[]:=List.length_eq_zero_iff.mp h0;refine Zb (t:=true) (by simp) ?_;apply Za;intro b2 ZT;simp;subst ZT;apply ZZ;simp[YQ,dv,Zq]
 ·refine Zb (t:=false) (by simp;intro h;apply h0;simp[h]) ?_;apply Zr;subst Zf;have i1:xs.length-1<xs.length:=by omega
  have a1:=s1.adr Zu (k:= .i64) i1;have d1:=s1.load i1;have hw:IntKind.i64.wrap ((xs.length:Int)-1)=((xs.length-1:Nat):Int):=Mx (by omega) (by omega);have hx:xs[xs.length-1]<Zc:=dx.get (List.getElem?_eq_getElem i1);obtain⟨v3,H3,uF,e3,e4⟩:=KW (H:=H1) hx;subst e3;subst e4;have hb:=iV dx tx (by omega);have hb64:Zq (xs[xs.length-1])<=64:=by
   rcases Nat.lt_or_ge 64 (Zq (xs[xs.length-1]))with h|h
   ·have h0:xs[xs.length-1]≠0:=by intro e;rw[e]at h;simp[Zq]at h
    have a:=WN h0;have b:2^64<=2^(Zq (xs[xs.length-1])-1):=Nat.pow_le_pow_right (by decide) (by omega);have hx:xs[xs.length-1]<18446744073709551616:=hx;omega
   ·exact h
  have jt:IntKind.i64.wrap (64*((xs.length-1:Nat):Int))=64*((xs.length-1:Nat):Int):=by rw[IntKind.wrap_i64];omega
  have hw3:IntKind.i64.wrap (64*((xs.length-1:Nat):Int)+(Zq (xs[xs.length-1]):Int))=(Zq (dv Zc xs):Int):=by rw[IntKind.wrap_i64,hb];omega
  apply Za;intro b2 ZT;simp[l1,hw,jt,a1,d1,uF,hw3];subst ZT;apply ZZ;simp
theorem Tc{x:Nat}{H:AH}(hx:x<Zc):CW Tryz.prog ZY 164 [.int .u64 (x:Int)] H fun v H'=>Zj H H'/\Ym H.n H' v (ds Zc x):=by
 refine Yd 7 Tryz.func164 ?_;apply Za;intro b1 Zf;simp;subst Zf;apply Zi;intro b1 Zf;apply Za;intro b2 ZT;simp;subst ZT;by_cases h0:x=0;·subst h0;refine Zb (t:=true) (by simp) ?_;apply Za;intro b2 ZT;simp;subst ZT;apply ZZ;simp[YQ,Xl];exact⟨.refl H,.nil⟩
 ·refine Zb (t:=false) (by simp;omega) ?_;apply Zr;subst Zf;have e:ds Zc x=[x]:=by rw[TW Z2 h0,Nat.mod_eq_of_lt hx,Nat.div_eq_of_lt hx,Xl]
  have gL:YM Tryz.prog H 30 1 [(0,.int .u64 (x:Int))]=some (.slice (some ⟨H.n,0,none⟩) 1 1,H.new 1 ([x].map V6)):=by unfold YM;simp only[ya,EF];kernel_rfl
  apply Za;intro b2 ZT;simp[gL];subst ZT;apply ZZ;simp;rw[e];exact⟨.new _ _ _,Ym.new H [x]⟩
end
theorem Ji(n:Nat):zeros (Value.int .u64 0).cells n=(List.replicate n 0).map V6:=by
 unfold zeros;apply List.ext_getElem?;intro i;rw[List.getElem?_map,List.getElem?_map,List.getElem?_replicate];by_cases h:i<n;·rw[if_pos h,List.getElem?_range h];simp[V6,Value.cells,Nat.mod_one]
 ·rw[if_neg h,List.getElem?_eq_none (by simp;omega)];rfl
theorem YK{H:AH}{t:TypeId}(ht:LT t){n:Nat}(hn:n<=17592186044416): ∃v H',VS Tryz.prog H t (.int .i64 (n:Int)) (.int .i64 (n:Int))=some (v,H')/\Zj H H'/\Ym H.n H' v (List.replicate n 0)/\H'.n=H.n+1:=by
 refine⟨.slice (some ⟨H.n,0,none⟩) n n,H.new 1 ((List.replicate n 0).map V6),?_,.new _ _ _,?_,rfl⟩;·unfold VS;simp only[ht.2,EF];rw[if_pos (by omega)];simp only[Int.toNat_natCast,Nat.mul_one,Ji]
 ·have:=Ym.new H (List.replicate n 0);rwa[List.length_replicate]at this
theorem Ym.store{n:Nat}{H:AH}{v:Value}{xs:List Nat}(h:Ym n H v xs){i:Nat}(hi:i<xs.length)(y:Nat): ∃H',YV Tryz.prog H 101 (adr v i) (.int .u64 (y:Int))=some H'/\Ym n H' v (xs.set i y)/\H'.n=H.n/\ ∀H0,Zj H0 H->H0.n<=n->Zj H0 H':=by cases h with
 |nil=>cases hi
 |mk b o cap xs cs h1 h2 h3 h4 h5 h6=>
  have hlen:Nat.ble (o+i+1) cs.length=true:=Nat.ble_eq.mpr (by omega);have e0:(Value.int .u64 (y:Int)).cells=#[.int .u64 (y:Int)]:=rfl;have hw:H.write b (o+i) [.int .u64 (y:Int)]=some { n:=H.n,lw:=min H.lw b,t:=H.t.set b (.rw 1 (cs.take (o+i)++[.int .u64 (y:Int)]++cs.drop (o+i+1))) } :=by rw[AH.write_def,h4];simp only[List.length_singleton,hlen,Bool.true_and];rfl
  refine⟨{ n:=H.n,lw:=min H.lw b,t:=H.t.set b (.rw 1 (cs.take (o+i)++[.int .u64 (y:Int)]++cs.drop (o+i+1))) },?_,?_,rfl,?_⟩;·unfold YV Go.Proofs.YtmkfecoeghokfaaGreatDoor.adr;simp only[NX,e0];rw[show Nat.beq (#[Value.int .u64 (y:Int)]:Array Value).size 1=true from rfl,cond_true];exact hw
  ·have hl:(xs.set i y).length=xs.length:=List.length_set;rw[<-hl];refine .mk b o cap _ (cs.take (o+i)++[.int .u64 (y:Int)]++cs.drop (o+i+1)) (by omega) h2 h3 ?_ ?_ ?_;·unfold AH.blk;simp only[Tr.get_set,if_true]
   ·simp only[List.length_append,List.length_take,List.length_drop,List.length_singleton];omega
   ·intro j x hj;rw[List.getElem?_set]at hj;by_cases e:i=j;·subst e;rw[if_pos rfl,if_pos hi]at hj;cases hj;rw[List.append_assoc,List.getElem?_append_right (by rw[List.length_take];omega)];rw[List.length_take,show o+i-min (o+i) cs.length=0 by omega];rfl
    ·rw[if_neg e]at hj;have:=h6 j x hj;rcases Nat.lt_or_ge (o+j) (o+i)with YX|TE;·rw[List.append_assoc,List.getElem?_append_left (by rw[List.length_take];omega),List.getElem?_take,if_pos YX];exact this
     ·rw[List.getElem?_append_right (by simp only[List.length_append,List.length_take,List.length_singleton];omega),List.getElem?_drop];simp only[List.length_append,List.length_take,List.length_singleton];rw[show o+i+1+(o+j-(min (o+i) cs.length+1))=o+j by omega];exact this
  ·intro H0 k hn;refine⟨k.n,?_,fun j hj=>?_⟩;·have:=k.lw;show min H0.lw H0.n<=min H.lw b;omega
   ·have:j≠b:=by omega
    rw[<-k.blk j hj];unfold AH.blk;simp only[Tr.get_set,if_neg this]
theorem NG{x:Nat}(h:x<Zc):(BitVec.ofInt 64 (x:Int)).toNat=x:=by have h:x<18446744073709551616:=h;simp[BitVec.toNat_ofInt];omega
theorem KI{x y:Nat}(hx:x<Zc)(hy:y<Zc):Zd .or .u64 (x:Int) (y:Int)=some (.int .u64 ((x|||y:Nat):Int)):=by
 have h:x|||y<2^64:=Nat.or_lt_two_pow hx hy;have e:(BitVec.ofInt 64 (x:Int)|||BitVec.ofInt 64 (y:Int)).toNat=x|||y:=by rw[BitVec.toNat_or,NG hx,NG hy]
 show some (Value.int .u64 (IntKind.u64.wrap ((BitVec.ofInt 64 (x:Int)|||BitVec.ofInt 64 (y:Int)).toNat:Nat)))=_;rw[e,IntKind.wrap_u64];have h:x|||y<18446744073709551616:=h;rw[Int.emod_eq_of_lt (by omega) (by omega)]
theorem iy{x y:Nat}(hx:x<Zc)(hy:y<Zc):Zd .and .u64 (x:Int) (y:Int)=some (.int .u64 ((x&&&y:Nat):Int)):=by
 have h:x&&&y<2^64:=Nat.and_lt_two_pow _ hy;have e:(BitVec.ofInt 64 (x:Int)&&&BitVec.ofInt 64 (y:Int)).toNat=x&&&y:=by rw[BitVec.toNat_and,NG hx,NG hy]
 show some (Value.int .u64 (IntKind.u64.wrap ((BitVec.ofInt 64 (x:Int)&&&BitVec.ofInt 64 (y:Int)).toNat:Nat)))=_;rw[e,IntKind.wrap_u64];have h:x&&&y<18446744073709551616:=h;rw[Int.emod_eq_of_lt (by omega) (by omega)]
theorem T0{x s:Nat}(hs:s<=64):YC .shl .u64 (x:Int) (s:Int)=some (.int .u64 ((x*2^s%Zc:Nat):Int)):=by unfold YC;rw[if_neg (by omega)];simp only[show IntKind.u64.bits=64 from rfl,Int.toNat_natCast,Nat.min_eq_left hs,IntKind.wrap_u64];congr 2
theorem SD{x s:Nat}(hs:s<=64):YC .shr .u64 (x:Int) (s:Int)=some (.int .u64 ((x/2^s:Nat):Int)):=by unfold YC;rw[if_neg (by omega)];simp only[show IntKind.u64.bits=64 from rfl,Int.toNat_natCast,Nat.min_eq_left hs];rw[QT]
theorem Ti{x y:Nat} :Zd .add .u64 (x:Int) (y:Int)=some (.int .u64 (((x+y)%Zc:Nat):Int)):=by unfold Zd;simp only[IntKind.wrap_u64];congr 2
theorem TB{x y:Nat} :Zd .mul .u64 (x:Int) (y:Int)=some (.int .u64 ((x*y%Zc:Nat):Int)):=by unfold Zd;simp only[IntKind.wrap_u64];congr 2
theorem WO{x y:Nat}(h:x+y<9223372036854775808):Zd .add .i64 (x:Int) (y:Int)=some (.int .i64 ((x+y:Nat):Int)):=by
 show some (Value.int .i64 (IntKind.i64.wrap ((x:Int)+(y:Int))))=_;have e:IntKind.i64.wrap ((x:Int)+(y:Int))=((x+y:Nat):Int):=by rw[IntKind.wrap_i64];omega
 rw[e]
theorem YU{x:Nat}(h:x<9223372036854775800):Zd .add .i64 (x:Int) 1=some (.int .i64 ((x+1:Nat):Int)):=by have:=WO (x:=x) (y:=1) (by omega);simpa using this
theorem LS{x y:Nat}(h:x<9223372036854775808)(hy:y<=x):Zd .sub .i64 (x:Int) (y:Int)=some (.int .i64 ((x-y:Nat):Int)):=by
 show some (Value.int .i64 (IntKind.i64.wrap ((x:Int)-(y:Int))))=_;have e:IntKind.i64.wrap ((x:Int)-(y:Int))=((x-y:Nat):Int):=by rw[IntKind.wrap_i64];omega
 rw[e]
theorem V8{x:Nat}(h:x<9223372036854775808)(hx:0<x):Zd .sub .i64 (x:Int) 1=some (.int .i64 ((x-1:Nat):Int)):=by have:=LS (x:=x) (y:=1) h hx;simpa using this
theorem T1{x y:Nat}(hx:x<Zc)(hy:y<=x):Zd .sub .u64 (x:Int) (y:Int)=some (.int .u64 ((x-y:Nat):Int)):=by
 have hx:x<18446744073709551616:=hx;show some (Value.int .u64 (IntKind.u64.wrap ((x:Int)-(y:Int))))=_;have e:IntKind.u64.wrap ((x:Int)-(y:Int))=((x-y:Nat):Int):=by rw[IntKind.wrap_u64];omega
 rw[e]
theorem ZE{k:IntKind}{x y:Nat} :Zd .lss k (x:Int) (y:Int)=some (.bool (decide (x<y))):=by show some (Value.bool (decide ((x:Int)<(y:Int))))=_;congr 2;simp
theorem Pq{k:IntKind}{x y:Nat} :Zd .leq k (x:Int) (y:Int)=some (.bool (decide (x<=y))):=by show some (Value.bool (decide ((x:Int)<=(y:Int))))=_;congr 2;simp
theorem W8{k:IntKind}{x y:Nat} :Zd .gtr k (x:Int) (y:Int)=some (.bool (decide (y<x))):=by show some (Value.bool (decide ((x:Int)>(y:Int))))=_;congr 2;simp
theorem HW{k:IntKind}{x y:Nat} :Zd .geq k (x:Int) (y:Int)=some (.bool (decide (y<=x))):=by show some (Value.bool (decide ((x:Int)≥(y:Int))))=_;congr 2;simp
theorem Pm{k:IntKind}{x y:Nat} :Zd .eql k (x:Int) (y:Int)=some (.bool (decide (x=y))):=by
 show some (Value.bool ((x:Int)==(y:Int)))=_;congr 2;by_cases h:x=y;·simp[h]
 ·have: ¬ (x:Int)=(y:Int):=by omega
  simp[h,this]
theorem LZ{k:IntKind}{x y:Nat} :Zd .neq k (x:Int) (y:Int)=some (.bool (decide (x≠y))):=by
 show some (Value.bool ((x:Int) !=(y:Int)))=_;congr 2;by_cases h:x=y;·simp[h]
 ·have: ¬ (x:Int)=(y:Int):=by omega
  simp[h,this]
theorem Cg{s a b:Nat}(hb:b<2^s):(a*2^s)|||b=a*2^s+b:=by rw[Nat.mul_comm,Nat.two_pow_add_eq_or_of_lt hb]
end
end
end Go.Proofs.YtmkfecoeghokfaaGreatDoor
