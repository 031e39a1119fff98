/-
  The engine and the walks that the claim's last text leans on, part 3 of 5: EvRc, EvM, EvMb, EvP, EvQ, Cfg, Laid, Np, Na, Nb, EvR, Nc, Nd, Ne, Nf, Ng, Nh, Ni, Nj, Nk, Nq, Nl.
-/
import Derived.Test.YtjboehpfojpimaaGreatDoorM2
import Derived.Recover
import Derived.Defers
import Derived.Test.YtjboehpfojpimaaGreatDoorRows
import Derived.WalkKit
import Derived.ProofKit
import Derived.OpenShut
import Derived.ChangeOld
import Derived.SizedLaws
import Derived.Test.YtjboehpfojpimaaGreatDoorCards
import Derived.Test.YtjboehpfojpimaaGreatDoorTie
import Derived.LaidMore
import Derived.Deep.Strs
import Derived.MakeChecks
import Derived.FnData
import Derived.Stop.Joined
import Derived.SevenTiedAt
import Derived.KernelRfl
import Derived.Laws.Bits64
import Derived.Laws.BitsLemmas
namespace Go.Proofs.YtjboehpfojpimaaGreatDoor.Ev
open Go Go.RowKit
set_option linter.unusedVariables false
noncomputable section
set_option linter.unusedSimpArgs false
set_option maxHeartbeats 2000000
set_option maxRecDepth 20000
theorem Lx {P : Program} {o : Oper} {a : Act} {K K' : Act -> World -> Prop} {Q Q' : Exit -> Act -> World -> Prop} {r : Result Next} (hK : ∀ a w, K a w -> K' a w) (hQ : ∀ ch a w, Q (.panic ch) a w -> Q' (.panic ch) a w) (hL : LetsOut Q -> LetsOut Q') (h : o.upon P a K Q r) : o.upon P a K' Q' r := by
  cases r with
  | ok n w =>
    cases n <;> first | exact h.elim | exact hK _ _ h | exact Calls.mono h (fun e w' he => by cases e <;> first | exact hK _ _ he | exact hQ _ _ _ he | exact hL he) | exact Rows.mono h (fun _ _ he => hK _ _ he)
  | halt x w => cases x <;> first | exact h.elim | exact hQ _ _ _ h
section
variable {P : Program} {ops : Array Oper} {rv : Value}
theorem NJ(i:Nat):(ops.map (XH rv))[i]?=(ops[i]?).map (XH rv):=by simp
theorem TV:(ops.map (XH rv)).size=ops.size:=by simp
theorem UF(o:Oper):(XH rv o).after=o.after/\(XH rv o).guard=o.guard/\(XH rv o).dst=o.dst:=by unfold XH;cases isRec o.op<;>exact⟨rfl,rfl,rfl⟩
theorem Qq(md:Region.Mode)(listed:Array Bool):Region.ready md (ops.map (XH rv)) listed=Region.ready md ops listed:=by unfold Region.ready;rw[TV];congr 1;funext i;rw[NJ];cases ops[i]? with|none=>rfl|some o=>simp[(UF (rv:=rv) o).1]
theorem Ov(a:Array Value):yielded (ops.map (XH rv)) a=yielded ops a:=by funext j;unfold yielded;rw[NJ];cases ops[j]? with|none=>rfl|some o=>simp[(UF (rv:=rv) o).2.2]
structure OneRec (ops : Array Oper) (r : Nat) : Prop where
  at_ : ∃ o, ops[r]? = some o /\ isRec o.op = true /\ o.guard = none
  one : ∀ i o, ops[i]? = some o -> isRec o.op = true -> i = r
theorem filter_one{l:List Oper}{p:Oper->Bool}(h:(l.filter p).length=1): ∃(r:Nat) (o:Oper),l[r]?=some o/\p o=true/\ ∀(i:Nat)(o':Oper),l[i]?=some o'->p o'=true->i=r:=by induction l with
 |nil=>simp at h
 |cons x xs ih=>
  by_cases hx:p x=true;·rw[List.filter_cons_of_pos hx]at h;have h0:xs.filter p=[]:=List.eq_nil_of_length_eq_zero (by simpa using h);refine⟨0,x,rfl,hx,fun i o' hi hp=>?_⟩;cases i with|zero=>rfl|succ i=>have:o'∈xs.filter p:=List.mem_filter.mpr ⟨List.mem_of_getElem? hi,hp⟩;rw[h0]at this;cases this
  ·rw[List.filter_cons_of_neg hx]at h;obtain⟨r,o,h1,h2,h3⟩:=ih h;refine⟨r+1,o,h1,h2,fun i o' hi hp=>?_⟩;cases i with|zero=>simp at hi;subst hi;exact absurd hp hx|succ i=>rw[h3 i o' hi hp]
theorem Q8(h:VN ops=true): ∃r,OneRec ops r:=by unfold VN at h;rw[Bool.and_eq_true]at h;obtain⟨r,o,h1,h2,h3⟩:=filter_one (Nat.eq_of_beq_eq_true h.1);have hg:=List.all_eq_true.mp h.2 o (List.mem_of_getElem? h1);refine⟨r,⟨o,by simpa using h1,h2,?_⟩,fun i o' hi hp=>h3 i o' (by simpa using hi) hp⟩;rw[h2]at hg;simpa using hg
def Vc(Q:Exit->Act->World->Prop):Prop:= ∀e a w,Q e a w->e= .normal
theorem Vc.lets{Q:Exit->Act->World->Prop}(h:Vc Q): ¬LetsOut Q:=fun⟨a,w,q⟩=>by cases h _ _ _ q
theorem Om {o : Oper} (h : isRec o.op = true) (ρ : Operand -> Value) (w : World) : (execOp ρ o).run P w = .ok .recover w := by
  obtain ⟨dst, op, ty, pos, after, guard⟩ := o
  cases op <;> first | (cases h; done) | skip
  rename_i c
  obtain ⟨callee, args, ts⟩ := c
  cases callee with
  | builtin b => cases b <;> first | (cases h; done) | (simp [execOp, resolve, invoke, builtin])
  | value f => cases h
  | invoke r m => cases h
theorem Ou{Q:Exit->Act->World->Prop}{QS:Exit->Act->List Frame->World->Prop}(hQ:Vc Q){r:Nat}(hr:OneRec ops r){cs cs':List Frame}(Tk:recoverD cs=some (rv,cs')\/(recoverD cs=none/\rv= .nilIface/\cs'=cs)){i:Nat}{rest:List Nat}{K:Act->World->Prop}{a:Act}{w:World}(c0:List Frame)(hc:i=r->c0=cs)(hk: ∀a w,K a w->wpOpsS P ops QS rest a (if i=r then cs' else c0) w)(h:wpOp P (ops.map (XH rv)) Q i K a w):wpOpsS P ops QS (i::rest) a c0 w:=by unfold wpOp at h;rw[NJ]at h;simp only[wpOpsS];cases ho:ops[i]? with
 |none=>
  rw[ho]at h;have Wq:i≠r:=fun e=>by obtain⟨o,h1,_⟩:=hr.at_;rw[<-e,ho]at h1;cases h1
  have:=hk a w h;rw[if_neg Wq]at this;exact this
 |some o=>
  rw[ho]at h;simp only[Option.map_some]at h;rw[Ov]at h;have Vl:Region.wanted (XH rv o) (yielded ops a.tmps)=Region.wanted o (yielded ops a.tmps):=by unfold Region.wanted;rw[(UF (rv:=rv) o).2.1]
  rw[Vl]at h;by_cases G9:i=r
  ·obtain⟨o',h1,h2,h3⟩:=hr.at_;rw[<-G9,ho]at h1;obtain rfl:=Option.some.inj h1;have hw:Region.wanted o (yielded ops a.tmps)=true:=by unfold Region.wanted;rw[h3]
   simp only[hw,if_true]at h⊢;have h:=h.resolve_right (fun x=>hQ.lets x.2);have hs:XH rv o= { o with op:= .assign (.const rv) } :=by unfold XH;rw[h2,cond_true]
   rw[hs]at h;have h':K (a.put o.dst rv) w:=h;have LN:=hk _ _ h';rw[if_pos G9]at LN;rw[Om h2];rw[hc G9];simp only;rcases Tk with e|⟨e1,e2,e3⟩;·rw[e];exact LN
   ·rw[e1];subst e2;subst e3;exact LN
  ·have hn:isRec o.op=false:=by cases hb:isRec o.op with|false=>rfl|true=>exact absurd (hr.one i o ho hb) G9
   have hs:XH rv o=o:=by unfold XH;rw[hn,cond_false]
   rw[hs]at h;by_cases hw:Region.wanted o (yielded ops a.tmps)=true
   ·simp only[hw,if_true]at h⊢;have h:=h.resolve_right (fun x=>hQ.lets x.2);unfold Oper.wp at h;have LN: ∀a w,K a w->wpOpsS P ops QS rest a c0 w:=fun a w q=>by have:=hk a w q;rwa[if_neg G9]at this
    generalize(execOp a.eval o).run P w=res at h⊢;split;·exact h.elim
    ·exact Lx LN (fun ch a w q=>by cases hQ _ _ _ q) (fun x=>absurd x hQ.lets) h
   ·simp only[hw,if_false,Bool.false_eq_true]at h⊢;have:=hk _ _ h;rw[if_neg G9]at this;exact this
theorem Ot{Q:Exit->Act->World->Prop}{QS:Exit->Act->List Frame->World->Prop}(hQ:Vc Q){r:Nat}(hr:OneRec ops r){cs cs':List Frame}(Tk:recoverD cs=some (rv,cs')\/(recoverD cs=none/\rv= .nilIface/\cs'=cs))(Hg: ∀a w,Q .normal a w->QS .normal a cs' w): ∀(n k:Nat)(a:Act)(w:World),r<k+n->wpOps P (ops.map (XH rv)) Q (List.range' k n) a w->wpOpsS P ops QS (List.range' k n) a (if r<k then cs' else cs) w
 |0,k,a,w,hk,h=>by rw[if_pos (by omega)];exact Hg a w h
 |n+1,k,a,w,hk,h=>by
  rw[List.range'_succ,wpOps_cons]at h;rw[List.range'_succ];refine Ou hQ hr Tk _ (fun e=>by rw[if_neg (by omega)]) (fun a w q=>?_) h;have:=Ot hQ hr Tk Hg n (k+1) a w (by omega) q;by_cases e:k=r;·rw[if_pos e];rwa[if_pos (by omega)]at this
  ·rw[if_neg e];by_cases e2:r<k;·rw[if_pos e2];rwa[if_pos (by omega)]at this
   ·rw[if_neg e2];rwa[if_neg (by omega)]at this
theorem Ql(hR:Y3 (ops.map (XH rv))){listed:Array Bool}(Yz:listed.size=ops.size)(h:Region.ready .any (ops.map (XH rv)) listed=[]): ∀m,m<ops.size->listed[m]?=some true:=by intro m hm;induction m using Nat.strongRecOn with
 |_ m ih=>cases hb:listed[m]with|true=>rw[Array.getElem?_eq_getElem (by omega),hb]|false=>exfalso;obtain⟨o,ho⟩:=ZY (ops:=ops.map (XH rv)) (by rw[TV];exact hm);have:m∈Region.ready .any (ops.map (XH rv)) listed:=mem_ready.2 ⟨by simp[Array.getD,Yz,hm,hb],o,ho,fun e he M8=>by have Z3:=hR.lead m o ho e (by simpa using he) M8;have:=ih e.on Z3 (by omega);simp[Array.getD_eq_getD_getElem?,this]⟩;rw[h]at this;cases this
theorem QB{listed:Array Bool}{i:Nat}(h:i∈Region.ready .any ops listed):listed[i]?=some false:=by
 have h1:=(mem_ready.1 h).1;rcases Nat.lt_or_ge i listed.size with h2|h2;·rw[Array.getElem?_eq_getElem h2];simp[Array.getD,h2]at h1;rw[h1]
 ·simp[Array.getD,Nat.not_lt.mpr h2]at h1
theorem IH{Q:Exit->Act->World->Prop}{QS:Exit->Act->List Frame->World->Prop}(hQ:Vc Q){r:Nat}(hr:OneRec ops r){cs cs':List Frame}(Tk:recoverD cs=some (rv,cs')\/(recoverD cs=none/\rv= .nilIface/\cs'=cs))(Hg: ∀a w,Q .normal a w->QS .normal a cs' w)(hR:Y3 (ops.map (XH rv)))(KM:r<ops.size): ∀(fuel t:Nat)(listed:Array Bool)(a:Act)(w:World),listed.size=ops.size->wpAny P .any (ops.map (XH rv)) Q fuel listed a w->wpOpsS P ops QS (Region.linearise.go .any ops fuel t listed []) a (if listed[r]?=some true then cs' else cs) w:=by intro fuel;induction fuel with
 |zero=>intro t listed a w Yz h;have Tf:=Ql hR Yz h.1 r KM;rw[if_pos Tf];exact Hg a w h.2
 |succ fuel ih=>intro t listed a w Yz h;obtain⟨h₀,h₁⟩:=h;simp only[Region.linearise.go];change wpOpsS P ops QS (match(Region.ready .any ops listed)[t%(Region.ready .any ops listed).length]? with|some i=>Region.linearise.go .any ops fuel (t/(Region.ready .any ops listed).length) (listed.setIfInBounds i true) [i]|none=>[].reverse) a _ w;cases hi:(Region.ready .any ops listed)[t%(Region.ready .any ops listed).length]? with
  |none=>
   have Lc:Region.ready .any ops listed=[]:=by cases hr:Region.ready .any ops listed with|nil=>rfl|cons x xs=>rw[hr]at hi;have Z3:t%(x::xs).length<(x::xs).length:=Nat.mod_lt _ (by simp);simp at hi;simp at Z3;omega
   have Ho:Region.ready .any (ops.map (XH rv)) listed=[]:=by rw[Qq];exact Lc
   rw[if_pos (Ql hR Yz Ho r KM)];exact Hg a w (h₀ Ho)
  |some i=>
   have Ib:=List.mem_of_getElem? hi;have XJ:=QB Ib;simp only[];rw[linearise_go_acc,List.reverse_singleton,List.singleton_append];refine Ou hQ hr Tk _ (fun e=>by rw[<-e,XJ];rfl) (fun a w q=>?_) (h₁ i (by rw[Qq];exact Ib));have:=ih (t/(Region.ready .any ops listed).length) (listed.setIfInBounds i true) a w (by simp[Yz]) q;have WJ:(listed.setIfInBounds i true)[r]?=some true↔(i=r\/listed[r]?=some true):=by
    rw[Array.getElem?_setIfInBounds];by_cases e:i=r
    ·have hl:i<listed.size:=by
      rcases Nat.lt_or_ge i listed.size with h2|h2;·exact h2
      ·rw[Array.getElem?_eq_none h2]at XJ;cases XJ
     simp[e];omega
    ·simp[e]
   by_cases e:i=r;·rw[if_pos e];rwa[if_pos (WJ.mpr (.inl e))]at this
   ·rw[if_neg e];by_cases e2:listed[r]?=some true;·rw[if_pos e2];rwa[if_pos (WJ.mpr (.inr e2))]at this
    ·rw[if_neg e2];rwa[if_neg (fun x=>by rcases WJ.mp x with x|x;exact e x;exact e2 x)]at this
theorem SY{id:Nat}{QS:Exit->Act->List Frame->World->Prop}{a:Act}{cs:List Frame}{w:World}(h: ∀t,wpOpsS P ops QS (Region.schedule (P.follows .mixedOrders) ops t) a cs { w with drawn:=w.drawn+1 }):(Code.region id ops true).wpS P QS a cs w:=fun b k hb hr=>let⟨e,a',cs',w',q,r⟩:=wp_opsS _ a cs _ (h _) b k hb hr;⟨e,a',cs',w',q,.of_steps (.one step_region_draw) r⟩
theorem NI{Q:Exit->Act->World->Prop}{QS:Exit->Act->List Frame->World->Prop}(hm:P.follows .mixedOrders=true)(hQ:Vc Q){cs cs':List Frame}(Tk:recoverD cs=some (rv,cs')\/(recoverD cs=none/\rv= .nilIface/\cs'=cs))(Hg: ∀a w,Q .normal a w->QS .normal a cs' w)(ho:VN ops=true){draw:Bool}(Gu:draw=true->XC (ops.map (XH rv))=true){a:Act}{w:World}(h:XF P (ops.map (XH rv)) draw Q a w)(id:Nat):(Code.region id ops draw).wpS P QS a cs w:=by
 obtain⟨r,hr⟩:=Q8 ho;have KM:r<ops.size:=by obtain⟨o,h1,_⟩:=hr.at_;exact ZW h1
 cases draw with|false=>refine wpS_region ?_;have h:wpOps P (ops.map (XH rv)) Q (List.range (ops.map (XH rv)).size) a w:=h;rw[TV,List.range_eq_range']at h;have:=Ot hQ hr Tk Hg ops.size 0 a w (by omega) h;rw[if_neg (by omega)]at this;rw[List.range_eq_range'];exact this|true=>refine SY fun t=>?_;simp only[Region.schedule,hm,Bool.true_or,if_true];have h:wpAny P .any (ops.map (XH rv)) Q (ops.map (XH rv)).size (Array.replicate (ops.map (XH rv)).size false) a { w with drawn:=w.drawn+1 } :=h;rw[TV]at h;have:=IH hQ hr Tk Hg (WG (Gu rfl)) KM ops.size t _ a _ (by simp) h;rw[if_neg (by simp[KM])]at this;exact this
theorem S6{P:Program}{C:Cfg}{call:FuncId->List Value->AH->Option (Value×AH)}{ops:Array Oper}{s s':St}(h:Z0 P C call ops true s=some s'):XC ops=true:=by unfold Z0 at h;cases hb:(true&&Xc ops)with
 |false=>rw[hb,cond_false]at h;cases hs:(true&&isSplit C ops)with
  |true=>rw[hs,cond_true]at h;unfold XL at h;cases OS:Xk ops with
   |false=>rw[OS,cond_false]at h;unfold V4 at h;cases Dy:Tv ops with|false=>rw[Dy]at h;cases h|true=>unfold Tv at Dy;rw[Bool.and_eq_true]at Dy;exact Dy.1
   |true=>unfold Xk at OS;simp only[Bool.and_eq_true]at OS;exact OS.1.1.1.1
  |false=>rw[hs,cond_false]at h;unfold Xe at h;rw[cond_true]at h;cases hr:XC ops with|false=>rw[hr]at h;cases h|true=>rfl
 |true=>rw[hb,cond_true]at h;cases hr:XC ops with|false=>rw[hr]at h;cases h|true=>rfl
end
def TW : Array Value -> Sem Value := fun args => do
  let (x, y, b) <- Extern.MathBitsCarry.three "Sub64" args
  pure (Extern.MathBitsCarry.pair ((x + Extern.MathBitsCarry.m64 - y - b) % Extern.MathBitsCarry.m64) (if x < y + b then 1 else 0))
theorem IL{P:Program}(x y c:Nat)(hc:c<=1)(w:World):(add64Entry #[.int .u64 x,.int .u64 y,.int .u64 c]).run P w= .ok (.tuple #[.int .u64 (Int.ofNat ((x+y+c)%18446744073709551616)),.int .u64 (Int.ofNat ((x+y+c)/18446744073709551616))]) w:=by
 have:c=0\/c=1:=by omega
 rcases this with rfl|rfl<;>rfl
theorem IK{P:Program}(x y c:Nat)(hc:c<=1)(w:World):(TW #[.int .u64 x,.int .u64 y,.int .u64 c]).run P w= .ok (.tuple #[.int .u64 (Int.ofNat ((x+18446744073709551616-y-c)%18446744073709551616)),.int .u64 (cond (Nat.blt x (y+c)) 1 0)]) w:=by
 have key: ∀k:Nat,k<=1->(TW #[.int .u64 x,.int .u64 y,.int .u64 k]).run P w= .ok (Extern.MathBitsCarry.pair ((x+Extern.MathBitsCarry.m64-y-k)%Extern.MathBitsCarry.m64) (if x<y+k then 1 else 0)) w:=by
  intro k hk;have:k=0\/k=1:=by omega
  rcases this with rfl|rfl<;>rfl
 rw[key c hc];unfold Extern.MathBitsCarry.pair;by_cases h:x<y+c
 ·have:Nat.blt x (y+c)=true:=by rw[Nat.blt_eq];exact h
  rw[if_pos h,this];rfl
 ·have:Nat.blt x (y+c)=false:=by cases hb:Nat.blt x (y+c)with|false=>rfl|true=>rw[Nat.blt_eq]at hb;exact absurd hb h
  rw[if_neg h,this];rfl
structure CfgOk (P : Program) (C : Cfg) : Prop where
  mixed : P.follows .mixedOrders = true
  names : ∀ (f : Nat) (fn : Func), P.funcs[f]? = some fn -> fn.body.isSome = true -> (fn.name == "runtime.NumGoroutine") = false
  add : ∃ fn, P.funcs[C.add]? = some fn /\ (fn.name == "runtime.NumGoroutine") = false /\ fn.body.isNone = true /\ Extern.findNext fn = none /\ Extern.find fn = some add64Entry
  sub : ∃ fn, P.funcs[C.sub]? = some fn /\ (fn.name == "runtime.NumGoroutine") = false /\ fn.body.isNone = true /\ Extern.findNext fn = none /\ Extern.find fn = some TW
def S7:Ex->Exit| .norm=> .normal| .exit id=> .exit id| .ret=> .ret| .pan _=> .normal
def LW(P:Program)(body:Code)(Q:Exit->Act->World->Prop)(a:Act)(w:World):Prop:= ∀(b:Frame)(k:List Item)(cs:List Frame),∃e a' w',Q e a' w'/\Arrives P (lone (b.at a (.code body:: .inLoop body::k)) cs w) b k cs e a' w'
theorem LW.wp{P:Program}{body:Code}{Q:Exit->Act->World->Prop}{a:Act}{w:World}(h:LW P body Q a w):(Code.loop body).wp P Q a w:=fun b k cs=>by obtain⟨e,a',w',hq,Ky⟩:=h b k cs;exact⟨e,a',w',hq,.of_steps (.one step_loop) Ky⟩
def W6(Df:List Deferred)(B:Nat)(S:Nat->Prop)(L:Nat->Loc)(H:AH)(w:World)(ex:Ex)(s':St)(e:Exit)(a':Act)(w':World):Prop:=match ex with| .pan v=> ∃v',e= .panic [{ v:=v',recovered:=false }]/\ ∃L',AI Df (ext S H.n s'.H.n) L' s'.k s'.tm a'/\Inv B (ext S H.n s'.H.n) L' s'.H w'/\Fr S L H w L' s'.H w'/\VR (ext S H.n s'.H.n) L' v v'|ex=>e=S7 ex/\X3 Df B S L H w s' a' w'
theorem W6.trans{Df:List Deferred}{B:Nat}{S:Nat->Prop}{L L1:Nat->Loc}{H:AH}{w w1:World}{s1 s2:St}{ex:Ex}{e:Exit}{a2:Act}{w2:World}(hI:Inv B S L H w)(UY:Inv B (ext S H.n s1.H.n) L1 s1.H w1)(hF:Fr S L H w L1 s1.H w1)(h:W6 Df B (ext S H.n s1.H.n) L1 s1.H w1 ex s2 e a2 w2):W6 Df B S L H w ex s2 e a2 w2:=by cases ex with|pan v=>obtain⟨v',he,L2,h1,h2,h3,h4⟩:=h;rw[SU hF.n h3.n]at h1 h2 h4;exact⟨v',he,L2,h1,h2,hF.trans hI UY (fun _ h=> .inl h) h3,h4⟩|norm=>exact⟨h.1,h.2.trans hI UY hF⟩|exit j=>exact⟨h.1,h.2.trans hI UY hF⟩|ret=>exact⟨h.1,h.2.trans hI UY hF⟩
theorem W6.norm{Df:List Deferred}{B:Nat}{S:Nat->Prop}{L:Nat->Loc}{H:AH}{w:World}{s':St}{e:Exit}{a':Act}{w':World}(h:W6 Df B S L H w .norm s' e a' w'):e= .normal/\X3 Df B S L H w s' a' w':=h
theorem W6.not_normal{Df:List Deferred}{B:Nat}{S:Nat->Prop}{L:Nat->Loc}{H:AH}{w:World}{ex:Ex}{s':St}{e:Exit}{a':Act}{w':World}(Wq:ex≠ .norm)(h:W6 Df B S L H w ex s' e a' w'):e≠ .normal:=by cases ex with|pan v=>obtain⟨v',he,_⟩:=h;subst he;simp|norm=>exact absurd rfl Wq|exit j=>rw[h.1];simp[S7]|ret=>rw[h.1];simp[S7]
def LJ(P:Program)(C:Cfg)(B:Nat)(f:Code->St->Option (Ex×St)):Prop:= ∀c s ex s',f c s=some (ex,s')-> ∀Df S L a w,GO C S L->AI Df S L s.k s.tm a->Inv B S L s.H w-> ∀Q:Exit->Act->World->Prop,(∀e a' w',W6 Df B S L s.H w ex s' e a' w'->Q e a' w')->c.wp P Q a w/\ ∀body,c= .loop body->LW P body Q a w
def NA(B:Nat)(S:Nat->Prop)(L:Nat->Loc)(H:AH)(w:World)(o:Out)(H':AH)(e:Ending)(w':World):Prop:=match o with| .ret v=> ∃v',e= .returned v'/\Good B S L H w v H' v' w'| .pan v=> ∃v',e= .panicked [{ v:=v',recovered:=false }]/\Good B S L H w v H' v' w'
def Uf(P:Program)(C:Cfg)(B:Nat)(call:FuncId->List Value->AH->Option (Out×AH)):Prop:= ∀f args H o H',call f args H=some (o,H')-> ∀S L w Ym,GO C S L->Inv B S L H w->Wf S L args Ym->(∃v v' w',o= .ret v/\(callFunc f Ym.toArray).run P w= .ok (.value v') w'/\Good B S L H w v H' v' w')\/((callFunc f Ym.toArray).run P w= .ok (.enter f Ym.toArray) w/\Calls P f Ym.toArray w fun e w'=>NA B S L H w o H' e w')
def Qt(P:Program)(C:Cfg)(B:Nat)(call:FuncId->List Value->AH->Option (Value×AH)):Prop:= ∀f args H v H',call f args H=some (v,H')-> ∀S L w Ym,GO C S L->Inv B S L H w->Wf S L args Ym->(callFunc f Ym.toArray).run P w= .ok (.enter f Ym.toArray) w/\Calls P f Ym.toArray w fun e w'=> ∃v',e= .panicked [{ v:=v',recovered:=false }]/\Good B S L H w v H' v' w'
structure LvOk (P : Program) (C : Cfg) (B : Nat) (ih : Lv) : Prop where
  code : LJ P C B ih.code
  call : Y2 P C B ih.call
theorem VM{r:Option (Out×AH)}{v:Value}{H:AH}(h:Rz r=some (v,H)):r=some (.ret v,H):=by
 unfold Rz at h;split at h;·injection h with h;injection h with h1 h2;subst h1;subst h2;rfl
 ·cases h
theorem VP{r:Option (Out×AH)}{v:Value}{H:AH}(h:Mv r=some (v,H)):r=some (.pan v,H):=by
 unfold Mv at h;split at h;·injection h with h;injection h with h1 h2;subst h1;subst h2;rfl
 ·cases h
theorem Uf.ret{P:Program}{C:Cfg}{B:Nat}{call:FuncId->List Value->AH->Option (Out×AH)}(h:Uf P C B call):Y2 P C B (fun f args H=>Rz (call f args H)):=by
 intro f args H v H' hc S L w Ym hG hI ha;rcases h f args H _ H' (VM hc) S L w Ym hG hI ha with⟨v1,v',w',e,h1,h2⟩|⟨h1,h2⟩;·cases e;exact .inl ⟨v',w',h1,h2⟩
 ·exact .inr ⟨h1,h2⟩
theorem Uf.pan{P:Program}{C:Cfg}{B:Nat}{call:FuncId->List Value->AH->Option (Out×AH)}(h:Uf P C B call):Qt P C B (fun f args H=>Mv (call f args H)):=by
 intro f args H v H' hc S L w Ym hG hI ha;rcases h f args H _ H' (VP hc) S L w Ym hG hI ha with⟨v1,v',w',e,h1,h2⟩|⟨h1,h2⟩;·cases e
 ·exact⟨h1,h2⟩
theorem Sf{S:Nat->Prop}{L:Nat->Loc}{args:List Value}{x y c:Nat}{Ym:List Value}(h:QA args=some (x,y,c))(hv:Wf S L args Ym):Ym=[.int .u64 x,.int .u64 y,.int .u64 c]/\c<=1:=by
 unfold QA at h;split at h<;>first|(cases h;done)|skip
 rename_i a b d;split at h<;>first|(cases h;done)|skip
 rename_i hb;obtain⟨h1,h2,h3,h4⟩:=hb;injection h with h;injection h with e1 e2;injection e2 with e2 e3;obtain⟨x',y',z',rfl,v1,v2,v3⟩:=hv.inv3;cases v1;cases v2;cases v3;subst e1;subst e2;subst e3;exact⟨by rw[Int.toNat_of_nonneg h1,Int.toNat_of_nonneg h2,Int.toNat_of_nonneg h3],by omega⟩
theorem Ox: ∀(vs:List Value)(i:Nat)(t:Tr Value)(k:Nat),(ZA i vs t).get k=if i<=k/\k<i+vs.length then vs[k-i]? else t.get k
 |[],i,t,k=>by rw[if_neg (by rw[List.length_nil];omega)];rfl
 |v::vs,i,t,k=>by
  simp only[ZA];rw[Ox vs (i+1) (t.set i v) k,Tr.get_set];by_cases h:i+1<=k/\k<i+1+vs.length
  ·rw[if_pos h,if_pos (by simp;omega)];have:k-i=(k-(i+1))+1:=by omega
   rw[this];rfl
  ·rw[if_neg h];by_cases e:k=i;·subst e;rw[if_pos rfl,if_pos (by simp)];simp
   ·rw[if_neg e,if_neg (by simp;omega)]
theorem P3{B:Nat}{S:Nat->Prop}{L:Nat->Loc}{H:AH}{w:World}{P:Program}(hI:Inv B S L H w){t:TypeId}{x x' v:Value}(h:Yk P H t x=some v)(hx:VR S L x x'): ∃v',(do loadVar t (<-asAddr x'):Sem Value).run P w= .ok v' w/\VR S L v v':=by
 obtain⟨v',h1,h2⟩:=Qd (P:=P) hI h hx;refine⟨v',?_,h2⟩;unfold Yk at h;split at h<;>first|(cases h;done)|skip
 cases hx with|ptr i o hS=>simp only[Instr.loadAt,Instr.sureAddr,Sem.run_bind,Sem.run_pure,Result.andThen_ok]at h1;simp only[asAddr,Sem.run_bind,Sem.run_pure,Result.andThen_ok,h1]
def NR(tmps:Array Value)(r:ResultVar):Sem Value:=match r with| .tmp t=>pure (tmps.getD t undef)| .cell c t=>do loadVar t (<-asAddr (tmps.getD c undef))
theorem NQ(fn:Func)(tmps:Array Value):results fn tmps=(do let vs<-fn.results.mapM (NR tmps);pure (if h:vs.size=1 then vs[0]else .tuple vs)):=rfl
theorem Sq{Df:List Deferred}{B:Nat}{S:Nat->Prop}{L:Nat->Loc}{w:World}{P:Program}{s:St}{a:Act}(hA:AI Df S L s.k s.tm a)(hI:Inv B S L s.H w): ∀(rs:List ResultVar)(vs:List Value),Zh P s rs=some vs-> ∃Sr,(rs.mapM (NR a.tmps):Sem (List Value)).run P w= .ok Sr w/\Wf S L vs Sr
 |[],vs,h=>by simp only[Zh]at h;obtain rfl:=Option.some.inj h;exact⟨[],by simp,.nil⟩
 |r::rs,vs,h=>by simp only[Zh]at h;cases hr:Zy P s r with
  |none=>rw[hr]at h;cases h
  |some v=>rw[hr]at h;simp only at h;cases KM:Zh P s rs with
   |none=>rw[KM]at h;cases h
   |some vs1=>
    rw[KM]at h;obtain rfl:=Option.some.inj h;obtain⟨Sr,h1,h2⟩:=Sq hA hI rs vs1 KM;have Gq: ∃v',(NR a.tmps r).run P w= .ok v' w/\VR S L v v':=by cases r with
     |tmp t=>exact⟨_,rfl,(hA.tmp t v hr).2⟩
     |cell c t=>simp only[Zy]at hr;cases hc:s.tm.get c with|none=>rw[hc]at hr;cases hr|some x=>rw[hc]at hr;exact P3 hI hr (hA.tmp c x hc).2
    obtain⟨v',h3,h4⟩:=Gq;refine⟨v'::Sr,?_,.cons h4 h2⟩;rw[List.mapM_cons];simp only[Sem.run_bind,h3,Result.andThen_ok,h1,Sem.run_pure]
theorem W5{Df:List Deferred}{B:Nat}{S:Nat->Prop}{L:Nat->Loc}{w:World}{P:Program}{s:St}{a:Act}(hA:AI Df S L s.k s.tm a)(hI:Inv B S L s.H w){fn:Func}{vs:List Value}(h:Zh P s fn.results.toList=some vs): ∃v',(results fn a.tmps).run P w= .ok v' w/\VR S L (ZR vs) v':=by
 obtain⟨Sr,h1,h2⟩:=Sq (P:=P) hA hI _ _ h;have h3:(results fn a.tmps).run P w= .ok (if h:Sr.toArray.size=1 then Sr.toArray[0]else .tuple Sr.toArray) w:=by rw[NQ,Array.mapM_eq_mapM_toList];simp only[Sem.run_bind,Sem.run_map,h1,Result.andThen_ok,Sem.run_pure]
 refine⟨_,h3,?_⟩;match vs,Sr,h2 with
  |[v],[v'],h2=>exact h2.2 0 v v' rfl rfl
  |[],[],h2=>exact .tuple _ _ rfl (fun k v v' h=>by simp at h)
  |v::u::r,v'::u'::r',h2=>
   have e: ¬ ((v'::u'::r').toArray.size=1):=by simp
   rw[dif_neg e];exact .tuple _ _ (by simpa using h2.1) (fun k x y hx hy=>h2.2 k x y (by simpa using hx) (by simpa using hy))
  |[],_::_,h2=>have:=h2.1;simp at this
  |[v],[],h2=>have:=h2.1;simp at this
  |[v],_::_::_,h2=>have:=h2.1;simp at this
  |_::_::_,[],h2=>have:=h2.1;simp at this
  |_::_::_,[_],h2=>have:=h2.1;simp at this
section
variable {P : Program} {C : Cfg} {B : Nat}
theorem RC{S:Nat->Prop}{L:Nat->Loc}{tm:Tr Value}{a:Act}{c:Call}{g:FuncId}{args:List Value}(hx: ∀x∈c.operands,∀u,Yd C tm x=some u->VR S L u (a.eval x))(h:Yn C tm c=some (g,args))(ty:TypeId): ∃Ux cs':Array Value,∃Wb:List Value,(∀w,(resolve a.eval c ty).run P w= .ok { target:= .fn (.func g) cs',args:=Ux++Wb.toArray } w)/\Wf S L args (Ux.toList++Wb++cs'.toList):=by
 obtain⟨callee,Xn,JX⟩:=c;unfold Yn at h;cases callee<;>simp only at h<;>first|(cases h;done)|skip
 rename_i f;split at h<;>first|(cases h;done)|skip
 rename_i fv h1;split at h<;>first|(cases h;done)|skip
 rename_i g' fs cs xs h3 h4;injection h with h;injection h with e1 e2;subst e1;subst e2;have hf:=hx f (by simp[Call.operands]) _ h1;have hxs:=WI (ρ:=a.eval) (fun x Fh u h=>hx x (by simp only[Call.operands,Array.mem_append];exact .inr (by simpa using Fh)) u h) h4;generalize Ee:a.eval f=f' at hf;unfold Zm at h3;split at h3<;>first|(cases h3;done)|skip
 rename_i g0 Ca YK;injection h3 with h3;injection h3 with h5 h6;injection h6 with h6 h7;subst h5;subst h6;subst h7;cases hf with
  |func _ _ Ux _ cs' e1 q1 e2 q2=>
   have Gf:Wf S L Ca.toList Ux.toList:=⟨by simpa using e1,fun k x y hx hy=>q1 k x y (by simpa using hx) (by simpa using hy)⟩;have UE:Wf S L YK.toList cs'.toList:=⟨by simpa using e2,fun k x y hx hy=>q2 k x y (by simpa using hx) (by simpa using hy)⟩;refine⟨Ux,cs',Xn.toList.map a.eval,fun w=>?_,(Gf.append hxs).append UE⟩;have e:Xn.map a.eval=(Xn.toList.map a.eval).toArray:=by apply Array.ext';simp
   simp[resolve,Ee,Deferred.ofValue,e]
theorem S5{Df:List Deferred}{call T4:FuncId->List Value->AH->Option (Value×AH)}(Yb:Y2 P C B call)(Eb:Qt P C B T4){ops:Array Oper}{Q:Exit->Act->World->Prop} : ∀(l:List Oper)(k:Nat)(s:St)(ex:Ex)(s':St)(S:Nat->Prop)(L:Nat->Loc)(a:Act)(w:World),GO C S L->(∀j,l[j]?=ops[k+j]?)->WN P C call T4 ops l s=some (ex,s')->AI Df S L s.k s.tm a->Inv B S L s.H w->(∀e a' w',W6 Df B S L s.H w ex s' e a' w'->Q e a' w')->wpOps P ops Q (List.range' k l.length) a w
 |[],k,s,ex,s',S,L,a,w,hG,hl,h,hA,hI,hQ=>by cases h
 |o::rest,k,s,ex,s',S,L,a,w,hG,hl,h,hA,hI,hQ=>by
  have h0:ops[k]?=some o:=by simpa using(hl 0).symm
  have RM: ∀j,rest[j]?=ops[k+1+j]?:=fun j=>by have:=hl (j+1);simpa[Nat.add_assoc,Nat.add_comm 1 j]using this
  rw[List.length_cons,List.range'_succ,wpOps_cons];unfold wpOp;rw[h0];dsimp only;simp only[WN]at h;split at h<;>first|(cases h;done)|skip
  ·rename_i hw;rw[X1 hw (hA.guard o),if_pos rfl];split at h
   ·rename_i v H1 hp;injection h with h;injection h with e1 e2;subst e1;subst e2;refine .inl ?_;unfold Oper.wp;unfold WH at hp;split at hp<;>first|(cases hp;done)|skip
    ·rename_i x Yj;split at hp<;>first|(cases hp;done)|skip
     rename_i t u hx;injection hp with hp;injection hp with e1 e2;subst e1;subst e2;have hv:=TD hG hA hx;generalize Pj:a.eval x=x' at hv;have Vk:(execOp a.eval o).run P w= .halt (.panic x') w:=by obtain⟨dst,op,ty,pos,after,guard⟩:=o;simp only at Yj;subst Yj;cases hv with|iface _ _ u' hu=>simp[execOp,Pj,Instr.panic]
     rw[Vk];exact hQ _ a w ⟨x',rfl,L,hA.mono (fun _ h=> .inl h) (fun _ _=>rfl),hI.mono (fun _ h=> .inl h) (fun i h=>hI.bd i (Yc h)),Fr.refl hI,hv.mono (fun _ h=> .inl h) (fun _ _=>rfl)⟩
    ·rename_i c Yj;split at hp<;>first|(cases hp;done)|skip
     rename_i g args hd;obtain⟨dst,op,ty,pos,after,guard⟩:=o;simp only at Yj;subst Yj;obtain⟨Ux,cs',Wb,h2,h3⟩:=RC (P:=P) (fun x _ u hx=>TD hG hA hx) hd ty;obtain⟨h4,h5⟩:=Eb g args s.H v H1 hp S L w _ hG hI h3;have e:Ux++Wb.toArray++cs'=(Ux.toList++Wb++cs'.toList).toArray:=by apply Array.ext';simp
     have Vk:(execOp a.eval { dst,op:=Op.call c,type:=ty,pos,after,guard }).run P w= .ok (.enter g (Ux.toList++Wb++cs'.toList).toArray) w:=by simp only[execOp,Sem.run_bind,h2,Result.andThen_ok,invoke];rw[e,h4]
     rw[Vk];refine Calls.mono h5 fun e w' ⟨v',he,hg⟩=>?_;subst he;obtain⟨L1,g1,g2,g3⟩:=hg;exact hQ _ a w' ⟨v',rfl,L1,hA.mono (fun _ h=> .inl h) g2.agree,g1,g2,g3⟩
   ·split at h<;>first|(cases h;done)|skip
    rename_i v H1 Yj;split at h<;>first|(cases h;done)|skip
    rename_i s1 ZG;refine .inl ((YU Yb hG hI (fun x _ u hx=>TD hG hA hx) Yj).wp fun v' w1 PF=>?_);obtain⟨L1,g1,g2,g3⟩:=PF;obtain⟨e1,e2,_⟩:=Yi ZG;subst e1;refine S5 Yb Eb rest (k+1) s1 ex s' _ L1 _ w1 (hG.mono (fun _ h=> .inl h) g2.agree) RM h (hA.put (fun _ h=> .inl h) g2.agree g3 ZG) g1 fun e a' w' hd=>hQ e a' w' (hd.trans hI g1 g2)
  ·rename_i hw;rw[X1 hw (hA.guard o),if_neg (by simp)];split at h<;>first|(cases h;done)|skip
   rename_i s1 ZG;obtain⟨e1,e2,_⟩:=Yi ZG;refine S5 Yb Eb rest (k+1) s1 ex s' S L _ w hG RM h (hA.put (fun _ h=>h) (fun _ _=>rfl) Ub ZG) (by rw[e1];exact hI) fun e a' w' hd=>hQ e a' w' (by rw[e1]at hd;exact hd)
end
theorem MX{next:Act->World->Prop}{Q:Exit->Act->World->Prop}{e:Exit}{a:Act}{w:World}(h:e≠ .normal)(hQ:Q e a w):Exit.then next Q e a w:=by cases e<;>first|exact absurd rfl h|exact hQ
theorem II{P:Program}{C:Cfg}{B:Nat}(hC:CfgOk P C){ih:Lv}(OT:LvOk P C B ih)(Ap:Uf P C B (XM P C ih)):LJ P C B (YT P C ih):=by
 have Yb:Y2 P C B (Z7 P C ih):=Ap.ret;have Eb:Qt P C B (Yu P C ih):=Ap.pan;have ih:=OT.code;intro c s ex s' h Df S L a w hG hA hI Q hQ;cases c<;>simp only[YT]at h<;>first|(cases h;done)|skip
 case skip=>injection h with h;injection h with h1 h2;subst h1;subst h2;exact⟨wp_skip (hQ _ a w ⟨rfl,X3.refl hA hI⟩),fun _ e=>by cases e⟩
 case exit id=>injection h with h;injection h with h1 h2;subst h1;subst h2;exact⟨wp_exit (hQ _ a w ⟨rfl,X3.refl hA hI⟩),fun _ e=>by cases e⟩
 case ret=>injection h with h;injection h with h1 h2;subst h1;subst h2;exact⟨wp_ret (hQ _ a w ⟨rfl,X3.refl hA hI⟩),fun _ e=>by cases e⟩
 case region id ops draw=>
  split at h;·rename_i s1 hr;injection h with h;injection h with h1 h2;subst h1;subst h2;exact⟨PO hC.mixed Yb hr hG hA hI (fun a' w' hd=>hQ _ a' w' ⟨rfl,hd⟩) id,fun _ e=>by cases e⟩
  ·cases draw with|true=>cases h|false=>rw[cond_false]at h;refine⟨wp_region ?_,fun _ e=>by cases e⟩;have:=S5 (Q:=Q) Yb Eb ops.toList 0 s ex s' S L a w hG (fun j=>by simp) h hA hI hQ;rw[List.range_eq_range'];simpa using this
 case seq x y=>
  refine⟨wp_seq ?_,fun _ e=>by cases e⟩;split at h;·rename_i s1 hx;refine(ih x s .norm s1 hx Df S L a w hG hA hI _ fun e a1 w1 hd=>?_).1;obtain⟨rfl,hd⟩:=hd;obtain⟨L1,d1,d2,d3⟩:=hd;exact(ih y s1 ex s' h Df _ L1 a1 w1 (hG.mono (fun _ h=> .inl h) d3.agree) d1 d2 Q fun e a2 w2 La=>hQ e a2 w2 (La.trans hI d2 d3)).1
  ·rename_i Wq;refine(ih x s ex s' h Df S L a w hG hA hI _ fun e a1 w1 hd=>MX (hd.not_normal fun e=>?_) (hQ e a1 w1 hd)).1;subst e;exact Wq s' h
 case cond x y z=>
  refine⟨?_,fun _ e=>by cases e⟩;split at h<;>first|(cases h;done)|skip
  rename_i t hx;have hv:=Ts hG (fun t v _ hv=>(hA.tmp t v hv).2) hx;generalize Pj:a.eval x=u at hv;cases hv;refine wp_cond Pj ?_;have:=(ih (cond t y z) s ex s' h Df S L a w hG hA hI Q hQ).1;cases t<;>exact this
 case block id body=>
  refine⟨wp_block ?_,fun _ e=>by cases e⟩;split at h;·rename_i j s1 hb;refine(ih body s (.exit j) s1 hb Df S L a w hG hA hI _ fun e a1 w1 hd=>?_).1;obtain⟨rfl,hd⟩:=hd;cases hj:Nat.beq j id with
   |true=>rw[hj,cond_true]at h;injection h with h;injection h with h1 h2;subst h1;subst h2;have e:=Nat.eq_of_beq_eq_true hj;show Exit.inBlock id Q (.exit j) a1 w1;simp only[Exit.inBlock,e,if_true];exact hQ _ a1 w1 ⟨rfl,hd⟩
   |false=>
    rw[hj,cond_false]at h;injection h with h;injection h with h1 h2;subst h1;subst h2;have e:j≠id:=fun e=>by subst e;rw[Nat.beq_refl]at hj;cases hj
    show Exit.inBlock id Q (.exit j) a1 w1;simp only[Exit.inBlock,e,if_false];exact hQ _ a1 w1 ⟨rfl,hd⟩
  ·rename_i Wq;refine(ih body s ex s' h Df S L a w hG hA hI _ fun e a1 w1 hd=>?_).1;cases ex with|norm=>rw[hd.1];exact hQ _ a1 w1 ⟨rfl,hd.2⟩|exit j=>exact absurd h (Wq j s')|ret=>rw[hd.1];exact hQ _ a1 w1 ⟨rfl,hd.2⟩|pan v=>have:=hQ e a1 w1 hd;obtain⟨v',rfl,_⟩:=hd;exact this
 case loop body=>
  have key:LW P body Q a w:=by
   intro b k cs;split at h;·rename_i s1 hb;have h1:=(ih body s .norm s1 hb Df S L a w hG hA hI (fun e a1 w1=>e= .normal/\X3 Df B S L s.H w s1 a1 w1) fun e a1 w1 hd=>hd).1;obtain⟨e,a1,w1,⟨rfl,hd⟩,Ky⟩:=h1 b (.inLoop body::k) cs;obtain⟨L1,d1,d2,d3⟩:=hd;have h2:=(ih (.loop body) s1 ex s' h Df _ L1 a1 w1 (hG.mono (fun _ h=> .inl h) d3.agree) d1 d2 Q fun e a2 w2 La=>hQ e a2 w2 (La.trans hI d2 d3)).2 body rfl;obtain⟨e2,a2,w2,hq,F7⟩:=h2 b k cs;have F6:Steps P (lone (b.at a (.code body:: .inLoop body::k)) cs w) (lone (b.at a1 (.inLoop body::k)) cs w1):=Ky;exact⟨e2,a2,w2,hq,.of_steps (F6.trans (.one step_inLoop)) F7⟩
   ·rename_i Wq;have h1:=(ih body s ex s' h Df S L a w hG hA hI (Exit.then (fun _ _=>False) Q) fun e a1 w1 hd=>MX (hd.not_normal fun e=>by subst e;exact Wq s' h) (hQ e a1 w1 hd)).1;obtain⟨e,a1,w1,hq,Ky⟩:=h1 b (.inLoop body::k) cs;have CJ:e≠ .normal:=fun e'=>by subst e';exact hq
    refine⟨e,a1,w1,?_,.pass (x:= .inLoop body) rfl (fun a w=> .inl CJ) Ky⟩;cases e<;>first|exact hq.elim|exact hq
  exact⟨key.wp,fun Aa e=>by cases e;exact key⟩
section
variable {P : Program} {C : Cfg} {B : Nat}
theorem Kl(hC:CfgOk P C){ih:Lv}(OT:LvOk P C B ih){rv:Value}{cs cs':List Frame}(Tk:recoverD cs=some (rv,cs')\/(recoverD cs=none/\rv= .nilIface/\cs'=cs)): ∀(c:Code)(s:St)(ex:Ex)(s':St),Mc P C ih rv c s=some (ex,s')->(ex= .norm\/ex= .ret)/\ ∀S L a w,GO C S L->AI [] S L s.k s.tm a->Inv B S L s.H w-> ∀Q:Exit->Act->List Frame->World->Prop,(∀a' w',X3 [] B S L s.H w s' a' w'->Q (S7 ex) a' cs' w')->c.wpS P Q a cs w:=by intro c;induction c with
 |seq x y EP EO=>intro s ex s' h;simp only[Mc]at h;cases hf:V5 x with
  |true=>
   rw[hf,cond_true]at h;split at h<;>first|(cases h;done)|skip
   rename_i s1 h1;have CH:ih.code y s1=some (ex,s')/\(ex= .norm\/ex= .ret):=by
    unfold SQ at h;split at h<;>first|(cases h;done)|skip
    ·rename_i s2 e;injection h with h;injection h with e1 e2;subst e1;subst e2;exact⟨e,.inl rfl⟩
    ·rename_i s2 e;injection h with h;injection h with e1 e2;subst e1;subst e2;exact⟨e,.inr rfl⟩
   refine⟨CH.2,fun S L a w hG hA hI Q hQ=>wpS_seq ((EP s .norm s1 h1).2 S L a w hG hA hI _ fun a1 w1 hd=>?_)⟩;obtain⟨L1,d1,d2,d3⟩:=hd;show y.wpS P Q a1 cs' w1;refine wpS_of_wp (OT.code y s1 ex s' CH.1 [] _ L1 a1 w1 (hG.mono (fun _ h=> .inl h) d3.agree) d1 d2 _ fun e a2 w2 La=>?_).1;have G8:=La.trans hI d2 d3;rcases CH.2 with e1|e1<;>(subst e1;rw[G8.1];exact hQ a2 w2 G8.2)
  |false=>
   rw[hf,cond_false]at h;split at h<;>first|(cases h;done)|skip
   rename_i s1 h1;obtain⟨g1,g2⟩:=EO s1 ex s' h;refine⟨g1,fun S L a w hG hA hI Q hQ=>wpS_seq (wpS_of_wp (OT.code x s .norm s1 h1 [] S L a w hG hA hI _ fun e a1 w1 hd=>?_).1)⟩;obtain⟨rfl,hd⟩:=hd;obtain⟨L1,d1,d2,d3⟩:=hd;exact g2 _ L1 a1 w1 (hG.mono (fun _ h=> .inl h) d3.agree) d1 d2 Q fun a2 w2 La=>hQ a2 w2 (La.trans hI d2 d3)
 |region id ops draw=>intro s ex s' h;simp only[Mc]at h;cases ho:VN ops with
  |false=>rw[ho]at h;cases h
  |true=>
   rw[ho,cond_true]at h;split at h<;>first|(cases h;done)|skip
   rename_i s1 h1;injection h with h;injection h with e1 e2;subst e1;subst e2;refine⟨.inl rfl,fun S L a w hG hA hI Q hQ=>?_⟩;have Gu:=U9 (Q:=fun e a' w'=>e= .normal/\X3 [] B S L s.H w s1 a' w') hC.mixed OT.call h1 hG hA hI fun a' w' hd=>⟨rfl,hd⟩;exact NI hC.mixed (fun e a w q=>q.1) Tk (fun a w q=>hQ a w q.2) ho (fun e=>by subst e;exact S6 h1) Gu id
 |_=>intro s ex s' h;cases h
theorem SA{S:Nat->Prop}{L:Nat->Loc}{args Ym:List Value}(R8:Wf S L args Ym)(n:Nat):AI [] S L (args.length+(n-args.length)) (ZA 0 args .nil) { tmps:=Ym.toArray++Array.replicate (n-Ym.toArray.size) undef,defers:=[] } :=by
 have hlen:=R8.1;refine⟨rfl,by simp[hlen],fun t u hu=>?_⟩;rw[Ox]at hu;split at hu
 ·rename_i ht;simp only[Nat.sub_zero]at hu;obtain⟨u',h1,h2⟩:=R8.get hu;have Z3:t<Ym.length:=by omega
  refine⟨by omega,?_⟩;have:(Ym.toArray++Array.replicate (n-Ym.toArray.size) undef).getD t undef=u':=by rw[Array.getD_eq_getD_getElem?];rw[Array.getElem?_append,if_pos (by simpa using Z3),List.getElem?_toArray,h1];rfl
  show VR S L u ((Ym.toArray++Array.replicate (n-Ym.toArray.size) undef).getD t undef);rw[this];exact h2
 ·cases hu
theorem Qo(hC:CfgOk P C){f:FuncId}{fn:Func}{c:Code}(KZ:P.funcs[f]?=some fn)(WM:fn.body=some c)(args:Array Value)(w:World):(callFunc f args).run P w= .ok (.enter f args) w:=by
 have KT:=hC.names f fn KZ (by rw[WM];rfl);have Nf:fn.name≠ "runtime.NumGoroutine":=by simpa using KT
 simp[callFunc,KZ,Nf,WM]
def Y5:FrameMode->FrameMode| .panicking [{ v:=v,recovered:=false,goexit:=false }]=> .panicking [{ v:=v,recovered:=true }]|m=>m
theorem Q9{u:FrameMode}(h:u= .returning\/ ∃v,u= .panicking [{ v:=v,recovered:=false }]):settle (Y5 u)= .returning:=by rcases h with rfl|⟨v,rfl⟩<;>rfl
theorem Ls{u:FrameMode}{rv:Value}(h:(u= .returning/\rv= .nilIface)\/u= .panicking [{ v:=rv,recovered:=false }])(c:Frame)(hc:c.mode=u)(cs:List Frame):recoverD (c::cs)=some (rv,{ c with mode:=Y5 u } ::cs)\/(recoverD (c::cs)=none/\rv= .nilIface/\({ c with mode:=Y5 u } ::cs)=c::cs):=by
 rcases h with⟨rfl,rfl⟩|rfl;·right;refine⟨by simp[recoverD,hc],rfl,?_⟩;rw[show Y5 .returning=c.mode from hc.symm]
 ·left;simp[recoverD,hc];rfl
theorem Kh(hC:CfgOk P C){ih:Lv}(OT:LvOk P C B ih){g:FuncId}{args:List Value}{rv:Value}{H H':AH}(h:U6 P C ih g args rv H=some H'){S:Nat->Prop}{L:Nat->Loc}{w:World}{Ym:List Value}(hG:GO C S L)(hI:Inv B S L H w)(ha:Wf S L args Ym){u:FrameMode}(hu:(u= .returning/\rv= .nilIface)\/u= .panicking [{ v:=rv,recovered:=false }]): ∃fn,P.funcs[g]?=some fn/\fn.body.isSome=true/\CallsD P g Ym.toArray u w fun e u' w'=>(∃v,e= .returned v)/\u'=Y5 u/\ ∃L',Inv B (ext S H.n H'.n) L' H' w'/\Fr S L H w L' H' w':=by
 unfold U6 at h;split at h<;>first|(cases h;done)|skip
 rename_i fn KZ;split at h<;>first|(cases h;done)|skip
 rename_i c WM;refine⟨fn,KZ,by rw[WM];rfl,callsD_of_wpS KZ WM fun c₀ cs hc=>?_⟩;have Tk:=Ls hu c₀ hc cs;have fin: ∀(ex:Ex)(s1:St)(vs:List Value),(ex= .norm\/ex= .ret)->Zh P s1 fn.results.toList=some vs->s1.H=H'-> ∀a' w',X3 [] B S L H w s1 a' w'->bodyPostS P fn c₀ cs (fun e u' w'=>(∃v,e= .returned v)/\u'=Y5 u/\ ∃L',Inv B (ext S H.n H'.n) L' H' w'/\Fr S L H w L' H' w') (S7 ex) a' ({ c₀ with mode:=Y5 u } ::cs) w':=fun ex s1 vs hex hr he a' w' hd=>by obtain⟨L',d1,d2,d3⟩:=hd;obtain⟨v',r1,r2⟩:=W5 (P:=P) d1 d2 hr;subst he;have:a'.defers=[]/\ ∃u',({ c₀ with mode:=Y5 u } ::cs)= { c₀ with mode:=u' } ::cs/\ ∃v,(results fn a'.tmps).run P w'= .ok v w'/\(∃v1,Ending.returned v= .returned v1)/\u'=Y5 u/\ ∃L',Inv B (ext S H.n s1.H.n) L' s1.H w'/\Fr S L H w L' s1.H w':=⟨d1.defers,Y5 u,rfl,v',r1,⟨v',rfl⟩,rfl,L',d2,d3⟩;rcases hex with rfl|rfl<;>exact this
 split at h<;>first|(cases h;done)|skip
 ·rename_i s1 he;split at h<;>first|(cases h;done)|skip
  rename_i vs hr;exact(Kl hC OT Tk c _ _ _ he).2 S L _ w hG (SA ha fn.ntmps) hI _ (fin _ s1 vs (.inl rfl) hr (Option.some.inj h))
 ·rename_i s1 he;split at h<;>first|(cases h;done)|skip
  rename_i vs hr;exact(Kl hC OT Tk c _ _ _ he).2 S L _ w hG (SA ha fn.ntmps) hI _ (fin _ s1 vs (.inr rfl) hr (Option.some.inj h))
theorem QQ{c:Code}{a:Code}{ops:Array Oper}{o1:Oper}{dc:Call}{rest:Code}(h:U4 c=some (a,ops,o1,dc,rest)): ∃id ty pos after,c= .seq a (.seq (.region id ops false) rest)/\ops.toList=[o1,⟨none,.defer dc,ty,pos,after,none⟩]:=by
 unfold U4 at h;split at h<;>first|(cases h;done)|skip
 rename_i a' id ops' AA;unfold L9 at h;split at h<;>first|(cases h;done)|skip
 rename_i o1' c' ty pos after PC;injection h with h;injection h with e1 h;injection h with e2 h;injection h with e3 h;injection h with e4 e5;subst e1;subst e2;subst e3;subst e4;subst e5;exact⟨id,ty,pos,after,rfl,PC⟩
theorem NS{ex:Ex}{rv:Value}(h:Jl ex=some rv){Df:List Deferred}{S:Nat->Prop}{L:Nat->Loc}{H:AH}{w:World}{s':St}{e:Exit}{a':Act}{w':World}(hd:W6 Df B S L H w ex s' e a' w'):X3 Df B S L H w s' a' w'/\(((e= .normal\/e= .ret)/\rv= .nilIface)\/e= .panic [{ v:=rv,recovered:=false }]):=by
 unfold Jl at h;split at h<;>first|(cases h;done)|skip
 ·obtain rfl:=Option.some.inj h;exact⟨hd.2,.inl ⟨.inl hd.1,rfl⟩⟩
 ·obtain rfl:=Option.some.inj h;exact⟨hd.2,.inl ⟨.inr hd.1,rfl⟩⟩
 ·rename_i v;cases hp:plain v with
  |false=>rw[hp]at h;cases h
  |true=>
   rw[hp,cond_true]at h;split at h<;>first|(cases h;done)|skip
   obtain rfl:=Option.some.inj h;obtain⟨v',he,L',d1,d2,d3,d4⟩:=hd;obtain rfl:=Ji hp d4;exact⟨⟨L',d1,d2,d3⟩,.inr he⟩
theorem N7(hC:CfgOk P C){ih:Lv}(OT:LvOk P C B ih):Uf P C B (XM P C ih):=by intro f args H o H' h S L w Ym hG hI R8;unfold XM at h;cases CZ:Nat.beq f C.add with
 |true=>
  rw[CZ,cond_true]at h;obtain rfl:=Nat.eq_of_beq_eq_true CZ;split at h<;>first|(cases h;done)|skip
  rename_i x y c hn;injection h with h;injection h with h1 h2;subst h1;subst h2;obtain⟨rfl,hc⟩:=Sf hn R8;obtain⟨fn,e1,e2,e3,e4,e5⟩:=hC.add;refine .inl ⟨_,_,w,rfl,?_,Good.same hI (v':= .tuple #[.int .u64 (Int.ofNat ((x+y+c)%18446744073709551616)),.int .u64 (Int.ofNat ((x+y+c)/18446744073709551616))]) (Xu rfl)⟩;rw[run_callFunc_extern e1 e2 e3 e4 e5];show((add64Entry #[.int .u64 x,.int .u64 y,.int .u64 c]).run P w).andThen _=_;rw[IL x y c hc w];rfl
 |false=>rw[CZ,cond_false]at h;cases Gf:Nat.beq f C.sub with
  |true=>
   rw[Gf,cond_true]at h;obtain rfl:=Nat.eq_of_beq_eq_true Gf;split at h<;>first|(cases h;done)|skip
   rename_i x y c hn;injection h with h;injection h with h1 h2;subst h1;subst h2;obtain⟨rfl,hc⟩:=Sf hn R8;obtain⟨fn,e1,e2,e3,e4,e5⟩:=hC.sub;refine .inl ⟨_,_,w,rfl,?_,Good.same hI (v':= .tuple #[.int .u64 (Int.ofNat ((x+18446744073709551616-y-c)%18446744073709551616)),.int .u64 (cond (Nat.blt x (y+c)) 1 0)]) (Xu rfl)⟩;rw[run_callFunc_extern e1 e2 e3 e4 e5];show((TW #[.int .u64 x,.int .u64 y,.int .u64 c]).run P w).andThen _=_;rw[IK x y c hc w];rfl
  |false=>
   rw[Gf,cond_false]at h;split at h<;>first|(cases h;done)|skip
   rename_i fn KZ;split at h<;>first|(cases h;done)|skip
   rename_i c WM;have hA:=SA R8 fn.ntmps;right;refine⟨Qo hC KZ WM _ w,?_⟩;unfold Vy at h;split at h
   ·rename_i x a ops o1 dc rest hdf;obtain⟨id,ty,pos,after,rfl,PC⟩:=QQ hdf;unfold Xp at h;split at h<;>first|(cases h;done)|skip
    rename_i s1 ha;split at h<;>first|(cases h;done)|skip
    rename_i s2 hl;split at h<;>first|(cases h;done)|skip
    rename_i g FO hd;split at h<;>first|(cases h;done)|skip
    rename_i ex s3 hr;split at h<;>first|(cases h;done)|skip
    rename_i rv hrv;split at h<;>first|(cases h;done)|skip
    rename_i H4 Cy;split at h<;>first|(cases h;done)|skip
    rename_i vs Bd;injection h with h;injection h with h1 h2;subst h1;subst h2;refine calls_of_wp_defers KZ WM (wp_seq ((OT.code a _ .norm s1 ha [] S L _ w hG hA hI _ fun e a1 w1 Ec=>?_).1));obtain⟨rfl,Ec⟩:=Ec;obtain⟨L1,d1,d2,d3⟩:=Ec;have JW:=hG.mono (S':=ext S H.n s1.H.n) (L':=L1) (fun _ h=> .inl h) d3.agree;refine wp_seq (wp_region ?_);have Yz:ops.size=2:=by have:=congrArg List.length PC;simpa using this
    have KS:ops[0]?=some o1:=by rw[<-Array.getElem?_toList,PC];rfl
    have Et:ops[1]?=some ⟨none,.defer dc,ty,pos,after,none⟩:=by rw[<-Array.getElem?_toList,PC];rfl
    rw[Yz];show wpOps P ops _ [0,1] a1 w1;have next: ∀(a2:Act)(w2:World),X3 [] B (ext S H.n s1.H.n) L1 s1.H w1 s2 a2 w2->wpOps P ops (Exit.then (fun a' w'=>rest.wp P (bodyPostD P fn fun e w'=>NA B S L H w (.ret (ZR vs)) H4 e w') a' w') (bodyPostD P fn fun e w'=>NA B S L H w (.ret (ZR vs)) H4 e w')) [1] a2 w2:=fun a2 w2 La=>by
     have Cw:=La.trans hI d2 d3;obtain⟨L2,f1,f2,f3⟩:=Cw;have FB:=hG.mono (S':=ext S H.n s2.H.n) (L':=L2) (fun _ h=> .inl h) f3.agree;rw[wpOps_cons];unfold wpOp;rw[Et];dsimp only;have Vl:Region.wanted ⟨none,.defer dc,ty,pos,after,none⟩ (yielded ops a2.tmps)=true:=rfl;rw[Vl,if_pos rfl];refine .inl ?_;obtain⟨Ux,cs',Wb,q1,q2⟩:=RC (P:=P) (fun x _ u hx=>TD FB f1 hx) hd ty;have Vk:(execOp a2.eval ⟨none,.defer dc,ty,pos,after,none⟩).run P w2= .ok (.defer { target:= .fn (.func g) cs',args:=Ux++Wb.toArray }) w2:=by simp only[execOp,Sem.run_bind,q1,Result.andThen_ok,Sem.run_pure]
     unfold Oper.wp;rw[Vk];have f1d:=f1.defers;show rest.wp P _ { a2 with defers:= { target:= .fn (.func g) cs',args:=Ux++Wb.toArray } ::a2.defers } w2;rw[f1d];have hA2:AI [{ target:= .fn (.func g) cs',args:=Ux++Wb.toArray }] (ext S H.n s2.H.n) L2 s2.k s2.tm { a2 with defers:=[{ target:= .fn (.func g) cs',args:=Ux++Wb.toArray }] } :=⟨rfl,f1.size,f1.tmp⟩;refine(OT.code rest s2 ex s3 hr _ _ L2 _ w2 FB hA2 f2 _ fun e a3 w3 G8=>?_).1;obtain⟨G8,Er⟩:=NS hrv G8;obtain⟨L3,g1,g2,g3⟩:=G8;rw[SU f3.n g3.n]at g1 g2;have Ce:=f3.trans hI f2 (fun _ h=> .inl h) g3;have FA:=hG.mono (S':=ext S H.n s3.H.n) (L':=L3) (fun _ h=> .inl h) Ce.agree;have leave: ∀u:FrameMode,((u= .returning/\rv= .nilIface)\/u= .panicking [{ v:=rv,recovered:=false }])->Leaves P fn a3.tmps (fun e w'=>NA B S L H w (.ret (ZR vs)) H4 e w') a3.defers u w3:=fun u hu=>by
      rw[g1.defers];have HA:Wf (ext S H.n s3.H.n) L3 FO (Ux.toList++Wb++cs'.toList):=q2.mono (fun i hi=>by
       rcases hi with hi|⟨h1,h2⟩;·exact .inl hi
       ·exact .inr ⟨h1,Nat.lt_of_lt_of_le h2 g3.n⟩) (fun i hi=>g3.agree i hi);obtain⟨fng,hfg,hbg,hcd⟩:=Kh hC OT Cy FA g2 HA hu;obtain⟨cg,hcg⟩: ∃cg,fng.body=some cg:=Option.isSome_iff_exists.mp hbg;have e:Ux++Wb.toArray++cs'=(Ux.toList++Wb++cs'.toList).toArray:=by apply Array.ext';simp
      refine leaves_cons (by rcases hu with⟨rfl,_⟩|rfl<;>simp) (f:=g) (args:=(Ux.toList++Wb++cs'.toList).toArray) (by simp only[invoke];rw[e];exact Qo hC hfg hcg _ w3) (hcd.mono fun e u' w4 hx=>?_);obtain⟨⟨v4,rfl⟩,rfl,L4,i1,i2⟩:=hx;show Leaves P fn a3.tmps _ [] (settle (Y5 u)) w4;rw[Q9 (by rcases hu with⟨h,_⟩|h;exact .inl h;exact .inr ⟨_,h⟩)];rw[SU Ce.n i2.n]at i1;have g4:=Ce.trans hI g2 (fun _ h=> .inl h) i2;have hA4:AI a3.defers (ext S H.n H4.n) L4 s3.k s3.tm a3:=⟨rfl,g1.size,fun t v ht=>⟨(g1.tmp t v ht).1,(g1.tmp t v ht).2.mono (fun i hi=>by
       rcases hi with hi|⟨h1,h2⟩;·exact .inl hi
       ·exact .inr ⟨h1,Nat.lt_of_lt_of_le h2 i2.n⟩) (fun i hi=>i2.agree i hi)⟩⟩;obtain⟨v',r1,r2⟩:=W5 (P:=P) (s:= { k:=s3.k,tm:=s3.tm,H:=H4 }) hA4 i1 Bd;exact⟨v',r1,v',rfl,L4,i1,g4,r2⟩
     rcases Er with⟨rfl|rfl,Lc⟩|rfl;·exact leave .returning (.inl ⟨rfl,Lc⟩)
     ·exact leave .returning (.inl ⟨rfl,Lc⟩)
     ·exact leave _ (.inr rfl)
    rw[wpOps_cons];unfold wpOp;rw[KS];dsimp only;rw[YO]at hl;split at hl<;>first|(cases hl;done)|skip
    ·rename_i hw;rw[X1 hw (d1.guard o1),if_pos rfl];split at hl<;>first|(cases hl;done)|skip
     rename_i v1 H1 Yj;split at hl<;>first|(cases hl;done)|skip
     rename_i s2' ZG;rw[WQ]at hl;obtain rfl:=Option.some.inj hl;refine .inl ((YU OT.call JW d2 (fun x _ u hx=>TD JW d1 hx) Yj).wp fun v' w2 PF=>?_);obtain⟨L2,p1,p2,p3⟩:=PF;obtain⟨e1,e2,_⟩:=Yi ZG;refine next _ w2 ⟨L2,?_,by rw[e1];exact p1,by rw[e1];exact p2⟩;have:=d1.put (S':=ext (ext S H.n s1.H.n) s1.H.n H1.n) (L':=L2) (fun _ h=> .inl h) p2.agree p3 ZG;rw[e1];exact this
    ·rename_i hw;rw[X1 hw (d1.guard o1),if_neg (by simp)];split at hl<;>first|(cases hl;done)|skip
     rename_i s2' ZG;rw[WQ]at hl;obtain rfl:=Option.some.inj hl;obtain⟨e1,e2,_⟩:=Yi ZG;have:=d1.put (S':=ext S H.n s1.H.n) (L':=L1) (fun _ h=>h) (fun _ _=>rfl) Ub ZG;refine next _ w1 ?_;have As:=X3.refl (B:=B) (w:=w1) this (by rw[e1];exact d2);rw[e1]at As;exact As
   ·refine calls_of_wp KZ WM ?_;unfold Ko at h;split at h<;>first|(cases h;done)|skip
    ·rename_i s1 PH;split at h<;>first|(cases h;done)|skip
     rename_i vs hr;injection h with h;injection h with h1 h2;subst h1;subst h2;refine(OT.code c _ _ s1 PH [] S L _ w hG hA hI _ fun e a' w' hd=>?_).1;obtain⟨rfl,L',d1,d2,d3⟩:=hd;obtain⟨v',r1,r2⟩:=W5 (P:=P) d1 d2 hr;exact⟨d1.defers,v',r1,v',rfl,L',d2,d3,r2⟩
    ·rename_i s1 PH;split at h<;>first|(cases h;done)|skip
     rename_i vs hr;injection h with h;injection h with h1 h2;subst h1;subst h2;refine(OT.code c _ _ s1 PH [] S L _ w hG hA hI _ fun e a' w' hd=>?_).1;obtain⟨rfl,L',d1,d2,d3⟩:=hd;obtain⟨v',r1,r2⟩:=W5 (P:=P) d1 d2 hr;exact⟨d1.defers,v',r1,v',rfl,L',d2,d3,r2⟩
    ·rename_i v s1 PH;injection h with h;injection h with h1 h2;subst h1;subst h2;refine(OT.code c _ _ s1 PH [] S L _ w hG hA hI _ fun e a' w' hd=>?_).1;obtain⟨v',rfl,L',d1,d2,d3,d4⟩:=hd;exact⟨d1.defers,v',rfl,L',d2,d3,d4⟩
theorem HZ(hC:CfgOk P C): ∀n,LvOk P C B (lv P C n)|0=>⟨(fun c s ex s' h=>by rw[Ul]at h;cases h),(fun f args H v H' h=>by rw[Ul]at h;cases h)⟩|n+1=>by have ih:=HZ hC n;have hO:=N7 hC ih;rw[Uk];exact⟨II hC ih hO,hO.ret⟩
theorem Qn{P:Program}{C:Cfg}{B:Nat}(hC:CfgOk P C){n:Nat}{f:FuncId}{args Ym:List Value}{H H':AH}{v:Value}(h:run P C n f args H=some (v,H')){fn:Func}(hf:P.funcs[f]?=some fn)(hb:fn.body.isSome=true){S:Nat->Prop}{L:Nat->Loc}{w:World}(hG:GO C S L)(hI:Inv B S L H w)(ha:Wf S L args Ym):Calls P f Ym.toArray w fun e w'=> ∃v',e= .returned v'/\Good B S L H w v H' v' w':=by
 rcases(N7 hC (HZ (B:=B) hC n)).ret f args H v H' h S L w Ym hG hI ha with⟨v',w',h1,h2⟩|⟨_,h2⟩
 ·exfalso;have KT:=hC.names f fn hf hb;have Nf:fn.name≠ "runtime.NumGoroutine":=by simpa using KT
  cases WM:fn.body with|none=>rw[WM]at hb;cases hb|some c=>rw[show(callFunc f Ym.toArray).run P w= .ok (.enter f Ym.toArray) w by simp[callFunc,hf,Nf,WM]]at h1;injection h1 with h1 _;cases h1
 ·exact h2
theorem Good.below{B:Nat}{S:Nat->Prop}{L:Nat->Loc}{H H':AH}{w w':World}{v v':Value}(hI:Inv B S L H w)(h:Good B S L H w v H' v' w'):Below B w w':=by
 obtain⟨L',g1,g2,g3⟩:=h;refine⟨g2.os,g2.tape,g2.output,g2.size,fun k hk=>?_⟩;rcases g2.frame k (Nat.lt_of_lt_of_le hk hI.base)with h1|⟨i,sz,cs,h1,h2,_⟩;·exact h1
 ·have:=(hI.rw i sz cs h1).2.1;omega
#print axioms Qn
end
end
end Go.Proofs.YtjboehpfojpimaaGreatDoor.Ev
namespace Go.Proofs.YtjboehpfojpimaaGreatDoor.Ev
open Go Go.RowKit
set_option linter.unusedVariables false
set_option linter.unusedSimpArgs false
noncomputable section
set_option maxHeartbeats 2000000
set_option maxRecDepth 20000
section
def UR(f g:FuncId->List Value->AH->Option (Value×AH)):Prop:= ∀x a H r,f x a H=some r->g x a H=some r
def Di(f g:Code->St->Option (Ex×St)):Prop:= ∀c s r,f c s=some r->g c s=some r
section
variable {P : Program} {C : Cfg} {f g : FuncId -> List Value -> AH -> Option (Value × AH)}
theorem YF(h:UR f g){tm:Tr Value}{H:AH}{op:Op}{r:Value×AH}(he:ZZ P C f tm H op=some r):ZZ P C g tm H op=some r:=by
 cases op;case call c=>obtain⟨callee,Xn,JX⟩:=c;cases callee with
  |value x=>
   simp only[ZZ,ZS]at he⊢;split at he<;>first|(cases he;done)|skip
   split at he<;>first|(cases he;done)|skip
   exact h _ _ _ _ he
  |builtin b=>exact he
  |invoke x m=>
   simp only[ZZ,ZS]at he⊢;split at he<;>first|(cases he;done)|skip
   split at he<;>first|(cases he;done)|skip
   exact h _ _ _ _ he
 all_goals exact he
theorem WX(h:UR f g){ops:Array Oper} : ∀(l:List Oper)(s s':St),Xa P C f ops l s=some s'->Xa P C g ops l s=some s'
 |[],s,s',he=>he
 |o::rest,s,s',he=>by
  rw[YO]at he⊢;split at he<;>first|(cases he;done)|skip
  ·rename_i hw;split at he<;>first|(cases he;done)|skip
   rename_i v H Yj;split at he<;>first|(cases he;done)|skip
   rename_i s1 ZG;simp only[YF h Yj,ZG];exact WX h rest s1 s' he
  ·rename_i hw;split at he<;>first|(cases he;done)|skip
   rename_i s1 ZG;try simp only[ZG]
   exact WX h rest s1 s' he
theorem T6(h:UR f g){X:Xs}{ops:Array Oper}{i:Nat}{q:Bool}{ms:List (Nat×Nat×Nat)}{s:St}{o:Oper}{r:Value×AH×Bool}(he:YX X P C f ops i q ms s o=some r):YX X P C g ops i q ms s o=some r:=by unfold YX at he⊢;cases hh:Zg o.op with
 |false=>
  rw[hh,cond_false]at he;rw[cond_false];split at he<;>first|(cases he;done)|skip
  rename_i v H2 Yj;simp only[YF h Yj];exact he
 |true=>rw[hh,cond_true]at he;rw[cond_true];cases hf:X.fv i with
  |some vf=>rw[hf]at he;exact he
  |none=>
   rw[hf]at he;simp only at he⊢;split at he<;>first|(cases he;done)|skip
   rename_i v H2 Yj;simp only[YF h Yj];exact he
theorem XD(h:UR f g){X:Xs}{ops:Array Oper} : ∀(l:List Oper)(i:Nat)(q:Bool)(ms:List (Nat×Nat×Nat))(s s':St),Yx X P C f ops i q ms l s=some s'->Yx X P C g ops i q ms l s=some s'
 |[],i,q,ms,s,s',he=>by simp only[Yx]at he⊢;exact he
 |o::rest,i,q,ms,s,s',he=>by
  simp only[Yx]at he⊢;split at he<;>first|(cases he;done)|skip
  ·rename_i hw;split at he<;>first|(cases he;done)|skip
   rename_i v H q' Yj;split at he<;>first|(cases he;done)|skip
   rename_i s1 ZG;simp only[T6 h Yj,ZG];exact XD h rest _ _ _ s1 s' he
  ·rename_i hw;split at he<;>first|(cases he;done)|skip
   rename_i s1 ZG;try simp only[ZG]
   exact XD h rest _ _ _ s1 s' he
theorem U7(h:UR f g){ops:Array Oper} : ∀(l:List Oper)(i:Nat)(fs:List (Nat×Nat×Bool))(s s':St),XU P C f ops i fs l s=some s'->XU P C g ops i fs l s=some s'
 |[],i,fs,s,s',he=>by simp only[XU]at he⊢;exact he
 |o::rest,i,fs,s,s',he=>by
  simp only[XU]at he⊢;split at he<;>first|(cases he;done)|skip
  ·rename_i hw;split at he<;>first|(cases he;done)|skip
   ·rename_i hf;split at he<;>first|(cases he;done)|skip
    rename_i v H Yj;split at he<;>first|(cases he;done)|skip
    rename_i s1 ZG;simp only[YF h Yj,ZG];exact U7 h rest _ _ s1 s' he
   ·rename_i b w hf;cases hc:XX ((before ops).getD i 0) b w fs with
    |false=>rw[hc]at he;cases he
    |true=>
     rw[hc,cond_true]at he;rw[cond_true];split at he<;>first|(cases he;done)|skip
     rename_i v H Yj;split at he<;>first|(cases he;done)|skip
     rename_i s1 ZG;simp only[YF h Yj,ZG];exact U7 h rest _ _ s1 s' he
  ·rename_i hw;split at he<;>first|(cases he;done)|skip
   rename_i s1 ZG;try simp only[ZG]
   exact U7 h rest _ _ s1 s' he
theorem Vh(h:UR f g){ops:Array Oper} : ∀(l:List Oper)(s s':St),Wr P C f ops l s=some s'->Wr P C g ops l s=some s'
 |[],s,s',he=>he
 |o::rest,s,s',he=>by
  simp only[Wr]at he⊢;split at he<;>first|(cases he;done)|skip
  ·cases hh:Zg o.op with
   |true=>rw[hh]at he;cases he
   |false=>
    rw[hh,cond_false]at he;rw[cond_false];split at he<;>first|(cases he;done)|skip
    rename_i v H Yj;split at he<;>first|(cases he;done)|skip
    rename_i s1 ZG;simp only[YF h Yj,ZG];exact Vh h rest s1 s' he
  ·split at he<;>first|(cases he;done)|skip
   rename_i s1 ZG;try simp only[ZG]
   exact Vh h rest s1 s' he
theorem PN(h:UR f g){ops:Array Oper}{s s':St}(he:X7 P C f ops s=some s'):X7 P C g ops s=some s':=by unfold X7 at he⊢;cases hc:Xk ops with
 |false=>rw[hc]at he;cases he
 |true=>
  rw[hc,cond_true]at he;rw[cond_true];split at he<;>first|(cases he;done)|skip
  rename_i s1 o1 oz PB KS KQ;split at he<;>first|(cases he;done)|skip
  rename_i b _ Tg;split at he<;>first|(cases he;done)|skip
  rename_i sz cs Y0;split at he<;>first|(cases he;done)|skip
  rename_i v Hx Qb;split at he<;>first|(cases he;done)|skip
  rename_i s3 KL;split at he<;>first|(cases he;done)|skip
  rename_i vz H4 VD;simp only[Vh h _ _ _ PB,KS,KQ,Tg,Y0,YF h Qb,XD h _ _ _ _ _ _ KL,YF h VD];exact he
theorem Kj(h:UR f g){ops:Array Oper}{s s':St}(he:V4 P C f ops s=some s'):V4 P C g ops s=some s':=by unfold V4 at he⊢;cases hc:Tv ops with
 |false=>rw[hc]at he;cases he
 |true=>
  rw[hc,cond_true]at he;rw[cond_true];split at he<;>first|(cases he;done)|skip
  rename_i oz KQ;split at he<;>first|(cases he;done)|skip
  rename_i b _ Tg;split at he<;>first|(cases he;done)|skip
  rename_i sz cs Y0;split at he<;>first|(cases he;done)|skip
  rename_i s3 KL;split at he<;>first|(cases he;done)|skip
  rename_i vz H4 VD;simp only[KQ,Tg,Y0,XD h _ _ _ _ _ _ KL,YF h VD];exact he
theorem O1(h:UR f g){ops:Array Oper}{s s':St}(he:XL P C f ops s=some s'):XL P C g ops s=some s':=by unfold XL at he⊢;cases hs:Xk ops with|true=>rw[hs,cond_true]at he;rw[cond_true];exact PN h he|false=>rw[hs,cond_false]at he;rw[cond_false];exact Kj h he
theorem Wl(h:UR f g){ops:Array Oper}{draw:Bool}{s s':St}(he:Z0 P C f ops draw s=some s'):Z0 P C g ops draw s=some s':=by unfold Z0 at he⊢;cases hb:(draw&&Xc ops)with
 |true=>rw[hb,cond_true]at he;rw[cond_true];cases hr:XC ops with|false=>rw[hr]at he;cases he|true=>rw[hr,cond_true]at he;rw[cond_true];exact U7 h _ _ _ _ _ he
 |false=>rw[hb,cond_false]at he;rw[cond_false];cases hs:(draw&&isSplit C ops)with
  |true=>rw[hs,cond_true]at he;rw[cond_true];exact O1 h he
  |false=>rw[hs,cond_false]at he;rw[cond_false];unfold Xe at he⊢;cases draw with
   |false=>rw[cond_false]at he⊢;exact WX h _ _ _ he
   |true=>rw[cond_true]at he⊢;cases hr:XC ops with|false=>rw[hr]at he;cases he|true=>rw[hr,cond_true]at he;rw[cond_true];exact XD h _ _ _ _ _ _ he
theorem UN{ops:Array Oper}{s:St} :Z0 P C f ops false s=Xa P C f ops ops.toList s:=by unfold Z0 Xe;simp
end
structure LLe (u v : Lv) : Prop where
  code : Di u.code v.code
  call : UR u.call v.call
section
variable {P : Program} {C : Cfg} {u v : Lv}
theorem Kk(h:LLe u v){rv:Value} : ∀(c:Code)(s:St)(r:Ex×St),Mc P C u rv c s=some r->Mc P C v rv c s=some r:=by intro c;induction c with
 |seq x y EP EO=>intro s r he;simp only[Mc]at he⊢;cases hf:V5 x with
  |true=>
   rw[hf,cond_true]at he;rw[cond_true];split at he<;>first|(cases he;done)|skip
   rename_i s1 h1;rw[EP _ _ h1];simp only;unfold SQ at he⊢;split at he<;>first|(cases he;done)|skip
   ·rename_i s2 e;rw[h.code _ _ _ e];exact he
   ·rename_i s2 e;rw[h.code _ _ _ e];exact he
  |false=>
   rw[hf,cond_false]at he;rw[cond_false];split at he<;>first|(cases he;done)|skip
   rename_i s1 h1;rw[h.code _ _ _ h1];exact EO _ _ he
 |region id ops draw=>intro s r he;simp only[Mc]at he⊢;cases ho:VN ops with
  |false=>rw[ho]at he;cases he
  |true=>
   rw[ho,cond_true]at he;rw[cond_true];split at he<;>first|(cases he;done)|skip
   rename_i s1 h1;rw[Wl h.call h1];exact he
 |_=>intro s r he;cases he
theorem Kg(h:LLe u v){g:FuncId}{args:List Value}{rv:Value}{H H':AH}(he:U6 P C u g args rv H=some H'):U6 P C v g args rv H=some H':=by
 unfold U6 at he⊢;split at he<;>first|(cases he;done)|skip
 split at he<;>first|(cases he;done)|skip
 split at he<;>first|(cases he;done)|skip
 ·rename_i hc;rw[Kk h _ _ _ hc];exact he
 ·rename_i hc;rw[Kk h _ _ _ hc];exact he
theorem RO(h:LLe u v){fn:Func}{a:Code}{ops:Array Oper}{o1:Oper}{c:Call}{rest:Code}{s0:St}{r:Out×AH}(he:Xp P C u fn a ops o1 c rest s0=some r):Xp P C v fn a ops o1 c rest s0=some r:=by
 unfold Xp at he⊢;split at he<;>first|(cases he;done)|skip
 rename_i h1;rw[h.code _ _ _ h1];simp only;split at he<;>first|(cases he;done)|skip
 rename_i h2;rw[WX h.call _ _ _ h2];simp only;split at he<;>first|(cases he;done)|skip
 rename_i h3;split at he<;>first|(cases he;done)|skip
 rename_i h4;rw[h.code _ _ _ h4];simp only;split at he<;>first|(cases he;done)|skip
 rename_i h5;split at he<;>first|(cases he;done)|skip
 rename_i h6;rw[Kg h h6];exact he
theorem MF(h:LLe u v){fn:Func}{c:Code}{s0:St}{r:Out×AH}(he:Vy P C u fn c s0=some r):Vy P C v fn c s0=some r:=by
 unfold Vy at he⊢;split at he;·exact RO h he
 ·cases hc:u.code c s0 with|none=>rw[hc]at he;cases he|some x=>rw[hc]at he;rw[h.code _ _ _ hc];exact he
theorem Vz(h:LLe u v)(x:FuncId)(a:List Value)(H:AH)(r:Out×AH)(he:XM P C u x a H=some r):XM P C v x a H=some r:=by unfold XM at he⊢;cases h1:Nat.beq x C.add with
 |true=>rw[h1,cond_true]at he;rw[cond_true];exact he
 |false=>rw[h1,cond_false]at he;rw[cond_false];cases h2:Nat.beq x C.sub with
  |true=>rw[h2,cond_true]at he;rw[cond_true];exact he
  |false=>
   rw[h2,cond_false]at he;rw[cond_false];split at he<;>first|(cases he;done)|skip
   split at he<;>first|(cases he;done)|skip
   exact MF h he
theorem XY(h:LLe u v):UR (Z7 P C u) (Z7 P C v):=fun x a H r he=>by obtain⟨w,H'⟩:=r;have:=Vz h _ _ _ _ (VM he);unfold Z7;rw[this];rfl
theorem OA(h:LLe u v):UR (Yu P C u) (Yu P C v):=fun x a H r he=>by obtain⟨w,H'⟩:=r;have:=Vz h _ _ _ _ (VP he);unfold Yu;rw[this];rfl
theorem IQ(h:LLe u v){x:FuncId}{a:List Value}{H:AH}{r:Value×AH}(he:Z7 P C u x a H=some r):Yu P C v x a H=none:=by obtain⟨w,H'⟩:=r;have:=Vz h _ _ _ _ (VM he);unfold Yu;rw[this];rfl
theorem IZ(h:LLe u v){x:FuncId}{a:List Value}{H:AH}{r:Value×AH}(he:Yu P C u x a H=some r):Z7 P C v x a H=none:=by obtain⟨w,H'⟩:=r;have:=Vz h _ _ _ _ (VP he);unfold Z7;rw[this];rfl
theorem U2{f:FuncId->List Value->AH->Option (Value×AH)}{tm:Tr Value}{H:AH}{c:Call}{g:FuncId}{args:List Value}(h:Yn C tm c=some (g,args)):ZS P C f tm H c=f g args H:=by
 obtain⟨callee,Xn,JX⟩:=c;unfold Yn at h;cases callee<;>simp only at h<;>first|(cases h;done)|skip
 split at h<;>first|(cases h;done)|skip
 rename_i fv h1;split at h<;>first|(cases h;done)|skip
 rename_i h3 h4;injection h with h;injection h with e1 e2;subst e1;subst e2;simp only[ZS,h1,h3,h4]
theorem UI(h:LLe u v){tm:Tr Value}{H:AH}{op:Op}{r:Value×AH}(he:ZZ P C (Z7 P C u) tm H op=some r):WH C (Yu P C v) tm H op=none:=by
 cases op;case call c=>simp only[WH];cases hd:Yn C tm c with|none=>rfl|some x=>obtain⟨g,args⟩:=x;simp only[ZZ]at he;rw[U2 hd]at he;exact IQ h he
 case panic x=>cases he
 all_goals rfl
theorem MC(h:LLe u v){tm:Tr Value}{H:AH}{op:Op}{r:Value×AH}(he:WH C (Yu P C u) tm H op=some r):ZZ P C (Z7 P C v) tm H op=none:=by
 cases op;case call c=>simp only[WH]at he;cases hd:Yn C tm c with|none=>rw[hd]at he;cases he|some x=>obtain⟨g,args⟩:=x;rw[hd]at he;simp only[ZZ];rw[U2 hd];exact IZ h he
 case panic x=>rfl
 all_goals cases he
theorem Ob(h:LLe u v){tm:Tr Value}{H:AH}{op:Op}{r:Value×AH}(he:WH C (Yu P C u) tm H op=some r):WH C (Yu P C v) tm H op=some r:=by
 cases op;case call c=>simp only[WH]at he⊢;cases hd:Yn C tm c with|none=>rw[hd]at he;cases he|some x=>rw[hd]at he;exact OA h _ _ _ _ he
 case panic x=>exact he
 all_goals cases he
theorem V3(h:LLe u v){ops:Array Oper} : ∀(l:List Oper)(s:St)(r:Ex×St),WN P C (Z7 P C u) (Yu P C u) ops l s=some r->WN P C (Z7 P C v) (Yu P C v) ops l s=some r/\Xa P C (Z7 P C v) ops l s=none
 |[],s,r,he=>by cases he
 |o::rest,s,r,he=>by
  rw[YO];simp only[WN]at he⊢;split at he<;>first|(cases he;done)|skip
  ·rename_i hw;split at he;·rename_i v1 H1 hp;rw[Ob h hp];simp only[MC h hp];exact⟨he,trivial⟩
   ·rename_i hp;split at he<;>first|(cases he;done)|skip
    rename_i v1 H1 Yj;split at he<;>first|(cases he;done)|skip
    rename_i s1 ZG;rw[UI h Yj];simp only[YF (XY h) Yj,ZG];exact V3 h rest s1 r he
  ·rename_i hw;split at he<;>first|(cases he;done)|skip
   rename_i s1 ZG;try simp only[ZG]
   exact V3 h rest s1 r he
theorem R4(h:LLe u v):Di (YT P C u) (YT P C v):=by
 intro c s r he;cases c<;>simp only[YT]at he⊢ <;>first|exact he|skip
 ·rename_i id ops draw;split at he;·rename_i s1 hr;rw[Wl (XY h) hr];exact he
  ·cases draw with|true=>cases he|false=>rw[cond_false]at he;obtain⟨h1,h2⟩:=V3 h _ _ _ he;rw[UN,h2];exact h1
 ·split at he;·rename_i s1 hr;rw[h.code _ _ _ hr];exact h.code _ _ _ he
  ·rename_i hn;rw[h.code _ _ _ he];split;·rename_i s1 e;exact absurd (he.trans e) (by intro e';exact hn s1 e')
   ·rfl
 ·split at he<;>first|(cases he;done)|skip
  exact h.code _ _ _ he
 ·split at he;·rename_i j s1 hr;rw[h.code _ _ _ hr];exact he
  ·rename_i hn;rw[h.code _ _ _ he];split;·rename_i j s1 e;exact absurd (he.trans e) (by intro e';exact hn j s1 e')
   ·rfl
 ·split at he;·rename_i s1 hr;rw[h.code _ _ _ hr];exact h.code _ _ _ he
  ·rename_i hn;rw[h.code _ _ _ he];split;·rename_i s1 e;exact absurd (he.trans e) (by intro e';exact hn s1 e')
   ·rfl
end
theorem VG{P:Program}{C:Cfg} : ∀{n m:Nat},n<=m->LLe (lv P C n) (lv P C m)|0,m,_=>⟨(fun c s r h=>by rw[Ul]at h;cases h),(fun x a H r h=>by rw[Ul]at h;cases h)⟩|n+1,0,h=>by omega|n+1,m+1,h=>by have ih:=VG (P:=P) (C:=C) (show n<=m by omega);rw[Uk,Uk];exact⟨R4 ih,XY ih⟩
theorem I9{P:Program}{C:Cfg}{n m:Nat}(h:n<=m):Di (ev P C n) (ev P C m):=(VG h).code
open Classical in def O0(P:Program)(C:Cfg)(c:Code)(s:St):Option (Ex×St):=if h: ∃n r,ev P C n c s=some r then some (Classical.choose (Classical.choose_spec h))else none
open Classical in def ZF(P:Program)(C:Cfg)(f:FuncId)(args:List Value)(H:AH):Option (Value×AH):=if h: ∃n r,(lv P C n).call f args H=some r then some (Classical.choose (Classical.choose_spec h))else none
theorem Ki{P:Program}{C:Cfg}{n:Nat}{c:Code}{s:St}{r:Ex×St}(h:ev P C n c s=some r):O0 P C c s=some r:=by have hx: ∃n r,ev P C n c s=some r:=⟨n,r,h⟩;unfold O0;rw[dif_pos hx];have h2:=Classical.choose_spec (Classical.choose_spec hx);have a:=I9 (Nat.le_max_left n (Classical.choose hx)) c s r h;have b:=I9 (Nat.le_max_right n (Classical.choose hx)) c s _ h2;rw[a]at b;exact b.symm
theorem PQ{P:Program}{C:Cfg}{c:Code}{s:St}{r:Ex×St}(h:O0 P C c s=some r): ∃n,ev P C n c s=some r:=by
 unfold O0 at h;split at h;·rename_i hx;obtain rfl:=Option.some.inj h;exact⟨_,Classical.choose_spec (Classical.choose_spec hx)⟩
 ·cases h
theorem PZ{P:Program}{C:Cfg}{n:Nat}{f:FuncId}{args:List Value}{H:AH}{r:Value×AH}(h:(lv P C n).call f args H=some r):ZF P C f args H=some r:=by have hx: ∃n r,(lv P C n).call f args H=some r:=⟨n,r,h⟩;unfold ZF;rw[dif_pos hx];have h2:=Classical.choose_spec (Classical.choose_spec hx);have a:=(VG (Nat.le_max_left n (Classical.choose hx))).call _ _ _ r h;have b:=(VG (Nat.le_max_right n (Classical.choose hx))).call _ _ _ _ h2;rw[a]at b;exact b.symm
theorem U1{P:Program}{C:Cfg}{f:FuncId}{args:List Value}{H:AH}{r:Value×AH}(h:ZF P C f args H=some r): ∃n,(lv P C n).call f args H=some r:=by
 unfold ZF at h;split at h;·rename_i hx;obtain rfl:=Option.some.inj h;exact⟨_,Classical.choose_spec (Classical.choose_spec hx)⟩
 ·cases h
def VC(P:Program)(C:Cfg):Lv:=⟨O0 P C,ZF P C⟩
theorem K9{P:Program}{C:Cfg}(n:Nat):LLe (lv P C n) (VC P C):=⟨fun c s r h=>Ki h,fun x a H r h=>PZ h⟩
section
variable {P : Program} {C : Cfg} {F : FuncId -> List Value -> AH -> Option (Value × AH)} {G : Nat -> FuncId -> List Value -> AH -> Option (Value × AH)}
theorem Wk(XQ: ∀x a H r,F x a H=some r-> ∃n,G n x a H=some r)(Yh: ∀{n m:Nat},n<=m->UR (G n) (G m)){tm:Tr Value}{H:AH}{op:Op}{r:Value×AH}(he:ZZ P C (F) tm H op=some r): ∃n,ZZ P C (G n) tm H op=some r:=by
 cases op;case call c=>obtain⟨callee,Xn,JX⟩:=c;cases callee with
  |value x=>
   simp only[ZZ,ZS]at he⊢;split at he<;>first|(cases he;done)|skip
   split at he<;>first|(cases he;done)|skip
   obtain⟨n,hn⟩:=XQ _ _ _ _ he;exact⟨n,hn⟩
  |builtin b=>exact⟨0,he⟩
  |invoke x m=>
   simp only[ZZ,ZS]at he⊢;split at he<;>first|(cases he;done)|skip
   split at he<;>first|(cases he;done)|skip
   obtain⟨n,hn⟩:=XQ _ _ _ _ he;exact⟨n,hn⟩
 all_goals exact⟨0,he⟩
theorem VZ(XQ: ∀x a H r,F x a H=some r-> ∃n,G n x a H=some r)(Yh: ∀{n m:Nat},n<=m->UR (G n) (G m)){ops:Array Oper} : ∀(l:List Oper)(s s':St),Xa P C (F) ops l s=some s'-> ∃n,Xa P C (G n) ops l s=some s'
 |[],s,s',he=>⟨0,he⟩
 |o::rest,s,s',he=>by
  rw[YO]at he;split at he<;>first|(cases he;done)|skip
  ·rename_i hw;split at he<;>first|(cases he;done)|skip
   rename_i v H Yj;split at he<;>first|(cases he;done)|skip
   rename_i s1 ZG;obtain⟨n1,h1⟩:=Wk XQ Yh Yj;obtain⟨n2,h2⟩:=VZ XQ Yh rest s1 s' he;refine⟨max n1 n2,?_⟩;rw[YO,hw];simp only[YF (Yh (Nat.le_max_left n1 n2)) h1,ZG];exact WX (Yh (Nat.le_max_right n1 n2)) _ _ _ h2
  ·rename_i hw;split at he<;>first|(cases he;done)|skip
   rename_i s1 ZG;obtain⟨n2,h2⟩:=VZ XQ Yh rest s1 s' he;refine⟨n2,?_⟩;rw[YO,hw];try simp only[ZG]
   exact h2
theorem QN(XQ: ∀x a H r,F x a H=some r-> ∃n,G n x a H=some r)(Yh: ∀{n m:Nat},n<=m->UR (G n) (G m)){X:Xs}{ops:Array Oper}{i:Nat}{q:Bool}{ms:List (Nat×Nat×Nat)}{s:St}{o:Oper}{r:Value×AH×Bool}(he:YX X P C (F) ops i q ms s o=some r): ∃n,YX X P C (G n) ops i q ms s o=some r:=by unfold YX at he⊢;cases hh:Zg o.op with
 |false=>
  rw[hh,cond_false]at he;simp only[cond_false];split at he<;>first|(cases he;done)|skip
  rename_i v H2 Yj;obtain⟨n,hn⟩:=Wk XQ Yh Yj;exact⟨n,by simp only[hn];exact he⟩
 |true=>rw[hh,cond_true]at he;simp only[cond_true];cases hf:X.fv i with
  |some vf=>rw[hf]at he;exact⟨0,he⟩
  |none=>
   rw[hf]at he;simp only at he;split at he<;>first|(cases he;done)|skip
   rename_i v H2 Yj;obtain⟨n,hn⟩:=Wk XQ Yh Yj;exact⟨n,by simp only[hn];exact he⟩
theorem WR(XQ: ∀x a H r,F x a H=some r-> ∃n,G n x a H=some r)(Yh: ∀{n m:Nat},n<=m->UR (G n) (G m)){X:Xs}{ops:Array Oper} : ∀(l:List Oper)(i:Nat)(q:Bool)(ms:List (Nat×Nat×Nat))(s s':St),Yx X P C (F) ops i q ms l s=some s'-> ∃n,Yx X P C (G n) ops i q ms l s=some s'
 |[],i,q,ms,s,s',he=>⟨0,by simp only[Yx]at he⊢;exact he⟩
 |o::rest,i,q,ms,s,s',he=>by
  simp only[Yx]at he⊢;split at he<;>first|(cases he;done)|skip
  ·rename_i hw;split at he<;>first|(cases he;done)|skip
   rename_i v H q' Yj;split at he<;>first|(cases he;done)|skip
   rename_i s1 ZG;obtain⟨n1,h1⟩:=QN XQ Yh Yj;obtain⟨n2,h2⟩:=WR XQ Yh rest _ _ _ s1 s' he;refine⟨max n1 n2,?_⟩;simp only[T6 (Yh (Nat.le_max_left n1 n2)) h1,ZG];exact XD (Yh (Nat.le_max_right n1 n2)) _ _ _ _ _ _ h2
  ·rename_i hw;split at he<;>first|(cases he;done)|skip
   rename_i s1 ZG;obtain⟨n2,h2⟩:=WR XQ Yh rest _ _ _ s1 s' he;refine⟨n2,?_⟩;try simp only[ZG]
   exact h2
theorem VY{f g:FuncId->List Value->AH->Option (Value×AH)}{ops:Array Oper} : ∀(l:List Oper)(i:Nat)(fs:List (Nat×Nat×Bool))(s s':St),XU P C f ops i fs l s=some s'->XU P C g ops i fs l s=some s'
 |[],i,fs,s,s',he=>by simp only[XU]at he⊢;exact he
 |o::rest,i,fs,s,s',he=>by
  have QI: ∀tm H r x,YV C tm o.op=some x->ZZ P C f tm H o.op=some r->ZZ P C g tm H o.op=some r:=fun tm H r x hm Yj=>by
   cases e:o.op;case call c=>rw[e]at hm Yj;obtain⟨callee,Xn,JX⟩:=c;cases callee with|value x=>simp[YV,Zg]at hm|builtin b=>exact Yj|invoke x m=>simp[YV,Zg]at hm
   all_goals(rw[e]at Yj;exact Yj)
  simp only[XU]at he⊢;split at he<;>first|(cases he;done)|skip
  ·rename_i hw;split at he<;>first|(cases he;done)|skip
   ·rename_i hf;split at he<;>first|(cases he;done)|skip
    rename_i v H Yj;split at he<;>first|(cases he;done)|skip
    rename_i s1 ZG;simp only[QI _ _ _ _ hf Yj,ZG];exact VY rest _ _ s1 s' he
   ·rename_i b w hf;cases hc:XX ((before ops).getD i 0) b w fs with
    |false=>rw[hc]at he;cases he
    |true=>
     rw[hc,cond_true]at he;rw[cond_true];split at he<;>first|(cases he;done)|skip
     rename_i v H Yj;split at he<;>first|(cases he;done)|skip
     rename_i s1 ZG;simp only[QI _ _ _ _ hf Yj,ZG];exact VY rest _ _ s1 s' he
  ·rename_i hw;split at he<;>first|(cases he;done)|skip
   rename_i s1 ZG;try simp only[ZG]
   exact VY rest _ _ s1 s' he
theorem UM(XQ: ∀x a H r,F x a H=some r-> ∃n,G n x a H=some r)(Yh: ∀{n m:Nat},n<=m->UR (G n) (G m)){ops:Array Oper} : ∀(l:List Oper)(s s':St),Wr P C (F) ops l s=some s'-> ∃n,Wr P C (G n) ops l s=some s'
 |[],s,s',he=>⟨0,he⟩
 |o::rest,s,s',he=>by
  simp only[Wr]at he⊢;split at he<;>first|(cases he;done)|skip
  ·rename_i hw;cases hh:Zg o.op with
   |true=>rw[hh]at he;cases he
   |false=>
    rw[hh,cond_false]at he;split at he<;>first|(cases he;done)|skip
    rename_i v H Yj;split at he<;>first|(cases he;done)|skip
    rename_i s1 ZG;obtain⟨n1,h1⟩:=Wk XQ Yh Yj;obtain⟨n2,h2⟩:=UM XQ Yh rest s1 s' he;refine⟨max n1 n2,?_⟩;simp only[cond_false,YF (Yh (Nat.le_max_left n1 n2)) h1,ZG];exact Vh (Yh (Nat.le_max_right n1 n2)) _ _ _ h2
  ·rename_i hw;split at he<;>first|(cases he;done)|skip
   rename_i s1 ZG;obtain⟨n2,h2⟩:=UM XQ Yh rest s1 s' he;refine⟨n2,?_⟩;try simp only[ZG]
   exact h2
theorem QM(XQ: ∀x a H r,F x a H=some r-> ∃n,G n x a H=some r)(Yh: ∀{n m:Nat},n<=m->UR (G n) (G m)){ops:Array Oper}{s s':St}(he:X7 P C (F) ops s=some s'): ∃n,X7 P C (G n) ops s=some s':=by unfold X7 at he⊢;cases hc:Xk ops with
 |false=>rw[hc]at he;cases he
 |true=>
  rw[hc,cond_true]at he;simp only[cond_true];split at he<;>first|(cases he;done)|skip
  rename_i s1 o1 oz PB KS KQ;split at he<;>first|(cases he;done)|skip
  rename_i b _ Tg;split at he<;>first|(cases he;done)|skip
  rename_i sz cs Y0;split at he<;>first|(cases he;done)|skip
  rename_i v Hx Qb;split at he<;>first|(cases he;done)|skip
  rename_i s3 KL;split at he<;>first|(cases he;done)|skip
  rename_i vz H4 VD;obtain⟨n1,h1⟩:=UM XQ Yh _ _ _ PB;obtain⟨n2,h2⟩:=Wk XQ Yh Qb;obtain⟨n3,h3⟩:=WR XQ Yh _ _ _ _ _ _ KL;obtain⟨n4,h4⟩:=Wk XQ Yh VD;have m1:n1<=n1+n2+n3+n4:=by omega
  have m2:n2<=n1+n2+n3+n4:=by omega
  have m3:n3<=n1+n2+n3+n4:=by omega
  have m4:n4<=n1+n2+n3+n4:=by omega
  refine⟨n1+n2+n3+n4,?_⟩;simp only[Vh (Yh m1) _ _ _ h1,KS,KQ,Tg,Y0,YF (Yh m2) h2,XD (Yh m3) _ _ _ _ _ _ h3,YF (Yh m4) h4];exact he
theorem MB(XQ: ∀x a H r,F x a H=some r-> ∃n,G n x a H=some r)(Yh: ∀{n m:Nat},n<=m->UR (G n) (G m)){ops:Array Oper}{s s':St}(he:V4 P C (F) ops s=some s'): ∃n,V4 P C (G n) ops s=some s':=by unfold V4 at he⊢;cases hc:Tv ops with
 |false=>rw[hc]at he;cases he
 |true=>
  rw[hc,cond_true]at he;simp only[cond_true];split at he<;>first|(cases he;done)|skip
  rename_i oz KQ;split at he<;>first|(cases he;done)|skip
  rename_i b _ Tg;split at he<;>first|(cases he;done)|skip
  rename_i sz cs Y0;split at he<;>first|(cases he;done)|skip
  rename_i s3 KL;split at he<;>first|(cases he;done)|skip
  rename_i vz H4 VD;obtain⟨n3,h3⟩:=WR XQ Yh _ _ _ _ _ _ KL;obtain⟨n4,h4⟩:=Wk XQ Yh VD;have m3:n3<=n3+n4:=by omega
  have m4:n4<=n3+n4:=by omega
  refine⟨n3+n4,?_⟩;simp only[KQ,Tg,Y0,XD (Yh m3) _ _ _ _ _ _ h3,YF (Yh m4) h4];exact he
theorem PM(XQ: ∀x a H r,F x a H=some r-> ∃n,G n x a H=some r)(Yh: ∀{n m:Nat},n<=m->UR (G n) (G m)){ops:Array Oper}{s s':St}(he:XL P C (F) ops s=some s'): ∃n,XL P C (G n) ops s=some s':=by unfold XL at he⊢;cases hs:Xk ops with|true=>rw[hs,cond_true]at he;simp only[cond_true];exact QM XQ Yh he|false=>rw[hs,cond_false]at he;simp only[cond_false];exact MB XQ Yh he
theorem U8(XQ: ∀x a H r,F x a H=some r-> ∃n,G n x a H=some r)(Yh: ∀{n m:Nat},n<=m->UR (G n) (G m)){ops:Array Oper}{draw:Bool}{s s':St}(he:Z0 P C (F) ops draw s=some s'): ∃n,Z0 P C (G n) ops draw s=some s':=by unfold Z0 at he⊢;cases hb:(draw&&Xc ops)with
 |true=>rw[hb,cond_true]at he;simp only[cond_true];cases hr:XC ops with|false=>rw[hr]at he;cases he|true=>rw[hr,cond_true]at he;exact⟨0,by rw[cond_true];exact VY _ _ _ _ _ he⟩
 |false=>rw[hb,cond_false]at he;simp only[cond_false];cases hs:(draw&&isSplit C ops)with
  |true=>rw[hs,cond_true]at he;simp only[cond_true];exact PM XQ Yh he
  |false=>rw[hs,cond_false]at he;simp only[cond_false];unfold Xe at he⊢;cases draw with
   |false=>rw[cond_false]at he;simp only[cond_false];exact VZ XQ Yh _ _ _ he
   |true=>rw[cond_true]at he;simp only[cond_true];cases hr:XC ops with|false=>rw[hr]at he;cases he|true=>rw[hr,cond_true]at he;simp only[cond_true];exact WR XQ Yh _ _ _ _ _ _ he
end
section
variable {P : Program} {C : Cfg}
theorem YL{c:Code}{s:St}{r:Ex×St}(h:O0 P C c s=some r): ∃n,∀m,n<=m->(lv P C m).code c s=some r:=by obtain⟨n,hn⟩:=PQ h;exact⟨n,fun m hm=>(VG hm).code _ _ _ hn⟩
theorem VS{n m:Nat}(h:n<=m):UR (lv P C n).call (lv P C m).call:=(VG h).call
theorem IW{ops:Array Oper}{draw:Bool}{s s':St}(h:Z0 P C (ZF P C) ops draw s=some s'): ∃n,∀m,n<=m->Z0 P C (lv P C m).call ops draw s=some s':=by obtain⟨n,hn⟩:=U8 (F:=ZF P C) (G:=fun n=>(lv P C n).call) (fun x a H r h=>U1 h) (fun h=>VS h) h;exact⟨n,fun m hm=>Wl (VS hm) hn⟩
theorem K2{ops:Array Oper}{l:List Oper}{s s':St}(h:Xa P C (ZF P C) ops l s=some s'): ∃n,∀m,n<=m->Xa P C (lv P C m).call ops l s=some s':=by obtain⟨n,hn⟩:=VZ (F:=ZF P C) (G:=fun n=>(lv P C n).call) (fun x a H r h=>U1 h) (fun h=>VS h) _ _ _ h;exact⟨n,fun m hm=>WX (VS hm) _ _ _ hn⟩
theorem Md{rv:Value} : ∀(c:Code)(s:St)(r:Ex×St),Mc P C (VC P C) rv c s=some r-> ∃n,∀m,n<=m->Mc P C (lv P C m) rv c s=some r:=by intro c;induction c with
 |seq x y EP EO=>intro s r he;simp only[Mc]at he⊢;cases hf:V5 x with
  |true=>
   rw[hf,cond_true]at he;simp only[cond_true];split at he<;>first|(cases he;done)|skip
   rename_i s1 h1;obtain⟨n1,e1⟩:=EP _ _ h1;unfold SQ at he⊢;split at he<;>first|(cases he;done)|skip
   ·rename_i s2 e;obtain⟨n2,e2⟩:=YL e;refine⟨max n1 n2,fun m hm=>?_⟩;rw[e1 m (by omega)];simp only[e2 m (by omega)];exact he
   ·rename_i s2 e;obtain⟨n2,e2⟩:=YL e;refine⟨max n1 n2,fun m hm=>?_⟩;rw[e1 m (by omega)];simp only[e2 m (by omega)];exact he
  |false=>
   rw[hf,cond_false]at he;simp only[cond_false];split at he<;>first|(cases he;done)|skip
   rename_i s1 h1;obtain⟨n1,e1⟩:=YL h1;obtain⟨n2,e2⟩:=EO _ _ he;refine⟨max n1 n2,fun m hm=>?_⟩;rw[e1 m (by omega)];exact e2 m (by omega)
 |region id ops draw=>intro s r he;simp only[Mc]at he⊢;cases ho:VN ops with
  |false=>rw[ho]at he;cases he
  |true=>
   rw[ho,cond_true]at he;simp only[cond_true];split at he<;>first|(cases he;done)|skip
   rename_i s1 h1;obtain⟨n,hn⟩:=IW h1;exact⟨n,fun m hm=>by rw[hn m hm];exact he⟩
 |_=>intro s r he;cases he
theorem ME{g:FuncId}{args:List Value}{rv:Value}{H H':AH}(he:U6 P C (VC P C) g args rv H=some H'): ∃n,∀m,n<=m->U6 P C (lv P C m) g args rv H=some H':=by
 unfold U6 at he⊢;split at he<;>first|(cases he;done)|skip
 rename_i hf;split at he<;>first|(cases he;done)|skip
 rename_i hb;split at he<;>first|(cases he;done)|skip
 ·rename_i hc;obtain⟨n,hn⟩:=Md _ _ _ hc;exact⟨n,fun m hm=>by simp only[hf,hb,hn m hm];exact he⟩
 ·rename_i hc;obtain⟨n,hn⟩:=Md _ _ _ hc;exact⟨n,fun m hm=>by simp only[hf,hb,hn m hm];exact he⟩
theorem S4{fn:Func}{a:Code}{ops:Array Oper}{o1:Oper}{c:Call}{rest:Code}{s0:St}{r:Out×AH}(he:Xp P C (VC P C) fn a ops o1 c rest s0=some r): ∃n,∀m,n<=m->Xp P C (lv P C m) fn a ops o1 c rest s0=some r:=by
 unfold Xp at he⊢;split at he<;>first|(cases he;done)|skip
 rename_i h1;split at he<;>first|(cases he;done)|skip
 rename_i h2;split at he<;>first|(cases he;done)|skip
 rename_i h3;split at he<;>first|(cases he;done)|skip
 rename_i h4;split at he<;>first|(cases he;done)|skip
 rename_i h5;split at he<;>first|(cases he;done)|skip
 rename_i h6;obtain⟨n1,e1⟩:=YL h1;obtain⟨n2,e2⟩:=K2 h2;obtain⟨n3,e3⟩:=YL h4;obtain⟨n4,e4⟩:=ME h6;refine⟨max (max n1 n2) (max n3 n4),fun m hm=>?_⟩;simp only[e1 m (by omega),e2 m (by omega),h3,e3 m (by omega),h5,e4 m (by omega)];exact he
theorem OB{fn:Func}{c:Code}{s0:St}{r:Out×AH}(he:Vy P C (VC P C) fn c s0=some r): ∃n,∀m,n<=m->Vy P C (lv P C m) fn c s0=some r:=by
 unfold Vy at he⊢;split at he;·rename_i hd;obtain⟨n,hn⟩:=S4 he;exact⟨n,fun m hm=>by simp only[hn m hm]⟩
 ·rename_i hd;cases hc:(VC P C).code c s0 with|none=>rw[hc]at he;cases he|some x=>obtain⟨n,hn⟩:=YL hc;rw[hc]at he;exact⟨n,fun m hm=>by simp only[hn m hm];exact he⟩
theorem RD{x:FuncId}{a:List Value}{H:AH}{r:Out×AH}(he:XM P C (VC P C) x a H=some r): ∃n,∀m,n<=m->XM P C (lv P C m) x a H=some r:=by unfold XM at he⊢;cases h1:Nat.beq x C.add with
 |true=>rw[h1,cond_true]at he;exact⟨0,fun m _=>by rw[cond_true];exact he⟩
 |false=>rw[h1,cond_false]at he;simp only[cond_false];cases h2:Nat.beq x C.sub with
  |true=>rw[h2,cond_true]at he;exact⟨0,fun m _=>by rw[cond_true];exact he⟩
  |false=>
   rw[h2,cond_false]at he;simp only[cond_false];split at he<;>first|(cases he;done)|skip
   rename_i hf;split at he<;>first|(cases he;done)|skip
   rename_i hb;obtain⟨n,hn⟩:=OB he;exact⟨n,fun m hm=>hn m hm⟩
theorem XS:ZF P C=Z7 P C (VC P C):=by funext x a H;cases h:ZF P C x a H with
 |some r=>obtain⟨n,hn⟩:=U1 h;cases n with|zero=>rw[Ul]at hn;cases hn|succ n=>rw[Uk]at hn;exact(XY (K9 n) _ _ _ _ hn).symm
 |none=>cases h2:Z7 P C (VC P C) x a H with
  |none=>rfl
  |some r=>
   obtain⟨v,H'⟩:=r;obtain⟨n,hn⟩:=RD (VM h2);have:(lv P C (n+1)).call x a H=some (v,H'):=by rw[Uk];show Z7 P C (lv P C n) x a H=_;unfold Z7;rw[hn n (Nat.le_refl _)];rfl
   rw[PZ this]at h;cases h
def QU(P:Program)(C:Cfg):FuncId->List Value->AH->Option (Value×AH):=Yu P C (VC P C)
theorem SE{f:FuncId}{args:List Value}{H:AH}{r:Value×AH}(he:ZF P C f args H=some r): ∃n,Z7 P C (lv P C n) f args H=some r:=by obtain⟨n,hn⟩:=U1 he;cases n with|zero=>rw[Ul]at hn;cases hn|succ n=>rw[Uk]at hn;exact⟨n,hn⟩
theorem MP{f:FuncId}{args:List Value}{H:AH}{r:Value×AH}(h:ZF P C f args H=some r): ∃n,run P C n f args H=some r:=SE h
theorem Mz{x:FuncId}{a:List Value}{H:AH}{r:Value×AH}(h:Z7 P C (VC P C) x a H=some r): ∃n,Z7 P C (lv P C n) x a H=some r:=by rw[<-XS]at h;exact SE h
theorem Iz{x:FuncId}{a:List Value}{H:AH}{r:Value×AH}(h:QU P C x a H=some r): ∃n,∀m,n<=m->Yu P C (lv P C m) x a H=some r:=by obtain⟨v,H'⟩:=r;obtain⟨n,hn⟩:=RD (VP h);exact⟨n,fun m hm=>by unfold Yu;rw[hn m hm];rfl⟩
theorem Lo{tm:Tr Value}{H:AH}{op:Op}{r:Value×AH}(he:WH C (QU P C) tm H op=some r): ∃n,∀m,n<=m->WH C (Yu P C (lv P C m)) tm H op=some r:=by
 cases op;case call c=>simp only[WH]at he⊢;cases hd:Yn C tm c with|none=>rw[hd]at he;cases he|some x=>rw[hd]at he;exact Iz he
 case panic x=>exact⟨0,fun m _=>he⟩
 all_goals cases he
theorem GU{tm:Tr Value}{H:AH}{op:Op}{r:Value×AH}(he:ZZ P C (Z7 P C (VC P C)) tm H op=some r): ∃n,∀m,n<=m->ZZ P C (Z7 P C (lv P C m)) tm H op=some r:=by obtain⟨n,hn⟩:=Wk (F:=Z7 P C (VC P C)) (G:=fun n=>Z7 P C (lv P C n)) (fun x a H r h=>Mz h) (fun h=>XY (VG h)) he;exact⟨n,fun m hm=>YF (XY (VG hm)) hn⟩
theorem TK{ops:Array Oper} : ∀(l:List Oper)(s:St)(r:Ex×St),WN P C (Z7 P C (VC P C)) (QU P C) ops l s=some r-> ∃n,∀m,n<=m->WN P C (Z7 P C (lv P C m)) (Yu P C (lv P C m)) ops l s=some r
 |[],s,r,he=>by cases he
 |o::rest,s,r,he=>by
  simp only[WN]at he⊢;split at he<;>first|(cases he;done)|skip
  ·rename_i hw;split at he;·rename_i v1 H1 hp;obtain⟨n,hn⟩:=Lo hp;exact⟨n,fun m hm=>by simp only[hn m hm];exact he⟩
   ·rename_i hp;split at he<;>first|(cases he;done)|skip
    rename_i v1 H1 Yj;split at he<;>first|(cases he;done)|skip
    rename_i s1 ZG;obtain⟨n1,h1⟩:=GU Yj;obtain⟨n2,h2⟩:=TK rest s1 r he;refine⟨max n1 n2,fun m hm=>?_⟩;have hpn:=UI (u:=lv P C m) (v:=lv P C m) (VG (Nat.le_refl m)) (h1 m (by omega));simp only[hpn,h1 m (by omega),ZG];exact h2 m (by omega)
  ·rename_i hw;split at he<;>first|(cases he;done)|skip
   rename_i s1 ZG;obtain⟨n2,h2⟩:=TK rest s1 r he;exact⟨n2,fun m hm=>h2 m hm⟩
theorem X6(c:Code)(s:St):O0 P C c s=YT P C (VC P C) c s:=by
 have up: ∀r,O0 P C c s=some r->YT P C (VC P C) c s=some r:=fun r h=>by obtain⟨n,hn⟩:=PQ h;cases n with|zero=>rw[JB]at hn;cases hn|succ n=>rw[Me]at hn;exact R4 (K9 n) c s r hn
 have down: ∀r,YT P C (VC P C) c s=some r->O0 P C c s=some r:=fun r he=>by
  have D9:(∃n,∀m,n<=m->YT P C (lv P C m) c s=some r)->O0 P C c s=some r:=fun⟨n,h⟩=>Ki (n:=n+1) (by rw[Me];exact h n (Nat.le_refl _));apply D9;cases c<;>simp only[YT]at he⊢ <;>first|(cases he;done)|skip
  ·exact⟨0,fun m _=>he⟩
  ·rename_i id ops draw;split at he;·rename_i s1 hr;obtain⟨n,hn⟩:=U8 (F:=Z7 P C (VC P C)) (G:=fun n=>Z7 P C (lv P C n)) (fun x a H r h=>Mz h) (fun h=>XY (VG h)) hr;exact⟨n,fun m hm=>by rw[Wl (XY (VG hm)) hn];exact he⟩
   ·cases draw with|true=>cases he|false=>rw[cond_false]at he;obtain⟨n,hn⟩:=TK _ _ _ he;refine⟨n,fun m hm=>?_⟩;have h2:=(V3 (VG (Nat.le_refl m)) _ _ _ (hn m hm)).2;rw[UN,h2];exact hn m hm
  ·split at he;·rename_i s1 hr;obtain⟨n1,h1⟩:=YL hr;obtain⟨n2,h2⟩:=YL he;exact⟨max n1 n2,fun m hm=>by rw[h1 m (by omega)];exact h2 m (by omega)⟩
   ·rename_i hn;obtain⟨n1,h1⟩:=YL he;refine⟨n1,fun m hm=>?_⟩;rw[h1 m hm];split;·rename_i s1 e;exact absurd (he.trans e) (by intro e';exact hn s1 e')
    ·rfl
  ·split at he<;>first|(cases he;done)|skip
   obtain⟨n1,h1⟩:=YL he;exact⟨n1,fun m hm=>h1 m hm⟩
  ·split at he;·rename_i j s1 hr;obtain⟨n1,h1⟩:=YL hr;exact⟨n1,fun m hm=>by rw[h1 m hm];exact he⟩
   ·rename_i hn;obtain⟨n1,h1⟩:=YL he;refine⟨n1,fun m hm=>?_⟩;rw[h1 m hm];split;·rename_i j s1 e;exact absurd (he.trans e) (by intro e';exact hn j s1 e')
    ·rfl
  ·split at he;·rename_i s1 hr;obtain⟨n1,h1⟩:=YL hr;obtain⟨n2,h2⟩:=YL he;exact⟨max n1 n2,fun m hm=>by rw[h1 m (by omega)];exact h2 m (by omega)⟩
   ·rename_i hn;obtain⟨n1,h1⟩:=YL he;refine⟨n1,fun m hm=>?_⟩;rw[h1 m hm];split;·rename_i s1 e;exact absurd (he.trans e) (by intro e';exact hn s1 e')
    ·rfl
  ·exact⟨0,fun m _=>he⟩
  ·exact⟨0,fun m _=>he⟩
 cases h:O0 P C c s with
  |some r=>exact(up r h).symm
  |none=>cases h2:YT P C (VC P C) c s with|none=>rfl|some r=>rw[down r h2]at h;cases h
end
end
structure GB where
  dst : Option Tmp
  op : Op
  grd : Option (Option Tmp × Bool)
def Zt(ops:Array Oper):List Oper->List GB
 |[]=>[]
 |o::r=>⟨o.dst,o.op,match o.guard with|none=>none|some (j,b)=>some ((ops[j]?).bind (·.dst),b)⟩::Zt ops r
def strip(ops:Array Oper):List GB:=Zt ops ops.toList
section
variable (P : Program) (C : Cfg)
def CW(f:FuncId)(args:List Value)(H:AH)(Q:Value->AH->Prop):Prop:= ∃v H',ZF P C f args H=some (v,H')/\Q v H'
def gW(tm:Tr Value)(g:Option (Option Tmp×Bool)):Option Bool:=match g with
 |none=>some true
 |some (some d,want)=>match tm.get d with|some (.bool b)=>some (b==want)|some (.tuple _)=>some false|_=>none
 |some (none,_)=>none
def YR(k:Nat):List GB->Tr Value->AH->(Tr Value->AH->Prop)->Prop
 |[],tm,H,K=>K tm H
 |o::r,tm,H,K=>match gW tm o.grd with
  |some true=>match ZZ P C (ZF P C) tm H o.op with
   |some (v,H')=>match o.dst with|none=>YR k r tm H' K|some d=>d<k/\YR k r (tm.set d v) H' K
   |none=>False
  |some false=>match o.dst with|none=>YR k r tm H K|some d=>d<k/\YR k r (tm.set d undef) H K
  |none=>False
def W(c:Code)(s:St)(Q:Ex->St->Prop):Prop:= ∃ex s',O0 P C c s=some (ex,s')/\Q ex s'
end
section
variable {P : Program} {C : Cfg} {Q : Ex -> St -> Prop}
theorem Kq{ops:Array Oper}{tm:Tr Value}{o:Oper} :Ye ops tm o=gW tm (match o.guard with|none=>none|some (j,b)=>some ((ops[j]?).bind (·.dst),b)):=by unfold Ye gW;cases o.guard with|none=>rfl|some x=>obtain⟨j,b⟩:=x;simp only;cases(ops[j]?).bind (·.dst)<;>rfl
theorem UD{ops:Array Oper}{k:Nat} : ∀(l:List Oper)(tm:Tr Value)(H:AH)(K:Tr Value->AH->Prop),YR P C k (Zt ops l) tm H K-> ∃YI H',Xa P C (ZF P C) ops l ⟨k,tm,H⟩=some ⟨k,YI,H'⟩/\K YI H'
 |[],tm,H,K,h=>⟨tm,H,rfl,h⟩
 |o::r,tm,H,K,h=>by
  have put: ∀(v:Value)(H1:AH),(match o.dst with|none=>YR P C k (Zt ops r) tm H1 K|some d=>d<k/\YR P C k (Zt ops r) (tm.set d v) H1 K)-> ∃RY,(St.put ⟨k,tm,H⟩ o.dst v H1)=some ⟨k,RY,H1⟩/\YR P C k (Zt ops r) RY H1 K:=fun v H1 h=>by cases hd:o.dst with
   |none=>rw[hd]at h;exact⟨tm,rfl,h⟩
   |some d=>
    rw[hd]at h;have:Nat.blt d k=true:=by rw[Nat.blt_eq];exact h.1
    exact⟨tm.set d v,by simp only[St.put,Sn,this,cond_true],h.2⟩
  rw[YO];simp only;rw[Kq];simp only[Zt,YR]at h;split at h
  ·rename_i hg;rw[hg];split at h;·rename_i v H1 Yj;obtain⟨RY,ZG,hl⟩:=put v H1 h;obtain⟨YI,H',h1,h2⟩:=UD r RY H1 K hl;refine⟨YI,H',?_,h2⟩;simp only[Yj,ZG];exact h1
   ·exact h.elim
  ·rename_i hg;rw[hg];obtain⟨RY,ZG,hl⟩:=put undef H h;obtain⟨YI,H',h1,h2⟩:=UD r RY H K hl;refine⟨YI,H',?_,h2⟩;simp only[ZG];exact h1
  ·exact h.elim
theorem Zr{i:Nat}{ops:Array Oper}{s:St}(h:YR P C s.k (strip ops) s.tm s.H fun YI H'=>Q .norm ⟨s.k,YI,H'⟩):W P C (.region i ops false) s Q:=by
 obtain⟨k,tm,H⟩:=s;obtain⟨YI,H',h1,h2⟩:=UD (ops:=ops) ops.toList tm H _ h;refine⟨.norm,⟨k,YI,H'⟩,?_,h2⟩;rw[X6];simp only[YT];rw[XS]at h1;have:Z0 P C (Z7 P C (VC P C)) ops false ⟨k,tm,H⟩=some ⟨k,YI,H'⟩:=by unfold Z0 Xe;simp only[Bool.false_and,cond_false];exact h1
 rw[this]
theorem Tn:(VC P C).code=O0 P C:=rfl
def WA(P:Program)(C:Cfg)(b:Code)(Q:Ex->St->Prop):Ex->St->Prop| .norm,s=>W P C b s Q|e,s=>Q e s
theorem Zz{a b:Code}{s:St}(h: ∀b',b'=b->W P C a s (WA P C b' Q)):W P C (.seq a b) s Q:=by obtain⟨ex,s1,h1,h2⟩:=h b rfl;unfold W;rw[X6];simp only[YT,Tn,h1];cases ex with|norm=>exact h2|exit j=>exact⟨_,_,rfl,h2⟩|ret=>exact⟨_,_,rfl,h2⟩|pan v=>exact⟨_,_,rfl,h2⟩
theorem ZE{s:St}(h:Q .norm s):W P C .skip s Q:=⟨.norm,s,by rw[X6];rfl,h⟩
theorem YM{i:Nat}{s:St}(h:Q (.exit i) s):W P C (.exit i) s Q:=⟨.exit i,s,by rw[X6];rfl,h⟩
theorem Z8{s:St}(h:Q .ret s):W P C .ret s Q:=⟨.ret,s,by rw[X6];rfl,h⟩
theorem Zp{x:Operand}{a b:Code}{s:St}{t:Bool}(hx:Yd C s.tm x=some (.bool t))(h:W P C (cond t a b) s Q):W P C (.cond x a b) s Q:=by unfold W;rw[X6];simp only[YT,Tn,hx];exact h
def TN(id:Nat)(Q:Ex->St->Prop):Ex->St->Prop| .exit j,s=>(j=id/\Q .norm s)\/(j≠id/\Q (.exit j) s)|e,s=>Q e s
theorem Z1{id:Nat}{b:Code}{s:St}(h:W P C b s (TN id Q)):W P C (.block id b) s Q:=by obtain⟨ex,s1,h1,h2⟩:=h;unfold W;rw[X6];simp only[YT,Tn,h1];cases ex with
 |norm=>exact⟨_,_,rfl,h2⟩
 |exit j=>
  rcases h2 with⟨e,h2⟩|⟨e,h2⟩;·exact⟨.norm,s1,by simp only[Yw e,cond_true],h2⟩
  ·exact⟨.exit j,s1,by simp only[Yf e,cond_false],h2⟩
 |ret=>exact⟨_,_,rfl,h2⟩
 |pan v=>exact⟨_,_,rfl,h2⟩
theorem JN{b:Code}{s:St}(h:W P C b s (WA P C (.loop b) Q)):W P C (.loop b) s Q:=by obtain⟨ex,s1,h1,h2⟩:=h;unfold W;rw[X6];simp only[YT,Tn,h1];cases ex with|norm=>exact h2|exit j=>exact⟨_,_,rfl,h2⟩|ret=>exact⟨_,_,rfl,h2⟩|pan v=>exact⟨_,_,rfl,h2⟩
def Ro(I:Nat->St->Prop)(n:Nat)(Q:Ex->St->Prop):Ex->St->Prop| .norm,s=> ∃m,m<n/\I m s|e,s=>Q e s
theorem Qx{b:Code}(I:Nat->St->Prop)(h: ∀n s,I n s->W P C b s (Ro I n Q)): ∀(n:Nat)(s:St),I n s->W P C (.loop b) s Q:=by intro n;induction n using Nat.strongRecOn with
 |_ n ih=>intro s hI;apply JN;obtain⟨ex,s1,h1,h2⟩:=h n s hI;refine⟨ex,s1,h1,?_⟩;cases ex with|norm=>obtain⟨m,hm,OX⟩:=h2;exact ih m hm s1 OX|exit j=>exact h2|ret=>exact h2|pan v=>exact h2
theorem W.mono{c:Code}{s:St}{Q':Ex->St->Prop}(h:W P C c s Q)(hQ: ∀e s,Q e s->Q' e s):W P C c s Q':=by obtain⟨e,s1,h1,h2⟩:=h;exact⟨e,s1,h1,hQ _ _ h2⟩
theorem CW.mono{f:FuncId}{args:List Value}{H:AH}{Q Q':Value->AH->Prop}(h:CW P C f args H Q)(hQ: ∀v H',Q v H'->Q' v H'):CW P C f args H Q':=by obtain⟨v,H',h1,h2⟩:=h;exact⟨v,H',h1,hQ _ _ h2⟩
theorem Vb(k:Nat){f:FuncId}{fn:Func}{c:Code}{args:List Value}{H:AH}{R:Value->AH->Prop}(ha:Nat.beq f C.add=false)(hs:Nat.beq f C.sub=false)(hf:P.funcs[f]?=some fn)(hb:fn.body=some c)(hk:args.length+(fn.ntmps-args.length)=k)(h:W P C c { k:=k,tm:=ZA 0 args .nil,H:=H } fun ex s=>(ex= .norm\/ex= .ret)/\ ∃vs,Zh P s fn.results.toList=some vs/\R (ZR vs) s.H)(hd:U4 c=none:=by rfl):CW P C f args H R:=by
 subst hk;obtain⟨ex,s,h1,h2,vs,h3,h4⟩:=h;refine⟨ZR vs,s.H,?_,h4⟩;rw[XS];unfold Z7 XM;rw[ha,cond_false,hs,cond_false,hf];simp only[hb,Vy,hd];show Rz (Ko P fn (O0 P C c _))=_;rw[h1];rcases h2 with rfl|rfl;·simp only[Ko,h3,Rz]
 ·simp only[Ko,h3,Rz]
def GC(P:Program)(C:Cfg)(k:Nat):List GB->Tr Value->AH->(Value->Tr Value->AH->Prop)->Prop
 |[],tm,H,K=>False
 |o::r,tm,H,K=>match gW tm o.grd with
  |some true=>match ZZ P C (ZF P C) tm H o.op with
   |some (v,H')=>match o.dst with|none=>GC P C k r tm H' K|some d=>d<k/\GC P C k r (tm.set d v) H' K
   |none=>match WH C (QU P C) tm H o.op with|some (v,H')=>K v tm H'|none=>False
  |some false=>match o.dst with|none=>GC P C k r tm H K|some d=>d<k/\GC P C k r (tm.set d undef) H K
  |none=>False
variable {tm : Tr Value} {H : AH} {K : Value -> AH -> Prop}
end
end
end Go.Proofs.YtjboehpfojpimaaGreatDoor.Ev
namespace Go.Proofs.YtjboehpfojpimaaGreatDoor
open Go.ChangeShapes Go.WideShapes Go.ChangeAt Go.RowKit Go.Proofs.YtjboehpfojpimaaGreatDoor.Ev
set_option linter.unusedVariables false
noncomputable section
set_option maxHeartbeats 2000000
set_option maxRecDepth 20000
def FT:Cfg:= { ng:=0,add:=99,sub:=118,sp:=[(16,22)] }
theorem Jd:(Tryz.prog.funcs.toList.all fun fn=>fn.body.isNone||!(fn.name== "runtime.NumGoroutine"))=true:=by kernel_rfl
theorem HK (n : Nat) : CfgOk Tryz.prog { FT with ng := n } where
  mixed := Tryz.checked.mixed
  names := fun f fn hf hb => by
    have h := List.all_eq_true.mp Jd fn (by rw [Array.mem_toList_iff]; exact Array.mem_of_getElem? hf)
    cases WM : fn.body with
    | none => rw [WM] at hb; cases hb
    | some c =>
      rw [WM] at h
      simpa using h
  add := ⟨Tryz.f99, Tryz.func99, by kernel_rfl, by kernel_rfl, by kernel_rfl, by kernel_rfl⟩
  sub := ⟨Tryz.f118, Tryz.func118, by kernel_rfl, by kernel_rfl, by kernel_rfl, by kernel_rfl⟩
def RZ:Option (Value×AH)->Bool|some (.bool b,_)=>b|_=>false
theorem RG{r:Option (Value×AH)}(h:RZ r=true): ∃H,r=some (.bool true,H):=by
 unfold RZ at h;split at h;·subst h;exact⟨_,rfl⟩
 ·cases h
end
end Go.Proofs.YtjboehpfojpimaaGreatDoor
namespace Go.Proofs.YtjboehpfojpimaaGreatDoor
open Go.ChangeShapes Go.WideShapes Go.ChangeAt Go.RowKit Go.Proofs.YtjboehpfojpimaaGreatDoor.Ev
set_option linter.unusedVariables false
noncomputable section
set_option linter.unusedSimpArgs false
set_option maxHeartbeats 2000000
set_option maxRecDepth 20000
def lz(k:Int)(s:List UInt8)(a:Int):List Value:=[.int .i64 k,.string ⟨s.toArray⟩,.int .i64 a]
def IP(k:Int)(s:List UInt8)(a:Int){H:Type} :DataW H:= .agg [.lit (.int .i64 k),.lit (.string s),.lit (.int .i64 a)]
def Ur:List (Int×List UInt8×Int):=[(0,[],0),(1,[112,105],0),(2,[45],1),(3,[43],2),(4,[45],2),(5,[42],2),(6,[47],2),(7,[97,98,115],1),(8,[109,105,110],2),(9,[109,97,120],2),(10,[115,113,114,116],1),(11,[101,120,112],1),(12,[108,110],1),(13,[115,105,110],1),(14,[99,111,115],1),(15,[97,116,97,110],1)]
def Xg:List Value:=Ur.flatMap fun x=>lz x.1 x.2.1 x.2.2
theorem Lh{H:Type} :(Rows.laid_surd_expr_rows:DataW H)= .agg (Ur.map fun x=>IP x.1 x.2.1 x.2.2):=rfl
theorem FH:Tryz.prog.globalNamed "surd/expr.rows"=some 1:=by kernel_rfl
theorem Dc:(Tryz.prog.globals[1]?).map (·.type)=some 202:=by kernel_rfl
theorem Dg:Tryz.prog.underlying 202=some (.array 16 201):=by kernel_rfl
theorem B3: ∃f0 f1 f2,Tryz.prog.underlying 201=some (.struct #[f0,f1,f2])/\f0.type=26/\f0.offset=0/\f1.type=9/\f1.offset=1/\f2.type=3/\f2.offset=2:=⟨_,_,_,Tryz.underlying201,rfl,rfl,rfl,rfl,rfl,rfl⟩
theorem uOp:Tryz.prog.underlying 26=some (.int .i64):=by kernel_rfl
theorem cOp:Tryz.prog.cellsOf 26=1:=by kernel_rfl
theorem DA:Tryz.prog.cellsOf 9=1:=by kernel_rfl
theorem DB:Tryz.prog.cellsOf 3=1:=by kernel_rfl
theorem FV:Tryz.prog.cellsOf 201=3:=by kernel_rfl
theorem FU:Tryz.prog.cellsOf 202=48:=by kernel_rfl
section
variable {H : Type} {enc : TypeId × Value -> H} {w : World} {base : Nat} {sp : Nat -> Bool} {held : Bool}
theorem GI{m:Nat}{l:List Value}{k:Int}{s:List UInt8}{a:Int}{p:List MemPlace}(h:DataW.trod enc Tryz.prog w base sp held m 201 l=some (IP k s a,p)):l=lz k s a:=by obtain⟨f0,f1,f2,hu,e1,e2,e3,e4,e5,e6⟩:=B3;obtain⟨y0,y1,y2,n,hx,hl,h0,h1,h2⟩:=Deep.trod_struct3 hu h;rw[e1,e2,cOp]at h0;rw[e3,e4,DA]at h1;rw[e5,e6,DB]at h2;rw[FV]at hl;obtain⟨n0,c0,x0,_⟩:=DataW.trod_int uOp h0;obtain⟨s1,c1,x1,_⟩:=DataW.trod_string Tryz.underlying9 h1;obtain⟨n2,c2,x2,_⟩:=DataW.trod_int Tryz.underlying3 h2;subst x0;subst x1;subst x2;simp only[IP,Prod.mk.injEq,DataW.agg.injEq,List.cons.injEq,DataW.lit.injEq,Lit.int.injEq,Lit.string.injEq,true_and,and_true]at hx;obtain⟨⟨rfl,rfl,rfl⟩,_⟩:=hx;match l,hl with|[a0,a1,a2],_=>simp at c0 c1 c2;subst c0;subst c1;subst c2;rfl
theorem IM{fuel:Nat}{cs:List Value}{p:List MemPlace}(h:DataW.trod enc Tryz.prog w base sp held fuel 202 cs=some (Rows.laid_surd_expr_rows,p)):cs=Xg:=by
 obtain⟨xs,m,_,hx,hl,hn,Du⟩:=DataW.trod_array Dg h;rw[FU]at hl;rw[Lh]at hx;simp only[Prod.mk.injEq,DataW.agg.injEq]at hx;have key: ∀i,i<16->(cs.drop (i*3)).take 3=(Xg.drop (i*3)).take 3:=by
  intro i hi;have h1:=Du i hi;rw[FV]at h1;have h2:(xs.map (·.1))[i]?=some (IP ((Ur[i]?.getD (0,[],0))).1 (Ur[i]?.getD (0,[],0)).2.1 (Ur[i]?.getD (0,[],0)).2.2):=by rw[<-hx.1,List.getElem?_map,List.getElem?_eq_getElem (show i<Ur.length from hi)];rfl
  rw[List.getElem?_map]at h2;cases Fi:xs[i]? with
   |none=>rw[Fi]at h2;cases h2
   |some y=>
    rw[Fi]at h1 h2;obtain⟨y1,y2⟩:=y;simp only[Option.map_some,Option.some.injEq]at h2;subst h2;rw[GI h1];clear h1 hx Du hn hl h Fi;have:i=0\/i=1\/i=2\/i=3\/i=4\/i=5\/i=6\/i=7\/i=8\/i=9\/i=10\/i=11\/i=12\/i=13\/i=14\/i=15:=by omega
    rcases this with rfl|rfl|rfl|rfl|rfl|rfl|rfl|rfl|rfl|rfl|rfl|rfl|rfl|rfl|rfl|rfl<;>rfl
 apply List.ext_getElem?;intro k;by_cases hk:k<48
 ·have:=key (k/3) (by omega);have h3:=congrArg (fun l=>l[k%3]?) this;simp only[List.getElem?_take,List.getElem?_drop]at h3;rw[if_pos (Nat.mod_lt _ (by decide)),if_pos (Nat.mod_lt _ (by decide))]at h3;have e:k/3*3+k%3=k:=by omega
  rw[e]at h3;exact h3
 ·rw[List.getElem?_eq_none (by omega),List.getElem?_eq_none (by show Xg.length<=k;have:Xg.length=48:=rfl;omega)]
end
def Yg:Cfg:= { FT with ng:=1+1 }
def Jm:Nat->Prop:=fun i=>i<1+1
theorem NO:Xg.all Zq=true:=rfl
theorem T0{S:Nat->Prop}{L:Nat->Ev.Loc}{v:Value}(h:Zq v=true):VR S L v v:=by exact Uq h
end
end Go.Proofs.YtjboehpfojpimaaGreatDoor
namespace Go.Proofs.YtjboehpfojpimaaGreatDoor
set_option linter.unusedVariables false
set_option linter.unusedSimpArgs false
set_option maxHeartbeats 2000000
set_option maxRecDepth 20000
def ZP:List Nat->List Nat
 |[]=>[]
 |x::xs=>match ZP xs with|[]=>if x=0 then[]else[x]|y::ys=>x::y::ys
theorem Wp: ∀(xs:List Nat),ZP (xs++[0])=ZP xs|[]=>rfl|x::xs=>by simp[ZP,Wp xs]
theorem VI: ∀(xs:List Nat)(x:Nat),x≠0->ZP (xs++[x])=xs++[x]|[],x,h=>by simp[ZP,h]|y::xs,x,h=>by have:=VI xs x h;simp only[List.cons_append,ZP,this];cases xs<;>rfl
theorem WV(xs:List Nat):(ZP xs).length<=xs.length:=by induction xs with
 |nil=>simp[ZP]
 |cons x xs ih=>
  simp only[ZP];split;·split<;>simp
  ·rename_i y ys e;rw[e]at ih;simp at ih⊢;exact ih
def Y7(B:Nat)(xs:List Nat):Prop:= ∀x∈xs,x<B
theorem Y7.nil(B:Nat):Y7 B []:=fun x h=>by cases h
theorem Y7.cons{B x:Nat}{xs:List Nat}(h:x<B)(hs:Y7 B xs):Y7 B (x::xs):=fun y hy=>by
 rcases List.mem_cons.mp hy with e|e;·rw[e];exact h
 ·exact hs y e
theorem Y7.tail{B x:Nat}{xs:List Nat}(h:Y7 B (x::xs)):Y7 B xs:=fun y hy=>h y (List.mem_cons_of_mem _ hy)
theorem Y7.head{B x:Nat}{xs:List Nat}(h:Y7 B (x::xs)):x<B:=h x (List.mem_cons_self ..)
theorem Y7.append{B:Nat}{xs ys:List Nat}(h:Y7 B xs)(h':Y7 B ys):Y7 B (xs++ys):=fun y hy=>by
 rcases List.mem_append.mp hy with e|e;·exact h y e
 ·exact h' y e
theorem Y7.get{B:Nat}{xs:List Nat}(h:Y7 B xs){i x:Nat}(hi:xs[i]?=some x):x<B:=h x (List.mem_of_getElem? hi)
theorem Y7.take{B:Nat}{xs:List Nat}(h:Y7 B xs)(n:Nat):Y7 B (xs.take n):=fun y hy=>h y (List.mem_of_mem_take hy)
theorem Y7.drop{B:Nat}{xs:List Nat}(h:Y7 B xs)(n:Nat):Y7 B (xs.drop n):=fun y hy=>h y (List.mem_of_mem_drop hy)
def dv(B:Nat):List Nat->Nat|[]=>0|x::xs=>x+B*dv B xs
theorem YW(B:Nat): ∀(xs ys:List Nat),dv B (xs++ys)=dv B xs+B^xs.length*dv B ys|[],ys=>by simp[dv]|x::xs,ys=>by simp only[List.cons_append,dv,YW B xs ys,List.length_cons,Nat.pow_succ,Nat.mul_add];rw[Nat.add_assoc,<-Nat.mul_assoc,Nat.mul_comm B (B^_)]
theorem Ve{B:Nat} : ∀{xs:List Nat},Y7 B xs->dv B xs<B^xs.length
 |[],_=>by simp[dv]
 |x::xs,h=>by
  have h1:=h.head;have h2:=Ve h.tail;simp only[dv,List.length_cons,Nat.pow_succ];have:B*dv B xs+B<=B*B^xs.length:=by rw[<-Nat.mul_succ];exact Nat.mul_le_mul_left _ h2
  rw[Nat.mul_comm (B^_) B];omega
theorem SB(B:Nat): ∀n,dv B (List.replicate n 0)=0|0=>rfl|n+1=>by simp[List.replicate_succ,dv,SB B n]
theorem Vf(B:Nat): ∀(xs:List Nat),dv B (ZP xs)=dv B xs
 |[]=>rfl
 |x::xs=>by
  have ih:=Vf B xs;simp only[ZP];split
  ·rename_i e;rw[e]at ih;simp only[dv]at ih⊢;split;·rename_i h;simp[dv,h,<-ih]
   ·simp[dv,<-ih]
  ·rename_i y ys e;rw[e]at ih;simp only[dv]at ih⊢;rw[ih]
theorem Vq{B:Nat} : ∀{xs:List Nat},Y7 B xs->Y7 B (ZP xs)
 |[],h=>h
 |x::xs,h=>by
  have ih:=Vq h.tail;simp only[ZP];split
  ·split;·exact .nil B
   ·exact .cons h.head (.nil B)
  ·rename_i y ys e;rw[e]at ih;exact .cons h.head ih
theorem VJ: ∀(xs:List Nat),ZP (ZP xs)=ZP xs
 |[]=>rfl
 |x::xs=>by
  have ih:=VJ xs;simp only[ZP];split
  ·split;·rfl
   ·rename_i h;simp[ZP,h]
  ·rename_i y ys e;rw[e]at ih;simp only[ZP]at ih⊢;rw[ih]
def ds(B:Nat)(n:Nat):List Nat:=if h:n=0\/B<2 then[]else n%B::ds B (n/B) termination_by n decreasing_by exact Nat.div_lt_self (by omega) (by omega)
theorem Y1(B:Nat):ds B 0=[]:=by rw[ds];simp
theorem W7{B n:Nat}(hB:2<=B)(hn:n≠0):ds B n=n%B::ds B (n/B):=by rw[ds,dif_neg (by omega)]
theorem X5{B:Nat}(hB:2<=B)(n:Nat):dv B (ds B n)=n:=by induction n using Nat.strongRecOn with
 |_ n ih=>
  by_cases h:n=0;·subst h;rw[Y1];rfl
  ·rw[W7 hB h];simp only[dv];rw[ih (n/B) (Nat.div_lt_self (by omega) (by omega))];exact Nat.mod_add_div n B
theorem Xo{B:Nat}(hB:2<=B)(n:Nat):Y7 B (ds B n):=by induction n using Nat.strongRecOn with
 |_ n ih=>
  by_cases h:n=0;·subst h;rw[Y1];exact .nil B
  ·rw[W7 hB h];exact .cons (Nat.mod_lt _ (by omega)) (ih (n/B) (Nat.div_lt_self (by omega) (by omega)))
theorem US(B:Nat)(hB:2<=B): ∀{xs:List Nat},dv B xs=0->ZP xs=[]
 |[],_=>rfl
 |x::xs,h=>by
  simp only[dv]at h;have h1:x=0:=by omega
  have h2:dv B xs=0:=by
   have:B*dv B xs=0:=by omega
   rcases Nat.mul_eq_zero.mp this with e|e;·omega
   ·exact e
  simp[ZP,US B hB h2,h1]
theorem XN{B:Nat}(hB:2<=B): ∀{xs:List Nat},Y7 B xs->ZP xs=ds B (dv B xs)
 |[],_=>(Y1 B).symm
 |x::xs,h=>by
  have ih:=XN hB h.tail;have hx:=h.head;by_cases h0:dv B (x::xs)=0;·rw[h0,Y1];exact US B hB h0
  ·have e1:(x+B*dv B xs)%B=x:=by rw[Nat.add_mul_mod_self_left];exact Nat.mod_eq_of_lt hx
   have e2:(x+B*dv B xs)/B=dv B xs:=by rw[Nat.add_mul_div_left _ _ (by omega),Nat.div_eq_of_lt hx,Nat.zero_add]
   rw[W7 hB h0];simp only[dv,e1,e2];rw[<-ih];simp only[ZP];split
   ·rename_i e;split
    ·rename_i hz;exfalso;apply h0;have:dv B xs=0:=by rw[<-Vf B xs,e];rfl
     simp[dv,hz,this]
    ·rw[e]
   ·rename_i y ys e;rw[e]
theorem Uh{B:Nat}(hB:2<=B)(n:Nat):ZP (ds B n)=ds B n:=by rw[XN hB (Xo hB n),X5 hB]
theorem YJ{B:Nat}(hB:2<=B): ∀{k n:Nat},n<B^k->(ds B n).length<=k
 |0,n,h=>by
  have:n=0:=by simpa using h
  subst this;rw[Y1];exact Nat.le_refl _
 |k+1,n,h=>by
  by_cases h0:n=0;·subst h0;rw[Y1];exact Nat.zero_le _
  ·rw[W7 hB h0];have:n/B<B^k:=by rw[Nat.div_lt_iff_lt_mul (by omega)];rw[Nat.pow_succ]at h;exact h
   simpa using YJ hB this
theorem N9{B:Nat}(hB:2<=B)(n:Nat):n<B^(ds B n).length:=by have:=Ve (Xo hB n);rwa[X5 hB]at this
theorem I8{B:Nat}(hB:2<=B){n:Nat}(hn:n≠0):B^((ds B n).length-1)<=n:=by
 rcases Nat.lt_or_ge n (B^((ds B n).length-1))with h|h
 ·have:=YJ hB h;have h2:(ds B n).length≠0:=by rw[W7 hB hn];simp
  omega
 ·exact h
theorem QP{B:Nat}{xs ys:List Nat}{x y:Nat}(h1:Y7 B xs)(h2:Y7 B ys)(hl:xs.length=ys.length)(h:x<y)(zs:List Nat):dv B (xs++x::zs)<dv B (ys++y::zs):=by
 rw[YW,YW,<-hl];simp only[dv];have a:=Ve h1;have hm:B^xs.length*(x+1+B*dv B zs)<=B^xs.length*(y+B*dv B zs):=Nat.mul_le_mul_left _ (by omega);have e:B^xs.length*(x+1+B*dv B zs)=B^xs.length*(x+B*dv B zs)+B^xs.length:=by rw[show x+1+B*dv B zs=(x+B*dv B zs)+1 by omega,Nat.mul_succ]
 omega
end Go.Proofs.YtjboehpfojpimaaGreatDoor
namespace Go.Proofs.YtjboehpfojpimaaGreatDoor
open Go Ev
set_option linter.unusedVariables false
set_option linter.unusedSimpArgs false
noncomputable section
set_option maxHeartbeats 2000000
set_option maxRecDepth 20000
theorem B1:Tryz.prog.underlying 28=some (.slice 82):=by kernel_rfl
theorem B2:Tryz.prog.underlying 48=some (.slice 82):=by kernel_rfl
theorem B0:Tryz.prog.underlying 27=some (.slice 82):=by kernel_rfl
theorem RH:YE Tryz.prog 82=some 1:=by kernel_rfl
theorem DI:XT Tryz.prog 82=some false:=by kernel_rfl
theorem BD:XI Tryz.prog 28=some (82,1,8):=by kernel_rfl
theorem BC:XI Tryz.prog 48=some (82,1,8):=by kernel_rfl
theorem BE:XI Tryz.prog 27=some (82,1,8):=by kernel_rfl
theorem ND:Wv Tryz.prog 82=some (.int .u64 0):=by kernel_rfl
def LT(t:TypeId):Prop:=Tryz.prog.underlying t=some (.slice 82)/\XI Tryz.prog t=some (82,1,8)
theorem ZU:LT 28:=⟨B1,BD⟩
theorem ZD:LT 48:=⟨B2,BC⟩
theorem Yq:LT 27:=⟨B0,BE⟩
def At(H:AH)(b o:Nat)(xs:List Nat):Prop:=b<H.n/\ ∃cs,H.cells b=some cs/\H.size b=some 1/\(∀(i x:Nat),xs[i]?=some x->cs[o+i]?=some (.int .u64 (x:Int)))/\o<=cs.length
inductive Sl(H:AH):Value->List Nat->Prop|nil:Sl H (.slice none 0 0) []|emp(b:Nat):Sl H (.slice (some ⟨b,0,some 0⟩) 0 0) []|mk(b o cap:Nat)(xs:List Nat):xs.length<=cap->At H b o xs->Sl H (.slice (some ⟨b,o,none⟩) xs.length cap) xs
structure ZQ (H H' : AH) : Prop where
  n : H.n <= H'.n
  lw : min H.lw H.n <= H'.lw
  blk : ∀ j, j < H.n -> H'.blk j = H.blk j
theorem ZQ.refl(H:AH):ZQ H H:=⟨Nat.le_refl _,Nat.min_le_left _ _,fun _ _=>rfl⟩
theorem ZQ.trans{H H1 H2:AH}(a:ZQ H H1)(b:ZQ H1 H2):ZQ H H2:=⟨Nat.le_trans a.n b.n,by have:=a.n;have:=a.lw;have:=b.lw;omega,fun j hj=>(b.blk j (Nat.lt_of_lt_of_le hj a.n)).trans (a.blk j hj)⟩
theorem ZQ.q{H H':AH}(k:ZQ H H'){b:Nat}{x:VA}(q:H.blk b=x)(h:b<H.n:=by omega):H'.blk b=x:=(k.blk b h).trans q
theorem hid{α:Sort _}(a:α): ∃x,x=a:=⟨a,rfl⟩
section
variable {P : Program} {C : Ev.Cfg} {Q : Ev.Ex -> St -> Prop}
theorem ZX{i:Nat}{ops:Array Oper}{b:Code}{s:St}(h: ∀b',b'=b->YR P C s.k (strip ops) s.tm s.H fun YI H'=>WA P C b' Q .norm ⟨s.k,YI,H'⟩):W P C (.seq (.region i ops false) b) s Q:=Zz fun b' e=>Zr (h b' e)
theorem YH(k:Nat){f:FuncId}{fn:Func}{c:Code}{args:List Value}{H:AH}{R:Value->AH->Prop}(hf:P.funcs[f]?=some fn)(h:W P C c { k:=k,tm:=ZA 0 args .nil,H:=H } fun ex s=>(ex= .norm\/ex= .ret)/\ ∃vs,Zh P s fn.results.toList=some vs/\R (ZR vs) s.H)(ha:Nat.beq f C.add=false:=by decide)(hs:Nat.beq f C.sub=false:=by decide)(hb:fn.body=some c:=by exact rfl)(hk:args.length+(fn.ntmps-args.length)=k:=by exact rfl)(hd:U4 c=none:=by exact rfl):CW P C f args H R:=Vb k ha hs hf hb hk h hd
end
theorem At.keep{H H':AH}{b o:Nat}{xs:List Nat}(h:At H b o xs)(k:ZQ H H'):At H' b o xs:=by obtain⟨h1,cs,h2,h3,h4⟩:=h;have e:=k.blk b h1;exact⟨Nat.lt_of_lt_of_le h1 k.n,cs,by unfold AH.cells;rw[e];exact h2,by unfold AH.size;rw[e];exact h3,h4⟩
theorem Sl.keep{H H':AH}{v:Value}{xs:List Nat}(h:Sl H v xs)(k:ZQ H H'):Sl H' v xs:=by cases h with|nil=>exact .nil|emp b=>exact .emp b|mk b o cap xs h1 h2=>exact .mk b o cap xs h1 (h2.keep k)
theorem Sl.len{H:AH}{v:Value}{xs:List Nat}(h:Sl H v xs){t:TypeId}(ht:LT t):RL Tryz.prog t v=some xs.length:=by unfold RL;rw[ht.1];cases h<;>rfl
def adr(v:Value)(i:Nat):Value:=match v with| .slice (some ⟨b,o,none⟩) _ _=> .pointer (some ⟨b,o+i,none⟩)|_=> .pointer none
theorem Sl.adr{H:AH}{v:Value}{xs:List Nat}(h:Sl H v xs){t:TypeId}(ht:LT t){i:Nat}{k:IntKind}(hi:i<xs.length):YS Tryz.prog t v (.int k (i:Int))=some (adr v i):=by cases h with|nil=>cases hi|emp b=>cases hi|mk b o cap xs h1 h2=>unfold YS Go.Proofs.YtjboehpfojpimaaGreatDoor.adr;simp only[ht.1,RH];rw[if_pos (by omega)];simp
theorem Sl.load{H:AH}{v:Value}{xs:List Nat}(h:Sl H v xs){i:Nat}(hi:i<xs.length):Yk Tryz.prog H 82 (Go.Proofs.YtjboehpfojpimaaGreatDoor.adr v i)=some (.int .u64 (xs[i]:Nat)):=by cases h with|nil=>cases hi|emp b=>cases hi|mk b o cap xs h1 h2=>obtain⟨_,cs,h3,h4,h5⟩:=h2;unfold Yk Go.Proofs.YtjboehpfojpimaaGreatDoor.adr;simp only[DI,h3];exact h5.1 i _ (List.getElem?_eq_getElem hi)
theorem Jy{n:Nat}(h:n<9223372036854775808):IntKind.i64.wrap (n:Int)=(n:Int):=by rw[IntKind.wrap_i64];omega
theorem T1{n:Nat}(h0:0<n)(h:n<9223372036854775808):IntKind.i64.wrap ((n:Int)-1)=((n-1:Nat):Int):=by rw[IntKind.wrap_i64];omega
theorem Sl.cut{H:AH}{v:Value}{xs:List Nat}(h:Sl H v xs){t:TypeId}(ht:LT t){m:Nat}(hm:m<=xs.length)(h0:0<xs.length): ∃v',Wa Tryz.prog H t v none (some (.int .i64 (m:Int))) none=some v'/\Sl H v' (xs.take m):=by cases h with
 |nil=>cases h0
 |emp b=>cases h0
 |mk b o cap xs h1 h2=>
  have hl:(xs.take m).length=m:=by rw[List.length_take];omega
  obtain⟨FE,cs,h3,h4,h5⟩:=h2;refine⟨.slice (some ⟨b,o,none⟩) (xs.take m).length cap,?_,.mk b o cap _ (by omega) ⟨FE,cs,h3,h4,fun i x hx=>h5.1 i x ?_,h5.2⟩⟩;·unfold Wa;simp only[ht.1,RH];unfold OH Yt;simp only[h4,Option.isSome_some,Option.isNone_none,Bool.true_or];rw[if_pos (by omega)];have e1:Nat.ble m cap=true:=Nat.ble_eq.mpr (by omega);simp[Yt,e1,hl]
  ·rw[List.getElem?_take]at hx;split at hx;·exact hx
   ·cases hx
section
attribute [local simp] strip Zt YR gW ZZ ZO Zk ZN Zv ZM Ze Zf Zb Zw ZT Zs Zx Zc ZS Yd ZC Zu plain Zq Tr.get_set ZA Zd Z5 Zl sameKind Zj undef Zh Zy ZR ZU ZD Yq
theorem Uu{v:Value}{xs:List Nat}{H:AH}(hs:Sl H v xs)(hlen:xs.length<1152921504606846976):CW Tryz.prog Yg 81 [v] H fun v' H'=>H'=H/\Sl H v' (ZP xs):=by
 refine YH 21 Tryz.func81 ?_;apply ZX;intro b1 ZH;simp;subst ZH;apply Zz;intro b1 ZH;apply Z1;refine Qx (fun n s=>s.k=21/\s.H=H/\ ∃v',s.tm.get 0=some v'/\n<=xs.length/\Sl H v' (xs.take n)/\ZP (xs.take n)=ZP xs) ?_ xs.length _ ⟨rfl,rfl,v,by simp,Nat.le_refl _,by rw[List.take_length];exact hs,by rw[List.take_length]⟩;rintro n ⟨k,tm,H'⟩ ⟨h2,h3,v',h4,h5,h6,h7⟩;simp only at h2 h3 h4;subst h2;subst h3;have hl:(xs.take n).length=n:=by rw[List.length_take];omega
 have Ti:=h6.len ZU;rw[hl]at Ti;apply Zz;intro b2 Yy;apply ZX;intro b3 YC;by_cases hz:n=0;·subst hz;simp[h4,Ti];subst YC;refine Zp (t:=false) (by simp) ?_;apply YM;left;refine⟨rfl,?_⟩;subst ZH;apply ZX;intro b4 YZ;simp[h4];subst YZ;apply Z8;simp;rw[<-h7];exact h6
 ·have hn:0<n:=Nat.pos_of_ne_zero hz;have hw:IntKind.i64.wrap ((n:Int)-1)=((n-1:Nat):Int):=T1 hn (by omega);have hi:n-1<(xs.take n).length:=by omega
  have ha:=h6.adr ZU (k:= .i64) hi;have Rg:=h6.load hi;simp[h4,Ti,hn,hw,ha,Rg];subst YC;have hx:n-1<xs.length:=by omega
  have Sa:xs.take n=xs.take (n-1)++[xs[n-1]]:=by have:=List.take_append_getElem (l:=xs) (i:=n-1) hx;rw[this,show n-1+1=n by omega]
  by_cases h0:xs[n-1]=0
  ·refine Zp (t:=true) (by simp[h0]) ?_;apply ZE;subst Yy;apply Z1;apply Zr;obtain⟨v2,Bk,Pg⟩:=h6.cut ZU (m:=n-1) (by omega) (by omega);simp[h4,Ti,hw,Bk];refine⟨n-1,by omega,rfl,rfl,v2,by simp,by omega,?_,?_⟩;·rw[List.take_take,show min (n-1) n=n-1 by omega]at Pg;exact Pg
   ·rw[<-h7,Sa,h0,Wp]
  ·refine Zp (t:=false) (by simp;exact h0) ?_;apply YM;left;refine⟨rfl,?_⟩;subst ZH;apply ZX;intro b4 YZ;simp[h4];subst YZ;apply Z8;simp;rw[<-h7];have:ZP (xs.take n)=xs.take n:=by rw[Sa];exact VI _ _ h0
   rw[this];exact h6
end
def XP(x:Nat):Value:= .int .u64 (x:Int)
inductive Yl(n:Nat)(H:AH):Value->List Nat->Prop|nil:Yl n H (.slice none 0 0) []|mk(b o cap:Nat)(xs:List Nat)(cs:List Value):xs.length<=cap->n<=b->b<H.n->H.blk b= .rw 1 cs->o+cap<=cs.length->(∀(i x:Nat),xs[i]?=some x->cs[o+i]?=some (XP x))->Yl n H (.slice (some ⟨b,o,none⟩) xs.length cap) xs
theorem Yl.sl{n:Nat}{H:AH}{v:Value}{xs:List Nat}(h:Yl n H v xs):Sl H v xs:=by cases h with|nil=>exact .nil|mk b o cap xs cs h1 h2 h3 h4 h5 h6=>exact .mk b o cap xs h1 ⟨h3,cs,by unfold AH.cells;rw[h4],by unfold AH.size;rw[h4],h6,by omega⟩
theorem Yl.mono{n m:Nat}{H H':AH}{v:Value}{xs:List Nat}(h:Yl n H v xs)(hn:m<=n)(k:ZQ H H'):Yl m H' v xs:=by cases h with|nil=>exact .nil|mk b o cap xs cs h1 h2 h3 h4 h5 h6=>exact .mk b o cap xs cs h1 (Nat.le_trans hn h2) (Nat.lt_of_lt_of_le h3 k.n) (by rw[k.blk b h3];exact h4) h5 h6
theorem Yl.m{n:Nat}{H H':AH}{v:Value}{xs:List Nat}(h:Yl n H v xs)(k:ZQ H H'):Yl n H' v xs:=h.mono Nat.le.refl k
theorem AH.blk_new(H:AH)(sz:Nat)(cs:List Value)(j:Nat):(H.new sz cs).blk j=if j=H.n then .rw sz cs else H.blk j:=by
 unfold AH.new AH.blk;simp only[Tr.get_set];by_cases e:j=H.n;·rw[if_pos e,if_pos e]
 ·rw[if_neg e,if_neg e]
theorem ZQ.new(H:AH)(sz:Nat)(cs:List Value):ZQ H (H.new sz cs):=⟨Nat.le_succ _,Nat.min_le_left _ _,fun j hj=>by rw[AH.blk_new,if_neg (by omega)]⟩
theorem Yl.new(H:AH)(xs:List Nat):Yl H.n (H.new 1 (xs.map XP)) (.slice (some ⟨H.n,0,none⟩) xs.length xs.length) xs:= .mk H.n 0 xs.length xs (xs.map XP) (Nat.le_refl _) (Nat.le_refl _) (Nat.lt_succ_self _) (by rw[AH.blk_new,if_pos rfl]) (by simp) (fun i x h=>by simp[h])
theorem Mq{cs:List Value}{o:Nat}{xs:List Nat}(h0:0<xs.length)(h: ∀(i x:Nat),xs[i]?=some x->cs[o+i]?=some (XP x)):o+xs.length<=cs.length/\(cs.drop o).take xs.length=xs.map XP:=by
 have hl:o+xs.length<=cs.length:=by have:=h (xs.length-1) _ (List.getElem?_eq_getElem (by omega));have:=(List.getElem?_eq_some_iff.mp this).1;omega
 refine⟨hl,List.ext_getElem? fun i=>?_⟩;rw[List.getElem?_take,List.getElem?_drop,List.getElem?_map];by_cases hi:i<xs.length;·rw[if_pos hi,List.getElem?_eq_getElem hi,Option.map_some];exact h i _ (List.getElem?_eq_getElem hi)
 ·rw[if_neg hi,List.getElem?_eq_none (by omega)];rfl
theorem Sl.cells{H:AH}{v:Value}{xs:List Nat}(h:Sl H v xs)(h0:0<xs.length):YB H 1 v xs.length=some (xs.map XP):=by cases h with|nil=>cases h0|emp b=>cases h0|mk b o cap xs h1 h2=>obtain⟨_,cs,h3,h4,h5⟩:=h2;obtain⟨h6,h7⟩:=Mq h0 h5.1;have:Nat.ble (o+xs.length) cs.length=true:=Nat.ble_eq.mpr (by omega);simp only[YB,AH.read_def,h3,this,cond_true,Nat.mul_one,h7]
section
attribute [local simp] strip Zt YR gW ZZ ZO Zk ZN Zv ZM Ze Zf Zb Zw ZT Zs Zx Zc ZS Yd ZC Zu plain Zq Tr.get_set ZA Zd Z5 Zl sameKind Zj undef Zh Zy ZR ZU ZD Yq Zm
end
end
end Go.Proofs.YtjboehpfojpimaaGreatDoor
namespace Go.Proofs.YtjboehpfojpimaaGreatDoor.Ev
open Go Go.RowKit
set_option linter.unusedVariables false
set_option linter.unusedSimpArgs false
noncomputable section
set_option maxHeartbeats 2000000
set_option maxRecDepth 20000
def Tl(ops:Array Oper):Bool:=ops.toList.all fun o=>match o.op with| .load .. =>true|op=>!Zg op
theorem UU{bits b:Nat} : ∀{l:List (Nat×Nat×Bool)},(∀x∈l,x.2.2=false)->XX bits b false l=true|[],_=>rfl|(k,b',w')::r,h=>by have h1:w'=false:=h (k,b',w') (List.mem_cons_self ..);subst h1;simp only[XX,Bool.or_self,Bool.not_false,Bool.or_true,Bool.true_or,Bool.true_and];exact UU fun x hx=>h x (List.mem_cons_of_mem _ hx)
section
variable {P : Program} {C : Cfg} {call : FuncId -> List Value -> AH -> Option (Value × AH)} {ops : Array Oper}
theorem W3: ∀(l:List Oper)(i:Nat)(fs:List (Nat×Nat×Bool))(s s':St),(∀x∈fs,x.2.2=false)->(∀o∈l,(match o.op with| .load .. =>true|op=>!Zg op)=true)->Xa P C call ops l s=some s'->XU P C call ops i fs l s=some s'
 |[],i,fs,s,s',hf,hl,h=>by rw[WQ]at h;simp only[XU];exact h
 |o::rest,i,fs,s,s',hf,hl,h=>by
  have ho:=hl o (List.mem_cons_self ..);have RM:=fun o' h'=>hl o' (List.mem_cons_of_mem _ h');rw[YO]at h;simp only[XU];split at h<;>first|(cases h;done)|skip
  ·split at h<;>first|(cases h;done)|skip
   rename_i v H1 Yj;split at h<;>first|(cases h;done)|skip
   rename_i s1 ZG;cases hh:Zg o.op with
    |false=>
     have hm:YV C s.tm o.op=some none:=by
      unfold YV;split;·rename_i e;rw[e]at hh;cases hh
      ·rename_i e;rw[e]at hh;cases hh
      ·rw[hh];rfl
     have hH:ZZ P C call s.tm s.H o.op=some (v,s.H):=Vg hh Yj s.H;rw[hH]at Yj;cases Yj;simp only[hm,hH,ZG];exact W3 rest _ _ s1 s' hf RM h
    |true=>
     split at ho
     ·rename_i t x e;rw[e]at Yj;simp only[ZZ,ZT]at Yj;split at Yj<;>first|(cases Yj;done)|skip
      rename_i a ha;split at Yj<;>first|(cases Yj;done)|skip
      rename_i v' hv;cases Yj;obtain⟨b,off,rfl⟩: ∃b off,a= .pointer (some ⟨b,off,none⟩):=by
       unfold Yk at hv;split at hv;·exact⟨_,_,rfl⟩
       ·cases hv
      have hm:YV C s.tm o.op=some (some (b,false)):=by rw[e];simp only[YV,ha]
      have QI:ZZ P C call s.tm s.H o.op=some (v,s.H):=by rw[e];simp only[ZZ,ZT,ha,hv]
      simp only[hm,UU hf,cond_true,QI,ZG];exact W3 rest _ _ s1 s' (fun x hx=>by
       rcases List.mem_cons.mp hx with e|e;·rw[e]
       ·exact hf x e) RM h
     ·rw[hh]at ho;cases ho
  ·split at h<;>first|(cases h;done)|skip
   rename_i s1 ZG;try simp only[ZG]
   exact W3 rest _ _ s1 s' hf RM h
end
section
variable {P : Program} {C : Cfg} {Q : Ex -> St -> Prop}
theorem QE{ops:Array Oper}(h:Tl ops=true):Xc ops=true:=by unfold Tl at h;unfold Xc;rw[List.all_eq_true]at h⊢;intro o ho;have:=h o ho;revert this;cases o.op<;>simp
theorem Ug{i:Nat}{ops:Array Oper}{s:St}(hd:(Tl ops&&XC ops)=true)(h:YR P C s.k (strip ops) s.tm s.H fun YI H'=>Q .norm ⟨s.k,YI,H'⟩):W P C (.region i ops true) s Q:=by
 rw[Bool.and_eq_true]at hd;obtain⟨k,tm,H⟩:=s;obtain⟨YI,H',h1,h2⟩:=UD (ops:=ops) ops.toList tm H _ h;refine⟨.norm,⟨k,YI,H'⟩,?_,h2⟩;rw[X6];simp only[YT];rw[XS]at h1;have:Z0 P C (Z7 P C (VC P C)) ops true ⟨k,tm,H⟩=some ⟨k,YI,H'⟩:=by unfold Z0;rw[QE hd.1,hd.2];simp only[Bool.and_self,cond_true];refine W3 _ _ _ _ _ (fun x hx=>by cases hx) (fun o ho=>?_) h1;have:=hd.1;unfold Tl at this;rw[List.all_eq_true]at this;exact this o ho
 rw[this]
def Zo:Op->Bool| .store .. =>true|_=>false
def Um(ops:Array Oper):Bool:=Xc ops&&XC ops&&(List.range ops.size).all fun i=>match ops[i]? with|some o=>!Zo o.op||alone ops i|none=>true
theorem Si{bits b:Nat}{w:Bool} : ∀{l:List (Nat×Nat×Bool)},(∀x∈l,(w||x.2.2)=true->bits.testBit x.1=true)->XX bits b w l=true
 |[],_=>rfl
 |(k,b',w')::r,h=>by have h1:=h (k,b',w') (List.mem_cons_self ..);simp only[XX,Bool.and_eq_true,Bool.or_eq_true,Bool.not_eq_true'];refine⟨?_,Si fun x hx=>h x (List.mem_cons_of_mem _ hx)⟩;cases hw:(w||w')with|false=>exact .inl (.inr rfl)|true=>exact .inr (h1 hw)
theorem WO{call:FuncId->List Value->AH->Option (Value×AH)}{ops:Array Oper}(hm:Um ops=true): ∀(l:List Oper)(i:Nat)(fs:List (Nat×Nat×Bool))(s s':St),(∀j,l[j]?=ops[i+j]?)->(∀x∈fs,x.1<i/\ ∃o,ops[x.1]?=some o/\Zg o.op=true/\x.2.2=Zo o.op)->Xa P C call ops l s=some s'->XU P C call ops i fs l s=some s'
 |[],i,fs,s,s',hl,hf,h=>by rw[WQ]at h;simp only[XU];exact h
 |o::rest,i,fs,s,s',hl,hf,h=>by
  have h0:ops[i]?=some o:=by simpa using(hl 0).symm
  have RM: ∀j,rest[j]?=ops[i+1+j]?:=fun j=>by have:=hl (j+1);simpa[Nat.add_assoc,Nat.add_comm 1 j]using this
  have Dv: ∀x∈fs,x.1<i+1/\ ∃o,ops[x.1]?=some o/\Zg o.op=true/\x.2.2=Zo o.op:=fun x hx=>⟨Nat.lt_succ_of_lt (hf x hx).1,(hf x hx).2⟩;unfold Um at hm;rw[Bool.and_eq_true,Bool.and_eq_true]at hm;have Hr: ∀k ok,ops[k]?=some ok->Zo ok.op=true->alone ops k=true:=fun k ok hk hs=>by have:=hm.2;rw[List.all_eq_true]at this;have:=this k (by simpa using ZW hk);rw[hk]at this;simpa[hs]using this
  have ho:(match o.op with| .load .. =>true| .store .. =>true|op=>!Zg op)=true:=by have:=hm.1.1;unfold Xc at this;rw[List.all_eq_true]at this;exact this o (by rw[<-Array.getElem?_toList]at h0;exact List.mem_of_getElem? h0)
  have clear: ∀b,Zg o.op=true->XX ((before ops).getD i 0) b (Zo o.op) fs=true:=fun b hh=>Si fun x hx hw=>by obtain⟨h1,ok,h2,h3,h4⟩:=hf x hx;rw[h4]at hw;cases hs:Zo o.op with|true=>exact(UQ (Hr i o h0 hs) h2 (by omega) h3).1 h1|false=>rw[hs,Bool.false_or]at hw;exact(UQ (Hr x.1 ok h2 hw) h0 (by omega) hh).2 h1
  have RV:Um ops=true:=by unfold Um;rw[Bool.and_eq_true,Bool.and_eq_true];exact hm
  rw[YO]at h;simp only[XU];split at h<;>first|(cases h;done)|skip
  ·split at h<;>first|(cases h;done)|skip
   rename_i v H1 Yj;split at h<;>first|(cases h;done)|skip
   rename_i s1 ZG;cases hh:Zg o.op with
    |false=>
     have TH:YV C s.tm o.op=some none:=by
      unfold YV;split;·rename_i e;rw[e]at hh;cases hh
      ·rename_i e;rw[e]at hh;cases hh
      ·rw[hh];rfl
     have hH:ZZ P C call s.tm s.H o.op=some (v,s.H):=Vg hh Yj s.H;rw[hH]at Yj;cases Yj;simp only[TH,hH,ZG];exact WO RV rest _ _ s1 s' RM Dv h
    |true=>
     split at ho
     ·rename_i t x e;have Gr:=Yj;rw[e]at Yj;simp only[ZZ,ZT]at Yj;split at Yj<;>first|(cases Yj;done)|skip
      rename_i a ha;split at Yj<;>first|(cases Yj;done)|skip
      rename_i v' hv;obtain⟨b,off,rfl⟩: ∃b off,a= .pointer (some ⟨b,off,none⟩):=by
       unfold Yk at hv;split at hv;·exact⟨_,_,rfl⟩
       ·cases hv
      have TH:YV C s.tm o.op=some (some (b,false)):=by rw[e];simp only[YV,ha]
      have hc:=clear b hh;rw[show Zo o.op=false by rw[e];rfl]at hc;simp only[TH,hc,cond_true,Gr,ZG];exact WO RV rest _ _ s1 s' RM (fun x hx=>by
       rcases List.mem_cons.mp hx with e1|e1;·rw[e1];exact⟨Nat.lt_succ_self _,o,h0,hh,by rw[e];rfl⟩
       ·exact Dv x e1) h
     ·rename_i t x y e;have Gr:=Yj;rw[e]at Yj;simp only[ZZ,Zs]at Yj;split at Yj<;>first|(cases Yj;done)|skip
      rename_i a a' ha ha';split at Yj<;>first|(cases Yj;done)|skip
      rename_i H' hv;obtain⟨b,off,rfl⟩: ∃b off,a= .pointer (some ⟨b,off,none⟩):=by
       unfold YP at hv;split at hv;·exact⟨_,_,rfl⟩
       ·cases hv
      have TH:YV C s.tm o.op=some (some (b,true)):=by rw[e];simp only[YV,ha]
      have hc:=clear b hh;rw[show Zo o.op=true by rw[e];rfl]at hc;simp only[TH,hc,cond_true,Gr,ZG];exact WO RV rest _ _ s1 s' RM (fun x hx=>by
       rcases List.mem_cons.mp hx with e1|e1;·rw[e1];exact⟨Nat.lt_succ_self _,o,h0,hh,by rw[e];rfl⟩
       ·exact Dv x e1) h
     ·rw[hh]at ho;cases ho
  ·split at h<;>first|(cases h;done)|skip
   rename_i s1 ZG;try simp only[ZG]
   exact WO RV rest _ _ s1 s' RM Dv h
theorem Fw{i:Nat}{ops:Array Oper}{s:St}(hd:Um ops=true)(h:YR P C s.k (strip ops) s.tm s.H fun YI H'=>Q .norm ⟨s.k,YI,H'⟩):W P C (.region i ops true) s Q:=by
 obtain⟨k,tm,H⟩:=s;obtain⟨YI,H',h1,h2⟩:=UD (ops:=ops) ops.toList tm H _ h;refine⟨.norm,⟨k,YI,H'⟩,?_,h2⟩;rw[X6];simp only[YT];rw[XS]at h1;have:Z0 P C (Z7 P C (VC P C)) ops true ⟨k,tm,H⟩=some ⟨k,YI,H'⟩:=by have Dt:=hd;unfold Um at Dt;rw[Bool.and_eq_true,Bool.and_eq_true]at Dt;unfold Z0;rw[Dt.1.1,Dt.1.2];simp only[Bool.and_self,cond_true];exact WO hd _ _ _ _ _ (fun j=>by simp) (fun x hx=>by cases hx) h1
 rw[this]
def Pd(H:AH)(bits:Nat)(ms:List (Nat×Nat×Nat)):AH:= { n:=H.n,lw:=H.n,t:=WL H.t (hidden bits ms) }
def grown(H H2:AH):AH:= { n:=H2.n,lw:=H.lw,t:=TQ H.t H2 H.n (H2.n-H.n) }
def ZL(ops:Array Oper)(o:Oper):Option (Option Tmp×Bool):=match o.guard with|none=>none|some (j,b)=>some ((ops[j]?).bind (·.dst),b)
theorem WD{ops:Array Oper}{tm:Tr Value}{o:Oper} :Ye ops tm o=gW tm (ZL ops o):=Kq
def DG(X:Xs)(P:Program)(C:Cfg)(ops:Array Oper)(k i:Nat)(q:Bool)(ms:List (Nat×Nat×Nat))(l:List Oper)(tm:Tr Value)(H:AH)(K:Tr Value->AH->Prop):Prop:= ∃YI H',Yx X P C (ZF P C) ops i q ms l ⟨k,tm,H⟩=some ⟨k,YI,H'⟩/\K YI H'
def DW(X:Xs)(P:Program)(C:Cfg)(ops:Array Oper)(k:Nat):Nat->Bool->List (Nat×Nat×Nat)->List Oper->Tr Value->AH->(Tr Value->AH->Prop)->Prop
 |_,_,_,[],tm,H,K=>K tm H
 |i,q,ms,o::r,tm,H,K=>match gW tm (ZL ops o)with
  |some true=>match Zg o.op with
   |true=>DG X P C ops k i q ms (o::r) tm H K
   |false=>match ZZ P C (ZF P C) tm H o.op with
    |some (v,_)=>match o.dst with|none=>DW X P C ops k (i+1) q ms r tm H K|some d=>d<k/\DW X P C ops k (i+1) q ms r (tm.set d v) H K
    |none=>False
  |some false=>match o.dst with|none=>DW X P C ops k (i+1) q ms r tm H K|some d=>d<k/\DW X P C ops k (i+1) q ms r (tm.set d undef) H K
  |none=>False
variable {X : Xs} {ops : Array Oper} {k i : Nat} {q : Bool} {ms : List (Nat × Nat × Nat)} {tm : Tr Value} {H : AH} {K : Tr Value -> AH -> Prop}
theorem VO{o:Oper}{v:Value}{H1:AH}{K1:Tr Value->Prop}(h:match o.dst with|none=>K1 tm|some d=>d<k/\K1 (tm.set d v)): ∃RY,(St.put ⟨k,tm,H⟩ o.dst v H1)=some ⟨k,RY,H1⟩/\K1 RY:=by cases hd:o.dst with
 |none=>rw[hd]at h;exact⟨tm,rfl,h⟩
 |some d=>
  rw[hd]at h;have:Nat.blt d k=true:=by rw[Nat.blt_eq];exact h.1
  exact⟨tm.set d v,by simp only[St.put,Sn,this,cond_true],h.2⟩
theorem U0(n:Nat):Nat.blt n n=false:=by cases hb:Nat.blt n n with|false=>rfl|true=>rw[Nat.blt_eq]at hb;omega
theorem SK: ∀(l:List Oper)(i:Nat)(q:Bool)(ms:List (Nat×Nat×Nat))(tm:Tr Value)(H:AH),DW X P C ops k i q ms l tm H K->DG X P C ops k i q ms l tm H K
 |[],i,q,ms,tm,H,h=>⟨tm,H,by simp only[Yx],h⟩
 |o::r,i,q,ms,tm,H,h=>by
  simp only[DW]at h;split at h
  ·rename_i hg;split at h;·exact h
   ·rename_i hh;split at h;·rename_i v H2 Yj;obtain⟨RY,ZG,hl⟩:=VO (H:=H) (H1:=H) (K1:=fun tm=>DW X P C ops k (i+1) q ms r tm H K) h;obtain⟨YI,H',h1,h2⟩:=SK r (i+1) q ms RY H hl;refine⟨YI,H',?_,h2⟩;simp only[Yx];rw[WD,hg];simp only[YX,hh,cond_false,Yj,ZG,U0];exact h1
    ·exact h.elim
  ·rename_i hg;obtain⟨RY,ZG,hl⟩:=VO (H:=H) (H1:=H) (K1:=fun tm=>DW X P C ops k (i+1) q ms r tm H K) h;obtain⟨YI,H',h1,h2⟩:=SK r (i+1) q ms RY H hl;refine⟨YI,H',?_,h2⟩;simp only[Yx];rw[WD,hg];simp only[ZG];exact h1
  ·exact h.elim
theorem SJ{id:Nat}{s:St}(hd:(!Xc ops&&XC ops&&!isSplit C ops)=true)(h:DW (X0 ops) P C ops s.k 0 false [] ops.toList s.tm s.H fun YI H'=>Q .norm ⟨s.k,YI,H'⟩):W P C (.region id ops true) s Q:=by
 obtain⟨k,tm,H⟩:=s;obtain⟨YI,H',h1,h2⟩:=SK _ _ _ _ _ _ h;refine⟨.norm,⟨k,YI,H'⟩,?_,h2⟩;rw[X6];simp only[YT];rw[XS]at h1;rw[Bool.and_eq_true,Bool.and_eq_true]at hd;have hm:Xc ops=false:=by simpa using hd.1.1
 have hs:isSplit C ops=false:=by simpa using hd.2
 have:Z0 P C (Z7 P C (VC P C)) ops true ⟨k,tm,H⟩=some ⟨k,YI,H'⟩:=by unfold Z0 Xe;rw[hm,hs,hd.1.2];simp only[Bool.and_false,cond_false,cond_true];exact h1
 rw[this]
theorem Fx{id:Nat}{s:St}{z b sz:Nat}{cs cs2:List Value}{oz:Oper}(hd:(!Xc ops&&isSplit C ops&&(!Xk ops&&Tv ops))=true)(hz:Wu ops=z)(Br:ops[z]?=some oz)(hb:s.H.blk b= .rw sz cs)(Wh: ∃w,YV C s.tm oz.op=some (some (b,w)))(h:DW (Xz ops) P C ops s.k 0 false [] ops.toList s.tm { n:=s.H.n,lw:=s.H.lw,t:=s.H.t.set b .dead } fun DP H3=> ∃H4,ZZ P C (ZF P C) DP (only H3 b (.rw sz cs)) oz.op=some (.tuple #[],H4)/\H4.blk b= .rw sz cs2/\H4.lw<=b/\H4.n=H3.n/\Q .norm ⟨s.k,DP,{ n:=H3.n,lw:=min H3.lw H4.lw,t:=H3.t.set b (.rw sz cs2) }⟩):W P C (.region id ops true) s Q:=by
 obtain⟨k,tm,H⟩:=s;obtain⟨w,p2⟩:=Wh;obtain⟨DP,H3,g1,H4,g2,g3,g4,g5,g6⟩:=SK _ _ _ _ _ _ h;refine⟨.norm,_,?_,g6⟩;rw[X6];simp only[YT];rw[XS]at g1 g2;rw[Bool.and_eq_true,Bool.and_eq_true,Bool.and_eq_true]at hd;have hm:Xc ops=false:=by simpa using hd.1.1
 have hs0:Xk ops=false:=by simpa using hd.2.1
 have e1:Nat.beq sz sz=true:=Nat.beq_refl _;have e2:Nat.ble H4.lw b=true:=Nat.ble_eq.mpr g4;have e3:Nat.beq H4.n H3.n=true:=by rw[g5];exact Nat.beq_refl _
 have:Z0 P C (Z7 P C (VC P C)) ops true ⟨k,tm,H⟩=some ⟨k,DP,{ n:=H3.n,lw:=min H3.lw H4.lw,t:=H3.t.set b (.rw sz cs2) }⟩:=by unfold Z0;rw[hm,hd.1.2];simp only[Bool.and_false,cond_false,Bool.and_self,cond_true];unfold XL V4;rw[hs0,cond_false,hd.2.2,cond_true,hz,Br];simp only[p2,hb,g1,g2,g3,e1,e2,e3,Bool.and_self,cond_true]
 rw[this]
theorem YG{o:Oper}{r:List Oper}{v:Value}(hg:gW tm (ZL ops o)=some true)(hh:Zg o.op=true)(hq:q=false)(he:ZZ P C (ZF P C) tm (Pd H ((before ops).getD i 0) ms) o.op=some (v,Pd H ((before ops).getD i 0) ms))(h:match o.dst with|none=>DW X P C ops k (i+1) q ms r tm H K|some d=>d<k/\DW X P C ops k (i+1) q ms r (tm.set d v) H K)(hf:X.fv i=none:=by first|rfl|kernel_rfl):DG X P C ops k i q ms (o::r) tm H K:=by
 obtain⟨RY,ZG,hl⟩:=VO (H:=H) (H1:=H) (K1:=fun tm=>DW X P C ops k (i+1) q ms r tm H K) h;obtain⟨YI,H',h1,h2⟩:=SK r (i+1) q ms RY H hl;refine⟨YI,H',?_,h2⟩;subst hq;have Yj:YX X P C (ZF P C) ops i false ms ⟨k,tm,H⟩ o=some (v,H,false):=by unfold YX;rw[hh,cond_true,hf];simp only;have Ed:ZZ P C (ZF P C) tm { n:=H.n,lw:=H.n,t:=WL H.t (hidden ((before ops).getD i 0) ms) } o.op=some (v,{ n:=H.n,lw:=H.n,t:=WL H.t (hidden ((before ops).getD i 0) ms) }):=he;rw[Ed];have:Nat.ble H.n H.n=true:=Nat.ble_eq.mpr (Nat.le_refl _);simp only[this,cond_true,Bool.not_false,Bool.and_self,Nat.sub_self,TQ]
 simp only[Yx];rw[WD,hg];simp only[Yj,ZG,U0,cond_false];exact h1
theorem JP{o:Oper}{r:List Oper}{v:Value}(hg:gW tm (ZL ops o)=some true)(hh:Zg o.op=true)(hf:X.fv i=some v)(h:match o.dst with|none=>DW X P C ops k (i+1) q ms r tm H K|some d=>d<k/\DW X P C ops k (i+1) q ms r (tm.set d v) H K):DG X P C ops k i q ms (o::r) tm H K:=by
 obtain⟨RY,ZG,hl⟩:=VO (H:=H) (H1:=H) (K1:=fun tm=>DW X P C ops k (i+1) q ms r tm H K) h;obtain⟨YI,H',h1,h2⟩:=SK r (i+1) q ms RY H hl;refine⟨YI,H',?_,h2⟩;have Yj:YX X P C (ZF P C) ops i q ms ⟨k,tm,H⟩ o=some (v,H,q):=by unfold YX;rw[hh,cond_true,hf]
 simp only[Yx];rw[WD,hg];simp only[Yj,ZG,U0,cond_false];exact h1
theorem X2{o:Oper}{r:List Oper}{v:Value}{H2:AH}(hg:gW tm (ZL ops o)=some true)(hh:Zg o.op=true)(hq:q=false)(he:ZZ P C (ZF P C) tm (Pd H ((before ops).getD i 0) ms) o.op=some (v,H2))(hn:H.n<=H2.n)(RW:H.n<=H2.lw)(h:match o.dst with|none=>DW X P C ops k (i+1) q (cond (Nat.blt H.n H2.n) ((i,H.n,H2.n)::ms) ms) r tm (grown H H2) K|some d=>d<k/\DW X P C ops k (i+1) q (cond (Nat.blt H.n H2.n) ((i,H.n,H2.n)::ms) ms) r (tm.set d v) (grown H H2) K)(hf:X.fv i=none:=by first|rfl|kernel_rfl):DG X P C ops k i q ms (o::r) tm H K:=by
 obtain⟨RY,ZG,hl⟩:=VO (H:=H) (H1:=grown H H2) (K1:=fun tm=>DW X P C ops k (i+1) q (cond (Nat.blt H.n H2.n) ((i,H.n,H2.n)::ms) ms) r tm (grown H H2) K) h;obtain⟨YI,H',h1,h2⟩:=SK r (i+1) q _ RY _ hl;refine⟨YI,H',?_,h2⟩;subst hq;have Yj:YX X P C (ZF P C) ops i false ms ⟨k,tm,H⟩ o=some (v,grown H H2,false):=by unfold YX;rw[hh,cond_true,hf];simp only;have Ed:ZZ P C (ZF P C) tm { n:=H.n,lw:=H.n,t:=WL H.t (hidden ((before ops).getD i 0) ms) } o.op=some (v,H2):=he;rw[Ed];have e1:Nat.ble H.n H2.n=true:=Nat.ble_eq.mpr hn;have e2:Nat.ble H.n H2.lw=true:=Nat.ble_eq.mpr RW;simp only[e1,e2,cond_true,Bool.not_false,Bool.and_self];rfl
 simp only[Yx];rw[WD,hg];simp only[Yj,ZG];exact h1
theorem Y8{b:Code}(I:Nat->St->Prop)(h: ∀n s,I n s-> ∀Q':Ex->St->Prop,(∀e s',Ro I n Q e s'->Q' e s')->W P C b s Q')(n:Nat)(s:St)(hI:I n s):W P C (.loop b) s Q:=Qx I (fun n s hI=>h n s hI _ (fun _ _ h=>h)) n s hI
theorem TR(R:St->Prop){a b:Code}{s:St}(h1:W P C a s fun e s'=>e= .norm/\R s')(h2: ∀s',R s'->W P C b s' Q):W P C (.seq a b) s Q:=by refine Zz fun b' hb=>h1.mono ?_;rintro e s' ⟨rfl,hr⟩;subst hb;exact h2 s' hr
end
end
end Go.Proofs.YtjboehpfojpimaaGreatDoor.Ev
namespace Go.Proofs.YtjboehpfojpimaaGreatDoor
open Go Ev
set_option linter.unusedVariables false
set_option linter.unusedSimpArgs false
noncomputable section
set_option maxHeartbeats 2000000
set_option maxRecDepth 20000
abbrev ZB:Nat:=18446744073709551616
theorem Qr:2<=ZB:=by decide
def WB(a b:Nat):Int:=if a<b then-1 else if b<a then 1 else 0
theorem RB{xs ys:List Nat}(hx:ZP xs=xs)(hy:ZP ys=ys)(dx:Y7 ZB xs)(dy:Y7 ZB ys)(h:xs.length<ys.length):dv ZB xs<dv ZB ys:=by
 have h1:=Ve dx;have e:ys=ds ZB (dv ZB ys):=by rw[<-XN Qr dy,hy]
 have Wq:dv ZB ys≠0:=by intro h0;rw[h0,Y1]at e;rw[e]at h;simp at h
 have h2:=I8 Qr Wq;rw[<-e]at h2;have h3:ZB^xs.length<=ZB^(ys.length-1):=Nat.pow_le_pow_right (by decide) (by omega);omega
section
attribute [local simp] strip Zt YR gW ZZ ZO Zk ZN Zv ZM Ze Zf Zb Zw ZT Zs Zx Zc ZS Yd ZC Zu plain Zq Tr.get_set ZA Zd Z5 Zl sameKind Zj undef Zh Zy ZR ZU ZD Yq Zm
theorem QT{va vb:Value}{xs ys:List Nat}{H:AH}(ha:Sl H va xs)(hb:Sl H vb ys)(dx:Y7 ZB xs)(dy:Y7 ZB ys)(lx:xs.length<=17592186044416)(ly:ys.length<=17592186044416):CW Tryz.prog Yg 73 [va,vb] H fun v H'=>H'=H/\v= .int .i64 (WB (dv ZB xs) (dv ZB ys)):=by
 refine YH 45 Tryz.func73 ?_;obtain⟨v1,H1,OW,e1,s1⟩:=Uu ha (by omega);obtain⟨v2,H2,J7,e2,s2⟩:=Uu hb (by omega);subst e1;subst e2;rw[<-Vf ZB xs,<-Vf ZB ys];have tx:=VJ xs;have ty:=VJ ys;have dx:=Vq dx;have dy:=Vq dy;have lx:(ZP xs).length<=17592186044416:=Nat.le_trans (WV xs) lx;have ly:(ZP ys).length<=17592186044416:=Nat.le_trans (WV ys) ly;generalize ZP xs=xs at*;generalize ZP ys=ys at*;have l1:=s1.len ZU;have l2:=s2.len ZU;apply ZX;intro b1 ZH;simp;subst ZH;apply ZX;intro b1 ZH;simp[OW,J7];subst ZH;apply Zz;intro b1 ZH;apply ZX;intro b2 Yy;simp[l1,l2];subst Yy;by_cases hl:xs.length=ys.length
 ·refine Zp (t:=false) (by simp[hl]) ?_;apply ZE;subst ZH;apply Zz;intro b1 ZH;apply Zz;intro b2 Yy;have EU:IntKind.i64.wrap ((xs.length:Int)-1)=(xs.length:Int)-1:=by rw[IntKind.wrap_i64];omega
  apply Zr;simp[l1,EU];subst Yy;apply Z1;refine Qx (fun n s=>s.k=45/\s.H=H2/\s.tm.get 0=some v1/\s.tm.get 1=some v2/\s.tm.get 5=some (.int .i64 ((n:Int)-1))/\n<=xs.length/\xs.drop n=ys.drop n) ?_ xs.length _ ⟨rfl,rfl,by simp,by simp,by simp,Nat.le_refl _,by rw[List.drop_length,hl,List.drop_length]⟩;rintro n ⟨k,tm,H'⟩ ⟨h2,h3,h4,h5,h6,h7,h8⟩;simp only at h2 h3 h4 h5 h6;subst h2;subst h3;apply Zz;intro b2 Yy;apply ZX;intro b3 YC;simp[h4,h5,h6];subst YC;have e44:xs.drop n=ys.drop n:=h8;by_cases hz:n=0
  ·subst hz;refine Zp (t:=false) (by simp) ?_;apply YM;left;refine⟨rfl,?_⟩;subst ZH;apply ZX;intro b4 YZ;simp;subst YZ;apply Z8;have:xs=ys:=by simpa using h8
   simp[WB,this]
  ·have e:(n:Int)-1=((n-1:Nat):Int):=by omega
   refine Zp (t:=true) (by simp;omega) ?_;apply ZE;subst Yy;have i1:n-1<xs.length:=by omega
   have i2:n-1<ys.length:=by omega
   have a1:=s1.adr ZU (k:= .i64) i1;have a2:=s2.adr ZU (k:= .i64) i2;have d1:=s1.load i1;have d2:=s2.load i2;rw[e]at h6;have sx:xs=xs.take (n-1)++xs[n-1]::xs.drop n:=by have:=List.take_append_drop (n-1) xs;rw[List.drop_eq_getElem_cons i1,show n-1+1=n by omega]at this;exact this.symm
   have sy:ys=ys.take (n-1)++ys[n-1]::ys.drop n:=by have:=List.take_append_drop (n-1) ys;rw[List.drop_eq_getElem_cons i2,show n-1+1=n by omega]at this;exact this.symm
   have EH:(xs.take (n-1)).length=(ys.take (n-1)).length:=by simp[List.length_take,hl]
   apply Zz;intro b4 YZ;apply Z1;apply Zz;intro b5 Pf;apply Zz;intro b6 Rc;apply Ug (by kernel_rfl);simp[h4,h5,h6,a1,a2,d1,d2];subst Rc;by_cases Z3:xs[n-1]<ys[n-1]
   ·refine Zp (t:=true) (by simp;omega) ?_;apply ZX;intro b7 Ga;simp;subst Ga;apply Z8;have hd:dv ZB xs<dv ZB ys:=by rw[sx,sy,h8];exact QP (dx.take _) (dy.take _) EH Z3 _
    simp[WA,TN,Ro,WB,hd]
   ·refine Zp (t:=false) (by simp;omega) ?_;apply ZE;subst Pf;apply Zz;intro b6 Rc;apply Ug (by kernel_rfl);simp[h4,h5,h6,a1,a2,d1,d2];subst Rc;by_cases CU:ys[n-1]<xs[n-1]
    ·refine Zp (t:=true) (by simp;omega) ?_;apply ZX;intro b7 Ga;simp;subst Ga;apply Z8;have hd:dv ZB ys<dv ZB xs:=by rw[sx,sy,h8];exact QP (dy.take _) (dx.take _) EH.symm CU _
     have La: ¬dv ZB xs<dv ZB ys:=by omega
     simp[WA,TN,Ro,WB,hd,La]
    ·refine Zp (t:=false) (by simp;omega) ?_;apply ZE;subst YZ;have SZ:IntKind.i64.wrap (((n-1:Nat):Int)-1)=((n-1:Nat):Int)-1:=by rw[IntKind.wrap_i64];omega
     apply Zr;simp[h6,SZ];refine⟨n-1,by omega,rfl,rfl,?_⟩;simp[h4,h5];refine⟨by omega,?_⟩;rw[List.drop_eq_getElem_cons i1,List.drop_eq_getElem_cons i2,show n-1+1=n by omega,h8];congr 1;omega
 ·refine Zp (t:=true) (by simp;omega) ?_;apply Zz;intro b2 Yy;apply ZX;intro b3 YC;simp[l1,l2];subst YC;by_cases Z3:xs.length<ys.length;·refine Zp (t:=true) (by simp;omega) ?_;apply ZX;intro b3 YC;simp;subst YC;apply Z8;have:=RB tx ty dx dy Z3;simp[WA,WB,this]
  ·refine Zp (t:=false) (by simp;omega) ?_;apply ZE;subst Yy;apply ZX;intro b2 Yy;simp;subst Yy;apply Z8;have:=RB ty tx dy dx (by omega);have h2: ¬dv ZB xs<dv ZB ys:=by omega
   simp[WA,WB,this,h2]
end
def Z6(n:Nat):Nat:=if n=0 then 0 else Nat.log2 n+1
theorem UA(n:Nat):n<2^Z6 n:=by
 unfold Z6;split;·omega
 ·exact Nat.lt_log2_self
theorem W1{n:Nat}(h:n≠0):2^(Z6 n-1)<=n:=by unfold Z6;rw[if_neg h];exact Nat.log2_self_le h
theorem MR{n k:Nat}(h1:n<2^k)(h2:k=0\/2^(k-1)<=n):Z6 n=k:=by
 rcases h2 with h2|h2
 ·subst h2;have:n=0:=by simpa using h1
  subst this;rfl
 ·have hn:n≠0:=by have:=Nat.two_pow_pos (k-1);omega
  have a:2^(Z6 n-1)<2^k:=Nat.lt_of_le_of_lt (W1 hn) h1;have b:2^(k-1)<2^Z6 n:=Nat.lt_of_le_of_lt h2 (UA n);have a':=(Nat.pow_lt_pow_iff_right (by decide)).mp a;have b':=(Nat.pow_lt_pow_iff_right (by decide)).mp b;omega
theorem Vv{n k:Nat}(h:2^k<=n):Z6 n=k+Z6 (n/2^k):=by
 have hk:=Nat.two_pow_pos k;have hq:n/2^k≠0:=by have:=Nat.div_pos h hk;omega
 apply MR;·rw[Nat.pow_add,Nat.mul_comm];have:=UA (n/2^k);exact(Nat.div_lt_iff_lt_mul hk).mp this
 ·right;have h1:=W1 hq;have h2:Z6 (n/2^k)≠0:=by unfold Z6;rw[if_neg hq];omega
  rw[show k+Z6 (n/2^k)-1=(Z6 (n/2^k)-1)+k by omega,Nat.pow_add];exact(Nat.le_div_iff_mul_le hk).mp h1
theorem Ta(x k:Nat):(x:Int).fdiv (2^k)=((x/2^k:Nat):Int):=by rw[Int.fdiv_eq_ediv_of_nonneg _ (Int.le_of_lt (Int.pow_pos (by decide)))];rw[Int.natCast_ediv,Int.natCast_pow];rfl
theorem SG:IntKind.u64.bits=64:=rfl
def Jv(s:ByteArray):Bool:=(List.range 256).all fun n=>match s[n]? with|some b=>Nat.beq b.toNat (Z6 n)|none=>false
theorem Jw{s:ByteArray}(h:Jv s=true){n:Nat}(hn:n<256):Rj Tryz.prog 9 (.string s) (.int .u8 (n:Int))=some (.int .u8 (Z6 n:Int)):=by
 unfold Jv at h;rw[List.all_eq_true]at h;have:=h n (List.mem_range.mpr hn);split at this;·rename_i b hb;have e:=Nat.eq_of_beq_eq_true this;unfold Rj;simp only[Tryz.underlying9];rw[if_pos (by omega)];simp only[Int.toNat_natCast,hb,e]
 ·cases this
section
attribute [local simp] strip Zt YR gW ZZ ZO Zk ZN Zv ZM Ze Zf Zb Zw ZT Zs Zx Zc ZS Yd ZC Zu plain Zq Tr.get_set ZA Zd Z5 Zl sameKind Zj undef Zh Zy ZR ZU ZD Yq Zm Yr
theorem UK{x:Nat}{H:AH}(hx:x<ZB):CW Tryz.prog Yg 82 [.int .u64 (x:Int)] H fun v H'=>H'=H/\v= .int .i64 (Z6 x:Int):=by
 have hx:x<18446744073709551616:=hx;refine YH 25 Tryz.func82 ?_;apply ZX;intro b1 ZH;simp;subst ZH;refine TR (fun s=>s.k=25/\s.H=H/\ ∃y n:Nat,s.tm.get 0=some (.int .u64 (y:Int))/\s.tm.get 2=some (.int .i64 (n:Int))/\y<4294967296/\n<=32/\Z6 x=n+Z6 y) ?_ ?_
 ·apply ZX;intro b1 ZH;simp;subst ZH;by_cases h:4294967296<=x;·have f1:(x:Int).fdiv 4294967296=((x/4294967296:Nat):Int):=Ta x 32;have f2:Z6 x=32+Z6 (x/4294967296):=Vv (k:=32) h;refine Zp (t:=true) (by simp;omega) ?_;apply ZX;intro b1 ZH;simp[SG,f1];subst ZH;apply Zr;simp;exact⟨x/4294967296,rfl,32,rfl,by omega,by omega,f2⟩
  ·refine Zp (t:=false) (by simp;omega) ?_;apply ZE;simp;exact⟨x,rfl,0,rfl,by omega,by omega,by omega⟩
 rintro⟨k,tm,H'⟩ ⟨h2,h3,y,n,h4,h5,h6,h7,h8⟩;simp only at h2 h3 h4 h5;subst h2;subst h3;refine TR (fun s=>s.k=25/\s.H=H'/\ ∃y n:Nat,s.tm.get 0=some (.int .u64 (y:Int))/\s.tm.get 2=some (.int .i64 (n:Int))/\y<65536/\n<=48/\Z6 x=n+Z6 y) ?_ ?_
 ·apply ZX;intro b1 ZH;simp[h4,h5];subst ZH;by_cases h:65536<=y
  ·have f1:(y:Int).fdiv 65536=((y/65536:Nat):Int):=Ta y 16;have f2:Z6 y=16+Z6 (y/65536):=Vv (k:=16) h;have hw:IntKind.i64.wrap ((n:Int)+16)=((n+16:Nat):Int):=by rw[IntKind.wrap_i64];omega
   refine Zp (t:=true) (by simp;omega) ?_;apply ZX;intro b1 ZH;simp[h4,h5,SG,f1];subst ZH;apply Zr;simp[h4,h5,hw];exact⟨y/65536,rfl,n+16,rfl,by omega,by omega,by omega⟩
  ·refine Zp (t:=false) (by simp;omega) ?_;apply ZE;simp[h4,h5];exact⟨y,rfl,n,rfl,by omega,by omega,h8⟩
 rintro⟨k,tm,H'⟩ ⟨h2,h3,y,n,h4,h5,h6,h7,h8⟩;simp only at h2 h3 h4 h5;subst h2;subst h3;refine TR (fun s=>s.k=25/\s.H=H'/\ ∃y n:Nat,s.tm.get 0=some (.int .u64 (y:Int))/\s.tm.get 2=some (.int .i64 (n:Int))/\y<256/\n<=56/\Z6 x=n+Z6 y) ?_ ?_
 ·apply ZX;intro b1 ZH;simp[h4,h5];subst ZH;by_cases h:256<=y
  ·have f1:(y:Int).fdiv 256=((y/256:Nat):Int):=Ta y 8;have f2:Z6 y=8+Z6 (y/256):=Vv (k:=8) h;have hw:IntKind.i64.wrap ((n:Int)+8)=((n+8:Nat):Int):=by rw[IntKind.wrap_i64];omega
   refine Zp (t:=true) (by simp;omega) ?_;apply ZX;intro b1 ZH;simp[h4,h5,SG,f1];subst ZH;apply Zr;simp[h4,h5,hw];exact⟨y/256,rfl,n+8,rfl,by omega,by omega,by omega⟩
  ·refine Zp (t:=false) (by simp;omega) ?_;apply ZE;simp[h4,h5];exact⟨y,rfl,n,rfl,by omega,by omega,h8⟩
 rintro⟨k,tm,H'⟩ ⟨h2,h3,y,n,h4,h5,h6,h7,h8⟩;simp only at h2 h3 h4 h5;subst h2;subst h3;apply ZX;intro b1 ZH;have hb8:Z6 y<=8:=by
  rcases Nat.lt_or_ge 8 (Z6 y)with h|h
  ·have h0:y≠0:=by rintro rfl;simp[Z6]at h
   have a:=W1 h0;have b:2^8<=2^(Z6 y-1):=Nat.pow_le_pow_right (by decide) (by omega);omega
  ·exact h
 generalize hs:ByteArray.mk _=s;have ht:Jv s=true:=by rw[<-hs];kernel_rfl
 have e1:=Jw ht h6;have e2:IntKind.u8.wrap (y:Int)=(y:Int):=by rw[IntKind.wrap_u8];omega
 have e3:IntKind.i64.wrap (Z6 y:Int)=(Z6 y:Int):=Jy (by omega);have e4:IntKind.i64.wrap ((n:Int)+(Z6 y:Int))=(Z6 x:Int):=by rw[IntKind.wrap_i64,h8];omega
 simp[h4,h5,UZ,Tryz.underlying82,Tryz.underlying5,Tryz.underlying3,e1,e2,e3,e4];subst ZH;apply Z8;simp
end
section
attribute [local simp] strip Zt YR gW ZZ ZO Zk ZN Zv ZM Ze Zf Zb Zw ZT Zs Zx Zc ZS Za Yd ZC Zu plain Zq Tr.get_set ZA Zd Z5 Zl sameKind Zj undef Zh Zy ZR ZU ZD Yq Zm Yr parts
theorem Iq{x:Nat}{H:AH}(hx:x<ZB):CW Tryz.prog Yg 157 [.int .u64 (x:Int)] H fun v H'=>H'=H/\v= .int .i64 (64-(Z6 x:Int)):=by
 refine YH 6 Tryz.func157 ?_;obtain⟨v1,H1,OW,rfl,rfl⟩:=UK (H:=H) hx;have hb:Z6 x<=64:=by
  rcases Nat.lt_or_ge 64 (Z6 x)with h|h
  ·have h0:x≠0:=by rintro rfl;simp[Z6]at h
   have a:=W1 h0;have b:2^64<=2^(Z6 x-1):=Nat.pow_le_pow_right (by decide) (by omega);have hx:x<18446744073709551616:=hx;omega
  ·exact h
 have hw:IntKind.i64.wrap (64-(Z6 x:Int))=64-(Z6 x:Int):=by rw[IntKind.wrap_i64];omega
 apply ZX;intro b1 ZH;simp;subst ZH;apply ZX;intro b1 ZH;simp[OW,hw];subst ZH;apply Z8;simp
theorem JH{xs:List Nat}(dx:Y7 ZB xs)(tx:ZP xs=xs)(h:0<xs.length):Z6 (dv ZB xs)=64*(xs.length-1)+Z6 (xs[xs.length-1]):=by
 have hs:xs=xs.take (xs.length-1)++[xs[xs.length-1]]:=by have:=List.take_append_getElem (l:=xs) (i:=xs.length-1) (by omega);rw[this,show xs.length-1+1=xs.length by omega,List.take_length]
 have hl:(xs.take (xs.length-1)).length=xs.length-1:=by rw[List.length_take];omega
 generalize hz:xs[xs.length-1]=z at*;have AM:z≠0:=by intro h0;rw[h0]at hs;have:=congrArg ZP hs;rw[Wp,tx]at this;have:=congrArg List.length this;have:=WV (xs.take (xs.length-1));omega
 have e:dv ZB xs=dv ZB (xs.take (xs.length-1))+2^(64*(xs.length-1))*z:=by have:=congrArg (dv ZB) hs;rw[this,YW,hl];simp only[dv,Nat.mul_zero,Nat.add_zero];rw[Nat.pow_mul]
 have Gj:dv ZB (xs.take (xs.length-1))<2^(64*(xs.length-1)):=by have:=Ve (dx.take (xs.length-1));rw[hl]at this;rw[Nat.pow_mul];exact this
 have Th:2^(64*(xs.length-1))<=dv ZB xs:=by rw[e];have:2^(64*(xs.length-1))*1<=2^(64*(xs.length-1))*z:=Nat.mul_le_mul_left _ (by omega);omega
 rw[Vv Th];congr 2;rw[e,Nat.add_mul_div_left _ _ (Nat.two_pow_pos _),Nat.div_eq_of_lt Gj,Nat.zero_add]
theorem Sb{v:Value}{xs:List Nat}{H:AH}(hs:Sl H v xs)(dx:Y7 ZB xs)(hlen:xs.length<=17592186044416):CW Tryz.prog Yg 49 [v] H fun v' H'=>H'=H/\v'= .int .i64 (Z6 (dv ZB xs):Int):=by
 refine YH 20 Tryz.func49 ?_;obtain⟨v1,H1,OW,e1,s1⟩:=Uu hs (by omega);subst e1;rw[<-Vf ZB xs];have tx:=VJ xs;have dx:=Vq dx;have lx:(ZP xs).length<=17592186044416:=Nat.le_trans (WV xs) hlen;generalize ZP xs=xs at*;have l1:=s1.len ZU;apply ZX;intro b1 ZH;simp;subst ZH;apply ZX;intro b1 ZH;simp[OW];subst ZH;apply Zz;intro b1 ZH;apply ZX;intro b2 Yy;simp[l1];subst Yy;by_cases h0:xs.length=0;·obtain rfl:xs=[]:=List.length_eq_zero_iff.mp h0;refine Zp (t:=true) (by simp) ?_;apply ZX;intro b2 Yy;simp;subst Yy;apply Z8;simp[WA,dv,Z6]
 ·refine Zp (t:=false) (by simp;intro h;apply h0;simp[h]) ?_;apply ZE;subst ZH;have i1:xs.length-1<xs.length:=by omega
  have a1:=s1.adr ZU (k:= .i64) i1;have d1:=s1.load i1;have hw:IntKind.i64.wrap ((xs.length:Int)-1)=((xs.length-1:Nat):Int):=T1 (by omega) (by omega);have hx:xs[xs.length-1]<ZB:=dx.get (List.getElem?_eq_getElem i1);obtain⟨v3,H3,hc3,e3,e4⟩:=UK (H:=H1) hx;subst e3;subst e4;have hb:=JH dx tx (by omega);have hb64:Z6 (xs[xs.length-1])<=64:=by
   rcases Nat.lt_or_ge 64 (Z6 (xs[xs.length-1]))with h|h
   ·have h0:xs[xs.length-1]≠0:=by intro e;rw[e]at h;simp[Z6]at h
    have a:=W1 h0;have b:2^64<=2^(Z6 (xs[xs.length-1])-1):=Nat.pow_le_pow_right (by decide) (by omega);have hx:xs[xs.length-1]<18446744073709551616:=hx;omega
   ·exact h
  have Gw:IntKind.i64.wrap (64*((xs.length-1:Nat):Int))=64*((xs.length-1:Nat):Int):=by rw[IntKind.wrap_i64];omega
  have hw3:IntKind.i64.wrap (64*((xs.length-1:Nat):Int)+(Z6 (xs[xs.length-1]):Int))=(Z6 (dv ZB xs):Int):=by rw[IntKind.wrap_i64,hb];omega
  apply ZX;intro b2 Yy;simp[l1,hw,Gw,a1,d1,hc3,hw3];subst Yy;apply Z8;simp
end
theorem RX(n:Nat):zeros (Value.int .u64 0).cells n=(List.replicate n 0).map XP:=by
 unfold zeros;apply List.ext_getElem?;intro i;rw[List.getElem?_map,List.getElem?_map,List.getElem?_replicate];by_cases h:i<n;·rw[if_pos h,List.getElem?_range h];simp[XP,Value.cells,Nat.mod_one]
 ·rw[if_neg h,List.getElem?_eq_none (by simp;omega)];rfl
theorem XO{H:AH}{t:TypeId}(ht:LT t){n:Nat}(hn:n<=17592186044416): ∃v H',Xr Tryz.prog H t (.int .i64 (n:Int)) (.int .i64 (n:Int))=some (v,H')/\ZQ H H'/\Yl H.n H' v (List.replicate n 0)/\H'.n=H.n+1:=by
 refine⟨.slice (some ⟨H.n,0,none⟩) n n,H.new 1 ((List.replicate n 0).map XP),?_,.new _ _ _,?_,rfl⟩;·unfold Xr;simp only[ht.2,ND];rw[if_pos (by omega)];simp only[Int.toNat_natCast,Nat.mul_one,RX]
 ·have:=Yl.new H (List.replicate n 0);rwa[List.length_replicate]at this
theorem Yl.store{n:Nat}{H:AH}{v:Value}{xs:List Nat}(h:Yl n H v xs){i:Nat}(hi:i<xs.length)(y:Nat): ∃H',YP Tryz.prog H 82 (adr v i) (.int .u64 (y:Int))=some H'/\Yl n H' v (xs.set i y)/\H'.n=H.n/\ ∀H0,ZQ H0 H->H0.n<=n->ZQ H0 H':=by cases h with
 |nil=>cases hi
 |mk b o cap xs cs h1 h2 h3 h4 h5 h6=>
  have hlen:Nat.ble (o+i+1) cs.length=true:=Nat.ble_eq.mpr (by omega);have e0:(Value.int .u64 (y:Int)).cells=#[.int .u64 (y:Int)]:=rfl;have hw:H.write b (o+i) [.int .u64 (y:Int)]=some { n:=H.n,lw:=min H.lw b,t:=H.t.set b (.rw 1 (cs.take (o+i)++[.int .u64 (y:Int)]++cs.drop (o+i+1))) } :=by rw[AH.write_def,h4];simp only[List.length_singleton,hlen,Bool.true_and];rfl
  refine⟨{ n:=H.n,lw:=min H.lw b,t:=H.t.set b (.rw 1 (cs.take (o+i)++[.int .u64 (y:Int)]++cs.drop (o+i+1))) },?_,?_,rfl,?_⟩;·unfold YP Go.Proofs.YtjboehpfojpimaaGreatDoor.adr;simp only[RH,e0];rw[show Nat.beq (#[Value.int .u64 (y:Int)]:Array Value).size 1=true from rfl,cond_true];exact hw
  ·have hl:(xs.set i y).length=xs.length:=List.length_set;rw[<-hl];refine .mk b o cap _ (cs.take (o+i)++[.int .u64 (y:Int)]++cs.drop (o+i+1)) (by omega) h2 h3 ?_ ?_ ?_;·unfold AH.blk;simp only[Tr.get_set,if_true]
   ·simp only[List.length_append,List.length_take,List.length_drop,List.length_singleton];omega
   ·intro j x hj;rw[List.getElem?_set]at hj;by_cases e:i=j;·subst e;rw[if_pos rfl,if_pos hi]at hj;cases hj;rw[List.append_assoc,List.getElem?_append_right (by rw[List.length_take];omega)];rw[List.length_take,show o+i-min (o+i) cs.length=0 by omega];rfl
    ·rw[if_neg e]at hj;have:=h6 j x hj;rcases Nat.lt_or_ge (o+j) (o+i)with Z3|Th;·rw[List.append_assoc,List.getElem?_append_left (by rw[List.length_take];omega),List.getElem?_take,if_pos Z3];exact this
     ·rw[List.getElem?_append_right (by simp only[List.length_append,List.length_take,List.length_singleton];omega),List.getElem?_drop];simp only[List.length_append,List.length_take,List.length_singleton];rw[show o+i+1+(o+j-(min (o+i) cs.length+1))=o+j by omega];exact this
  ·intro H0 k hn;refine⟨k.n,?_,fun j hj=>?_⟩;·have:=k.lw;show min H0.lw H0.n<=min H.lw b;omega
   ·have:j≠b:=by omega
    rw[<-k.blk j hj];unfold AH.blk;simp only[Tr.get_set,if_neg this]
theorem QV{x:Nat}(h:x<ZB):(BitVec.ofInt 64 (x:Int)).toNat=x:=by have h:x<18446744073709551616:=h;simp[BitVec.toNat_ofInt];omega
theorem GQ{x y:Nat}(hx:x<ZB)(hy:y<ZB):Zj .or .u64 (x:Int) (y:Int)=some (.int .u64 ((x|||y:Nat):Int)):=by
 have h:x|||y<2^64:=Nat.or_lt_two_pow hx hy;have e:(BitVec.ofInt 64 (x:Int)|||BitVec.ofInt 64 (y:Int)).toNat=x|||y:=by rw[BitVec.toNat_or,QV hx,QV hy]
 show some (Value.int .u64 (IntKind.u64.wrap ((BitVec.ofInt 64 (x:Int)|||BitVec.ofInt 64 (y:Int)).toNat:Nat)))=_;rw[e,IntKind.wrap_u64];have h:x|||y<18446744073709551616:=h;rw[Int.emod_eq_of_lt (by omega) (by omega)]
theorem JK{x y:Nat}(hx:x<ZB)(hy:y<ZB):Zj .and .u64 (x:Int) (y:Int)=some (.int .u64 ((x&&&y:Nat):Int)):=by
 have h:x&&&y<2^64:=Nat.and_lt_two_pow _ hy;have e:(BitVec.ofInt 64 (x:Int)&&&BitVec.ofInt 64 (y:Int)).toNat=x&&&y:=by rw[BitVec.toNat_and,QV hx,QV hy]
 show some (Value.int .u64 (IntKind.u64.wrap ((BitVec.ofInt 64 (x:Int)&&&BitVec.ofInt 64 (y:Int)).toNat:Nat)))=_;rw[e,IntKind.wrap_u64];have h:x&&&y<18446744073709551616:=h;rw[Int.emod_eq_of_lt (by omega) (by omega)]
theorem TZ{x s:Nat}(hs:s<=64):Yr .shl .u64 (x:Int) (s:Int)=some (.int .u64 ((x*2^s%ZB:Nat):Int)):=by unfold Yr;rw[if_neg (by omega)];simp only[show IntKind.u64.bits=64 from rfl,Int.toNat_natCast,Nat.min_eq_left hs,IntKind.wrap_u64];congr 2
theorem Pb{x s:Nat}(hs:s<=64):Yr .shr .u64 (x:Int) (s:Int)=some (.int .u64 ((x/2^s:Nat):Int)):=by unfold Yr;rw[if_neg (by omega)];simp only[show IntKind.u64.bits=64 from rfl,Int.toNat_natCast,Nat.min_eq_left hs];rw[Ta]
theorem Ww{x y:Nat} :Zj .add .u64 (x:Int) (y:Int)=some (.int .u64 (((x+y)%ZB:Nat):Int)):=by unfold Zj;simp only[IntKind.wrap_u64];congr 2
theorem Wz{x y:Nat} :Zj .mul .u64 (x:Int) (y:Int)=some (.int .u64 ((x*y%ZB:Nat):Int)):=by unfold Zj;simp only[IntKind.wrap_u64];congr 2
theorem Vu{x y:Nat}(h:x+y<9223372036854775808):Zj .add .i64 (x:Int) (y:Int)=some (.int .i64 ((x+y:Nat):Int)):=by
 show some (Value.int .i64 (IntKind.i64.wrap ((x:Int)+(y:Int))))=_;have e:IntKind.i64.wrap ((x:Int)+(y:Int))=((x+y:Nat):Int):=by rw[IntKind.wrap_i64];omega
 rw[e]
theorem Y4{x:Nat}(h:x<9223372036854775800):Zj .add .i64 (x:Int) 1=some (.int .i64 ((x+1:Nat):Int)):=by have:=Vu (x:=x) (y:=1) (by omega);simpa using this
theorem IG{x y:Nat}(h:x<9223372036854775808)(hy:y<=x):Zj .sub .i64 (x:Int) (y:Int)=some (.int .i64 ((x-y:Nat):Int)):=by
 show some (Value.int .i64 (IntKind.i64.wrap ((x:Int)-(y:Int))))=_;have e:IntKind.i64.wrap ((x:Int)-(y:Int))=((x-y:Nat):Int):=by rw[IntKind.wrap_i64];omega
 rw[e]
theorem Oo{x:Nat}(h:x<9223372036854775808)(hx:0<x):Zj .sub .i64 (x:Int) 1=some (.int .i64 ((x-1:Nat):Int)):=by have:=IG (x:=x) (y:=1) h hx;simpa using this
theorem Ut{x y:Nat}(hx:x<ZB)(hy:y<=x):Zj .sub .u64 (x:Int) (y:Int)=some (.int .u64 ((x-y:Nat):Int)):=by
 have hx:x<18446744073709551616:=hx;show some (Value.int .u64 (IntKind.u64.wrap ((x:Int)-(y:Int))))=_;have e:IntKind.u64.wrap ((x:Int)-(y:Int))=((x-y:Nat):Int):=by rw[IntKind.wrap_u64];omega
 rw[e]
theorem Yv{k:IntKind}{x y:Nat} :Zj .lss k (x:Int) (y:Int)=some (.bool (decide (x<y))):=by show some (Value.bool (decide ((x:Int)<(y:Int))))=_;congr 2;simp
theorem Mp{k:IntKind}{x y:Nat} :Zj .leq k (x:Int) (y:Int)=some (.bool (decide (x<=y))):=by show some (Value.bool (decide ((x:Int)<=(y:Int))))=_;congr 2;simp
theorem VW{k:IntKind}{x y:Nat} :Zj .gtr k (x:Int) (y:Int)=some (.bool (decide (y<x))):=by show some (Value.bool (decide ((x:Int)>(y:Int))))=_;congr 2;simp
theorem JA{k:IntKind}{x y:Nat} :Zj .geq k (x:Int) (y:Int)=some (.bool (decide (y<=x))):=by show some (Value.bool (decide ((x:Int)≥(y:Int))))=_;congr 2;simp
theorem Ma{k:IntKind}{x y:Nat} :Zj .eql k (x:Int) (y:Int)=some (.bool (decide (x=y))):=by
 show some (Value.bool ((x:Int)==(y:Int)))=_;congr 2;by_cases h:x=y;·simp[h]
 ·have: ¬ (x:Int)=(y:Int):=by omega
  simp[h,this]
theorem Q0{k:IntKind}{x y:Nat} :Zj .neq k (x:Int) (y:Int)=some (.bool (decide (x≠y))):=by
 show some (Value.bool ((x:Int) !=(y:Int)))=_;congr 2;by_cases h:x=y;·simp[h]
 ·have: ¬ (x:Int)=(y:Int):=by omega
  simp[h,this]
theorem GR{s a b:Nat}(hb:b<2^s):(a*2^s)|||b=a*2^s+b:=by rw[Nat.mul_comm,Nat.two_pow_add_eq_or_of_lt hb]
theorem SM(L:List Nat)(c y:Nat)(R:List Nat){i:Nat}(h:L.length=i):(L++c::R).set i y=L++y::R:=by subst h;rw[List.set_append_right _ _ (Nat.le_refl _),Nat.sub_self];rfl
theorem J0(L:List Nat)(c:Nat)(R:List Nat){i:Nat}(h:L.length=i)(hi:i<(L++c::R).length):(L++c::R)[i]=c:=by subst h;simp
theorem XA{xs:List Nat}{i:Nat}(h:i<xs.length):xs.take (i+1)=xs.take i++[xs[i]]:=(List.take_append_getElem (l:=xs) (i:=i) h).symm
theorem Nq{x s:Nat}(hs:s<64):x*2^s=x*2^s%ZB+ZB*(x/2^(64-s)):=by
 have e:ZB=2^(64-s)*2^s:=by rw[<-Nat.pow_add,show 64-s+s=64 by omega]
 have h1:x*2^s/ZB=x/2^(64-s):=by rw[e,Nat.mul_div_mul_right _ _ (Nat.two_pow_pos s)]
 have:=Nat.mod_add_div (x*2^s) ZB;rw[h1]at this;exact this.symm
section
attribute [-simp] Int.natCast_add Int.natCast_mul Int.natCast_ediv Int.natCast_emod Int.natCast_pow
attribute [local simp] strip Zt YR gW ZZ ZO Zk ZN Zv ZM Ze Zf Zb Zw ZT Zs Zx Zc ZS Za Yd ZC Zu plain Zq Tr.get_set ZA Zd Z5 Zl sameKind undef Zh Zy ZR ZU ZD Yq Zm parts Yv
end
theorem Pr{x:Nat}(hx:x<ZB):Zj .and .u64 (x:Int) 4294967295=some (.int .u64 ((x%4294967296:Nat):Int)):=by have:=JK (x:=x) (y:=4294967295) hx (by decide);rw[show x&&&4294967295=x%4294967296 from Nat.and_two_pow_sub_one_eq_mod x 32]at this;exact this
theorem Jq{x:Nat} :Yr .shr .u64 (x:Int) 32=some (.int .u64 ((x/4294967296:Nat):Int)):=Pb (x:=x) (s:=32) (by omega)
theorem mul64_arith {x y : Nat} (hx : x < ZB) (hy : y < ZB) :
    let x0 := x % 4294967296; let x1 := x / 4294967296; let y0 := y % 4294967296; let y1 := y / 4294967296
    let w0 := x0 * y0 % ZB
    let t := (x1 * y0 % ZB + w0 / 4294967296) % ZB
    let w1 := (t % 4294967296 + x0 * y1 % ZB) % ZB
    ((x1 * y1 % ZB + t / 4294967296) % ZB + w1 / 4294967296) % ZB = x * y / ZB := by
  intro x0 x1 y0 y1 w0 t w1
  have hx : x < 18446744073709551616 := hx
  have hy : y < 18446744073709551616 := hy
  have a0 : x0 <= 4294967295 := by show x % 4294967296 <= _; omega
  have a1 : x1 <= 4294967295 := by show x / 4294967296 <= _; omega
  have b0 : y0 <= 4294967295 := by show y % 4294967296 <= _; omega
  have b1 : y1 <= 4294967295 := by show y / 4294967296 <= _; omega
  have ex : x = 4294967296 * x1 + x0 := (Nat.div_add_mod x 4294967296).symm
  have ey : y = 4294967296 * y1 + y0 := (Nat.div_add_mod y 4294967296).symm
  have p00 : x0 * y0 <= 18446744065119617025 := Nat.mul_le_mul a0 b0
  have p10 : x1 * y0 <= 18446744065119617025 := Nat.mul_le_mul a1 b0
  have p01 : x0 * y1 <= 18446744065119617025 := Nat.mul_le_mul a0 b1
  have p11 : x1 * y1 <= 18446744065119617025 := Nat.mul_le_mul a1 b1
  have e : x * y = 18446744073709551616 * (x1 * y1) + 4294967296 * (x1 * y0) + 4294967296 * (x0 * y1) + x0 * y0 := by
    rw [ex, ey]
    simp only [Nat.mul_add, Nat.add_mul]
    rw [show 4294967296 * x1 * (4294967296 * y1) = 18446744073709551616 * (x1 * y1) by rw [Nat.mul_mul_mul_comm]]
    rw [Nat.mul_assoc 4294967296 x1 y0, Nat.mul_left_comm x0 4294967296 y1]
    omega
  rw [e]
  show ((x1 * y1 % 18446744073709551616 + t / 4294967296) % 18446744073709551616 + w1 / 4294967296) % 18446744073709551616 = _ / 18446744073709551616
  have EU : w0 = x0 * y0 := Nat.mod_eq_of_lt (by show _ < 18446744073709551616; omega)
  have ht : t = x1 * y0 + x0 * y0 / 4294967296 := by
    show (x1 * y0 % 18446744073709551616 + w0 / 4294967296) % 18446744073709551616 = _
    rw [EU]; omega
  have SZ : w1 = t % 4294967296 + x0 * y1 := by
    show (t % 4294967296 + x0 * y1 % 18446744073709551616) % 18446744073709551616 = _
    omega
  generalize x1 * y1 = p11 at *
  generalize x1 * y0 = p10 at *
  generalize x0 * y1 = p01 at *
  generalize x0 * y0 = p00 at *
  clear_value t w1
  omega
section
attribute [-simp] Int.natCast_add Int.natCast_mul Int.natCast_ediv Int.natCast_emod Int.natCast_pow
attribute [local simp] strip Zt YR gW ZZ ZO Zk ZN Zv ZM Ze Zf Zb Zw ZT Zs Zx Zc ZS Za Yd ZC Zu plain Zq Tr.get_set ZA Zd Z5 Zl sameKind undef Zh Zy ZR ZU ZD Yq Zm parts Yv
theorem Nz{x y:Nat}(hx:x<ZB)(hy:y<ZB){H:AH} :CW Tryz.prog Yg 161 [.int .u64 (x:Int),.int .u64 (y:Int)] H fun v H'=>H'=H/\v= .tuple #[.int .u64 ((x*y/ZB:Nat):Int),.int .u64 ((x*y%ZB:Nat):Int)]:=by
 refine YH 51 Tryz.func161 ?_;have ht: ∀z:Nat,z%ZB<ZB:=fun z=>Nat.mod_lt _ (by decide);have key:=mul64_arith hx hy;simp only at key;iterate 12 apply ZX;intro b hb;simp[Pr hx,Pr hy,Jq,Wz,Ww,Pr (ht _)];subst hb
 apply Z8;simp;have EL:=key;simp only[Nat.mod_add_mod,Nat.add_mod_mod]at EL;rw[<-EL]
end
theorem Yl.cut{n0:Nat}{H:AH}{v:Value}{xs:List Nat}(h:Yl n0 H v xs){t:TypeId}(ht:LT t){m:Nat}(hm:m<=xs.length)(h0:0<xs.length): ∃v',Wa Tryz.prog H t v none (some (.int .i64 (m:Int))) none=some v'/\Yl n0 H v' (xs.take m):=by cases h with
 |nil=>cases h0
 |mk b o cap xs cs h1 h2 h3 h4 h5 h6=>
  have hl:(xs.take m).length=m:=by rw[List.length_take];omega
  have Yz:H.size b=some 1:=by unfold AH.size;rw[h4]
  refine⟨.slice (some ⟨b,o,none⟩) (xs.take m).length cap,?_,.mk b o cap _ cs (by omega) h2 h3 h4 h5 fun i x hx=>h6 i x ?_⟩;·unfold Wa;simp only[ht.1,RH];unfold OH Yt;simp only[Yz,Option.isSome_some,Option.isNone_none,Bool.true_or];rw[if_pos (by omega)];have e1:Nat.ble m cap=true:=Nat.ble_eq.mpr (by omega);simp[Yt,e1,hl]
  ·rw[List.getElem?_take]at hx;split at hx;·exact hx
   ·cases hx
section
attribute [local simp] strip Zt YR gW ZZ ZO Zk ZN Zv ZM Ze Zf Zb Zw ZT Zs Zx Zc ZS Yd ZC Zu plain Zq Tr.get_set ZA Zd Z5 Zl sameKind Zj undef Zh Zy ZR ZU ZD Yq Zm
end
def nth(xs:List Nat)(i:Nat):Nat:=xs[i]?.getD 0
theorem WZ{xs:List Nat}{i:Nat}(h:i<xs.length):nth xs i=xs[i]:=by unfold nth;rw[List.getElem?_eq_getElem h];rfl
theorem Un{xs:List Nat}{i:Nat}(h:xs.length<=i):nth xs i=0:=by unfold nth;rw[List.getElem?_eq_none h];rfl
section
attribute [-simp] Int.natCast_add Int.natCast_mul Int.natCast_ediv Int.natCast_emod Int.natCast_pow
attribute [local simp] strip Zt YR gW ZZ ZO Zk ZN Zv ZM Ze Zf Zb Zw ZT Zs Zx Zc ZS Za Yd ZC Zu plain Zq Tr.get_set ZA Zd Z5 Zl sameKind undef Zh Zy ZR ZU ZD Yq Zm parts Yv
end
end
end Go.Proofs.YtjboehpfojpimaaGreatDoor
namespace Go.Proofs.YtjboehpfojpimaaGreatDoor
set_option linter.unusedVariables false
set_option maxHeartbeats 2000000
set_option maxRecDepth 20000
theorem Mb{b y1 y0 u d q r:Nat}(hq:q*y1+r=u):u*b+d=q*(y1*b)+(b*r+d):=by rw[<-hq,Nat.add_mul,Nat.mul_assoc,Nat.mul_comm r b];omega
theorem Kf{b y1 y0 u d q r:Nat}(hq:q*y1+r=u)(hu:u<y1*b+y0)(hd:d<b)(ht:b<=q\/b*r+d<q*y0):(u*b+d)/(y1*b+y0)<q:=by
 have hy:0<y1*b+y0:=by omega
 rw[Nat.div_lt_iff_lt_mul hy];rcases ht with ht|ht;·have h1:(u+1)*b<=(y1*b+y0)*b:=Nat.mul_le_mul_right _ hu;have h2:b*(y1*b+y0)<=q*(y1*b+y0):=Nat.mul_le_mul_right _ ht;rw[Nat.succ_mul]at h1;rw[Nat.mul_comm b]at h2;omega
 ·rw[Mb (y0:=y0) (d:=d) (b:=b) hq,Nat.mul_add];omega
theorem R0{b y1 y0 u d q r:Nat}(hq:q*y1+r=u)(hy:0<y1*b+y0)(ht:q*y0<=b*r+d):q<=(u*b+d)/(y1*b+y0):=by rw[Nat.le_div_iff_mul_le hy,Mb (y0:=y0) (d:=d) (b:=b) hq,Nat.mul_add];omega
theorem MH{b y1 y0 u d:Nat}(h1:0<y1)(hd:d<b):(u*b+d)/(y1*b+y0)<=u/y1:=by
 have hb:0<b:=by omega
 have hy:0<y1*b+y0:=by have:=Nat.mul_pos h1 hb;omega
 have h2:(u*b+d)/(y1*b+y0)<=(u*b+d)/(y1*b):=by rw[Nat.le_div_iff_mul_le (Nat.mul_pos h1 hb)];have:=Nat.div_mul_le_self (u*b+d) (y1*b+y0);rw[Nat.mul_add]at this;omega
 have h3:(u*b+d)/(y1*b)=u/y1:=by rw[Nat.mul_comm y1 b,<-Nat.div_div_eq_div_mul,Nat.add_comm,Nat.add_mul_div_right _ _ hb,Nat.div_eq_of_lt hd,Nat.zero_add]
 omega
theorem MG{b y1 y0 u:Nat}(h1:b<=2*y1)(h0:y0<b)(hu:u<y1*b+y0)(hp:0<y1):u/y1<=b+1:=by
 have:u/y1<b+2:=by rw[Nat.div_lt_iff_lt_mul hp,Nat.add_mul,Nat.mul_comm b y1];omega
 omega
end Go.Proofs.YtjboehpfojpimaaGreatDoor
namespace Go.Proofs.YtjboehpfojpimaaGreatDoor
open Go Ev
set_option linter.unusedVariables false
set_option linter.unusedSimpArgs false
noncomputable section
set_option maxHeartbeats 2000000
set_option maxRecDepth 20000
theorem SP{x y:Nat}(hx:x<ZB)(hy:0<y):Zj .quo .u64 (x:Int) (y:Int)=some (.int .u64 ((x/y:Nat):Int)):=by
 have hx:x<18446744073709551616:=hx;have hle:x/y<=x:=Nat.div_le_self x y;have h0: ¬ ((y:Int)=0):=by omega
 have e:IntKind.u64.wrap ((x:Int).tdiv (y:Int))=((x/y:Nat):Int):=by rw[IntKind.wrap_u64,Int.tdiv_eq_ediv_of_nonneg (by omega),<-Int.natCast_ediv];generalize x/y=q at*;omega
 show(if(y:Int)=0 then none else some (Value.int .u64 (IntKind.u64.wrap ((x:Int).tdiv (y:Int)))))=_;rw[if_neg h0,e]
theorem My{x y:Nat}(hy:0<y):Zj .rem .u64 (x:Int) (y:Int)=some (.int .u64 ((x%y:Nat):Int)):=by
 have h0: ¬ ((y:Int)=0):=by omega
 have e:(x:Int).tmod (y:Int)=((x%y:Nat):Int):=by rw[Int.tmod_eq_emod_of_nonneg (by omega),<-Int.natCast_emod]
 show(if(y:Int)=0 then none else some (Value.int .u64 ((x:Int).tmod (y:Int))))=_;rw[if_neg h0,e]
theorem Ow{x y:Nat}(hy:y<=ZB):Zj .sub .u64 (x:Int) (y:Int)=some (.int .u64 (((x+ZB-y)%ZB:Nat):Int)):=by
 have hy:y<=18446744073709551616:=hy;have e:IntKind.u64.wrap ((x:Int)-(y:Int))=(((x+18446744073709551616-y)%18446744073709551616:Nat):Int):=by rw[IntKind.wrap_u64];omega
 show some (Value.int .u64 (IntKind.u64.wrap ((x:Int)-(y:Int))))=_;rw[e]
theorem Ol{u b d q y:Nat}(hy:y<ZB)(hy0:0<y)(hq:q=(u*b+d)/y):((u*b%ZB+d)%ZB+ZB-q*y%ZB)%ZB=(u*b+d)%y:=by have e:=Nat.div_add_mod (u*b+d) y;rw[<-hq,Nat.mul_comm y q]at e;have hr:(u*b+d)%y<y:=Nat.mod_lt _ hy0;generalize(u*b+d)%y=r at*;generalize q*y=p at*;rw[Nat.mod_add_mod,<-e];have hy:y<18446744073709551616:=hy;show((p+r)%18446744073709551616+18446744073709551616-p%18446744073709551616)%18446744073709551616=r;omega
abbrev ZV:Nat:=4294967296
theorem M3{x:Nat} :Zj .geq .u64 (x:Int) 4294967296=some (.bool (decide (4294967296<=x))):=JA (y:=4294967296)
theorem mulL{x:Nat} :Zj .mul .u64 4294967296 (x:Int)=some (.int .u64 ((4294967296*x%ZB:Nat):Int)):=Wz (x:=4294967296)
theorem mulR{x:Nat} :Zj .mul .u64 (x:Int) 4294967296=some (.int .u64 ((x*4294967296%ZB:Nat):Int)):=Wz (y:=4294967296)
theorem Oq{x:Nat}(hx:x<ZB)(h:0<x):Zj .sub .u64 (x:Int) 1=some (.int .u64 ((x-1:Nat):Int)):=Ut (y:=1) hx h
structure HQ (y1 y0 u d q r : Nat) : Prop where
  y1lo : 2147483648 <= y1
  NG : y1 < 4294967296
  IE : y0 < 4294967296
  uhi : u < y1 * 4294967296 + y0
  dhi : d < 4294967296
  eq : q * y1 + r = u
  ge : (u * 4294967296 + d) / (y1 * 4294967296 + y0) <= q
  rhi : r < 4294967296
  qhi : q <= 4294967297
def Sw(y0 d q r:Nat):Bool:=decide (4294967296<=q)||decide (4294967296*r+d<q*y0)
theorem HQ.down{y1 y0 u d q r:Nat}(h:HQ y1 y0 u d q r)(ht:Sw y0 d q r=true):0<q/\(q-1)*y1+(r+y1)=u/\(u*4294967296+d)/(y1*4294967296+y0)<=q-1/\q-1<=4294967296:=by
 have DZ:4294967296<=q\/4294967296*r+d<q*y0:=by simpa[Sw]using ht
 have h1:=Kf h.eq h.uhi h.dhi DZ;have hq:0<q:=Nat.lt_of_le_of_lt (Nat.zero_le _) h1;refine⟨hq,?_,Nat.le_sub_one_of_lt h1,by have:=h.qhi;omega⟩;obtain⟨q',rfl⟩: ∃q',q=q'+1:=⟨q-1,by omega⟩;have:=h.eq;rw[Nat.succ_mul]at this;rw[Nat.add_sub_cancel];omega
theorem HQ.stop{y1 y0 u d q r:Nat}(h:HQ y1 y0 u d q r)(ht:Sw y0 d q r=false):q=(u*4294967296+d)/(y1*4294967296+y0)/\q<4294967296:=by
 have DZ:q<4294967296/\q*y0<=4294967296*r+d:=by simpa[Sw]using ht
 have:=R0 h.eq (by have:=h.y1lo;omega) DZ.2;exact⟨Nat.le_antisymm this h.ge,DZ.1⟩
theorem RA{y1 y0 u d q r:Nat}(y1lo:2147483648<=y1)(IE:y0<4294967296)(uhi:u<y1*4294967296+y0)(dhi:d<4294967296)(eq:q*y1+r=u)(ge:(u*4294967296+d)/(y1*4294967296+y0)<=q)(hr:4294967296<=r)(hq:q<=4294967296):q=(u*4294967296+d)/(y1*4294967296+y0)/\q<4294967296:=by
 have h1:q*y0<=4294967296*r+d:=by have a:q*y0<=4294967296*y0:=Nat.mul_le_mul_right _ hq;omega
 have h2:=R0 eq (show 0<y1*4294967296+y0 by omega) h1;have h3:q=(u*4294967296+d)/(y1*4294967296+y0):=Nat.le_antisymm h2 ge;refine⟨h3,?_⟩;rw[h3,Nat.div_lt_iff_lt_mul (by omega)];have:(u+1)*4294967296<=(y1*4294967296+y0)*4294967296:=Nat.mul_le_mul_right _ uhi;rw[Nat.succ_mul,Nat.mul_comm (y1*4294967296+y0)]at this;omega
theorem R3{y1 y0 u d:Nat}(y1lo:2147483648<=y1)(NG:y1<4294967296)(IE:y0<4294967296)(uhi:u<y1*4294967296+y0)(dhi:d<4294967296):HQ y1 y0 u d (u/y1) (u%y1):=⟨y1lo,NG,IE,uhi,dhi,by rw[Nat.mul_comm];exact Nat.div_add_mod u y1,MH (by omega) dhi,Nat.lt_of_lt_of_le (Nat.mod_lt _ (by omega)) (by omega),MG (by omega) IE uhi (by omega)⟩
end
end Go.Proofs.YtjboehpfojpimaaGreatDoor
