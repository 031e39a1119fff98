/-
  The engine and the walks that the claim's last text leans on, part 3 of 10: EvM, EvMb, EvP, EvQ, Cfg, Laid, Np, Na, Nb, EvR, Nc, Nd, Ne, Nf, Ng, Nh, Ni, Nj.
-/
import Derived.Test.YtmkfecoeghokfaaGreatDoorM2
import Derived.Defers
import Derived.Test.YtmkfecoeghokfaaGreatDoorRows
import Derived.WalkKit
import Derived.ProofKit
import Derived.OpenShut
import Derived.ChangeOld
import Derived.SizedLaws
import Derived.Test.YtmkfecoeghokfaaGreatDoorCards
import Derived.Test.YtmkfecoeghokfaaGreatDoorTie
import Derived.LaidMore
import Derived.Deep.Strs
import Derived.MakeChecks
import Derived.FnData
import Derived.Stop.Joined
import Derived.SevenTiedAt
import Derived.KernelRfl
import Derived.Laws.Bits64
import Derived.Laws.BitsLemmas
namespace Go.Proofs.YtmkfecoeghokfaaGreatDoor.Ev
open Go Go.RowKit
set_option linter.unusedVariables false
noncomputable section
set_option linter.unusedSimpArgs false
set_option maxHeartbeats 2000000
set_option maxRecDepth 20000
def MY : Array Value -> Sem Value := fun args => do
  let (x, y, b) <- Extern.MathBitsCarry.three "Sub64" args
  pure (Extern.MathBitsCarry.pair ((x + Extern.MathBitsCarry.m64 - y - b) % Extern.MathBitsCarry.m64) (if x < y + b then 1 else 0))
theorem nA{P:Program}(x y c:Nat)(hc:c<=1)(w:World):(add64Entry #[.int .u64 x,.int .u64 y,.int .u64 c]).run P w= .ok (.tuple #[.int .u64 (Int.ofNat ((x+y+c)%18446744073709551616)),.int .u64 (Int.ofNat ((x+y+c)/18446744073709551616))]) w:=by
 have:c=0\/c=1:=by omega
 rcases this with rfl|rfl<;>rfl
theorem od{P:Program}(x y c:Nat)(hc:c<=1)(w:World):(MY #[.int .u64 x,.int .u64 y,.int .u64 c]).run P w= .ok (.tuple #[.int .u64 (Int.ofNat ((x+18446744073709551616-y-c)%18446744073709551616)),.int .u64 (cond (Nat.blt x (y+c)) 1 0)]) w:=by
 have key: ∀k:Nat,k<=1->(MY #[.int .u64 x,.int .u64 y,.int .u64 k]).run P w= .ok (Extern.MathBitsCarry.pair ((x+Extern.MathBitsCarry.m64-y-k)%Extern.MathBitsCarry.m64) (if x<y+k then 1 else 0)) w:=by
  intro k hk;have:k=0\/k=1:=by omega
  rcases this with rfl|rfl<;>rfl
 rw[key c hc];unfold Extern.MathBitsCarry.pair;by_cases h:x<y+c
 ·have:Nat.blt x (y+c)=true:=by rw[Nat.blt_eq];exact h
  rw[if_pos h,this];rfl
 ·have:Nat.blt x (y+c)=false:=by cases hb:Nat.blt x (y+c)with|false=>rfl|true=>rw[Nat.blt_eq]at hb;exact absurd hb h
  rw[if_neg h,this];rfl
structure CfgOk (P : Program) (C : Cfg) : Prop where
  mixed : P.follows .mixedOrders = true
  names : ∀ (f : Nat) (fn : Func), P.funcs[f]? = some fn -> fn.body.isSome = true -> (fn.name == "runtime.NumGoroutine") = false
  add : ∃ fn, P.funcs[C.add]? = some fn /\ (fn.name == "runtime.NumGoroutine") = false /\ fn.body.isNone = true /\ Extern.findNext fn = none /\ Extern.find fn = some add64Entry
  sub : ∃ fn, P.funcs[C.sub]? = some fn /\ (fn.name == "runtime.NumGoroutine") = false /\ fn.body.isNone = true /\ Extern.findNext fn = none /\ Extern.find fn = some MY
def Jh:Ex->Exit| .norm=> .normal| .exit id=> .exit id| .ret=> .ret| .pan _=> .normal
def LW(P:Program)(body:Code)(Q:Exit->Act->World->Prop)(a:Act)(w:World):Prop:= ∀(b:Frame)(k:List Item)(cs:List Frame),∃e a' w',Q e a' w'/\Arrives P (lone (b.at a (.code body:: .inLoop body::k)) cs w) b k cs e a' w'
theorem LW.wp{P:Program}{body:Code}{Q:Exit->Act->World->Prop}{a:Act}{w:World}(h:LW P body Q a w):(Code.loop body).wp P Q a w:=fun b k cs=>by obtain⟨e,a',w',hq,gU⟩:=h b k cs;exact⟨e,a',w',hq,.of_steps (.one step_loop) gU⟩
def Rw(Df:List Deferred)(B:Nat)(S:Nat->Prop)(L:Nat->Loc)(H:AH)(w:World)(ex:Ex)(s':St)(e:Exit)(a':Act)(w':World):Prop:=match ex with| .pan v=> ∃v',e= .panic [{ v:=v',recovered:=false }]/\ ∃L',AI Df (ext S H.n s'.H.n) L' s'.k s'.tm a'/\Inv B (ext S H.n s'.H.n) L' s'.H w'/\Fr S L H w L' s'.H w'/\VR (ext S H.n s'.H.n) L' v v'|ex=>e=Jh ex/\Td Df B S L H w s' a' w'
theorem Rw.trans{Df:List Deferred}{B:Nat}{S:Nat->Prop}{L L1:Nat->Loc}{H:AH}{w w1:World}{s1 s2:St}{ex:Ex}{e:Exit}{a2:Act}{w2:World}(hI:Inv B S L H w)(MC:Inv B (ext S H.n s1.H.n) L1 s1.H w1)(hF:Fr S L H w L1 s1.H w1)(h:Rw Df B (ext S H.n s1.H.n) L1 s1.H w1 ex s2 e a2 w2):Rw Df B S L H w ex s2 e a2 w2:=by cases ex with|pan v=>obtain⟨v',he,L2,h1,h2,h3,h4⟩:=h;rw[Ku hF.n h3.n]at h1 h2 h4;exact⟨v',he,L2,h1,h2,hF.trans hI MC (fun _ h=> .inl h) h3,h4⟩|norm=>exact⟨h.1,h.2.trans hI MC hF⟩|exit j=>exact⟨h.1,h.2.trans hI MC hF⟩|ret=>exact⟨h.1,h.2.trans hI MC hF⟩
theorem Rw.norm{Df:List Deferred}{B:Nat}{S:Nat->Prop}{L:Nat->Loc}{H:AH}{w:World}{s':St}{e:Exit}{a':Act}{w':World}(h:Rw Df B S L H w .norm s' e a' w'):e= .normal/\Td Df B S L H w s' a' w':=h
theorem Rw.not_normal{Df:List Deferred}{B:Nat}{S:Nat->Prop}{L:Nat->Loc}{H:AH}{w:World}{ex:Ex}{s':St}{e:Exit}{a':Act}{w':World}(TQ:ex≠ .norm)(h:Rw Df B S L H w ex s' e a' w'):e≠ .normal:=by cases ex with|pan v=>obtain⟨v',he,_⟩:=h;subst he;simp|norm=>exact absurd rfl TQ|exit j=>rw[h.1];simp[Jh]|ret=>rw[h.1];simp[Jh]
def dJ(P:Program)(C:Cfg)(B:Nat)(f:Code->St->Option (Ex×St)):Prop:= ∀c s ex s',f c s=some (ex,s')-> ∀Df S L a w,GO C S L->AI Df S L s.k s.tm a->Inv B S L s.H w-> ∀Q:Exit->Act->World->Prop,(∀e a' w',Rw Df B S L s.H w ex s' e a' w'->Q e a' w')->c.wp P Q a w/\ ∀body,c= .loop body->LW P body Q a w
def Aa(B:Nat)(S:Nat->Prop)(L:Nat->Loc)(H:AH)(w:World)(o:Out)(H':AH)(e:Ending)(w':World):Prop:=match o with| .ret v=> ∃v',e= .returned v'/\Good B S L H w v H' v' w'| .pan v=> ∃v',e= .panicked [{ v:=v',recovered:=false }]/\Good B S L H w v H' v' w'
def P3(P:Program)(C:Cfg)(B:Nat)(call:FuncId->List Value->AH->Option (Out×AH)):Prop:= ∀f args H o H',call f args H=some (o,H')-> ∀S L w args',GO C S L->Inv B S L H w->UP S L args args'->(∃v v' w',o= .ret v/\(callFunc f args'.toArray).run P w= .ok (.value v') w'/\Good B S L H w v H' v' w')\/((callFunc f args'.toArray).run P w= .ok (.enter f args'.toArray) w/\Calls P f args'.toArray w fun e w'=>Aa B S L H w o H' e w')
def Gm(P:Program)(C:Cfg)(B:Nat)(call:FuncId->List Value->AH->Option (Value×AH)):Prop:= ∀f args H v H',call f args H=some (v,H')-> ∀S L w args',GO C S L->Inv B S L H w->UP S L args args'->(callFunc f args'.toArray).run P w= .ok (.enter f args'.toArray) w/\Calls P f args'.toArray w fun e w'=> ∃v',e= .panicked [{ v:=v',recovered:=false }]/\Good B S L H w v H' v' w'
structure LvOk (P : Program) (C : Cfg) (B : Nat) (ih : Lv) : Prop where
  code : dJ P C B ih.code
  call : Ue P C B ih.call
theorem QR{r:Option (Out×AH)}{v:Value}{H:AH}(h:LA r=some (v,H)):r=some (.ret v,H):=by
 unfold LA at h;split at h;·injection h with h;injection h with h1 h2;subst h1;subst h2;rfl
 ·cases h
theorem QX{r:Option (Out×AH)}{v:Value}{H:AH}(h:A5 r=some (v,H)):r=some (.pan v,H):=by
 unfold A5 at h;split at h;·injection h with h;injection h with h1 h2;subst h1;subst h2;rfl
 ·cases h
theorem P3.ret{P:Program}{C:Cfg}{B:Nat}{call:FuncId->List Value->AH->Option (Out×AH)}(h:P3 P C B call):Ue P C B (fun f args H=>LA (call f args H)):=by
 intro f args H v H' hc S L w args' hG hI ha;rcases h f args H _ H' (QR hc) S L w args' hG hI ha with⟨v1,v',w',e,h1,h2⟩|⟨h1,h2⟩;·cases e;exact .inl ⟨v',w',h1,h2⟩
 ·exact .inr ⟨h1,h2⟩
theorem P3.pan{P:Program}{C:Cfg}{B:Nat}{call:FuncId->List Value->AH->Option (Out×AH)}(h:P3 P C B call):Gm P C B (fun f args H=>A5 (call f args H)):=by
 intro f args H v H' hc S L w args' hG hI ha;rcases h f args H _ H' (QX hc) S L w args' hG hI ha with⟨v1,v',w',e,h1,h2⟩|⟨h1,h2⟩;·cases e
 ·exact⟨h1,h2⟩
theorem LO{S:Nat->Prop}{L:Nat->Loc}{args:List Value}{x y c:Nat}{args':List Value}(h:PK args=some (x,y,c))(hv:UP S L args args'):args'=[.int .u64 x,.int .u64 y,.int .u64 c]/\c<=1:=by
 unfold PK at h;split at h<;>first|(cases h;done)|skip
 rename_i a b d;split at h<;>first|(cases h;done)|skip
 rename_i hb;obtain⟨h1,h2,h3,h4⟩:=hb;injection h with h;injection h with e1 e2;injection e2 with e2 e3;obtain⟨x',y',z',rfl,v1,v2,v3⟩:=hv.inv3;cases v1;cases v2;cases v3;subst e1;subst e2;subst e3;exact⟨by rw[Int.toNat_of_nonneg h1,Int.toNat_of_nonneg h2,Int.toNat_of_nonneg h3],by omega⟩
theorem D8: ∀(vs:List Value)(i:Nat)(t:Tr Value)(k:Nat),(YU i vs t).get k=if i<=k/\k<i+vs.length then vs[k-i]? else t.get k
 |[],i,t,k=>by rw[if_neg (by rw[List.length_nil];omega)];rfl
 |v::vs,i,t,k=>by
  simp only[YU];rw[D8 vs (i+1) (t.set i v) k,Tr.get_set];by_cases h:i+1<=k/\k<i+1+vs.length
  ·rw[if_pos h,if_pos (by simp;omega)];have:k-i=(k-(i+1))+1:=by omega
   rw[this];rfl
  ·rw[if_neg h];by_cases e:k=i;·subst e;rw[if_pos rfl,if_pos (by simp)];simp
   ·rw[if_neg e,if_neg (by simp;omega)]
theorem E8{B:Nat}{S:Nat->Prop}{L:Nat->Loc}{H:AH}{w:World}{P:Program}(hI:Inv B S L H w){t:TypeId}{x x' v:Value}(h:Z7 P H t x=some v)(hx:VR S L x x'): ∃v',(do loadVar t (<-asAddr x'):Sem Value).run P w= .ok v' w/\VR S L v v':=by
 obtain⟨v',h1,h2⟩:=HQ (P:=P) hI h hx;refine⟨v',?_,h2⟩;unfold Z7 at h;split at h<;>first|(cases h;done)|skip
 cases hx with|ptr i o hS=>simp only[Instr.loadAt,Instr.sureAddr,Sem.run_bind,Sem.run_pure,Result.andThen_ok]at h1;simp only[asAddr,Sem.run_bind,Sem.run_pure,Result.andThen_ok,h1]
def BK(tmps:Array Value)(r:ResultVar):Sem Value:=match r with| .tmp t=>pure (tmps.getD t undef)| .cell c t=>do loadVar t (<-asAddr (tmps.getD c undef))
theorem BJ(fn:Func)(tmps:Array Value):results fn tmps=(do let vs<-fn.results.mapM (BK tmps);pure (if h:vs.size=1 then vs[0]else .tuple vs)):=rfl
theorem LB{Df:List Deferred}{B:Nat}{S:Nat->Prop}{L:Nat->Loc}{w:World}{P:Program}{s:St}{a:Act}(hA:AI Df S L s.k s.tm a)(hI:Inv B S L s.H w): ∀(rs:List ResultVar)(vs:List Value),ZZ P s rs=some vs-> ∃TB,(rs.mapM (BK a.tmps):Sem (List Value)).run P w= .ok TB w/\UP S L vs TB
 |[],vs,h=>by simp only[ZZ]at h;obtain rfl:=Option.some.inj h;exact⟨[],by simp,.nil⟩
 |r::rs,vs,h=>by simp only[ZZ]at h;cases hr:ZD P s r with
  |none=>rw[hr]at h;cases h
  |some v=>rw[hr]at h;simp only at h;cases Ba:ZZ P s rs with
   |none=>rw[Ba]at h;cases h
   |some vs1=>
    rw[Ba]at h;obtain rfl:=Option.some.inj h;obtain⟨TB,h1,h2⟩:=LB hA hI rs vs1 Ba;have RW: ∃v',(BK a.tmps r).run P w= .ok v' w/\VR S L v v':=by cases r with
     |tmp t=>exact⟨_,rfl,(hA.tmp t v hr).2⟩
     |cell c t=>simp only[ZD]at hr;cases hc:s.tm.get c with|none=>rw[hc]at hr;cases hr|some x=>rw[hc]at hr;exact E8 hI hr (hA.tmp c x hc).2
    obtain⟨v',h3,h4⟩:=RW;refine⟨v'::TB,?_,.cons h4 h2⟩;rw[List.mapM_cons];simp only[Sem.run_bind,h3,Result.andThen_ok,h1,Sem.run_pure]
theorem Rr{Df:List Deferred}{B:Nat}{S:Nat->Prop}{L:Nat->Loc}{w:World}{P:Program}{s:St}{a:Act}(hA:AI Df S L s.k s.tm a)(hI:Inv B S L s.H w){fn:Func}{vs:List Value}(h:ZZ P s fn.results.toList=some vs): ∃v',(results fn a.tmps).run P w= .ok v' w/\VR S L (Yb vs) v':=by
 obtain⟨TB,h1,h2⟩:=LB (P:=P) hA hI _ _ h;have h3:(results fn a.tmps).run P w= .ok (if h:TB.toArray.size=1 then TB.toArray[0]else .tuple TB.toArray) w:=by rw[BJ,Array.mapM_eq_mapM_toList];simp only[Sem.run_bind,Sem.run_map,h1,Result.andThen_ok,Sem.run_pure]
 refine⟨_,h3,?_⟩;match vs,TB,h2 with
  |[v],[v'],h2=>exact h2.2 0 v v' rfl rfl
  |[],[],h2=>exact .tuple _ _ rfl (fun k v v' h=>by simp at h)
  |v::u::r,v'::u'::r',h2=>
   have e: ¬ ((v'::u'::r').toArray.size=1):=by simp
   rw[dif_neg e];exact .tuple _ _ (by simpa using h2.1) (fun k x y hx hy=>h2.2 k x y (by simpa using hx) (by simpa using hy))
  |[],_::_,h2=>have:=h2.1;simp at this
  |[v],[],h2=>have:=h2.1;simp at this
  |[v],_::_::_,h2=>have:=h2.1;simp at this
  |_::_::_,[],h2=>have:=h2.1;simp at this
  |_::_::_,[_],h2=>have:=h2.1;simp at this
section
variable {P : Program} {C : Cfg} {B : Nat}
theorem I9{S:Nat->Prop}{L:Nat->Loc}{tm:Tr Value}{a:Act}{c:Call}{g:FuncId}{args:List Value}(hx: ∀x∈c.operands,∀u,Y1 C tm x=some u->VR S L u (a.eval x))(h:ZI C tm c=some (g,args))(ty:TypeId): ∃Oy cs':Array Value,∃UM:List Value,(∀w,(resolve a.eval c ty).run P w= .ok { target:= .fn (.func g) cs',args:=Oy++UM.toArray } w)/\UP S L args (Oy.toList++UM++cs'.toList):=by
 obtain⟨callee,VN,j8⟩:=c;unfold ZI at h;cases callee<;>simp only at h<;>first|(cases h;done)|skip
 rename_i f;split at h<;>first|(cases h;done)|skip
 rename_i fv h1;split at h<;>first|(cases h;done)|skip
 rename_i g' fs cs xs h3 h4;injection h with h;injection h with e1 e2;subst e1;subst e2;have hf:=hx f (by simp[Call.operands]) _ h1;have sF:=SJ (ρ:=a.eval) (fun x qY u h=>hx x (by simp only[Call.operands,Array.mem_append];exact .inr (by simpa using qY)) u h) h4;generalize mX:a.eval f=f' at hf;unfold ZT at h3;split at h3<;>first|(cases h3;done)|skip
 rename_i g0 fs0 WA;injection h3 with h3;injection h3 with h5 h6;injection h6 with h6 h7;subst h5;subst h6;subst h7;cases hf with
  |func _ _ Oy _ cs' e1 q1 e2 q2=>
   have Oa:UP S L fs0.toList Oy.toList:=⟨by simpa using e1,fun k x y hx hy=>q1 k x y (by simpa using hx) (by simpa using hy)⟩;have UN:UP S L WA.toList cs'.toList:=⟨by simpa using e2,fun k x y hx hy=>q2 k x y (by simpa using hx) (by simpa using hy)⟩;refine⟨Oy,cs',VN.toList.map a.eval,fun w=>?_,(Oa.append sF).append UN⟩;have e:VN.map a.eval=(VN.toList.map a.eval).toArray:=by apply Array.ext';simp
   simp[resolve,mX,Deferred.ofValue,e]
theorem Jf{Df:List Deferred}{call Lt:FuncId->List Value->AH->Option (Value×AH)}(XZ:Ue P C B call)(mZ:Gm P C B Lt){ops:Array Oper}{Q:Exit->Act->World->Prop} : ∀(l:List Oper)(k:Nat)(s:St)(ex:Ex)(s':St)(S:Nat->Prop)(L:Nat->Loc)(a:Act)(w:World),GO C S L->(∀j,l[j]?=ops[k+j]?)->SR P C call Lt ops l s=some (ex,s')->AI Df S L s.k s.tm a->Inv B S L s.H w->(∀e a' w',Rw Df B S L s.H w ex s' e a' w'->Q e a' w')->wpOps P ops Q (List.range' k l.length) a w
 |[],k,s,ex,s',S,L,a,w,hG,hl,h,hA,hI,hQ=>by cases h
 |o::rest,k,s,ex,s',S,L,a,w,hG,hl,h,hA,hI,hQ=>by
  have h0:ops[k]?=some o:=by simpa using(hl 0).symm
  have Ng: ∀j,rest[j]?=ops[k+1+j]?:=fun j=>by have:=hl (j+1);simpa[Nat.add_assoc,Nat.add_comm 1 j]using this
  rw[List.length_cons,List.range'_succ,wpOps_cons];unfold wpOp;rw[h0];dsimp only;simp only[SR]at h;split at h<;>first|(cases h;done)|skip
  ·rename_i hw;rw[US hw (hA.guard o),if_pos rfl];split at h
   ·rename_i v H1 hp;injection h with h;injection h with e1 e2;subst e1;subst e2;refine .inl ?_;unfold Oper.wp;unfold Yk at hp;split at hp<;>first|(cases hp;done)|skip
    ·rename_i x Xb;split at hp<;>first|(cases hp;done)|skip
     rename_i t u hx;injection hp with hp;injection hp with e1 e2;subst e1;subst e2;have hv:=Lf hG hA hx;generalize Ni:a.eval x=x' at hv;have RB:(execOp a.eval o).run P w= .halt (.panic x') w:=by obtain⟨dst,op,ty,pos,after,guard⟩:=o;simp only at Xb;subst Xb;cases hv with|iface _ _ u' hu=>simp[execOp,Ni,Instr.panic]
     rw[RB];exact hQ _ a w ⟨x',rfl,L,hA.mono (fun _ h=> .inl h) (fun _ _=>rfl),hI.mono (fun _ h=> .inl h) (fun i h=>hI.bd i (Xw h)),Fr.refl hI,hv.mono (fun _ h=> .inl h) (fun _ _=>rfl)⟩
    ·rename_i c Xb;split at hp<;>first|(cases hp;done)|skip
     rename_i g args hd;obtain⟨dst,op,ty,pos,after,guard⟩:=o;simp only at Xb;subst Xb;obtain⟨Oy,cs',UM,h2,h3⟩:=I9 (P:=P) (fun x _ u hx=>Lf hG hA hx) hd ty;obtain⟨h4,h5⟩:=mZ g args s.H v H1 hp S L w _ hG hI h3;have e:Oy++UM.toArray++cs'=(Oy.toList++UM++cs'.toList).toArray:=by apply Array.ext';simp
     have RB:(execOp a.eval { dst,op:=Op.call c,type:=ty,pos,after,guard }).run P w= .ok (.enter g (Oy.toList++UM++cs'.toList).toArray) w:=by simp only[execOp,Sem.run_bind,h2,Result.andThen_ok,invoke];rw[e,h4]
     rw[RB];refine Calls.mono h5 fun e w' ⟨v',he,hg⟩=>?_;subst he;obtain⟨L1,g1,g2,g3⟩:=hg;exact hQ _ a w' ⟨v',rfl,L1,hA.mono (fun _ h=> .inl h) g2.agree,g1,g2,g3⟩
   ·split at h<;>first|(cases h;done)|skip
    rename_i v H1 Xb;split at h<;>first|(cases h;done)|skip
    rename_i s1 YL;refine .inl ((WW XZ hG hI (fun x _ u hx=>Lf hG hA hx) Xb).wp fun v' w1 EL=>?_);obtain⟨L1,g1,g2,g3⟩:=EL;obtain⟨e1,e2,_⟩:=Xy YL;subst e1;refine Jf XZ mZ rest (k+1) s1 ex s' _ L1 _ w1 (hG.mono (fun _ h=> .inl h) g2.agree) Ng h (hA.put (fun _ h=> .inl h) g2.agree g3 YL) g1 fun e a' w' hd=>hQ e a' w' (hd.trans hI g1 g2)
  ·rename_i hw;rw[US hw (hA.guard o),if_neg (by simp)];split at h<;>first|(cases h;done)|skip
   rename_i s1 YL;obtain⟨e1,e2,_⟩:=Xy YL;refine Jf XZ mZ rest (k+1) s1 ex s' S L _ w hG Ng h (hA.put (fun _ h=>h) (fun _ _=>rfl) PC YL) (by rw[e1];exact hI) fun e a' w' hd=>hQ e a' w' (by rw[e1]at hd;exact hd)
end
theorem aj{next:Act->World->Prop}{Q:Exit->Act->World->Prop}{e:Exit}{a:Act}{w:World}(h:e≠ .normal)(hQ:Q e a w):Exit.then next Q e a w:=by cases e<;>first|exact absurd rfl h|exact hQ
theorem oi{P:Program}{C:Cfg}{B:Nat}(hC:CfgOk P C){ih:Lv}(Cm:LvOk P C B ih)(hcO:P3 P C B (Wa P C ih)):dJ P C B (X5 P C ih):=by
 have XZ:Ue P C B (YC P C ih):=hcO.ret;have mZ:Gm P C B (XP P C ih):=hcO.pan;have ih:=Cm.code;intro c s ex s' h Df S L a w hG hA hI Q hQ;cases c<;>simp only[X5]at h<;>first|(cases h;done)|skip
 case skip=>injection h with h;injection h with h1 h2;subst h1;subst h2;exact⟨wp_skip (hQ _ a w ⟨rfl,Td.refl hA hI⟩),fun _ e=>by cases e⟩
 case exit id=>injection h with h;injection h with h1 h2;subst h1;subst h2;exact⟨wp_exit (hQ _ a w ⟨rfl,Td.refl hA hI⟩),fun _ e=>by cases e⟩
 case ret=>injection h with h;injection h with h1 h2;subst h1;subst h2;exact⟨wp_ret (hQ _ a w ⟨rfl,Td.refl hA hI⟩),fun _ e=>by cases e⟩
 case region id ops draw=>
  split at h;·rename_i s1 hr;injection h with h;injection h with h1 h2;subst h1;subst h2;exact⟨Eh hC.mixed XZ hr hG hA hI (fun a' w' hd=>hQ _ a' w' ⟨rfl,hd⟩) id,fun _ e=>by cases e⟩
  ·cases draw with|true=>cases h|false=>rw[cond_false]at h;refine⟨wp_region ?_,fun _ e=>by cases e⟩;have:=Jf (Q:=Q) XZ mZ ops.toList 0 s ex s' S L a w hG (fun j=>by simp) h hA hI hQ;rw[List.range_eq_range'];simpa using this
 case seq x y=>
  refine⟨wp_seq ?_,fun _ e=>by cases e⟩;split at h;·rename_i s1 hx;refine(ih x s .norm s1 hx Df S L a w hG hA hI _ fun e a1 w1 hd=>?_).1;obtain⟨rfl,hd⟩:=hd;obtain⟨L1,d1,d2,d3⟩:=hd;exact(ih y s1 ex s' h Df _ L1 a1 w1 (hG.mono (fun _ h=> .inl h) d3.agree) d1 d2 Q fun e a2 w2 Ib=>hQ e a2 w2 (Ib.trans hI d2 d3)).1
  ·rename_i TQ;refine(ih x s ex s' h Df S L a w hG hA hI _ fun e a1 w1 hd=>aj (hd.not_normal fun e=>?_) (hQ e a1 w1 hd)).1;subst e;exact TQ s' h
 case cond x y z=>
  refine⟨?_,fun _ e=>by cases e⟩;split at h<;>first|(cases h;done)|skip
  rename_i t hx;have hv:=KT hG (fun t v _ hv=>(hA.tmp t v hv).2) hx;generalize Ni:a.eval x=u at hv;cases hv;refine wp_cond Ni ?_;have:=(ih (cond t y z) s ex s' h Df S L a w hG hA hI Q hQ).1;cases t<;>exact this
 case block id body=>
  refine⟨wp_block ?_,fun _ e=>by cases e⟩;split at h;·rename_i j s1 hb;refine(ih body s (.exit j) s1 hb Df S L a w hG hA hI _ fun e a1 w1 hd=>?_).1;obtain⟨rfl,hd⟩:=hd;cases hj:Nat.beq j id with
   |true=>rw[hj,cond_true]at h;injection h with h;injection h with h1 h2;subst h1;subst h2;have e:=Nat.eq_of_beq_eq_true hj;show Exit.inBlock id Q (.exit j) a1 w1;simp only[Exit.inBlock,e,if_true];exact hQ _ a1 w1 ⟨rfl,hd⟩
   |false=>
    rw[hj,cond_false]at h;injection h with h;injection h with h1 h2;subst h1;subst h2;have e:j≠id:=fun e=>by subst e;rw[Nat.beq_refl]at hj;cases hj
    show Exit.inBlock id Q (.exit j) a1 w1;simp only[Exit.inBlock,e,if_false];exact hQ _ a1 w1 ⟨rfl,hd⟩
  ·rename_i TQ;refine(ih body s ex s' h Df S L a w hG hA hI _ fun e a1 w1 hd=>?_).1;cases ex with|norm=>rw[hd.1];exact hQ _ a1 w1 ⟨rfl,hd.2⟩|exit j=>exact absurd h (TQ j s')|ret=>rw[hd.1];exact hQ _ a1 w1 ⟨rfl,hd.2⟩|pan v=>have:=hQ e a1 w1 hd;obtain⟨v',rfl,_⟩:=hd;exact this
 case loop body=>
  have key:LW P body Q a w:=by
   intro b k cs;split at h;·rename_i s1 hb;have h1:=(ih body s .norm s1 hb Df S L a w hG hA hI (fun e a1 w1=>e= .normal/\Td Df B S L s.H w s1 a1 w1) fun e a1 w1 hd=>hd).1;obtain⟨e,a1,w1,⟨rfl,hd⟩,gU⟩:=h1 b (.inLoop body::k) cs;obtain⟨L1,d1,d2,d3⟩:=hd;have h2:=(ih (.loop body) s1 ex s' h Df _ L1 a1 w1 (hG.mono (fun _ h=> .inl h) d3.agree) d1 d2 Q fun e a2 w2 Ib=>hQ e a2 w2 (Ib.trans hI d2 d3)).2 body rfl;obtain⟨e2,a2,w2,hq,yj⟩:=h2 b k cs;have yh:Steps P (lone (b.at a (.code body:: .inLoop body::k)) cs w) (lone (b.at a1 (.inLoop body::k)) cs w1):=gU;exact⟨e2,a2,w2,hq,.of_steps (yh.trans (.one step_inLoop)) yj⟩
   ·rename_i TQ;have h1:=(ih body s ex s' h Df S L a w hG hA hI (Exit.then (fun _ _=>False) Q) fun e a1 w1 hd=>aj (hd.not_normal fun e=>by subst e;exact TQ s' h) (hQ e a1 w1 hd)).1;obtain⟨e,a1,w1,hq,gU⟩:=h1 b (.inLoop body::k) cs;have hne':e≠ .normal:=fun e'=>by subst e';exact hq
    refine⟨e,a1,w1,?_,.pass (x:= .inLoop body) rfl (fun a w=> .inl hne') gU⟩;cases e<;>first|exact hq.elim|exact hq
  exact⟨key.wp,fun body' e=>by cases e;exact key⟩
section
variable {P : Program} {C : Cfg} {B : Nat}
theorem fH(hC:CfgOk P C){ih:Lv}(Cm:LvOk P C B ih){rv:Value}{cs cs':List Frame}(Mb:recoverD cs=some (rv,cs')\/(recoverD cs=none/\rv= .nilIface/\cs'=cs)): ∀(c:Code)(s:St)(ex:Ex)(s':St),Ei P C ih rv c s=some (ex,s')->(ex= .norm\/ex= .ret)/\ ∀S L a w,GO C S L->AI [] S L s.k s.tm a->Inv B S L s.H w-> ∀Q:Exit->Act->List Frame->World->Prop,(∀a' w',Td [] B S L s.H w s' a' w'->Q (Jh ex) a' cs' w')->c.wpS P Q a cs w:=by intro c;induction c with
 |seq x y zW zV=>intro s ex s' h;simp only[Ei]at h;cases hf:RE x with
  |true=>
   rw[hf,cond_true]at h;split at h<;>first|(cases h;done)|skip
   rename_i s1 h1;have hnr:ih.code y s1=some (ex,s')/\(ex= .norm\/ex= .ret):=by
    unfold Mn at h;split at h<;>first|(cases h;done)|skip
    ·rename_i s2 e;injection h with h;injection h with e1 e2;subst e1;subst e2;exact⟨e,.inl rfl⟩
    ·rename_i s2 e;injection h with h;injection h with e1 e2;subst e1;subst e2;exact⟨e,.inr rfl⟩
   refine⟨hnr.2,fun S L a w hG hA hI Q hQ=>wpS_seq ((zW s .norm s1 h1).2 S L a w hG hA hI _ fun a1 w1 hd=>?_)⟩;obtain⟨L1,d1,d2,d3⟩:=hd;show y.wpS P Q a1 cs' w1;refine wpS_of_wp (Cm.code y s1 ex s' hnr.1 [] _ L1 a1 w1 (hG.mono (fun _ h=> .inl h) d3.agree) d1 d2 _ fun e a2 w2 Ib=>?_).1;have Iq:=Ib.trans hI d2 d3;rcases hnr.2 with e1|e1<;>(subst e1;rw[Iq.1];exact hQ a2 w2 Iq.2)
  |false=>
   rw[hf,cond_false]at h;split at h<;>first|(cases h;done)|skip
   rename_i s1 h1;obtain⟨g1,g2⟩:=zV s1 ex s' h;refine⟨g1,fun S L a w hG hA hI Q hQ=>wpS_seq (wpS_of_wp (Cm.code x s .norm s1 h1 [] S L a w hG hA hI _ fun e a1 w1 hd=>?_).1)⟩;obtain⟨rfl,hd⟩:=hd;obtain⟨L1,d1,d2,d3⟩:=hd;exact g2 _ L1 a1 w1 (hG.mono (fun _ h=> .inl h) d3.agree) d1 d2 Q fun a2 w2 Ib=>hQ a2 w2 (Ib.trans hI d2 d3)
 |region id ops draw=>intro s ex s' h;simp only[Ei]at h;cases ho:Rn ops with
  |false=>rw[ho]at h;cases h
  |true=>
   rw[ho,cond_true]at h;split at h<;>first|(cases h;done)|skip
   rename_i s1 h1;injection h with h;injection h with e1 e2;subst e1;subst e2;refine⟨.inl rfl,fun S L a w hG hA hI Q hQ=>?_⟩;have sP:=ND (Q:=fun e a' w'=>e= .normal/\Td [] B S L s.H w s1 a' w') hC.mixed Cm.call h1 hG hA hI fun a' w' hd=>⟨rfl,hd⟩;exact BA hC.mixed (fun e a w q=>q.1) Mb (fun a w q=>hQ a w q.2) ho (fun e=>by subst e;exact Jg h1) sP id
 |_=>intro s ex s' h;cases h
theorem Jb{S:Nat->Prop}{L:Nat->Loc}{args args':List Value}(Hz:UP S L args args')(n:Nat):AI [] S L (args.length+(n-args.length)) (YU 0 args .nil) { tmps:=args'.toArray++Array.replicate (n-args'.toArray.size) undef,defers:=[] } :=by
 have hlen:=Hz.1;refine⟨rfl,by simp[hlen],fun t u hu=>?_⟩;rw[D8]at hu;split at hu
 ·rename_i ht;simp only[Nat.sub_zero]at hu;obtain⟨u',h1,h2⟩:=Hz.get hu;have YR:t<args'.length:=by omega
  refine⟨by omega,?_⟩;have:(args'.toArray++Array.replicate (n-args'.toArray.size) undef).getD t undef=u':=by rw[Array.getD_eq_getD_getElem?];rw[Array.getElem?_append,if_pos (by simpa using YR),List.getElem?_toArray,h1];rfl
  show VR S L u ((args'.toArray++Array.replicate (n-args'.toArray.size) undef).getD t undef);rw[this];exact h2
 ·cases hu
theorem Ga(hC:CfgOk P C){f:FuncId}{fn:Func}{c:Code}(ba:P.funcs[f]?=some fn)(SN:fn.body=some c)(args:Array Value)(w:World):(callFunc f args).run P w= .ok (.enter f args) w:=by
 have gG:=hC.names f fn ba (by rw[SN];rfl);have C8:fn.name≠ "runtime.NumGoroutine":=by simpa using gG
 simp[callFunc,ba,C8,SN]
def Vb:FrameMode->FrameMode| .panicking [{ v:=v,recovered:=false,goexit:=false }]=> .panicking [{ v:=v,recovered:=true }]|m=>m
theorem FX{u:FrameMode}(h:u= .returning\/ ∃v,u= .panicking [{ v:=v,recovered:=false }]):settle (Vb u)= .returning:=by rcases h with rfl|⟨v,rfl⟩<;>rfl
theorem cV{u:FrameMode}{rv:Value}(h:(u= .returning/\rv= .nilIface)\/u= .panicking [{ v:=rv,recovered:=false }])(c:Frame)(hc:c.mode=u)(cs:List Frame):recoverD (c::cs)=some (rv,{ c with mode:=Vb u } ::cs)\/(recoverD (c::cs)=none/\rv= .nilIface/\({ c with mode:=Vb u } ::cs)=c::cs):=by
 rcases h with⟨rfl,rfl⟩|rfl;·right;refine⟨by simp[recoverD,hc],rfl,?_⟩;rw[show Vb .returning=c.mode from hc.symm]
 ·left;simp[recoverD,hc];rfl
theorem fK(hC:CfgOk P C){ih:Lv}(Cm:LvOk P C B ih){g:FuncId}{args:List Value}{rv:Value}{H H':AH}(h:Py P C ih g args rv H=some H'){S:Nat->Prop}{L:Nat->Loc}{w:World}{args':List Value}(hG:GO C S L)(hI:Inv B S L H w)(ha:UP S L args args'){u:FrameMode}(hu:(u= .returning/\rv= .nilIface)\/u= .panicking [{ v:=rv,recovered:=false }]): ∃fn,P.funcs[g]?=some fn/\fn.body.isSome=true/\CallsD P g args'.toArray u w fun e u' w'=>(∃v,e= .returned v)/\u'=Vb u/\ ∃L',Inv B (ext S H.n H'.n) L' H' w'/\Fr S L H w L' H' w':=by
 unfold Py at h;split at h<;>first|(cases h;done)|skip
 rename_i fn ba;split at h<;>first|(cases h;done)|skip
 rename_i c SN;refine⟨fn,ba,by rw[SN];rfl,callsD_of_wpS ba SN fun c₀ cs hc=>?_⟩;have Mb:=cV hu c₀ hc cs;have fin: ∀(ex:Ex)(s1:St)(vs:List Value),(ex= .norm\/ex= .ret)->ZZ P s1 fn.results.toList=some vs->s1.H=H'-> ∀a' w',Td [] B S L H w s1 a' w'->bodyPostS P fn c₀ cs (fun e u' w'=>(∃v,e= .returned v)/\u'=Vb u/\ ∃L',Inv B (ext S H.n H'.n) L' H' w'/\Fr S L H w L' H' w') (Jh ex) a' ({ c₀ with mode:=Vb u } ::cs) w':=fun ex s1 vs hex hr he a' w' hd=>by obtain⟨L',d1,d2,d3⟩:=hd;obtain⟨v',r1,r2⟩:=Rr (P:=P) d1 d2 hr;subst he;have:a'.defers=[]/\ ∃u',({ c₀ with mode:=Vb u } ::cs)= { c₀ with mode:=u' } ::cs/\ ∃v,(results fn a'.tmps).run P w'= .ok v w'/\(∃v1,Ending.returned v= .returned v1)/\u'=Vb u/\ ∃L',Inv B (ext S H.n s1.H.n) L' s1.H w'/\Fr S L H w L' s1.H w':=⟨d1.defers,Vb u,rfl,v',r1,⟨v',rfl⟩,rfl,L',d2,d3⟩;rcases hex with rfl|rfl<;>exact this
 split at h<;>first|(cases h;done)|skip
 ·rename_i s1 he;split at h<;>first|(cases h;done)|skip
  rename_i vs hr;exact(fH hC Cm Mb c _ _ _ he).2 S L _ w hG (Jb ha fn.ntmps) hI _ (fin _ s1 vs (.inl rfl) hr (Option.some.inj h))
 ·rename_i s1 he;split at h<;>first|(cases h;done)|skip
  rename_i vs hr;exact(fH hC Cm Mb c _ _ _ he).2 S L _ w hG (Jb ha fn.ntmps) hI _ (fin _ s1 vs (.inr rfl) hr (Option.some.inj h))
theorem GU{c:Code}{a:Code}{ops:Array Oper}{o1:Oper}{dc:Call}{rest:Code}(h:Rf c=some (a,ops,o1,dc,rest)): ∃id ty pos after,c= .seq a (.seq (.region id ops false) rest)/\ops.toList=[o1,⟨none,.defer dc,ty,pos,after,none⟩]:=by
 unfold Rf at h;split at h<;>first|(cases h;done)|skip
 rename_i a' id ops' rest';unfold fZ at h;split at h<;>first|(cases h;done)|skip
 rename_i kW c' ty pos after EG;injection h with h;injection h with e1 h;injection h with e2 h;injection h with e3 h;injection h with e4 e5;subst e1;subst e2;subst e3;subst e4;subst e5;exact⟨id,ty,pos,after,rfl,EG⟩
theorem BN{ex:Ex}{rv:Value}(h:VG ex=some rv){Df:List Deferred}{S:Nat->Prop}{L:Nat->Loc}{H:AH}{w:World}{s':St}{e:Exit}{a':Act}{w':World}(hd:Rw Df B S L H w ex s' e a' w'):Td Df B S L H w s' a' w'/\(((e= .normal\/e= .ret)/\rv= .nilIface)\/e= .panic [{ v:=rv,recovered:=false }]):=by
 unfold VG at h;split at h<;>first|(cases h;done)|skip
 ·obtain rfl:=Option.some.inj h;exact⟨hd.2,.inl ⟨.inl hd.1,rfl⟩⟩
 ·obtain rfl:=Option.some.inj h;exact⟨hd.2,.inl ⟨.inr hd.1,rfl⟩⟩
 ·rename_i v;cases hp:plain v with
  |false=>rw[hp]at h;cases h
  |true=>
   rw[hp,cond_true]at h;split at h<;>first|(cases h;done)|skip
   obtain rfl:=Option.some.inj h;obtain⟨v',he,L',d1,d2,d3,d4⟩:=hd;obtain rfl:=jg hp d4;exact⟨⟨L',d1,d2,d3⟩,.inr he⟩
theorem Ak(hC:CfgOk P C){ih:Lv}(Cm:LvOk P C B ih):P3 P C B (Wa P C ih):=by intro f args H o H' h S L w args' hG hI Hz;unfold Wa at h;cases hfa:Nat.beq f C.add with
 |true=>
  rw[hfa,cond_true]at h;obtain rfl:=Nat.eq_of_beq_eq_true hfa;split at h<;>first|(cases h;done)|skip
  rename_i x y c hn;injection h with h;injection h with h1 h2;subst h1;subst h2;obtain⟨rfl,hc⟩:=LO hn Hz;obtain⟨fn,e1,e2,e3,e4,e5⟩:=hC.add;refine .inl ⟨_,_,w,rfl,?_,Good.same hI (v':= .tuple #[.int .u64 (Int.ofNat ((x+y+c)%18446744073709551616)),.int .u64 (Int.ofNat ((x+y+c)/18446744073709551616))]) (VI rfl)⟩;rw[run_callFunc_extern e1 e2 e3 e4 e5];show((add64Entry #[.int .u64 x,.int .u64 y,.int .u64 c]).run P w).andThen _=_;rw[nA x y c hc w];rfl
 |false=>rw[hfa,cond_false]at h;cases Oa:Nat.beq f C.sub with
  |true=>
   rw[Oa,cond_true]at h;obtain rfl:=Nat.eq_of_beq_eq_true Oa;split at h<;>first|(cases h;done)|skip
   rename_i x y c hn;injection h with h;injection h with h1 h2;subst h1;subst h2;obtain⟨rfl,hc⟩:=LO hn Hz;obtain⟨fn,e1,e2,e3,e4,e5⟩:=hC.sub;refine .inl ⟨_,_,w,rfl,?_,Good.same hI (v':= .tuple #[.int .u64 (Int.ofNat ((x+18446744073709551616-y-c)%18446744073709551616)),.int .u64 (cond (Nat.blt x (y+c)) 1 0)]) (VI rfl)⟩;rw[run_callFunc_extern e1 e2 e3 e4 e5];show((MY #[.int .u64 x,.int .u64 y,.int .u64 c]).run P w).andThen _=_;rw[od x y c hc w];rfl
  |false=>
   rw[Oa,cond_false]at h;split at h<;>first|(cases h;done)|skip
   rename_i fn ba;split at h<;>first|(cases h;done)|skip
   rename_i c SN;have hA:=Jb Hz fn.ntmps;right;refine⟨Ga hC ba SN _ w,?_⟩;unfold SW at h;split at h
   ·rename_i x a ops o1 dc rest hdf;obtain⟨id,ty,pos,after,rfl,EG⟩:=GU hdf;unfold Vo at h;split at h<;>first|(cases h;done)|skip
    rename_i s1 ha;split at h<;>first|(cases h;done)|skip
    rename_i s2 hl;split at h<;>first|(cases h;done)|skip
    rename_i g Lu hd;split at h<;>first|(cases h;done)|skip
    rename_i ex s3 hr;split at h<;>first|(cases h;done)|skip
    rename_i rv hrv;split at h<;>first|(cases h;done)|skip
    rename_i H4 hdef;split at h<;>first|(cases h;done)|skip
    rename_i vs UC;injection h with h;injection h with h1 h2;subst h1;subst h2;refine calls_of_wp_defers ba SN (wp_seq ((Cm.code a _ .norm s1 ha [] S L _ w hG hA hI _ fun e a1 w1 Ip=>?_).1));obtain⟨rfl,Ip⟩:=Ip;obtain⟨L1,d1,d2,d3⟩:=Ip;have UO:=hG.mono (S':=ext S H.n s1.H.n) (L':=L1) (fun _ h=> .inl h) d3.agree;refine wp_seq (wp_region ?_);have Wx:ops.size=2:=by have:=congrArg List.length EG;simpa using this
    have gC:ops[0]?=some o1:=by rw[<-Array.getElem?_toList,EG];rfl
    have yH:ops[1]?=some ⟨none,.defer dc,ty,pos,after,none⟩:=by rw[<-Array.getElem?_toList,EG];rfl
    rw[Wx];show wpOps P ops _ [0,1] a1 w1;have next: ∀(a2:Act)(w2:World),Td [] B (ext S H.n s1.H.n) L1 s1.H w1 s2 a2 w2->wpOps P ops (Exit.then (fun a' w'=>rest.wp P (bodyPostD P fn fun e w'=>Aa B S L H w (.ret (Yb vs)) H4 e w') a' w') (bodyPostD P fn fun e w'=>Aa B S L H w (.ret (Yb vs)) H4 e w')) [1] a2 w2:=fun a2 w2 Ib=>by
     have hd2':=Ib.trans hI d2 d3;obtain⟨L2,f1,f2,f3⟩:=hd2';have Kf:=hG.mono (S':=ext S H.n s2.H.n) (L':=L2) (fun _ h=> .inl h) f3.agree;rw[wpOps_cons];unfold wpOp;rw[yH];dsimp only;have R3:Region.wanted ⟨none,.defer dc,ty,pos,after,none⟩ (yielded ops a2.tmps)=true:=rfl;rw[R3,if_pos rfl];refine .inl ?_;obtain⟨Oy,cs',UM,q1,q2⟩:=I9 (P:=P) (fun x _ u hx=>Lf Kf f1 hx) hd ty;have RB:(execOp a2.eval ⟨none,.defer dc,ty,pos,after,none⟩).run P w2= .ok (.defer { target:= .fn (.func g) cs',args:=Oy++UM.toArray }) w2:=by simp only[execOp,Sem.run_bind,q1,Result.andThen_ok,Sem.run_pure]
     unfold Oper.wp;rw[RB];have f1d:=f1.defers;show rest.wp P _ { a2 with defers:= { target:= .fn (.func g) cs',args:=Oy++UM.toArray } ::a2.defers } w2;rw[f1d];have xV:AI [{ target:= .fn (.func g) cs',args:=Oy++UM.toArray }] (ext S H.n s2.H.n) L2 s2.k s2.tm { a2 with defers:=[{ target:= .fn (.func g) cs',args:=Oy++UM.toArray }] } :=⟨rfl,f1.size,f1.tmp⟩;refine(Cm.code rest s2 ex s3 hr _ _ L2 _ w2 Kf xV f2 _ fun e a3 w3 Iq=>?_).1;obtain⟨Iq,yJ⟩:=BN hrv Iq;obtain⟨L3,g1,g2,g3⟩:=Iq;rw[Ku f3.n g3.n]at g1 g2;have g30:=f3.trans hI f2 (fun _ h=> .inl h) g3;have xO:=hG.mono (S':=ext S H.n s3.H.n) (L':=L3) (fun _ h=> .inl h) g30.agree;have leave: ∀u:FrameMode,((u= .returning/\rv= .nilIface)\/u= .panicking [{ v:=rv,recovered:=false }])->Leaves P fn a3.tmps (fun e w'=>Aa B S L H w (.ret (Yb vs)) H4 e w') a3.defers u w3:=fun u hu=>by
      rw[g1.defers];have rG:UP (ext S H.n s3.H.n) L3 Lu (Oy.toList++UM++cs'.toList):=q2.mono (fun i hi=>by
       rcases hi with hi|⟨h1,h2⟩;·exact .inl hi
       ·exact .inr ⟨h1,Nat.lt_of_lt_of_le h2 g3.n⟩) (fun i hi=>g3.agree i hi);obtain⟨fng,sf,hbg,hcd⟩:=fK hC Cm hdef xO g2 rG hu;obtain⟨cg,hcg⟩: ∃cg,fng.body=some cg:=Option.isSome_iff_exists.mp hbg;have e:Oy++UM.toArray++cs'=(Oy.toList++UM++cs'.toList).toArray:=by apply Array.ext';simp
      refine leaves_cons (by rcases hu with⟨rfl,_⟩|rfl<;>simp) (f:=g) (args:=(Oy.toList++UM++cs'.toList).toArray) (by simp only[invoke];rw[e];exact Ga hC sf hcg _ w3) (hcd.mono fun e u' w4 hx=>?_);obtain⟨⟨v4,rfl⟩,rfl,L4,i1,i2⟩:=hx;show Leaves P fn a3.tmps _ [] (settle (Vb u)) w4;rw[FX (by rcases hu with⟨h,_⟩|h;exact .inl h;exact .inr ⟨_,h⟩)];rw[Ku g30.n i2.n]at i1;have g4:=g30.trans hI g2 (fun _ h=> .inl h) i2;have hA4:AI a3.defers (ext S H.n H4.n) L4 s3.k s3.tm a3:=⟨rfl,g1.size,fun t v ht=>⟨(g1.tmp t v ht).1,(g1.tmp t v ht).2.mono (fun i hi=>by
       rcases hi with hi|⟨h1,h2⟩;·exact .inl hi
       ·exact .inr ⟨h1,Nat.lt_of_lt_of_le h2 i2.n⟩) (fun i hi=>i2.agree i hi)⟩⟩;obtain⟨v',r1,r2⟩:=Rr (P:=P) (s:= { k:=s3.k,tm:=s3.tm,H:=H4 }) hA4 i1 UC;exact⟨v',r1,v',rfl,L4,i1,g4,r2⟩
     rcases yJ with⟨rfl|rfl,bj⟩|rfl;·exact leave .returning (.inl ⟨rfl,bj⟩)
     ·exact leave .returning (.inl ⟨rfl,bj⟩)
     ·exact leave _ (.inr rfl)
    rw[wpOps_cons];unfold wpOp;rw[gC];dsimp only;rw[Wt]at hl;split at hl<;>first|(cases hl;done)|skip
    ·rename_i hw;rw[US hw (d1.guard o1),if_pos rfl];split at hl<;>first|(cases hl;done)|skip
     rename_i v1 H1 Xb;split at hl<;>first|(cases hl;done)|skip
     rename_i s2' YL;rw[SV]at hl;obtain rfl:=Option.some.inj hl;refine .inl ((WW Cm.call UO d2 (fun x _ u hx=>Lf UO d1 hx) Xb).wp fun v' w2 EL=>?_);obtain⟨L2,p1,p2,p3⟩:=EL;obtain⟨e1,e2,_⟩:=Xy YL;refine next _ w2 ⟨L2,?_,by rw[e1];exact p1,by rw[e1];exact p2⟩;have:=d1.put (S':=ext (ext S H.n s1.H.n) s1.H.n H1.n) (L':=L2) (fun _ h=> .inl h) p2.agree p3 YL;rw[e1];exact this
    ·rename_i hw;rw[US hw (d1.guard o1),if_neg (by simp)];split at hl<;>first|(cases hl;done)|skip
     rename_i s2' YL;rw[SV]at hl;obtain rfl:=Option.some.inj hl;obtain⟨e1,e2,_⟩:=Xy YL;have:=d1.put (S':=ext S H.n s1.H.n) (L':=L1) (fun _ h=>h) (fun _ _=>rfl) PC YL;refine next _ w1 ?_;have hdd:=Td.refl (B:=B) (w:=w1) this (by rw[e1];exact d2);rw[e1]at hdd;exact hdd
   ·refine calls_of_wp ba SN ?_;unfold Eo at h;split at h<;>first|(cases h;done)|skip
    ·rename_i s1 EN;split at h<;>first|(cases h;done)|skip
     rename_i vs hr;injection h with h;injection h with h1 h2;subst h1;subst h2;refine(Cm.code c _ _ s1 EN [] S L _ w hG hA hI _ fun e a' w' hd=>?_).1;obtain⟨rfl,L',d1,d2,d3⟩:=hd;obtain⟨v',r1,r2⟩:=Rr (P:=P) d1 d2 hr;exact⟨d1.defers,v',r1,v',rfl,L',d2,d3,r2⟩
    ·rename_i s1 EN;split at h<;>first|(cases h;done)|skip
     rename_i vs hr;injection h with h;injection h with h1 h2;subst h1;subst h2;refine(Cm.code c _ _ s1 EN [] S L _ w hG hA hI _ fun e a' w' hd=>?_).1;obtain⟨rfl,L',d1,d2,d3⟩:=hd;obtain⟨v',r1,r2⟩:=Rr (P:=P) d1 d2 hr;exact⟨d1.defers,v',r1,v',rfl,L',d2,d3,r2⟩
    ·rename_i v s1 EN;injection h with h;injection h with h1 h2;subst h1;subst h2;refine(Cm.code c _ _ s1 EN [] S L _ w hG hA hI _ fun e a' w' hd=>?_).1;obtain⟨v',rfl,L',d1,d2,d3,d4⟩:=hd;exact⟨d1.defers,v',rfl,L',d2,d3,d4⟩
theorem qU(hC:CfgOk P C): ∀n,LvOk P C B (lv P C n)|0=>⟨(fun c s ex s' h=>by rw[Oe]at h;cases h),(fun f args H v H' h=>by rw[Oe]at h;cases h)⟩|n+1=>by have ih:=qU hC n;have hO:=Ak hC ih;rw[Od];exact⟨oi hC ih hO,hO.ret⟩
theorem HA{P:Program}{C:Cfg}{B:Nat}(hC:CfgOk P C){n:Nat}{f:FuncId}{args args':List Value}{H H':AH}{v:Value}(h:run P C n f args H=some (v,H')){fn:Func}(hf:P.funcs[f]?=some fn)(hb:fn.body.isSome=true){S:Nat->Prop}{L:Nat->Loc}{w:World}(hG:GO C S L)(hI:Inv B S L H w)(ha:UP S L args args'):Calls P f args'.toArray w fun e w'=> ∃v',e= .returned v'/\Good B S L H w v H' v' w':=by
 rcases(Ak hC (qU (B:=B) hC n)).ret f args H v H' h S L w args' hG hI ha with⟨v',w',h1,h2⟩|⟨_,h2⟩
 ·exfalso;have gG:=hC.names f fn hf hb;have C8:fn.name≠ "runtime.NumGoroutine":=by simpa using gG
  cases SN:fn.body with|none=>rw[SN]at hb;cases hb|some c=>rw[show(callFunc f args'.toArray).run P w= .ok (.enter f args'.toArray) w by simp[callFunc,hf,C8,SN]]at h1;injection h1 with h1 _;cases h1
 ·exact h2
theorem Good.below{B:Nat}{S:Nat->Prop}{L:Nat->Loc}{H H':AH}{w w':World}{v v':Value}(hI:Inv B S L H w)(h:Good B S L H w v H' v' w'):Below B w w':=by
 obtain⟨L',g1,g2,g3⟩:=h;refine⟨g2.os,g2.tape,g2.output,g2.size,fun k hk=>?_⟩;rcases g2.frame k (Nat.lt_of_lt_of_le hk hI.base)with h1|⟨i,sz,cs,h1,h2,_⟩;·exact h1
 ·have:=(hI.rw i sz cs h1).2.1;omega
#print axioms HA
end
end
end Go.Proofs.YtmkfecoeghokfaaGreatDoor.Ev
namespace Go.Proofs.YtmkfecoeghokfaaGreatDoor.Ev
open Go Go.RowKit
set_option linter.unusedVariables false
set_option linter.unusedSimpArgs false
noncomputable section
set_option maxHeartbeats 2000000
set_option maxRecDepth 20000
section
def II(f g:FuncId->List Value->AH->Option (Value×AH)):Prop:= ∀x a H r,f x a H=some r->g x a H=some r
def ELe(f g:Code->St->Option (Ex×St)):Prop:= ∀c s r,f c s=some r->g c s=some r
section
variable {P : Program} {C : Cfg} {f g : FuncId -> List Value -> AH -> Option (Value × AH)}
theorem VS(h:II f g){tm:Tr Value}{H:AH}{op:Op}{r:Value×AH}(he:Z6 P C f tm H op=some r):Z6 P C g tm H op=some r:=by
 cases op;case call c=>obtain⟨callee,VN,j8⟩:=c;cases callee with
  |value x=>
   simp only[Z6,Yg]at he⊢;split at he<;>first|(cases he;done)|skip
   split at he<;>first|(cases he;done)|skip
   exact h _ _ _ _ he
  |builtin b=>exact he
  |invoke x m=>
   simp only[Z6,Yg]at he⊢;split at he<;>first|(cases he;done)|skip
   split at he<;>first|(cases he;done)|skip
   exact h _ _ _ _ he
 all_goals exact he
theorem Sz(h:II f g){ops:Array Oper} : ∀(l:List Oper)(s s':St),W9 P C f ops l s=some s'->W9 P C g ops l s=some s'
 |[],s,s',he=>he
 |o::rest,s,s',he=>by
  rw[Wt]at he⊢;split at he<;>first|(cases he;done)|skip
  ·rename_i hw;split at he<;>first|(cases he;done)|skip
   rename_i v H Xb;split at he<;>first|(cases he;done)|skip
   rename_i s1 YL;simp only[VS h Xb,YL];exact Sz h rest s1 s' he
  ·rename_i hw;split at he<;>first|(cases he;done)|skip
   rename_i s1 YL;try simp only[YL]
   exact Sz h rest s1 s' he
theorem Lw(h:II f g){X:Xs}{ops:Array Oper}{i:Nat}{q:Bool}{ms:List (Nat×Nat×Nat)}{s:St}{o:Oper}{r:Value×AH×Bool}(he:Xv X P C f ops i q ms s o=some r):Xv X P C g ops i q ms s o=some r:=by unfold Xv at he⊢;cases hh:ZX o.op with
 |false=>
  rw[hh,cond_false]at he;rw[cond_false];split at he<;>first|(cases he;done)|skip
  rename_i v H2 Xb;simp only[VS h Xb];exact he
 |true=>rw[hh,cond_true]at he;rw[cond_true];cases hf:X.fv i with
  |some vf=>rw[hf]at he;exact he
  |none=>
   rw[hf]at he;simp only at he⊢;split at he<;>first|(cases he;done)|skip
   rename_i v H2 Xb;simp only[VS h Xb];exact he
theorem Sy(h:II f g){X:Xs}{ops:Array Oper} : ∀(l:List Oper)(i:Nat)(q:Bool)(ms:List (Nat×Nat×Nat))(s s':St),XO X P C f ops i q ms l s=some s'->XO X P C g ops i q ms l s=some s'
 |[],i,q,ms,s,s',he=>by simp only[XO]at he⊢;exact he
 |o::rest,i,q,ms,s,s',he=>by
  simp only[XO]at he⊢;split at he<;>first|(cases he;done)|skip
  ·rename_i hw;split at he<;>first|(cases he;done)|skip
   rename_i v H q' Xb;split at he<;>first|(cases he;done)|skip
   rename_i s1 YL;simp only[Lw h Xb,YL];exact Sy h rest _ _ _ s1 s' he
  ·rename_i hw;split at he<;>first|(cases he;done)|skip
   rename_i s1 YL;try simp only[YL]
   exact Sy h rest _ _ _ s1 s' he
theorem NG(h:II f g){ops:Array Oper} : ∀(l:List Oper)(i:Nat)(fs:List (Nat×Nat×Bool))(s s':St),Uc P C f ops i fs l s=some s'->Uc P C g ops i fs l s=some s'
 |[],i,fs,s,s',he=>by simp only[Uc]at he⊢;exact he
 |o::rest,i,fs,s,s',he=>by
  simp only[Uc]at he⊢;split at he<;>first|(cases he;done)|skip
  ·rename_i hw;split at he<;>first|(cases he;done)|skip
   ·rename_i hf;split at he<;>first|(cases he;done)|skip
    rename_i v H Xb;split at he<;>first|(cases he;done)|skip
    rename_i s1 YL;simp only[VS h Xb,YL];exact NG h rest _ _ s1 s' he
   ·rename_i b w hf;cases hc:V7 ((before ops).getD i 0) b w fs with
    |false=>rw[hc]at he;cases he
    |true=>
     rw[hc,cond_true]at he;rw[cond_true];split at he<;>first|(cases he;done)|skip
     rename_i v H Xb;split at he<;>first|(cases he;done)|skip
     rename_i s1 YL;simp only[VS h Xb,YL];exact NG h rest _ _ s1 s' he
  ·rename_i hw;split at he<;>first|(cases he;done)|skip
   rename_i s1 YL;try simp only[YL]
   exact NG h rest _ _ s1 s' he
theorem RH(h:II f g){ops:Array Oper} : ∀(l:List Oper)(s s':St),TL P C f ops l s=some s'->TL P C g ops l s=some s'
 |[],s,s',he=>he
 |o::rest,s,s',he=>by
  simp only[TL]at he⊢;split at he<;>first|(cases he;done)|skip
  ·cases hh:ZX o.op with
   |true=>rw[hh]at he;cases he
   |false=>
    rw[hh,cond_false]at he;rw[cond_false];split at he<;>first|(cases he;done)|skip
    rename_i v H Xb;split at he<;>first|(cases he;done)|skip
    rename_i s1 YL;simp only[VS h Xb,YL];exact RH h rest s1 s' he
  ·split at he<;>first|(cases he;done)|skip
   rename_i s1 YL;try simp only[YL]
   exact RH h rest s1 s' he
theorem CP(h:II f g){ops:Array Oper}{s s':St}(he:UG P C f ops s=some s'):UG P C g ops s=some s':=by unfold UG at he⊢;cases hc:Ru ops with
 |false=>rw[hc]at he;cases he
 |true=>
  rw[hc,cond_true]at he;rw[cond_true];split at he<;>first|(cases he;done)|skip
  rename_i s1 o1 oz FL gC yD;split at he<;>first|(cases he;done)|skip
  rename_i b _ AX;split at he<;>first|(cases he;done)|skip
  rename_i sz cs W2;split at he<;>first|(cases he;done)|skip
  rename_i v Hx HV;split at he<;>first|(cases he;done)|skip
  rename_i s3 zj;split at he<;>first|(cases he;done)|skip
  rename_i vz H4 Rc;simp only[RH h _ _ _ FL,gC,yD,AX,W2,VS h HV,Sy h _ _ _ _ _ _ zj,VS h Rc];exact he
theorem Ri(h:II f g){ops:Array Oper}{draw:Bool}{s s':St}(he:YA P C f ops draw s=some s'):YA P C g ops draw s=some s':=by unfold YA at he⊢;cases hb:(draw&&Vs ops)with
 |true=>rw[hb,cond_true]at he;rw[cond_true];cases hr:UX ops with|false=>rw[hr]at he;cases he|true=>rw[hr,cond_true]at he;rw[cond_true];exact NG h _ _ _ _ _ he
 |false=>rw[hb,cond_false]at he;rw[cond_false];cases hs:(draw&&isSplit C ops)with
  |true=>rw[hs,cond_true]at he;rw[cond_true];exact CP h he
  |false=>rw[hs,cond_false]at he;rw[cond_false];unfold Va at he⊢;cases draw with
   |false=>rw[cond_false]at he⊢;exact Sz h _ _ _ he
   |true=>rw[cond_true]at he⊢;cases hr:UX ops with|false=>rw[hr]at he;cases he|true=>rw[hr,cond_true]at he;rw[cond_true];exact Sy h _ _ _ _ _ _ he
theorem O8{ops:Array Oper}{s:St} :YA P C f ops false s=W9 P C f ops ops.toList s:=by unfold YA Va;simp
end
structure LLe (u v : Lv) : Prop where
  code : ELe u.code v.code
  call : II u.call v.call
section
variable {P : Program} {C : Cfg} {u v : Lv}
theorem fI(h:LLe u v){rv:Value} : ∀(c:Code)(s:St)(r:Ex×St),Ei P C u rv c s=some r->Ei P C v rv c s=some r:=by intro c;induction c with
 |seq x y zW zV=>intro s r he;simp only[Ei]at he⊢;cases hf:RE x with
  |true=>
   rw[hf,cond_true]at he;rw[cond_true];split at he<;>first|(cases he;done)|skip
   rename_i s1 h1;rw[zW _ _ h1];simp only;unfold Mn at he⊢;split at he<;>first|(cases he;done)|skip
   ·rename_i s2 e;rw[h.code _ _ _ e];exact he
   ·rename_i s2 e;rw[h.code _ _ _ e];exact he
  |false=>
   rw[hf,cond_false]at he;rw[cond_false];split at he<;>first|(cases he;done)|skip
   rename_i s1 h1;rw[h.code _ _ _ h1];exact zV _ _ he
 |region id ops draw=>intro s r he;simp only[Ei]at he⊢;cases ho:Rn ops with
  |false=>rw[ho]at he;cases he
  |true=>
   rw[ho,cond_true]at he;rw[cond_true];split at he<;>first|(cases he;done)|skip
   rename_i s1 h1;rw[Ri h.call h1];exact he
 |_=>intro s r he;cases he
theorem fO(h:LLe u v){g:FuncId}{args:List Value}{rv:Value}{H H':AH}(he:Py P C u g args rv H=some H'):Py P C v g args rv H=some H':=by
 unfold Py at he⊢;split at he<;>first|(cases he;done)|skip
 split at he<;>first|(cases he;done)|skip
 split at he<;>first|(cases he;done)|skip
 ·rename_i hc;rw[fI h _ _ _ hc];exact he
 ·rename_i hc;rw[fI h _ _ _ hc];exact he
theorem Im(h:LLe u v){fn:Func}{a:Code}{ops:Array Oper}{o1:Oper}{c:Call}{rest:Code}{s0:St}{r:Out×AH}(he:Vo P C u fn a ops o1 c rest s0=some r):Vo P C v fn a ops o1 c rest s0=some r:=by
 unfold Vo at he⊢;split at he<;>first|(cases he;done)|skip
 rename_i h1;rw[h.code _ _ _ h1];simp only;split at he<;>first|(cases he;done)|skip
 rename_i h2;rw[Sz h.call _ _ _ h2];simp only;split at he<;>first|(cases he;done)|skip
 rename_i h3;split at he<;>first|(cases he;done)|skip
 rename_i h4;rw[h.code _ _ _ h4];simp only;split at he<;>first|(cases he;done)|skip
 rename_i h5;split at he<;>first|(cases he;done)|skip
 rename_i h6;rw[fO h h6];exact he
theorem aJ(h:LLe u v){fn:Func}{c:Code}{s0:St}{r:Out×AH}(he:SW P C u fn c s0=some r):SW P C v fn c s0=some r:=by
 unfold SW at he⊢;split at he;·exact Im h he
 ·cases hc:u.code c s0 with|none=>rw[hc]at he;cases he|some x=>rw[hc]at he;rw[h.code _ _ _ hc];exact he
theorem Qj(h:LLe u v)(x:FuncId)(a:List Value)(H:AH)(r:Out×AH)(he:Wa P C u x a H=some r):Wa P C v x a H=some r:=by unfold Wa at he⊢;cases h1:Nat.beq x C.add with
 |true=>rw[h1,cond_true]at he;rw[cond_true];exact he
 |false=>rw[h1,cond_false]at he;rw[cond_false];cases h2:Nat.beq x C.sub with
  |true=>rw[h2,cond_true]at he;rw[cond_true];exact he
  |false=>
   rw[h2,cond_false]at he;rw[cond_false];split at he<;>first|(cases he;done)|skip
   split at he<;>first|(cases he;done)|skip
   exact aJ h he
theorem V3(h:LLe u v):II (YC P C u) (YC P C v):=fun x a H r he=>by obtain⟨w,H'⟩:=r;have:=Qj h _ _ _ _ (QR he);unfold YC;rw[this];rfl
theorem CQ(h:LLe u v):II (XP P C u) (XP P C v):=fun x a H r he=>by obtain⟨w,H'⟩:=r;have:=Qj h _ _ _ _ (QX he);unfold XP;rw[this];rfl
theorem nO(h:LLe u v){x:FuncId}{a:List Value}{H:AH}{r:Value×AH}(he:YC P C u x a H=some r):XP P C v x a H=none:=by obtain⟨w,H'⟩:=r;have:=Qj h _ _ _ _ (QR he);unfold XP;rw[this];rfl
theorem nT(h:LLe u v){x:FuncId}{a:List Value}{H:AH}{r:Value×AH}(he:XP P C u x a H=some r):YC P C v x a H=none:=by obtain⟨w,H'⟩:=r;have:=Qj h _ _ _ _ (QX he);unfold YC;rw[this];rfl
theorem NH{f:FuncId->List Value->AH->Option (Value×AH)}{tm:Tr Value}{H:AH}{c:Call}{g:FuncId}{args:List Value}(h:ZI C tm c=some (g,args)):Yg P C f tm H c=f g args H:=by
 obtain⟨callee,VN,j8⟩:=c;unfold ZI at h;cases callee<;>simp only at h<;>first|(cases h;done)|skip
 split at h<;>first|(cases h;done)|skip
 rename_i fv h1;split at h<;>first|(cases h;done)|skip
 rename_i h3 h4;injection h with h;injection h with e1 e2;subst e1;subst e2;simp only[Yg,h1,h3,h4]
theorem Nu(h:LLe u v){tm:Tr Value}{H:AH}{op:Op}{r:Value×AH}(he:Z6 P C (YC P C u) tm H op=some r):Yk C (XP P C v) tm H op=none:=by
 cases op;case call c=>simp only[Yk];cases hd:ZI C tm c with|none=>rfl|some x=>obtain⟨g,args⟩:=x;simp only[Z6]at he;rw[NH hd]at he;exact nO h he
 case panic x=>cases he
 all_goals rfl
theorem aH(h:LLe u v){tm:Tr Value}{H:AH}{op:Op}{r:Value×AH}(he:Yk C (XP P C u) tm H op=some r):Z6 P C (YC P C v) tm H op=none:=by
 cases op;case call c=>simp only[Yk]at he;cases hd:ZI C tm c with|none=>rw[hd]at he;cases he|some x=>obtain⟨g,args⟩:=x;rw[hd]at he;simp only[Z6];rw[NH hd];exact nT h he
 case panic x=>rfl
 all_goals cases he
theorem jf(h:LLe u v){tm:Tr Value}{H:AH}{op:Op}{r:Value×AH}(he:Yk C (XP P C u) tm H op=some r):Yk C (XP P C v) tm H op=some r:=by
 cases op;case call c=>simp only[Yk]at he⊢;cases hd:ZI C tm c with|none=>rw[hd]at he;cases he|some x=>rw[hd]at he;exact CQ h _ _ _ _ he
 case panic x=>exact he
 all_goals cases he
theorem Pz(h:LLe u v){ops:Array Oper} : ∀(l:List Oper)(s:St)(r:Ex×St),SR P C (YC P C u) (XP P C u) ops l s=some r->SR P C (YC P C v) (XP P C v) ops l s=some r/\W9 P C (YC P C v) ops l s=none
 |[],s,r,he=>by cases he
 |o::rest,s,r,he=>by
  rw[Wt];simp only[SR]at he⊢;split at he<;>first|(cases he;done)|skip
  ·rename_i hw;split at he;·rename_i v1 H1 hp;rw[jf h hp];simp only[aH h hp];exact⟨he,trivial⟩
   ·rename_i hp;split at he<;>first|(cases he;done)|skip
    rename_i v1 H1 Xb;split at he<;>first|(cases he;done)|skip
    rename_i s1 YL;rw[Nu h Xb];simp only[VS (V3 h) Xb,YL];exact Pz h rest s1 r he
  ·rename_i hw;split at he<;>first|(cases he;done)|skip
   rename_i s1 YL;try simp only[YL]
   exact Pz h rest s1 r he
theorem Hj(h:LLe u v):ELe (X5 P C u) (X5 P C v):=by
 intro c s r he;cases c<;>simp only[X5]at he⊢ <;>first|exact he|skip
 ·rename_i id ops draw;split at he;·rename_i s1 hr;rw[Ri (V3 h) hr];exact he
  ·cases draw with|true=>cases he|false=>rw[cond_false]at he;obtain⟨h1,h2⟩:=Pz h _ _ _ he;rw[O8,h2];exact h1
 ·split at he;·rename_i s1 hr;rw[h.code _ _ _ hr];exact h.code _ _ _ he
  ·rename_i hn;rw[h.code _ _ _ he];split;·rename_i s1 e;exact absurd (he.trans e) (by intro e';exact hn s1 e')
   ·rfl
 ·split at he<;>first|(cases he;done)|skip
  exact h.code _ _ _ he
 ·split at he;·rename_i j s1 hr;rw[h.code _ _ _ hr];exact he
  ·rename_i hn;rw[h.code _ _ _ he];split;·rename_i j s1 e;exact absurd (he.trans e) (by intro e';exact hn j s1 e')
   ·rfl
 ·split at he;·rename_i s1 hr;rw[h.code _ _ _ hr];exact h.code _ _ _ he
  ·rename_i hn;rw[h.code _ _ _ he];split;·rename_i s1 e;exact absurd (he.trans e) (by intro e';exact hn s1 e')
   ·rfl
end
theorem Q2{P:Program}{C:Cfg} : ∀{n m:Nat},n<=m->LLe (lv P C n) (lv P C m)|0,m,_=>⟨(fun c s r h=>by rw[Oe]at h;cases h),(fun x a H r h=>by rw[Oe]at h;cases h)⟩|n+1,0,h=>by omega|n+1,m+1,h=>by have ih:=Q2 (P:=P) (C:=C) (show n<=m by omega);rw[Od,Od];exact⟨Hj ih,V3 ih⟩
theorem pU{P:Program}{C:Cfg}{n m:Nat}(h:n<=m):ELe (ev P C n) (ev P C m):=(Q2 h).code
open Classical in def Cg(P:Program)(C:Cfg)(c:Code)(s:St):Option (Ex×St):=if h: ∃n r,ev P C n c s=some r then some (Classical.choose (Classical.choose_spec h))else none
open Classical in def ZY(P:Program)(C:Cfg)(f:FuncId)(args:List Value)(H:AH):Option (Value×AH):=if h: ∃n r,(lv P C n).call f args H=some r then some (Classical.choose (Classical.choose_spec h))else none
theorem fJ{P:Program}{C:Cfg}{n:Nat}{c:Code}{s:St}{r:Ex×St}(h:ev P C n c s=some r):Cg P C c s=some r:=by have hx: ∃n r,ev P C n c s=some r:=⟨n,r,h⟩;unfold Cg;rw[dif_pos hx];have h2:=Classical.choose_spec (Classical.choose_spec hx);have a:=pU (Nat.le_max_left n (Classical.choose hx)) c s r h;have b:=pU (Nat.le_max_right n (Classical.choose hx)) c s _ h2;rw[a]at b;exact b.symm
theorem Eg{P:Program}{C:Cfg}{c:Code}{s:St}{r:Ex×St}(h:Cg P C c s=some r): ∃n,ev P C n c s=some r:=by
 unfold Cg at h;split at h;·rename_i hx;obtain rfl:=Option.some.inj h;exact⟨_,Classical.choose_spec (Classical.choose_spec hx)⟩
 ·cases h
theorem F8{P:Program}{C:Cfg}{n:Nat}{f:FuncId}{args:List Value}{H:AH}{r:Value×AH}(h:(lv P C n).call f args H=some r):ZY P C f args H=some r:=by have hx: ∃n r,(lv P C n).call f args H=some r:=⟨n,r,h⟩;unfold ZY;rw[dif_pos hx];have h2:=Classical.choose_spec (Classical.choose_spec hx);have a:=(Q2 (Nat.le_max_left n (Classical.choose hx))).call _ _ _ r h;have b:=(Q2 (Nat.le_max_right n (Classical.choose hx))).call _ _ _ _ h2;rw[a]at b;exact b.symm
theorem NJ{P:Program}{C:Cfg}{f:FuncId}{args:List Value}{H:AH}{r:Value×AH}(h:ZY P C f args H=some r): ∃n,(lv P C n).call f args H=some r:=by
 unfold ZY at h;split at h;·rename_i hx;obtain rfl:=Option.some.inj h;exact⟨_,Classical.choose_spec (Classical.choose_spec hx)⟩
 ·cases h
def Rm(P:Program)(C:Cfg):Lv:=⟨Cg P C,ZY P C⟩
theorem Bv{P:Program}{C:Cfg}(n:Nat):LLe (lv P C n) (Rm P C):=⟨fun c s r h=>fJ h,fun x a H r h=>F8 h⟩
section
variable {P : Program} {C : Cfg} {F : FuncId -> List Value -> AH -> Option (Value × AH)} {G : Nat -> FuncId -> List Value -> AH -> Option (Value × AH)}
theorem SS(V4: ∀x a H r,F x a H=some r-> ∃n,G n x a H=some r)(XV: ∀{n m:Nat},n<=m->II (G n) (G m)){tm:Tr Value}{H:AH}{op:Op}{r:Value×AH}(he:Z6 P C (F) tm H op=some r): ∃n,Z6 P C (G n) tm H op=some r:=by
 cases op;case call c=>obtain⟨callee,VN,j8⟩:=c;cases callee with
  |value x=>
   simp only[Z6,Yg]at he⊢;split at he<;>first|(cases he;done)|skip
   split at he<;>first|(cases he;done)|skip
   obtain⟨n,hn⟩:=V4 _ _ _ _ he;exact⟨n,hn⟩
  |builtin b=>exact⟨0,he⟩
  |invoke x m=>
   simp only[Z6,Yg]at he⊢;split at he<;>first|(cases he;done)|skip
   split at he<;>first|(cases he;done)|skip
   obtain⟨n,hn⟩:=V4 _ _ _ _ he;exact⟨n,hn⟩
 all_goals exact⟨0,he⟩
theorem Qm(V4: ∀x a H r,F x a H=some r-> ∃n,G n x a H=some r)(XV: ∀{n m:Nat},n<=m->II (G n) (G m)){ops:Array Oper} : ∀(l:List Oper)(s s':St),W9 P C (F) ops l s=some s'-> ∃n,W9 P C (G n) ops l s=some s'
 |[],s,s',he=>⟨0,he⟩
 |o::rest,s,s',he=>by
  rw[Wt]at he;split at he<;>first|(cases he;done)|skip
  ·rename_i hw;split at he<;>first|(cases he;done)|skip
   rename_i v H Xb;split at he<;>first|(cases he;done)|skip
   rename_i s1 YL;obtain⟨n1,h1⟩:=SS V4 XV Xb;obtain⟨n2,h2⟩:=Qm V4 XV rest s1 s' he;refine⟨max n1 n2,?_⟩;rw[Wt,hw];simp only[VS (XV (Nat.le_max_left n1 n2)) h1,YL];exact Sz (XV (Nat.le_max_right n1 n2)) _ _ _ h2
  ·rename_i hw;split at he<;>first|(cases he;done)|skip
   rename_i s1 YL;obtain⟨n2,h2⟩:=Qm V4 XV rest s1 s' he;refine⟨n2,?_⟩;rw[Wt,hw];try simp only[YL]
   exact h2
theorem GR(V4: ∀x a H r,F x a H=some r-> ∃n,G n x a H=some r)(XV: ∀{n m:Nat},n<=m->II (G n) (G m)){X:Xs}{ops:Array Oper}{i:Nat}{q:Bool}{ms:List (Nat×Nat×Nat)}{s:St}{o:Oper}{r:Value×AH×Bool}(he:Xv X P C (F) ops i q ms s o=some r): ∃n,Xv X P C (G n) ops i q ms s o=some r:=by unfold Xv at he⊢;cases hh:ZX o.op with
 |false=>
  rw[hh,cond_false]at he;simp only[cond_false];split at he<;>first|(cases he;done)|skip
  rename_i v H2 Xb;obtain⟨n,hn⟩:=SS V4 XV Xb;exact⟨n,by simp only[hn];exact he⟩
 |true=>rw[hh,cond_true]at he;simp only[cond_true];cases hf:X.fv i with
  |some vf=>rw[hf]at he;exact⟨0,he⟩
  |none=>
   rw[hf]at he;simp only at he;split at he<;>first|(cases he;done)|skip
   rename_i v H2 Xb;obtain⟨n,hn⟩:=SS V4 XV Xb;exact⟨n,by simp only[hn];exact he⟩
theorem Qk(V4: ∀x a H r,F x a H=some r-> ∃n,G n x a H=some r)(XV: ∀{n m:Nat},n<=m->II (G n) (G m)){X:Xs}{ops:Array Oper} : ∀(l:List Oper)(i:Nat)(q:Bool)(ms:List (Nat×Nat×Nat))(s s':St),XO X P C (F) ops i q ms l s=some s'-> ∃n,XO X P C (G n) ops i q ms l s=some s'
 |[],i,q,ms,s,s',he=>⟨0,by simp only[XO]at he⊢;exact he⟩
 |o::rest,i,q,ms,s,s',he=>by
  simp only[XO]at he⊢;split at he<;>first|(cases he;done)|skip
  ·rename_i hw;split at he<;>first|(cases he;done)|skip
   rename_i v H q' Xb;split at he<;>first|(cases he;done)|skip
   rename_i s1 YL;obtain⟨n1,h1⟩:=GR V4 XV Xb;obtain⟨n2,h2⟩:=Qk V4 XV rest _ _ _ s1 s' he;refine⟨max n1 n2,?_⟩;simp only[Lw (XV (Nat.le_max_left n1 n2)) h1,YL];exact Sy (XV (Nat.le_max_right n1 n2)) _ _ _ _ _ _ h2
  ·rename_i hw;split at he<;>first|(cases he;done)|skip
   rename_i s1 YL;obtain⟨n2,h2⟩:=Qk V4 XV rest _ _ _ s1 s' he;refine⟨n2,?_⟩;try simp only[YL]
   exact h2
theorem Qn{f g:FuncId->List Value->AH->Option (Value×AH)}{ops:Array Oper} : ∀(l:List Oper)(i:Nat)(fs:List (Nat×Nat×Bool))(s s':St),Uc P C f ops i fs l s=some s'->Uc P C g ops i fs l s=some s'
 |[],i,fs,s,s',he=>by simp only[Uc]at he⊢;exact he
 |o::rest,i,fs,s,s',he=>by
  have It: ∀tm H r x,WD C tm o.op=some x->Z6 P C f tm H o.op=some r->Z6 P C g tm H o.op=some r:=fun tm H r x hm Xb=>by
   cases e:o.op;case call c=>rw[e]at hm Xb;obtain⟨callee,VN,j8⟩:=c;cases callee with|value x=>simp[WD,ZX]at hm|builtin b=>exact Xb|invoke x m=>simp[WD,ZX]at hm
   all_goals(rw[e]at Xb;exact Xb)
  simp only[Uc]at he⊢;split at he<;>first|(cases he;done)|skip
  ·rename_i hw;split at he<;>first|(cases he;done)|skip
   ·rename_i hf;split at he<;>first|(cases he;done)|skip
    rename_i v H Xb;split at he<;>first|(cases he;done)|skip
    rename_i s1 YL;simp only[It _ _ _ _ hf Xb,YL];exact Qn rest _ _ s1 s' he
   ·rename_i b w hf;cases hc:V7 ((before ops).getD i 0) b w fs with
    |false=>rw[hc]at he;cases he
    |true=>
     rw[hc,cond_true]at he;rw[cond_true];split at he<;>first|(cases he;done)|skip
     rename_i v H Xb;split at he<;>first|(cases he;done)|skip
     rename_i s1 YL;simp only[It _ _ _ _ hf Xb,YL];exact Qn rest _ _ s1 s' he
  ·rename_i hw;split at he<;>first|(cases he;done)|skip
   rename_i s1 YL;try simp only[YL]
   exact Qn rest _ _ s1 s' he
theorem O9(V4: ∀x a H r,F x a H=some r-> ∃n,G n x a H=some r)(XV: ∀{n m:Nat},n<=m->II (G n) (G m)){ops:Array Oper} : ∀(l:List Oper)(s s':St),TL P C (F) ops l s=some s'-> ∃n,TL P C (G n) ops l s=some s'
 |[],s,s',he=>⟨0,he⟩
 |o::rest,s,s',he=>by
  simp only[TL]at he⊢;split at he<;>first|(cases he;done)|skip
  ·rename_i hw;cases hh:ZX o.op with
   |true=>rw[hh]at he;cases he
   |false=>
    rw[hh,cond_false]at he;split at he<;>first|(cases he;done)|skip
    rename_i v H Xb;split at he<;>first|(cases he;done)|skip
    rename_i s1 YL;obtain⟨n1,h1⟩:=SS V4 XV Xb;obtain⟨n2,h2⟩:=O9 V4 XV rest s1 s' he;refine⟨max n1 n2,?_⟩;simp only[cond_false,VS (XV (Nat.le_max_left n1 n2)) h1,YL];exact RH (XV (Nat.le_max_right n1 n2)) _ _ _ h2
  ·rename_i hw;split at he<;>first|(cases he;done)|skip
   rename_i s1 YL;obtain⟨n2,h2⟩:=O9 V4 XV rest s1 s' he;refine⟨n2,?_⟩;try simp only[YL]
   exact h2
theorem Ej(V4: ∀x a H r,F x a H=some r-> ∃n,G n x a H=some r)(XV: ∀{n m:Nat},n<=m->II (G n) (G m)){ops:Array Oper}{s s':St}(he:UG P C (F) ops s=some s'): ∃n,UG P C (G n) ops s=some s':=by unfold UG at he⊢;cases hc:Ru ops with
 |false=>rw[hc]at he;cases he
 |true=>
  rw[hc,cond_true]at he;simp only[cond_true];split at he<;>first|(cases he;done)|skip
  rename_i s1 o1 oz FL gC yD;split at he<;>first|(cases he;done)|skip
  rename_i b _ AX;split at he<;>first|(cases he;done)|skip
  rename_i sz cs W2;split at he<;>first|(cases he;done)|skip
  rename_i v Hx HV;split at he<;>first|(cases he;done)|skip
  rename_i s3 zj;split at he<;>first|(cases he;done)|skip
  rename_i vz H4 Rc;obtain⟨n1,h1⟩:=O9 V4 XV _ _ _ FL;obtain⟨n2,h2⟩:=SS V4 XV HV;obtain⟨n3,h3⟩:=Qk V4 XV _ _ _ _ _ _ zj;obtain⟨n4,h4⟩:=SS V4 XV Rc;have m1:n1<=n1+n2+n3+n4:=by omega
  have m2:n2<=n1+n2+n3+n4:=by omega
  have m3:n3<=n1+n2+n3+n4:=by omega
  have m4:n4<=n1+n2+n3+n4:=by omega
  refine⟨n1+n2+n3+n4,?_⟩;simp only[RH (XV m1) _ _ _ h1,gC,yD,AX,W2,VS (XV m2) h2,Sy (XV m3) _ _ _ _ _ _ h3,VS (XV m4) h4];exact he
theorem NF(V4: ∀x a H r,F x a H=some r-> ∃n,G n x a H=some r)(XV: ∀{n m:Nat},n<=m->II (G n) (G m)){ops:Array Oper}{draw:Bool}{s s':St}(he:YA P C (F) ops draw s=some s'): ∃n,YA P C (G n) ops draw s=some s':=by unfold YA at he⊢;cases hb:(draw&&Vs ops)with
 |true=>rw[hb,cond_true]at he;simp only[cond_true];cases hr:UX ops with|false=>rw[hr]at he;cases he|true=>rw[hr,cond_true]at he;exact⟨0,by rw[cond_true];exact Qn _ _ _ _ _ he⟩
 |false=>rw[hb,cond_false]at he;simp only[cond_false];cases hs:(draw&&isSplit C ops)with
  |true=>rw[hs,cond_true]at he;simp only[cond_true];exact Ej V4 XV he
  |false=>rw[hs,cond_false]at he;simp only[cond_false];unfold Va at he⊢;cases draw with
   |false=>rw[cond_false]at he;simp only[cond_false];exact Qm V4 XV _ _ _ he
   |true=>rw[cond_true]at he;simp only[cond_true];cases hr:UX ops with|false=>rw[hr]at he;cases he|true=>rw[hr,cond_true]at he;simp only[cond_true];exact Qk V4 XV _ _ _ _ _ _ he
end
section
variable {P : Program} {C : Cfg}
theorem WY{c:Code}{s:St}{r:Ex×St}(h:Cg P C c s=some r): ∃n,∀m,n<=m->(lv P C m).code c s=some r:=by obtain⟨n,hn⟩:=Eg h;exact⟨n,fun m hm=>(Q2 hm).code _ _ _ hn⟩
theorem Qv{n m:Nat}(h:n<=m):II (lv P C n).call (lv P C m).call:=(Q2 h).call
theorem nP{ops:Array Oper}{draw:Bool}{s s':St}(h:YA P C (ZY P C) ops draw s=some s'): ∃n,∀m,n<=m->YA P C (lv P C m).call ops draw s=some s':=by obtain⟨n,hn⟩:=NF (F:=ZY P C) (G:=fun n=>(lv P C n).call) (fun x a H r h=>NJ h) (fun h=>Qv h) h;exact⟨n,fun m hm=>Ri (Qv hm) hn⟩
theorem iO{ops:Array Oper}{l:List Oper}{s s':St}(h:W9 P C (ZY P C) ops l s=some s'): ∃n,∀m,n<=m->W9 P C (lv P C m).call ops l s=some s':=by obtain⟨n,hn⟩:=Qm (F:=ZY P C) (G:=fun n=>(lv P C n).call) (fun x a H r h=>NJ h) (fun h=>Qv h) _ _ _ h;exact⟨n,fun m hm=>Sz (Qv hm) _ _ _ hn⟩
theorem Ao{rv:Value} : ∀(c:Code)(s:St)(r:Ex×St),Ei P C (Rm P C) rv c s=some r-> ∃n,∀m,n<=m->Ei P C (lv P C m) rv c s=some r:=by intro c;induction c with
 |seq x y zW zV=>intro s r he;simp only[Ei]at he⊢;cases hf:RE x with
  |true=>
   rw[hf,cond_true]at he;simp only[cond_true];split at he<;>first|(cases he;done)|skip
   rename_i s1 h1;obtain⟨n1,e1⟩:=zW _ _ h1;unfold Mn at he⊢;split at he<;>first|(cases he;done)|skip
   ·rename_i s2 e;obtain⟨n2,e2⟩:=WY e;refine⟨max n1 n2,fun m hm=>?_⟩;rw[e1 m (by omega)];simp only[e2 m (by omega)];exact he
   ·rename_i s2 e;obtain⟨n2,e2⟩:=WY e;refine⟨max n1 n2,fun m hm=>?_⟩;rw[e1 m (by omega)];simp only[e2 m (by omega)];exact he
  |false=>
   rw[hf,cond_false]at he;simp only[cond_false];split at he<;>first|(cases he;done)|skip
   rename_i s1 h1;obtain⟨n1,e1⟩:=WY h1;obtain⟨n2,e2⟩:=zV _ _ he;refine⟨max n1 n2,fun m hm=>?_⟩;rw[e1 m (by omega)];exact e2 m (by omega)
 |region id ops draw=>intro s r he;simp only[Ei]at he⊢;cases ho:Rn ops with
  |false=>rw[ho]at he;cases he
  |true=>
   rw[ho,cond_true]at he;simp only[cond_true];split at he<;>first|(cases he;done)|skip
   rename_i s1 h1;obtain⟨n,hn⟩:=nP h1;exact⟨n,fun m hm=>by rw[hn m hm];exact he⟩
 |_=>intro s r he;cases he
theorem aI{g:FuncId}{args:List Value}{rv:Value}{H H':AH}(he:Py P C (Rm P C) g args rv H=some H'): ∃n,∀m,n<=m->Py P C (lv P C m) g args rv H=some H':=by
 unfold Py at he⊢;split at he<;>first|(cases he;done)|skip
 rename_i hf;split at he<;>first|(cases he;done)|skip
 rename_i hb;split at he<;>first|(cases he;done)|skip
 ·rename_i hc;obtain⟨n,hn⟩:=Ao _ _ _ hc;exact⟨n,fun m hm=>by simp only[hf,hb,hn m hm];exact he⟩
 ·rename_i hc;obtain⟨n,hn⟩:=Ao _ _ _ hc;exact⟨n,fun m hm=>by simp only[hf,hb,hn m hm];exact he⟩
theorem Je{fn:Func}{a:Code}{ops:Array Oper}{o1:Oper}{c:Call}{rest:Code}{s0:St}{r:Out×AH}(he:Vo P C (Rm P C) fn a ops o1 c rest s0=some r): ∃n,∀m,n<=m->Vo P C (lv P C m) fn a ops o1 c rest s0=some r:=by
 unfold Vo at he⊢;split at he<;>first|(cases he;done)|skip
 rename_i h1;split at he<;>first|(cases he;done)|skip
 rename_i h2;split at he<;>first|(cases he;done)|skip
 rename_i h3;split at he<;>first|(cases he;done)|skip
 rename_i h4;split at he<;>first|(cases he;done)|skip
 rename_i h5;split at he<;>first|(cases he;done)|skip
 rename_i h6;obtain⟨n1,e1⟩:=WY h1;obtain⟨n2,e2⟩:=iO h2;obtain⟨n3,e3⟩:=WY h4;obtain⟨n4,e4⟩:=aI h6;refine⟨max (max n1 n2) (max n3 n4),fun m hm=>?_⟩;simp only[e1 m (by omega),e2 m (by omega),h3,e3 m (by omega),h5,e4 m (by omega)];exact he
theorem CR{fn:Func}{c:Code}{s0:St}{r:Out×AH}(he:SW P C (Rm P C) fn c s0=some r): ∃n,∀m,n<=m->SW P C (lv P C m) fn c s0=some r:=by
 unfold SW at he⊢;split at he;·rename_i hd;obtain⟨n,hn⟩:=Je he;exact⟨n,fun m hm=>by simp only[hn m hm]⟩
 ·rename_i hd;cases hc:(Rm P C).code c s0 with|none=>rw[hc]at he;cases he|some x=>obtain⟨n,hn⟩:=WY hc;rw[hc]at he;exact⟨n,fun m hm=>by simp only[hn m hm];exact he⟩
theorem IA{x:FuncId}{a:List Value}{H:AH}{r:Out×AH}(he:Wa P C (Rm P C) x a H=some r): ∃n,∀m,n<=m->Wa P C (lv P C m) x a H=some r:=by unfold Wa at he⊢;cases h1:Nat.beq x C.add with
 |true=>rw[h1,cond_true]at he;exact⟨0,fun m _=>by rw[cond_true];exact he⟩
 |false=>rw[h1,cond_false]at he;simp only[cond_false];cases h2:Nat.beq x C.sub with
  |true=>rw[h2,cond_true]at he;exact⟨0,fun m _=>by rw[cond_true];exact he⟩
  |false=>
   rw[h2,cond_false]at he;simp only[cond_false];split at he<;>first|(cases he;done)|skip
   rename_i hf;split at he<;>first|(cases he;done)|skip
   rename_i hb;obtain⟨n,hn⟩:=CR he;exact⟨n,fun m hm=>hn m hm⟩
theorem Wj:ZY P C=YC P C (Rm P C):=by funext x a H;cases h:ZY P C x a H with
 |some r=>obtain⟨n,hn⟩:=NJ h;cases n with|zero=>rw[Oe]at hn;cases hn|succ n=>rw[Od]at hn;exact(V3 (Bv n) _ _ _ _ hn).symm
 |none=>cases h2:YC P C (Rm P C) x a H with
  |none=>rfl
  |some r=>
   obtain⟨v,H'⟩:=r;obtain⟨n,hn⟩:=IA (QR h2);have:(lv P C (n+1)).call x a H=some (v,H'):=by rw[Od];show YC P C (lv P C n) x a H=_;unfold YC;rw[hn n (Nat.le_refl _)];rfl
   rw[F8 this]at h;cases h
def MI(P:Program)(C:Cfg):FuncId->List Value->AH->Option (Value×AH):=XP P C (Rm P C)
theorem K0{f:FuncId}{args:List Value}{H:AH}{r:Value×AH}(he:ZY P C f args H=some r): ∃n,YC P C (lv P C n) f args H=some r:=by obtain⟨n,hn⟩:=NJ he;cases n with|zero=>rw[Oe]at hn;cases hn|succ n=>rw[Od]at hn;exact⟨n,hn⟩
theorem Wk(n:Nat):II (YC P C (lv P C n)) (ZY P C):=by rw[Wj];exact V3 (Bv n)
theorem aU{f:FuncId}{args:List Value}{H:AH}{r:Value×AH}(h:ZY P C f args H=some r): ∃n,run P C n f args H=some r:=K0 h
theorem ae{x:FuncId}{a:List Value}{H:AH}{r:Value×AH}(h:YC P C (Rm P C) x a H=some r): ∃n,YC P C (lv P C n) x a H=some r:=by rw[<-Wj]at h;exact K0 h
theorem nU{x:FuncId}{a:List Value}{H:AH}{r:Value×AH}(h:MI P C x a H=some r): ∃n,∀m,n<=m->XP P C (lv P C m) x a H=some r:=by obtain⟨v,H'⟩:=r;obtain⟨n,hn⟩:=IA (QX h);exact⟨n,fun m hm=>by unfold XP;rw[hn m hm];rfl⟩
theorem ck{tm:Tr Value}{H:AH}{op:Op}{r:Value×AH}(he:Yk C (MI P C) tm H op=some r): ∃n,∀m,n<=m->Yk C (XP P C (lv P C m)) tm H op=some r:=by
 cases op;case call c=>simp only[Yk]at he⊢;cases hd:ZI C tm c with|none=>rw[hd]at he;cases he|some x=>rw[hd]at he;exact nU he
 case panic x=>exact⟨0,fun m _=>he⟩
 all_goals cases he
theorem tJ{tm:Tr Value}{H:AH}{op:Op}{r:Value×AH}(he:Z6 P C (YC P C (Rm P C)) tm H op=some r): ∃n,∀m,n<=m->Z6 P C (YC P C (lv P C m)) tm H op=some r:=by obtain⟨n,hn⟩:=SS (F:=YC P C (Rm P C)) (G:=fun n=>YC P C (lv P C n)) (fun x a H r h=>ae h) (fun h=>V3 (Q2 h)) he;exact⟨n,fun m hm=>VS (V3 (Q2 hm)) hn⟩
theorem ME{ops:Array Oper} : ∀(l:List Oper)(s:St)(r:Ex×St),SR P C (YC P C (Rm P C)) (MI P C) ops l s=some r-> ∃n,∀m,n<=m->SR P C (YC P C (lv P C m)) (XP P C (lv P C m)) ops l s=some r
 |[],s,r,he=>by cases he
 |o::rest,s,r,he=>by
  simp only[SR]at he⊢;split at he<;>first|(cases he;done)|skip
  ·rename_i hw;split at he;·rename_i v1 H1 hp;obtain⟨n,hn⟩:=ck hp;exact⟨n,fun m hm=>by simp only[hn m hm];exact he⟩
   ·rename_i hp;split at he<;>first|(cases he;done)|skip
    rename_i v1 H1 Xb;split at he<;>first|(cases he;done)|skip
    rename_i s1 YL;obtain⟨n1,h1⟩:=tJ Xb;obtain⟨n2,h2⟩:=ME rest s1 r he;refine⟨max n1 n2,fun m hm=>?_⟩;have zb:=Nu (u:=lv P C m) (v:=lv P C m) (Q2 (Nat.le_refl m)) (h1 m (by omega));simp only[zb,h1 m (by omega),YL];exact h2 m (by omega)
  ·rename_i hw;split at he<;>first|(cases he;done)|skip
   rename_i s1 YL;obtain⟨n2,h2⟩:=ME rest s1 r he;exact⟨n2,fun m hm=>h2 m hm⟩
theorem Up(c:Code)(s:St):Cg P C c s=X5 P C (Rm P C) c s:=by
 have up: ∀r,Cg P C c s=some r->X5 P C (Rm P C) c s=some r:=fun r h=>by obtain⟨n,hn⟩:=Eg h;cases n with|zero=>rw[me]at hn;cases hn|succ n=>rw[Ap]at hn;exact Hj (Bv n) c s r hn
 have down: ∀r,X5 P C (Rm P C) c s=some r->Cg P C c s=some r:=fun r he=>by
  have fin1:(∃n,∀m,n<=m->X5 P C (lv P C m) c s=some r)->Cg P C c s=some r:=fun⟨n,h⟩=>fJ (n:=n+1) (by rw[Ap];exact h n (Nat.le_refl _));apply fin1;cases c<;>simp only[X5]at he⊢ <;>first|(cases he;done)|skip
  ·exact⟨0,fun m _=>he⟩
  ·rename_i id ops draw;split at he;·rename_i s1 hr;obtain⟨n,hn⟩:=NF (F:=YC P C (Rm P C)) (G:=fun n=>YC P C (lv P C n)) (fun x a H r h=>ae h) (fun h=>V3 (Q2 h)) hr;exact⟨n,fun m hm=>by rw[Ri (V3 (Q2 hm)) hn];exact he⟩
   ·cases draw with|true=>cases he|false=>rw[cond_false]at he;obtain⟨n,hn⟩:=ME _ _ _ he;refine⟨n,fun m hm=>?_⟩;have h2:=(Pz (Q2 (Nat.le_refl m)) _ _ _ (hn m hm)).2;rw[O8,h2];exact hn m hm
  ·split at he;·rename_i s1 hr;obtain⟨n1,h1⟩:=WY hr;obtain⟨n2,h2⟩:=WY he;exact⟨max n1 n2,fun m hm=>by rw[h1 m (by omega)];exact h2 m (by omega)⟩
   ·rename_i hn;obtain⟨n1,h1⟩:=WY he;refine⟨n1,fun m hm=>?_⟩;rw[h1 m hm];split;·rename_i s1 e;exact absurd (he.trans e) (by intro e';exact hn s1 e')
    ·rfl
  ·split at he<;>first|(cases he;done)|skip
   obtain⟨n1,h1⟩:=WY he;exact⟨n1,fun m hm=>h1 m hm⟩
  ·split at he;·rename_i j s1 hr;obtain⟨n1,h1⟩:=WY hr;exact⟨n1,fun m hm=>by rw[h1 m hm];exact he⟩
   ·rename_i hn;obtain⟨n1,h1⟩:=WY he;refine⟨n1,fun m hm=>?_⟩;rw[h1 m hm];split;·rename_i j s1 e;exact absurd (he.trans e) (by intro e';exact hn j s1 e')
    ·rfl
  ·split at he;·rename_i s1 hr;obtain⟨n1,h1⟩:=WY hr;obtain⟨n2,h2⟩:=WY he;exact⟨max n1 n2,fun m hm=>by rw[h1 m (by omega)];exact h2 m (by omega)⟩
   ·rename_i hn;obtain⟨n1,h1⟩:=WY he;refine⟨n1,fun m hm=>?_⟩;rw[h1 m hm];split;·rename_i s1 e;exact absurd (he.trans e) (by intro e';exact hn s1 e')
    ·rfl
  ·exact⟨0,fun m _=>he⟩
  ·exact⟨0,fun m _=>he⟩
 cases h:Cg P C c s with
  |some r=>exact(up r h).symm
  |none=>cases h2:X5 P C (Rm P C) c s with|none=>rfl|some r=>rw[down r h2]at h;cases h
end
end
structure uK where
  dst : Option Tmp
  op : Op
  grd : Option (Option Tmp × Bool)
def ZQ(ops:Array Oper):List Oper->List uK
 |[]=>[]
 |o::r=>⟨o.dst,o.op,match o.guard with|none=>none|some (j,b)=>some ((ops[j]?).bind (·.dst),b)⟩::ZQ ops r
def strip(ops:Array Oper):List uK:=ZQ ops ops.toList
section
variable (P : Program) (C : Cfg)
def CW(f:FuncId)(args:List Value)(H:AH)(Q:Value->AH->Prop):Prop:= ∃v H',ZY P C f args H=some (v,H')/\Q v H'
def gW(tm:Tr Value)(g:Option (Option Tmp×Bool)):Option Bool:=match g with
 |none=>some true
 |some (some d,want)=>match tm.get d with|some (.bool b)=>some (b==want)|some (.tuple _)=>some false|_=>none
 |some (none,_)=>none
def Xt(k:Nat):List uK->Tr Value->AH->(Tr Value->AH->Prop)->Prop
 |[],tm,H,K=>K tm H
 |o::r,tm,H,K=>match gW tm o.grd with
  |some true=>match Z6 P C (ZY P C) tm H o.op with
   |some (v,H')=>match o.dst with|none=>Xt k r tm H' K|some d=>d<k/\Xt k r (tm.set d v) H' K
   |none=>False
  |some false=>match o.dst with|none=>Xt k r tm H K|some d=>d<k/\Xt k r (tm.set d undef) H K
  |none=>False
def W(c:Code)(s:St)(Q:Ex->St->Prop):Prop:= ∃ex s',Cg P C c s=some (ex,s')/\Q ex s'
end
section
variable {P : Program} {C : Cfg} {Q : Ex -> St -> Prop}
theorem EZ{ops:Array Oper}{tm:Tr Value}{o:Oper} :Xi ops tm o=gW tm (match o.guard with|none=>none|some (j,b)=>some ((ops[j]?).bind (·.dst),b)):=by unfold Xi gW;cases o.guard with|none=>rfl|some x=>obtain⟨j,b⟩:=x;simp only;cases(ops[j]?).bind (·.dst)<;>rfl
theorem P5{ops:Array Oper}{k:Nat} : ∀(l:List Oper)(tm:Tr Value)(H:AH)(K:Tr Value->AH->Prop),Xt P C k (ZQ ops l) tm H K-> ∃Y8 H',W9 P C (ZY P C) ops l ⟨k,tm,H⟩=some ⟨k,Y8,H'⟩/\K Y8 H'
 |[],tm,H,K,h=>⟨tm,H,rfl,h⟩
 |o::r,tm,H,K,h=>by
  have put: ∀(v:Value)(H1:AH),(match o.dst with|none=>Xt P C k (ZQ ops r) tm H1 K|some d=>d<k/\Xt P C k (ZQ ops r) (tm.set d v) H1 K)-> ∃Ph,(St.put ⟨k,tm,H⟩ o.dst v H1)=some ⟨k,Ph,H1⟩/\Xt P C k (ZQ ops r) Ph H1 K:=fun v H1 h=>by cases hd:o.dst with
   |none=>rw[hd]at h;exact⟨tm,rfl,h⟩
   |some d=>
    rw[hd]at h;have:Nat.blt d k=true:=by rw[Nat.blt_eq];exact h.1
    exact⟨tm.set d v,by simp only[St.put,Mu,this,cond_true],h.2⟩
  rw[Wt];simp only;rw[EZ];simp only[ZQ,Xt]at h;split at h
  ·rename_i hg;rw[hg];split at h;·rename_i v H1 Xb;obtain⟨Ph,YL,hl⟩:=put v H1 h;obtain⟨Y8,H',h1,h2⟩:=P5 r Ph H1 K hl;refine⟨Y8,H',?_,h2⟩;simp only[Xb,YL];exact h1
   ·exact h.elim
  ·rename_i hg;rw[hg];obtain⟨Ph,YL,hl⟩:=put undef H h;obtain⟨Y8,H',h1,h2⟩:=P5 r Ph H K hl;refine⟨Y8,H',?_,h2⟩;simp only[YL];exact h1
  ·exact h.elim
theorem Zg{i:Nat}{ops:Array Oper}{s:St}(h:Xt P C s.k (strip ops) s.tm s.H fun Y8 H'=>Q .norm ⟨s.k,Y8,H'⟩):W P C (.region i ops false) s Q:=by
 obtain⟨k,tm,H⟩:=s;obtain⟨Y8,H',h1,h2⟩:=P5 (ops:=ops) ops.toList tm H _ h;refine⟨.norm,⟨k,Y8,H'⟩,?_,h2⟩;rw[Up];simp only[X5];rw[Wj]at h1;have:YA P C (YC P C (Rm P C)) ops false ⟨k,tm,H⟩=some ⟨k,Y8,H'⟩:=by unfold YA Va;simp only[Bool.false_and,cond_false];exact h1
 rw[this]
theorem Mi:(Rm P C).code=Cg P C:=rfl
def Ys(P:Program)(C:Cfg)(b:Code)(Q:Ex->St->Prop):Ex->St->Prop| .norm,s=>W P C b s Q|e,s=>Q e s
theorem Zf{a b:Code}{s:St}(h: ∀b',b'=b->W P C a s (Ys P C b' Q)):W P C (.seq a b) s Q:=by obtain⟨ex,s1,h1,h2⟩:=h b rfl;unfold W;rw[Up];simp only[X5,Mi,h1];cases ex with|norm=>exact h2|exit j=>exact⟨_,_,rfl,h2⟩|ret=>exact⟨_,_,rfl,h2⟩|pan v=>exact⟨_,_,rfl,h2⟩
theorem Zl{s:St}(h:Q .norm s):W P C .skip s Q:=⟨.norm,s,by rw[Up];rfl,h⟩
theorem YZ{i:Nat}{s:St}(h:Q (.exit i) s):W P C (.exit i) s Q:=⟨.exit i,s,by rw[Up];rfl,h⟩
theorem Zq{s:St}(h:Q .ret s):W P C .ret s Q:=⟨.ret,s,by rw[Up];rfl,h⟩
theorem Za{x:Operand}{a b:Code}{s:St}{t:Bool}(hx:Y1 C s.tm x=some (.bool t))(h:W P C (cond t a b) s Q):W P C (.cond x a b) s Q:=by unfold W;rw[Up];simp only[X5,Mi,hx];exact h
def Ye(id:Nat)(Q:Ex->St->Prop):Ex->St->Prop| .exit j,s=>(j=id/\Q .norm s)\/(j≠id/\Q (.exit j) s)|e,s=>Q e s
theorem Zu{id:Nat}{b:Code}{s:St}(h:W P C b s (Ye id Q)):W P C (.block id b) s Q:=by obtain⟨ex,s1,h1,h2⟩:=h;unfold W;rw[Up];simp only[X5,Mi,h1];cases ex with
 |norm=>exact⟨_,_,rfl,h2⟩
 |exit j=>
  rcases h2 with⟨e,h2⟩|⟨e,h2⟩;·exact⟨.norm,s1,by simp only[XC e,cond_true],h2⟩
  ·exact⟨.exit j,s1,by simp only[Y9 e,cond_false],h2⟩
 |ret=>exact⟨_,_,rfl,h2⟩
 |pan v=>exact⟨_,_,rfl,h2⟩
theorem Gv{b:Code}{s:St}(h:W P C b s (Ys P C (.loop b) Q)):W P C (.loop b) s Q:=by obtain⟨ex,s1,h1,h2⟩:=h;unfold W;rw[Up];simp only[X5,Mi,h1];cases ex with|norm=>exact h2|exit j=>exact⟨_,_,rfl,h2⟩|ret=>exact⟨_,_,rfl,h2⟩|pan v=>exact⟨_,_,rfl,h2⟩
def TY(I:Nat->St->Prop)(n:Nat)(Q:Ex->St->Prop):Ex->St->Prop| .norm,s=> ∃m,m<n/\I m s|e,s=>Q e s
theorem Gu{b:Code}(I:Nat->St->Prop)(h: ∀n s,I n s->W P C b s (TY I n Q)): ∀(n:Nat)(s:St),I n s->W P C (.loop b) s Q:=by intro n;induction n using Nat.strongRecOn with
 |_ n ih=>intro s hI;apply Gv;obtain⟨ex,s1,h1,h2⟩:=h n s hI;refine⟨ex,s1,h1,?_⟩;cases ex with|norm=>obtain⟨m,hm,Ci⟩:=h2;exact ih m hm s1 Ci|exit j=>exact h2|ret=>exact h2|pan v=>exact h2
theorem W.mono{c:Code}{s:St}{Q':Ex->St->Prop}(h:W P C c s Q)(hQ: ∀e s,Q e s->Q' e s):W P C c s Q':=by obtain⟨e,s1,h1,h2⟩:=h;exact⟨e,s1,h1,hQ _ _ h2⟩
theorem CW.mono{f:FuncId}{args:List Value}{H:AH}{Q Q':Value->AH->Prop}(h:CW P C f args H Q)(hQ: ∀v H',Q v H'->Q' v H'):CW P C f args H Q':=by obtain⟨v,H',h1,h2⟩:=h;exact⟨v,H',h1,hQ _ _ h2⟩
theorem dK(k:Nat){f:FuncId}{fn:Func}{c:Code}{args:List Value}{H:AH}{R:Value->AH->Prop}(ha:Nat.beq f C.add=false)(hs:Nat.beq f C.sub=false)(hf:P.funcs[f]?=some fn)(hb:fn.body=some c)(hk:args.length+(fn.ntmps-args.length)=k)(h:W P C c { k:=k,tm:=YU 0 args .nil,H:=H } fun ex s=>(ex= .norm\/ex= .ret)/\ ∃vs,ZZ P s fn.results.toList=some vs/\R (Yb vs) s.H)(hd:Rf c=none:=by rfl):CW P C f args H R:=by
 subst hk;obtain⟨ex,s,h1,h2,vs,h3,h4⟩:=h;refine⟨Yb vs,s.H,?_,h4⟩;rw[Wj];unfold YC Wa;rw[ha,cond_false,hs,cond_false,hf];simp only[hb,SW,hd];show LA (Eo P fn (Cg P C c _))=_;rw[h1];rcases h2 with rfl|rfl;·simp only[Eo,h3,LA]
 ·simp only[Eo,h3,LA]
def K4(P:Program)(C:Cfg):FuncId->List Value->AH->Option (Out×AH):=Wa P C (Rm P C)
def CWO(P:Program)(C:Cfg)(f:FuncId)(args:List Value)(H:AH)(R:Out->AH->Prop):Prop:= ∃o H',K4 P C f args H=some (o,H')/\R o H'
theorem O5{f:FuncId}{args:List Value}{H:AH}{v:Value}{H':AH}(h:K4 P C f args H=some (.ret v,H')):ZY P C f args H=some (v,H'):=by rw[Wj];unfold YC;have:Wa P C (Rm P C) f args H=_:=h;rw[this];rfl
theorem K7{f:FuncId}{args:List Value}{H:AH}{v:Value}{H':AH}(h:K4 P C f args H=some (.pan v,H')):MI P C f args H=some (v,H'):=by unfold MI XP;have:Wa P C (Rm P C) f args H=_:=h;rw[this];rfl
theorem au(k:Nat){f:FuncId}{fn:Func}{c:Code}{args:List Value}{H:AH}{R:Out->AH->Prop}(ha:Nat.beq f C.add=false)(hs:Nat.beq f C.sub=false)(hf:P.funcs[f]?=some fn)(hb:fn.body=some c)(hk:args.length+(fn.ntmps-args.length)=k)(h:W P C c { k:=k,tm:=YU 0 args .nil,H:=H } fun ex s=>((ex= .norm\/ex= .ret)/\ ∃vs,ZZ P s fn.results.toList=some vs/\R (.ret (Yb vs)) s.H)\/ ∃v,ex= .pan v/\R (.pan v) s.H)(hd:Rf c=none:=by rfl):CWO P C f args H R:=by
 subst hk;obtain⟨ex,s,h1,h2⟩:=h;unfold CWO K4 Wa;rw[ha,cond_false,hs,cond_false,hf];simp only[hb,SW,hd];show∃o H',Eo P fn (Cg P C c _)=some (o,H')/\R o H';rw[h1];rcases h2 with⟨h2,vs,h3,h4⟩|⟨v,rfl,h4⟩
 ·refine⟨.ret (Yb vs),s.H,?_,h4⟩;rcases h2 with rfl|rfl;·simp only[Eo,h3]
  ·simp only[Eo,h3]
 ·exact⟨.pan v,s.H,rfl,h4⟩
def XL(P:Program)(C:Cfg)(k:Nat):List uK->Tr Value->AH->(Value->Tr Value->AH->Prop)->Prop
 |[],tm,H,K=>False
 |o::r,tm,H,K=>match gW tm o.grd with
  |some true=>match Z6 P C (ZY P C) tm H o.op with
   |some (v,H')=>match o.dst with|none=>XL P C k r tm H' K|some d=>d<k/\XL P C k r (tm.set d v) H' K
   |none=>match Yk C (MI P C) tm H o.op with|some (v,H')=>K v tm H'|none=>False
  |some false=>match o.dst with|none=>XL P C k r tm H K|some d=>d<k/\XL P C k r (tm.set d undef) H K
  |none=>False
theorem Gn{ops:Array Oper}{k:Nat} : ∀(l:List Oper)(tm:Tr Value)(H:AH)(K:Value->Tr Value->AH->Prop),XL P C k (ZQ ops l) tm H K-> ∃v Y8 H',SR P C (YC P C (Rm P C)) (XP P C (Rm P C)) ops l ⟨k,tm,H⟩=some (.pan v,⟨k,Y8,H'⟩)/\K v Y8 H'
 |[],tm,H,K,h=>h.elim
 |o::r,tm,H,K,h=>by
  have put: ∀(v:Value)(H1:AH),(match o.dst with|none=>XL P C k (ZQ ops r) tm H1 K|some d=>d<k/\XL P C k (ZQ ops r) (tm.set d v) H1 K)-> ∃Ph,(St.put ⟨k,tm,H⟩ o.dst v H1)=some ⟨k,Ph,H1⟩/\XL P C k (ZQ ops r) Ph H1 K:=fun v H1 h=>by cases hd:o.dst with
   |none=>rw[hd]at h;exact⟨tm,rfl,h⟩
   |some d=>
    rw[hd]at h;have:Nat.blt d k=true:=by rw[Nat.blt_eq];exact h.1
    exact⟨tm.set d v,by simp only[St.put,Mu,this,cond_true],h.2⟩
  simp only[SR];rw[EZ];simp only[ZQ,XL]at h;split at h
  ·rename_i hg;rw[hg];split at h;·rename_i v H1 Xb;obtain⟨Ph,YL,hl⟩:=put v H1 h;obtain⟨v2,Y8,H',h1,h2⟩:=Gn r Ph H1 K hl;refine⟨v2,Y8,H',?_,h2⟩;rw[Wj]at Xb;have hn:=Nu (u:=Rm P C) (v:=Rm P C) ⟨fun _ _ _ h=>h,fun _ _ _ _ h=>h⟩ Xb;simp only[hn,Xb,YL];exact h1
   ·split at h;·rename_i v H1 hp;refine⟨v,tm,H1,?_,h⟩;have hp:Yk C (XP P C (Rm P C)) tm H o.op=some (v,H1):=hp;simp only[hp]
    ·exact h.elim
  ·rename_i hg;rw[hg];obtain⟨Ph,YL,hl⟩:=put undef H h;obtain⟨v2,Y8,H',h1,h2⟩:=Gn r Ph H K hl;refine⟨v2,Y8,H',?_,h2⟩;simp only[YL];exact h1
  ·exact h.elim
theorem Cv{i:Nat}{ops:Array Oper}{s:St}(h:XL P C s.k (strip ops) s.tm s.H fun v Y8 H'=>Q (.pan v) ⟨s.k,Y8,H'⟩):W P C (.region i ops false) s Q:=by obtain⟨k,tm,H⟩:=s;obtain⟨v,Y8,H',h1,h2⟩:=Gn (ops:=ops) ops.toList tm H _ h;refine⟨.pan v,⟨k,Y8,H'⟩,?_,h2⟩;rw[Up];simp only[X5];have hn:=(Pz (u:=Rm P C) (v:=Rm P C) ⟨fun _ _ _ h=>h,fun _ _ _ _ h=>h⟩ _ _ _ h1).2;rw[O8,hn];exact h1
def WS(P:Program)(C:Cfg)(rv:Value)(c:Code)(s:St)(Q:Ex->St->Prop):Prop:= ∃ex s',Ei P C (Rm P C) rv c s=some (ex,s')/\Q ex s'
theorem WI{rv:Value}{id:Nat}{ops:Array Oper}{draw:Bool}{s:St}(ho:Rn ops=true)(h:W P C (.region id (ops.map (WQ rv)) draw) s fun ex s'=>ex= .norm/\Q .norm s'):WS P C rv (.region id ops draw) s Q:=by
 obtain⟨ex,s',h1,rfl,h2⟩:=h;refine⟨.norm,s',?_,h2⟩;simp only[Ei];rw[ho,cond_true];rw[Up]at h1;simp only[X5]at h1;show(match YA P C (ZY P C) (ops.map (WQ rv)) draw s with|some s'=>some (Ex.norm,s')|none=>none)=_;rw[Wj];split at h1;·rename_i s1 hr;rw[hr];exact h1
 ·exfalso;cases draw with
  |true=>cases h1
  |false=>
   rw[cond_false]at h1;have: ∀(l:List Oper)(s:St)(s':St),SR P C (YC P C (Rm P C)) (XP P C (Rm P C)) (ops.map (WQ rv)) l s≠some (.norm,s'):=by intro l;induction l with
    |nil=>intro s s' e;cases e
    |cons o r ih=>
     intro s s' e;simp only[SR]at e;split at e<;>first|(cases e;done)|skip
     ·split at e;·cases e
      ·split at e<;>first|(cases e;done)|skip
       split at e<;>first|(cases e;done)|skip
       exact ih _ _ e
     ·split at e<;>first|(cases e;done)|skip
      exact ih _ _ e
   exact this _ _ _ h1
theorem eo{rv:Value}{a b:Code}{s:St}(hf:RE a=true)(h:WS P C rv a s fun ex s'=>ex= .norm/\W P C b s' fun ex s'=>(ex= .norm\/ex= .ret)/\Q ex s'):WS P C rv (.seq a b) s Q:=by obtain⟨ex,s1,h1,rfl,ex2,s2,h2,h3,h4⟩:=h;refine⟨ex2,s2,?_,h4⟩;simp only[Ei,hf,cond_true,h1];show Mn (Cg P C b s1)=_;rw[h2];rcases h3 with rfl|rfl<;>rfl
def Cr(P:Program)(C:Cfg)(g:FuncId)(args:List Value)(rv:Value)(H:AH)(K:AH->Prop):Prop:= ∃H',Py P C (Rm P C) g args rv H=some H'/\K H'
theorem WJ(k:Nat){g:FuncId}{fn:Func}{c:Code}{args:List Value}{rv:Value}{H:AH}{K:AH->Prop}(hf:P.funcs[g]?=some fn)(hb:fn.body=some c)(hk:args.length+(fn.ntmps-args.length)=k)(h:WS P C rv c { k:=k,tm:=YU 0 args .nil,H:=H } fun ex s=>(ex= .norm\/ex= .ret)/\ ∃vs,ZZ P s fn.results.toList=some vs/\K s.H):Cr P C g args rv H K:=by
 subst hk;obtain⟨ex,s,h1,h2,vs,h3,h4⟩:=h;refine⟨s.H,?_,h4⟩;unfold Py;simp only[hf,hb,h1];rcases h2 with rfl|rfl;·simp only[h3]
 ·simp only[h3]
theorem dM(k:Nat){f:FuncId}{fn:Func}{c a:Code}{ops:Array Oper}{o1:Oper}{dc:Call}{rest:Code}{args:List Value}{H:AH}{R:Value->AH->Prop}(ha:Nat.beq f C.add=false)(hs:Nat.beq f C.sub=false)(hf:P.funcs[f]?=some fn)(hb:fn.body=some c)(hk:args.length+(fn.ntmps-args.length)=k)(hd:Rf c=some (a,ops,o1,dc,rest))(h:W P C a { k:=k,tm:=YU 0 args .nil,H:=H } fun ex s=>ex= .norm/\Xt P C s.k (ZQ ops [o1]) s.tm s.H fun D7 H2=> ∃g Lu,ZI C D7 dc=some (g,Lu)/\W P C rest ⟨s.k,D7,H2⟩ fun xw s3=> ∃rv,VG xw=some rv/\Cr P C g Lu rv s3.H fun H4=> ∃vs,ZZ P ⟨s3.k,s3.tm,H4⟩ fn.results.toList=some vs/\R (Yb vs) H4):CW P C f args H R:=by subst hk;obtain⟨ex,s1,h1,rfl,h2⟩:=h;obtain⟨D7,H2,h3,g,Lu,h4,xw,s3,h5,rv,h6,H4,h7,vs,h8,h9⟩:=P5 [o1] _ _ _ h2;refine⟨Yb vs,H4,?_,h9⟩;rw[Wj];unfold YC Wa;rw[ha,cond_false,hs,cond_false,hf];simp only[hb,SW,hd];unfold Vo;have h1:(Rm P C).code a { k:=args.length+(fn.ntmps-args.length),tm:=YU 0 args .nil,H:=H } =some (.norm,s1):=h1;have h3:W9 P C (Rm P C).call ops [o1] s1=some ⟨s1.k,D7,H2⟩:=h3;have h5:(Rm P C).code rest ⟨s1.k,D7,H2⟩=some (xw,s3):=h5;simp only[h1,h3,h4,h5,h6,h7,h8,LA]
variable {tm : Tr Value} {H : AH} {K : Value -> AH -> Prop}
end
end
end Go.Proofs.YtmkfecoeghokfaaGreatDoor.Ev
namespace Go.Proofs.YtmkfecoeghokfaaGreatDoor
open Go.ChangeShapes Go.WideShapes Go.ChangeAt Go.RowKit Go.Proofs.YtmkfecoeghokfaaGreatDoor.Ev
set_option linter.unusedVariables false
noncomputable section
set_option maxHeartbeats 2000000
set_option maxRecDepth 20000
def xf:Cfg:= { ng:=0,add:=203,sub:=206,sp:=[(78,9),(74,9)] }
theorem iB:(Tryz.prog.funcs.toList.all fun fn=>fn.body.isNone||!(fn.name== "runtime.NumGoroutine"))=true:=by kernel_rfl
theorem rX (n : Nat) : CfgOk Tryz.prog { xf with ng := n } where
  mixed := Tryz.checked.mixed
  names := fun f fn hf hb => by
    have h := List.all_eq_true.mp iB fn (by rw [Array.mem_toList_iff]; exact Array.mem_of_getElem? hf)
    cases SN : fn.body with
    | none => rw [SN] at hb; cases hb
    | some c =>
      rw [SN] at h
      simpa using h
  add := ⟨Tryz.f203, Tryz.func203, by kernel_rfl, by kernel_rfl, by kernel_rfl, by kernel_rfl⟩
  sub := ⟨Tryz.f206, Tryz.func206, by kernel_rfl, by kernel_rfl, by kernel_rfl, by kernel_rfl⟩
end
end Go.Proofs.YtmkfecoeghokfaaGreatDoor
namespace Go.Proofs.YtmkfecoeghokfaaGreatDoor
open Go.ChangeShapes Go.WideShapes Go.ChangeAt Go.RowKit Go.Proofs.YtmkfecoeghokfaaGreatDoor.Ev
set_option linter.unusedVariables false
noncomputable section
set_option linter.unusedSimpArgs false
set_option maxHeartbeats 2000000
set_option maxRecDepth 20000
def lz(k:Int)(s:List UInt8)(a:Int):List Value:=[.int .i64 k,.string ⟨s.toArray⟩,.int .i64 a]
def nN(k:Int)(s:List UInt8)(a:Int){H:Type} :DataW H:= .agg [.lit (.int .i64 k),.lit (.string s),.lit (.int .i64 a)]
def On:List (Int×List UInt8×Int):=[(0,[],0),(1,[112,105],0),(2,[45],1),(3,[43],2),(4,[45],2),(5,[42],2),(6,[47],2),(7,[97,98,115],1),(8,[109,105,110],2),(9,[109,97,120],2),(10,[115,113,114,116],1),(11,[101,120,112],1),(12,[108,110],1),(13,[115,105,110],1),(14,[99,111,115],1),(15,[97,116,97,110],1)]
def WH:List Value:=On.flatMap fun x=>lz x.1 x.2.1 x.2.2
theorem bu{H:Type} :(Rows.laid_surd_expr_rows:DataW H)= .agg (On.map fun x=>nN x.1 x.2.1 x.2.2):=rfl
theorem xz:Tryz.prog.globalNamed "surd/expr.rows"=some 0:=by kernel_rfl
theorem Zaz:(Tryz.prog.globals[0]?).map (·.type)=some 181:=by kernel_rfl
theorem Zb1:Tryz.prog.underlying 181=some (.array 16 180):=by kernel_rfl
theorem uRow: ∃f0 f1 f2,Tryz.prog.underlying 180=some (.struct #[f0,f1,f2])/\f0.type=50/\f0.offset=0/\f1.type=9/\f1.offset=1/\f2.type=3/\f2.offset=2:=⟨_,_,_,Tryz.underlying180,rfl,rfl,rfl,rfl,rfl,rfl⟩
theorem uOp:Tryz.prog.underlying 50=some (.int .i64):=by kernel_rfl
theorem cOp:Tryz.prog.cellsOf 50=1:=by kernel_rfl
theorem cStr:Tryz.prog.cellsOf 9=1:=by kernel_rfl
theorem cInt:Tryz.prog.cellsOf 3=1:=by kernel_rfl
theorem w8:Tryz.prog.cellsOf 180=3:=by kernel_rfl
theorem w9:Tryz.prog.cellsOf 181=48:=by kernel_rfl
section
variable {H : Type} {enc : TypeId × Value -> H} {w : World} {base : Nat} {sp : Nat -> Bool} {held : Bool}
theorem uh{m:Nat}{l:List Value}{k:Int}{s:List UInt8}{a:Int}{p:List MemPlace}(h:DataW.trod enc Tryz.prog w base sp held m 180 l=some (nN k s a,p)):l=lz k s a:=by obtain⟨f0,f1,f2,hu,e1,e2,e3,e4,e5,e6⟩:=uRow;obtain⟨y0,y1,y2,n,hx,hl,h0,h1,h2⟩:=Deep.trod_struct3 hu h;rw[e1,e2,cOp]at h0;rw[e3,e4,cStr]at h1;rw[e5,e6,cInt]at h2;rw[w8]at hl;obtain⟨n0,c0,x0,_⟩:=DataW.trod_int uOp h0;obtain⟨s1,c1,x1,_⟩:=DataW.trod_string Tryz.underlying9 h1;obtain⟨n2,c2,x2,_⟩:=DataW.trod_int Tryz.underlying3 h2;subst x0;subst x1;subst x2;simp only[nN,Prod.mk.injEq,DataW.agg.injEq,List.cons.injEq,DataW.lit.injEq,Lit.int.injEq,Lit.string.injEq,true_and,and_true]at hx;obtain⟨⟨rfl,rfl,rfl⟩,_⟩:=hx;match l,hl with|[a0,a1,a2],_=>simp at c0 c1 c2;subst c0;subst c1;subst c2;rfl
theorem nD{fuel:Nat}{cs:List Value}{p:List MemPlace}(h:DataW.trod enc Tryz.prog w base sp held fuel 181 cs=some (Rows.laid_surd_expr_rows,p)):cs=WH:=by
 obtain⟨xs,m,_,hx,hl,hn,hel⟩:=DataW.trod_array Zb1 h;rw[w9]at hl;rw[bu]at hx;simp only[Prod.mk.injEq,DataW.agg.injEq]at hx;have key: ∀i,i<16->(cs.drop (i*3)).take 3=(WH.drop (i*3)).take 3:=by
  intro i hi;have h1:=hel i hi;rw[w8]at h1;have h2:(xs.map (·.1))[i]?=some (nN ((On[i]?.getD (0,[],0))).1 (On[i]?.getD (0,[],0)).2.1 (On[i]?.getD (0,[],0)).2.2):=by rw[<-hx.1,List.getElem?_map,List.getElem?_eq_getElem (show i<On.length from hi)];rfl
  rw[List.getElem?_map]at h2;cases hxi:xs[i]? with
   |none=>rw[hxi]at h2;cases h2
   |some y=>
    rw[hxi]at h1 h2;obtain⟨y1,y2⟩:=y;simp only[Option.map_some,Option.some.injEq]at h2;subst h2;rw[uh h1];clear h1 hx hel hn hl h hxi;have:i=0\/i=1\/i=2\/i=3\/i=4\/i=5\/i=6\/i=7\/i=8\/i=9\/i=10\/i=11\/i=12\/i=13\/i=14\/i=15:=by omega
    rcases this with rfl|rfl|rfl|rfl|rfl|rfl|rfl|rfl|rfl|rfl|rfl|rfl|rfl|rfl|rfl|rfl<;>rfl
 apply List.ext_getElem?;intro k;by_cases hk:k<48
 ·have:=key (k/3) (by omega);have h3:=congrArg (fun l=>l[k%3]?) this;simp only[List.getElem?_take,List.getElem?_drop]at h3;rw[if_pos (Nat.mod_lt _ (by decide)),if_pos (Nat.mod_lt _ (by decide))]at h3;have e:k/3*3+k%3=k:=by omega
  rw[e]at h3;exact h3
 ·rw[List.getElem?_eq_none (by omega),List.getElem?_eq_none (by show WH.length<=k;have:WH.length=48:=rfl;omega)]
end
theorem ns{W:World}(h:laidMetH Tryz.prog [("surd/expr.rows",Rows.laid_surd_expr_rows)] W): ∀k v,WH[k]?=some v->W.cell? ⟨0,k,none⟩=some v:=by rw[MakeChecks.laidMetH_plain _ _ _ (by kernel_rfl)]at h;obtain⟨ps,⟨g0,t0,WA,f0,p0,q0,si,ht0,hv0,mY,_⟩,_,_⟩:=h;obtain rfl:=Option.some.inj (xz.symm.trans si);obtain rfl:=Option.some.inj (Zaz.symm.trans ht0);have hc:=nD mY;intro k v hk;rw[World.var?_cell si hv0 k,<-hk,<-hc];simp
def My:AH:= { n:=0+1,lw:=0+1,t:=Tr.nil.set 0 (.ro 3 WH) }
def Zw:Cfg:= { xf with ng:=0+1 }
def jr:Nat->Ev.Loc:=fun i=>⟨i,0,3,48⟩
def qH:Nat->Prop:=fun i=>i<0+1
theorem nI:GO Zw qH jr:=fun g hg=>⟨hg,rfl,rfl⟩
theorem BG:WH.all ZM=true:=rfl
theorem cD{S:Nat->Prop}{L:Nat->Ev.Loc}{v:Value}(h:ZM v=true):VR S L v v:=by exact Ok h
theorem FZ{w:World}(h: ∀k v,WH[k]?=some v->w.cell? ⟨0,k,none⟩=some v):Inv w.heap.size qH jr My w:=by
 have W2: ∀i b,My.blk i=b->b≠ .dead->i=0/\b= .ro 3 WH:=by
  intro i b hb hd;by_cases hi:i=0;·subst hi;exact⟨rfl,by rw[<-hb];rfl⟩
  ·exfalso;apply hd;rw[<-hb];unfold AH.blk My;simp only[Tr.get_set,if_neg hi,Tr.get_nil]
 have h0:=h 0 _ rfl;have Wx:0<w.heap.size:=by
  by_cases hx:0<w.heap.size;·exact hx
  ·exfalso;have:w.heap[0]?=none:=Array.getElem?_eq_none (by omega);simp[World.cell?,this]at h0
 refine⟨fun i sz cs hb=>?_,fun i sz cs hb=>?_,fun i j a b c d hb=>?_,fun i hi=>hi,Nat.le_refl _⟩
 ·obtain⟨rfl,he⟩:=W2 i _ hb (by intro e;cases e);cases he;refine⟨Nat.lt_succ_self _,Wx,rfl,fun k v hk=>⟨v,?_,?_⟩⟩;·have:=h k v hk;simpa[jr]using this
  ·exact cD (List.all_eq_true.mp BG v (List.mem_of_getElem? hk))
 ·obtain⟨_,he⟩:=W2 i _ hb (by intro e;cases e);cases he
 ·obtain⟨_,he⟩:=W2 i _ hb (by intro e;cases e);cases he
end
end Go.Proofs.YtmkfecoeghokfaaGreatDoor
namespace Go.Proofs.YtmkfecoeghokfaaGreatDoor
set_option linter.unusedVariables false
set_option linter.unusedSimpArgs false
set_option maxHeartbeats 2000000
set_option maxRecDepth 20000
def YS:List Nat->List Nat
 |[]=>[]
 |x::xs=>match YS xs with|[]=>if x=0 then[]else[x]|y::ys=>x::y::ys
theorem VB: ∀(xs:List Nat),YS (xs++[0])=YS xs|[]=>rfl|x::xs=>by simp[YS,VB xs]
theorem SC: ∀(xs:List Nat)(x:Nat),x≠0->YS (xs++[x])=xs++[x]|[],x,h=>by simp[YS,h]|y::xs,x,h=>by have:=SC xs x h;simp only[List.cons_append,YS,this];cases xs<;>rfl
theorem XJ(xs:List Nat):(YS xs).length<=xs.length:=by induction xs with
 |nil=>simp[YS]
 |cons x xs ih=>
  simp only[YS];split;·split<;>simp
  ·rename_i y ys e;rw[e]at ih;simp at ih⊢;exact ih
def YD(B:Nat)(xs:List Nat):Prop:= ∀x∈xs,x<B
theorem YD.nil(B:Nat):YD B []:=fun x h=>by cases h
theorem YD.cons{B x:Nat}{xs:List Nat}(h:x<B)(hs:YD B xs):YD B (x::xs):=fun y hy=>by
 rcases List.mem_cons.mp hy with e|e;·rw[e];exact h
 ·exact hs y e
theorem YD.tail{B x:Nat}{xs:List Nat}(h:YD B (x::xs)):YD B xs:=fun y hy=>h y (List.mem_cons_of_mem _ hy)
theorem YD.head{B x:Nat}{xs:List Nat}(h:YD B (x::xs)):x<B:=h x (List.mem_cons_self ..)
theorem YD.append{B:Nat}{xs ys:List Nat}(h:YD B xs)(h':YD B ys):YD B (xs++ys):=fun y hy=>by
 rcases List.mem_append.mp hy with e|e;·exact h y e
 ·exact h' y e
theorem YD.get{B:Nat}{xs:List Nat}(h:YD B xs){i x:Nat}(hi:xs[i]?=some x):x<B:=h x (List.mem_of_getElem? hi)
theorem YD.take{B:Nat}{xs:List Nat}(h:YD B xs)(n:Nat):YD B (xs.take n):=fun y hy=>h y (List.mem_of_mem_take hy)
theorem YD.drop{B:Nat}{xs:List Nat}(h:YD B xs)(n:Nat):YD B (xs.drop n):=fun y hy=>h y (List.mem_of_mem_drop hy)
def dv(B:Nat):List Nat->Nat|[]=>0|x::xs=>x+B*dv B xs
theorem Yr(B:Nat): ∀(xs ys:List Nat),dv B (xs++ys)=dv B xs+B^xs.length*dv B ys|[],ys=>by simp[dv]|x::xs,ys=>by simp only[List.cons_append,dv,Yr B xs ys,List.length_cons,Nat.pow_succ,Nat.mul_add];rw[Nat.add_assoc,<-Nat.mul_assoc,Nat.mul_comm B (B^_)]
theorem Ws{B:Nat} : ∀{xs:List Nat},YD B xs->dv B xs<B^xs.length
 |[],_=>by simp[dv]
 |x::xs,h=>by
  have h1:=h.head;have h2:=Ws h.tail;simp only[dv,List.length_cons,Nat.pow_succ];have:B*dv B xs+B<=B*B^xs.length:=by rw[<-Nat.mul_succ];exact Nat.mul_le_mul_left _ h2
  rw[Nat.mul_comm (B^_) B];omega
theorem UH(B:Nat): ∀n,dv B (List.replicate n 0)=0|0=>rfl|n+1=>by simp[List.replicate_succ,dv,UH B n]
theorem WX(B:Nat): ∀(xs:List Nat),dv B (YS xs)=dv B xs
 |[]=>rfl
 |x::xs=>by
  have ih:=WX B xs;simp only[YS];split
  ·rename_i e;rw[e]at ih;simp only[dv]at ih⊢;split;·rename_i h;simp[dv,h,<-ih]
   ·simp[dv,<-ih]
  ·rename_i y ys e;rw[e]at ih;simp only[dv]at ih⊢;rw[ih]
theorem XK{B:Nat} : ∀{xs:List Nat},YD B xs->YD B (YS xs)
 |[],h=>h
 |x::xs,h=>by
  have ih:=XK h.tail;simp only[YS];split
  ·split;·exact .nil B
   ·exact .cons h.head (.nil B)
  ·rename_i y ys e;rw[e]at ih;exact .cons h.head ih
theorem SD: ∀(xs:List Nat),YS (YS xs)=YS xs
 |[]=>rfl
 |x::xs=>by
  have ih:=SD xs;simp only[YS];split
  ·split;·rfl
   ·rename_i h;simp[YS,h]
  ·rename_i y ys e;rw[e]at ih;simp only[YS]at ih⊢;rw[ih]
def ds(B:Nat)(n:Nat):List Nat:=if h:n=0\/B<2 then[]else n%B::ds B (n/B) termination_by n decreasing_by exact Nat.div_lt_self (by omega) (by omega)
theorem XT(B:Nat):ds B 0=[]:=by rw[ds];simp
theorem TM{B n:Nat}(hB:2<=B)(hn:n≠0):ds B n=n%B::ds B (n/B):=by rw[ds,dif_neg (by omega)]
theorem YP{B:Nat}(hB:2<=B)(n:Nat):dv B (ds B n)=n:=by induction n using Nat.strongRecOn with
 |_ n ih=>
  by_cases h:n=0;·subst h;rw[XT];rfl
  ·rw[TM hB h];simp only[dv];rw[ih (n/B) (Nat.div_lt_self (by omega) (by omega))];exact Nat.mod_add_div n B
theorem Yu{B:Nat}(hB:2<=B)(n:Nat):YD B (ds B n):=by induction n using Nat.strongRecOn with
 |_ n ih=>
  by_cases h:n=0;·subst h;rw[XT];exact .nil B
  ·rw[TM hB h];exact .cons (Nat.mod_lt _ (by omega)) (ih (n/B) (Nat.div_lt_self (by omega) (by omega)))
theorem OE(B:Nat)(hB:2<=B): ∀{xs:List Nat},dv B xs=0->YS xs=[]
 |[],_=>rfl
 |x::xs,h=>by
  simp only[dv]at h;have h1:x=0:=by omega
  have h2:dv B xs=0:=by
   have:B*dv B xs=0:=by omega
   rcases Nat.mul_eq_zero.mp this with e|e;·omega
   ·exact e
  simp[YS,OE B hB h2,h1]
theorem Xl{B:Nat}(hB:2<=B): ∀{xs:List Nat},YD B xs->YS xs=ds B (dv B xs)
 |[],_=>(XT B).symm
 |x::xs,h=>by
  have ih:=Xl hB h.tail;have hx:=h.head;by_cases h0:dv B (x::xs)=0;·rw[h0,XT];exact OE B hB h0
  ·have e1:(x+B*dv B xs)%B=x:=by rw[Nat.add_mul_mod_self_left];exact Nat.mod_eq_of_lt hx
   have e2:(x+B*dv B xs)/B=dv B xs:=by rw[Nat.add_mul_div_left _ _ (by omega),Nat.div_eq_of_lt hx,Nat.zero_add]
   rw[TM hB h0];simp only[dv,e1,e2];rw[<-ih];simp only[YS];split
   ·rename_i e;split
    ·rename_i hz;exfalso;apply h0;have:dv B xs=0:=by rw[<-WX B xs,e];rfl
     simp[dv,hz,this]
    ·rw[e]
   ·rename_i y ys e;rw[e]
theorem Tu{B:Nat}(hB:2<=B)(n:Nat):YS (ds B n)=ds B n:=by rw[Xl hB (Yu hB n),YP hB]
theorem X9{B:Nat}(hB:2<=B): ∀{k n:Nat},n<B^k->(ds B n).length<=k
 |0,n,h=>by
  have:n=0:=by simpa using h
  subst this;rw[XT];exact Nat.le_refl _
 |k+1,n,h=>by
  by_cases h0:n=0;·subst h0;rw[XT];exact Nat.zero_le _
  ·rw[TM hB h0];have:n/B<B^k:=by rw[Nat.div_lt_iff_lt_mul (by omega)];rw[Nat.pow_succ]at h;exact h
   simpa using X9 hB this
theorem Ed{B:Nat}(hB:2<=B)(n:Nat):n<B^(ds B n).length:=by have:=Ws (Yu hB n);rwa[YP hB]at this
theorem fV{B:Nat}(hB:2<=B){n:Nat}(hn:n≠0):B^((ds B n).length-1)<=n:=by
 rcases Nat.lt_or_ge n (B^((ds B n).length-1))with h|h
 ·have:=X9 hB h;have h2:(ds B n).length≠0:=by rw[TM hB hn];simp
  omega
 ·exact h
theorem GS{B:Nat}{xs ys:List Nat}{x y:Nat}(h1:YD B xs)(h2:YD B ys)(hl:xs.length=ys.length)(h:x<y)(zs:List Nat):dv B (xs++x::zs)<dv B (ys++y::zs):=by
 rw[Yr,Yr,<-hl];simp only[dv];have a:=Ws h1;have hm:B^xs.length*(x+1+B*dv B zs)<=B^xs.length*(y+B*dv B zs):=Nat.mul_le_mul_left _ (by omega);have e:B^xs.length*(x+1+B*dv B zs)=B^xs.length*(x+B*dv B zs)+B^xs.length:=by rw[show x+1+B*dv B zs=(x+B*dv B zs)+1 by omega,Nat.mul_succ]
 omega
end Go.Proofs.YtmkfecoeghokfaaGreatDoor
namespace Go.Proofs.YtmkfecoeghokfaaGreatDoor
open Go Ev
set_option linter.unusedVariables false
set_option linter.unusedSimpArgs false
noncomputable section
set_option maxHeartbeats 2000000
set_option maxRecDepth 20000
section
attribute [-simp] Int.natCast_add Int.natCast_mul Int.natCast_ediv Int.natCast_emod Int.natCast_pow
attribute [local simp] strip ZQ Xt gW Z6 Yh ZU Yi ZG Yj Zy Zz Zj ZF Yd ZL Z3 Zm ZE Zk Zi Z2 Z1 YK Zr Yg Y1 YT ZJ plain ZM Tr.get_set YU Zt Yw ZS sameKind undef ZZ ZD Yb ZT parts XH ZX Zs ZI ZR XL Yk Zo ZP ZW ZO
section
theorem uV:Tryz.prog.underlying 30=some (.slice 101):=by kernel_rfl
theorem uNum:Tryz.prog.underlying 37=some (.slice 101):=by kernel_rfl
theorem uLst:Tryz.prog.underlying 25=some (.slice 101):=by kernel_rfl
theorem Mz:Xn Tryz.prog 101=some 1:=by kernel_rfl
theorem aU64:XR Tryz.prog 101=some false:=by kernel_rfl
theorem Zay:WK Tryz.prog 30=some (101,1,8):=by kernel_rfl
theorem tNum:WK Tryz.prog 37=some (101,1,8):=by kernel_rfl
theorem Zax:WK Tryz.prog 25=some (101,1,8):=by kernel_rfl
theorem J9:Vd Tryz.prog 101=some (.int .u64 0):=by kernel_rfl
def LT(t:TypeId):Prop:=Tryz.prog.underlying t=some (.slice 101)/\WK Tryz.prog t=some (101,1,8)
theorem Zv:LT 30:=⟨uV,Zay⟩
theorem ZA:LT 37:=⟨uNum,tNum⟩
theorem Yf:LT 25:=⟨uLst,Zax⟩
def At(H:AH)(b o:Nat)(xs:List Nat):Prop:=b<H.n/\ ∃cs,H.cells b=some cs/\H.size b=some 1/\(∀(i x:Nat),xs[i]?=some x->cs[o+i]?=some (.int .u64 (x:Int)))/\o<=cs.length
inductive Sl(H:AH):Value->List Nat->Prop|nil:Sl H (.slice none 0 0) []|emp(b:Nat):Sl H (.slice (some ⟨b,0,some 0⟩) 0 0) []|mk(b o cap:Nat)(xs:List Nat):xs.length<=cap->At H b o xs->Sl H (.slice (some ⟨b,o,none⟩) xs.length cap) xs
structure Zh (H H' : AH) : Prop where
  n : H.n <= H'.n
  lw : min H.lw H.n <= H'.lw
  blk : ∀ j, j < H.n -> H'.blk j = H.blk j
theorem Zh.refl(H:AH):Zh H H:=⟨Nat.le_refl _,Nat.min_le_left _ _,fun _ _=>rfl⟩
theorem Zh.trans{H H1 H2:AH}(a:Zh H H1)(b:Zh H1 H2):Zh H H2:=⟨Nat.le_trans a.n b.n,by have:=a.n;have:=a.lw;have:=b.lw;omega,fun j hj=>(b.blk j (Nat.lt_of_lt_of_le hj a.n)).trans (a.blk j hj)⟩
theorem Zh.q{H H':AH}(k:Zh H H'){b:Nat}{x:MV}(q:H.blk b=x)(h:b<H.n:=by omega):H'.blk b=x:=(k.blk b h).trans q
theorem hid{α:Sort _}(a:α): ∃x,x=a:=⟨a,rfl⟩
section
variable {P : Program} {C : Ev.Cfg} {Q : Ev.Ex -> St -> Prop}
theorem Zb{i:Nat}{ops:Array Oper}{b:Code}{s:St}(h: ∀b',b'=b->Xt P C s.k (strip ops) s.tm s.H fun Y8 H'=>Ys P C b' Q .norm ⟨s.k,Y8,H'⟩):W P C (.seq (.region i ops false) b) s Q:=Zf fun b' e=>Zg (h b' e)
theorem Z8(k:Nat){f:FuncId}{fn:Func}{c:Code}{args:List Value}{H:AH}{R:Value->AH->Prop}(hf:P.funcs[f]?=some fn)(h:W P C c { k:=k,tm:=YU 0 args .nil,H:=H } fun ex s=>(ex= .norm\/ex= .ret)/\ ∃vs,ZZ P s fn.results.toList=some vs/\R (Yb vs) s.H)(ha:Nat.beq f C.add=false:=by decide)(hs:Nat.beq f C.sub=false:=by decide)(hb:fn.body=some c:=by exact rfl)(hk:args.length+(fn.ntmps-args.length)=k:=by exact rfl)(hd:Rf c=none:=by exact rfl):CW P C f args H R:=dK k ha hs hf hb hk h hd
end
theorem At.keep{H H':AH}{b o:Nat}{xs:List Nat}(h:At H b o xs)(k:Zh H H'):At H' b o xs:=by obtain⟨h1,cs,h2,h3,h4⟩:=h;have e:=k.blk b h1;exact⟨Nat.lt_of_lt_of_le h1 k.n,cs,by unfold AH.cells;rw[e];exact h2,by unfold AH.size;rw[e];exact h3,h4⟩
theorem Sl.keep{H H':AH}{v:Value}{xs:List Nat}(h:Sl H v xs)(k:Zh H H'):Sl H' v xs:=by cases h with|nil=>exact .nil|emp b=>exact .emp b|mk b o cap xs h1 h2=>exact .mk b o cap xs h1 (h2.keep k)
theorem Sl.len{H:AH}{v:Value}{xs:List Nat}(h:Sl H v xs){t:TypeId}(ht:LT t):SL Tryz.prog t v=some xs.length:=by unfold SL;rw[ht.1];cases h<;>rfl
def adr(v:Value)(i:Nat):Value:=match v with| .slice (some ⟨b,o,none⟩) _ _=> .pointer (some ⟨b,o+i,none⟩)|_=> .pointer none
theorem Sl.adr{H:AH}{v:Value}{xs:List Nat}(h:Sl H v xs){t:TypeId}(ht:LT t){i:Nat}{k:IntKind}(hi:i<xs.length):ZC Tryz.prog t v (.int k (i:Int))=some (adr v i):=by cases h with|nil=>cases hi|emp b=>cases hi|mk b o cap xs h1 h2=>unfold ZC Go.Proofs.YtmkfecoeghokfaaGreatDoor.adr;simp only[ht.1,Mz];rw[if_pos (by omega)];simp
theorem Sl.load{H:AH}{v:Value}{xs:List Nat}(h:Sl H v xs){i:Nat}(hi:i<xs.length):Z7 Tryz.prog H 101 (Go.Proofs.YtmkfecoeghokfaaGreatDoor.adr v i)=some (.int .u64 (xs[i]:Nat)):=by cases h with|nil=>cases hi|emp b=>cases hi|mk b o cap xs h1 h2=>obtain⟨_,cs,h3,h4,h5⟩:=h2;unfold Z7 Go.Proofs.YtmkfecoeghokfaaGreatDoor.adr;simp only[aU64,h3];exact h5.1 i _ (List.getElem?_eq_getElem hi)
theorem P1{n:Nat}(h:n<9223372036854775808):IntKind.i64.wrap (n:Int)=(n:Int):=by rw[IntKind.wrap_i64];omega
theorem Lp{n:Nat}(h0:0<n)(h:n<9223372036854775808):IntKind.i64.wrap ((n:Int)-1)=((n-1:Nat):Int):=by rw[IntKind.wrap_i64];omega
theorem Sl.cut{H:AH}{v:Value}{xs:List Nat}(h:Sl H v xs){t:TypeId}(ht:LT t){m:Nat}(hm:m<=xs.length)(h0:0<xs.length): ∃v',Vu Tryz.prog H t v none (some (.int .i64 (m:Int))) none=some v'/\Sl H v' (xs.take m):=by cases h with
 |nil=>cases h0
 |emp b=>cases h0
 |mk b o cap xs h1 h2=>
  have hl:(xs.take m).length=m:=by rw[List.length_take];omega
  obtain⟨mi,cs,h3,h4,h5⟩:=h2;refine⟨.slice (some ⟨b,o,none⟩) (xs.take m).length cap,?_,.mk b o cap _ (by omega) ⟨mi,cs,h3,h4,fun i x hx=>h5.1 i x ?_,h5.2⟩⟩;·unfold Vu;simp only[ht.1,Mz];unfold Il Xo;simp only[h4,Option.isSome_some,Option.isNone_none,Bool.true_or];rw[if_pos (by omega)];have e1:Nat.ble m cap=true:=Nat.ble_eq.mpr (by omega);simp[Xo,e1,hl]
  ·rw[List.getElem?_take]at hx;split at hx;·exact hx
   ·cases hx
attribute [local simp] strip ZQ Xt gW Z6 Yh ZU Yi ZG Yj Zy Zz Zj ZF Yd ZL ZE Zk Yg Y1 YT ZJ plain ZM Tr.get_set YU Zt Yw ZS sameKind Zc undef ZZ ZD Yb Zv ZA Yf
theorem Vc{v:Value}{xs:List Nat}{H:AH}(hs:Sl H v xs)(hlen:xs.length<1152921504606846976):CW Tryz.prog Zw 160 [v] H fun v' H'=>H'=H/\Sl H v' (YS xs):=by
 refine Z8 21 Tryz.func160 ?_;apply Zb;intro b1 Ze;simp;subst Ze;apply Zf;intro b1 Ze;apply Zu;refine Gu (fun n s=>s.k=21/\s.H=H/\ ∃v',s.tm.get 0=some v'/\n<=xs.length/\Sl H v' (xs.take n)/\YS (xs.take n)=YS xs) ?_ xs.length _ ⟨rfl,rfl,v,by simp,Nat.le_refl _,by rw[List.take_length];exact hs,by rw[List.take_length]⟩;rintro n ⟨k,tm,H'⟩ ⟨h2,h3,v',h4,h5,h6,h7⟩;simp only at h2 h3 h4;subst h2;subst h3;have hl:(xs.take n).length=n:=by rw[List.length_take];omega
 have N9:=h6.len Zv;rw[hl]at N9;apply Zf;intro b2 Zp;apply Zb;intro b3 ZH;by_cases hz:n=0;·subst hz;simp[h4,N9];subst ZH;refine Za (t:=false) (by simp) ?_;apply YZ;left;refine⟨rfl,?_⟩;subst Ze;apply Zb;intro b4 Yt;simp[h4];subst Yt;apply Zq;simp;rw[<-h7];exact h6
 ·have hn:0<n:=Nat.pos_of_ne_zero hz;have hw:IntKind.i64.wrap ((n:Int)-1)=((n-1:Nat):Int):=Lp hn (by omega);have hi:n-1<(xs.take n).length:=by omega
  have ha:=h6.adr Zv (k:= .i64) hi;have YO:=h6.load hi;simp[h4,N9,hn,hw,ha,YO];subst ZH;have hx:n-1<xs.length:=by omega
  have PN:xs.take n=xs.take (n-1)++[xs[n-1]]:=by have:=List.take_append_getElem (l:=xs) (i:=n-1) hx;rw[this,show n-1+1=n by omega]
  by_cases h0:xs[n-1]=0
  ·refine Za (t:=true) (by simp[h0]) ?_;apply Zl;subst Zp;apply Zu;apply Zg;obtain⟨v2,hv2,Bb⟩:=h6.cut Zv (m:=n-1) (by omega) (by omega);simp[h4,N9,hw,hv2];refine⟨n-1,by omega,rfl,rfl,v2,by simp,by omega,?_,?_⟩;·rw[List.take_take,show min (n-1) n=n-1 by omega]at Bb;exact Bb
   ·rw[<-h7,PN,h0,VB]
  ·refine Za (t:=false) (by simp;exact h0) ?_;apply YZ;left;refine⟨rfl,?_⟩;subst Ze;apply Zb;intro b4 Yt;simp[h4];subst Yt;apply Zq;simp;rw[<-h7];have:YS (xs.take n)=xs.take n:=by rw[PN];exact SC _ _ h0
   rw[this];exact h6
end
end
section
attribute [-simp] Int.natCast_add Int.natCast_mul Int.natCast_ediv Int.natCast_emod Int.natCast_pow
attribute [local simp] strip ZQ Xt gW Z6 Yh ZU Yi ZG Yj Zy Zz Zj ZF Yd ZL Z3 Zm ZE Zk Zi Z2 Z1 YK Zr Yg Y1 YT ZJ plain ZM Tr.get_set YU Zt Yw ZS sameKind undef ZZ ZD Yb Zv ZA Yf ZT parts XH ZX Zs ZI ZR XL Yk Zo ZP ZW ZO
section
def Vr(x:Nat):Value:= .int .u64 (x:Int)
inductive Yl(n:Nat)(H:AH):Value->List Nat->Prop|nil:Yl n H (.slice none 0 0) []|mk(b o cap:Nat)(xs:List Nat)(cs:List Value):xs.length<=cap->n<=b->b<H.n->H.blk b= .rw 1 cs->o+cap<=cs.length->(∀(i x:Nat),xs[i]?=some x->cs[o+i]?=some (Vr x))->Yl n H (.slice (some ⟨b,o,none⟩) xs.length cap) xs
theorem Yl.sl{n:Nat}{H:AH}{v:Value}{xs:List Nat}(h:Yl n H v xs):Sl H v xs:=by cases h with|nil=>exact .nil|mk b o cap xs cs h1 h2 h3 h4 h5 h6=>exact .mk b o cap xs h1 ⟨h3,cs,by unfold AH.cells;rw[h4],by unfold AH.size;rw[h4],h6,by omega⟩
theorem Yl.mono{n m:Nat}{H H':AH}{v:Value}{xs:List Nat}(h:Yl n H v xs)(hn:m<=n)(k:Zh H H'):Yl m H' v xs:=by cases h with|nil=>exact .nil|mk b o cap xs cs h1 h2 h3 h4 h5 h6=>exact .mk b o cap xs cs h1 (Nat.le_trans hn h2) (Nat.lt_of_lt_of_le h3 k.n) (by rw[k.blk b h3];exact h4) h5 h6
theorem Yl.m{n:Nat}{H H':AH}{v:Value}{xs:List Nat}(h:Yl n H v xs)(k:Zh H H'):Yl n H' v xs:=h.mono Nat.le.refl k
theorem AH.blk_new(H:AH)(sz:Nat)(cs:List Value)(j:Nat):(H.new sz cs).blk j=if j=H.n then .rw sz cs else H.blk j:=by
 unfold AH.new AH.blk;simp only[Tr.get_set];by_cases e:j=H.n;·rw[if_pos e,if_pos e]
 ·rw[if_neg e,if_neg e]
theorem Zh.new(H:AH)(sz:Nat)(cs:List Value):Zh H (H.new sz cs):=⟨Nat.le_succ _,Nat.min_le_left _ _,fun j hj=>by rw[AH.blk_new,if_neg (by omega)]⟩
theorem Yl.new(H:AH)(xs:List Nat):Yl H.n (H.new 1 (xs.map Vr)) (.slice (some ⟨H.n,0,none⟩) xs.length xs.length) xs:= .mk H.n 0 xs.length xs (xs.map Vr) (Nat.le_refl _) (Nat.le_refl _) (Nat.lt_succ_self _) (by rw[AH.blk_new,if_pos rfl]) (by simp) (fun i x h=>by simp[h])
theorem KX{cs:List Value}{o:Nat}{xs:List Nat}(h0:0<xs.length)(h: ∀(i x:Nat),xs[i]?=some x->cs[o+i]?=some (Vr x)):o+xs.length<=cs.length/\(cs.drop o).take xs.length=xs.map Vr:=by
 have hl:o+xs.length<=cs.length:=by have:=h (xs.length-1) _ (List.getElem?_eq_getElem (by omega));have:=(List.getElem?_eq_some_iff.mp this).1;omega
 refine⟨hl,List.ext_getElem? fun i=>?_⟩;rw[List.getElem?_take,List.getElem?_drop,List.getElem?_map];by_cases hi:i<xs.length;·rw[if_pos hi,List.getElem?_eq_getElem hi,Option.map_some];exact h i _ (List.getElem?_eq_getElem hi)
 ·rw[if_neg hi,List.getElem?_eq_none (by omega)];rfl
theorem Sl.cells{H:AH}{v:Value}{xs:List Nat}(h:Sl H v xs)(h0:0<xs.length):XM H 1 v xs.length=some (xs.map Vr):=by cases h with|nil=>cases h0|emp b=>cases h0|mk b o cap xs h1 h2=>obtain⟨_,cs,h3,h4,h5⟩:=h2;obtain⟨h6,h7⟩:=KX h0 h5.1;have:Nat.ble (o+xs.length) cs.length=true:=Nat.ble_eq.mpr (by omega);simp only[XM,AH.read_def,h3,this,cond_true,Nat.mul_one,h7]
theorem Sl.copyNew{H:AH}{v:Value}{xs:List Nat}(h:Sl H v xs)(hl:xs.length<=17592186044416){t t2:TypeId}(ht:LT t)(AO:LT t2): ∃v' H',Xr Tryz.prog H t t2 (.slice none 0 0) v=some (v',H')/\Zh H H'/\Yl H.n H' v' xs:=by
 by_cases h0:xs.length=0;·obtain rfl:xs=[]:=List.length_eq_zero_iff.mp h0;refine⟨.slice none 0 0,H,?_,.refl H,.nil⟩;generalize hn:([]:List Nat)=ys at h;cases h with|nil=>simp[Xr,ht.2,AO.2]|emp b=>simp[Xr,ht.2,AO.2]|mk b o cap xs h1 h2=>subst hn;simp[Xr,ht.2,AO.2]
 ·refine⟨.slice (some ⟨H.n,0,none⟩) xs.length xs.length,H.new 1 (xs.map Vr),?_,.new _ _ _,.new H xs⟩;have hc:=h.cells (by omega);obtain⟨a,cap,rfl⟩: ∃a cap,v= .slice a xs.length cap:=by cases h<;>exact⟨_,_,rfl⟩
  have e1:Nat.beq xs.length 0=false:=Y9 h0;have e2:Nat.ble (xs.length*8) 140737488355328=true:=Nat.ble_eq.mpr (by omega);have e3:Nat.ble xs.length 281474976710656=true:=Nat.ble_eq.mpr (by omega);simp[Xr,ht.2,AO.2,e1,e2,e3,hc,J9,Value.cells]
attribute [local simp] strip ZQ Xt gW Z6 Yh ZU Yi ZG Yj Zy Zz Zj ZF Yd ZL ZE Zk Yg Y1 YT ZJ plain ZM Tr.get_set YU Zt Yw ZS sameKind Zc undef ZZ ZD Yb Zv ZA Yf ZT
theorem Vz{v:Value}{xs:List Nat}{H:AH}(hs:Sl H v xs)(hlen:xs.length<=17592186044416):CW Tryz.prog Zw 120 [v] H fun v' H'=>Zh H H'/\Yl H.n H' v' (YS xs):=by refine Z8 6 Tryz.func120 ?_;obtain⟨v1,H1,Q9,e1,FL⟩:=Vc hs (by omega);subst e1;obtain⟨v2,H2,ha,hk,ho⟩:=FL.copyNew (by have:=XJ xs;omega) Zv Zv;apply Zb;intro b1 Ze;simp;subst Ze;apply Zb;intro b1 Ze;simp[Q9,ha];subst Ze;apply Zq;simp;exact⟨hk,ho⟩
end
end
end
end Go.Proofs.YtmkfecoeghokfaaGreatDoor
namespace Go.Proofs.YtmkfecoeghokfaaGreatDoor.Ev
open Go Go.RowKit
set_option linter.unusedVariables false
set_option linter.unusedSimpArgs false
noncomputable section
set_option maxHeartbeats 2000000
set_option maxRecDepth 20000
def Mf(ops:Array Oper):Bool:=ops.toList.all fun o=>match o.op with| .load .. =>true|op=>!ZX op
theorem OM{bits b:Nat} : ∀{l:List (Nat×Nat×Bool)},(∀x∈l,x.2.2=false)->V7 bits b false l=true|[],_=>rfl|(k,b',w')::r,h=>by have h1:w'=false:=h (k,b',w') (List.mem_cons_self ..);subst h1;simp only[V7,Bool.or_self,Bool.not_false,Bool.or_true,Bool.true_or,Bool.true_and];exact OM fun x hx=>h x (List.mem_cons_of_mem _ hx)
section
variable {P : Program} {C : Cfg} {call : FuncId -> List Value -> AH -> Option (Value × AH)} {ops : Array Oper}
theorem Rh: ∀(l:List Oper)(i:Nat)(fs:List (Nat×Nat×Bool))(s s':St),(∀x∈fs,x.2.2=false)->(∀o∈l,(match o.op with| .load .. =>true|op=>!ZX op)=true)->W9 P C call ops l s=some s'->Uc P C call ops i fs l s=some s'
 |[],i,fs,s,s',hf,hl,h=>by rw[SV]at h;simp only[Uc];exact h
 |o::rest,i,fs,s,s',hf,hl,h=>by
  have ho:=hl o (List.mem_cons_self ..);have Ng:=fun o' h'=>hl o' (List.mem_cons_of_mem _ h');rw[Wt]at h;simp only[Uc];split at h<;>first|(cases h;done)|skip
  ·split at h<;>first|(cases h;done)|skip
   rename_i v H1 Xb;split at h<;>first|(cases h;done)|skip
   rename_i s1 YL;cases hh:ZX o.op with
    |false=>
     have hm:WD C s.tm o.op=some none:=by
      unfold WD;split;·rename_i e;rw[e]at hh;cases hh
      ·rename_i e;rw[e]at hh;cases hh
      ·rw[hh];rfl
     have hH:Z6 P C call s.tm s.H o.op=some (v,s.H):=SZ hh Xb s.H;rw[hH]at Xb;cases Xb;simp only[hm,hH,YL];exact Rh rest _ _ s1 s' hf Ng h
    |true=>
     split at ho
     ·rename_i t x e;rw[e]at Xb;simp only[Z6,Yd]at Xb;split at Xb<;>first|(cases Xb;done)|skip
      rename_i a ha;split at Xb<;>first|(cases Xb;done)|skip
      rename_i v' hv;cases Xb;obtain⟨b,off,rfl⟩: ∃b off,a= .pointer (some ⟨b,off,none⟩):=by
       unfold Z7 at hv;split at hv;·exact⟨_,_,rfl⟩
       ·cases hv
      have hm:WD C s.tm o.op=some (some (b,false)):=by rw[e];simp only[WD,ha]
      have It:Z6 P C call s.tm s.H o.op=some (v,s.H):=by rw[e];simp only[Z6,Yd,ha,hv]
      simp only[hm,OM hf,cond_true,It,YL];exact Rh rest _ _ s1 s' (fun x hx=>by
       rcases List.mem_cons.mp hx with e|e;·rw[e]
       ·exact hf x e) Ng h
     ·rw[hh]at ho;cases ho
  ·split at h<;>first|(cases h;done)|skip
   rename_i s1 YL;try simp only[YL]
   exact Rh rest _ _ s1 s' hf Ng h
end
section
variable {P : Program} {C : Cfg} {Q : Ex -> St -> Prop}
theorem Ff{ops:Array Oper}(h:Mf ops=true):Vs ops=true:=by unfold Mf at h;unfold Vs;rw[List.all_eq_true]at h⊢;intro o ho;have:=h o ho;revert this;cases o.op<;>simp
theorem Tq{i:Nat}{ops:Array Oper}{s:St}(hd:(Mf ops&&UX ops)=true)(h:Xt P C s.k (strip ops) s.tm s.H fun Y8 H'=>Q .norm ⟨s.k,Y8,H'⟩):W P C (.region i ops true) s Q:=by
 rw[Bool.and_eq_true]at hd;obtain⟨k,tm,H⟩:=s;obtain⟨Y8,H',h1,h2⟩:=P5 (ops:=ops) ops.toList tm H _ h;refine⟨.norm,⟨k,Y8,H'⟩,?_,h2⟩;rw[Up];simp only[X5];rw[Wj]at h1;have:YA P C (YC P C (Rm P C)) ops true ⟨k,tm,H⟩=some ⟨k,Y8,H'⟩:=by unfold YA;rw[Ff hd.1,hd.2];simp only[Bool.and_self,cond_true];refine Rh _ _ _ _ _ (fun x hx=>by cases hx) (fun o ho=>?_) h1;have:=hd.1;unfold Mf at this;rw[List.all_eq_true]at this;exact this o ho
 rw[this]
def ZV:Op->Bool| .store .. =>true|_=>false
def Og(ops:Array Oper):Bool:=Vs ops&&UX ops&&(List.range ops.size).all fun i=>match ops[i]? with|some o=>!ZV o.op||alone ops i|none=>true
theorem LK{bits b:Nat}{w:Bool} : ∀{l:List (Nat×Nat×Bool)},(∀x∈l,(w||x.2.2)=true->bits.testBit x.1=true)->V7 bits b w l=true
 |[],_=>rfl
 |(k,b',w')::r,h=>by have h1:=h (k,b',w') (List.mem_cons_self ..);simp only[V7,Bool.and_eq_true,Bool.or_eq_true,Bool.not_eq_true'];refine⟨?_,LK fun x hx=>h x (List.mem_cons_of_mem _ hx)⟩;cases hw:(w||w')with|false=>exact .inl (.inr rfl)|true=>exact .inr (h1 hw)
theorem SU{call:FuncId->List Value->AH->Option (Value×AH)}{ops:Array Oper}(hm:Og ops=true): ∀(l:List Oper)(i:Nat)(fs:List (Nat×Nat×Bool))(s s':St),(∀j,l[j]?=ops[i+j]?)->(∀x∈fs,x.1<i/\ ∃o,ops[x.1]?=some o/\ZX o.op=true/\x.2.2=ZV o.op)->W9 P C call ops l s=some s'->Uc P C call ops i fs l s=some s'
 |[],i,fs,s,s',hl,hf,h=>by rw[SV]at h;simp only[Uc];exact h
 |o::rest,i,fs,s,s',hl,hf,h=>by
  have h0:ops[i]?=some o:=by simpa using(hl 0).symm
  have Ng: ∀j,rest[j]?=ops[i+1+j]?:=fun j=>by have:=hl (j+1);simpa[Nat.add_assoc,Nat.add_comm 1 j]using this
  have OZ: ∀x∈fs,x.1<i+1/\ ∃o,ops[x.1]?=some o/\ZX o.op=true/\x.2.2=ZV o.op:=fun x hx=>⟨Nat.lt_succ_of_lt (hf x hx).1,(hf x hx).2⟩;unfold Og at hm;rw[Bool.and_eq_true,Bool.and_eq_true]at hm;have qn: ∀k ok,ops[k]?=some ok->ZV ok.op=true->alone ops k=true:=fun k ok hk hs=>by have:=hm.2;rw[List.all_eq_true]at this;have:=this k (by simpa using YV hk);rw[hk]at this;simpa[hs]using this
  have ho:(match o.op with| .load .. =>true| .store .. =>true|op=>!ZX op)=true:=by have:=hm.1.1;unfold Vs at this;rw[List.all_eq_true]at this;exact this o (by rw[<-Array.getElem?_toList]at h0;exact List.mem_of_getElem? h0)
  have clear: ∀b,ZX o.op=true->V7 ((before ops).getD i 0) b (ZV o.op) fs=true:=fun b hh=>LK fun x hx hw=>by obtain⟨h1,ok,h2,h3,h4⟩:=hf x hx;rw[h4]at hw;cases hs:ZV o.op with|true=>exact(OB (qn i o h0 hs) h2 (by omega) h3).1 h1|false=>rw[hs,Bool.false_or]at hw;exact(OB (qn x.1 ok h2 hw) h0 (by omega) hh).2 h1
  have Kh:Og ops=true:=by unfold Og;rw[Bool.and_eq_true,Bool.and_eq_true];exact hm
  rw[Wt]at h;simp only[Uc];split at h<;>first|(cases h;done)|skip
  ·split at h<;>first|(cases h;done)|skip
   rename_i v H1 Xb;split at h<;>first|(cases h;done)|skip
   rename_i s1 YL;cases hh:ZX o.op with
    |false=>
     have M7:WD C s.tm o.op=some none:=by
      unfold WD;split;·rename_i e;rw[e]at hh;cases hh
      ·rename_i e;rw[e]at hh;cases hh
      ·rw[hh];rfl
     have hH:Z6 P C call s.tm s.H o.op=some (v,s.H):=SZ hh Xb s.H;rw[hH]at Xb;cases Xb;simp only[M7,hH,YL];exact SU Kh rest _ _ s1 s' Ng OZ h
    |true=>
     split at ho
     ·rename_i t x e;have mP:=Xb;rw[e]at Xb;simp only[Z6,Yd]at Xb;split at Xb<;>first|(cases Xb;done)|skip
      rename_i a ha;split at Xb<;>first|(cases Xb;done)|skip
      rename_i v' hv;obtain⟨b,off,rfl⟩: ∃b off,a= .pointer (some ⟨b,off,none⟩):=by
       unfold Z7 at hv;split at hv;·exact⟨_,_,rfl⟩
       ·cases hv
      have M7:WD C s.tm o.op=some (some (b,false)):=by rw[e];simp only[WD,ha]
      have hc:=clear b hh;rw[show ZV o.op=false by rw[e];rfl]at hc;simp only[M7,hc,cond_true,mP,YL];exact SU Kh rest _ _ s1 s' Ng (fun x hx=>by
       rcases List.mem_cons.mp hx with e1|e1;·rw[e1];exact⟨Nat.lt_succ_self _,o,h0,hh,by rw[e];rfl⟩
       ·exact OZ x e1) h
     ·rename_i t x y e;have mP:=Xb;rw[e]at Xb;simp only[Z6,ZL]at Xb;split at Xb<;>first|(cases Xb;done)|skip
      rename_i a a' ha ha';split at Xb<;>first|(cases Xb;done)|skip
      rename_i H' hv;obtain⟨b,off,rfl⟩: ∃b off,a= .pointer (some ⟨b,off,none⟩):=by
       unfold YX at hv;split at hv;·exact⟨_,_,rfl⟩
       ·cases hv
      have M7:WD C s.tm o.op=some (some (b,true)):=by rw[e];simp only[WD,ha]
      have hc:=clear b hh;rw[show ZV o.op=true by rw[e];rfl]at hc;simp only[M7,hc,cond_true,mP,YL];exact SU Kh rest _ _ s1 s' Ng (fun x hx=>by
       rcases List.mem_cons.mp hx with e1|e1;·rw[e1];exact⟨Nat.lt_succ_self _,o,h0,hh,by rw[e];rfl⟩
       ·exact OZ x e1) h
     ·rw[hh]at ho;cases ho
  ·split at h<;>first|(cases h;done)|skip
   rename_i s1 YL;try simp only[YL]
   exact SU Kh rest _ _ s1 s' Ng OZ h
theorem pn{i:Nat}{ops:Array Oper}{s:St}(hd:Og ops=true)(h:Xt P C s.k (strip ops) s.tm s.H fun Y8 H'=>Q .norm ⟨s.k,Y8,H'⟩):W P C (.region i ops true) s Q:=by
 obtain⟨k,tm,H⟩:=s;obtain⟨Y8,H',h1,h2⟩:=P5 (ops:=ops) ops.toList tm H _ h;refine⟨.norm,⟨k,Y8,H'⟩,?_,h2⟩;rw[Up];simp only[X5];rw[Wj]at h1;have:YA P C (YC P C (Rm P C)) ops true ⟨k,tm,H⟩=some ⟨k,Y8,H'⟩:=by have hd':=hd;unfold Og at hd';rw[Bool.and_eq_true,Bool.and_eq_true]at hd';unfold YA;rw[hd'.1.1,hd'.1.2];simp only[Bool.and_self,cond_true];exact SU hd _ _ _ _ _ (fun j=>by simp) (fun x hx=>by cases hx) h1
 rw[this]
def P0(H:AH)(bits:Nat)(ms:List (Nat×Nat×Nat)):AH:= { n:=H.n,lw:=H.n,t:=Tb H.t (hidden bits ms) }
def grown(H H2:AH):AH:= { n:=H2.n,lw:=H.lw,t:=NN H.t H2 H.n (H2.n-H.n) }
def Ym(ops:Array Oper)(o:Oper):Option (Option Tmp×Bool):=match o.guard with|none=>none|some (j,b)=>some ((ops[j]?).bind (·.dst),b)
theorem SB{ops:Array Oper}{tm:Tr Value}{o:Oper} :Xi ops tm o=gW tm (Ym ops o):=EZ
def DG(X:Xs)(P:Program)(C:Cfg)(ops:Array Oper)(k i:Nat)(q:Bool)(ms:List (Nat×Nat×Nat))(l:List Oper)(tm:Tr Value)(H:AH)(K:Tr Value->AH->Prop):Prop:= ∃Y8 H',XO X P C (ZY P C) ops i q ms l ⟨k,tm,H⟩=some ⟨k,Y8,H'⟩/\K Y8 H'
def DW(X:Xs)(P:Program)(C:Cfg)(ops:Array Oper)(k:Nat):Nat->Bool->List (Nat×Nat×Nat)->List Oper->Tr Value->AH->(Tr Value->AH->Prop)->Prop
 |_,_,_,[],tm,H,K=>K tm H
 |i,q,ms,o::r,tm,H,K=>match gW tm (Ym ops o)with
  |some true=>match ZX o.op with
   |true=>DG X P C ops k i q ms (o::r) tm H K
   |false=>match Z6 P C (ZY P C) tm H o.op with
    |some (v,_)=>match o.dst with|none=>DW X P C ops k (i+1) q ms r tm H K|some d=>d<k/\DW X P C ops k (i+1) q ms r (tm.set d v) H K
    |none=>False
  |some false=>match o.dst with|none=>DW X P C ops k (i+1) q ms r tm H K|some d=>d<k/\DW X P C ops k (i+1) q ms r (tm.set d undef) H K
  |none=>False
variable {X : Xs} {ops : Array Oper} {k i : Nat} {q : Bool} {ms : List (Nat × Nat × Nat)} {tm : Tr Value} {H : AH} {K : Tr Value -> AH -> Prop}
theorem Tw{o:Oper}{v:Value}{H1:AH}{K1:Tr Value->Prop}(h:match o.dst with|none=>K1 tm|some d=>d<k/\K1 (tm.set d v)): ∃Ph,(St.put ⟨k,tm,H⟩ o.dst v H1)=some ⟨k,Ph,H1⟩/\K1 Ph:=by cases hd:o.dst with
 |none=>rw[hd]at h;exact⟨tm,rfl,h⟩
 |some d=>
  rw[hd]at h;have:Nat.blt d k=true:=by rw[Nat.blt_eq];exact h.1
  exact⟨tm.set d v,by simp only[St.put,Mu,this,cond_true],h.2⟩
theorem XD(n:Nat):Nat.blt n n=false:=by cases hb:Nat.blt n n with|false=>rfl|true=>rw[Nat.blt_eq]at hb;omega
theorem IH: ∀(l:List Oper)(i:Nat)(q:Bool)(ms:List (Nat×Nat×Nat))(tm:Tr Value)(H:AH),DW X P C ops k i q ms l tm H K->DG X P C ops k i q ms l tm H K
 |[],i,q,ms,tm,H,h=>⟨tm,H,by simp only[XO],h⟩
 |o::r,i,q,ms,tm,H,h=>by
  simp only[DW]at h;split at h
  ·rename_i hg;split at h;·exact h
   ·rename_i hh;split at h;·rename_i v H2 Xb;obtain⟨Ph,YL,hl⟩:=Tw (H:=H) (H1:=H) (K1:=fun tm=>DW X P C ops k (i+1) q ms r tm H K) h;obtain⟨Y8,H',h1,h2⟩:=IH r (i+1) q ms Ph H hl;refine⟨Y8,H',?_,h2⟩;simp only[XO];rw[SB,hg];simp only[Xv,hh,cond_false,Xb,YL,XD];exact h1
    ·exact h.elim
  ·rename_i hg;obtain⟨Ph,YL,hl⟩:=Tw (H:=H) (H1:=H) (K1:=fun tm=>DW X P C ops k (i+1) q ms r tm H K) h;obtain⟨Y8,H',h1,h2⟩:=IH r (i+1) q ms Ph H hl;refine⟨Y8,H',?_,h2⟩;simp only[XO];rw[SB,hg];simp only[YL];exact h1
  ·exact h.elim
theorem YI{id:Nat}{s:St}(hd:(!Vs ops&&UX ops&&!isSplit C ops)=true)(h:DW (X0 ops) P C ops s.k 0 false [] ops.toList s.tm s.H fun Y8 H'=>Q .norm ⟨s.k,Y8,H'⟩):W P C (.region id ops true) s Q:=by
 obtain⟨k,tm,H⟩:=s;obtain⟨Y8,H',h1,h2⟩:=IH _ _ _ _ _ _ h;refine⟨.norm,⟨k,Y8,H'⟩,?_,h2⟩;rw[Up];simp only[X5];rw[Wj]at h1;rw[Bool.and_eq_true,Bool.and_eq_true]at hd;have hm:Vs ops=false:=by simpa using hd.1.1
 have hs:isSplit C ops=false:=by simpa using hd.2
 have:YA P C (YC P C (Rm P C)) ops true ⟨k,tm,H⟩=some ⟨k,Y8,H'⟩:=by unfold YA Va;rw[hm,hs,hd.1.2];simp only[Bool.and_false,cond_false,cond_true];exact h1
 rw[this]
theorem ZK{o:Oper}{r:List Oper}{v:Value}(hg:gW tm (Ym ops o)=some true)(hh:ZX o.op=true)(hq:q=false)(he:Z6 P C (ZY P C) tm (P0 H ((before ops).getD i 0) ms) o.op=some (v,P0 H ((before ops).getD i 0) ms))(h:match o.dst with|none=>DW X P C ops k (i+1) q ms r tm H K|some d=>d<k/\DW X P C ops k (i+1) q ms r (tm.set d v) H K)(hf:X.fv i=none:=by first|rfl|kernel_rfl):DG X P C ops k i q ms (o::r) tm H K:=by
 obtain⟨Ph,YL,hl⟩:=Tw (H:=H) (H1:=H) (K1:=fun tm=>DW X P C ops k (i+1) q ms r tm H K) h;obtain⟨Y8,H',h1,h2⟩:=IH r (i+1) q ms Ph H hl;refine⟨Y8,H',?_,h2⟩;subst hq;have Xb:Xv X P C (ZY P C) ops i false ms ⟨k,tm,H⟩ o=some (v,H,false):=by unfold Xv;rw[hh,cond_true,hf];simp only;have yq:Z6 P C (ZY P C) tm { n:=H.n,lw:=H.n,t:=Tb H.t (hidden ((before ops).getD i 0) ms) } o.op=some (v,{ n:=H.n,lw:=H.n,t:=Tb H.t (hidden ((before ops).getD i 0) ms) }):=he;rw[yq];have:Nat.ble H.n H.n=true:=Nat.ble_eq.mpr (Nat.le_refl _);simp only[this,cond_true,Bool.not_false,Bool.and_self,Nat.sub_self,NN]
 simp only[XO];rw[SB,hg];simp only[Xb,YL,XD,cond_false];exact h1
theorem YW{o:Oper}{r:List Oper}{v:Value}{H2:AH}(hg:gW tm (Ym ops o)=some true)(hh:ZX o.op=true)(hq:q=false)(he:Z6 P C (ZY P C) tm (P0 H ((before ops).getD i 0) ms) o.op=some (v,H2))(hn:H.n<=H2.n)(Jv:H.n<=H2.lw)(h:match o.dst with|none=>DW X P C ops k (i+1) q (cond (Nat.blt H.n H2.n) ((i,H.n,H2.n)::ms) ms) r tm (grown H H2) K|some d=>d<k/\DW X P C ops k (i+1) q (cond (Nat.blt H.n H2.n) ((i,H.n,H2.n)::ms) ms) r (tm.set d v) (grown H H2) K)(hf:X.fv i=none:=by first|rfl|kernel_rfl):DG X P C ops k i q ms (o::r) tm H K:=by
 obtain⟨Ph,YL,hl⟩:=Tw (H:=H) (H1:=grown H H2) (K1:=fun tm=>DW X P C ops k (i+1) q (cond (Nat.blt H.n H2.n) ((i,H.n,H2.n)::ms) ms) r tm (grown H H2) K) h;obtain⟨Y8,H',h1,h2⟩:=IH r (i+1) q _ Ph _ hl;refine⟨Y8,H',?_,h2⟩;subst hq;have Xb:Xv X P C (ZY P C) ops i false ms ⟨k,tm,H⟩ o=some (v,grown H H2,false):=by unfold Xv;rw[hh,cond_true,hf];simp only;have yq:Z6 P C (ZY P C) tm { n:=H.n,lw:=H.n,t:=Tb H.t (hidden ((before ops).getD i 0) ms) } o.op=some (v,H2):=he;rw[yq];have e1:Nat.ble H.n H2.n=true:=Nat.ble_eq.mpr hn;have e2:Nat.ble H.n H2.lw=true:=Nat.ble_eq.mpr Jv;simp only[e1,e2,cond_true,Bool.not_false,Bool.and_self];rfl
 simp only[XO];rw[SB,hg];simp only[Xb,YL];exact h1
theorem YE{o:Oper}{r:List Oper}{v:Value}{H2:AH}(hg:gW tm (Ym ops o)=some true)(hh:ZX o.op=true)(ha:X.al i=true)(hhid:hidden ((before ops).getD i 0) ms=[])(he:Z6 P C (ZY P C) tm { n:=H.n,lw:=H.n,t:=H.t } o.op=some (v,H2))(hn:H.n<=H2.n)(Jv:H2.lw<H.n)(h:match o.dst with|none=>DW X P C ops k (i+1) true (cond (Nat.blt H.n H2.n) ((i,H.n,H2.n)::ms) ms) r tm { n:=H2.n,lw:=min H.lw H2.lw,t:=H2.t } K|some d=>d<k/\DW X P C ops k (i+1) true (cond (Nat.blt H.n H2.n) ((i,H.n,H2.n)::ms) ms) r (tm.set d v) { n:=H2.n,lw:=min H.lw H2.lw,t:=H2.t } K)(hf:X.fv i=none:=by first|rfl|kernel_rfl):DG X P C ops k i q ms (o::r) tm H K:=by
 obtain⟨Ph,YL,hl⟩:=Tw (H:=H) (H1:= { n:=H2.n,lw:=min H.lw H2.lw,t:=H2.t }) (K1:=fun tm=>DW X P C ops k (i+1) true (cond (Nat.blt H.n H2.n) ((i,H.n,H2.n)::ms) ms) r tm { n:=H2.n,lw:=min H.lw H2.lw,t:=H2.t } K) h;obtain⟨Y8,H',h1,h2⟩:=IH r (i+1) true _ Ph _ hl;refine⟨Y8,H',?_,h2⟩;have Xb:Xv X P C (ZY P C) ops i q ms ⟨k,tm,H⟩ o=some (v,{ n:=H2.n,lw:=min H.lw H2.lw,t:=H2.t },true):=by
  unfold Xv;rw[hh,cond_true,hf];simp only[hhid,Tb];rw[he];have e1:Nat.ble H.n H2.n=true:=Nat.ble_eq.mpr hn;have e2:Nat.ble H.n H2.lw=false:=by cases hb:Nat.ble H.n H2.lw with|false=>rfl|true=>have:=Nat.le_of_ble_eq_true hb;omega
  simp only[e1,e2,cond_true,Bool.and_false,cond_false,ha,List.isEmpty_nil,Bool.and_self]
 simp only[XO];rw[SB,hg];simp only[Xb,YL];exact h1
theorem Yv{b:Code}(I:Nat->St->Prop)(h: ∀n s,I n s-> ∀Q':Ex->St->Prop,(∀e s',TY I n Q e s'->Q' e s')->W P C b s Q')(n:Nat)(s:St)(hI:I n s):W P C (.loop b) s Q:=Gu I (fun n s hI=>h n s hI _ (fun _ _ h=>h)) n s hI
theorem MO(R:St->Prop){a b:Code}{s:St}(h1:W P C a s fun e s'=>e= .norm/\R s')(h2: ∀s',R s'->W P C b s' Q):W P C (.seq a b) s Q:=by refine Zf fun b' hb=>h1.mono ?_;rintro e s' ⟨rfl,hr⟩;subst hb;exact h2 s' hr
end
end
end Go.Proofs.YtmkfecoeghokfaaGreatDoor.Ev
namespace Go.Proofs.YtmkfecoeghokfaaGreatDoor
open Go Ev
set_option linter.unusedVariables false
set_option linter.unusedSimpArgs false
noncomputable section
set_option maxHeartbeats 2000000
set_option maxRecDepth 20000
section
attribute [-simp] Int.natCast_add Int.natCast_mul Int.natCast_ediv Int.natCast_emod Int.natCast_pow
attribute [local simp] strip ZQ Xt gW Z6 Yh ZU Yi ZG Yj Zy Zz Zj ZF Yd ZL Z3 Zm ZE Zk Zi Z2 Z1 YK Zr Yg Y1 YT ZJ plain ZM Tr.get_set YU Zt Yw ZS sameKind undef ZZ ZD Yb Zv ZA Yf ZT parts XH DW Ym ZX ZV Zs ZI ZR XL Yk Zo ZP ZW ZO
section
abbrev Zd:Nat:=18446744073709551616
theorem Z9:2<=Zd:=by decide
def XS(a b:Nat):Int:=if a<b then-1 else if b<a then 1 else 0
theorem MH{xs ys:List Nat}(hx:YS xs=xs)(hy:YS ys=ys)(dx:YD Zd xs)(dy:YD Zd ys)(h:xs.length<ys.length):dv Zd xs<dv Zd ys:=by
 have h1:=Ws dx;have e:ys=ds Zd (dv Zd ys):=by rw[<-Xl Z9 dy,hy]
 have TQ:dv Zd ys≠0:=by intro h0;rw[h0,XT]at e;rw[e]at h;simp at h
 have h2:=fV Z9 TQ;rw[<-e]at h2;have h3:Zd^xs.length<=Zd^(ys.length-1):=Nat.pow_le_pow_right (by decide) (by omega);omega
attribute [local simp] strip ZQ Xt gW Z6 Yh ZU Yi ZG Yj Zy Zz Zj ZF Yd ZL ZE Zk Yg Y1 YT ZJ plain ZM Tr.get_set YU Zt Yw ZS sameKind Zc undef ZZ ZD Yb Zv ZA Yf ZT
theorem UJ{va vb:Value}{xs ys:List Nat}{H:AH}(ha:Sl H va xs)(hb:Sl H vb ys)(dx:YD Zd xs)(dy:YD Zd ys)(lx:xs.length<=17592186044416)(ly:ys.length<=17592186044416):CW Tryz.prog Zw 162 [va,vb] H fun v H'=>H'=H/\v= .int .i64 (XS (dv Zd xs) (dv Zd ys)):=by
 refine Z8 45 Tryz.func162 ?_;obtain⟨v1,H1,Q9,e1,s1⟩:=Vc ha (by omega);obtain⟨v2,H2,N7,e2,s2⟩:=Vc hb (by omega);subst e1;subst e2;rw[<-WX Zd xs,<-WX Zd ys];have tx:=SD xs;have ty:=SD ys;have dx:=XK dx;have dy:=XK dy;have lx:(YS xs).length<=17592186044416:=Nat.le_trans (XJ xs) lx;have ly:(YS ys).length<=17592186044416:=Nat.le_trans (XJ ys) ly;generalize YS xs=xs at*;generalize YS ys=ys at*;have l1:=s1.len Zv;have l2:=s2.len Zv;apply Zb;intro b1 Ze;simp;subst Ze;apply Zb;intro b1 Ze;simp[Q9,N7];subst Ze;apply Zf;intro b1 Ze;apply Zb;intro b2 Zp;simp[l1,l2];subst Zp;by_cases hl:xs.length=ys.length
 ·refine Za (t:=false) (by simp[hl]) ?_;apply Zl;subst Ze;apply Zf;intro b1 Ze;apply Zf;intro b2 Zp;have mL:IntKind.i64.wrap ((xs.length:Int)-1)=(xs.length:Int)-1:=by rw[IntKind.wrap_i64];omega
  apply Zg;simp[l1,mL];subst Zp;apply Zu;refine Gu (fun n s=>s.k=45/\s.H=H2/\s.tm.get 0=some v1/\s.tm.get 1=some v2/\s.tm.get 5=some (.int .i64 ((n:Int)-1))/\n<=xs.length/\xs.drop n=ys.drop n) ?_ xs.length _ ⟨rfl,rfl,by simp,by simp,by simp,Nat.le_refl _,by rw[List.drop_length,hl,List.drop_length]⟩;rintro n ⟨k,tm,H'⟩ ⟨h2,h3,h4,h5,h6,h7,h8⟩;simp only at h2 h3 h4 h5 h6;subst h2;subst h3;apply Zf;intro b2 Zp;apply Zb;intro b3 ZH;simp[h4,h5,h6];subst ZH;have e44:xs.drop n=ys.drop n:=h8;by_cases hz:n=0
  ·subst hz;refine Za (t:=false) (by simp) ?_;apply YZ;left;refine⟨rfl,?_⟩;subst Ze;apply Zb;intro b4 Yt;simp;subst Yt;apply Zq;have:xs=ys:=by simpa using h8
   simp[XS,this]
  ·have e:(n:Int)-1=((n-1:Nat):Int):=by omega
   refine Za (t:=true) (by simp;omega) ?_;apply Zl;subst Zp;have i1:n-1<xs.length:=by omega
   have i2:n-1<ys.length:=by omega
   have a1:=s1.adr Zv (k:= .i64) i1;have a2:=s2.adr Zv (k:= .i64) i2;have d1:=s1.load i1;have d2:=s2.load i2;rw[e]at h6;have sx:xs=xs.take (n-1)++xs[n-1]::xs.drop n:=by have:=List.take_append_drop (n-1) xs;rw[List.drop_eq_getElem_cons i1,show n-1+1=n by omega]at this;exact this.symm
   have sy:ys=ys.take (n-1)++ys[n-1]::ys.drop n:=by have:=List.take_append_drop (n-1) ys;rw[List.drop_eq_getElem_cons i2,show n-1+1=n by omega]at this;exact this.symm
   have zB:(xs.take (n-1)).length=(ys.take (n-1)).length:=by simp[List.length_take,hl]
   apply Zf;intro b4 Yt;apply Zu;apply Zf;intro b5 Ui;apply Zf;intro b6 RX;apply Tq (by kernel_rfl);simp[h4,h5,h6,a1,a2,d1,d2];subst RX;by_cases YR:xs[n-1]<ys[n-1]
   ·refine Za (t:=true) (by simp;omega) ?_;apply Zb;intro b7 ES;simp;subst ES;apply Zq;have hd:dv Zd xs<dv Zd ys:=by rw[sx,sy,h8];exact GS (dx.take _) (dy.take _) zB YR _
    simp[Ys,Ye,TY,XS,hd]
   ·refine Za (t:=false) (by simp;omega) ?_;apply Zl;subst Ui;apply Zf;intro b6 RX;apply Tq (by kernel_rfl);simp[h4,h5,h6,a1,a2,d1,d2];subst RX;by_cases yX:ys[n-1]<xs[n-1]
    ·refine Za (t:=true) (by simp;omega) ?_;apply Zb;intro b7 ES;simp;subst ES;apply Zq;have hd:dv Zd ys<dv Zd xs:=by rw[sx,sy,h8];exact GS (dy.take _) (dx.take _) zB.symm yX _
     have Ib: ¬dv Zd xs<dv Zd ys:=by omega
     simp[Ys,Ye,TY,XS,hd,Ib]
    ·refine Za (t:=false) (by simp;omega) ?_;apply Zl;subst Yt;have Pd:IntKind.i64.wrap (((n-1:Nat):Int)-1)=((n-1:Nat):Int)-1:=by rw[IntKind.wrap_i64];omega
     apply Zg;simp[h6,Pd];refine⟨n-1,by omega,rfl,rfl,?_⟩;simp[h4,h5];refine⟨by omega,?_⟩;rw[List.drop_eq_getElem_cons i1,List.drop_eq_getElem_cons i2,show n-1+1=n by omega,h8];congr 1;omega
 ·refine Za (t:=true) (by simp;omega) ?_;apply Zf;intro b2 Zp;apply Zb;intro b3 ZH;simp[l1,l2];subst ZH;by_cases YR:xs.length<ys.length;·refine Za (t:=true) (by simp;omega) ?_;apply Zb;intro b3 ZH;simp;subst ZH;apply Zq;have:=MH tx ty dx dy YR;simp[Ys,XS,this]
  ·refine Za (t:=false) (by simp;omega) ?_;apply Zl;subst Zp;apply Zb;intro b2 Zp;simp;subst Zp;apply Zq;have:=MH ty tx dy dx (by omega);have h2: ¬dv Zd xs<dv Zd ys:=by omega
   simp[Ys,XS,this,h2]
end
section
def Zn(n:Nat):Nat:=if n=0 then 0 else Nat.log2 n+1
theorem WG(n:Nat):n<2^Zn n:=by
 unfold Zn;split;·omega
 ·exact Nat.lt_log2_self
theorem W7{n:Nat}(h:n≠0):2^(Zn n-1)<=n:=by unfold Zn;rw[if_neg h];exact Nat.log2_self_le h
theorem aX{n k:Nat}(h1:n<2^k)(h2:k=0\/2^(k-1)<=n):Zn n=k:=by
 rcases h2 with h2|h2
 ·subst h2;have:n=0:=by simpa using h1
  subst this;rfl
 ·have hn:n≠0:=by have:=Nat.two_pow_pos (k-1);omega
  have a:2^(Zn n-1)<2^k:=Nat.lt_of_le_of_lt (W7 hn) h1;have b:2^(k-1)<2^Zn n:=Nat.lt_of_le_of_lt h2 (WG n);have a':=(Nat.pow_lt_pow_iff_right (by decide)).mp a;have b':=(Nat.pow_lt_pow_iff_right (by decide)).mp b;omega
theorem Tg{n k:Nat}(h:2^k<=n):Zn n=k+Zn (n/2^k):=by
 have hk:=Nat.two_pow_pos k;have hq:n/2^k≠0:=by have:=Nat.div_pos h hk;omega
 apply aX;·rw[Nat.pow_add,Nat.mul_comm];have:=WG (n/2^k);exact(Nat.div_lt_iff_lt_mul hk).mp this
 ·right;have h1:=W7 hq;have h2:Zn (n/2^k)≠0:=by unfold Zn;rw[if_neg hq];omega
  rw[show k+Zn (n/2^k)-1=(Zn (n/2^k)-1)+k by omega,Nat.pow_add];exact(Nat.le_div_iff_mul_le hk).mp h1
theorem PX(x k:Nat):(x:Int).fdiv (2^k)=((x/2^k:Nat):Int):=by rw[Int.fdiv_eq_ediv_of_nonneg _ (Int.le_of_lt (Int.pow_pos (by decide)))];rw[Int.natCast_ediv,Int.natCast_pow];rfl
theorem KF:IntKind.u64.bits=64:=rfl
def jQ(s:ByteArray):Bool:=(List.range 256).all fun n=>match s[n]? with|some b=>Nat.beq b.toNat (Zn n)|none=>false
theorem jP{s:ByteArray}(h:jQ s=true){n:Nat}(hn:n<256):Jz Tryz.prog 9 (.string s) (.int .u8 (n:Int))=some (.int .u8 (Zn n:Int)):=by
 unfold jQ at h;rw[List.all_eq_true]at h;have:=h n (List.mem_range.mpr hn);split at this;·rename_i b hb;have e:=Nat.eq_of_beq_eq_true this;unfold Jz;simp only[Tryz.underlying9];rw[if_pos (by omega)];simp only[Int.toNat_natCast,hb,e]
 ·cases this
attribute [local simp] strip ZQ Xt gW Z6 Yh ZU Yi ZG Yj Zy Zz Zj ZF Yd ZL ZE Zk Yg Y1 YT ZJ plain ZM Tr.get_set YU Zt Yw ZS sameKind Zc undef ZZ ZD Yb Zv ZA Yf ZT Y3
theorem JV{x:Nat}{H:AH}(hx:x<Zd):CW Tryz.prog Zw 163 [.int .u64 (x:Int)] H fun v H'=>H'=H/\v= .int .i64 (Zn x:Int):=by
 have hx:x<18446744073709551616:=hx;refine Z8 25 Tryz.func163 ?_;apply Zb;intro b1 Ze;simp;subst Ze;refine MO (fun s=>s.k=25/\s.H=H/\ ∃y n:Nat,s.tm.get 0=some (.int .u64 (y:Int))/\s.tm.get 2=some (.int .i64 (n:Int))/\y<4294967296/\n<=32/\Zn x=n+Zn y) ?_ ?_
 ·apply Zb;intro b1 Ze;simp;subst Ze;by_cases h:4294967296<=x;·have f1:(x:Int).fdiv 4294967296=((x/4294967296:Nat):Int):=PX x 32;have f2:Zn x=32+Zn (x/4294967296):=Tg (k:=32) h;refine Za (t:=true) (by simp;omega) ?_;apply Zb;intro b1 Ze;simp[KF,f1];subst Ze;apply Zg;simp;exact⟨x/4294967296,rfl,32,rfl,by omega,by omega,f2⟩
  ·refine Za (t:=false) (by simp;omega) ?_;apply Zl;simp;exact⟨x,rfl,0,rfl,by omega,by omega,by omega⟩
 rintro⟨k,tm,H'⟩ ⟨h2,h3,y,n,h4,h5,h6,h7,h8⟩;simp only at h2 h3 h4 h5;subst h2;subst h3;refine MO (fun s=>s.k=25/\s.H=H'/\ ∃y n:Nat,s.tm.get 0=some (.int .u64 (y:Int))/\s.tm.get 2=some (.int .i64 (n:Int))/\y<65536/\n<=48/\Zn x=n+Zn y) ?_ ?_
 ·apply Zb;intro b1 Ze;simp[h4,h5];subst Ze;by_cases h:65536<=y
  ·have f1:(y:Int).fdiv 65536=((y/65536:Nat):Int):=PX y 16;have f2:Zn y=16+Zn (y/65536):=Tg (k:=16) h;have hw:IntKind.i64.wrap ((n:Int)+16)=((n+16:Nat):Int):=by rw[IntKind.wrap_i64];omega
   refine Za (t:=true) (by simp;omega) ?_;apply Zb;intro b1 Ze;simp[h4,h5,KF,f1];subst Ze;apply Zg;simp[h4,h5,hw];exact⟨y/65536,rfl,n+16,rfl,by omega,by omega,by omega⟩
  ·refine Za (t:=false) (by simp;omega) ?_;apply Zl;simp[h4,h5];exact⟨y,rfl,n,rfl,by omega,by omega,h8⟩
 rintro⟨k,tm,H'⟩ ⟨h2,h3,y,n,h4,h5,h6,h7,h8⟩;simp only at h2 h3 h4 h5;subst h2;subst h3;refine MO (fun s=>s.k=25/\s.H=H'/\ ∃y n:Nat,s.tm.get 0=some (.int .u64 (y:Int))/\s.tm.get 2=some (.int .i64 (n:Int))/\y<256/\n<=56/\Zn x=n+Zn y) ?_ ?_
 ·apply Zb;intro b1 Ze;simp[h4,h5];subst Ze;by_cases h:256<=y
  ·have f1:(y:Int).fdiv 256=((y/256:Nat):Int):=PX y 8;have f2:Zn y=8+Zn (y/256):=Tg (k:=8) h;have hw:IntKind.i64.wrap ((n:Int)+8)=((n+8:Nat):Int):=by rw[IntKind.wrap_i64];omega
   refine Za (t:=true) (by simp;omega) ?_;apply Zb;intro b1 Ze;simp[h4,h5,KF,f1];subst Ze;apply Zg;simp[h4,h5,hw];exact⟨y/256,rfl,n+8,rfl,by omega,by omega,by omega⟩
  ·refine Za (t:=false) (by simp;omega) ?_;apply Zl;simp[h4,h5];exact⟨y,rfl,n,rfl,by omega,by omega,h8⟩
 rintro⟨k,tm,H'⟩ ⟨h2,h3,y,n,h4,h5,h6,h7,h8⟩;simp only at h2 h3 h4 h5;subst h2;subst h3;apply Zb;intro b1 Ze;have hb8:Zn y<=8:=by
  rcases Nat.lt_or_ge 8 (Zn y)with h|h
  ·have h0:y≠0:=by rintro rfl;simp[Zn]at h
   have a:=W7 h0;have b:2^8<=2^(Zn y-1):=Nat.pow_le_pow_right (by decide) (by omega);omega
  ·exact h
 generalize hs:ByteArray.mk _=s;have ht:jQ s=true:=by rw[<-hs];kernel_rfl
 have e1:=jP ht h6;have e2:IntKind.u8.wrap (y:Int)=(y:Int):=by rw[IntKind.wrap_u8];omega
 have e3:IntKind.i64.wrap (Zn y:Int)=(Zn y:Int):=P1 (by omega);have e4:IntKind.i64.wrap ((n:Int)+(Zn y:Int))=(Zn x:Int):=by rw[IntKind.wrap_i64,h8];omega
 simp[h4,h5,U9,Tryz.underlying101,Tryz.underlying5,Tryz.underlying3,e1,e2,e3,e4];subst Ze;apply Zq;simp
end
section
theorem Qd(x y c:Nat)(H:AH)(hc:c<=1):ZY Tryz.prog Zw 203 [.int .u64 (x:Int),.int .u64 (y:Int),.int .u64 (c:Int)] H=some (.tuple #[.int .u64 (((x+y+c)%Zd:Nat):Int),.int .u64 (((x+y+c)/Zd:Nat):Int)],H):=by
 rw[Wj];unfold YC Wa;rw[show Nat.beq 203 Zw.add=true from rfl,cond_true];have:PK [.int .u64 (x:Int),.int .u64 (y:Int),.int .u64 (c:Int)]=some (x,y,c):=by simp[PK];omega
 rw[this];rfl
theorem QL(x y c:Nat)(H:AH)(hc:c<=1):ZY Tryz.prog Zw 206 [.int .u64 (x:Int),.int .u64 (y:Int),.int .u64 (c:Int)] H=some (.tuple #[.int .u64 (((x+Zd-y-c)%Zd:Nat):Int),.int .u64 ((if x<y+c then 1 else 0:Nat):Int)],H):=by
 rw[Wj];unfold YC Wa;rw[show Nat.beq 206 Zw.add=false from rfl,cond_false,show Nat.beq 206 Zw.sub=true from rfl,cond_true];have:PK [.int .u64 (x:Int),.int .u64 (y:Int),.int .u64 (c:Int)]=some (x,y,c):=by simp[PK];omega
 rw[this];by_cases h:x<y+c
 ·have:Nat.blt x (y+c)=true:=by rw[Nat.blt_eq];exact h
  simp only[this,cond_true,if_pos h];rfl
 ·have:Nat.blt x (y+c)=false:=by cases hb:Nat.blt x (y+c)with|false=>rfl|true=>rw[Nat.blt_eq]at hb;exact absurd hb h
  simp only[this,cond_false,if_neg h];rfl
attribute [local simp] strip ZQ Xt gW Z6 Yh ZU Yi ZG Yj Zy Zz Zj ZF Yd ZL ZE Zk Yg Zi Y1 YT ZJ plain ZM Tr.get_set YU Zt Yw ZS sameKind Zc undef ZZ ZD Yb Zv ZA Yf ZT Y3 parts
theorem A1{x:Nat}{H:AH}(hx:x<Zd):CW Tryz.prog Zw 216 [.int .u64 (x:Int)] H fun v H'=>H'=H/\v= .int .i64 (64-(Zn x:Int)):=by
 refine Z8 6 Tryz.func216 ?_;obtain⟨v1,H1,Q9,rfl,rfl⟩:=JV (H:=H) hx;have hb:Zn x<=64:=by
  rcases Nat.lt_or_ge 64 (Zn x)with h|h
  ·have h0:x≠0:=by rintro rfl;simp[Zn]at h
   have a:=W7 h0;have b:2^64<=2^(Zn x-1):=Nat.pow_le_pow_right (by decide) (by omega);have hx:x<18446744073709551616:=hx;omega
  ·exact h
 have hw:IntKind.i64.wrap (64-(Zn x:Int))=64-(Zn x:Int):=by rw[IntKind.wrap_i64];omega
 apply Zb;intro b1 Ze;simp;subst Ze;apply Zb;intro b1 Ze;simp[Q9,hw];subst Ze;apply Zq;simp
theorem lS{xs:List Nat}(dx:YD Zd xs)(tx:YS xs=xs)(h:0<xs.length):Zn (dv Zd xs)=64*(xs.length-1)+Zn (xs[xs.length-1]):=by
 have hs:xs=xs.take (xs.length-1)++[xs[xs.length-1]]:=by have:=List.take_append_getElem (l:=xs) (i:=xs.length-1) (by omega);rw[this,show xs.length-1+1=xs.length by omega,List.take_length]
 have hl:(xs.take (xs.length-1)).length=xs.length-1:=by rw[List.length_take];omega
 generalize hz:xs[xs.length-1]=z at*;have zZ:z≠0:=by intro h0;rw[h0]at hs;have:=congrArg YS hs;rw[VB,tx]at this;have:=congrArg List.length this;have:=XJ (xs.take (xs.length-1));omega
 have e:dv Zd xs=dv Zd (xs.take (xs.length-1))+2^(64*(xs.length-1))*z:=by have:=congrArg (dv Zd) hs;rw[this,Yr,hl];simp only[dv,Nat.mul_zero,Nat.add_zero];rw[Nat.pow_mul]
 have PQ:dv Zd (xs.take (xs.length-1))<2^(64*(xs.length-1)):=by have:=Ws (dx.take (xs.length-1));rw[hl]at this;rw[Nat.pow_mul];exact this
 have SM:2^(64*(xs.length-1))<=dv Zd xs:=by rw[e];have:2^(64*(xs.length-1))*1<=2^(64*(xs.length-1))*z:=Nat.mul_le_mul_left _ (by omega);omega
 rw[Tg SM];congr 2;rw[e,Nat.add_mul_div_left _ _ (Nat.two_pow_pos _),Nat.div_eq_of_lt PQ,Nat.zero_add]
theorem Vk{v:Value}{xs:List Nat}{H:AH}(hs:Sl H v xs)(dx:YD Zd xs)(hlen:xs.length<=17592186044416):CW Tryz.prog Zw 123 [v] H fun v' H'=>H'=H/\v'= .int .i64 (Zn (dv Zd xs):Int):=by
 refine Z8 20 Tryz.func123 ?_;obtain⟨v1,H1,Q9,e1,s1⟩:=Vc hs (by omega);subst e1;rw[<-WX Zd xs];have tx:=SD xs;have dx:=XK dx;have lx:(YS xs).length<=17592186044416:=Nat.le_trans (XJ xs) hlen;generalize YS xs=xs at*;have l1:=s1.len Zv;apply Zb;intro b1 Ze;simp;subst Ze;apply Zb;intro b1 Ze;simp[Q9];subst Ze;apply Zf;intro b1 Ze;apply Zb;intro b2 Zp;simp[l1];subst Zp;by_cases h0:xs.length=0;·obtain rfl:xs=[]:=List.length_eq_zero_iff.mp h0;refine Za (t:=true) (by simp) ?_;apply Zb;intro b2 Zp;simp;subst Zp;apply Zq;simp[Ys,dv,Zn]
 ·refine Za (t:=false) (by simp;intro h;apply h0;simp[h]) ?_;apply Zl;subst Ze;have i1:xs.length-1<xs.length:=by omega
  have a1:=s1.adr Zv (k:= .i64) i1;have d1:=s1.load i1;have hw:IntKind.i64.wrap ((xs.length:Int)-1)=((xs.length-1:Nat):Int):=Lp (by omega) (by omega);have hx:xs[xs.length-1]<Zd:=dx.get (List.getElem?_eq_getElem i1);obtain⟨v3,H3,ym,e3,e4⟩:=JV (H:=H1) hx;subst e3;subst e4;have hb:=lS dx tx (by omega);have hb64:Zn (xs[xs.length-1])<=64:=by
   rcases Nat.lt_or_ge 64 (Zn (xs[xs.length-1]))with h|h
   ·have h0:xs[xs.length-1]≠0:=by intro e;rw[e]at h;simp[Zn]at h
    have a:=W7 h0;have b:2^64<=2^(Zn (xs[xs.length-1])-1):=Nat.pow_le_pow_right (by decide) (by omega);have hx:xs[xs.length-1]<18446744073709551616:=hx;omega
   ·exact h
  have qu:IntKind.i64.wrap (64*((xs.length-1:Nat):Int))=64*((xs.length-1:Nat):Int):=by rw[IntKind.wrap_i64];omega
  have hw3:IntKind.i64.wrap (64*((xs.length-1:Nat):Int)+(Zn (xs[xs.length-1]):Int))=(Zn (dv Zd xs):Int):=by rw[IntKind.wrap_i64,hb];omega
  apply Zb;intro b2 Zp;simp[l1,hw,qu,a1,d1,ym,hw3];subst Zp;apply Zq;simp
theorem Tl{x:Nat}{H:AH}(hx:x<Zd):CW Tryz.prog Zw 164 [.int .u64 (x:Int)] H fun v H'=>Zh H H'/\Yl H.n H' v (ds Zd x):=by
 refine Z8 7 Tryz.func164 ?_;apply Zb;intro b1 Ze;simp;subst Ze;apply Zf;intro b1 Ze;apply Zb;intro b2 Zp;simp;subst Zp;by_cases h0:x=0;·subst h0;refine Za (t:=true) (by simp) ?_;apply Zb;intro b2 Zp;simp;subst Zp;apply Zq;simp[Ys,XT];exact⟨.refl H,.nil⟩
 ·refine Za (t:=false) (by simp;omega) ?_;apply Zl;subst Ze;have e:ds Zd x=[x]:=by rw[TM Z9 h0,Nat.mod_eq_of_lt hx,Nat.div_eq_of_lt hx,XT]
  have Ck:Yz Tryz.prog H 30 1 [(0,.int .u64 (x:Int))]=some (.slice (some ⟨H.n,0,none⟩) 1 1,H.new 1 ([x].map Vr)):=by unfold Yz;simp only[Zay,J9];kernel_rfl
  apply Zb;intro b2 Zp;simp[Ck];subst Zp;apply Zq;simp;rw[e];exact⟨.new _ _ _,Yl.new H [x]⟩
end
theorem Ia(n:Nat):zeros (Value.int .u64 0).cells n=(List.replicate n 0).map Vr:=by
 unfold zeros;apply List.ext_getElem?;intro i;rw[List.getElem?_map,List.getElem?_map,List.getElem?_replicate];by_cases h:i<n;·rw[if_pos h,List.getElem?_range h];simp[Vr,Value.cells,Nat.mod_one]
 ·rw[if_neg h,List.getElem?_eq_none (by simp;omega)];rfl
theorem YH{H:AH}{t:TypeId}(ht:LT t){n:Nat}(hn:n<=17592186044416): ∃v H',VK Tryz.prog H t (.int .i64 (n:Int)) (.int .i64 (n:Int))=some (v,H')/\Zh H H'/\Yl H.n H' v (List.replicate n 0)/\H'.n=H.n+1:=by
 refine⟨.slice (some ⟨H.n,0,none⟩) n n,H.new 1 ((List.replicate n 0).map Vr),?_,.new _ _ _,?_,rfl⟩;·unfold VK;simp only[ht.2,J9];rw[if_pos (by omega)];simp only[Int.toNat_natCast,Nat.mul_one,Ia]
 ·have:=Yl.new H (List.replicate n 0);rwa[List.length_replicate]at this
theorem Yl.store{n:Nat}{H:AH}{v:Value}{xs:List Nat}(h:Yl n H v xs){i:Nat}(hi:i<xs.length)(y:Nat): ∃H',YX Tryz.prog H 101 (adr v i) (.int .u64 (y:Int))=some H'/\Yl n H' v (xs.set i y)/\H'.n=H.n/\ ∀H0,Zh H0 H->H0.n<=n->Zh H0 H':=by cases h with
 |nil=>cases hi
 |mk b o cap xs cs h1 h2 h3 h4 h5 h6=>
  have hlen:Nat.ble (o+i+1) cs.length=true:=Nat.ble_eq.mpr (by omega);have e0:(Value.int .u64 (y:Int)).cells=#[.int .u64 (y:Int)]:=rfl;have hw:H.write b (o+i) [.int .u64 (y:Int)]=some { n:=H.n,lw:=min H.lw b,t:=H.t.set b (.rw 1 (cs.take (o+i)++[.int .u64 (y:Int)]++cs.drop (o+i+1))) } :=by rw[AH.write_def,h4];simp only[List.length_singleton,hlen,Bool.true_and];rfl
  refine⟨{ n:=H.n,lw:=min H.lw b,t:=H.t.set b (.rw 1 (cs.take (o+i)++[.int .u64 (y:Int)]++cs.drop (o+i+1))) },?_,?_,rfl,?_⟩;·unfold YX Go.Proofs.YtmkfecoeghokfaaGreatDoor.adr;simp only[Mz,e0];rw[show Nat.beq (#[Value.int .u64 (y:Int)]:Array Value).size 1=true from rfl,cond_true];exact hw
  ·have hl:(xs.set i y).length=xs.length:=List.length_set;rw[<-hl];refine .mk b o cap _ (cs.take (o+i)++[.int .u64 (y:Int)]++cs.drop (o+i+1)) (by omega) h2 h3 ?_ ?_ ?_;·unfold AH.blk;simp only[Tr.get_set,if_true]
   ·simp only[List.length_append,List.length_take,List.length_drop,List.length_singleton];omega
   ·intro j x hj;rw[List.getElem?_set]at hj;by_cases e:i=j;·subst e;rw[if_pos rfl,if_pos hi]at hj;cases hj;rw[List.append_assoc,List.getElem?_append_right (by rw[List.length_take];omega)];rw[List.length_take,show o+i-min (o+i) cs.length=0 by omega];rfl
    ·rw[if_neg e]at hj;have:=h6 j x hj;rcases Nat.lt_or_ge (o+j) (o+i)with YR|SM;·rw[List.append_assoc,List.getElem?_append_left (by rw[List.length_take];omega),List.getElem?_take,if_pos YR];exact this
     ·rw[List.getElem?_append_right (by simp only[List.length_append,List.length_take,List.length_singleton];omega),List.getElem?_drop];simp only[List.length_append,List.length_take,List.length_singleton];rw[show o+i+1+(o+j-(min (o+i) cs.length+1))=o+j by omega];exact this
  ·intro H0 k hn;refine⟨k.n,?_,fun j hj=>?_⟩;·have:=k.lw;show min H0.lw H0.n<=min H.lw b;omega
   ·have:j≠b:=by omega
    rw[<-k.blk j hj];unfold AH.blk;simp only[Tr.get_set,if_neg this]
theorem MJ{x:Nat}(h:x<Zd):(BitVec.ofInt 64 (x:Int)).toNat=x:=by have h:x<18446744073709551616:=h;simp[BitVec.toNat_ofInt];omega
theorem JL{x y:Nat}(hx:x<Zd)(hy:y<Zd):Zc .or .u64 (x:Int) (y:Int)=some (.int .u64 ((x|||y:Nat):Int)):=by
 have h:x|||y<2^64:=Nat.or_lt_two_pow hx hy;have e:(BitVec.ofInt 64 (x:Int)|||BitVec.ofInt 64 (y:Int)).toNat=x|||y:=by rw[BitVec.toNat_or,MJ hx,MJ hy]
 show some (Value.int .u64 (IntKind.u64.wrap ((BitVec.ofInt 64 (x:Int)|||BitVec.ofInt 64 (y:Int)).toNat:Nat)))=_;rw[e,IntKind.wrap_u64];have h:x|||y<18446744073709551616:=h;rw[Int.emod_eq_of_lt (by omega) (by omega)]
theorem lf{x y:Nat}(hx:x<Zd)(hy:y<Zd):Zc .and .u64 (x:Int) (y:Int)=some (.int .u64 ((x&&&y:Nat):Int)):=by
 have h:x&&&y<2^64:=Nat.and_lt_two_pow _ hy;have e:(BitVec.ofInt 64 (x:Int)&&&BitVec.ofInt 64 (y:Int)).toNat=x&&&y:=by rw[BitVec.toNat_and,MJ hx,MJ hy]
 show some (Value.int .u64 (IntKind.u64.wrap ((BitVec.ofInt 64 (x:Int)&&&BitVec.ofInt 64 (y:Int)).toNat:Nat)))=_;rw[e,IntKind.wrap_u64];have h:x&&&y<18446744073709551616:=h;rw[Int.emod_eq_of_lt (by omega) (by omega)]
theorem Sq{x s:Nat}(hs:s<=64):Y3 .shl .u64 (x:Int) (s:Int)=some (.int .u64 ((x*2^s%Zd:Nat):Int)):=by unfold Y3;rw[if_neg (by omega)];simp only[show IntKind.u64.bits=64 from rfl,Int.toNat_natCast,Nat.min_eq_left hs,IntKind.wrap_u64];congr 2
theorem Rt{x s:Nat}(hs:s<=64):Y3 .shr .u64 (x:Int) (s:Int)=some (.int .u64 ((x/2^s:Nat):Int)):=by unfold Y3;rw[if_neg (by omega)];simp only[show IntKind.u64.bits=64 from rfl,Int.toNat_natCast,Nat.min_eq_left hs];rw[PX]
theorem Ts{x y:Nat} :Zc .add .u64 (x:Int) (y:Int)=some (.int .u64 (((x+y)%Zd:Nat):Int)):=by unfold Zc;simp only[IntKind.wrap_u64];congr 2
theorem Sn{x y:Nat} :Zc .mul .u64 (x:Int) (y:Int)=some (.int .u64 ((x*y%Zd:Nat):Int)):=by unfold Zc;simp only[IntKind.wrap_u64];congr 2
theorem Wm{x y:Nat}(h:x+y<9223372036854775808):Zc .add .i64 (x:Int) (y:Int)=some (.int .i64 ((x+y:Nat):Int)):=by
 show some (Value.int .i64 (IntKind.i64.wrap ((x:Int)+(y:Int))))=_;have e:IntKind.i64.wrap ((x:Int)+(y:Int))=((x+y:Nat):Int):=by rw[IntKind.wrap_i64];omega
 rw[e]
theorem Yy{x:Nat}(h:x<9223372036854775800):Zc .add .i64 (x:Int) 1=some (.int .i64 ((x+1:Nat):Int)):=by have:=Wm (x:=x) (y:=1) (by omega);simpa using this
theorem Oq{x y:Nat}(h:x<9223372036854775808)(hy:y<=x):Zc .sub .i64 (x:Int) (y:Int)=some (.int .i64 ((x-y:Nat):Int)):=by
 show some (Value.int .i64 (IntKind.i64.wrap ((x:Int)-(y:Int))))=_;have e:IntKind.i64.wrap ((x:Int)-(y:Int))=((x-y:Nat):Int):=by rw[IntKind.wrap_i64];omega
 rw[e]
theorem Um{x:Nat}(h:x<9223372036854775808)(hx:0<x):Zc .sub .i64 (x:Int) 1=some (.int .i64 ((x-1:Nat):Int)):=by have:=Oq (x:=x) (y:=1) h hx;simpa using this
theorem Sr{x y:Nat}(hx:x<Zd)(hy:y<=x):Zc .sub .u64 (x:Int) (y:Int)=some (.int .u64 ((x-y:Nat):Int)):=by
 have hx:x<18446744073709551616:=hx;show some (Value.int .u64 (IntKind.u64.wrap ((x:Int)-(y:Int))))=_;have e:IntKind.u64.wrap ((x:Int)-(y:Int))=((x-y:Nat):Int):=by rw[IntKind.wrap_u64];omega
 rw[e]
theorem ZB{k:IntKind}{x y:Nat} :Zc .lss k (x:Int) (y:Int)=some (.bool (decide (x<y))):=by show some (Value.bool (decide ((x:Int)<(y:Int))))=_;congr 2;simp
theorem Ob{k:IntKind}{x y:Nat} :Zc .leq k (x:Int) (y:Int)=some (.bool (decide (x<=y))):=by show some (Value.bool (decide ((x:Int)<=(y:Int))))=_;congr 2;simp
theorem Vp{k:IntKind}{x y:Nat} :Zc .gtr k (x:Int) (y:Int)=some (.bool (decide (y<x))):=by show some (Value.bool (decide ((x:Int)>(y:Int))))=_;congr 2;simp
theorem N2{k:IntKind}{x y:Nat} :Zc .geq k (x:Int) (y:Int)=some (.bool (decide (y<=x))):=by show some (Value.bool (decide ((x:Int)≥(y:Int))))=_;congr 2;simp
theorem P8{k:IntKind}{x y:Nat} :Zc .eql k (x:Int) (y:Int)=some (.bool (decide (x=y))):=by
 show some (Value.bool ((x:Int)==(y:Int)))=_;congr 2;by_cases h:x=y;·simp[h]
 ·have: ¬ (x:Int)=(y:Int):=by omega
  simp[h,this]
theorem Oh{k:IntKind}{x y:Nat} :Zc .neq k (x:Int) (y:Int)=some (.bool (decide (x≠y))):=by
 show some (Value.bool ((x:Int) !=(y:Int)))=_;congr 2;by_cases h:x=y;·simp[h]
 ·have: ¬ (x:Int)=(y:Int):=by omega
  simp[h,this]
theorem BU{s a b:Nat}(hb:b<2^s):(a*2^s)|||b=a*2^s+b:=by rw[Nat.mul_comm,Nat.two_pow_add_eq_or_of_lt hb]
end
section
attribute [-simp] Int.natCast_add Int.natCast_mul Int.natCast_ediv Int.natCast_emod Int.natCast_pow
attribute [local simp] strip ZQ Xt gW Z6 Yh ZU Yi ZG Yj Zy Zz Zj ZF Yd ZL Z3 Zm ZE Zk Zi Z2 Z1 YK Zr Yg Y1 YT ZJ plain ZM Tr.get_set YU Zt Yw ZS sameKind undef ZZ ZD Yb Zv ZA Yf ZT parts ZB XH DW Ym ZX ZV Zs ZI ZR XL Yk Zo ZP ZW ZO
theorem WC(L:List Nat)(c y:Nat)(R:List Nat){i:Nat}(h:L.length=i):(L++c::R).set i y=L++y::R:=by subst h;rw[List.set_append_right _ _ (Nat.le_refl _),Nat.sub_self];rfl
theorem N4(L:List Nat)(c:Nat)(R:List Nat){i:Nat}(h:L.length=i)(hi:i<(L++c::R).length):(L++c::R)[i]=c:=by subst h;simp
theorem Xk{xs:List Nat}{i:Nat}(h:i<xs.length):xs.take (i+1)=xs.take i++[xs[i]]:=(List.take_append_getElem (l:=xs) (i:=i) h).symm
theorem JU{x s:Nat}(hs:s<64):x*2^s=x*2^s%Zd+Zd*(x/2^(64-s)):=by
 have e:Zd=2^(64-s)*2^s:=by rw[<-Nat.pow_add,show 64-s+s=64 by omega]
 have h1:x*2^s/Zd=x/2^(64-s):=by rw[e,Nat.mul_div_mul_right _ _ (Nat.two_pow_pos s)]
 have:=Nat.mod_add_div (x*2^s) Zd;rw[h1]at this;exact this.symm
theorem E7{x s:Nat}(hs:s<64): ∃a,x*2^s%Zd=a*2^s/\a<2^(64-s):=by
 have e:Zd=2^(64-s)*2^s:=by rw[<-Nat.pow_add,show 64-s+s=64 by omega]
 refine⟨x%2^(64-s),?_,Nat.mod_lt _ (Nat.two_pow_pos _)⟩;rw[e,Nat.mul_mod_mul_right]
theorem iP{x c s:Nat}(hs:s<64)(hc:c<2^s):x*2^s%Zd+c<Zd:=by
 obtain⟨a,e1,h⟩:=E7 (x:=x) hs;have e:Zd=2^(64-s)*2^s:=by rw[<-Nat.pow_add,show 64-s+s=64 by omega]
 rw[e1,e];have:(a+1)*2^s<=2^(64-s)*2^s:=Nat.mul_le_mul_right _ h;rw[Nat.succ_mul]at this;omega
theorem aq{v:Value}{xs:List Nat}{H:AH}(hs:Sl H v xs)(dx:YD Zd xs)(hlen:xs.length<=17592186044000){s:Nat}(gh:s<64):CW Tryz.prog Zw 217 [v,.int .u64 (s:Int)] H fun v' H'=>Zh H H'/\ ∃ys,Yl H.n H' v' ys/\YD Zd ys/\ys.length=xs.length+1/\dv Zd ys=dv Zd xs*2^s:=by
 refine Z8 39 Tryz.func217 ?_;obtain⟨c0,H1,Qt,k1,o1,n1⟩:=YH (H:=H) Zv (n:=xs.length+1) (by omega);have l0:=hs.len Zv;apply Zb;intro b1 Ze;simp;subst Ze;apply Zb;intro b1 Ze;simp[l0,Yy (x:=xs.length) (by omega),Qt];subst Ze;apply Zf;intro b1 Ze;apply Zb;intro b2 Zp;simp[l0];subst Zp;apply Zu;refine Yv (fun m s'=>s'.k=39/\ ∃(i c:Nat) (L:List Nat),m+i=xs.length/\L.length=i/\c<2^s/\YD Zd L/\dv Zd L+Zd^i*c=dv Zd (xs.take i)*2^s/\Zh H s'.H/\Yl H.n s'.H c0 (L++c::List.replicate m 0)/\s'.tm.get 1=some (.int .u64 (s:Int))/\s'.tm.get 5=some c0/\s'.tm.get 12=some v/\s'.tm.get 13=some (.int .i64 (xs.length:Int))/\s'.tm.get 14=some (.int .i64 (i:Int))) ?_ xs.length _ ⟨rfl,0,0,[],by omega,rfl,Nat.two_pow_pos s,.nil _,by simp[dv],k1,o1,by simp,by simp,by simp,by simp,by simp⟩;rintro m ⟨k,tm,H2⟩ ⟨hk,i,c,L,NR,hL,hc,dL,hv,kH,own,t1,t5,t12,t13,t14⟩ Q' YF;simp only at hk t1 t5 t12 t13 t14 kH own;subst hk;apply Zb;intro b3 ZH;simp[t13,t14];subst ZH;apply Zf;intro b3 ZH;by_cases hi:i<xs.length
 ·refine Za (t:=true) (by simp[hi]) ?_;apply Zl;subst ZH;have s2:=hs.keep kH;have a1:=s2.adr Zv (k:= .i64) hi;have d1:=s2.load hi;have hx:xs[i]<Zd:=dx.get (List.getElem?_eq_getElem hi);obtain⟨m',rfl⟩: ∃m',m=m'+1:=⟨m-1,by omega⟩;have AU:(L++c::List.replicate (m'+1) 0).length=xs.length+1:=by simp;omega
  have Zag:=own.sl;have a2:=Zag.adr Zv (k:= .i64) (i:=i) (by omega);have d2:=Zag.load (i:=i) (by omega);rw[N4 L c _ hL]at d2;have AZ:c<Zd:=Nat.lt_of_lt_of_le hc (by show 2^s<=2^64;exact Nat.pow_le_pow_right (by decide) (by omega));have hm:xs[i]*2^s%Zd<Zd:=Nat.mod_lt _ (by decide);have hor:c|||xs[i]*2^s%Zd=xs[i]*2^s%Zd+c:=by obtain⟨a,e1,_⟩:=E7 (x:=xs[i]) gh;rw[Nat.or_comm,e1,BU hc]
  obtain⟨H3,SF,RS,n3,kp3⟩:=own.store (i:=i) (by omega) (xs[i]*2^s%Zd+c);rw[WC L c _ _ hL]at RS;have a3:=RS.sl.adr Zv (k:= .i64) (i:=i+1) (by simp;omega);obtain⟨H4,TP,VV,n4,zJ⟩:=RS.store (i:=i+1) (by simp;omega) (xs[i]/2^(64-s));have Sf:(L++(xs[i]*2^s%Zd+c)::List.replicate (m'+1) 0).set (i+1) (xs[i]/2^(64-s))=(L++[xs[i]*2^s%Zd+c])++(xs[i]/2^(64-s))::List.replicate m' 0:=by rw[show L++(xs[i]*2^s%Zd+c)::List.replicate (m'+1) 0=(L++[xs[i]*2^s%Zd+c])++0::List.replicate m' 0 by simp[List.replicate_succ]];exact WC _ _ _ _ (by simp[hL])
  rw[Sf]at VV;have sh2:Y3 .shr .u64 ((xs[i]/2:Nat):Int) ((63-s:Nat):Int)=some (.int .u64 ((xs[i]/2^(64-s):Nat):Int)):=by rw[Rt (by omega),Nat.div_div_eq_div_mul];rw[show 2*2^(63-s)=2^(64-s) by rw[<-Nat.pow_succ',show(63-s).succ=64-s by omega]]
  have sh1:Y3 .shr .u64 (xs[i]:Int) 1=some (.int .u64 ((xs[i]/2:Nat):Int)):=Rt (s:=1) (by omega);have sb:Zc .sub .u64 63 (s:Int)=some (.int .u64 ((63-s:Nat):Int)):=Sr (x:=63) (by decide) (by omega);apply Zf;intro b3 ZH;apply Zu;apply Zb;intro b4 Yt;simp[t12,t14,a1,d1];subst Yt;apply Zb;intro b4 Yt;simp[t1,t5,a2,d2,Sq (x:=xs[i]) (s:=s) (by omega),JL AZ hm,hor,SF];subst Yt;apply Zg;simp[t1,t5,Yy (x:=i) (by omega),sh1,sb,sh2,a3,TP];subst ZH;apply Zg;simp[t14,Yy (x:=i) (by omega)];apply YF;refine⟨m',by omega,rfl,i+1,xs[i]/2^(64-s),L++[xs[i]*2^s%Zd+c],by omega,by simp[hL],?_,?_,?_,zJ H (kp3 H kH (Nat.le_refl _)) (Nat.le_refl _),?_,?_⟩;·rw[Nat.div_lt_iff_lt_mul (Nat.two_pow_pos _),<-Nat.pow_add,show s+(64-s)=64 by omega];exact hx
  ·exact dL.append (.cons (iP gh hc) (.nil _))
  ·rw[Yr,hL,Xk hi,Yr,List.length_take,Nat.min_eq_left (by omega)];simp only[dv,Nat.mul_zero,Nat.add_zero];have e1:=JU (x:=xs[i]) gh;generalize hq:xs[i]*2^s%Zd=q at e1⊢;generalize xs[i]/2^(64-s)=r at e1⊢;rw[Nat.add_mul,<-hv,Nat.mul_assoc (Zd^i) xs[i],e1,Nat.pow_succ,Nat.mul_assoc (Zd^i) Zd r,Nat.mul_add,Nat.mul_add];omega
  ·simpa using VV
  ·exact⟨by simp[t1],by simp[t5],by simp[t12],by simp[t13],by simp⟩
 ·refine Za (t:=false) (by simp[hi]) ?_;apply YZ;apply YF;left;refine⟨rfl,?_⟩;have V5:i=xs.length:=by omega
  obtain rfl:m=0:=by omega
  subst Ze;apply Zb;intro b4 Yt;simp[t5];subst Yt;apply Zq;simp;refine⟨kH,L++[c],by simpa using own,?_,by simp[hL,V5],?_⟩;·have AZ:c<Zd:=Nat.lt_of_lt_of_le hc (by show 2^s<=2^64;exact Nat.pow_le_pow_right (by decide) (by omega));exact dL.append (.cons AZ (.nil _))
  ·rw[Yr,hL];simp only[dv,Nat.mul_zero,Nat.add_zero];rw[hv,V5,List.take_length]
theorem FB{x:Nat}(hx:x<Zd):Zc .and .u64 (x:Int) 4294967295=some (.int .u64 ((x%4294967296:Nat):Int)):=by have:=lf (x:=x) (y:=4294967295) hx (by decide);rw[show x&&&4294967295=x%4294967296 from Nat.and_two_pow_sub_one_eq_mod x 32]at this;exact this
theorem jv{x:Nat} :Y3 .shr .u64 (x:Int) 32=some (.int .u64 ((x/4294967296:Nat):Int)):=Rt (x:=x) (s:=32) (by omega)
theorem mul64_arith {x y : Nat} (hx : x < Zd) (hy : y < Zd) :
    let x0 := x % 4294967296; let x1 := x / 4294967296; let y0 := y % 4294967296; let y1 := y / 4294967296
    let w0 := x0 * y0 % Zd
    let t := (x1 * y0 % Zd + w0 / 4294967296) % Zd
    let w1 := (t % 4294967296 + x0 * y1 % Zd) % Zd
    ((x1 * y1 % Zd + t / 4294967296) % Zd + w1 / 4294967296) % Zd = x * y / Zd := by
  intro x0 x1 y0 y1 w0 t w1
  have hx : x < 18446744073709551616 := hx
  have hy : y < 18446744073709551616 := hy
  have a0 : x0 <= 4294967295 := by show x % 4294967296 <= _; omega
  have a1 : x1 <= 4294967295 := by show x / 4294967296 <= _; omega
  have b0 : y0 <= 4294967295 := by show y % 4294967296 <= _; omega
  have b1 : y1 <= 4294967295 := by show y / 4294967296 <= _; omega
  have ex : x = 4294967296 * x1 + x0 := (Nat.div_add_mod x 4294967296).symm
  have ey : y = 4294967296 * y1 + y0 := (Nat.div_add_mod y 4294967296).symm
  have p00 : x0 * y0 <= 18446744065119617025 := Nat.mul_le_mul a0 b0
  have p10 : x1 * y0 <= 18446744065119617025 := Nat.mul_le_mul a1 b0
  have p01 : x0 * y1 <= 18446744065119617025 := Nat.mul_le_mul a0 b1
  have p11 : x1 * y1 <= 18446744065119617025 := Nat.mul_le_mul a1 b1
  have e : x * y = 18446744073709551616 * (x1 * y1) + 4294967296 * (x1 * y0) + 4294967296 * (x0 * y1) + x0 * y0 := by
    rw [ex, ey]
    simp only [Nat.mul_add, Nat.add_mul]
    rw [show 4294967296 * x1 * (4294967296 * y1) = 18446744073709551616 * (x1 * y1) by rw [Nat.mul_mul_mul_comm]]
    rw [Nat.mul_assoc 4294967296 x1 y0, Nat.mul_left_comm x0 4294967296 y1]
    omega
  rw [e]
  show ((x1 * y1 % 18446744073709551616 + t / 4294967296) % 18446744073709551616 + w1 / 4294967296) % 18446744073709551616 = _ / 18446744073709551616
  have mL : w0 = x0 * y0 := Nat.mod_eq_of_lt (by show _ < 18446744073709551616; omega)
  have ht : t = x1 * y0 + x0 * y0 / 4294967296 := by
    show (x1 * y0 % 18446744073709551616 + w0 / 4294967296) % 18446744073709551616 = _
    rw [mL]; omega
  have Pd : w1 = t % 4294967296 + x0 * y1 := by
    show (t % 4294967296 + x0 * y1 % 18446744073709551616) % 18446744073709551616 = _
    omega
  generalize x1 * y1 = p11 at *
  generalize x1 * y0 = p10 at *
  generalize x0 * y1 = p01 at *
  generalize x0 * y0 = p00 at *
  clear_value t w1
  omega
theorem Bz{x y:Nat}(hx:x<Zd)(hy:y<Zd){H:AH} :CW Tryz.prog Zw 202 [.int .u64 (x:Int),.int .u64 (y:Int)] H fun v H'=>H'=H/\v= .tuple #[.int .u64 ((x*y/Zd:Nat):Int),.int .u64 ((x*y%Zd:Nat):Int)]:=by
 refine Z8 51 Tryz.func202 ?_;have ht: ∀z:Nat,z%Zd<Zd:=fun z=>Nat.mod_lt _ (by decide);have key:=mul64_arith hx hy;simp only at key;iterate 12 apply Zb;intro b hb;simp[FB hx,FB hy,jv,Sn,Ts,FB (ht _)];subst hb
 apply Zq;simp;have zM:=key;simp only[Nat.mod_add_mod,Nat.add_mod_mod]at zM;rw[<-zM]
section
theorem Yl.cut{n0:Nat}{H:AH}{v:Value}{xs:List Nat}(h:Yl n0 H v xs){t:TypeId}(ht:LT t){m:Nat}(hm:m<=xs.length)(h0:0<xs.length): ∃v',Vu Tryz.prog H t v none (some (.int .i64 (m:Int))) none=some v'/\Yl n0 H v' (xs.take m):=by cases h with
 |nil=>cases h0
 |mk b o cap xs cs h1 h2 h3 h4 h5 h6=>
  have hl:(xs.take m).length=m:=by rw[List.length_take];omega
  have Wx:H.size b=some 1:=by unfold AH.size;rw[h4]
  refine⟨.slice (some ⟨b,o,none⟩) (xs.take m).length cap,?_,.mk b o cap _ cs (by omega) h2 h3 h4 h5 fun i x hx=>h6 i x ?_⟩;·unfold Vu;simp only[ht.1,Mz];unfold Il Xo;simp only[Wx,Option.isSome_some,Option.isNone_none,Bool.true_or];rw[if_pos (by omega)];have e1:Nat.ble m cap=true:=Nat.ble_eq.mpr (by omega);simp[Xo,e1,hl]
  ·rw[List.getElem?_take]at hx;split at hx;·exact hx
   ·cases hx
attribute [local simp] strip ZQ Xt gW Z6 Yh ZU Yi ZG Yj Zy Zz Zj ZF Yd ZL ZE Zk Yg Y1 YT ZJ plain ZM Tr.get_set YU Zt Yw ZS sameKind Zc undef ZZ ZD Yb Zv ZA Yf ZT
theorem Cb{v:Value}{xs:List Nat}{H:AH}{n0:Nat}(hs:Yl n0 H v xs)(hlen:xs.length<1152921504606846976):CW Tryz.prog Zw 160 [v] H fun v' H'=>H'=H/\Yl n0 H v' (YS xs):=by
 refine Z8 21 Tryz.func160 ?_;apply Zb;intro b1 Ze;simp;subst Ze;apply Zf;intro b1 Ze;apply Zu;refine Gu (fun n s=>s.k=21/\s.H=H/\ ∃v',s.tm.get 0=some v'/\n<=xs.length/\Yl n0 H v' (xs.take n)/\YS (xs.take n)=YS xs) ?_ xs.length _ ⟨rfl,rfl,v,by simp,Nat.le_refl _,by rw[List.take_length];exact hs,by rw[List.take_length]⟩;rintro n ⟨k,tm,H'⟩ ⟨h2,h3,v',h4,h5,h6,h7⟩;simp only at h2 h3 h4;subst h2;subst h3;have hl:(xs.take n).length=n:=by rw[List.length_take];omega
 have N9:=h6.sl.len Zv;rw[hl]at N9;apply Zf;intro b2 Zp;apply Zb;intro b3 ZH;by_cases hz:n=0;·subst hz;simp[h4,N9];subst ZH;refine Za (t:=false) (by simp) ?_;apply YZ;left;refine⟨rfl,?_⟩;subst Ze;apply Zb;intro b4 Yt;simp[h4];subst Yt;apply Zq;simp;rw[<-h7];exact h6
 ·have hn:0<n:=Nat.pos_of_ne_zero hz;have hw:IntKind.i64.wrap ((n:Int)-1)=((n-1:Nat):Int):=Lp hn (by omega);have hi:n-1<(xs.take n).length:=by omega
  have ha:=h6.sl.adr Zv (k:= .i64) hi;have YO:=h6.sl.load hi;simp[h4,N9,hn,hw,ha,YO];subst ZH;have hx:n-1<xs.length:=by omega
  have PN:xs.take n=xs.take (n-1)++[xs[n-1]]:=by have:=List.take_append_getElem (l:=xs) (i:=n-1) hx;rw[this,show n-1+1=n by omega]
  by_cases h0:xs[n-1]=0
  ·refine Za (t:=true) (by simp[h0]) ?_;apply Zl;subst Zp;apply Zu;apply Zg;obtain⟨v2,hv2,Bb⟩:=h6.cut Zv (m:=n-1) (by omega) (by omega);simp[h4,N9,hw,hv2];refine⟨n-1,by omega,rfl,rfl,v2,by simp,by omega,?_,?_⟩;·rw[List.take_take,show min (n-1) n=n-1 by omega]at Bb;exact Bb
   ·rw[<-h7,PN,h0,VB]
  ·refine Za (t:=false) (by simp;exact h0) ?_;apply YZ;left;refine⟨rfl,?_⟩;subst Ze;apply Zb;intro b4 Yt;simp[h4];subst Yt;apply Zq;simp;rw[<-h7];have:YS (xs.take n)=xs.take n:=by rw[PN];exact SC _ _ h0
   rw[this];exact h6
theorem Ot{v:Value}{xs:List Nat}{H:AH}{n0:Nat}(hs:Yl n0 H v xs)(dx:YD Zd xs)(hlen:xs.length<=17592186044416):CW Tryz.prog Zw 204 [v] H fun v' H'=>H'=H/\((67108864<Zn (dv Zd xs)/\v'= .tuple #[.slice none 0 0,.int .i64 3])\/(Zn (dv Zd xs)<=67108864/\ ∃u,v'= .tuple #[u,.int .i64 0]/\Yl n0 H u (ds Zd (dv Zd xs)))):=by
 refine Z8 10 Tryz.func204 ?_;obtain⟨v1,H1,Q9,e1,s1⟩:=Cb hs (by omega);subst e1;have dt:=XK dx;obtain⟨v2,H2,N7,e2,e3⟩:=Vk s1.sl dt (Nat.le_trans (XJ xs) hlen);subst e2;subst e3;rw[WX]at N7;rw[Xl Z9 dx]at s1;apply Zf;intro b1 Ze;apply Zg;simp;subst Ze;apply Zf;intro b1 Ze;apply Zg;simp[Q9];subst Ze;apply Zf;intro b1 Ze;apply Zf;intro b2 Zp;apply Zg;simp[N7];subst Zp;by_cases h:67108864<Zn (dv Zd xs);·refine Za (t:=true) (by simp;omega) ?_;apply Zf;intro b2 Zp;apply Zg;simp;subst Zp;apply Zq;simp[Ys,h]
 ·refine Za (t:=false) (by simp;omega) ?_;apply Zl;subst Ze;apply Zf;intro b2 Zp;apply Zg;simp;subst Zp;apply Zq;simp[h];exact⟨by omega,s1⟩
end
end
end
end Go.Proofs.YtmkfecoeghokfaaGreatDoor
