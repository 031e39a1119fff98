/-
  The engine and the walks that the claim's last text leans on, part 3 of 9: EvM, EvMb, EvP, EvQ, Cfg, Laid, Np, Na, Nb, EvR, Nc, Nd, Ne, Nf, Ng, Nh, Ni, Nj.
-/
import Derived.Test.YtmkfecoeghokfaaGreatDoorM2
import Derived.Defers
import Derived.Test.YtmkfecoeghokfaaGreatDoorRows
import Derived.WalkKit
import Derived.ProofKit
import Derived.OpenShut
import Derived.ChangeOld
import Derived.SizedLaws
import Derived.Test.YtmkfecoeghokfaaGreatDoorCards
import Derived.Test.YtmkfecoeghokfaaGreatDoorTie
import Derived.LaidMore
import Derived.Deep.Strs
import Derived.MakeChecks
import Derived.FnData
import Derived.Stop.Joined
import Derived.SevenTiedAt
import Derived.KernelRfl
import Derived.Laws.Bits64
import Derived.Laws.BitsLemmas
namespace Go.Proofs.YtmkfecoeghokfaaGreatDoor.Ev
open Go Go.RowKit
set_option linter.unusedVariables false
noncomputable section
set_option linter.unusedSimpArgs false
set_option maxHeartbeats 1000000
def Zl7 : Array Value → Sem Value := fun args => do
  let (x, y, b) ← Extern.MathBitsCarry.three "Sub64" args
  pure (Extern.MathBitsCarry.pair ((x + Extern.MathBitsCarry.m64 - y - b) % Extern.MathBitsCarry.m64) (if x < y + b then 1 else 0))
theorem run_add{P:Program}(x y c:Nat)(hc:c≤1)(w:World):(add64Entry #[.int .u64 x,.int .u64 y,.int .u64 c]).run P w= .ok (.tuple #[.int .u64 (Int.ofNat ((x+y+c)%18446744073709551616)),.int .u64 (Int.ofNat ((x+y+c)/18446744073709551616))]) w:=by
 have:c=0∨c=1:=by omega
 rcases this with rfl|rfl<;>rfl
theorem run_sub{P:Program}(x y c:Nat)(hc:c≤1)(w:World):(Zl7 #[.int .u64 x,.int .u64 y,.int .u64 c]).run P w= .ok (.tuple #[.int .u64 (Int.ofNat ((x+18446744073709551616-y-c)%18446744073709551616)),.int .u64 (cond (Nat.blt x (y+c)) 1 0)]) w:=by
 have key: ∀k:Nat,k≤1→(Zl7 #[.int .u64 x,.int .u64 y,.int .u64 k]).run P w= .ok (Extern.MathBitsCarry.pair ((x+Extern.MathBitsCarry.m64-y-k)%Extern.MathBitsCarry.m64) (if x<y+k then 1 else 0)) w:=by
  intro k hk;have:k=0∨k=1:=by omega
  rcases this with rfl|rfl<;>rfl
 rw[key c hc];unfold Extern.MathBitsCarry.pair;by_cases h:x<y+c
 ·have:Nat.blt x (y+c)=true:=by rw[Nat.blt_eq];exact h
  rw[if_pos h,this];rfl
 ·have:Nat.blt x (y+c)=false:=by cases hb:Nat.blt x (y+c)with|false=>rfl|true=>rw[Nat.blt_eq]at hb;exact absurd hb h
  rw[if_neg h,this];rfl
structure CfgOk (P : Program) (C : Cfg) : Prop where
  mixed : P.follows .mixedOrders = true
  names : ∀ (f : Nat) (fn : Func), P.funcs[f]? = some fn → fn.body.isSome = true → (fn.name == "runtime.NumGoroutine") = false
  add : ∃ fn, P.funcs[C.add]? = some fn ∧ (fn.name == "runtime.NumGoroutine") = false ∧ fn.body.isNone = true ∧ Extern.findNext fn = none ∧ Extern.find fn = some add64Entry
  sub : ∃ fn, P.funcs[C.sub]? = some fn ∧ (fn.name == "runtime.NumGoroutine") = false ∧ fn.body.isNone = true ∧ Extern.findNext fn = none ∧ Extern.find fn = some Zl7
def exitOf:Ex→Exit| .norm=> .normal| .exit id=> .exit id| .ret=> .ret| .pan _=> .normal
def LW(P:Program)(body:Code)(Q:Exit→Act→World→Prop)(a:Act)(w:World):Prop:= ∀(b:Frame)(k:List Item)(cs:List Frame),∃e a' w',Q e a' w'∧Arrives P (lone (b.at a (.code body:: .inLoop body::k)) cs w) b k cs e a' w'
theorem LW.wp{P:Program}{body:Code}{Q:Exit→Act→World→Prop}{a:Act}{w:World}(h:LW P body Q a w):(Code.loop body).wp P Q a w:=fun b k cs=>by obtain⟨e,a',w',hq,harr⟩:=h b k cs;exact⟨e,a',w',hq,.of_steps (.one step_loop) harr⟩
def Cs(Df:List Deferred)(B:Nat)(S:Nat→Prop)(L:Nat→Loc)(H:AH)(w:World)(ex:Ex)(s':St)(e:Exit)(a':Act)(w':World):Prop:=match ex with| .pan v=> ∃v',e= .panic [{ v:=v',recovered:=false }]∧ ∃L',AI Df (ext S H.n s'.H.n) L' s'.k s'.tm a'∧Inv B (ext S H.n s'.H.n) L' s'.H w'∧Fr S L H w L' s'.H w'∧VR (ext S H.n s'.H.n) L' v v'|ex=>e=exitOf ex∧Fh Df B S L H w s' a' w'
theorem Cs.trans{Df:List Deferred}{B:Nat}{S:Nat→Prop}{L L1:Nat→Loc}{H:AH}{w w1:World}{s1 s2:St}{ex:Ex}{e:Exit}{a2:Act}{w2:World}(hI:Inv B S L H w)(hI1:Inv B (ext S H.n s1.H.n) L1 s1.H w1)(hF:Fr S L H w L1 s1.H w1)(h:Cs Df B (ext S H.n s1.H.n) L1 s1.H w1 ex s2 e a2 w2):Cs Df B S L H w ex s2 e a2 w2:=by cases ex with|pan v=>obtain⟨v',he,L2,h1,h2,h3,h4⟩:=h;rw[ext_ext hF.n h3.n]at h1 h2 h4;exact⟨v',he,L2,h1,h2,hF.trans hI hI1 (fun _ h=> .inl h) h3,h4⟩|norm=>exact⟨h.1,h.2.trans hI hI1 hF⟩|exit j=>exact⟨h.1,h.2.trans hI hI1 hF⟩|ret=>exact⟨h.1,h.2.trans hI hI1 hF⟩
theorem Cs.norm{Df:List Deferred}{B:Nat}{S:Nat→Prop}{L:Nat→Loc}{H:AH}{w:World}{s':St}{e:Exit}{a':Act}{w':World}(h:Cs Df B S L H w .norm s' e a' w'):e= .normal∧Fh Df B S L H w s' a' w':=h
theorem Cs.not_normal{Df:List Deferred}{B:Nat}{S:Nat→Prop}{L:Nat→Loc}{H:AH}{w:World}{ex:Ex}{s':St}{e:Exit}{a':Act}{w':World}(hne:ex≠ .norm)(h:Cs Df B S L H w ex s' e a' w'):e≠ .normal:=by cases ex with|pan v=>obtain⟨v',he,_⟩:=h;subst he;simp|norm=>exact absurd rfl hne|exit j=>rw[h.1];simp[exitOf]|ret=>rw[h.1];simp[exitOf]
def CodeOk(P:Program)(C:Cfg)(B:Nat)(f:Code→St→Option (Ex×St)):Prop:= ∀c s ex s',f c s=some (ex,s')→ ∀Df S L a w,GO C S L→AI Df S L s.k s.tm a→Inv B S L s.H w→ ∀Q:Exit→Act→World→Prop,(∀e a' w',Cs Df B S L s.H w ex s' e a' w'→Q e a' w')→c.wp P Q a w∧ ∀body,c= .loop body→LW P body Q a w
def EndIs(B:Nat)(S:Nat→Prop)(L:Nat→Loc)(H:AH)(w:World)(o:Out)(H':AH)(e:Ending)(w':World):Prop:=match o with| .ret v=> ∃v',e= .returned v'∧Good B S L H w v H' v' w'| .pan v=> ∃v',e= .panicked [{ v:=v',recovered:=false }]∧Good B S L H w v H' v' w'
def Zd6(P:Program)(C:Cfg)(B:Nat)(call:FuncId→List Value→AH→Option (Out×AH)):Prop:= ∀f args H o H',call f args H=some (o,H')→ ∀S L w args',GO C S L→Inv B S L H w→VRs S L args args'→(∃v v' w',o= .ret v∧(callFunc f args'.toArray).run P w= .ok (.value v') w'∧Good B S L H w v H' v' w')∨((callFunc f args'.toArray).run P w= .ok (.enter f args'.toArray) w∧Calls P f args'.toArray w fun e w'=>EndIs B S L H w o H' e w')
def CallOkP(P:Program)(C:Cfg)(B:Nat)(call:FuncId→List Value→AH→Option (Value×AH)):Prop:= ∀f args H v H',call f args H=some (v,H')→ ∀S L w args',GO C S L→Inv B S L H w→VRs S L args args'→(callFunc f args'.toArray).run P w= .ok (.enter f args'.toArray) w∧Calls P f args'.toArray w fun e w'=> ∃v',e= .panicked [{ v:=v',recovered:=false }]∧Good B S L H w v H' v' w'
structure LvOk (P : Program) (C : Cfg) (B : Nat) (ih : Lv) : Prop where
  code : CodeOk P C B ih.code
  call : Ku P C B ih.call
theorem As{r:Option (Out×AH)}{v:Value}{H:AH}(h:retOf r=some (v,H)):r=some (.ret v,H):=by
 unfold retOf at h;split at h;·injection h with h;injection h with h1 h2;subst h1;subst h2;rfl
 ·cases h
theorem Aq{r:Option (Out×AH)}{v:Value}{H:AH}(h:panOf r=some (v,H)):r=some (.pan v,H):=by
 unfold panOf at h;split at h;·injection h with h;injection h with h1 h2;subst h1;subst h2;rfl
 ·cases h
theorem Zd6.ret{P:Program}{C:Cfg}{B:Nat}{call:FuncId→List Value→AH→Option (Out×AH)}(h:Zd6 P C B call):Ku P C B (fun f args H=>retOf (call f args H)):=by
 intro f args H v H' hc S L w args' hG hI ha;rcases h f args H _ H' (As hc) S L w args' hG hI ha with⟨v1,v',w',e,h1,h2⟩|⟨h1,h2⟩;·cases e;exact .inl ⟨v',w',h1,h2⟩
 ·exact .inr ⟨h1,h2⟩
theorem Zd6.pan{P:Program}{C:Cfg}{B:Nat}{call:FuncId→List Value→AH→Option (Out×AH)}(h:Zd6 P C B call):CallOkP P C B (fun f args H=>panOf (call f args H)):=by
 intro f args H v H' hc S L w args' hG hI ha;rcases h f args H _ H' (Aq hc) S L w args' hG hI ha with⟨v1,v',w',e,h1,h2⟩|⟨h1,h2⟩;·cases e
 ·exact⟨h1,h2⟩
theorem Zo8{S:Nat→Prop}{L:Nat→Loc}{args:List Value}{x y c:Nat}{args':List Value}(h:Zc7 args=some (x,y,c))(hv:VRs S L args args'):args'=[.int .u64 x,.int .u64 y,.int .u64 c]∧c≤1:=by
 unfold Zc7 at h;split at h<;>first|(cases h;done)|skip
 rename_i a b d;split at h<;>first|(cases h;done)|skip
 rename_i hb;obtain⟨h1,h2,h3,h4⟩:=hb;injection h with h;injection h with e1 e2;injection e2 with e2 e3;obtain⟨x',y',z',rfl,v1,v2,v3⟩:=hv.inv3;cases v1;cases v2;cases v3;subst e1;subst e2;subst e3;exact⟨by rw[Int.toNat_of_nonneg h1,Int.toNat_of_nonneg h2,Int.toNat_of_nonneg h3],by omega⟩
theorem tmOf_get: ∀(vs:List Value)(i:Nat)(t:Tr Value)(k:Nat),(Qc i vs t).get k=if i≤k∧k<i+vs.length then vs[k-i]? else t.get k
 |[],i,t,k=>by rw[if_neg (by rw[List.length_nil];omega)];rfl
 |v::vs,i,t,k=>by
  simp only[Qc];rw[tmOf_get vs (i+1) (t.set i v) k,Tr.get_set];by_cases h:i+1≤k∧k<i+1+vs.length
  ·rw[if_pos h,if_pos (by simp;omega)];have:k-i=(k-(i+1))+1:=by omega
   rw[this];rfl
  ·rw[if_neg h];by_cases e:k=i;·subst e;rw[if_pos rfl,if_pos (by simp)];simp
   ·rw[if_neg e,if_neg (by simp;omega)]
theorem loadVar_run{B:Nat}{S:Nat→Prop}{L:Nat→Loc}{H:AH}{w:World}{P:Program}(hI:Inv B S L H w){t:TypeId}{x x' v:Value}(h:Yn P H t x=some v)(hx:VR S L x x'): ∃v',(do loadVar t (←asAddr x'):Sem Value).run P w= .ok v' w∧VR S L v v':=by
 obtain⟨v',h1,h2⟩:=loadV_run (P:=P) hI h hx;refine⟨v',?_,h2⟩;unfold Yn at h;split at h<;>first|(cases h;done)|skip
 cases hx with|ptr i o hS=>simp only[Instr.loadAt,Instr.sureAddr,Sem.run_bind,Sem.run_pure,Result.andThen_ok]at h1;simp only[asAddr,Sem.run_bind,Sem.run_pure,Result.andThen_ok,h1]
def resSem(tmps:Array Value)(r:ResultVar):Sem Value:=match r with| .tmp t=>pure (tmps.getD t undef)| .cell c t=>do loadVar t (←asAddr (tmps.getD c undef))
theorem results_eq(fn:Func)(tmps:Array Value):results fn tmps=(do let vs←fn.results.mapM (resSem tmps);pure (if h:vs.size=1 then vs[0]else .tuple vs)):=rfl
theorem Zp4{Df:List Deferred}{B:Nat}{S:Nat→Prop}{L:Nat→Loc}{w:World}{P:Program}{s:St}{a:Act}(hA:AI Df S L s.k s.tm a)(hI:Inv B S L s.H w): ∀(rs:List ResultVar)(vs:List Value),Zt P s rs=some vs→ ∃vs',(rs.mapM (resSem a.tmps):Sem (List Value)).run P w= .ok vs' w∧VRs S L vs vs'
 |[],vs,h=>by simp only[Zt]at h;obtain rfl:=Option.some.inj h;exact⟨[],by simp,.nil⟩
 |r::rs,vs,h=>by simp only[Zt]at h;cases hr:Yr P s r with
  |none=>rw[hr]at h;cases h
  |some v=>rw[hr]at h;simp only at h;cases hrs:Zt P s rs with
   |none=>rw[hrs]at h;cases h
   |some vs1=>
    rw[hrs]at h;obtain rfl:=Option.some.inj h;obtain⟨vs',h1,h2⟩:=Zp4 hA hI rs vs1 hrs;have hone: ∃v',(resSem a.tmps r).run P w= .ok v' w∧VR S L v v':=by cases r with
     |tmp t=>exact⟨_,rfl,(hA.tmp t v hr).2⟩
     |cell c t=>simp only[Yr]at hr;cases hc:s.tm.get c with|none=>rw[hc]at hr;cases hr|some x=>rw[hc]at hr;exact loadVar_run hI hr (hA.tmp c x hc).2
    obtain⟨v',h3,h4⟩:=hone;refine⟨v'::vs',?_,.cons h4 h2⟩;rw[List.mapM_cons];simp only[Sem.run_bind,h3,Result.andThen_ok,h1,Sem.run_pure]
theorem Cp{Df:List Deferred}{B:Nat}{S:Nat→Prop}{L:Nat→Loc}{w:World}{P:Program}{s:St}{a:Act}(hA:AI Df S L s.k s.tm a)(hI:Inv B S L s.H w){fn:Func}{vs:List Value}(h:Zt P s fn.results.toList=some vs): ∃v',(results fn a.tmps).run P w= .ok v' w∧VR S L (Yv vs) v':=by
 obtain⟨vs',h1,h2⟩:=Zp4 (P:=P) hA hI _ _ h;have h3:(results fn a.tmps).run P w= .ok (if h:vs'.toArray.size=1 then vs'.toArray[0]else .tuple vs'.toArray) w:=by rw[results_eq,Array.mapM_eq_mapM_toList];simp only[Sem.run_bind,Sem.run_map,h1,Result.andThen_ok,Sem.run_pure]
 refine⟨_,h3,?_⟩;match vs,vs',h2 with
  |[v],[v'],h2=>exact h2.2 0 v v' rfl rfl
  |[],[],h2=>exact .tuple _ _ rfl (fun k v v' h=>by simp at h)
  |v::u::r,v'::u'::r',h2=>
   have e: ¬ ((v'::u'::r').toArray.size=1):=by simp
   rw[dif_neg e];exact .tuple _ _ (by simpa using h2.1) (fun k x y hx hy=>h2.2 k x y (by simpa using hx) (by simpa using hy))
  |[],_::_,h2=>have:=h2.1;simp at this
  |[v],[],h2=>have:=h2.1;simp at this
  |[v],_::_::_,h2=>have:=h2.1;simp at this
  |_::_::_,[],h2=>have:=h2.1;simp at this
  |_::_::_,[_],h2=>have:=h2.1;simp at this
section
variable {P : Program} {C : Cfg} {B : Nat}
theorem dcallV_ok{S:Nat→Prop}{L:Nat→Loc}{tm:Tr Value}{a:Act}{c:Call}{g:FuncId}{args:List Value}(hx: ∀x∈c.operands,∀u,opd C tm x=some u→VR S L u (a.eval x))(h:Qt C tm c=some (g,args))(ty:TypeId): ∃fs' cs':Array Value,∃xs':List Value,(∀w,(resolve a.eval c ty).run P w= .ok { target:= .fn (.func g) cs',args:=fs'++xs'.toArray } w)∧VRs S L args (fs'.toList++xs'++cs'.toList):=by
 obtain⟨callee,cargs,cts⟩:=c;unfold Qt at h;cases callee<;>simp only at h<;>first|(cases h;done)|skip
 rename_i f;split at h<;>first|(cases h;done)|skip
 rename_i fv h1;split at h<;>first|(cases h;done)|skip
 rename_i g' fs cs xs h3 h4;injection h with h;injection h with e1 e2;subst e1;subst e2;have hf:=hx f (by simp[Call.operands]) _ h1;have hxs:=Ca (ρ:=a.eval) (fun x hx' u h=>hx x (by simp only[Call.operands,Array.mem_append];exact .inr (by simpa using hx')) u h) h4;generalize hfe:a.eval f=f' at hf;unfold Yb at h3;split at h3<;>first|(cases h3;done)|skip
 rename_i g0 fs0 cs0;injection h3 with h3;injection h3 with h5 h6;injection h6 with h6 h7;subst h5;subst h6;subst h7;cases hf with
  |func _ _ fs' _ cs' e1 q1 e2 q2=>
   have hfs:VRs S L fs0.toList fs'.toList:=⟨by simpa using e1,fun k x y hx hy=>q1 k x y (by simpa using hx) (by simpa using hy)⟩;have hcs:VRs S L cs0.toList cs'.toList:=⟨by simpa using e2,fun k x y hx hy=>q2 k x y (by simpa using hx) (by simpa using hy)⟩;refine⟨fs',cs',cargs.toList.map a.eval,fun w=>?_,(hfs.append hxs).append hcs⟩;have e:cargs.map a.eval=(cargs.toList.map a.eval).toArray:=by apply Array.ext';simp
   simp[resolve,hfe,Deferred.ofValue,e]
theorem evPan_ok{Df:List Deferred}{call callP:FuncId→List Value→AH→Option (Value×AH)}(hcall:Ku P C B call)(hcp:CallOkP P C B callP){ops:Array Oper}{Q:Exit→Act→World→Prop} : ∀(l:List Oper)(k:Nat)(s:St)(ex:Ex)(s':St)(S:Nat→Prop)(L:Nat→Loc)(a:Act)(w:World),GO C S L→(∀j,l[j]?=ops[k+j]?)→Dw P C call callP ops l s=some (ex,s')→AI Df S L s.k s.tm a→Inv B S L s.H w→(∀e a' w',Cs Df B S L s.H w ex s' e a' w'→Q e a' w')→wpOps P ops Q (List.range' k l.length) a w
 |[],k,s,ex,s',S,L,a,w,hG,hl,h,hA,hI,hQ=>by cases h
 |o::rest,k,s,ex,s',S,L,a,w,hG,hl,h,hA,hI,hQ=>by
  have h0:ops[k]?=some o:=by simpa using(hl 0).symm
  have hl': ∀j,rest[j]?=ops[k+1+j]?:=fun j=>by have:=hl (j+1);simpa[Nat.add_assoc,Nat.add_comm 1 j]using this
  rw[List.length_cons,List.range'_succ,wpOps_cons];unfold wpOp;rw[h0];dsimp only;simp only[Dw]at h;split at h<;>first|(cases h;done)|skip
  ·rename_i hw;rw[Gq hw (hA.guard o),if_pos rfl];split at h
   ·rename_i v H1 hp;injection h with h;injection h with e1 e2;subst e1;subst e2;refine .inl ?_;unfold Oper.wp;unfold Et at hp;split at hp<;>first|(cases hp;done)|skip
    ·rename_i x hop;split at hp<;>first|(cases hp;done)|skip
     rename_i t u hx;injection hp with hp;injection hp with e1 e2;subst e1;subst e2;have hv:=opd_vr hG hA hx;generalize hxe:a.eval x=x' at hv;have hrun:(execOp a.eval o).run P w= .halt (.panic x') w:=by obtain⟨dst,op,ty,pos,after,guard⟩:=o;simp only at hop;subst hop;cases hv with|iface _ _ u' hu=>simp[execOp,hxe,Instr.panic]
     rw[hrun];exact hQ _ a w ⟨x',rfl,L,hA.mono (fun _ h=> .inl h) (fun _ _=>rfl),hI.mono (fun _ h=> .inl h) (fun i h=>hI.bd i (Qu h)),Fr.refl hI,hv.mono (fun _ h=> .inl h) (fun _ _=>rfl)⟩
    ·rename_i c hop;split at hp<;>first|(cases hp;done)|skip
     rename_i g args hd;obtain⟨dst,op,ty,pos,after,guard⟩:=o;simp only at hop;subst hop;obtain⟨fs',cs',xs',h2,h3⟩:=dcallV_ok (P:=P) (fun x _ u hx=>opd_vr hG hA hx) hd ty;obtain⟨h4,h5⟩:=hcp g args s.H v H1 hp S L w _ hG hI h3;have e:fs'++xs'.toArray++cs'=(fs'.toList++xs'++cs'.toList).toArray:=by apply Array.ext';simp
     have hrun:(execOp a.eval { dst,op:=Op.call c,type:=ty,pos,after,guard }).run P w= .ok (.enter g (fs'.toList++xs'++cs'.toList).toArray) w:=by simp only[execOp,Sem.run_bind,h2,Result.andThen_ok,invoke];rw[e,h4]
     rw[hrun];refine Calls.mono h5 fun e w' ⟨v',he,hg⟩=>?_;subst he;obtain⟨L1,g1,g2,g3⟩:=hg;exact hQ _ a w' ⟨v',rfl,L1,hA.mono (fun _ h=> .inl h) g2.agree,g1,g2,g3⟩
   ·split at h<;>first|(cases h;done)|skip
    rename_i v H1 hop;split at h<;>first|(cases h;done)|skip
    rename_i s1 hput;refine .inl ((Vk hcall hG hI (fun x _ u hx=>opd_vr hG hA hx) hop).wp fun v' w1 hgood=>?_);obtain⟨L1,g1,g2,g3⟩:=hgood;obtain⟨e1,e2,_⟩:=Qv hput;subst e1;refine evPan_ok hcall hcp rest (k+1) s1 ex s' _ L1 _ w1 (hG.mono (fun _ h=> .inl h) g2.agree) hl' h (hA.put (fun _ h=> .inl h) g2.agree g3 hput) g1 fun e a' w' hd=>hQ e a' w' (hd.trans hI g1 g2)
  ·rename_i hw;rw[Gq hw (hA.guard o),if_neg (by simp)];split at h<;>first|(cases h;done)|skip
   rename_i s1 hput;obtain⟨e1,e2,_⟩:=Qv hput;refine evPan_ok hcall hcp rest (k+1) s1 ex s' S L _ w hG hl' h (hA.put (fun _ h=>h) (fun _ _=>rfl) Zd4 hput) (by rw[e1];exact hI) fun e a' w' hd=>hQ e a' w' (by rw[e1]at hd;exact hd)
end
theorem then_of{next:Act→World→Prop}{Q:Exit→Act→World→Prop}{e:Exit}{a:Act}{w:World}(h:e≠ .normal)(hQ:Q e a w):Exit.then next Q e a w:=by cases e<;>first|exact absurd rfl h|exact hQ
theorem step_ok{P:Program}{C:Cfg}{B:Nat}(hC:CfgOk P C){ih:Lv}(hih:LvOk P C B ih)(hcO:Zd6 P C B (Js P C ih)):CodeOk P C B (Jl P C ih):=by
 have hcall:Ku P C B (Qa P C ih):=hcO.ret;have hcp:CallOkP P C B (Jb P C ih):=hcO.pan;have ih:=hih.code;intro c s ex s' h Df S L a w hG hA hI Q hQ;cases c<;>simp only[Jl]at h<;>first|(cases h;done)|skip
 case skip=>injection h with h;injection h with h1 h2;subst h1;subst h2;exact⟨wp_skip (hQ _ a w ⟨rfl,Fh.refl hA hI⟩),fun _ e=>by cases e⟩
 case exit id=>injection h with h;injection h with h1 h2;subst h1;subst h2;exact⟨wp_exit (hQ _ a w ⟨rfl,Fh.refl hA hI⟩),fun _ e=>by cases e⟩
 case ret=>injection h with h;injection h with h1 h2;subst h1;subst h2;exact⟨wp_ret (hQ _ a w ⟨rfl,Fh.refl hA hI⟩),fun _ e=>by cases e⟩
 case region id ops draw=>
  split at h;·rename_i s1 hr;injection h with h;injection h with h1 h2;subst h1;subst h2;exact⟨evRegion_ok hC.mixed hcall hr hG hA hI (fun a' w' hd=>hQ _ a' w' ⟨rfl,hd⟩) id,fun _ e=>by cases e⟩
  ·cases draw with|true=>cases h|false=>rw[cond_false]at h;refine⟨wp_region ?_,fun _ e=>by cases e⟩;have:=evPan_ok (Q:=Q) hcall hcp ops.toList 0 s ex s' S L a w hG (fun j=>by simp) h hA hI hQ;rw[List.range_eq_range'];simpa using this
 case seq x y=>
  refine⟨wp_seq ?_,fun _ e=>by cases e⟩;split at h;·rename_i s1 hx;refine(ih x s .norm s1 hx Df S L a w hG hA hI _ fun e a1 w1 hd=>?_).1;obtain⟨rfl,hd⟩:=hd;obtain⟨L1,d1,d2,d3⟩:=hd;exact(ih y s1 ex s' h Df _ L1 a1 w1 (hG.mono (fun _ h=> .inl h) d3.agree) d1 d2 Q fun e a2 w2 hd2=>hQ e a2 w2 (hd2.trans hI d2 d3)).1
  ·rename_i hne;refine(ih x s ex s' h Df S L a w hG hA hI _ fun e a1 w1 hd=>then_of (hd.not_normal fun e=>?_) (hQ e a1 w1 hd)).1;subst e;exact hne s' h
 case cond x y z=>
  refine⟨?_,fun _ e=>by cases e⟩;split at h<;>first|(cases h;done)|skip
  rename_i t hx;have hv:=opd_vr2 hG (fun t v _ hv=>(hA.tmp t v hv).2) hx;generalize hxe:a.eval x=u at hv;cases hv;refine wp_cond hxe ?_;have:=(ih (cond t y z) s ex s' h Df S L a w hG hA hI Q hQ).1;cases t<;>exact this
 case block id body=>
  refine⟨wp_block ?_,fun _ e=>by cases e⟩;split at h;·rename_i j s1 hb;refine(ih body s (.exit j) s1 hb Df S L a w hG hA hI _ fun e a1 w1 hd=>?_).1;obtain⟨rfl,hd⟩:=hd;cases hj:Nat.beq j id with
   |true=>rw[hj,cond_true]at h;injection h with h;injection h with h1 h2;subst h1;subst h2;have e:=Nat.eq_of_beq_eq_true hj;show Exit.inBlock id Q (.exit j) a1 w1;simp only[Exit.inBlock,e,if_true];exact hQ _ a1 w1 ⟨rfl,hd⟩
   |false=>
    rw[hj,cond_false]at h;injection h with h;injection h with h1 h2;subst h1;subst h2;have e:j≠id:=fun e=>by subst e;rw[Nat.beq_refl]at hj;cases hj
    show Exit.inBlock id Q (.exit j) a1 w1;simp only[Exit.inBlock,e,if_false];exact hQ _ a1 w1 ⟨rfl,hd⟩
  ·rename_i hne;refine(ih body s ex s' h Df S L a w hG hA hI _ fun e a1 w1 hd=>?_).1;cases ex with|norm=>rw[hd.1];exact hQ _ a1 w1 ⟨rfl,hd.2⟩|exit j=>exact absurd h (hne j s')|ret=>rw[hd.1];exact hQ _ a1 w1 ⟨rfl,hd.2⟩|pan v=>have:=hQ e a1 w1 hd;obtain⟨v',rfl,_⟩:=hd;exact this
 case loop body=>
  have key:LW P body Q a w:=by
   intro b k cs;split at h;·rename_i s1 hb;have h1:=(ih body s .norm s1 hb Df S L a w hG hA hI (fun e a1 w1=>e= .normal∧Fh Df B S L s.H w s1 a1 w1) fun e a1 w1 hd=>hd).1;obtain⟨e,a1,w1,⟨rfl,hd⟩,harr⟩:=h1 b (.inLoop body::k) cs;obtain⟨L1,d1,d2,d3⟩:=hd;have h2:=(ih (.loop body) s1 ex s' h Df _ L1 a1 w1 (hG.mono (fun _ h=> .inl h) d3.agree) d1 d2 Q fun e a2 w2 hd2=>hQ e a2 w2 (hd2.trans hI d2 d3)).2 body rfl;obtain⟨e2,a2,w2,hq,harr2⟩:=h2 b k cs;have harr':Steps P (lone (b.at a (.code body:: .inLoop body::k)) cs w) (lone (b.at a1 (.inLoop body::k)) cs w1):=harr;exact⟨e2,a2,w2,hq,.of_steps (harr'.trans (.one step_inLoop)) harr2⟩
   ·rename_i hne;have h1:=(ih body s ex s' h Df S L a w hG hA hI (Exit.then (fun _ _=>False) Q) fun e a1 w1 hd=>then_of (hd.not_normal fun e=>by subst e;exact hne s' h) (hQ e a1 w1 hd)).1;obtain⟨e,a1,w1,hq,harr⟩:=h1 b (.inLoop body::k) cs;have hne':e≠ .normal:=fun e'=>by subst e';exact hq
    refine⟨e,a1,w1,?_,.pass (x:= .inLoop body) rfl (fun a w=> .inl hne') harr⟩;cases e<;>first|exact hq.elim|exact hq
  exact⟨key.wp,fun body' e=>by cases e;exact key⟩
section
variable {P : Program} {C : Cfg} {B : Nat}
theorem evS_ok(hC:CfgOk P C){ih:Lv}(hih:LvOk P C B ih){rv:Value}{cs cs':List Frame}(hrec:recoverD cs=some (rv,cs')∨(recoverD cs=none∧rv= .nilIface∧cs'=cs)): ∀(c:Code)(s:St)(ex:Ex)(s':St),evS P C ih rv c s=some (ex,s')→(ex= .norm∨ex= .ret)∧ ∀S L a w,GO C S L→AI [] S L s.k s.tm a→Inv B S L s.H w→ ∀Q:Exit→Act→List Frame→World→Prop,(∀a' w',Fh [] B S L s.H w s' a' w'→Q (exitOf ex) a' cs' w')→c.wpS P Q a cs w:=by intro c;induction c with
 |seq x y ihx ihy=>intro s ex s' h;simp only[evS]at h;cases hf:Bi x with
  |true=>
   rw[hf,cond_true]at h;split at h<;>first|(cases h;done)|skip
   rename_i s1 h1;have hnr:ih.code y s1=some (ex,s')∧(ex= .norm∨ex= .ret):=by
    unfold Zl0 at h;split at h<;>first|(cases h;done)|skip
    ·rename_i s2 e;injection h with h;injection h with e1 e2;subst e1;subst e2;exact⟨e,.inl rfl⟩
    ·rename_i s2 e;injection h with h;injection h with e1 e2;subst e1;subst e2;exact⟨e,.inr rfl⟩
   refine⟨hnr.2,fun S L a w hG hA hI Q hQ=>wpS_seq ((ihx s .norm s1 h1).2 S L a w hG hA hI _ fun a1 w1 hd=>?_)⟩;obtain⟨L1,d1,d2,d3⟩:=hd;show y.wpS P Q a1 cs' w1;refine wpS_of_wp (hih.code y s1 ex s' hnr.1 [] _ L1 a1 w1 (hG.mono (fun _ h=> .inl h) d3.agree) d1 d2 _ fun e a2 w2 hd2=>?_).1;have hd3:=hd2.trans hI d2 d3;rcases hnr.2 with e1|e1<;>(subst e1;rw[hd3.1];exact hQ a2 w2 hd3.2)
  |false=>
   rw[hf,cond_false]at h;split at h<;>first|(cases h;done)|skip
   rename_i s1 h1;obtain⟨g1,g2⟩:=ihy s1 ex s' h;refine⟨g1,fun S L a w hG hA hI Q hQ=>wpS_seq (wpS_of_wp (hih.code x s .norm s1 h1 [] S L a w hG hA hI _ fun e a1 w1 hd=>?_).1)⟩;obtain⟨rfl,hd⟩:=hd;obtain⟨L1,d1,d2,d3⟩:=hd;exact g2 _ L1 a1 w1 (hG.mono (fun _ h=> .inl h) d3.agree) d1 d2 Q fun a2 w2 hd2=>hQ a2 w2 (hd2.trans hI d2 d3)
 |region id ops draw=>intro s ex s' h;simp only[evS]at h;cases ho:Co ops with
  |false=>rw[ho]at h;cases h
  |true=>
   rw[ho,cond_true]at h;split at h<;>first|(cases h;done)|skip
   rename_i s1 h1;injection h with h;injection h with e1 e2;subst e1;subst e2;refine⟨.inl rfl,fun S L a w hG hA hI Q hQ=>?_⟩;have hreg:=Zj8 (Q:=fun e a' w'=>e= .normal∧Fh [] B S L s.H w s1 a' w') hC.mixed hih.call h1 hG hA hI fun a' w' hd=>⟨rfl,hd⟩;exact sub_region hC.mixed (fun e a w q=>q.1) hrec (fun a w q=>hQ a w q.2) ho (fun e=>by subst e;exact evRegion_regOk h1) hreg id
 |_=>intro s ex s' h;cases h
theorem enter_ai{S:Nat→Prop}{L:Nat→Loc}{args args':List Value}(hargs:VRs S L args args')(n:Nat):AI [] S L (args.length+(n-args.length)) (Qc 0 args .nil) { tmps:=args'.toArray++Array.replicate (n-args'.toArray.size) undef,defers:=[] } :=by
 have hlen:=hargs.1;refine⟨rfl,by simp[hlen],fun t u hu=>?_⟩;rw[tmOf_get]at hu;split at hu
 ·rename_i ht;simp only[Nat.sub_zero]at hu;obtain⟨u',h1,h2⟩:=hargs.get hu;have hlt:t<args'.length:=by omega
  refine⟨by omega,?_⟩;have:(args'.toArray++Array.replicate (n-args'.toArray.size) undef).getD t undef=u':=by rw[Array.getD_eq_getD_getElem?];rw[Array.getElem?_append,if_pos (by simpa using hlt),List.getElem?_toArray,h1];rfl
  show VR S L u ((args'.toArray++Array.replicate (n-args'.toArray.size) undef).getD t undef);rw[this];exact h2
 ·cases hu
theorem run_enter(hC:CfgOk P C){f:FuncId}{fn:Func}{c:Code}(hfn:P.funcs[f]?=some fn)(hbody:fn.body=some c)(args:Array Value)(w:World):(callFunc f args).run P w= .ok (.enter f args) w:=by
 have hname:=hC.names f fn hfn (by rw[hbody];rfl);have hname':fn.name≠ "runtime.NumGoroutine":=by simpa using hname
 simp[callFunc,hfn,hname',hbody]
def Uf:FrameMode→FrameMode| .panicking [{ v:=v,recovered:=false,goexit:=false }]=> .panicking [{ v:=v,recovered:=true }]|m=>m
theorem settle_after{u:FrameMode}(h:u= .returning∨ ∃v,u= .panicking [{ v:=v,recovered:=false }]):settle (Uf u)= .returning:=by rcases h with rfl|⟨v,rfl⟩<;>rfl
theorem rec_after{u:FrameMode}{rv:Value}(h:(u= .returning∧rv= .nilIface)∨u= .panicking [{ v:=rv,recovered:=false }])(c:Frame)(hc:c.mode=u)(cs:List Frame):recoverD (c::cs)=some (rv,{ c with mode:=Uf u } ::cs)∨(recoverD (c::cs)=none∧rv= .nilIface∧({ c with mode:=Uf u } ::cs)=c::cs):=by
 rcases h with⟨rfl,rfl⟩|rfl;·right;refine⟨by simp[recoverD,hc],rfl,?_⟩;rw[show Uf .returning=c.mode from hc.symm]
 ·left;simp[recoverD,hc];rfl
theorem evDef_ok(hC:CfgOk P C){ih:Lv}(hih:LvOk P C B ih){g:FuncId}{args:List Value}{rv:Value}{H H':AH}(h:Zb9 P C ih g args rv H=some H'){S:Nat→Prop}{L:Nat→Loc}{w:World}{args':List Value}(hG:GO C S L)(hI:Inv B S L H w)(ha:VRs S L args args'){u:FrameMode}(hu:(u= .returning∧rv= .nilIface)∨u= .panicking [{ v:=rv,recovered:=false }]): ∃fn,P.funcs[g]?=some fn∧fn.body.isSome=true∧CallsD P g args'.toArray u w fun e u' w'=>(∃v,e= .returned v)∧u'=Uf u∧ ∃L',Inv B (ext S H.n H'.n) L' H' w'∧Fr S L H w L' H' w':=by
 unfold Zb9 at h;split at h<;>first|(cases h;done)|skip
 rename_i fn hfn;split at h<;>first|(cases h;done)|skip
 rename_i c hbody;refine⟨fn,hfn,by rw[hbody];rfl,callsD_of_wpS hfn hbody fun c₀ cs hc=>?_⟩;have hrec:=rec_after hu c₀ hc cs;have fin: ∀(ex:Ex)(s1:St)(vs:List Value),(ex= .norm∨ex= .ret)→Zt P s1 fn.results.toList=some vs→s1.H=H'→ ∀a' w',Fh [] B S L H w s1 a' w'→bodyPostS P fn c₀ cs (fun e u' w'=>(∃v,e= .returned v)∧u'=Uf u∧ ∃L',Inv B (ext S H.n H'.n) L' H' w'∧Fr S L H w L' H' w') (exitOf ex) a' ({ c₀ with mode:=Uf u } ::cs) w':=fun ex s1 vs hex hr he a' w' hd=>by obtain⟨L',d1,d2,d3⟩:=hd;obtain⟨v',r1,r2⟩:=Cp (P:=P) d1 d2 hr;subst he;have:a'.defers=[]∧ ∃u',({ c₀ with mode:=Uf u } ::cs)= { c₀ with mode:=u' } ::cs∧ ∃v,(results fn a'.tmps).run P w'= .ok v w'∧(∃v1,Ending.returned v= .returned v1)∧u'=Uf u∧ ∃L',Inv B (ext S H.n s1.H.n) L' s1.H w'∧Fr S L H w L' s1.H w':=⟨d1.defers,Uf u,rfl,v',r1,⟨v',rfl⟩,rfl,L',d2,d3⟩;rcases hex with rfl|rfl<;>exact this
 split at h<;>first|(cases h;done)|skip
 ·rename_i s1 he;split at h<;>first|(cases h;done)|skip
  rename_i vs hr;exact(evS_ok hC hih hrec c _ _ _ he).2 S L _ w hG (enter_ai ha fn.ntmps) hI _ (fin _ s1 vs (.inl rfl) hr (Option.some.inj h))
 ·rename_i s1 he;split at h<;>first|(cases h;done)|skip
  rename_i vs hr;exact(evS_ok hC hih hrec c _ _ _ he).2 S L _ w hG (enter_ai ha fn.ntmps) hI _ (fin _ s1 vs (.inr rfl) hr (Option.some.inj h))
theorem defForm_some{c:Code}{a:Code}{ops:Array Oper}{o1:Oper}{dc:Call}{rest:Code}(h:Ab c=some (a,ops,o1,dc,rest)): ∃id ty pos after,c= .seq a (.seq (.region id ops false) rest)∧ops.toList=[o1,⟨none,.defer dc,ty,pos,after,none⟩]:=by
 unfold Ab at h;split at h<;>first|(cases h;done)|skip
 rename_i a' id ops' rest';unfold defOps at h;split at h<;>first|(cases h;done)|skip
 rename_i o1' c' ty pos after hops;injection h with h;injection h with e1 h;injection h with e2 h;injection h with e3 h;injection h with e4 e5;subst e1;subst e2;subst e3;subst e4;subst e5;exact⟨id,ty,pos,after,rfl,hops⟩
theorem recOf_spec{ex:Ex}{rv:Value}(h:Kl ex=some rv){Df:List Deferred}{S:Nat→Prop}{L:Nat→Loc}{H:AH}{w:World}{s':St}{e:Exit}{a':Act}{w':World}(hd:Cs Df B S L H w ex s' e a' w'):Fh Df B S L H w s' a' w'∧(((e= .normal∨e= .ret)∧rv= .nilIface)∨e= .panic [{ v:=rv,recovered:=false }]):=by
 unfold Kl at h;split at h<;>first|(cases h;done)|skip
 ·obtain rfl:=Option.some.inj h;exact⟨hd.2,.inl ⟨.inl hd.1,rfl⟩⟩
 ·obtain rfl:=Option.some.inj h;exact⟨hd.2,.inl ⟨.inr hd.1,rfl⟩⟩
 ·rename_i v;cases hp:plain v with
  |false=>rw[hp]at h;cases h
  |true=>
   rw[hp,cond_true]at h;split at h<;>first|(cases h;done)|skip
   obtain rfl:=Option.some.inj h;obtain⟨v',he,L',d1,d2,d3,d4⟩:=hd;obtain rfl:=plain_eq hp d4;exact⟨⟨L',d1,d2,d3⟩,.inr he⟩
theorem call_ok(hC:CfgOk P C){ih:Lv}(hih:LvOk P C B ih):Zd6 P C B (Js P C ih):=by intro f args H o H' h S L w args' hG hI hargs;unfold Js at h;cases hfa:Nat.beq f C.add with
 |true=>
  rw[hfa,cond_true]at h;obtain rfl:=Nat.eq_of_beq_eq_true hfa;split at h<;>first|(cases h;done)|skip
  rename_i x y c hn;injection h with h;injection h with h1 h2;subst h1;subst h2;obtain⟨rfl,hc⟩:=Zo8 hn hargs;obtain⟨fn,e1,e2,e3,e4,e5⟩:=hC.add;refine .inl ⟨_,_,w,rfl,?_,Good.same hI (v':= .tuple #[.int .u64 (Int.ofNat ((x+y+c)%18446744073709551616)),.int .u64 (Int.ofNat ((x+y+c)/18446744073709551616))]) (Kj rfl)⟩;rw[run_callFunc_extern e1 e2 e3 e4 e5];show((add64Entry #[.int .u64 x,.int .u64 y,.int .u64 c]).run P w).andThen _=_;rw[run_add x y c hc w];rfl
 |false=>rw[hfa,cond_false]at h;cases hfs:Nat.beq f C.sub with
  |true=>
   rw[hfs,cond_true]at h;obtain rfl:=Nat.eq_of_beq_eq_true hfs;split at h<;>first|(cases h;done)|skip
   rename_i x y c hn;injection h with h;injection h with h1 h2;subst h1;subst h2;obtain⟨rfl,hc⟩:=Zo8 hn hargs;obtain⟨fn,e1,e2,e3,e4,e5⟩:=hC.sub;refine .inl ⟨_,_,w,rfl,?_,Good.same hI (v':= .tuple #[.int .u64 (Int.ofNat ((x+18446744073709551616-y-c)%18446744073709551616)),.int .u64 (cond (Nat.blt x (y+c)) 1 0)]) (Kj rfl)⟩;rw[run_callFunc_extern e1 e2 e3 e4 e5];show((Zl7 #[.int .u64 x,.int .u64 y,.int .u64 c]).run P w).andThen _=_;rw[run_sub x y c hc w];rfl
  |false=>
   rw[hfs,cond_false]at h;split at h<;>first|(cases h;done)|skip
   rename_i fn hfn;split at h<;>first|(cases h;done)|skip
   rename_i c hbody;have hA:=enter_ai hargs fn.ntmps;right;refine⟨run_enter hC hfn hbody _ w,?_⟩;unfold Ds at h;split at h
   ·rename_i x a ops o1 dc rest hdf;obtain⟨id,ty,pos,after,rfl,hops⟩:=defForm_some hdf;unfold Uo at h;split at h<;>first|(cases h;done)|skip
    rename_i s1 ha;split at h<;>first|(cases h;done)|skip
    rename_i s2 hl;split at h<;>first|(cases h;done)|skip
    rename_i g dargs hd;split at h<;>first|(cases h;done)|skip
    rename_i ex s3 hr;split at h<;>first|(cases h;done)|skip
    rename_i rv hrv;split at h<;>first|(cases h;done)|skip
    rename_i H4 hdef;split at h<;>first|(cases h;done)|skip
    rename_i vs hres;injection h with h;injection h with h1 h2;subst h1;subst h2;refine calls_of_wp_defers hfn hbody (wp_seq ((hih.code a _ .norm s1 ha [] S L _ w hG hA hI _ fun e a1 w1 hd1=>?_).1));obtain⟨rfl,hd1⟩:=hd1;obtain⟨L1,d1,d2,d3⟩:=hd1;have hG1:=hG.mono (S':=ext S H.n s1.H.n) (L':=L1) (fun _ h=> .inl h) d3.agree;refine wp_seq (wp_region ?_);have hsz:ops.size=2:=by have:=congrArg List.length hops;simpa using this
    have ho1:ops[0]?=some o1:=by rw[←Array.getElem?_toList,hops];rfl
    have ho2:ops[1]?=some ⟨none,.defer dc,ty,pos,after,none⟩:=by rw[←Array.getElem?_toList,hops];rfl
    rw[hsz];show wpOps P ops _ [0,1] a1 w1;have next: ∀(a2:Act)(w2:World),Fh [] B (ext S H.n s1.H.n) L1 s1.H w1 s2 a2 w2→wpOps P ops (Exit.then (fun a' w'=>rest.wp P (bodyPostD P fn fun e w'=>EndIs B S L H w (.ret (Yv vs)) H4 e w') a' w') (bodyPostD P fn fun e w'=>EndIs B S L H w (.ret (Yv vs)) H4 e w')) [1] a2 w2:=fun a2 w2 hd2=>by
     have hd2':=hd2.trans hI d2 d3;obtain⟨L2,f1,f2,f3⟩:=hd2';have hG2:=hG.mono (S':=ext S H.n s2.H.n) (L':=L2) (fun _ h=> .inl h) f3.agree;rw[wpOps_cons];unfold wpOp;rw[ho2];dsimp only;have hwant:Region.wanted ⟨none,.defer dc,ty,pos,after,none⟩ (yielded ops a2.tmps)=true:=rfl;rw[hwant,if_pos rfl];refine .inl ?_;obtain⟨fs',cs',xs',q1,q2⟩:=dcallV_ok (P:=P) (fun x _ u hx=>opd_vr hG2 f1 hx) hd ty;have hrun:(execOp a2.eval ⟨none,.defer dc,ty,pos,after,none⟩).run P w2= .ok (.defer { target:= .fn (.func g) cs',args:=fs'++xs'.toArray }) w2:=by simp only[execOp,Sem.run_bind,q1,Result.andThen_ok,Sem.run_pure]
     unfold Oper.wp;rw[hrun];have f1d:=f1.defers;show rest.wp P _ { a2 with defers:= { target:= .fn (.func g) cs',args:=fs'++xs'.toArray } ::a2.defers } w2;rw[f1d];have hA2:AI [{ target:= .fn (.func g) cs',args:=fs'++xs'.toArray }] (ext S H.n s2.H.n) L2 s2.k s2.tm { a2 with defers:=[{ target:= .fn (.func g) cs',args:=fs'++xs'.toArray }] } :=⟨rfl,f1.size,f1.tmp⟩;refine(hih.code rest s2 ex s3 hr _ _ L2 _ w2 hG2 hA2 f2 _ fun e a3 w3 hd3=>?_).1;obtain⟨hd3,hmode⟩:=recOf_spec hrv hd3;obtain⟨L3,g1,g2,g3⟩:=hd3;rw[ext_ext f3.n g3.n]at g1 g2;have g30:=f3.trans hI f2 (fun _ h=> .inl h) g3;have hG3:=hG.mono (S':=ext S H.n s3.H.n) (L':=L3) (fun _ h=> .inl h) g30.agree;have leave: ∀u:FrameMode,((u= .returning∧rv= .nilIface)∨u= .panicking [{ v:=rv,recovered:=false }])→Leaves P fn a3.tmps (fun e w'=>EndIs B S L H w (.ret (Yv vs)) H4 e w') a3.defers u w3:=fun u hu=>by
      rw[g1.defers];have hargs3:VRs (ext S H.n s3.H.n) L3 dargs (fs'.toList++xs'++cs'.toList):=q2.mono (fun i hi=>by
       rcases hi with hi|⟨h1,h2⟩;·exact .inl hi
       ·exact .inr ⟨h1,Nat.lt_of_lt_of_le h2 g3.n⟩) (fun i hi=>g3.agree i hi);obtain⟨fng,hfg,hbg,hcd⟩:=evDef_ok hC hih hdef hG3 g2 hargs3 hu;obtain⟨cg,hcg⟩: ∃cg,fng.body=some cg:=Option.isSome_iff_exists.mp hbg;have e:fs'++xs'.toArray++cs'=(fs'.toList++xs'++cs'.toList).toArray:=by apply Array.ext';simp
      refine leaves_cons (by rcases hu with⟨rfl,_⟩|rfl<;>simp) (f:=g) (args:=(fs'.toList++xs'++cs'.toList).toArray) (by simp only[invoke];rw[e];exact run_enter hC hfg hcg _ w3) (hcd.mono fun e u' w4 hx=>?_);obtain⟨⟨v4,rfl⟩,rfl,L4,i1,i2⟩:=hx;show Leaves P fn a3.tmps _ [] (settle (Uf u)) w4;rw[settle_after (by rcases hu with⟨h,_⟩|h;exact .inl h;exact .inr ⟨_,h⟩)];rw[ext_ext g30.n i2.n]at i1;have g4:=g30.trans hI g2 (fun _ h=> .inl h) i2;have hA4:AI a3.defers (ext S H.n H4.n) L4 s3.k s3.tm a3:=⟨rfl,g1.size,fun t v ht=>⟨(g1.tmp t v ht).1,(g1.tmp t v ht).2.mono (fun i hi=>by
       rcases hi with hi|⟨h1,h2⟩;·exact .inl hi
       ·exact .inr ⟨h1,Nat.lt_of_lt_of_le h2 i2.n⟩) (fun i hi=>i2.agree i hi)⟩⟩;obtain⟨v',r1,r2⟩:=Cp (P:=P) (s:= { k:=s3.k,tm:=s3.tm,H:=H4 }) hA4 i1 hres;exact⟨v',r1,v',rfl,L4,i1,g4,r2⟩
     rcases hmode with⟨rfl|rfl,hnil⟩|rfl;·exact leave .returning (.inl ⟨rfl,hnil⟩)
     ·exact leave .returning (.inl ⟨rfl,hnil⟩)
     ·exact leave _ (.inr rfl)
    rw[wpOps_cons];unfold wpOp;rw[ho1];dsimp only;rw[Vh]at hl;split at hl<;>first|(cases hl;done)|skip
    ·rename_i hw;rw[Gq hw (d1.guard o1),if_pos rfl];split at hl<;>first|(cases hl;done)|skip
     rename_i v1 H1 hop;split at hl<;>first|(cases hl;done)|skip
     rename_i s2' hput;rw[Dt]at hl;obtain rfl:=Option.some.inj hl;refine .inl ((Vk hih.call hG1 d2 (fun x _ u hx=>opd_vr hG1 d1 hx) hop).wp fun v' w2 hgood=>?_);obtain⟨L2,p1,p2,p3⟩:=hgood;obtain⟨e1,e2,_⟩:=Qv hput;refine next _ w2 ⟨L2,?_,by rw[e1];exact p1,by rw[e1];exact p2⟩;have:=d1.put (S':=ext (ext S H.n s1.H.n) s1.H.n H1.n) (L':=L2) (fun _ h=> .inl h) p2.agree p3 hput;rw[e1];exact this
    ·rename_i hw;rw[Gq hw (d1.guard o1),if_neg (by simp)];split at hl<;>first|(cases hl;done)|skip
     rename_i s2' hput;rw[Dt]at hl;obtain rfl:=Option.some.inj hl;obtain⟨e1,e2,_⟩:=Qv hput;have:=d1.put (S':=ext S H.n s1.H.n) (L':=L1) (fun _ h=>h) (fun _ _=>rfl) Zd4 hput;refine next _ w1 ?_;have hdd:=Fh.refl (B:=B) (w:=w1) this (by rw[e1];exact d2);rw[e1]at hdd;exact hdd
   ·refine calls_of_wp hfn hbody ?_;unfold finO at h;split at h<;>first|(cases h;done)|skip
    ·rename_i s1 hcode;split at h<;>first|(cases h;done)|skip
     rename_i vs hr;injection h with h;injection h with h1 h2;subst h1;subst h2;refine(hih.code c _ _ s1 hcode [] S L _ w hG hA hI _ fun e a' w' hd=>?_).1;obtain⟨rfl,L',d1,d2,d3⟩:=hd;obtain⟨v',r1,r2⟩:=Cp (P:=P) d1 d2 hr;exact⟨d1.defers,v',r1,v',rfl,L',d2,d3,r2⟩
    ·rename_i s1 hcode;split at h<;>first|(cases h;done)|skip
     rename_i vs hr;injection h with h;injection h with h1 h2;subst h1;subst h2;refine(hih.code c _ _ s1 hcode [] S L _ w hG hA hI _ fun e a' w' hd=>?_).1;obtain⟨rfl,L',d1,d2,d3⟩:=hd;obtain⟨v',r1,r2⟩:=Cp (P:=P) d1 d2 hr;exact⟨d1.defers,v',r1,v',rfl,L',d2,d3,r2⟩
    ·rename_i v s1 hcode;injection h with h;injection h with h1 h2;subst h1;subst h2;refine(hih.code c _ _ s1 hcode [] S L _ w hG hA hI _ fun e a' w' hd=>?_).1;obtain⟨v',rfl,L',d1,d2,d3,d4⟩:=hd;exact⟨d1.defers,v',rfl,L',d2,d3,d4⟩
theorem lv_ok(hC:CfgOk P C): ∀n,LvOk P C B (lv P C n)|0=>⟨(fun c s ex s' h=>by rw[Ze6]at h;cases h),(fun f args H v H' h=>by rw[Ze6]at h;cases h)⟩|n+1=>by have ih:=lv_ok hC n;have hO:=call_ok hC ih;rw[Ze5];exact⟨step_ok hC ih hO,hO.ret⟩
theorem run_calls{P:Program}{C:Cfg}{B:Nat}(hC:CfgOk P C){n:Nat}{f:FuncId}{args args':List Value}{H H':AH}{v:Value}(h:run P C n f args H=some (v,H')){fn:Func}(hf:P.funcs[f]?=some fn)(hb:fn.body.isSome=true){S:Nat→Prop}{L:Nat→Loc}{w:World}(hG:GO C S L)(hI:Inv B S L H w)(ha:VRs S L args args'):Calls P f args'.toArray w fun e w'=> ∃v',e= .returned v'∧Good B S L H w v H' v' w':=by
 rcases(call_ok hC (lv_ok (B:=B) hC n)).ret f args H v H' h S L w args' hG hI ha with⟨v',w',h1,h2⟩|⟨_,h2⟩
 ·exfalso;have hname:=hC.names f fn hf hb;have hname':fn.name≠ "runtime.NumGoroutine":=by simpa using hname
  cases hbody:fn.body with|none=>rw[hbody]at hb;cases hb|some c=>rw[show(callFunc f args'.toArray).run P w= .ok (.enter f args'.toArray) w by simp[callFunc,hf,hname',hbody]]at h1;injection h1 with h1 _;cases h1
 ·exact h2
theorem Good.below{B:Nat}{S:Nat→Prop}{L:Nat→Loc}{H H':AH}{w w':World}{v v':Value}(hI:Inv B S L H w)(h:Good B S L H w v H' v' w'):Below B w w':=by
 obtain⟨L',g1,g2,g3⟩:=h;refine⟨g2.os,g2.tape,g2.output,g2.size,fun k hk=>?_⟩;rcases g2.frame k (Nat.lt_of_lt_of_le hk hI.base)with h1|⟨i,sz,cs,h1,h2,_⟩;·exact h1
 ·have:=(hI.rw i sz cs h1).2.1;omega
#print axioms run_calls
end
end
end Go.Proofs.YtmkfecoeghokfaaGreatDoor.Ev
namespace Go.Proofs.YtmkfecoeghokfaaGreatDoor.Ev
open Go Go.RowKit
set_option linter.unusedVariables false
set_option linter.unusedSimpArgs false
noncomputable section
set_option maxHeartbeats 1000000
section
def CLe(f g:FuncId→List Value→AH→Option (Value×AH)):Prop:= ∀x a H r,f x a H=some r→g x a H=some r
def ELe(f g:Code→St→Option (Ex×St)):Prop:= ∀c s r,f c s=some r→g c s=some r
section
variable {P : Program} {C : Cfg} {f g : FuncId → List Value → AH → Option (Value × AH)}
theorem Kb(h:CLe f g){tm:Tr Value}{H:AH}{op:Op}{r:Value×AH}(he:Yf P C f tm H op=some r):Yf P C g tm H op=some r:=by
 cases op;case call c=>obtain⟨callee,cargs,cts⟩:=c;cases callee with
  |value x=>
   simp only[Yf,Xa]at he⊢;split at he<;>first|(cases he;done)|skip
   split at he<;>first|(cases he;done)|skip
   exact h _ _ _ _ he
  |builtin b=>exact he
  |invoke x m=>
   simp only[Yf,Xa]at he⊢;split at he<;>first|(cases he;done)|skip
   split at he<;>first|(cases he;done)|skip
   exact h _ _ _ _ he
 all_goals exact he
theorem Dl(h:CLe f g){ops:Array Oper} : ∀(l:List Oper)(s s':St),Uc P C f ops l s=some s'→Uc P C g ops l s=some s'
 |[],s,s',he=>he
 |o::rest,s,s',he=>by
  rw[Vh]at he⊢;split at he<;>first|(cases he;done)|skip
  ·rename_i hw;split at he<;>first|(cases he;done)|skip
   rename_i v H hop;split at he<;>first|(cases he;done)|skip
   rename_i s1 hput;simp only[Kb h hop,hput];exact Dl h rest s1 s' he
  ·rename_i hw;split at he<;>first|(cases he;done)|skip
   rename_i s1 hput;try simp only[hput]
   exact Dl h rest s1 s' he
theorem Zn8(h:CLe f g){X:Xs}{ops:Array Oper}{i:Nat}{q:Bool}{ms:List (Nat×Nat×Nat)}{s:St}{o:Oper}{r:Value×AH×Bool}(he:Qp X P C f ops i q ms s o=some r):Qp X P C g ops i q ms s o=some r:=by unfold Qp at he⊢;cases hh:Zv o.op with
 |false=>
  rw[hh,cond_false]at he;rw[cond_false];split at he<;>first|(cases he;done)|skip
  rename_i v H2 hop;simp only[Kb h hop];exact he
 |true=>rw[hh,cond_true]at he;rw[cond_true];cases hf:X.fv i with
  |some vf=>rw[hf]at he;exact he
  |none=>
   rw[hf]at he;simp only at he⊢;split at he<;>first|(cases he;done)|skip
   rename_i v H2 hop;simp only[Kb h hop];exact he
theorem Dk(h:CLe f g){X:Xs}{ops:Array Oper} : ∀(l:List Oper)(i:Nat)(q:Bool)(ms:List (Nat×Nat×Nat))(s s':St),Ja X P C f ops i q ms l s=some s'→Ja X P C g ops i q ms l s=some s'
 |[],i,q,ms,s,s',he=>by simp only[Ja]at he⊢;exact he
 |o::rest,i,q,ms,s,s',he=>by
  simp only[Ja]at he⊢;split at he<;>first|(cases he;done)|skip
  ·rename_i hw;split at he<;>first|(cases he;done)|skip
   rename_i v H q' hop;split at he<;>first|(cases he;done)|skip
   rename_i s1 hput;simp only[Zn8 h hop,hput];exact Dk h rest _ _ _ s1 s' he
  ·rename_i hw;split at he<;>first|(cases he;done)|skip
   rename_i s1 hput;try simp only[hput]
   exact Dk h rest _ _ _ s1 s' he
theorem Zj6(h:CLe f g){ops:Array Oper} : ∀(l:List Oper)(i:Nat)(fs:List (Nat×Nat×Bool))(s s':St),Kt P C f ops i fs l s=some s'→Kt P C g ops i fs l s=some s'
 |[],i,fs,s,s',he=>by simp only[Kt]at he⊢;exact he
 |o::rest,i,fs,s,s',he=>by
  simp only[Kt]at he⊢;split at he<;>first|(cases he;done)|skip
  ·rename_i hw;split at he<;>first|(cases he;done)|skip
   ·rename_i hf;split at he<;>first|(cases he;done)|skip
    rename_i v H hop;split at he<;>first|(cases he;done)|skip
    rename_i s1 hput;simp only[Kb h hop,hput];exact Zj6 h rest _ _ s1 s' he
   ·rename_i b w hf;cases hc:Kr ((before ops).getD i 0) b w fs with
    |false=>rw[hc]at he;cases he
    |true=>
     rw[hc,cond_true]at he;rw[cond_true];split at he<;>first|(cases he;done)|skip
     rename_i v H hop;split at he<;>first|(cases he;done)|skip
     rename_i s1 hput;simp only[Kb h hop,hput];exact Zj6 h rest _ _ s1 s' he
  ·rename_i hw;split at he<;>first|(cases he;done)|skip
   rename_i s1 hput;try simp only[hput]
   exact Zj6 h rest _ _ s1 s' he
theorem Bg(h:CLe f g){ops:Array Oper} : ∀(l:List Oper)(s s':St),Fo P C f ops l s=some s'→Fo P C g ops l s=some s'
 |[],s,s',he=>he
 |o::rest,s,s',he=>by
  simp only[Fo]at he⊢;split at he<;>first|(cases he;done)|skip
  ·cases hh:Zv o.op with
   |true=>rw[hh]at he;cases he
   |false=>
    rw[hh,cond_false]at he;rw[cond_false];split at he<;>first|(cases he;done)|skip
    rename_i v H hop;split at he<;>first|(cases he;done)|skip
    rename_i s1 hput;simp only[Kb h hop,hput];exact Bg h rest s1 s' he
  ·split at he<;>first|(cases he;done)|skip
   rename_i s1 hput;try simp only[hput]
   exact Bg h rest s1 s' he
theorem evSplit_le(h:CLe f g){ops:Array Oper}{s s':St}(he:Ga P C f ops s=some s'):Ga P C g ops s=some s':=by unfold Ga at he⊢;cases hc:Dd ops with
 |false=>rw[hc]at he;cases he
 |true=>
  rw[hc,cond_true]at he;rw[cond_true];split at he<;>first|(cases he;done)|skip
  rename_i s1 o1 oz hs1 ho1 hoz;split at he<;>first|(cases he;done)|skip
  rename_i b _ hfoot;split at he<;>first|(cases he;done)|skip
  rename_i sz cs hblk;split at he<;>first|(cases he;done)|skip
  rename_i v Hx hload;split at he<;>first|(cases he;done)|skip
  rename_i s3 hs3;split at he<;>first|(cases he;done)|skip
  rename_i vz H4 hst;simp only[Bg h _ _ _ hs1,ho1,hoz,hfoot,hblk,Kb h hload,Dk h _ _ _ _ _ _ hs3,Kb h hst];exact he
theorem Ch(h:CLe f g){ops:Array Oper}{draw:Bool}{s s':St}(he:Xz P C f ops draw s=some s'):Xz P C g ops draw s=some s':=by unfold Xz at he⊢;cases hb:(draw&&Vw ops)with
 |true=>rw[hb,cond_true]at he;rw[cond_true];cases hr:Gm ops with|false=>rw[hr]at he;cases he|true=>rw[hr,cond_true]at he;rw[cond_true];exact Zj6 h _ _ _ _ _ he
 |false=>rw[hb,cond_false]at he;rw[cond_false];cases hs:(draw&&isSplit C ops)with
  |true=>rw[hs,cond_true]at he;rw[cond_true];exact evSplit_le h he
  |false=>rw[hs,cond_false]at he;rw[cond_false];unfold Ud at he⊢;cases draw with
   |false=>rw[cond_false]at he⊢;exact Dl h _ _ _ he
   |true=>rw[cond_true]at he⊢;cases hr:Gm ops with|false=>rw[hr]at he;cases he|true=>rw[hr,cond_true]at he;rw[cond_true];exact Dk h _ _ _ _ _ _ he
theorem Zg7{ops:Array Oper}{s:St} :Xz P C f ops false s=Uc P C f ops ops.toList s:=by unfold Xz Ud;simp
end
structure LLe (u v : Lv) : Prop where
  code : ELe u.code v.code
  call : CLe u.call v.call
section
variable {P : Program} {C : Cfg} {u v : Lv}
theorem evS_le(h:LLe u v){rv:Value} : ∀(c:Code)(s:St)(r:Ex×St),evS P C u rv c s=some r→evS P C v rv c s=some r:=by intro c;induction c with
 |seq x y ihx ihy=>intro s r he;simp only[evS]at he⊢;cases hf:Bi x with
  |true=>
   rw[hf,cond_true]at he;rw[cond_true];split at he<;>first|(cases he;done)|skip
   rename_i s1 h1;rw[ihx _ _ h1];simp only;unfold Zl0 at he⊢;split at he<;>first|(cases he;done)|skip
   ·rename_i s2 e;rw[h.code _ _ _ e];exact he
   ·rename_i s2 e;rw[h.code _ _ _ e];exact he
  |false=>
   rw[hf,cond_false]at he;rw[cond_false];split at he<;>first|(cases he;done)|skip
   rename_i s1 h1;rw[h.code _ _ _ h1];exact ihy _ _ he
 |region id ops draw=>intro s r he;simp only[evS]at he⊢;cases ho:Co ops with
  |false=>rw[ho]at he;cases he
  |true=>
   rw[ho,cond_true]at he;rw[cond_true];split at he<;>first|(cases he;done)|skip
   rename_i s1 h1;rw[Ch h.call h1];exact he
 |_=>intro s r he;cases he
theorem evDef_le(h:LLe u v){g:FuncId}{args:List Value}{rv:Value}{H H':AH}(he:Zb9 P C u g args rv H=some H'):Zb9 P C v g args rv H=some H':=by
 unfold Zb9 at he⊢;split at he<;>first|(cases he;done)|skip
 split at he<;>first|(cases he;done)|skip
 split at he<;>first|(cases he;done)|skip
 ·rename_i hc;rw[evS_le h _ _ _ hc];exact he
 ·rename_i hc;rw[evS_le h _ _ _ hc];exact he
theorem evDeferred_le(h:LLe u v){fn:Func}{a:Code}{ops:Array Oper}{o1:Oper}{c:Call}{rest:Code}{s0:St}{r:Out×AH}(he:Uo P C u fn a ops o1 c rest s0=some r):Uo P C v fn a ops o1 c rest s0=some r:=by
 unfold Uo at he⊢;split at he<;>first|(cases he;done)|skip
 rename_i h1;rw[h.code _ _ _ h1];simp only;split at he<;>first|(cases he;done)|skip
 rename_i h2;rw[Dl h.call _ _ _ h2];simp only;split at he<;>first|(cases he;done)|skip
 rename_i h3;split at he<;>first|(cases he;done)|skip
 rename_i h4;rw[h.code _ _ _ h4];simp only;split at he<;>first|(cases he;done)|skip
 rename_i h5;split at he<;>first|(cases he;done)|skip
 rename_i h6;rw[evDef_le h h6];exact he
theorem evBody_le(h:LLe u v){fn:Func}{c:Code}{s0:St}{r:Out×AH}(he:Ds P C u fn c s0=some r):Ds P C v fn c s0=some r:=by
 unfold Ds at he⊢;split at he;·exact evDeferred_le h he
 ·cases hc:u.code c s0 with|none=>rw[hc]at he;cases he|some x=>rw[hc]at he;rw[h.code _ _ _ hc];exact he
theorem Ac(h:LLe u v)(x:FuncId)(a:List Value)(H:AH)(r:Out×AH)(he:Js P C u x a H=some r):Js P C v x a H=some r:=by unfold Js at he⊢;cases h1:Nat.beq x C.add with
 |true=>rw[h1,cond_true]at he;rw[cond_true];exact he
 |false=>rw[h1,cond_false]at he;rw[cond_false];cases h2:Nat.beq x C.sub with
  |true=>rw[h2,cond_true]at he;rw[cond_true];exact he
  |false=>
   rw[h2,cond_false]at he;rw[cond_false];split at he<;>first|(cases he;done)|skip
   split at he<;>first|(cases he;done)|skip
   exact evBody_le h he
theorem Gj(h:LLe u v):CLe (Qa P C u) (Qa P C v):=fun x a H r he=>by obtain⟨w,H'⟩:=r;have:=Ac h _ _ _ _ (As he);unfold Qa;rw[this];rfl
theorem evCallP_le(h:LLe u v):CLe (Jb P C u) (Jb P C v):=fun x a H r he=>by obtain⟨w,H'⟩:=r;have:=Ac h _ _ _ _ (Aq he);unfold Jb;rw[this];rfl
theorem ret_pan(h:LLe u v){x:FuncId}{a:List Value}{H:AH}{r:Value×AH}(he:Qa P C u x a H=some r):Jb P C v x a H=none:=by obtain⟨w,H'⟩:=r;have:=Ac h _ _ _ _ (As he);unfold Jb;rw[this];rfl
theorem pan_ret(h:LLe u v){x:FuncId}{a:List Value}{H:AH}{r:Value×AH}(he:Jb P C u x a H=some r):Qa P C v x a H=none:=by obtain⟨w,H'⟩:=r;have:=Ac h _ _ _ _ (Aq he);unfold Qa;rw[this];rfl
theorem Zj5{f:FuncId→List Value→AH→Option (Value×AH)}{tm:Tr Value}{H:AH}{c:Call}{g:FuncId}{args:List Value}(h:Qt C tm c=some (g,args)):Xa P C f tm H c=f g args H:=by
 obtain⟨callee,cargs,cts⟩:=c;unfold Qt at h;cases callee<;>simp only at h<;>first|(cases h;done)|skip
 split at h<;>first|(cases h;done)|skip
 rename_i fv h1;split at h<;>first|(cases h;done)|skip
 rename_i h3 h4;injection h with h;injection h with e1 e2;subst e1;subst e2;simp only[Xa,h1,h3,h4]
theorem Zh4(h:LLe u v){tm:Tr Value}{H:AH}{op:Op}{r:Value×AH}(he:Yf P C (Qa P C u) tm H op=some r):Et C (Jb P C v) tm H op=none:=by
 cases op;case call c=>simp only[Et];cases hd:Qt C tm c with|none=>rfl|some x=>obtain⟨g,args⟩:=x;simp only[Yf]at he;rw[Zj5 hd]at he;exact ret_pan h he
 case panic x=>cases he
 all_goals rfl
theorem evOp_none(h:LLe u v){tm:Tr Value}{H:AH}{op:Op}{r:Value×AH}(he:Et C (Jb P C u) tm H op=some r):Yf P C (Qa P C v) tm H op=none:=by
 cases op;case call c=>simp only[Et]at he;cases hd:Qt C tm c with|none=>rw[hd]at he;cases he|some x=>obtain⟨g,args⟩:=x;rw[hd]at he;simp only[Yf];rw[Zj5 hd];exact pan_ret h he
 case panic x=>rfl
 all_goals cases he
theorem panOp_le(h:LLe u v){tm:Tr Value}{H:AH}{op:Op}{r:Value×AH}(he:Et C (Jb P C u) tm H op=some r):Et C (Jb P C v) tm H op=some r:=by
 cases op;case call c=>simp only[Et]at he⊢;cases hd:Qt C tm c with|none=>rw[hd]at he;cases he|some x=>rw[hd]at he;exact evCallP_le h _ _ _ _ he
 case panic x=>exact he
 all_goals cases he
theorem Zc0(h:LLe u v){ops:Array Oper} : ∀(l:List Oper)(s:St)(r:Ex×St),Dw P C (Qa P C u) (Jb P C u) ops l s=some r→Dw P C (Qa P C v) (Jb P C v) ops l s=some r∧Uc P C (Qa P C v) ops l s=none
 |[],s,r,he=>by cases he
 |o::rest,s,r,he=>by
  rw[Vh];simp only[Dw]at he⊢;split at he<;>first|(cases he;done)|skip
  ·rename_i hw;split at he;·rename_i v1 H1 hp;rw[panOp_le h hp];simp only[evOp_none h hp];exact⟨he,trivial⟩
   ·rename_i hp;split at he<;>first|(cases he;done)|skip
    rename_i v1 H1 hop;split at he<;>first|(cases he;done)|skip
    rename_i s1 hput;rw[Zh4 h hop];simp only[Kb (Gj h) hop,hput];exact Zc0 h rest s1 r he
  ·rename_i hw;split at he<;>first|(cases he;done)|skip
   rename_i s1 hput;try simp only[hput]
   exact Zc0 h rest s1 r he
theorem evStep_le(h:LLe u v):ELe (Jl P C u) (Jl P C v):=by
 intro c s r he;cases c<;>simp only[Jl]at he⊢ <;>first|exact he|skip
 ·rename_i id ops draw;split at he;·rename_i s1 hr;rw[Ch (Gj h) hr];exact he
  ·cases draw with|true=>cases he|false=>rw[cond_false]at he;obtain⟨h1,h2⟩:=Zc0 h _ _ _ he;rw[Zg7,h2];exact h1
 ·split at he;·rename_i s1 hr;rw[h.code _ _ _ hr];exact h.code _ _ _ he
  ·rename_i hn;rw[h.code _ _ _ he];split;·rename_i s1 e;exact absurd (he.trans e) (by intro e';exact hn s1 e')
   ·rfl
 ·split at he<;>first|(cases he;done)|skip
  exact h.code _ _ _ he
 ·split at he;·rename_i j s1 hr;rw[h.code _ _ _ hr];exact he
  ·rename_i hn;rw[h.code _ _ _ he];split;·rename_i j s1 e;exact absurd (he.trans e) (by intro e';exact hn j s1 e')
   ·rfl
 ·split at he;·rename_i s1 hr;rw[h.code _ _ _ hr];exact h.code _ _ _ he
  ·rename_i hn;rw[h.code _ _ _ he];split;·rename_i s1 e;exact absurd (he.trans e) (by intro e';exact hn s1 e')
   ·rfl
end
theorem Za6{P:Program}{C:Cfg} : ∀{n m:Nat},n≤m→LLe (lv P C n) (lv P C m)|0,m,_=>⟨(fun c s r h=>by rw[Ze6]at h;cases h),(fun x a H r h=>by rw[Ze6]at h;cases h)⟩|n+1,0,h=>by omega|n+1,m+1,h=>by have ih:=Za6 (P:=P) (C:=C) (show n≤m by omega);rw[Ze5,Ze5];exact⟨evStep_le ih,Gj ih⟩
theorem ev_le{P:Program}{C:Cfg}{n m:Nat}(h:n≤m):ELe (ev P C n) (ev P C m):=(Za6 h).code
open Classical in def evI(P:Program)(C:Cfg)(c:Code)(s:St):Option (Ex×St):=if h: ∃n r,ev P C n c s=some r then some (Classical.choose (Classical.choose_spec h))else none
open Classical in def Zq(P:Program)(C:Cfg)(f:FuncId)(args:List Value)(H:AH):Option (Value×AH):=if h: ∃n r,(lv P C n).call f args H=some r then some (Classical.choose (Classical.choose_spec h))else none
theorem evI_of{P:Program}{C:Cfg}{n:Nat}{c:Code}{s:St}{r:Ex×St}(h:ev P C n c s=some r):evI P C c s=some r:=by have hx: ∃n r,ev P C n c s=some r:=⟨n,r,h⟩;unfold evI;rw[dif_pos hx];have h2:=Classical.choose_spec (Classical.choose_spec hx);have a:=ev_le (Nat.le_max_left n (Classical.choose hx)) c s r h;have b:=ev_le (Nat.le_max_right n (Classical.choose hx)) c s _ h2;rw[a]at b;exact b.symm
theorem evI_some{P:Program}{C:Cfg}{c:Code}{s:St}{r:Ex×St}(h:evI P C c s=some r): ∃n,ev P C n c s=some r:=by
 unfold evI at h;split at h;·rename_i hx;obtain rfl:=Option.some.inj h;exact⟨_,Classical.choose_spec (Classical.choose_spec hx)⟩
 ·cases h
theorem callI_of{P:Program}{C:Cfg}{n:Nat}{f:FuncId}{args:List Value}{H:AH}{r:Value×AH}(h:(lv P C n).call f args H=some r):Zq P C f args H=some r:=by have hx: ∃n r,(lv P C n).call f args H=some r:=⟨n,r,h⟩;unfold Zq;rw[dif_pos hx];have h2:=Classical.choose_spec (Classical.choose_spec hx);have a:=(Za6 (Nat.le_max_left n (Classical.choose hx))).call _ _ _ r h;have b:=(Za6 (Nat.le_max_right n (Classical.choose hx))).call _ _ _ _ h2;rw[a]at b;exact b.symm
theorem Zj3{P:Program}{C:Cfg}{f:FuncId}{args:List Value}{H:AH}{r:Value×AH}(h:Zq P C f args H=some r): ∃n,(lv P C n).call f args H=some r:=by
 unfold Zq at h;split at h;·rename_i hx;obtain rfl:=Option.some.inj h;exact⟨_,Classical.choose_spec (Classical.choose_spec hx)⟩
 ·cases h
def lvI(P:Program)(C:Cfg):Lv:=⟨evI P C,Zq P C⟩
theorem lv_lvI{P:Program}{C:Cfg}(n:Nat):LLe (lv P C n) (lvI P C):=⟨fun c s r h=>evI_of h,fun x a H r h=>callI_of h⟩
section
variable {P : Program} {C : Cfg} {F : FuncId → List Value → AH → Option (Value × AH)} {G : Nat → FuncId → List Value → AH → Option (Value × AH)}
theorem Dv(hfin: ∀x a H r,F x a H=some r→ ∃n,G n x a H=some r)(hmono: ∀{n m:Nat},n≤m→CLe (G n) (G m)){tm:Tr Value}{H:AH}{op:Op}{r:Value×AH}(he:Yf P C (F) tm H op=some r): ∃n,Yf P C (G n) tm H op=some r:=by
 cases op;case call c=>obtain⟨callee,cargs,cts⟩:=c;cases callee with
  |value x=>
   simp only[Yf,Xa]at he⊢;split at he<;>first|(cases he;done)|skip
   split at he<;>first|(cases he;done)|skip
   obtain⟨n,hn⟩:=hfin _ _ _ _ he;exact⟨n,hn⟩
  |builtin b=>exact⟨0,he⟩
  |invoke x m=>
   simp only[Yf,Xa]at he⊢;split at he<;>first|(cases he;done)|skip
   split at he<;>first|(cases he;done)|skip
   obtain⟨n,hn⟩:=hfin _ _ _ _ he;exact⟨n,hn⟩
 all_goals exact⟨0,he⟩
theorem Af(hfin: ∀x a H r,F x a H=some r→ ∃n,G n x a H=some r)(hmono: ∀{n m:Nat},n≤m→CLe (G n) (G m)){ops:Array Oper} : ∀(l:List Oper)(s s':St),Uc P C (F) ops l s=some s'→ ∃n,Uc P C (G n) ops l s=some s'
 |[],s,s',he=>⟨0,he⟩
 |o::rest,s,s',he=>by
  rw[Vh]at he;split at he<;>first|(cases he;done)|skip
  ·rename_i hw;split at he<;>first|(cases he;done)|skip
   rename_i v H hop;split at he<;>first|(cases he;done)|skip
   rename_i s1 hput;obtain⟨n1,h1⟩:=Dv hfin hmono hop;obtain⟨n2,h2⟩:=Af hfin hmono rest s1 s' he;refine⟨max n1 n2,?_⟩;rw[Vh,hw];simp only[Kb (hmono (Nat.le_max_left n1 n2)) h1,hput];exact Dl (hmono (Nat.le_max_right n1 n2)) _ _ _ h2
  ·rename_i hw;split at he<;>first|(cases he;done)|skip
   rename_i s1 hput;obtain⟨n2,h2⟩:=Af hfin hmono rest s1 s' he;refine⟨n2,?_⟩;rw[Vh,hw];try simp only[hput]
   exact h2
theorem evDrawOp_fin(hfin: ∀x a H r,F x a H=some r→ ∃n,G n x a H=some r)(hmono: ∀{n m:Nat},n≤m→CLe (G n) (G m)){X:Xs}{ops:Array Oper}{i:Nat}{q:Bool}{ms:List (Nat×Nat×Nat)}{s:St}{o:Oper}{r:Value×AH×Bool}(he:Qp X P C (F) ops i q ms s o=some r): ∃n,Qp X P C (G n) ops i q ms s o=some r:=by unfold Qp at he⊢;cases hh:Zv o.op with
 |false=>
  rw[hh,cond_false]at he;simp only[cond_false];split at he<;>first|(cases he;done)|skip
  rename_i v H2 hop;obtain⟨n,hn⟩:=Dv hfin hmono hop;exact⟨n,by simp only[hn];exact he⟩
 |true=>rw[hh,cond_true]at he;simp only[cond_true];cases hf:X.fv i with
  |some vf=>rw[hf]at he;exact⟨0,he⟩
  |none=>
   rw[hf]at he;simp only at he;split at he<;>first|(cases he;done)|skip
   rename_i v H2 hop;obtain⟨n,hn⟩:=Dv hfin hmono hop;exact⟨n,by simp only[hn];exact he⟩
theorem Ad(hfin: ∀x a H r,F x a H=some r→ ∃n,G n x a H=some r)(hmono: ∀{n m:Nat},n≤m→CLe (G n) (G m)){X:Xs}{ops:Array Oper} : ∀(l:List Oper)(i:Nat)(q:Bool)(ms:List (Nat×Nat×Nat))(s s':St),Ja X P C (F) ops i q ms l s=some s'→ ∃n,Ja X P C (G n) ops i q ms l s=some s'
 |[],i,q,ms,s,s',he=>⟨0,by simp only[Ja]at he⊢;exact he⟩
 |o::rest,i,q,ms,s,s',he=>by
  simp only[Ja]at he⊢;split at he<;>first|(cases he;done)|skip
  ·rename_i hw;split at he<;>first|(cases he;done)|skip
   rename_i v H q' hop;split at he<;>first|(cases he;done)|skip
   rename_i s1 hput;obtain⟨n1,h1⟩:=evDrawOp_fin hfin hmono hop;obtain⟨n2,h2⟩:=Ad hfin hmono rest _ _ _ s1 s' he;refine⟨max n1 n2,?_⟩;simp only[Zn8 (hmono (Nat.le_max_left n1 n2)) h1,hput];exact Dk (hmono (Nat.le_max_right n1 n2)) _ _ _ _ _ _ h2
  ·rename_i hw;split at he<;>first|(cases he;done)|skip
   rename_i s1 hput;obtain⟨n2,h2⟩:=Ad hfin hmono rest _ _ _ s1 s' he;refine⟨n2,?_⟩;try simp only[hput]
   exact h2
theorem Ag{f g:FuncId→List Value→AH→Option (Value×AH)}{ops:Array Oper} : ∀(l:List Oper)(i:Nat)(fs:List (Nat×Nat×Bool))(s s':St),Kt P C f ops i fs l s=some s'→Kt P C g ops i fs l s=some s'
 |[],i,fs,s,s',he=>by simp only[Kt]at he⊢;exact he
 |o::rest,i,fs,s,s',he=>by
  have hop': ∀tm H r x,Ve C tm o.op=some x→Yf P C f tm H o.op=some r→Yf P C g tm H o.op=some r:=fun tm H r x hm hop=>by
   cases e:o.op;case call c=>rw[e]at hm hop;obtain⟨callee,cargs,cts⟩:=c;cases callee with|value x=>simp[Ve,Zv]at hm|builtin b=>exact hop|invoke x m=>simp[Ve,Zv]at hm
   all_goals(rw[e]at hop;exact hop)
  simp only[Kt]at he⊢;split at he<;>first|(cases he;done)|skip
  ·rename_i hw;split at he<;>first|(cases he;done)|skip
   ·rename_i hf;split at he<;>first|(cases he;done)|skip
    rename_i v H hop;split at he<;>first|(cases he;done)|skip
    rename_i s1 hput;simp only[hop' _ _ _ _ hf hop,hput];exact Ag rest _ _ s1 s' he
   ·rename_i b w hf;cases hc:Kr ((before ops).getD i 0) b w fs with
    |false=>rw[hc]at he;cases he
    |true=>
     rw[hc,cond_true]at he;rw[cond_true];split at he<;>first|(cases he;done)|skip
     rename_i v H hop;split at he<;>first|(cases he;done)|skip
     rename_i s1 hput;simp only[hop' _ _ _ _ hf hop,hput];exact Ag rest _ _ s1 s' he
  ·rename_i hw;split at he<;>first|(cases he;done)|skip
   rename_i s1 hput;try simp only[hput]
   exact Ag rest _ _ s1 s' he
theorem Zg8(hfin: ∀x a H r,F x a H=some r→ ∃n,G n x a H=some r)(hmono: ∀{n m:Nat},n≤m→CLe (G n) (G m)){ops:Array Oper} : ∀(l:List Oper)(s s':St),Fo P C (F) ops l s=some s'→ ∃n,Fo P C (G n) ops l s=some s'
 |[],s,s',he=>⟨0,he⟩
 |o::rest,s,s',he=>by
  simp only[Fo]at he⊢;split at he<;>first|(cases he;done)|skip
  ·rename_i hw;cases hh:Zv o.op with
   |true=>rw[hh]at he;cases he
   |false=>
    rw[hh,cond_false]at he;split at he<;>first|(cases he;done)|skip
    rename_i v H hop;split at he<;>first|(cases he;done)|skip
    rename_i s1 hput;obtain⟨n1,h1⟩:=Dv hfin hmono hop;obtain⟨n2,h2⟩:=Zg8 hfin hmono rest s1 s' he;refine⟨max n1 n2,?_⟩;simp only[cond_false,Kb (hmono (Nat.le_max_left n1 n2)) h1,hput];exact Bg (hmono (Nat.le_max_right n1 n2)) _ _ _ h2
  ·rename_i hw;split at he<;>first|(cases he;done)|skip
   rename_i s1 hput;obtain⟨n2,h2⟩:=Zg8 hfin hmono rest s1 s' he;refine⟨n2,?_⟩;try simp only[hput]
   exact h2
theorem evSplit_fin(hfin: ∀x a H r,F x a H=some r→ ∃n,G n x a H=some r)(hmono: ∀{n m:Nat},n≤m→CLe (G n) (G m)){ops:Array Oper}{s s':St}(he:Ga P C (F) ops s=some s'): ∃n,Ga P C (G n) ops s=some s':=by unfold Ga at he⊢;cases hc:Dd ops with
 |false=>rw[hc]at he;cases he
 |true=>
  rw[hc,cond_true]at he;simp only[cond_true];split at he<;>first|(cases he;done)|skip
  rename_i s1 o1 oz hs1 ho1 hoz;split at he<;>first|(cases he;done)|skip
  rename_i b _ hfoot;split at he<;>first|(cases he;done)|skip
  rename_i sz cs hblk;split at he<;>first|(cases he;done)|skip
  rename_i v Hx hload;split at he<;>first|(cases he;done)|skip
  rename_i s3 hs3;split at he<;>first|(cases he;done)|skip
  rename_i vz H4 hst;obtain⟨n1,h1⟩:=Zg8 hfin hmono _ _ _ hs1;obtain⟨n2,h2⟩:=Dv hfin hmono hload;obtain⟨n3,h3⟩:=Ad hfin hmono _ _ _ _ _ _ hs3;obtain⟨n4,h4⟩:=Dv hfin hmono hst;have m1:n1≤n1+n2+n3+n4:=by omega
  have m2:n2≤n1+n2+n3+n4:=by omega
  have m3:n3≤n1+n2+n3+n4:=by omega
  have m4:n4≤n1+n2+n3+n4:=by omega
  refine⟨n1+n2+n3+n4,?_⟩;simp only[Bg (hmono m1) _ _ _ h1,ho1,hoz,hfoot,hblk,Kb (hmono m2) h2,Dk (hmono m3) _ _ _ _ _ _ h3,Kb (hmono m4) h4];exact he
theorem Zj7(hfin: ∀x a H r,F x a H=some r→ ∃n,G n x a H=some r)(hmono: ∀{n m:Nat},n≤m→CLe (G n) (G m)){ops:Array Oper}{draw:Bool}{s s':St}(he:Xz P C (F) ops draw s=some s'): ∃n,Xz P C (G n) ops draw s=some s':=by unfold Xz at he⊢;cases hb:(draw&&Vw ops)with
 |true=>rw[hb,cond_true]at he;simp only[cond_true];cases hr:Gm ops with|false=>rw[hr]at he;cases he|true=>rw[hr,cond_true]at he;exact⟨0,by rw[cond_true];exact Ag _ _ _ _ _ he⟩
 |false=>rw[hb,cond_false]at he;simp only[cond_false];cases hs:(draw&&isSplit C ops)with
  |true=>rw[hs,cond_true]at he;simp only[cond_true];exact evSplit_fin hfin hmono he
  |false=>rw[hs,cond_false]at he;simp only[cond_false];unfold Ud at he⊢;cases draw with
   |false=>rw[cond_false]at he;simp only[cond_false];exact Af hfin hmono _ _ _ he
   |true=>rw[cond_true]at he;simp only[cond_true];cases hr:Gm ops with|false=>rw[hr]at he;cases he|true=>rw[hr,cond_true]at he;simp only[cond_true];exact Ad hfin hmono _ _ _ _ _ _ he
end
section
variable {P : Program} {C : Cfg}
theorem Vj{c:Code}{s:St}{r:Ex×St}(h:evI P C c s=some r): ∃n,∀m,n≤m→(lv P C m).code c s=some r:=by obtain⟨n,hn⟩:=evI_some h;exact⟨n,fun m hm=>(Za6 hm).code _ _ _ hn⟩
theorem Am{n m:Nat}(h:n≤m):CLe (lv P C n).call (lv P C m).call:=(Za6 h).call
theorem reg_fin{ops:Array Oper}{draw:Bool}{s s':St}(h:Xz P C (Zq P C) ops draw s=some s'): ∃n,∀m,n≤m→Xz P C (lv P C m).call ops draw s=some s':=by obtain⟨n,hn⟩:=Zj7 (F:=Zq P C) (G:=fun n=>(lv P C n).call) (fun x a H r h=>Zj3 h) (fun h=>Am h) h;exact⟨n,fun m hm=>Ch (Am hm) hn⟩
theorem list_fin{ops:Array Oper}{l:List Oper}{s s':St}(h:Uc P C (Zq P C) ops l s=some s'): ∃n,∀m,n≤m→Uc P C (lv P C m).call ops l s=some s':=by obtain⟨n,hn⟩:=Af (F:=Zq P C) (G:=fun n=>(lv P C n).call) (fun x a H r h=>Zj3 h) (fun h=>Am h) _ _ _ h;exact⟨n,fun m hm=>Dl (Am hm) _ _ _ hn⟩
theorem evS_fin{rv:Value} : ∀(c:Code)(s:St)(r:Ex×St),evS P C (lvI P C) rv c s=some r→ ∃n,∀m,n≤m→evS P C (lv P C m) rv c s=some r:=by intro c;induction c with
 |seq x y ihx ihy=>intro s r he;simp only[evS]at he⊢;cases hf:Bi x with
  |true=>
   rw[hf,cond_true]at he;simp only[cond_true];split at he<;>first|(cases he;done)|skip
   rename_i s1 h1;obtain⟨n1,e1⟩:=ihx _ _ h1;unfold Zl0 at he⊢;split at he<;>first|(cases he;done)|skip
   ·rename_i s2 e;obtain⟨n2,e2⟩:=Vj e;refine⟨max n1 n2,fun m hm=>?_⟩;rw[e1 m (by omega)];simp only[e2 m (by omega)];exact he
   ·rename_i s2 e;obtain⟨n2,e2⟩:=Vj e;refine⟨max n1 n2,fun m hm=>?_⟩;rw[e1 m (by omega)];simp only[e2 m (by omega)];exact he
  |false=>
   rw[hf,cond_false]at he;simp only[cond_false];split at he<;>first|(cases he;done)|skip
   rename_i s1 h1;obtain⟨n1,e1⟩:=Vj h1;obtain⟨n2,e2⟩:=ihy _ _ he;refine⟨max n1 n2,fun m hm=>?_⟩;rw[e1 m (by omega)];exact e2 m (by omega)
 |region id ops draw=>intro s r he;simp only[evS]at he⊢;cases ho:Co ops with
  |false=>rw[ho]at he;cases he
  |true=>
   rw[ho,cond_true]at he;simp only[cond_true];split at he<;>first|(cases he;done)|skip
   rename_i s1 h1;obtain⟨n,hn⟩:=reg_fin h1;exact⟨n,fun m hm=>by rw[hn m hm];exact he⟩
 |_=>intro s r he;cases he
theorem evDef_fin{g:FuncId}{args:List Value}{rv:Value}{H H':AH}(he:Zb9 P C (lvI P C) g args rv H=some H'): ∃n,∀m,n≤m→Zb9 P C (lv P C m) g args rv H=some H':=by
 unfold Zb9 at he⊢;split at he<;>first|(cases he;done)|skip
 rename_i hf;split at he<;>first|(cases he;done)|skip
 rename_i hb;split at he<;>first|(cases he;done)|skip
 ·rename_i hc;obtain⟨n,hn⟩:=evS_fin _ _ _ hc;exact⟨n,fun m hm=>by simp only[hf,hb,hn m hm];exact he⟩
 ·rename_i hc;obtain⟨n,hn⟩:=evS_fin _ _ _ hc;exact⟨n,fun m hm=>by simp only[hf,hb,hn m hm];exact he⟩
theorem evDeferred_fin{fn:Func}{a:Code}{ops:Array Oper}{o1:Oper}{c:Call}{rest:Code}{s0:St}{r:Out×AH}(he:Uo P C (lvI P C) fn a ops o1 c rest s0=some r): ∃n,∀m,n≤m→Uo P C (lv P C m) fn a ops o1 c rest s0=some r:=by
 unfold Uo at he⊢;split at he<;>first|(cases he;done)|skip
 rename_i h1;split at he<;>first|(cases he;done)|skip
 rename_i h2;split at he<;>first|(cases he;done)|skip
 rename_i h3;split at he<;>first|(cases he;done)|skip
 rename_i h4;split at he<;>first|(cases he;done)|skip
 rename_i h5;split at he<;>first|(cases he;done)|skip
 rename_i h6;obtain⟨n1,e1⟩:=Vj h1;obtain⟨n2,e2⟩:=list_fin h2;obtain⟨n3,e3⟩:=Vj h4;obtain⟨n4,e4⟩:=evDef_fin h6;refine⟨max (max n1 n2) (max n3 n4),fun m hm=>?_⟩;simp only[e1 m (by omega),e2 m (by omega),h3,e3 m (by omega),h5,e4 m (by omega)];exact he
theorem evBody_fin{fn:Func}{c:Code}{s0:St}{r:Out×AH}(he:Ds P C (lvI P C) fn c s0=some r): ∃n,∀m,n≤m→Ds P C (lv P C m) fn c s0=some r:=by
 unfold Ds at he⊢;split at he;·rename_i hd;obtain⟨n,hn⟩:=evDeferred_fin he;exact⟨n,fun m hm=>by simp only[hn m hm]⟩
 ·rename_i hd;cases hc:(lvI P C).code c s0 with|none=>rw[hc]at he;cases he|some x=>obtain⟨n,hn⟩:=Vj hc;rw[hc]at he;exact⟨n,fun m hm=>by simp only[hn m hm];exact he⟩
theorem callO_fin{x:FuncId}{a:List Value}{H:AH}{r:Out×AH}(he:Js P C (lvI P C) x a H=some r): ∃n,∀m,n≤m→Js P C (lv P C m) x a H=some r:=by unfold Js at he⊢;cases h1:Nat.beq x C.add with
 |true=>rw[h1,cond_true]at he;exact⟨0,fun m _=>by rw[cond_true];exact he⟩
 |false=>rw[h1,cond_false]at he;simp only[cond_false];cases h2:Nat.beq x C.sub with
  |true=>rw[h2,cond_true]at he;exact⟨0,fun m _=>by rw[cond_true];exact he⟩
  |false=>
   rw[h2,cond_false]at he;simp only[cond_false];split at he<;>first|(cases he;done)|skip
   rename_i hf;split at he<;>first|(cases he;done)|skip
   rename_i hb;obtain⟨n,hn⟩:=evBody_fin he;exact⟨n,fun m hm=>hn m hm⟩
theorem Va:Zq P C=Qa P C (lvI P C):=by funext x a H;cases h:Zq P C x a H with
 |some r=>obtain⟨n,hn⟩:=Zj3 h;cases n with|zero=>rw[Ze6]at hn;cases hn|succ n=>rw[Ze5]at hn;exact(Gj (lv_lvI n) _ _ _ _ hn).symm
 |none=>cases h2:Qa P C (lvI P C) x a H with
  |none=>rfl
  |some r=>
   obtain⟨v,H'⟩:=r;obtain⟨n,hn⟩:=callO_fin (As h2);have:(lv P C (n+1)).call x a H=some (v,H'):=by rw[Ze5];show Qa P C (lv P C n) x a H=_;unfold Qa;rw[hn n (Nat.le_refl _)];rfl
   rw[callI_of this]at h;cases h
def callPI(P:Program)(C:Cfg):FuncId→List Value→AH→Option (Value×AH):=Jb P C (lvI P C)
theorem callI_some{f:FuncId}{args:List Value}{H:AH}{r:Value×AH}(he:Zq P C f args H=some r): ∃n,Qa P C (lv P C n) f args H=some r:=by obtain⟨n,hn⟩:=Zj3 he;cases n with|zero=>rw[Ze6]at hn;cases hn|succ n=>rw[Ze5]at hn;exact⟨n,hn⟩
theorem callI_run{f:FuncId}{args:List Value}{H:AH}{r:Value×AH}(h:Zq P C f args H=some r): ∃n,run P C n f args H=some r:=callI_some h
theorem ret_fin{x:FuncId}{a:List Value}{H:AH}{r:Value×AH}(h:Qa P C (lvI P C) x a H=some r): ∃n,Qa P C (lv P C n) x a H=some r:=by rw[←Va]at h;exact callI_some h
theorem pan_fin{x:FuncId}{a:List Value}{H:AH}{r:Value×AH}(h:callPI P C x a H=some r): ∃n,∀m,n≤m→Jb P C (lv P C m) x a H=some r:=by obtain⟨v,H'⟩:=r;obtain⟨n,hn⟩:=callO_fin (Aq h);exact⟨n,fun m hm=>by unfold Jb;rw[hn m hm];rfl⟩
theorem panOp_fin{tm:Tr Value}{H:AH}{op:Op}{r:Value×AH}(he:Et C (callPI P C) tm H op=some r): ∃n,∀m,n≤m→Et C (Jb P C (lv P C m)) tm H op=some r:=by
 cases op;case call c=>simp only[Et]at he⊢;cases hd:Qt C tm c with|none=>rw[hd]at he;cases he|some x=>rw[hd]at he;exact pan_fin he
 case panic x=>exact⟨0,fun m _=>he⟩
 all_goals cases he
theorem op_fin{tm:Tr Value}{H:AH}{op:Op}{r:Value×AH}(he:Yf P C (Qa P C (lvI P C)) tm H op=some r): ∃n,∀m,n≤m→Yf P C (Qa P C (lv P C m)) tm H op=some r:=by obtain⟨n,hn⟩:=Dv (F:=Qa P C (lvI P C)) (G:=fun n=>Qa P C (lv P C n)) (fun x a H r h=>ret_fin h) (fun h=>Gj (Za6 h)) he;exact⟨n,fun m hm=>Kb (Gj (Za6 hm)) hn⟩
theorem Zm6{ops:Array Oper} : ∀(l:List Oper)(s:St)(r:Ex×St),Dw P C (Qa P C (lvI P C)) (callPI P C) ops l s=some r→ ∃n,∀m,n≤m→Dw P C (Qa P C (lv P C m)) (Jb P C (lv P C m)) ops l s=some r
 |[],s,r,he=>by cases he
 |o::rest,s,r,he=>by
  simp only[Dw]at he⊢;split at he<;>first|(cases he;done)|skip
  ·rename_i hw;split at he;·rename_i v1 H1 hp;obtain⟨n,hn⟩:=panOp_fin hp;exact⟨n,fun m hm=>by simp only[hn m hm];exact he⟩
   ·rename_i hp;split at he<;>first|(cases he;done)|skip
    rename_i v1 H1 hop;split at he<;>first|(cases he;done)|skip
    rename_i s1 hput;obtain⟨n1,h1⟩:=op_fin hop;obtain⟨n2,h2⟩:=Zm6 rest s1 r he;refine⟨max n1 n2,fun m hm=>?_⟩;have hpn:=Zh4 (u:=lv P C m) (v:=lv P C m) (Za6 (Nat.le_refl m)) (h1 m (by omega));simp only[hpn,h1 m (by omega),hput];exact h2 m (by omega)
  ·rename_i hw;split at he<;>first|(cases he;done)|skip
   rename_i s1 hput;obtain⟨n2,h2⟩:=Zm6 rest s1 r he;exact⟨n2,fun m hm=>h2 m hm⟩
theorem Kv(c:Code)(s:St):evI P C c s=Jl P C (lvI P C) c s:=by
 have up: ∀r,evI P C c s=some r→Jl P C (lvI P C) c s=some r:=fun r h=>by obtain⟨n,hn⟩:=evI_some h;cases n with|zero=>rw[ev_zero]at hn;cases hn|succ n=>rw[ev_succ]at hn;exact evStep_le (lv_lvI n) c s r hn
 have down: ∀r,Jl P C (lvI P C) c s=some r→evI P C c s=some r:=fun r he=>by
  have fin1:(∃n,∀m,n≤m→Jl P C (lv P C m) c s=some r)→evI P C c s=some r:=fun⟨n,h⟩=>evI_of (n:=n+1) (by rw[ev_succ];exact h n (Nat.le_refl _));apply fin1;cases c<;>simp only[Jl]at he⊢ <;>first|(cases he;done)|skip
  ·exact⟨0,fun m _=>he⟩
  ·rename_i id ops draw;split at he;·rename_i s1 hr;obtain⟨n,hn⟩:=Zj7 (F:=Qa P C (lvI P C)) (G:=fun n=>Qa P C (lv P C n)) (fun x a H r h=>ret_fin h) (fun h=>Gj (Za6 h)) hr;exact⟨n,fun m hm=>by rw[Ch (Gj (Za6 hm)) hn];exact he⟩
   ·cases draw with|true=>cases he|false=>rw[cond_false]at he;obtain⟨n,hn⟩:=Zm6 _ _ _ he;refine⟨n,fun m hm=>?_⟩;have h2:=(Zc0 (Za6 (Nat.le_refl m)) _ _ _ (hn m hm)).2;rw[Zg7,h2];exact hn m hm
  ·split at he;·rename_i s1 hr;obtain⟨n1,h1⟩:=Vj hr;obtain⟨n2,h2⟩:=Vj he;exact⟨max n1 n2,fun m hm=>by rw[h1 m (by omega)];exact h2 m (by omega)⟩
   ·rename_i hn;obtain⟨n1,h1⟩:=Vj he;refine⟨n1,fun m hm=>?_⟩;rw[h1 m hm];split;·rename_i s1 e;exact absurd (he.trans e) (by intro e';exact hn s1 e')
    ·rfl
  ·split at he<;>first|(cases he;done)|skip
   obtain⟨n1,h1⟩:=Vj he;exact⟨n1,fun m hm=>h1 m hm⟩
  ·split at he;·rename_i j s1 hr;obtain⟨n1,h1⟩:=Vj hr;exact⟨n1,fun m hm=>by rw[h1 m hm];exact he⟩
   ·rename_i hn;obtain⟨n1,h1⟩:=Vj he;refine⟨n1,fun m hm=>?_⟩;rw[h1 m hm];split;·rename_i j s1 e;exact absurd (he.trans e) (by intro e';exact hn j s1 e')
    ·rfl
  ·split at he;·rename_i s1 hr;obtain⟨n1,h1⟩:=Vj hr;obtain⟨n2,h2⟩:=Vj he;exact⟨max n1 n2,fun m hm=>by rw[h1 m (by omega)];exact h2 m (by omega)⟩
   ·rename_i hn;obtain⟨n1,h1⟩:=Vj he;refine⟨n1,fun m hm=>?_⟩;rw[h1 m hm];split;·rename_i s1 e;exact absurd (he.trans e) (by intro e';exact hn s1 e')
    ·rfl
  ·exact⟨0,fun m _=>he⟩
  ·exact⟨0,fun m _=>he⟩
 cases h:evI P C c s with
  |some r=>exact(up r h).symm
  |none=>cases h2:Jl P C (lvI P C) c s with|none=>rfl|some r=>rw[down r h2]at h;cases h
end
end
structure SOp where
  dst : Option Tmp
  op : Op
  grd : Option (Option Tmp × Bool)
def Yd(ops:Array Oper):List Oper→List SOp
 |[]=>[]
 |o::r=>⟨o.dst,o.op,match o.guard with|none=>none|some (j,b)=>some ((ops[j]?).bind (·.dst),b)⟩::Yd ops r
def strip(ops:Array Oper):List SOp:=Yd ops ops.toList
section
variable (P : Program) (C : Cfg)
def CW(f:FuncId)(args:List Value)(H:AH)(Q:Value→AH→Prop):Prop:= ∃v H',Zq P C f args H=some (v,H')∧Q v H'
def gW(tm:Tr Value)(g:Option (Option Tmp×Bool)):Option Bool:=match g with
 |none=>some true
 |some (some d,want)=>match tm.get d with|some (.bool b)=>some (b==want)|some (.tuple _)=>some false|_=>none
 |some (none,_)=>none
def LW'(k:Nat):List SOp→Tr Value→AH→(Tr Value→AH→Prop)→Prop
 |[],tm,H,K=>K tm H
 |o::r,tm,H,K=>match gW tm o.grd with
  |some true=>match Yf P C (Zq P C) tm H o.op with
   |some (v,H')=>match o.dst with|none=>LW' k r tm H' K|some d=>d<k∧LW' k r (tm.set d v) H' K
   |none=>False
  |some false=>match o.dst with|none=>LW' k r tm H K|some d=>d<k∧LW' k r (tm.set d undef) H K
  |none=>False
def W(c:Code)(s:St)(Q:Ex→St→Prop):Prop:= ∃ex s',evI P C c s=some (ex,s')∧Q ex s'
end
section
variable {P : Program} {C : Cfg} {Q : Ex → St → Prop}
theorem gW_eq{ops:Array Oper}{tm:Tr Value}{o:Oper} :Qo ops tm o=gW tm (match o.guard with|none=>none|some (j,b)=>some ((ops[j]?).bind (·.dst),b)):=by unfold Qo gW;cases o.guard with|none=>rfl|some x=>obtain⟨j,b⟩:=x;simp only;cases(ops[j]?).bind (·.dst)<;>rfl
theorem Zd7{ops:Array Oper}{k:Nat} : ∀(l:List Oper)(tm:Tr Value)(H:AH)(K:Tr Value→AH→Prop),LW' P C k (Yd ops l) tm H K→ ∃tm' H',Uc P C (Zq P C) ops l ⟨k,tm,H⟩=some ⟨k,tm',H'⟩∧K tm' H'
 |[],tm,H,K,h=>⟨tm,H,rfl,h⟩
 |o::r,tm,H,K,h=>by
  have put: ∀(v:Value)(H1:AH),(match o.dst with|none=>LW' P C k (Yd ops r) tm H1 K|some d=>d<k∧LW' P C k (Yd ops r) (tm.set d v) H1 K)→ ∃tm1,(St.put ⟨k,tm,H⟩ o.dst v H1)=some ⟨k,tm1,H1⟩∧LW' P C k (Yd ops r) tm1 H1 K:=fun v H1 h=>by cases hd:o.dst with
   |none=>rw[hd]at h;exact⟨tm,rfl,h⟩
   |some d=>
    rw[hd]at h;have:Nat.blt d k=true:=by rw[Nat.blt_eq];exact h.1
    exact⟨tm.set d v,by simp only[St.put,putSt,this,cond_true],h.2⟩
  rw[Vh];simp only;rw[gW_eq];simp only[Yd,LW']at h;split at h
  ·rename_i hg;rw[hg];split at h;·rename_i v H1 hop;obtain⟨tm1,hput,hl⟩:=put v H1 h;obtain⟨tm',H',h1,h2⟩:=Zd7 r tm1 H1 K hl;refine⟨tm',H',?_,h2⟩;simp only[hop,hput];exact h1
   ·exact h.elim
  ·rename_i hg;rw[hg];obtain⟨tm1,hput,hl⟩:=put undef H h;obtain⟨tm',H',h1,h2⟩:=Zd7 r tm1 H K hl;refine⟨tm',H',?_,h2⟩;simp only[hput];exact h1
  ·exact h.elim
theorem Za{i:Nat}{ops:Array Oper}{s:St}(h:LW' P C s.k (strip ops) s.tm s.H fun tm' H'=>Q .norm ⟨s.k,tm',H'⟩):W P C (.region i ops false) s Q:=by
 obtain⟨k,tm,H⟩:=s;obtain⟨tm',H',h1,h2⟩:=Zd7 (ops:=ops) ops.toList tm H _ h;refine⟨.norm,⟨k,tm',H'⟩,?_,h2⟩;rw[Kv];simp only[Jl];rw[Va]at h1;have:Xz P C (Qa P C (lvI P C)) ops false ⟨k,tm,H⟩=some ⟨k,tm',H'⟩:=by unfold Xz Ud;simp only[Bool.false_and,cond_false];exact h1
 rw[this]
theorem Zk5:(lvI P C).code=evI P C:=rfl
def Xw(P:Program)(C:Cfg)(b:Code)(Q:Ex→St→Prop):Ex→St→Prop| .norm,s=>W P C b s Q|e,s=>Q e s
theorem Zb{a b:Code}{s:St}(h: ∀b',b'=b→W P C a s (Xw P C b' Q)):W P C (.seq a b) s Q:=by obtain⟨ex,s1,h1,h2⟩:=h b rfl;unfold W;rw[Kv];simp only[Jl,Zk5,h1];cases ex with|norm=>exact h2|exit j=>exact⟨_,_,rfl,h2⟩|ret=>exact⟨_,_,rfl,h2⟩|pan v=>exact⟨_,_,rfl,h2⟩
theorem Zj{s:St}(h:Q .norm s):W P C .skip s Q:=⟨.norm,s,by rw[Kv];rfl,h⟩
theorem Qf{i:Nat}{s:St}(h:Q (.exit i) s):W P C (.exit i) s Q:=⟨.exit i,s,by rw[Kv];rfl,h⟩
theorem Zn{s:St}(h:Q .ret s):W P C .ret s Q:=⟨.ret,s,by rw[Kv];rfl,h⟩
theorem Zc{x:Operand}{a b:Code}{s:St}{t:Bool}(hx:opd C s.tm x=some (.bool t))(h:W P C (cond t a b) s Q):W P C (.cond x a b) s Q:=by unfold W;rw[Kv];simp only[Jl,Zk5,hx];exact h
def Xk(id:Nat)(Q:Ex→St→Prop):Ex→St→Prop| .exit j,s=>(j=id∧Q .norm s)∨(j≠id∧Q (.exit j) s)|e,s=>Q e s
theorem Zx{id:Nat}{b:Code}{s:St}(h:W P C b s (Xk id Q)):W P C (.block id b) s Q:=by obtain⟨ex,s1,h1,h2⟩:=h;unfold W;rw[Kv];simp only[Jl,Zk5,h1];cases ex with
 |norm=>exact⟨_,_,rfl,h2⟩
 |exit j=>
  rcases h2 with⟨e,h2⟩|⟨e,h2⟩;·exact⟨.norm,s1,by simp only[Jj e,cond_true],h2⟩
  ·exact⟨.exit j,s1,by simp only[Qn e,cond_false],h2⟩
 |ret=>exact⟨_,_,rfl,h2⟩
 |pan v=>exact⟨_,_,rfl,h2⟩
theorem W_loop1{b:Code}{s:St}(h:W P C b s (Xw P C (.loop b) Q)):W P C (.loop b) s Q:=by obtain⟨ex,s1,h1,h2⟩:=h;unfold W;rw[Kv];simp only[Jl,Zk5,h1];cases ex with|norm=>exact h2|exit j=>exact⟨_,_,rfl,h2⟩|ret=>exact⟨_,_,rfl,h2⟩|pan v=>exact⟨_,_,rfl,h2⟩
def Dz(I:Nat→St→Prop)(n:Nat)(Q:Ex→St→Prop):Ex→St→Prop| .norm,s=> ∃m,m<n∧I m s|e,s=>Q e s
theorem W_loop{b:Code}(I:Nat→St→Prop)(h: ∀n s,I n s→W P C b s (Dz I n Q)): ∀(n:Nat)(s:St),I n s→W P C (.loop b) s Q:=by intro n;induction n using Nat.strongRecOn with
 |_ n ih=>intro s hI;apply W_loop1;obtain⟨ex,s1,h1,h2⟩:=h n s hI;refine⟨ex,s1,h1,?_⟩;cases ex with|norm=>obtain⟨m,hm,hI'⟩:=h2;exact ih m hm s1 hI'|exit j=>exact h2|ret=>exact h2|pan v=>exact h2
theorem W.mono{c:Code}{s:St}{Q':Ex→St→Prop}(h:W P C c s Q)(hQ: ∀e s,Q e s→Q' e s):W P C c s Q':=by obtain⟨e,s1,h1,h2⟩:=h;exact⟨e,s1,h1,hQ _ _ h2⟩
theorem CW.mono{f:FuncId}{args:List Value}{H:AH}{Q Q':Value→AH→Prop}(h:CW P C f args H Q)(hQ: ∀v H',Q v H'→Q' v H'):CW P C f args H Q':=by obtain⟨v,H',h1,h2⟩:=h;exact⟨v,H',h1,hQ _ _ h2⟩
theorem Zl(k:Nat){f:FuncId}{fn:Func}{c:Code}{args:List Value}{H:AH}{R:Value→AH→Prop}(ha:Nat.beq f C.add=false)(hs:Nat.beq f C.sub=false)(hf:P.funcs[f]?=some fn)(hb:fn.body=some c)(hk:args.length+(fn.ntmps-args.length)=k)(h:W P C c { k:=k,tm:=Qc 0 args .nil,H:=H } fun ex s=>(ex= .norm∨ex= .ret)∧ ∃vs,Zt P s fn.results.toList=some vs∧R (Yv vs) s.H)(hd:Ab c=none:=by rfl):CW P C f args H R:=by
 subst hk;obtain⟨ex,s,h1,h2,vs,h3,h4⟩:=h;refine⟨Yv vs,s.H,?_,h4⟩;rw[Va];unfold Qa Js;rw[ha,cond_false,hs,cond_false,hf];simp only[hb,Ds,hd];show retOf (finO P fn (evI P C c _))=_;rw[h1];rcases h2 with rfl|rfl;·simp only[finO,h3,retOf]
 ·simp only[finO,h3,retOf]
def callOI(P:Program)(C:Cfg):FuncId→List Value→AH→Option (Out×AH):=Js P C (lvI P C)
def CWO(P:Program)(C:Cfg)(f:FuncId)(args:List Value)(H:AH)(R:Out→AH→Prop):Prop:= ∃o H',callOI P C f args H=some (o,H')∧R o H'
theorem callOI_ret{f:FuncId}{args:List Value}{H:AH}{v:Value}{H':AH}(h:callOI P C f args H=some (.ret v,H')):Zq P C f args H=some (v,H'):=by rw[Va];unfold Qa;have:Js P C (lvI P C) f args H=_:=h;rw[this];rfl
theorem callOI_pan{f:FuncId}{args:List Value}{H:AH}{v:Value}{H':AH}(h:callOI P C f args H=some (.pan v,H')):callPI P C f args H=some (v,H'):=by unfold callPI Jb;have:Js P C (lvI P C) f args H=_:=h;rw[this];rfl
theorem CWO_intro(k:Nat){f:FuncId}{fn:Func}{c:Code}{args:List Value}{H:AH}{R:Out→AH→Prop}(ha:Nat.beq f C.add=false)(hs:Nat.beq f C.sub=false)(hf:P.funcs[f]?=some fn)(hb:fn.body=some c)(hk:args.length+(fn.ntmps-args.length)=k)(h:W P C c { k:=k,tm:=Qc 0 args .nil,H:=H } fun ex s=>((ex= .norm∨ex= .ret)∧ ∃vs,Zt P s fn.results.toList=some vs∧R (.ret (Yv vs)) s.H)∨ ∃v,ex= .pan v∧R (.pan v) s.H)(hd:Ab c=none:=by rfl):CWO P C f args H R:=by
 subst hk;obtain⟨ex,s,h1,h2⟩:=h;unfold CWO callOI Js;rw[ha,cond_false,hs,cond_false,hf];simp only[hb,Ds,hd];show∃o H',finO P fn (evI P C c _)=some (o,H')∧R o H';rw[h1];rcases h2 with⟨h2,vs,h3,h4⟩|⟨v,rfl,h4⟩
 ·refine⟨.ret (Yv vs),s.H,?_,h4⟩;rcases h2 with rfl|rfl;·simp only[finO,h3]
  ·simp only[finO,h3]
 ·exact⟨.pan v,s.H,rfl,h4⟩
def LP'(P:Program)(C:Cfg)(k:Nat):List SOp→Tr Value→AH→(Value→Tr Value→AH→Prop)→Prop
 |[],tm,H,K=>False
 |o::r,tm,H,K=>match gW tm o.grd with
  |some true=>match Yf P C (Zq P C) tm H o.op with
   |some (v,H')=>match o.dst with|none=>LP' P C k r tm H' K|some d=>d<k∧LP' P C k r (tm.set d v) H' K
   |none=>match Et C (callPI P C) tm H o.op with|some (v,H')=>K v tm H'|none=>False
  |some false=>match o.dst with|none=>LP' P C k r tm H K|some d=>d<k∧LP' P C k r (tm.set d undef) H K
  |none=>False
theorem LP_list{ops:Array Oper}{k:Nat} : ∀(l:List Oper)(tm:Tr Value)(H:AH)(K:Value→Tr Value→AH→Prop),LP' P C k (Yd ops l) tm H K→ ∃v tm' H',Dw P C (Qa P C (lvI P C)) (Jb P C (lvI P C)) ops l ⟨k,tm,H⟩=some (.pan v,⟨k,tm',H'⟩)∧K v tm' H'
 |[],tm,H,K,h=>h.elim
 |o::r,tm,H,K,h=>by
  have put: ∀(v:Value)(H1:AH),(match o.dst with|none=>LP' P C k (Yd ops r) tm H1 K|some d=>d<k∧LP' P C k (Yd ops r) (tm.set d v) H1 K)→ ∃tm1,(St.put ⟨k,tm,H⟩ o.dst v H1)=some ⟨k,tm1,H1⟩∧LP' P C k (Yd ops r) tm1 H1 K:=fun v H1 h=>by cases hd:o.dst with
   |none=>rw[hd]at h;exact⟨tm,rfl,h⟩
   |some d=>
    rw[hd]at h;have:Nat.blt d k=true:=by rw[Nat.blt_eq];exact h.1
    exact⟨tm.set d v,by simp only[St.put,putSt,this,cond_true],h.2⟩
  simp only[Dw];rw[gW_eq];simp only[Yd,LP']at h;split at h
  ·rename_i hg;rw[hg];split at h;·rename_i v H1 hop;obtain⟨tm1,hput,hl⟩:=put v H1 h;obtain⟨v2,tm',H',h1,h2⟩:=LP_list r tm1 H1 K hl;refine⟨v2,tm',H',?_,h2⟩;rw[Va]at hop;have hn:=Zh4 (u:=lvI P C) (v:=lvI P C) ⟨fun _ _ _ h=>h,fun _ _ _ _ h=>h⟩ hop;simp only[hn,hop,hput];exact h1
   ·split at h;·rename_i v H1 hp;refine⟨v,tm,H1,?_,h⟩;have hp:Et C (Jb P C (lvI P C)) tm H o.op=some (v,H1):=hp;simp only[hp]
    ·exact h.elim
  ·rename_i hg;rw[hg];obtain⟨tm1,hput,hl⟩:=put undef H h;obtain⟨v2,tm',H',h1,h2⟩:=LP_list r tm1 H K hl;refine⟨v2,tm',H',?_,h2⟩;simp only[hput];exact h1
  ·exact h.elim
theorem W_rpan{i:Nat}{ops:Array Oper}{s:St}(h:LP' P C s.k (strip ops) s.tm s.H fun v tm' H'=>Q (.pan v) ⟨s.k,tm',H'⟩):W P C (.region i ops false) s Q:=by obtain⟨k,tm,H⟩:=s;obtain⟨v,tm',H',h1,h2⟩:=LP_list (ops:=ops) ops.toList tm H _ h;refine⟨.pan v,⟨k,tm',H'⟩,?_,h2⟩;rw[Kv];simp only[Jl];have hn:=(Zc0 (u:=lvI P C) (v:=lvI P C) ⟨fun _ _ _ h=>h,fun _ _ _ _ h=>h⟩ _ _ _ h1).2;rw[Zg7,hn];exact h1
def WS(P:Program)(C:Cfg)(rv:Value)(c:Code)(s:St)(Q:Ex→St→Prop):Prop:= ∃ex s',evS P C (lvI P C) rv c s=some (ex,s')∧Q ex s'
theorem Vp{rv:Value}{id:Nat}{ops:Array Oper}{draw:Bool}{s:St}(ho:Co ops=true)(h:W P C (.region id (ops.map (Vn rv)) draw) s fun ex s'=>ex= .norm∧Q .norm s'):WS P C rv (.region id ops draw) s Q:=by
 obtain⟨ex,s',h1,rfl,h2⟩:=h;refine⟨.norm,s',?_,h2⟩;simp only[evS];rw[ho,cond_true];rw[Kv]at h1;simp only[Jl]at h1;show(match Xz P C (Zq P C) (ops.map (Vn rv)) draw s with|some s'=>some (Ex.norm,s')|none=>none)=_;rw[Va];split at h1;·rename_i s1 hr;rw[hr];exact h1
 ·exfalso;cases draw with
  |true=>cases h1
  |false=>
   rw[cond_false]at h1;have: ∀(l:List Oper)(s:St)(s':St),Dw P C (Qa P C (lvI P C)) (Jb P C (lvI P C)) (ops.map (Vn rv)) l s≠some (.norm,s'):=by intro l;induction l with
    |nil=>intro s s' e;cases e
    |cons o r ih=>
     intro s s' e;simp only[Dw]at e;split at e<;>first|(cases e;done)|skip
     ·split at e;·cases e
      ·split at e<;>first|(cases e;done)|skip
       split at e<;>first|(cases e;done)|skip
       exact ih _ _ e
     ·split at e<;>first|(cases e;done)|skip
      exact ih _ _ e
   exact this _ _ _ h1
theorem WS_seq{rv:Value}{a b:Code}{s:St}(hf:Bi a=true)(h:WS P C rv a s fun ex s'=>ex= .norm∧W P C b s' fun ex s'=>(ex= .norm∨ex= .ret)∧Q ex s'):WS P C rv (.seq a b) s Q:=by obtain⟨ex,s1,h1,rfl,ex2,s2,h2,h3,h4⟩:=h;refine⟨ex2,s2,?_,h4⟩;simp only[evS,hf,cond_true,h1];show Zl0 (evI P C b s1)=_;rw[h2];rcases h3 with rfl|rfl<;>rfl
def CWD(P:Program)(C:Cfg)(g:FuncId)(args:List Value)(rv:Value)(H:AH)(K:AH→Prop):Prop:= ∃H',Zb9 P C (lvI P C) g args rv H=some H'∧K H'
theorem Vo(k:Nat){g:FuncId}{fn:Func}{c:Code}{args:List Value}{rv:Value}{H:AH}{K:AH→Prop}(hf:P.funcs[g]?=some fn)(hb:fn.body=some c)(hk:args.length+(fn.ntmps-args.length)=k)(h:WS P C rv c { k:=k,tm:=Qc 0 args .nil,H:=H } fun ex s=>(ex= .norm∨ex= .ret)∧ ∃vs,Zt P s fn.results.toList=some vs∧K s.H):CWD P C g args rv H K:=by
 subst hk;obtain⟨ex,s,h1,h2,vs,h3,h4⟩:=h;refine⟨s.H,?_,h4⟩;unfold Zb9;simp only[hf,hb,h1];rcases h2 with rfl|rfl;·simp only[h3]
 ·simp only[h3]
theorem CW_defer(k:Nat){f:FuncId}{fn:Func}{c a:Code}{ops:Array Oper}{o1:Oper}{dc:Call}{rest:Code}{args:List Value}{H:AH}{R:Value→AH→Prop}(ha:Nat.beq f C.add=false)(hs:Nat.beq f C.sub=false)(hf:P.funcs[f]?=some fn)(hb:fn.body=some c)(hk:args.length+(fn.ntmps-args.length)=k)(hd:Ab c=some (a,ops,o1,dc,rest))(h:W P C a { k:=k,tm:=Qc 0 args .nil,H:=H } fun ex s=>ex= .norm∧LW' P C s.k (Yd ops [o1]) s.tm s.H fun tm2 H2=> ∃g dargs,Qt C tm2 dc=some (g,dargs)∧W P C rest ⟨s.k,tm2,H2⟩ fun ex3 s3=> ∃rv,Kl ex3=some rv∧CWD P C g dargs rv s3.H fun H4=> ∃vs,Zt P ⟨s3.k,s3.tm,H4⟩ fn.results.toList=some vs∧R (Yv vs) H4):CW P C f args H R:=by subst hk;obtain⟨ex,s1,h1,rfl,h2⟩:=h;obtain⟨tm2,H2,h3,g,dargs,h4,ex3,s3,h5,rv,h6,H4,h7,vs,h8,h9⟩:=Zd7 [o1] _ _ _ h2;refine⟨Yv vs,H4,?_,h9⟩;rw[Va];unfold Qa Js;rw[ha,cond_false,hs,cond_false,hf];simp only[hb,Ds,hd];unfold Uo;have h1:(lvI P C).code a { k:=args.length+(fn.ntmps-args.length),tm:=Qc 0 args .nil,H:=H } =some (.norm,s1):=h1;have h3:Uc P C (lvI P C).call ops [o1] s1=some ⟨s1.k,tm2,H2⟩:=h3;have h5:(lvI P C).code rest ⟨s1.k,tm2,H2⟩=some (ex3,s3):=h5;simp only[h1,h3,h4,h5,h6,h7,h8,retOf]
variable {tm : Tr Value} {H : AH} {K : Value → AH → Prop}
end
end
end Go.Proofs.YtmkfecoeghokfaaGreatDoor.Ev
namespace Go.Proofs.YtmkfecoeghokfaaGreatDoor
open Go.ChangeShapes Go.WideShapes Go.ChangeAt Go.RowKit Go.Proofs.YtmkfecoeghokfaaGreatDoor.Ev
set_option linter.unusedVariables false
noncomputable section
set_option maxHeartbeats 1000000
def cfg0:Cfg:= { ng:=0,add:=203,sub:=206,sp:=[(78,9),(74,9)] }
theorem names_ok:(Tryz.prog.funcs.toList.all fun fn=>fn.body.isNone||!(fn.name== "runtime.NumGoroutine"))=true:=by kernel_rfl
theorem cfg_ok (n : Nat) : CfgOk Tryz.prog { cfg0 with ng := n } where
  mixed := Tryz.checked.mixed
  names := fun f fn hf hb => by
    have h := List.all_eq_true.mp names_ok fn (by rw [Array.mem_toList_iff]; exact Array.mem_of_getElem? hf)
    cases hbody : fn.body with
    | none => rw [hbody] at hb; cases hb
    | some c =>
      rw [hbody] at h
      simpa using h
  add := ⟨Tryz.f203, Tryz.func203, by kernel_rfl, by kernel_rfl, by kernel_rfl, by kernel_rfl⟩
  sub := ⟨Tryz.f206, Tryz.func206, by kernel_rfl, by kernel_rfl, by kernel_rfl, by kernel_rfl⟩
end
end Go.Proofs.YtmkfecoeghokfaaGreatDoor
namespace Go.Proofs.YtmkfecoeghokfaaGreatDoor
open Go.ChangeShapes Go.WideShapes Go.ChangeAt Go.RowKit Go.Proofs.YtmkfecoeghokfaaGreatDoor.Ev
set_option linter.unusedVariables false
noncomputable section
set_option linter.unusedSimpArgs false
set_option maxHeartbeats 1000000
def lz(k:Int)(s:List UInt8)(a:Int):List Value:=[.int .i64 k,.string ⟨s.toArray⟩,.int .i64 a]
def rowD(k:Int)(s:List UInt8)(a:Int){H:Type} :DataW H:= .agg [.lit (.int .i64 k),.lit (.string s),.lit (.int .i64 a)]
def Zf1:List (Int×List UInt8×Int):=[(0,[],0),(1,[112,105],0),(2,[45],1),(3,[43],2),(4,[45],2),(5,[42],2),(6,[47],2),(7,[97,98,115],1),(8,[109,105,110],2),(9,[109,97,120],2),(10,[115,113,114,116],1),(11,[101,120,112],1),(12,[108,110],1),(13,[115,105,110],1),(14,[99,111,115],1),(15,[97,116,97,110],1)]
def Vr:List Value:=Zf1.flatMap fun x=>lz x.1 x.2.1 x.2.2
theorem laid_rows{H:Type} :(Rows.laid_surd_expr_rows:DataW H)= .agg (Zf1.map fun x=>rowD x.1 x.2.1 x.2.2):=rfl
theorem gRows:Tryz.prog.globalNamed "surd/expr.rows"=some 0:=by kernel_rfl
theorem tRows:(Tryz.prog.globals[0]?).map (·.type)=some 181:=by kernel_rfl
theorem uRows:Tryz.prog.underlying 181=some (.array 16 180):=by kernel_rfl
theorem uRow: ∃f0 f1 f2,Tryz.prog.underlying 180=some (.struct #[f0,f1,f2])∧f0.type=50∧f0.offset=0∧f1.type=9∧f1.offset=1∧f2.type=3∧f2.offset=2:=⟨_,_,_,Tryz.underlying180,rfl,rfl,rfl,rfl,rfl,rfl⟩
theorem uOp:Tryz.prog.underlying 50=some (.int .i64):=by kernel_rfl
theorem cOp:Tryz.prog.cellsOf 50=1:=by kernel_rfl
theorem cStr:Tryz.prog.cellsOf 9=1:=by kernel_rfl
theorem cInt:Tryz.prog.cellsOf 3=1:=by kernel_rfl
theorem cRow:Tryz.prog.cellsOf 180=3:=by kernel_rfl
theorem cRows:Tryz.prog.cellsOf 181=48:=by kernel_rfl
section
variable {H : Type} {enc : TypeId × Value → H} {w : World} {base : Nat} {sp : Nat → Bool} {held : Bool}
theorem row_of{m:Nat}{l:List Value}{k:Int}{s:List UInt8}{a:Int}{p:List MemPlace}(h:DataW.trod enc Tryz.prog w base sp held m 180 l=some (rowD k s a,p)):l=lz k s a:=by obtain⟨f0,f1,f2,hu,e1,e2,e3,e4,e5,e6⟩:=uRow;obtain⟨y0,y1,y2,n,hx,hl,h0,h1,h2⟩:=Deep.trod_struct3 hu h;rw[e1,e2,cOp]at h0;rw[e3,e4,cStr]at h1;rw[e5,e6,cInt]at h2;rw[cRow]at hl;obtain⟨n0,c0,x0,_⟩:=DataW.trod_int uOp h0;obtain⟨s1,c1,x1,_⟩:=DataW.trod_string Tryz.underlying9 h1;obtain⟨n2,c2,x2,_⟩:=DataW.trod_int Tryz.underlying3 h2;subst x0;subst x1;subst x2;simp only[rowD,Prod.mk.injEq,DataW.agg.injEq,List.cons.injEq,DataW.lit.injEq,Lit.int.injEq,Lit.string.injEq,true_and,and_true]at hx;obtain⟨⟨rfl,rfl,rfl⟩,_⟩:=hx;match l,hl with|[a0,a1,a2],_=>simp at c0 c1 c2;subst c0;subst c1;subst c2;rfl
theorem rows_of{fuel:Nat}{cs:List Value}{p:List MemPlace}(h:DataW.trod enc Tryz.prog w base sp held fuel 181 cs=some (Rows.laid_surd_expr_rows,p)):cs=Vr:=by
 obtain⟨xs,m,_,hx,hl,hn,hel⟩:=DataW.trod_array uRows h;rw[cRows]at hl;rw[laid_rows]at hx;simp only[Prod.mk.injEq,DataW.agg.injEq]at hx;have key: ∀i,i<16→(cs.drop (i*3)).take 3=(Vr.drop (i*3)).take 3:=by
  intro i hi;have h1:=hel i hi;rw[cRow]at h1;have h2:(xs.map (·.1))[i]?=some (rowD ((Zf1[i]?.getD (0,[],0))).1 (Zf1[i]?.getD (0,[],0)).2.1 (Zf1[i]?.getD (0,[],0)).2.2):=by rw[←hx.1,List.getElem?_map,List.getElem?_eq_getElem (show i<Zf1.length from hi)];rfl
  rw[List.getElem?_map]at h2;cases hxi:xs[i]? with
   |none=>rw[hxi]at h2;cases h2
   |some y=>
    rw[hxi]at h1 h2;obtain⟨y1,y2⟩:=y;simp only[Option.map_some,Option.some.injEq]at h2;subst h2;rw[row_of h1];clear h1 hx hel hn hl h hxi;have:i=0∨i=1∨i=2∨i=3∨i=4∨i=5∨i=6∨i=7∨i=8∨i=9∨i=10∨i=11∨i=12∨i=13∨i=14∨i=15:=by omega
    rcases this with rfl|rfl|rfl|rfl|rfl|rfl|rfl|rfl|rfl|rfl|rfl|rfl|rfl|rfl|rfl|rfl<;>rfl
 apply List.ext_getElem?;intro k;by_cases hk:k<48
 ·have:=key (k/3) (by omega);have h3:=congrArg (fun l=>l[k%3]?) this;simp only[List.getElem?_take,List.getElem?_drop]at h3;rw[if_pos (Nat.mod_lt _ (by decide)),if_pos (Nat.mod_lt _ (by decide))]at h3;have e:k/3*3+k%3=k:=by omega
  rw[e]at h3;exact h3
 ·rw[List.getElem?_eq_none (by omega),List.getElem?_eq_none (by show Vr.length≤k;have:Vr.length=48:=rfl;omega)]
end
theorem of_laid{W:World}(h:laidMetH Tryz.prog [("surd/expr.rows",Rows.laid_surd_expr_rows)] W): ∀k v,Vr[k]?=some v→W.cell? ⟨0,k,none⟩=some v:=by rw[MakeChecks.laidMetH_plain _ _ _ (by kernel_rfl)]at h;obtain⟨ps,⟨g0,t0,cs0,f0,p0,q0,hg0,ht0,hv0,hd0,_⟩,_,_⟩:=h;obtain rfl:=Option.some.inj (gRows.symm.trans hg0);obtain rfl:=Option.some.inj (tRows.symm.trans ht0);have hc:=rows_of hd0;intro k v hk;rw[World.var?_cell hg0 hv0 k,←hk,←hc];simp
def Zl4:AH:= { n:=0+1,lw:=0+1,t:=Tr.nil.set 0 (.ro 3 Vr) }
def Zo:Cfg:= { cfg0 with ng:=0+1 }
def rowsL:Nat→Ev.Loc:=fun i=>⟨i,0,3,48⟩
def rowsS:Nat→Prop:=fun i=>i<0+1
theorem rows_go:GO Zo rowsS rowsL:=fun g hg=>⟨hg,rfl,rfl⟩
theorem rows_plain:Vr.all Yj=true:=rfl
theorem vr_plain1{S:Nat→Prop}{L:Nat→Ev.Loc}{v:Value}(h:Yj v=true):VR S L v v:=by exact Zf0 h
theorem rowsHeap_inv{w:World}(h: ∀k v,Vr[k]?=some v→w.cell? ⟨0,k,none⟩=some v):Inv w.heap.size rowsS rowsL Zl4 w:=by
 have hblk: ∀i b,Zl4.blk i=b→b≠ .dead→i=0∧b= .ro 3 Vr:=by
  intro i b hb hd;by_cases hi:i=0;·subst hi;exact⟨rfl,by rw[←hb];rfl⟩
  ·exfalso;apply hd;rw[←hb];unfold AH.blk Zl4;simp only[Tr.get_set,if_neg hi,Tr.get_nil]
 have h0:=h 0 _ rfl;have hsz:0<w.heap.size:=by
  by_cases hx:0<w.heap.size;·exact hx
  ·exfalso;have:w.heap[0]?=none:=Array.getElem?_eq_none (by omega);simp[World.cell?,this]at h0
 refine⟨fun i sz cs hb=>?_,fun i sz cs hb=>?_,fun i j a b c d hb=>?_,fun i hi=>hi,Nat.le_refl _⟩
 ·obtain⟨rfl,he⟩:=hblk i _ hb (by intro e;cases e);cases he;refine⟨Nat.lt_succ_self _,hsz,rfl,fun k v hk=>⟨v,?_,?_⟩⟩;·have:=h k v hk;simpa[rowsL]using this
  ·exact vr_plain1 (List.all_eq_true.mp rows_plain v (List.mem_of_getElem? hk))
 ·obtain⟨_,he⟩:=hblk i _ hb (by intro e;cases e);cases he
 ·obtain⟨_,he⟩:=hblk i _ hb (by intro e;cases e);cases he
end
end Go.Proofs.YtmkfecoeghokfaaGreatDoor
namespace Go.Proofs.YtmkfecoeghokfaaGreatDoor
set_option linter.unusedVariables false
set_option linter.unusedSimpArgs false
set_option maxHeartbeats 1000000
def Xl:List Nat→List Nat
 |[]=>[]
 |x::xs=>match Xl xs with|[]=>if x=0 then[]else[x]|y::ys=>x::y::ys
theorem Kn: ∀(xs:List Nat),Xl (xs++[0])=Xl xs|[]=>rfl|x::xs=>by simp[Xl,Kn xs]
theorem Ce: ∀(xs:List Nat)(x:Nat),x≠0→Xl (xs++[x])=xs++[x]|[],x,h=>by simp[Xl,h]|y::xs,x,h=>by have:=Ce xs x h;simp only[List.cons_append,Xl,this];cases xs<;>rfl
theorem Jp(xs:List Nat):(Xl xs).length≤xs.length:=by induction xs with
 |nil=>simp[Xl]
 |cons x xs ih=>
  simp only[Xl];split;·split<;>simp
  ·rename_i y ys e;rw[e]at ih;simp at ih⊢;exact ih
def Dig(B:Nat)(xs:List Nat):Prop:= ∀x∈xs,x<B
theorem Dig.nil(B:Nat):Dig B []:=fun x h=>by cases h
theorem Dig.cons{B x:Nat}{xs:List Nat}(h:x<B)(hs:Dig B xs):Dig B (x::xs):=fun y hy=>by
 rcases List.mem_cons.mp hy with e|e;·rw[e];exact h
 ·exact hs y e
theorem Dig.tail{B x:Nat}{xs:List Nat}(h:Dig B (x::xs)):Dig B xs:=fun y hy=>h y (List.mem_cons_of_mem _ hy)
theorem Dig.head{B x:Nat}{xs:List Nat}(h:Dig B (x::xs)):x<B:=h x (List.mem_cons_self ..)
theorem Dig.append{B:Nat}{xs ys:List Nat}(h:Dig B xs)(h':Dig B ys):Dig B (xs++ys):=fun y hy=>by
 rcases List.mem_append.mp hy with e|e;·exact h y e
 ·exact h' y e
theorem Dig.get{B:Nat}{xs:List Nat}(h:Dig B xs){i x:Nat}(hi:xs[i]?=some x):x<B:=h x (List.mem_of_getElem? hi)
theorem Dig.take{B:Nat}{xs:List Nat}(h:Dig B xs)(n:Nat):Dig B (xs.take n):=fun y hy=>h y (List.mem_of_mem_take hy)
theorem Dig.drop{B:Nat}{xs:List Nat}(h:Dig B xs)(n:Nat):Dig B (xs.drop n):=fun y hy=>h y (List.mem_of_mem_drop hy)
def dv(B:Nat):List Nat→Nat|[]=>0|x::xs=>x+B*dv B xs
theorem Xc(B:Nat): ∀(xs ys:List Nat),dv B (xs++ys)=dv B xs+B^xs.length*dv B ys|[],ys=>by simp[dv]|x::xs,ys=>by simp only[List.cons_append,dv,Xc B xs ys,List.length_cons,Nat.pow_succ,Nat.mul_add];rw[Nat.add_assoc,←Nat.mul_assoc,Nat.mul_comm B (B^_)]
theorem Ui{B:Nat} : ∀{xs:List Nat},Dig B xs→dv B xs<B^xs.length
 |[],_=>by simp[dv]
 |x::xs,h=>by
  have h1:=h.head;have h2:=Ui h.tail;simp only[dv,List.length_cons,Nat.pow_succ];have:B*dv B xs+B≤B*B^xs.length:=by rw[←Nat.mul_succ];exact Nat.mul_le_mul_left _ h2
  rw[Nat.mul_comm (B^_) B];omega
theorem Dr(B:Nat): ∀n,dv B (List.replicate n 0)=0|0=>rfl|n+1=>by simp[List.replicate_succ,dv,Dr B n]
theorem Vv(B:Nat): ∀(xs:List Nat),dv B (Xl xs)=dv B xs
 |[]=>rfl
 |x::xs=>by
  have ih:=Vv B xs;simp only[Xl];split
  ·rename_i e;rw[e]at ih;simp only[dv]at ih⊢;split;·rename_i h;simp[dv,h,←ih]
   ·simp[dv,←ih]
  ·rename_i y ys e;rw[e]at ih;simp only[dv]at ih⊢;rw[ih]
theorem Jo{B:Nat} : ∀{xs:List Nat},Dig B xs→Dig B (Xl xs)
 |[],h=>h
 |x::xs,h=>by
  have ih:=Jo h.tail;simp only[Xl];split
  ·split;·exact .nil B
   ·exact .cons h.head (.nil B)
  ·rename_i y ys e;rw[e]at ih;exact .cons h.head ih
theorem Cd: ∀(xs:List Nat),Xl (Xl xs)=Xl xs
 |[]=>rfl
 |x::xs=>by
  have ih:=Cd xs;simp only[Xl];split
  ·split;·rfl
   ·rename_i h;simp[Xl,h]
  ·rename_i y ys e;rw[e]at ih;simp only[Xl]at ih⊢;rw[ih]
def ds(B:Nat)(n:Nat):List Nat:=if h:n=0∨B<2 then[]else n%B::ds B (n/B) termination_by n decreasing_by exact Nat.div_lt_self (by omega) (by omega)
theorem Vd(B:Nat):ds B 0=[]:=by rw[ds];simp
theorem Ej{B n:Nat}(hB:2≤B)(hn:n≠0):ds B n=n%B::ds B (n/B):=by rw[ds,dif_neg (by omega)]
theorem Qk{B:Nat}(hB:2≤B)(n:Nat):dv B (ds B n)=n:=by induction n using Nat.strongRecOn with
 |_ n ih=>
  by_cases h:n=0;·subst h;rw[Vd];rfl
  ·rw[Ej hB h];simp only[dv];rw[ih (n/B) (Nat.div_lt_self (by omega) (by omega))];exact Nat.mod_add_div n B
theorem Xv{B:Nat}(hB:2≤B)(n:Nat):Dig B (ds B n):=by induction n using Nat.strongRecOn with
 |_ n ih=>
  by_cases h:n=0;·subst h;rw[Vd];exact .nil B
  ·rw[Ej hB h];exact .cons (Nat.mod_lt _ (by omega)) (ih (n/B) (Nat.div_lt_self (by omega) (by omega)))
theorem Zg3(B:Nat)(hB:2≤B): ∀{xs:List Nat},dv B xs=0→Xl xs=[]
 |[],_=>rfl
 |x::xs,h=>by
  simp only[dv]at h;have h1:x=0:=by omega
  have h2:dv B xs=0:=by
   have:B*dv B xs=0:=by omega
   rcases Nat.mul_eq_zero.mp this with e|e;·omega
   ·exact e
  simp[Xl,Zg3 B hB h2,h1]
theorem Ji{B:Nat}(hB:2≤B): ∀{xs:List Nat},Dig B xs→Xl xs=ds B (dv B xs)
 |[],_=>(Vd B).symm
 |x::xs,h=>by
  have ih:=Ji hB h.tail;have hx:=h.head;by_cases h0:dv B (x::xs)=0;·rw[h0,Vd];exact Zg3 B hB h0
  ·have e1:(x+B*dv B xs)%B=x:=by rw[Nat.add_mul_mod_self_left];exact Nat.mod_eq_of_lt hx
   have e2:(x+B*dv B xs)/B=dv B xs:=by rw[Nat.add_mul_div_left _ _ (by omega),Nat.div_eq_of_lt hx,Nat.zero_add]
   rw[Ej hB h0];simp only[dv,e1,e2];rw[←ih];simp only[Xl];split
   ·rename_i e;split
    ·rename_i hz;exfalso;apply h0;have:dv B xs=0:=by rw[←Vv B xs,e];rfl
     simp[dv,hz,this]
    ·rw[e]
   ·rename_i y ys e;rw[e]
theorem ds_trim{B:Nat}(hB:2≤B)(n:Nat):Xl (ds B n)=ds B n:=by rw[Ji hB (Xv hB n),Qk hB]
theorem Fm{B:Nat}(hB:2≤B): ∀{k n:Nat},n<B^k→(ds B n).length≤k
 |0,n,h=>by
  have:n=0:=by simpa using h
  subst this;rw[Vd];exact Nat.le_refl _
 |k+1,n,h=>by
  by_cases h0:n=0;·subst h0;rw[Vd];exact Nat.zero_le _
  ·rw[Ej hB h0];have:n/B<B^k:=by rw[Nat.div_lt_iff_lt_mul (by omega)];rw[Nat.pow_succ]at h;exact h
   simpa using Fm hB this
theorem ds_lt{B:Nat}(hB:2≤B)(n:Nat):n<B^(ds B n).length:=by have:=Ui (Xv hB n);rwa[Qk hB]at this
theorem ds_ge{B:Nat}(hB:2≤B){n:Nat}(hn:n≠0):B^((ds B n).length-1)≤n:=by
 rcases Nat.lt_or_ge n (B^((ds B n).length-1))with h|h
 ·have:=Fm hB h;have h2:(ds B n).length≠0:=by rw[Ej hB hn];simp
  omega
 ·exact h
theorem dv_cmp{B:Nat}{xs ys:List Nat}{x y:Nat}(h1:Dig B xs)(h2:Dig B ys)(hl:xs.length=ys.length)(h:x<y)(zs:List Nat):dv B (xs++x::zs)<dv B (ys++y::zs):=by
 rw[Xc,Xc,←hl];simp only[dv];have a:=Ui h1;have hm:B^xs.length*(x+1+B*dv B zs)≤B^xs.length*(y+B*dv B zs):=Nat.mul_le_mul_left _ (by omega);have e:B^xs.length*(x+1+B*dv B zs)=B^xs.length*(x+B*dv B zs)+B^xs.length:=by rw[show x+1+B*dv B zs=(x+B*dv B zs)+1 by omega,Nat.mul_succ]
 omega
end Go.Proofs.YtmkfecoeghokfaaGreatDoor
namespace Go.Proofs.YtmkfecoeghokfaaGreatDoor
open Go Ev
set_option linter.unusedVariables false
set_option linter.unusedSimpArgs false
noncomputable section
set_option maxRecDepth 20000
set_option maxHeartbeats 1000000
theorem uNat:Tryz.prog.underlying 30=some (.slice 101):=by kernel_rfl
theorem uNum:Tryz.prog.underlying 37=some (.slice 101):=by kernel_rfl
theorem uLst:Tryz.prog.underlying 25=some (.slice 101):=by kernel_rfl
theorem sU64:Qr Tryz.prog 101=some 1:=by kernel_rfl
theorem aU64:Jm Tryz.prog 101=some false:=by kernel_rfl
theorem tNat:Ur Tryz.prog 30=some (101,1,8):=by kernel_rfl
theorem tNum:Ur Tryz.prog 37=some (101,1,8):=by kernel_rfl
theorem tLst:Ur Tryz.prog 25=some (101,1,8):=by kernel_rfl
theorem zU64:Uu Tryz.prog 101=some (.int .u64 0):=by kernel_rfl
def LT(t:TypeId):Prop:=Tryz.prog.underlying t=some (.slice 101)∧Ur Tryz.prog t=some (101,1,8)
theorem Zk:LT 30:=⟨uNat,tNat⟩
theorem Jg:LT 37:=⟨uNum,tNum⟩
theorem Jf:LT 25:=⟨uLst,tLst⟩
def At(H:AH)(b o:Nat)(xs:List Nat):Prop:=b<H.n∧ ∃cs,H.cells b=some cs∧H.size b=some 1∧(∀(i x:Nat),xs[i]?=some x→cs[o+i]?=some (.int .u64 (x:Int)))∧o≤cs.length
inductive Sl(H:AH):Value→List Nat→Prop|nil:Sl H (.slice none 0 0) []|emp(b:Nat):Sl H (.slice (some ⟨b,0,some 0⟩) 0 0) []|mk(b o cap:Nat)(xs:List Nat):xs.length≤cap→At H b o xs→Sl H (.slice (some ⟨b,o,none⟩) xs.length cap) xs
structure Keep (H H' : AH) : Prop where
  n : H.n ≤ H'.n
  lw : min H.lw H.n ≤ H'.lw
  blk : ∀ j, j < H.n → H'.blk j = H.blk j
theorem Keep.refl(H:AH):Keep H H:=⟨Nat.le_refl _,Nat.min_le_left _ _,fun _ _=>rfl⟩
theorem Keep.trans{H H1 H2:AH}(a:Keep H H1)(b:Keep H1 H2):Keep H H2:=⟨Nat.le_trans a.n b.n,by have:=a.n;have:=a.lw;have:=b.lw;omega,fun j hj=>(b.blk j (Nat.lt_of_lt_of_le hj a.n)).trans (a.blk j hj)⟩
theorem At.keep{H H':AH}{b o:Nat}{xs:List Nat}(h:At H b o xs)(k:Keep H H'):At H' b o xs:=by obtain⟨h1,cs,h2,h3,h4⟩:=h;have e:=k.blk b h1;exact⟨Nat.lt_of_lt_of_le h1 k.n,cs,by unfold AH.cells;rw[e];exact h2,by unfold AH.size;rw[e];exact h3,h4⟩
theorem Sl.keep{H H':AH}{v:Value}{xs:List Nat}(h:Sl H v xs)(k:Keep H H'):Sl H' v xs:=by cases h with|nil=>exact .nil|emp b=>exact .emp b|mk b o cap xs h1 h2=>exact .mk b o cap xs h1 (h2.keep k)
theorem Sl.len{H:AH}{v:Value}{xs:List Nat}(h:Sl H v xs){t:TypeId}(ht:LT t):lenV Tryz.prog t v=some xs.length:=by unfold lenV;rw[ht.1];cases h<;>rfl
def adr(v:Value)(i:Nat):Value:=match v with| .slice (some ⟨b,o,none⟩) _ _=> .pointer (some ⟨b,o+i,none⟩)|_=> .pointer none
theorem Sl.adr{H:AH}{v:Value}{xs:List Nat}(h:Sl H v xs){t:TypeId}(ht:LT t){i:Nat}{k:IntKind}(hi:i<xs.length):Yt Tryz.prog t v (.int k (i:Int))=some (adr v i):=by cases h with|nil=>cases hi|emp b=>cases hi|mk b o cap xs h1 h2=>unfold Yt Go.Proofs.YtmkfecoeghokfaaGreatDoor.adr;simp only[ht.1,sU64];rw[if_pos (by omega)];simp
theorem Sl.load{H:AH}{v:Value}{xs:List Nat}(h:Sl H v xs){i:Nat}(hi:i<xs.length):Yn Tryz.prog H 101 (Go.Proofs.YtmkfecoeghokfaaGreatDoor.adr v i)=some (.int .u64 (xs[i]:Nat)):=by cases h with|nil=>cases hi|emp b=>cases hi|mk b o cap xs h1 h2=>obtain⟨_,cs,h3,h4,h5⟩:=h2;unfold Yn Go.Proofs.YtmkfecoeghokfaaGreatDoor.adr;simp only[aU64,h3];exact h5.1 i _ (List.getElem?_eq_getElem hi)
theorem Zm1{n:Nat}(h:n<9223372036854775808):IntKind.i64.wrap (n:Int)=(n:Int):=by rw[IntKind.wrap_i64];omega
theorem Zn5{n:Nat}(h0:0<n)(h:n<9223372036854775808):IntKind.i64.wrap ((n:Int)-1)=((n-1:Nat):Int):=by rw[IntKind.wrap_i64];omega
theorem Sl.cut{H:AH}{v:Value}{xs:List Nat}(h:Sl H v xs){t:TypeId}(ht:LT t){m:Nat}(hm:m≤xs.length)(h0:0<xs.length): ∃v',Us Tryz.prog H t v none (some (.int .i64 (m:Int))) none=some v'∧Sl H v' (xs.take m):=by cases h with
 |nil=>cases h0
 |emp b=>cases h0
 |mk b o cap xs h1 h2=>
  have hl:(xs.take m).length=m:=by rw[List.length_take];omega
  obtain⟨h2a,cs,h3,h4,h5⟩:=h2;refine⟨.slice (some ⟨b,o,none⟩) (xs.take m).length cap,?_,.mk b o cap _ (by omega) ⟨h2a,cs,h3,h4,fun i x hx=>h5.1 i x ?_,h5.2⟩⟩;·unfold Us;simp only[ht.1,sU64];unfold cutV Qq;simp only[h4,Option.isSome_some,Option.isNone_none,Bool.true_or];rw[if_pos (by omega)];have e1:Nat.ble m cap=true:=Nat.ble_eq.mpr (by omega);simp[Qq,e1,hl]
  ·rw[List.getElem?_take]at hx;split at hx;·exact hx
   ·cases hx
section
attribute [local simp] strip Yd LW' gW Yf Xh Ya Xi Yo Xj Zr Zs Zh Yp Yy Yk Yq Zi Xa opd Qe Ym plain Yj Tr.get_set Qc Zp Xy Yc sameKind Zd undef Zt Yr Yv Zk Jg Jf
theorem Ug{v:Value}{xs:List Nat}{H:AH}(hs:Sl H v xs)(hlen:xs.length<1152921504606846976):CW Tryz.prog Zo 160 [v] H fun v' H'=>H'=H∧Sl H v' (Xl xs):=by
 refine Zl 21 (by decide) (by decide) Tryz.func160 rfl rfl ?_;apply Zb;intro b1 hb1;apply Za;simp;subst hb1;apply Zb;intro b1 hb1;apply Zx;refine W_loop (fun n s=>s.k=21∧s.H=H∧ ∃v',s.tm.get 0=some v'∧n≤xs.length∧Sl H v' (xs.take n)∧Xl (xs.take n)=Xl xs) ?_ xs.length _ ⟨rfl,rfl,v,by simp,Nat.le_refl _,by rw[List.take_length];exact hs,by rw[List.take_length]⟩;rintro n ⟨k,tm,H'⟩ ⟨h2,h3,v',h4,h5,h6,h7⟩;simp only at h2 h3 h4;subst h2;subst h3;have hl:(xs.take n).length=n:=by rw[List.length_take];omega
 have hlenv:=h6.len Zk;rw[hl]at hlenv;apply Zb;intro b2 hb2;apply Zb;intro b3 hb3;apply Za;by_cases hz:n=0;·subst hz;simp[h4,hlenv];subst hb3;refine Zc (t:=false) (by simp) ?_;apply Qf;left;refine⟨rfl,?_⟩;subst hb1;apply Zb;intro b4 hb4;apply Za;simp[h4];subst hb4;apply Zn;simp;rw[←h7];exact h6
 ·have hn:0<n:=Nat.pos_of_ne_zero hz;have hw:IntKind.i64.wrap ((n:Int)-1)=((n-1:Nat):Int):=Zn5 hn (by omega);have hi:n-1<(xs.take n).length:=by omega
  have ha:=h6.adr Zk (k:= .i64) hi;have hld:=h6.load hi;simp[h4,hlenv,hn,hw,ha,hld];subst hb3;have hx:n-1<xs.length:=by omega
  have htake:xs.take n=xs.take (n-1)++[xs[n-1]]:=by have:=List.take_append_getElem (l:=xs) (i:=n-1) hx;rw[this,show n-1+1=n by omega]
  by_cases h0:xs[n-1]=0
  ·refine Zc (t:=true) (by simp[h0]) ?_;apply Zj;subst hb2;apply Zx;apply Za;obtain⟨v2,hv2,hs2⟩:=h6.cut Zk (m:=n-1) (by omega) (by omega);simp[h4,hlenv,hw,hv2];refine⟨n-1,by omega,rfl,rfl,v2,by simp,by omega,?_,?_⟩;·rw[List.take_take,show min (n-1) n=n-1 by omega]at hs2;exact hs2
   ·rw[←h7,htake,h0,Kn]
  ·refine Zc (t:=false) (by simp;exact h0) ?_;apply Qf;left;refine⟨rfl,?_⟩;subst hb1;apply Zb;intro b4 hb4;apply Za;simp[h4];subst hb4;apply Zn;simp;rw[←h7];have:Xl (xs.take n)=xs.take n:=by rw[htake];exact Ce _ _ h0
   rw[this];exact h6
end
def Gv(x:Nat):Value:= .int .u64 (x:Int)
inductive Own(n:Nat)(H:AH):Value→List Nat→Prop|nil:Own n H (.slice none 0 0) []|mk(b o cap:Nat)(xs:List Nat)(cs:List Value):xs.length≤cap→n≤b→b<H.n→H.blk b= .rw 1 cs→o+cap≤cs.length→(∀(i x:Nat),xs[i]?=some x→cs[o+i]?=some (Gv x))→Own n H (.slice (some ⟨b,o,none⟩) xs.length cap) xs
theorem Own.sl{n:Nat}{H:AH}{v:Value}{xs:List Nat}(h:Own n H v xs):Sl H v xs:=by cases h with|nil=>exact .nil|mk b o cap xs cs h1 h2 h3 h4 h5 h6=>exact .mk b o cap xs h1 ⟨h3,cs,by unfold AH.cells;rw[h4],by unfold AH.size;rw[h4],h6,by omega⟩
theorem Own.mono{n m:Nat}{H H':AH}{v:Value}{xs:List Nat}(h:Own n H v xs)(hn:m≤n)(k:Keep H H'):Own m H' v xs:=by cases h with|nil=>exact .nil|mk b o cap xs cs h1 h2 h3 h4 h5 h6=>exact .mk b o cap xs cs h1 (Nat.le_trans hn h2) (Nat.lt_of_lt_of_le h3 k.n) (by rw[k.blk b h3];exact h4) h5 h6
theorem AH.blk_new(H:AH)(sz:Nat)(cs:List Value)(j:Nat):(H.new sz cs).blk j=if j=H.n then .rw sz cs else H.blk j:=by
 unfold AH.new AH.blk;simp only[Tr.get_set];by_cases e:j=H.n;·rw[if_pos e,if_pos e]
 ·rw[if_neg e,if_neg e]
theorem Keep.new(H:AH)(sz:Nat)(cs:List Value):Keep H (H.new sz cs):=⟨Nat.le_succ _,Nat.min_le_left _ _,fun j hj=>by rw[AH.blk_new,if_neg (by omega)]⟩
theorem Own.new(H:AH)(xs:List Nat):Own H.n (H.new 1 (xs.map Gv)) (.slice (some ⟨H.n,0,none⟩) xs.length xs.length) xs:= .mk H.n 0 xs.length xs (xs.map Gv) (Nat.le_refl _) (Nat.le_refl _) (Nat.lt_succ_self _) (by rw[AH.blk_new,if_pos rfl]) (by simp) (fun i x h=>by simp[h])
theorem list_of{cs:List Value}{o:Nat}{xs:List Nat}(h0:0<xs.length)(h: ∀(i x:Nat),xs[i]?=some x→cs[o+i]?=some (Gv x)):o+xs.length≤cs.length∧(cs.drop o).take xs.length=xs.map Gv:=by
 have hl:o+xs.length≤cs.length:=by have:=h (xs.length-1) _ (List.getElem?_eq_getElem (by omega));have:=(List.getElem?_eq_some_iff.mp this).1;omega
 refine⟨hl,List.ext_getElem? fun i=>?_⟩;rw[List.getElem?_take,List.getElem?_drop,List.getElem?_map];by_cases hi:i<xs.length;·rw[if_pos hi,List.getElem?_eq_getElem hi,Option.map_some];exact h i _ (List.getElem?_eq_getElem hi)
 ·rw[if_neg hi,List.getElem?_eq_none (by omega)];rfl
theorem Sl.cells{H:AH}{v:Value}{xs:List Nat}(h:Sl H v xs)(h0:0<xs.length):Jy H 1 v xs.length=some (xs.map Gv):=by cases h with|nil=>cases h0|emp b=>cases h0|mk b o cap xs h1 h2=>obtain⟨_,cs,h3,h4,h5⟩:=h2;obtain⟨h6,h7⟩:=list_of h0 h5.1;have:Nat.ble (o+xs.length) cs.length=true:=Nat.ble_eq.mpr (by omega);simp only[Jy,AH.read_def,h3,this,cond_true,Nat.mul_one,h7]
theorem Sl.copyNew{H:AH}{v:Value}{xs:List Nat}(h:Sl H v xs)(hl:xs.length≤17592186044416){t t2:TypeId}(ht:LT t)(ht2:LT t2): ∃v' H',Vb Tryz.prog H t t2 (.slice none 0 0) v=some (v',H')∧Keep H H'∧Own H.n H' v' xs:=by
 by_cases h0:xs.length=0;·obtain rfl:xs=[]:=List.length_eq_zero_iff.mp h0;refine⟨.slice none 0 0,H,?_,.refl H,.nil⟩;generalize hn:([]:List Nat)=ys at h;cases h with|nil=>simp[Vb,ht.2,ht2.2]|emp b=>simp[Vb,ht.2,ht2.2]|mk b o cap xs h1 h2=>subst hn;simp[Vb,ht.2,ht2.2]
 ·refine⟨.slice (some ⟨H.n,0,none⟩) xs.length xs.length,H.new 1 (xs.map Gv),?_,.new _ _ _,.new H xs⟩;have hc:=h.cells (by omega);obtain⟨a,cap,rfl⟩: ∃a cap,v= .slice a xs.length cap:=by cases h<;>exact⟨_,_,rfl⟩
  have e1:Nat.beq xs.length 0=false:=Qn h0;have e2:Nat.ble (xs.length*8) 140737488355328=true:=Nat.ble_eq.mpr (by omega);have e3:Nat.ble xs.length 281474976710656=true:=Nat.ble_eq.mpr (by omega);simp[Vb,ht.2,ht2.2,e1,e2,e3,hc,zU64,Value.cells]
section
attribute [local simp] strip Yd LW' gW Yf Xh Ya Xi Yo Xj Zr Zs Zh Yp Yy Yk Yq Zi Xa opd Qe Ym plain Yj Tr.get_set Qc Zp Xy Yc sameKind Zd undef Zt Yr Yv Zk Jg Jf Yb
theorem Uw{v:Value}{xs:List Nat}{H:AH}(hs:Sl H v xs)(hlen:xs.length≤17592186044416):CW Tryz.prog Zo 120 [v] H fun v' H'=>Keep H H'∧Own H.n H' v' (Xl xs):=by refine Zl 6 (by decide) (by decide) Tryz.func120 rfl rfl ?_;obtain⟨v1,H1,hc1,e1,hs1⟩:=Ug hs (by omega);subst e1;obtain⟨v2,H2,ha,hk,ho⟩:=hs1.copyNew (by have:=Jp xs;omega) Zk Zk;apply Zb;intro b1 hb1;apply Za;simp;subst hb1;apply Zb;intro b1 hb1;apply Za;simp[hc1,ha];subst hb1;apply Zn;simp;exact⟨hk,ho⟩
end
end
end Go.Proofs.YtmkfecoeghokfaaGreatDoor
namespace Go.Proofs.YtmkfecoeghokfaaGreatDoor.Ev
open Go Go.RowKit
set_option linter.unusedVariables false
set_option linter.unusedSimpArgs false
noncomputable section
set_option maxHeartbeats 1000000
def Zk3(ops:Array Oper):Bool:=ops.toList.all fun o=>match o.op with| .load .. =>true|op=>!Zv op
theorem Zf6{bits b:Nat} : ∀{l:List (Nat×Nat×Bool)},(∀x∈l,x.2.2=false)→Kr bits b false l=true|[],_=>rfl|(k,b',w')::r,h=>by have h1:w'=false:=h (k,b',w') (List.mem_cons_self ..);subst h1;simp only[Kr,Bool.or_self,Bool.not_false,Bool.or_true,Bool.true_or,Bool.true_and];exact Zf6 fun x hx=>h x (List.mem_cons_of_mem _ hx)
section
variable {P : Program} {C : Cfg} {call : FuncId → List Value → AH → Option (Value × AH)} {ops : Array Oper}
theorem Cg: ∀(l:List Oper)(i:Nat)(fs:List (Nat×Nat×Bool))(s s':St),(∀x∈fs,x.2.2=false)→(∀o∈l,(match o.op with| .load .. =>true|op=>!Zv op)=true)→Uc P C call ops l s=some s'→Kt P C call ops i fs l s=some s'
 |[],i,fs,s,s',hf,hl,h=>by rw[Dt]at h;simp only[Kt];exact h
 |o::rest,i,fs,s,s',hf,hl,h=>by
  have ho:=hl o (List.mem_cons_self ..);have hl':=fun o' h'=>hl o' (List.mem_cons_of_mem _ h');rw[Vh]at h;simp only[Kt];split at h<;>first|(cases h;done)|skip
  ·split at h<;>first|(cases h;done)|skip
   rename_i v H1 hop;split at h<;>first|(cases h;done)|skip
   rename_i s1 hput;cases hh:Zv o.op with
    |false=>
     have hm:Ve C s.tm o.op=some none:=by
      unfold Ve;split;·rename_i e;rw[e]at hh;cases hh
      ·rename_i e;rw[e]at hh;cases hh
      ·rw[hh];rfl
     have hH:Yf P C call s.tm s.H o.op=some (v,s.H):=Dm hh hop s.H;rw[hH]at hop;cases hop;simp only[hm,hH,hput];exact Cg rest _ _ s1 s' hf hl' h
    |true=>
     split at ho
     ·rename_i t x e;rw[e]at hop;simp only[Yf,Yy]at hop;split at hop<;>first|(cases hop;done)|skip
      rename_i a ha;split at hop<;>first|(cases hop;done)|skip
      rename_i v' hv;cases hop;obtain⟨b,off,rfl⟩: ∃b off,a= .pointer (some ⟨b,off,none⟩):=by
       unfold Yn at hv;split at hv;·exact⟨_,_,rfl⟩
       ·cases hv
      have hm:Ve C s.tm o.op=some (some (b,false)):=by rw[e];simp only[Ve,ha]
      have hop':Yf P C call s.tm s.H o.op=some (v,s.H):=by rw[e];simp only[Yf,Yy,ha,hv]
      simp only[hm,Zf6 hf,cond_true,hop',hput];exact Cg rest _ _ s1 s' (fun x hx=>by
       rcases List.mem_cons.mp hx with e|e;·rw[e]
       ·exact hf x e) hl' h
     ·rw[hh]at ho;cases ho
  ·split at h<;>first|(cases h;done)|skip
   rename_i s1 hput;try simp only[hput]
   exact Cg rest _ _ s1 s' hf hl' h
end
section
variable {P : Program} {C : Cfg} {Q : Ex → St → Prop}
theorem loadOnly_mem{ops:Array Oper}(h:Zk3 ops=true):Vw ops=true:=by unfold Zk3 at h;unfold Vw;rw[List.all_eq_true]at h⊢;intro o ho;have:=h o ho;revert this;cases o.op<;>simp
theorem Zd8{i:Nat}{ops:Array Oper}{s:St}(hd:(Zk3 ops&&Gm ops)=true)(h:LW' P C s.k (strip ops) s.tm s.H fun tm' H'=>Q .norm ⟨s.k,tm',H'⟩):W P C (.region i ops true) s Q:=by
 rw[Bool.and_eq_true]at hd;obtain⟨k,tm,H⟩:=s;obtain⟨tm',H',h1,h2⟩:=Zd7 (ops:=ops) ops.toList tm H _ h;refine⟨.norm,⟨k,tm',H'⟩,?_,h2⟩;rw[Kv];simp only[Jl];rw[Va]at h1;have:Xz P C (Qa P C (lvI P C)) ops true ⟨k,tm,H⟩=some ⟨k,tm',H'⟩:=by unfold Xz;rw[loadOnly_mem hd.1,hd.2];simp only[Bool.and_self,cond_true];refine Cg _ _ _ _ _ (fun x hx=>by cases hx) (fun o ho=>?_) h1;have:=hd.1;unfold Zk3 at this;rw[List.all_eq_true]at this;exact this o ho
 rw[this]
def Zy:Op→Bool| .store .. =>true|_=>false
def Ze7(ops:Array Oper):Bool:=Vw ops&&Gm ops&&(List.range ops.size).all fun i=>match ops[i]? with|some o=>!Zy o.op||alone ops i|none=>true
theorem Zp1{bits b:Nat}{w:Bool} : ∀{l:List (Nat×Nat×Bool)},(∀x∈l,(w||x.2.2)=true→bits.testBit x.1=true)→Kr bits b w l=true
 |[],_=>rfl
 |(k,b',w')::r,h=>by have h1:=h (k,b',w') (List.mem_cons_self ..);simp only[Kr,Bool.and_eq_true,Bool.or_eq_true,Bool.not_eq_true'];refine⟨?_,Zp1 fun x hx=>h x (List.mem_cons_of_mem _ hx)⟩;cases hw:(w||w')with|false=>exact .inl (.inr rfl)|true=>exact .inr (h1 hw)
theorem Du{call:FuncId→List Value→AH→Option (Value×AH)}{ops:Array Oper}(hm:Ze7 ops=true): ∀(l:List Oper)(i:Nat)(fs:List (Nat×Nat×Bool))(s s':St),(∀j,l[j]?=ops[i+j]?)→(∀x∈fs,x.1<i∧ ∃o,ops[x.1]?=some o∧Zv o.op=true∧x.2.2=Zy o.op)→Uc P C call ops l s=some s'→Kt P C call ops i fs l s=some s'
 |[],i,fs,s,s',hl,hf,h=>by rw[Dt]at h;simp only[Kt];exact h
 |o::rest,i,fs,s,s',hl,hf,h=>by
  have h0:ops[i]?=some o:=by simpa using(hl 0).symm
  have hl': ∀j,rest[j]?=ops[i+1+j]?:=fun j=>by have:=hl (j+1);simpa[Nat.add_assoc,Nat.add_comm 1 j]using this
  have hf': ∀x∈fs,x.1<i+1∧ ∃o,ops[x.1]?=some o∧Zv o.op=true∧x.2.2=Zy o.op:=fun x hx=>⟨Nat.lt_succ_of_lt (hf x hx).1,(hf x hx).2⟩;unfold Ze7 at hm;rw[Bool.and_eq_true,Bool.and_eq_true]at hm;have hsafe: ∀k ok,ops[k]?=some ok→Zy ok.op=true→alone ops k=true:=fun k ok hk hs=>by have:=hm.2;rw[List.all_eq_true]at this;have:=this k (by simpa using Xg hk);rw[hk]at this;simpa[hs]using this
  have ho:(match o.op with| .load .. =>true| .store .. =>true|op=>!Zv op)=true:=by have:=hm.1.1;unfold Vw at this;rw[List.all_eq_true]at this;exact this o (by rw[←Array.getElem?_toList]at h0;exact List.mem_of_getElem? h0)
  have clear: ∀b,Zv o.op=true→Kr ((before ops).getD i 0) b (Zy o.op) fs=true:=fun b hh=>Zp1 fun x hx hw=>by obtain⟨h1,ok,h2,h3,h4⟩:=hf x hx;rw[h4]at hw;cases hs:Zy o.op with|true=>exact(Zg4 (hsafe i o h0 hs) h2 (by omega) h3).1 h1|false=>rw[hs,Bool.false_or]at hw;exact(Zg4 (hsafe x.1 ok h2 hw) h0 (by omega) hh).2 h1
  have hm':Ze7 ops=true:=by unfold Ze7;rw[Bool.and_eq_true,Bool.and_eq_true];exact hm
  rw[Vh]at h;simp only[Kt];split at h<;>first|(cases h;done)|skip
  ·split at h<;>first|(cases h;done)|skip
   rename_i v H1 hop;split at h<;>first|(cases h;done)|skip
   rename_i s1 hput;cases hh:Zv o.op with
    |false=>
     have hmf:Ve C s.tm o.op=some none:=by
      unfold Ve;split;·rename_i e;rw[e]at hh;cases hh
      ·rename_i e;rw[e]at hh;cases hh
      ·rw[hh];rfl
     have hH:Yf P C call s.tm s.H o.op=some (v,s.H):=Dm hh hop s.H;rw[hH]at hop;cases hop;simp only[hmf,hH,hput];exact Du hm' rest _ _ s1 s' hl' hf' h
    |true=>
     split at ho
     ·rename_i t x e;have hop0:=hop;rw[e]at hop;simp only[Yf,Yy]at hop;split at hop<;>first|(cases hop;done)|skip
      rename_i a ha;split at hop<;>first|(cases hop;done)|skip
      rename_i v' hv;obtain⟨b,off,rfl⟩: ∃b off,a= .pointer (some ⟨b,off,none⟩):=by
       unfold Yn at hv;split at hv;·exact⟨_,_,rfl⟩
       ·cases hv
      have hmf:Ve C s.tm o.op=some (some (b,false)):=by rw[e];simp only[Ve,ha]
      have hc:=clear b hh;rw[show Zy o.op=false by rw[e];rfl]at hc;simp only[hmf,hc,cond_true,hop0,hput];exact Du hm' rest _ _ s1 s' hl' (fun x hx=>by
       rcases List.mem_cons.mp hx with e1|e1;·rw[e1];exact⟨Nat.lt_succ_self _,o,h0,hh,by rw[e];rfl⟩
       ·exact hf' x e1) h
     ·rename_i t x y e;have hop0:=hop;rw[e]at hop;simp only[Yf,Yk]at hop;split at hop<;>first|(cases hop;done)|skip
      rename_i a a' ha ha';split at hop<;>first|(cases hop;done)|skip
      rename_i H' hv;obtain⟨b,off,rfl⟩: ∃b off,a= .pointer (some ⟨b,off,none⟩):=by
       unfold Xp at hv;split at hv;·exact⟨_,_,rfl⟩
       ·cases hv
      have hmf:Ve C s.tm o.op=some (some (b,true)):=by rw[e];simp only[Ve,ha]
      have hc:=clear b hh;rw[show Zy o.op=true by rw[e];rfl]at hc;simp only[hmf,hc,cond_true,hop0,hput];exact Du hm' rest _ _ s1 s' hl' (fun x hx=>by
       rcases List.mem_cons.mp hx with e1|e1;·rw[e1];exact⟨Nat.lt_succ_self _,o,h0,hh,by rw[e];rfl⟩
       ·exact hf' x e1) h
     ·rw[hh]at ho;cases ho
  ·split at h<;>first|(cases h;done)|skip
   rename_i s1 hput;try simp only[hput]
   exact Du hm' rest _ _ s1 s' hl' hf' h
theorem W_mem{i:Nat}{ops:Array Oper}{s:St}(hd:Ze7 ops=true)(h:LW' P C s.k (strip ops) s.tm s.H fun tm' H'=>Q .norm ⟨s.k,tm',H'⟩):W P C (.region i ops true) s Q:=by
 obtain⟨k,tm,H⟩:=s;obtain⟨tm',H',h1,h2⟩:=Zd7 (ops:=ops) ops.toList tm H _ h;refine⟨.norm,⟨k,tm',H'⟩,?_,h2⟩;rw[Kv];simp only[Jl];rw[Va]at h1;have:Xz P C (Qa P C (lvI P C)) ops true ⟨k,tm,H⟩=some ⟨k,tm',H'⟩:=by have hd':=hd;unfold Ze7 at hd';rw[Bool.and_eq_true,Bool.and_eq_true]at hd';unfold Xz;rw[hd'.1.1,hd'.1.2];simp only[Bool.and_self,cond_true];exact Du hd _ _ _ _ _ (fun j=>by simp) (fun x hx=>by cases hx) h1
 rw[this]
def vis(H:AH)(bits:Nat)(ms:List (Nat×Nat×Nat)):AH:= { n:=H.n,lw:=H.n,t:=Ff H.t (hidden bits ms) }
def grown(H H2:AH):AH:= { n:=H2.n,lw:=H.lw,t:=addT H.t H2 H.n (H2.n-H.n) }
def Xq(ops:Array Oper)(o:Oper):Option (Option Tmp×Bool):=match o.guard with|none=>none|some (j,b)=>some ((ops[j]?).bind (·.dst),b)
theorem Fv{ops:Array Oper}{tm:Tr Value}{o:Oper} :Qo ops tm o=gW tm (Xq ops o):=gW_eq
def DG(X:Xs)(P:Program)(C:Cfg)(ops:Array Oper)(k i:Nat)(q:Bool)(ms:List (Nat×Nat×Nat))(l:List Oper)(tm:Tr Value)(H:AH)(K:Tr Value→AH→Prop):Prop:= ∃tm' H',Ja X P C (Zq P C) ops i q ms l ⟨k,tm,H⟩=some ⟨k,tm',H'⟩∧K tm' H'
def DW(X:Xs)(P:Program)(C:Cfg)(ops:Array Oper)(k:Nat):Nat→Bool→List (Nat×Nat×Nat)→List Oper→Tr Value→AH→(Tr Value→AH→Prop)→Prop
 |_,_,_,[],tm,H,K=>K tm H
 |i,q,ms,o::r,tm,H,K=>match gW tm (Xq ops o)with
  |some true=>match Zv o.op with
   |true=>DG X P C ops k i q ms (o::r) tm H K
   |false=>match Yf P C (Zq P C) tm H o.op with
    |some (v,_)=>match o.dst with|none=>DW X P C ops k (i+1) q ms r tm H K|some d=>d<k∧DW X P C ops k (i+1) q ms r (tm.set d v) H K
    |none=>False
  |some false=>match o.dst with|none=>DW X P C ops k (i+1) q ms r tm H K|some d=>d<k∧DW X P C ops k (i+1) q ms r (tm.set d undef) H K
  |none=>False
variable {X : Xs} {ops : Array Oper} {k i : Nat} {q : Bool} {ms : List (Nat × Nat × Nat)} {tm : Tr Value} {H : AH} {K : Tr Value → AH → Prop}
theorem Gz{o:Oper}{v:Value}{H1:AH}{K1:Tr Value→Prop}(h:match o.dst with|none=>K1 tm|some d=>d<k∧K1 (tm.set d v)): ∃tm1,(St.put ⟨k,tm,H⟩ o.dst v H1)=some ⟨k,tm1,H1⟩∧K1 tm1:=by cases hd:o.dst with
 |none=>rw[hd]at h;exact⟨tm,rfl,h⟩
 |some d=>
  rw[hd]at h;have:Nat.blt d k=true:=by rw[Nat.blt_eq];exact h.1
  exact⟨tm.set d v,by simp only[St.put,putSt,this,cond_true],h.2⟩
theorem Qi(n:Nat):Nat.blt n n=false:=by cases hb:Nat.blt n n with|false=>rfl|true=>rw[Nat.blt_eq]at hb;omega
theorem DG_of: ∀(l:List Oper)(i:Nat)(q:Bool)(ms:List (Nat×Nat×Nat))(tm:Tr Value)(H:AH),DW X P C ops k i q ms l tm H K→DG X P C ops k i q ms l tm H K
 |[],i,q,ms,tm,H,h=>⟨tm,H,by simp only[Ja],h⟩
 |o::r,i,q,ms,tm,H,h=>by
  simp only[DW]at h;split at h
  ·rename_i hg;split at h;·exact h
   ·rename_i hh;split at h;·rename_i v H2 hop;obtain⟨tm1,hput,hl⟩:=Gz (H:=H) (H1:=H) (K1:=fun tm=>DW X P C ops k (i+1) q ms r tm H K) h;obtain⟨tm',H',h1,h2⟩:=DG_of r (i+1) q ms tm1 H hl;refine⟨tm',H',?_,h2⟩;simp only[Ja];rw[Fv,hg];simp only[Qp,hh,cond_false,hop,hput,Qi];exact h1
    ·exact h.elim
  ·rename_i hg;obtain⟨tm1,hput,hl⟩:=Gz (H:=H) (H1:=H) (K1:=fun tm=>DW X P C ops k (i+1) q ms r tm H K) h;obtain⟨tm',H',h1,h2⟩:=DG_of r (i+1) q ms tm1 H hl;refine⟨tm',H',?_,h2⟩;simp only[Ja];rw[Fv,hg];simp only[hput];exact h1
  ·exact h.elim
theorem Qs{id:Nat}{s:St}(hd:(!Vw ops&&Gm ops&&!isSplit C ops)=true)(h:DW (X0 ops) P C ops s.k 0 false [] ops.toList s.tm s.H fun tm' H'=>Q .norm ⟨s.k,tm',H'⟩):W P C (.region id ops true) s Q:=by
 obtain⟨k,tm,H⟩:=s;obtain⟨tm',H',h1,h2⟩:=DG_of _ _ _ _ _ _ h;refine⟨.norm,⟨k,tm',H'⟩,?_,h2⟩;rw[Kv];simp only[Jl];rw[Va]at h1;rw[Bool.and_eq_true,Bool.and_eq_true]at hd;have hm:Vw ops=false:=by simpa using hd.1.1
 have hs:isSplit C ops=false:=by simpa using hd.2
 have:Xz P C (Qa P C (lvI P C)) ops true ⟨k,tm,H⟩=some ⟨k,tm',H'⟩:=by unfold Xz Ud;rw[hm,hs,hd.1.2];simp only[Bool.and_false,cond_false,cond_true];exact h1
 rw[this]
theorem W_split{id:Nat}{s:St}{fl z b sz:Nat}{cs cs2:List Value}{v:Value}{o1 oz:Oper}(hd:(!Vw ops&&isSplit C ops&&Dd ops)=true)(hfl:Qb ops=fl)(hz:ops.size-1=z)(h1:ops[fl]?=some o1)(hz1:ops[z]?=some oz)(hb:s.H.blk b= .rw sz cs)(hpre: ∃tm1 w,Fo P C (Zq P C) ops (ops.toList.take fl) s=some ⟨s.k,tm1,s.H⟩∧Ve C tm1 o1.op=some (some (b,w))∧Yf P C (Zq P C) tm1 (only s.H b (.rw sz cs)) o1.op=some (v,only s.H b (.rw sz cs)))(h:DW (Xf ops v) P C ops s.k 0 false [] ops.toList s.tm { n:=s.H.n,lw:=s.H.lw,t:=s.H.t.set b .dead } fun tm3 H3=> ∃H4,Yf P C (Zq P C) tm3 (only H3 b (.rw sz cs)) oz.op=some (.tuple #[],H4)∧H4.blk b= .rw sz cs2∧H4.lw≤b∧H4.n=H3.n∧Q .norm ⟨s.k,tm3,{ n:=H3.n,lw:=min H3.lw H4.lw,t:=H3.t.set b (.rw sz cs2) }⟩):W P C (.region id ops true) s Q:=by
 obtain⟨k,tm,H⟩:=s;obtain⟨tm1,w,p1,p2,p3⟩:=hpre;obtain⟨tm3,H3,g1,H4,g2,g3,g4,g5,g6⟩:=DG_of _ _ _ _ _ _ h;refine⟨.norm,_,?_,g6⟩;rw[Kv];simp only[Jl];rw[Va]at p1 p3 g1 g2;rw[Bool.and_eq_true,Bool.and_eq_true]at hd;have hm:Vw ops=false:=by simpa using hd.1.1
 have e1:Nat.beq sz sz=true:=Nat.beq_refl _;have e2:Nat.ble H4.lw b=true:=Nat.ble_eq.mpr g4;have e3:Nat.beq H4.n H3.n=true:=by rw[g5];exact Nat.beq_refl _
 have:Xz P C (Qa P C (lvI P C)) ops true ⟨k,tm,H⟩=some ⟨k,tm3,{ n:=H3.n,lw:=min H3.lw H4.lw,t:=H3.t.set b (.rw sz cs2) }⟩:=by unfold Xz;rw[hm,hd.1.2];simp only[Bool.and_false,cond_false,Bool.and_self,cond_true];unfold Ga;rw[hd.2,cond_true,hfl,hz,h1,hz1,p1];simp only[p2,hb,p3,g1,g2,g3,e1,e2,e3,Bool.and_self,cond_true]
 rw[this]
theorem Yh{o:Oper}{r:List Oper}{v:Value}(hg:gW tm (Xq ops o)=some true)(hh:Zv o.op=true)(hq:q=false)(he:Yf P C (Zq P C) tm (vis H ((before ops).getD i 0) ms) o.op=some (v,vis H ((before ops).getD i 0) ms))(h:match o.dst with|none=>DW X P C ops k (i+1) q ms r tm H K|some d=>d<k∧DW X P C ops k (i+1) q ms r (tm.set d v) H K)(hf:X.fv i=none:=by first|rfl|kernel_rfl):DG X P C ops k i q ms (o::r) tm H K:=by
 obtain⟨tm1,hput,hl⟩:=Gz (H:=H) (H1:=H) (K1:=fun tm=>DW X P C ops k (i+1) q ms r tm H K) h;obtain⟨tm',H',h1,h2⟩:=DG_of r (i+1) q ms tm1 H hl;refine⟨tm',H',?_,h2⟩;subst hq;have hop:Qp X P C (Zq P C) ops i false ms ⟨k,tm,H⟩ o=some (v,H,false):=by unfold Qp;rw[hh,cond_true,hf];simp only;have he':Yf P C (Zq P C) tm { n:=H.n,lw:=H.n,t:=Ff H.t (hidden ((before ops).getD i 0) ms) } o.op=some (v,{ n:=H.n,lw:=H.n,t:=Ff H.t (hidden ((before ops).getD i 0) ms) }):=he;rw[he'];have:Nat.ble H.n H.n=true:=Nat.ble_eq.mpr (Nat.le_refl _);simp only[this,cond_true,Bool.not_false,Bool.and_self,Nat.sub_self,addT]
 simp only[Ja];rw[Fv,hg];simp only[hop,hput,Qi,cond_false];exact h1
theorem DG_self{o:Oper}{r:List Oper}{v:Value}(hg:gW tm (Xq ops o)=some true)(hh:Zv o.op=true)(hf:X.fv i=some v)(h:match o.dst with|none=>DW X P C ops k (i+1) q ms r tm H K|some d=>d<k∧DW X P C ops k (i+1) q ms r (tm.set d v) H K):DG X P C ops k i q ms (o::r) tm H K:=by
 obtain⟨tm1,hput,hl⟩:=Gz (H:=H) (H1:=H) (K1:=fun tm=>DW X P C ops k (i+1) q ms r tm H K) h;obtain⟨tm',H',h1,h2⟩:=DG_of r (i+1) q ms tm1 H hl;refine⟨tm',H',?_,h2⟩;have hop:Qp X P C (Zq P C) ops i q ms ⟨k,tm,H⟩ o=some (v,H,q):=by unfold Qp;rw[hh,cond_true,hf]
 simp only[Ja];rw[Fv,hg];simp only[hop,hput,Qi,cond_false];exact h1
theorem Yu{o:Oper}{r:List Oper}{v:Value}{H2:AH}(hg:gW tm (Xq ops o)=some true)(hh:Zv o.op=true)(hq:q=false)(he:Yf P C (Zq P C) tm (vis H ((before ops).getD i 0) ms) o.op=some (v,H2))(hn:H.n≤H2.n)(hlw:H.n≤H2.lw)(h:match o.dst with|none=>DW X P C ops k (i+1) q (cond (Nat.blt H.n H2.n) ((i,H.n,H2.n)::ms) ms) r tm (grown H H2) K|some d=>d<k∧DW X P C ops k (i+1) q (cond (Nat.blt H.n H2.n) ((i,H.n,H2.n)::ms) ms) r (tm.set d v) (grown H H2) K)(hf:X.fv i=none:=by first|rfl|kernel_rfl):DG X P C ops k i q ms (o::r) tm H K:=by
 obtain⟨tm1,hput,hl⟩:=Gz (H:=H) (H1:=grown H H2) (K1:=fun tm=>DW X P C ops k (i+1) q (cond (Nat.blt H.n H2.n) ((i,H.n,H2.n)::ms) ms) r tm (grown H H2) K) h;obtain⟨tm',H',h1,h2⟩:=DG_of r (i+1) q _ tm1 _ hl;refine⟨tm',H',?_,h2⟩;subst hq;have hop:Qp X P C (Zq P C) ops i false ms ⟨k,tm,H⟩ o=some (v,grown H H2,false):=by unfold Qp;rw[hh,cond_true,hf];simp only;have he':Yf P C (Zq P C) tm { n:=H.n,lw:=H.n,t:=Ff H.t (hidden ((before ops).getD i 0) ms) } o.op=some (v,H2):=he;rw[he'];have e1:Nat.ble H.n H2.n=true:=Nat.ble_eq.mpr hn;have e2:Nat.ble H.n H2.lw=true:=Nat.ble_eq.mpr hlw;simp only[e1,e2,cond_true,Bool.not_false,Bool.and_self];rfl
 simp only[Ja];rw[Fv,hg];simp only[hop,hput];exact h1
theorem Xd{o:Oper}{r:List Oper}{v:Value}{H2:AH}(hg:gW tm (Xq ops o)=some true)(hh:Zv o.op=true)(ha:X.al i=true)(hhid:hidden ((before ops).getD i 0) ms=[])(he:Yf P C (Zq P C) tm { n:=H.n,lw:=H.n,t:=H.t } o.op=some (v,H2))(hn:H.n≤H2.n)(hlw:H2.lw<H.n)(h:match o.dst with|none=>DW X P C ops k (i+1) true (cond (Nat.blt H.n H2.n) ((i,H.n,H2.n)::ms) ms) r tm { n:=H2.n,lw:=min H.lw H2.lw,t:=H2.t } K|some d=>d<k∧DW X P C ops k (i+1) true (cond (Nat.blt H.n H2.n) ((i,H.n,H2.n)::ms) ms) r (tm.set d v) { n:=H2.n,lw:=min H.lw H2.lw,t:=H2.t } K)(hf:X.fv i=none:=by first|rfl|kernel_rfl):DG X P C ops k i q ms (o::r) tm H K:=by
 obtain⟨tm1,hput,hl⟩:=Gz (H:=H) (H1:= { n:=H2.n,lw:=min H.lw H2.lw,t:=H2.t }) (K1:=fun tm=>DW X P C ops k (i+1) true (cond (Nat.blt H.n H2.n) ((i,H.n,H2.n)::ms) ms) r tm { n:=H2.n,lw:=min H.lw H2.lw,t:=H2.t } K) h;obtain⟨tm',H',h1,h2⟩:=DG_of r (i+1) true _ tm1 _ hl;refine⟨tm',H',?_,h2⟩;have hop:Qp X P C (Zq P C) ops i q ms ⟨k,tm,H⟩ o=some (v,{ n:=H2.n,lw:=min H.lw H2.lw,t:=H2.t },true):=by
  unfold Qp;rw[hh,cond_true,hf];simp only[hhid,Ff];rw[he];have e1:Nat.ble H.n H2.n=true:=Nat.ble_eq.mpr hn;have e2:Nat.ble H.n H2.lw=false:=by cases hb:Nat.ble H.n H2.lw with|false=>rfl|true=>have:=Nat.le_of_ble_eq_true hb;omega
  simp only[e1,e2,cond_true,Bool.and_false,cond_false,ha,List.isEmpty_nil,Bool.and_self]
 simp only[Ja];rw[Fv,hg];simp only[hop,hput];exact h1
theorem Qg{b:Code}(I:Nat→St→Prop)(h: ∀n s,I n s→ ∀Q':Ex→St→Prop,(∀e s',Dz I n Q e s'→Q' e s')→W P C b s Q')(n:Nat)(s:St)(hI:I n s):W P C (.loop b) s Q:=W_loop I (fun n s hI=>h n s hI _ (fun _ _ h=>h)) n s hI
theorem W_then(R:St→Prop){a b:Code}{s:St}(h1:W P C a s fun e s'=>e= .norm∧R s')(h2: ∀s',R s'→W P C b s' Q):W P C (.seq a b) s Q:=by refine Zb fun b' hb=>h1.mono ?_;rintro e s' ⟨rfl,hr⟩;subst hb;exact h2 s' hr
end
end
end Go.Proofs.YtmkfecoeghokfaaGreatDoor.Ev
namespace Go.Proofs.YtmkfecoeghokfaaGreatDoor
open Go Ev
set_option linter.unusedVariables false
set_option linter.unusedSimpArgs false
noncomputable section
set_option maxRecDepth 20000
set_option maxHeartbeats 1000000
abbrev B64:Nat:=18446744073709551616
theorem Zz:2≤B64:=by decide
def Un(a b:Nat):Int:=if a<b then-1 else if b<a then 1 else 0
theorem Zm4{xs ys:List Nat}(hx:Xl xs=xs)(hy:Xl ys=ys)(dx:Dig B64 xs)(dy:Dig B64 ys)(h:xs.length<ys.length):dv B64 xs<dv B64 ys:=by
 have h1:=Ui dx;have e:ys=ds B64 (dv B64 ys):=by rw[←Ji Zz dy,hy]
 have hne:dv B64 ys≠0:=by intro h0;rw[h0,Vd]at e;rw[e]at h;simp at h
 have h2:=ds_ge Zz hne;rw[←e]at h2;have h3:B64^xs.length≤B64^(ys.length-1):=Nat.pow_le_pow_right (by decide) (by omega);omega
section
attribute [local simp] strip Yd LW' gW Yf Xh Ya Xi Yo Xj Zr Zs Zh Yp Yy Yk Yq Zi Xa opd Qe Ym plain Yj Tr.get_set Qc Zp Xy Yc sameKind Zd undef Zt Yr Yv Zk Jg Jf Yb
set_option maxRecDepth 10000 in theorem Gt{va vb:Value}{xs ys:List Nat}{H:AH}(ha:Sl H va xs)(hb:Sl H vb ys)(dx:Dig B64 xs)(dy:Dig B64 ys)(lx:xs.length≤17592186044416)(ly:ys.length≤17592186044416):CW Tryz.prog Zo 162 [va,vb] H fun v H'=>H'=H∧v= .int .i64 (Un (dv B64 xs) (dv B64 ys)):=by
 refine Zl 45 (by decide) (by decide) Tryz.func162 rfl rfl ?_;obtain⟨v1,H1,hc1,e1,s1⟩:=Ug ha (by omega);obtain⟨v2,H2,hc2,e2,s2⟩:=Ug hb (by omega);subst e1;subst e2;rw[←Vv B64 xs,←Vv B64 ys];have tx:=Cd xs;have ty:=Cd ys;have dx:=Jo dx;have dy:=Jo dy;have lx:(Xl xs).length≤17592186044416:=Nat.le_trans (Jp xs) lx;have ly:(Xl ys).length≤17592186044416:=Nat.le_trans (Jp ys) ly;generalize Xl xs=xs at*;generalize Xl ys=ys at*;have l1:=s1.len Zk;have l2:=s2.len Zk;apply Zb;intro b1 hb1;apply Za;simp;subst hb1;apply Zb;intro b1 hb1;apply Za;simp[hc1,hc2];subst hb1;apply Zb;intro b1 hb1;apply Zb;intro b2 hb2;apply Za;simp[l1,l2];subst hb2;by_cases hl:xs.length=ys.length
 ·refine Zc (t:=false) (by simp[hl]) ?_;apply Zj;subst hb1;apply Zb;intro b1 hb1;apply Zb;intro b2 hb2;have hw0:IntKind.i64.wrap ((xs.length:Int)-1)=(xs.length:Int)-1:=by rw[IntKind.wrap_i64];omega
  apply Za;simp[l1,hw0];subst hb2;apply Zx;refine W_loop (fun n s=>s.k=45∧s.H=H2∧s.tm.get 0=some v1∧s.tm.get 1=some v2∧s.tm.get 5=some (.int .i64 ((n:Int)-1))∧n≤xs.length∧xs.drop n=ys.drop n) ?_ xs.length _ ⟨rfl,rfl,by simp,by simp,by simp,Nat.le_refl _,by rw[List.drop_length,hl,List.drop_length]⟩;rintro n ⟨k,tm,H'⟩ ⟨h2,h3,h4,h5,h6,h7,h8⟩;simp only at h2 h3 h4 h5 h6;subst h2;subst h3;apply Zb;intro b2 hb2;apply Zb;intro b3 hb3;apply Za;simp[h4,h5,h6];subst hb3;have e44:xs.drop n=ys.drop n:=h8;by_cases hz:n=0
  ·subst hz;refine Zc (t:=false) (by simp) ?_;apply Qf;left;refine⟨rfl,?_⟩;subst hb1;apply Zb;intro b4 hb4;apply Za;simp;subst hb4;apply Zn;have:xs=ys:=by simpa using h8
   simp[Un,this]
  ·have e:(n:Int)-1=((n-1:Nat):Int):=by omega
   refine Zc (t:=true) (by simp;omega) ?_;apply Zj;subst hb2;have i1:n-1<xs.length:=by omega
   have i2:n-1<ys.length:=by omega
   have a1:=s1.adr Zk (k:= .i64) i1;have a2:=s2.adr Zk (k:= .i64) i2;have d1:=s1.load i1;have d2:=s2.load i2;rw[e]at h6;have sx:xs=xs.take (n-1)++xs[n-1]::xs.drop n:=by have:=List.take_append_drop (n-1) xs;rw[List.drop_eq_getElem_cons i1,show n-1+1=n by omega]at this;exact this.symm
   have sy:ys=ys.take (n-1)++ys[n-1]::ys.drop n:=by have:=List.take_append_drop (n-1) ys;rw[List.drop_eq_getElem_cons i2,show n-1+1=n by omega]at this;exact this.symm
   have ltk:(xs.take (n-1)).length=(ys.take (n-1)).length:=by simp[List.length_take,hl]
   apply Zb;intro b4 hb4;apply Zx;apply Zb;intro b5 hb5;apply Zb;intro b6 hb6;apply Zd8 (by kernel_rfl);simp[h4,h5,h6,a1,a2,d1,d2];subst hb6;by_cases hlt:xs[n-1]<ys[n-1]
   ·refine Zc (t:=true) (by simp;omega) ?_;apply Zb;intro b7 hb7;apply Za;simp;subst hb7;apply Zn;have hd:dv B64 xs<dv B64 ys:=by rw[sx,sy,h8];exact dv_cmp (dx.take _) (dy.take _) ltk hlt _
    simp[Xw,Xk,Dz,Un,hd]
   ·refine Zc (t:=false) (by simp;omega) ?_;apply Zj;subst hb5;apply Zb;intro b6 hb6;apply Zd8 (by kernel_rfl);simp[h4,h5,h6,a1,a2,d1,d2];subst hb6;by_cases hgt:ys[n-1]<xs[n-1]
    ·refine Zc (t:=true) (by simp;omega) ?_;apply Zb;intro b7 hb7;apply Za;simp;subst hb7;apply Zn;have hd:dv B64 ys<dv B64 xs:=by rw[sx,sy,h8];exact dv_cmp (dy.take _) (dx.take _) ltk.symm hgt _
     have hd2: ¬dv B64 xs<dv B64 ys:=by omega
     simp[Xw,Xk,Dz,Un,hd,hd2]
    ·refine Zc (t:=false) (by simp;omega) ?_;apply Zj;subst hb4;have hw1:IntKind.i64.wrap (((n-1:Nat):Int)-1)=((n-1:Nat):Int)-1:=by rw[IntKind.wrap_i64];omega
     apply Za;simp[h6,hw1];refine⟨n-1,by omega,rfl,rfl,?_⟩;simp[h4,h5];refine⟨by omega,?_⟩;rw[List.drop_eq_getElem_cons i1,List.drop_eq_getElem_cons i2,show n-1+1=n by omega,h8];congr 1;omega
 ·refine Zc (t:=true) (by simp;omega) ?_;apply Zb;intro b2 hb2;apply Zb;intro b3 hb3;apply Za;simp[l1,l2];subst hb3;by_cases hlt:xs.length<ys.length;·refine Zc (t:=true) (by simp;omega) ?_;apply Zb;intro b3 hb3;apply Za;simp;subst hb3;apply Zn;have:=Zm4 tx ty dx dy hlt;simp[Xw,Un,this]
  ·refine Zc (t:=false) (by simp;omega) ?_;apply Zj;subst hb2;apply Zb;intro b2 hb2;apply Za;simp;subst hb2;apply Zn;have:=Zm4 ty tx dy dx (by omega);have h2: ¬dv B64 xs<dv B64 ys:=by omega
   simp[Xw,Un,this,h2]
end
def Zf(n:Nat):Nat:=if n=0 then 0 else Nat.log2 n+1
theorem Um(n:Nat):n<2^Zf n:=by
 unfold Zf;split;·omega
 ·exact Nat.lt_log2_self
theorem Ul{n:Nat}(h:n≠0):2^(Zf n-1)≤n:=by unfold Zf;rw[if_neg h];exact Nat.log2_self_le h
theorem blen_uniq{n k:Nat}(h1:n<2^k)(h2:k=0∨2^(k-1)≤n):Zf n=k:=by
 rcases h2 with h2|h2
 ·subst h2;have:n=0:=by simpa using h1
  subst this;rfl
 ·have hn:n≠0:=by have:=Nat.two_pow_pos (k-1);omega
  have a:2^(Zf n-1)<2^k:=Nat.lt_of_le_of_lt (Ul hn) h1;have b:2^(k-1)<2^Zf n:=Nat.lt_of_le_of_lt h2 (Um n);have a':=(Nat.pow_lt_pow_iff_right (by decide)).mp a;have b':=(Nat.pow_lt_pow_iff_right (by decide)).mp b;omega
theorem Bv{n k:Nat}(h:2^k≤n):Zf n=k+Zf (n/2^k):=by
 have hk:=Nat.two_pow_pos k;have hq:n/2^k≠0:=by have:=Nat.div_pos h hk;omega
 apply blen_uniq;·rw[Nat.pow_add,Nat.mul_comm];have:=Um (n/2^k);exact(Nat.div_lt_iff_lt_mul hk).mp this
 ·right;have h1:=Ul hq;have h2:Zf (n/2^k)≠0:=by unfold Zf;rw[if_neg hq];omega
  rw[show k+Zf (n/2^k)-1=(Zf (n/2^k)-1)+k by omega,Nat.pow_add];exact(Nat.le_div_iff_mul_le hk).mp h1
theorem Zc2(x k:Nat):(x:Int).fdiv (2^k)=((x/2^k:Nat):Int):=by rw[Int.fdiv_eq_ediv_of_nonneg _ (Int.le_of_lt (Int.pow_pos (by decide)))];rw[Int.natCast_ediv,Int.natCast_pow];rfl
theorem bits_u64:IntKind.u64.bits=64:=rfl
def tabOk(s:ByteArray):Bool:=(List.range 256).all fun n=>match s[n]? with|some b=>Nat.beq b.toNat (Zf n)|none=>false
theorem tab_spec{s:ByteArray}(h:tabOk s=true){n:Nat}(hn:n<256):indexV Tryz.prog 9 (.string s) (.int .u8 (n:Int))=some (.int .u8 (Zf n:Int)):=by
 unfold tabOk at h;rw[List.all_eq_true]at h;have:=h n (List.mem_range.mpr hn);split at this;·rename_i b hb;have e:=Nat.eq_of_beq_eq_true this;unfold indexV;simp only[Tryz.underlying9];rw[if_pos (by omega)];simp only[Int.toNat_natCast,hb,e]
 ·cases this
section
attribute [local simp] strip Yd LW' gW Yf Xh Ya Xi Yo Xj Zr Zs Zh Yp Yy Yk Yq Zi Xa opd Qe Ym plain Yj Tr.get_set Qc Zp Xy Yc sameKind Zd undef Zt Yr Yv Zk Jg Jf Yb Ql
theorem len64_spec{x:Nat}{H:AH}(hx:x<B64):CW Tryz.prog Zo 163 [.int .u64 (x:Int)] H fun v H'=>H'=H∧v= .int .i64 (Zf x:Int):=by
 have hx:x<18446744073709551616:=hx;refine Zl 25 (by decide) (by decide) Tryz.func163 rfl rfl ?_;apply Zb;intro b1 hb1;apply Za;simp;subst hb1;refine W_then (fun s=>s.k=25∧s.H=H∧ ∃y n:Nat,s.tm.get 0=some (.int .u64 (y:Int))∧s.tm.get 2=some (.int .i64 (n:Int))∧y<4294967296∧n≤32∧Zf x=n+Zf y) ?_ ?_
 ·apply Zb;intro b1 hb1;apply Za;simp;subst hb1;by_cases h:4294967296≤x;·have f1:(x:Int).fdiv 4294967296=((x/4294967296:Nat):Int):=Zc2 x 32;have f2:Zf x=32+Zf (x/4294967296):=Bv (k:=32) h;refine Zc (t:=true) (by simp;omega) ?_;apply Zb;intro b1 hb1;apply Za;simp[bits_u64,f1];subst hb1;apply Za;simp;exact⟨x/4294967296,rfl,32,rfl,by omega,by omega,f2⟩
  ·refine Zc (t:=false) (by simp;omega) ?_;apply Zj;simp;exact⟨x,rfl,0,rfl,by omega,by omega,by omega⟩
 rintro⟨k,tm,H'⟩ ⟨h2,h3,y,n,h4,h5,h6,h7,h8⟩;simp only at h2 h3 h4 h5;subst h2;subst h3;refine W_then (fun s=>s.k=25∧s.H=H'∧ ∃y n:Nat,s.tm.get 0=some (.int .u64 (y:Int))∧s.tm.get 2=some (.int .i64 (n:Int))∧y<65536∧n≤48∧Zf x=n+Zf y) ?_ ?_
 ·apply Zb;intro b1 hb1;apply Za;simp[h4,h5];subst hb1;by_cases h:65536≤y
  ·have f1:(y:Int).fdiv 65536=((y/65536:Nat):Int):=Zc2 y 16;have f2:Zf y=16+Zf (y/65536):=Bv (k:=16) h;have hw:IntKind.i64.wrap ((n:Int)+16)=((n+16:Nat):Int):=by rw[IntKind.wrap_i64];omega
   refine Zc (t:=true) (by simp;omega) ?_;apply Zb;intro b1 hb1;apply Za;simp[h4,h5,bits_u64,f1];subst hb1;apply Za;simp[h4,h5,hw];exact⟨y/65536,rfl,n+16,rfl,by omega,by omega,by omega⟩
  ·refine Zc (t:=false) (by simp;omega) ?_;apply Zj;simp[h4,h5];exact⟨y,rfl,n,rfl,by omega,by omega,h8⟩
 rintro⟨k,tm,H'⟩ ⟨h2,h3,y,n,h4,h5,h6,h7,h8⟩;simp only at h2 h3 h4 h5;subst h2;subst h3;refine W_then (fun s=>s.k=25∧s.H=H'∧ ∃y n:Nat,s.tm.get 0=some (.int .u64 (y:Int))∧s.tm.get 2=some (.int .i64 (n:Int))∧y<256∧n≤56∧Zf x=n+Zf y) ?_ ?_
 ·apply Zb;intro b1 hb1;apply Za;simp[h4,h5];subst hb1;by_cases h:256≤y
  ·have f1:(y:Int).fdiv 256=((y/256:Nat):Int):=Zc2 y 8;have f2:Zf y=8+Zf (y/256):=Bv (k:=8) h;have hw:IntKind.i64.wrap ((n:Int)+8)=((n+8:Nat):Int):=by rw[IntKind.wrap_i64];omega
   refine Zc (t:=true) (by simp;omega) ?_;apply Zb;intro b1 hb1;apply Za;simp[h4,h5,bits_u64,f1];subst hb1;apply Za;simp[h4,h5,hw];exact⟨y/256,rfl,n+8,rfl,by omega,by omega,by omega⟩
  ·refine Zc (t:=false) (by simp;omega) ?_;apply Zj;simp[h4,h5];exact⟨y,rfl,n,rfl,by omega,by omega,h8⟩
 rintro⟨k,tm,H'⟩ ⟨h2,h3,y,n,h4,h5,h6,h7,h8⟩;simp only at h2 h3 h4 h5;subst h2;subst h3;apply Zb;intro b1 hb1;apply Za;have hb8:Zf y≤8:=by
  rcases Nat.lt_or_ge 8 (Zf y)with h|h
  ·have h0:y≠0:=by rintro rfl;simp[Zf]at h
   have a:=Ul h0;have b:2^8≤2^(Zf y-1):=Nat.pow_le_pow_right (by decide) (by omega);omega
  ·exact h
 generalize hs:ByteArray.mk _=s;have ht:tabOk s=true:=by rw[←hs];kernel_rfl
 have e1:=tab_spec ht h6;have e2:IntKind.u8.wrap (y:Int)=(y:Int):=by rw[IntKind.wrap_u8];omega
 have e3:IntKind.i64.wrap (Zf y:Int)=(Zf y:Int):=Zm1 (by omega);have e4:IntKind.i64.wrap ((n:Int)+(Zf y:Int))=(Zf x:Int):=by rw[IntKind.wrap_i64,h8];omega
 simp[h4,h5,Dq,Tryz.underlying101,Tryz.underlying5,Tryz.underlying3,e1,e2,e3,e4];subst hb1;apply Zn;simp
end
theorem Bu(x y c:Nat)(H:AH)(hc:c≤1):Zq Tryz.prog Zo 203 [.int .u64 (x:Int),.int .u64 (y:Int),.int .u64 (c:Int)] H=some (.tuple #[.int .u64 (((x+y+c)%B64:Nat):Int),.int .u64 (((x+y+c)/B64:Nat):Int)],H):=by
 rw[Va];unfold Qa Js;rw[show Nat.beq 203 Zo.add=true from rfl,cond_true];have:Zc7 [.int .u64 (x:Int),.int .u64 (y:Int),.int .u64 (c:Int)]=some (x,y,c):=by simp[Zc7];omega
 rw[this];rfl
theorem Az(x y c:Nat)(H:AH)(hc:c≤1):Zq Tryz.prog Zo 206 [.int .u64 (x:Int),.int .u64 (y:Int),.int .u64 (c:Int)] H=some (.tuple #[.int .u64 (((x+B64-y-c)%B64:Nat):Int),.int .u64 ((if x<y+c then 1 else 0:Nat):Int)],H):=by
 rw[Va];unfold Qa Js;rw[show Nat.beq 206 Zo.add=false from rfl,cond_false,show Nat.beq 206 Zo.sub=true from rfl,cond_true];have:Zc7 [.int .u64 (x:Int),.int .u64 (y:Int),.int .u64 (c:Int)]=some (x,y,c):=by simp[Zc7];omega
 rw[this];by_cases h:x<y+c
 ·have:Nat.blt x (y+c)=true:=by rw[Nat.blt_eq];exact h
  simp only[this,cond_true,if_pos h];rfl
 ·have:Nat.blt x (y+c)=false:=by cases hb:Nat.blt x (y+c)with|false=>rfl|true=>rw[Nat.blt_eq]at hb;exact absurd hb h
  simp only[this,cond_false,if_neg h];rfl
section
attribute [local simp] strip Yd LW' gW Yf Xh Ya Xi Yo Xj Zr Zs Zh Yp Yy Yk Yq Zi Xa Ze opd Qe Ym plain Yj Tr.get_set Qc Zp Xy Yc sameKind Zd undef Zt Yr Yv Zk Jg Jf Yb Ql parts
theorem lz_spec{x:Nat}{H:AH}(hx:x<B64):CW Tryz.prog Zo 216 [.int .u64 (x:Int)] H fun v H'=>H'=H∧v= .int .i64 (64-(Zf x:Int)):=by
 refine Zl 6 (by decide) (by decide) Tryz.func216 rfl rfl ?_;obtain⟨v1,H1,hc1,rfl,rfl⟩:=len64_spec (H:=H) hx;have hb:Zf x≤64:=by
  rcases Nat.lt_or_ge 64 (Zf x)with h|h
  ·have h0:x≠0:=by rintro rfl;simp[Zf]at h
   have a:=Ul h0;have b:2^64≤2^(Zf x-1):=Nat.pow_le_pow_right (by decide) (by omega);have hx:x<18446744073709551616:=hx;omega
  ·exact h
 have hw:IntKind.i64.wrap (64-(Zf x:Int))=64-(Zf x:Int):=by rw[IntKind.wrap_i64];omega
 apply Zb;intro b1 hb1;apply Za;simp;subst hb1;apply Zb;intro b1 hb1;apply Za;simp[hc1,hw];subst hb1;apply Zn;simp
theorem blen_dv{xs:List Nat}(dx:Dig B64 xs)(tx:Xl xs=xs)(h:0<xs.length):Zf (dv B64 xs)=64*(xs.length-1)+Zf (xs[xs.length-1]):=by
 have hs:xs=xs.take (xs.length-1)++[xs[xs.length-1]]:=by have:=List.take_append_getElem (l:=xs) (i:=xs.length-1) (by omega);rw[this,show xs.length-1+1=xs.length by omega,List.take_length]
 have hl:(xs.take (xs.length-1)).length=xs.length-1:=by rw[List.length_take];omega
 generalize hz:xs[xs.length-1]=z at*;have hz0:z≠0:=by intro h0;rw[h0]at hs;have:=congrArg Xl hs;rw[Kn,tx]at this;have:=congrArg List.length this;have:=Jp (xs.take (xs.length-1));omega
 have e:dv B64 xs=dv B64 (xs.take (xs.length-1))+2^(64*(xs.length-1))*z:=by have:=congrArg (dv B64) hs;rw[this,Xc,hl];simp only[dv,Nat.mul_zero,Nat.add_zero];rw[Nat.pow_mul]
 have hlow:dv B64 (xs.take (xs.length-1))<2^(64*(xs.length-1)):=by have:=Ui (dx.take (xs.length-1));rw[hl]at this;rw[Nat.pow_mul];exact this
 have hge:2^(64*(xs.length-1))≤dv B64 xs:=by rw[e];have:2^(64*(xs.length-1))*1≤2^(64*(xs.length-1))*z:=Nat.mul_le_mul_left _ (by omega);omega
 rw[Bv hge];congr 2;rw[e,Nat.add_mul_div_left _ _ (Nat.two_pow_pos _),Nat.div_eq_of_lt hlow,Nat.zero_add]
theorem Uk{v:Value}{xs:List Nat}{H:AH}(hs:Sl H v xs)(dx:Dig B64 xs)(hlen:xs.length≤17592186044416):CW Tryz.prog Zo 123 [v] H fun v' H'=>H'=H∧v'= .int .i64 (Zf (dv B64 xs):Int):=by
 refine Zl 20 (by decide) (by decide) Tryz.func123 rfl rfl ?_;obtain⟨v1,H1,hc1,e1,s1⟩:=Ug hs (by omega);subst e1;rw[←Vv B64 xs];have tx:=Cd xs;have dx:=Jo dx;have lx:(Xl xs).length≤17592186044416:=Nat.le_trans (Jp xs) hlen;generalize Xl xs=xs at*;have l1:=s1.len Zk;apply Zb;intro b1 hb1;apply Za;simp;subst hb1;apply Zb;intro b1 hb1;apply Za;simp[hc1];subst hb1;apply Zb;intro b1 hb1;apply Zb;intro b2 hb2;apply Za;simp[l1];subst hb2;by_cases h0:xs.length=0;·obtain rfl:xs=[]:=List.length_eq_zero_iff.mp h0;refine Zc (t:=true) (by simp) ?_;apply Zb;intro b2 hb2;apply Za;simp;subst hb2;apply Zn;simp[Xw,dv,Zf]
 ·refine Zc (t:=false) (by simp;intro h;apply h0;simp[h]) ?_;apply Zj;subst hb1;have i1:xs.length-1<xs.length:=by omega
  have a1:=s1.adr Zk (k:= .i64) i1;have d1:=s1.load i1;have hw:IntKind.i64.wrap ((xs.length:Int)-1)=((xs.length-1:Nat):Int):=Zn5 (by omega) (by omega);have hx:xs[xs.length-1]<B64:=dx.get (List.getElem?_eq_getElem i1);obtain⟨v3,H3,hc3,e3,e4⟩:=len64_spec (H:=H1) hx;subst e3;subst e4;have hb:=blen_dv dx tx (by omega);have hb64:Zf (xs[xs.length-1])≤64:=by
   rcases Nat.lt_or_ge 64 (Zf (xs[xs.length-1]))with h|h
   ·have h0:xs[xs.length-1]≠0:=by intro e;rw[e]at h;simp[Zf]at h
    have a:=Ul h0;have b:2^64≤2^(Zf (xs[xs.length-1])-1):=Nat.pow_le_pow_right (by decide) (by omega);have hx:xs[xs.length-1]<18446744073709551616:=hx;omega
   ·exact h
  have hw2:IntKind.i64.wrap (64*((xs.length-1:Nat):Int))=64*((xs.length-1:Nat):Int):=by rw[IntKind.wrap_i64];omega
  have hw3:IntKind.i64.wrap (64*((xs.length-1:Nat):Int)+(Zf (xs[xs.length-1]):Int))=(Zf (dv B64 xs):Int):=by rw[IntKind.wrap_i64,hb];omega
  apply Zb;intro b2 hb2;apply Za;simp[l1,hw,hw2,a1,d1,hc3,hw3];subst hb2;apply Zn;simp
theorem Fq{x:Nat}{H:AH}(hx:x<B64):CW Tryz.prog Zo 164 [.int .u64 (x:Int)] H fun v H'=>Keep H H'∧Own H.n H' v (ds B64 x):=by
 refine Zl 7 (by decide) (by decide) Tryz.func164 rfl rfl ?_;apply Zb;intro b1 hb1;apply Za;simp;subst hb1;apply Zb;intro b1 hb1;apply Zb;intro b2 hb2;apply Za;simp;subst hb2;by_cases h0:x=0;·subst h0;refine Zc (t:=true) (by simp) ?_;apply Zb;intro b2 hb2;apply Za;simp;subst hb2;apply Zn;simp[Xw,Vd];exact⟨.refl H,.nil⟩
 ·refine Zc (t:=false) (by simp;omega) ?_;apply Zj;subst hb1;have e:ds B64 x=[x]:=by rw[Ej Zz h0,Nat.mod_eq_of_lt hx,Nat.div_eq_of_lt hx,Vd]
  have hbs:Xx Tryz.prog H 30 1 [(0,.int .u64 (x:Int))]=some (.slice (some ⟨H.n,0,none⟩) 1 1,H.new 1 ([x].map Gv)):=by unfold Xx;simp only[tNat,zU64];kernel_rfl
  apply Zb;intro b2 hb2;apply Za;simp[hbs];subst hb2;apply Zn;simp;rw[e];exact⟨.new _ _ _,Own.new H [x]⟩
end
theorem zeros_limb(n:Nat):zeros (Value.int .u64 0).cells n=(List.replicate n 0).map Gv:=by
 unfold zeros;apply List.ext_getElem?;intro i;rw[List.getElem?_map,List.getElem?_map,List.getElem?_replicate];by_cases h:i<n;·rw[if_pos h,List.getElem?_range h];simp[Gv,Value.cells,Nat.mod_one]
 ·rw[if_neg h,List.getElem?_eq_none (by simp;omega)];rfl
theorem Qj{H:AH}{t:TypeId}(ht:LT t){n:Nat}(hn:n≤17592186044416): ∃v H',Gf Tryz.prog H t (.int .i64 (n:Int)) (.int .i64 (n:Int))=some (v,H')∧Keep H H'∧Own H.n H' v (List.replicate n 0)∧H'.n=H.n+1:=by
 refine⟨.slice (some ⟨H.n,0,none⟩) n n,H.new 1 ((List.replicate n 0).map Gv),?_,.new _ _ _,?_,rfl⟩;·unfold Gf;simp only[ht.2,zU64];rw[if_pos (by omega)];simp only[Int.toNat_natCast,Nat.mul_one,zeros_limb]
 ·have:=Own.new H (List.replicate n 0);rwa[List.length_replicate]at this
theorem Own.store{n:Nat}{H:AH}{v:Value}{xs:List Nat}(h:Own n H v xs){i:Nat}(hi:i<xs.length)(y:Nat): ∃H',Xp Tryz.prog H 101 (adr v i) (.int .u64 (y:Int))=some H'∧Own n H' v (xs.set i y)∧H'.n=H.n∧ ∀H0,Keep H0 H→H0.n≤n→Keep H0 H':=by cases h with
 |nil=>cases hi
 |mk b o cap xs cs h1 h2 h3 h4 h5 h6=>
  have hlen:Nat.ble (o+i+1) cs.length=true:=Nat.ble_eq.mpr (by omega);have e0:(Value.int .u64 (y:Int)).cells=#[.int .u64 (y:Int)]:=rfl;have hw:H.write b (o+i) [.int .u64 (y:Int)]=some { n:=H.n,lw:=min H.lw b,t:=H.t.set b (.rw 1 (cs.take (o+i)++[.int .u64 (y:Int)]++cs.drop (o+i+1))) } :=by rw[AH.write_def,h4];simp only[List.length_singleton,hlen,Bool.true_and];rfl
  refine⟨{ n:=H.n,lw:=min H.lw b,t:=H.t.set b (.rw 1 (cs.take (o+i)++[.int .u64 (y:Int)]++cs.drop (o+i+1))) },?_,?_,rfl,?_⟩;·unfold Xp Go.Proofs.YtmkfecoeghokfaaGreatDoor.adr;simp only[sU64,e0];rw[show Nat.beq (#[Value.int .u64 (y:Int)]:Array Value).size 1=true from rfl,cond_true];exact hw
  ·have hl:(xs.set i y).length=xs.length:=List.length_set;rw[←hl];refine .mk b o cap _ (cs.take (o+i)++[.int .u64 (y:Int)]++cs.drop (o+i+1)) (by omega) h2 h3 ?_ ?_ ?_;·unfold AH.blk;simp only[Tr.get_set,if_true]
   ·simp only[List.length_append,List.length_take,List.length_drop,List.length_singleton];omega
   ·intro j x hj;rw[List.getElem?_set]at hj;by_cases e:i=j;·subst e;rw[if_pos rfl,if_pos hi]at hj;cases hj;rw[List.append_assoc,List.getElem?_append_right (by rw[List.length_take];omega)];rw[List.length_take,show o+i-min (o+i) cs.length=0 by omega];rfl
    ·rw[if_neg e]at hj;have:=h6 j x hj;rcases Nat.lt_or_ge (o+j) (o+i)with hlt|hge;·rw[List.append_assoc,List.getElem?_append_left (by rw[List.length_take];omega),List.getElem?_take,if_pos hlt];exact this
     ·rw[List.getElem?_append_right (by simp only[List.length_append,List.length_take,List.length_singleton];omega),List.getElem?_drop];simp only[List.length_append,List.length_take,List.length_singleton];rw[show o+i+1+(o+j-(min (o+i) cs.length+1))=o+j by omega];exact this
  ·intro H0 k hn;refine⟨k.n,?_,fun j hj=>?_⟩;·have:=k.lw;show min H0.lw H0.n≤min H.lw b;omega
   ·have:j≠b:=by omega
    rw[←k.blk j hj];unfold AH.blk;simp only[Tr.get_set,if_neg this]
theorem bv_nat{x:Nat}(h:x<B64):(BitVec.ofInt 64 (x:Int)).toNat=x:=by have h:x<18446744073709551616:=h;simp[BitVec.toNat_ofInt];omega
theorem or_u64{x y:Nat}(hx:x<B64)(hy:y<B64):Zd .or .u64 (x:Int) (y:Int)=some (.int .u64 ((x|||y:Nat):Int)):=by
 have h:x|||y<2^64:=Nat.or_lt_two_pow hx hy;have e:(BitVec.ofInt 64 (x:Int)|||BitVec.ofInt 64 (y:Int)).toNat=x|||y:=by rw[BitVec.toNat_or,bv_nat hx,bv_nat hy]
 show some (Value.int .u64 (IntKind.u64.wrap ((BitVec.ofInt 64 (x:Int)|||BitVec.ofInt 64 (y:Int)).toNat:Nat)))=_;rw[e,IntKind.wrap_u64];have h:x|||y<18446744073709551616:=h;rw[Int.emod_eq_of_lt (by omega) (by omega)]
theorem and_u64{x y:Nat}(hx:x<B64)(hy:y<B64):Zd .and .u64 (x:Int) (y:Int)=some (.int .u64 ((x&&&y:Nat):Int)):=by
 have h:x&&&y<2^64:=Nat.and_lt_two_pow _ hy;have e:(BitVec.ofInt 64 (x:Int)&&&BitVec.ofInt 64 (y:Int)).toNat=x&&&y:=by rw[BitVec.toNat_and,bv_nat hx,bv_nat hy]
 show some (Value.int .u64 (IntKind.u64.wrap ((BitVec.ofInt 64 (x:Int)&&&BitVec.ofInt 64 (y:Int)).toNat:Nat)))=_;rw[e,IntKind.wrap_u64];have h:x&&&y<18446744073709551616:=h;rw[Int.emod_eq_of_lt (by omega) (by omega)]
theorem Aw{x s:Nat}(hs:s≤64):Ql .shl .u64 (x:Int) (s:Int)=some (.int .u64 ((x*2^s%B64:Nat):Int)):=by unfold Ql;rw[if_neg (by omega)];simp only[show IntKind.u64.bits=64 from rfl,Int.toNat_natCast,Nat.min_eq_left hs,IntKind.wrap_u64];congr 2
theorem Cr{x s:Nat}(hs:s≤64):Ql .shr .u64 (x:Int) (s:Int)=some (.int .u64 ((x/2^s:Nat):Int)):=by unfold Ql;rw[if_neg (by omega)];simp only[show IntKind.u64.bits=64 from rfl,Int.toNat_natCast,Nat.min_eq_left hs];rw[Zc2]
theorem Fw{x y:Nat} :Zd .add .u64 (x:Int) (y:Int)=some (.int .u64 (((x+y)%B64:Nat):Int)):=by unfold Zd;simp only[IntKind.wrap_u64];congr 2
theorem Cn{x y:Nat} :Zd .mul .u64 (x:Int) (y:Int)=some (.int .u64 ((x*y%B64:Nat):Int)):=by unfold Zd;simp only[IntKind.wrap_u64];congr 2
theorem Gr{x y:Nat}(h:x+y<9223372036854775808):Zd .add .i64 (x:Int) (y:Int)=some (.int .i64 ((x+y:Nat):Int)):=by
 show some (Value.int .i64 (IntKind.i64.wrap ((x:Int)+(y:Int))))=_;have e:IntKind.i64.wrap ((x:Int)+(y:Int))=((x+y:Nat):Int):=by rw[IntKind.wrap_i64];omega
 rw[e]
theorem Qd{x:Nat}(h:x<9223372036854775800):Zd .add .i64 (x:Int) 1=some (.int .i64 ((x+1:Nat):Int)):=by have:=Gr (x:=x) (y:=1) (by omega);simpa using this
theorem sub_i64{x y:Nat}(h:x<9223372036854775808)(hy:y≤x):Zd .sub .i64 (x:Int) (y:Int)=some (.int .i64 ((x-y:Nat):Int)):=by
 show some (Value.int .i64 (IntKind.i64.wrap ((x:Int)-(y:Int))))=_;have e:IntKind.i64.wrap ((x:Int)-(y:Int))=((x-y:Nat):Int):=by rw[IntKind.wrap_i64];omega
 rw[e]
theorem Fb{x:Nat}(h:x<9223372036854775808)(hx:0<x):Zd .sub .i64 (x:Int) 1=some (.int .i64 ((x-1:Nat):Int)):=by have:=sub_i64 (x:=x) (y:=1) h hx;simpa using this
theorem Zf3{x y:Nat}(hx:x<B64)(hy:y≤x):Zd .sub .u64 (x:Int) (y:Int)=some (.int .u64 ((x-y:Nat):Int)):=by
 have hx:x<18446744073709551616:=hx;show some (Value.int .u64 (IntKind.u64.wrap ((x:Int)-(y:Int))))=_;have e:IntKind.u64.wrap ((x:Int)-(y:Int))=((x-y:Nat):Int):=by rw[IntKind.wrap_u64];omega
 rw[e]
theorem Jc{k:IntKind}{x y:Nat} :Zd .lss k (x:Int) (y:Int)=some (.bool (decide (x<y))):=by show some (Value.bool (decide ((x:Int)<(y:Int))))=_;congr 2;simp
theorem Zk2{k:IntKind}{x y:Nat} :Zd .leq k (x:Int) (y:Int)=some (.bool (decide (x≤y))):=by show some (Value.bool (decide ((x:Int)≤(y:Int))))=_;congr 2;simp
theorem Kc{k:IntKind}{x y:Nat} :Zd .gtr k (x:Int) (y:Int)=some (.bool (decide (y<x))):=by show some (Value.bool (decide ((x:Int)>(y:Int))))=_;congr 2;simp
theorem geq_nat{k:IntKind}{x y:Nat} :Zd .geq k (x:Int) (y:Int)=some (.bool (decide (y≤x))):=by show some (Value.bool (decide ((x:Int)≥(y:Int))))=_;congr 2;simp
theorem Ze2{k:IntKind}{x y:Nat} :Zd .eql k (x:Int) (y:Int)=some (.bool (decide (x=y))):=by
 show some (Value.bool ((x:Int)==(y:Int)))=_;congr 2;by_cases h:x=y;·simp[h]
 ·have: ¬ (x:Int)=(y:Int):=by omega
  simp[h,this]
theorem neq_nat{k:IntKind}{x y:Nat} :Zd .neq k (x:Int) (y:Int)=some (.bool (decide (x≠y))):=by
 show some (Value.bool ((x:Int) !=(y:Int)))=_;congr 2;by_cases h:x=y;·simp[h]
 ·have: ¬ (x:Int)=(y:Int):=by omega
  simp[h,this]
theorem or_add{s a b:Nat}(hb:b<2^s):(a*2^s)|||b=a*2^s+b:=by rw[Nat.mul_comm,Nat.two_pow_add_eq_or_of_lt hb]
theorem Ks(L:List Nat)(c y:Nat)(R:List Nat){i:Nat}(h:L.length=i):(L++c::R).set i y=L++y::R:=by subst h;rw[List.set_append_right _ _ (Nat.le_refl _),Nat.sub_self];rfl
theorem get_mid(L:List Nat)(c:Nat)(R:List Nat){i:Nat}(h:L.length=i)(hi:i<(L++c::R).length):(L++c::R)[i]=c:=by subst h;simp
theorem Qx{xs:List Nat}{i:Nat}(h:i<xs.length):xs.take (i+1)=xs.take i++[xs[i]]:=(List.take_append_getElem (l:=xs) (i:=i) h).symm
theorem limb_shift{x s:Nat}(hs:s<64):x*2^s=x*2^s%B64+B64*(x/2^(64-s)):=by
 have e:B64=2^(64-s)*2^s:=by rw[←Nat.pow_add,show 64-s+s=64 by omega]
 have h1:x*2^s/B64=x/2^(64-s):=by rw[e,Nat.mul_div_mul_right _ _ (Nat.two_pow_pos s)]
 have:=Nat.mod_add_div (x*2^s) B64;rw[h1]at this;exact this.symm
theorem limb_low{x s:Nat}(hs:s<64): ∃a,x*2^s%B64=a*2^s∧a<2^(64-s):=by
 have e:B64=2^(64-s)*2^s:=by rw[←Nat.pow_add,show 64-s+s=64 by omega]
 refine⟨x%2^(64-s),?_,Nat.mod_lt _ (Nat.two_pow_pos _)⟩;rw[e,Nat.mul_mod_mul_right]
theorem limb_fit{x c s:Nat}(hs:s<64)(hc:c<2^s):x*2^s%B64+c<B64:=by
 obtain⟨a,e1,h⟩:=limb_low (x:=x) hs;have e:B64=2^(64-s)*2^s:=by rw[←Nat.pow_add,show 64-s+s=64 by omega]
 rw[e1,e];have:(a+1)*2^s≤2^(64-s)*2^s:=Nat.mul_le_mul_right _ h;rw[Nat.succ_mul]at this;omega
section
attribute [-simp] Int.natCast_add Int.natCast_mul Int.natCast_ediv Int.natCast_emod Int.natCast_pow
attribute [local simp] strip Yd LW' gW Yf Xh Ya Xi Yo Xj Zr Zs Zh Yp Yy Yk Yq Zi Xa Ze opd Qe Ym plain Yj Tr.get_set Qc Zp Xy Yc sameKind undef Zt Yr Yv Zk Jg Jf Yb parts Jc
theorem up_spec{v:Value}{xs:List Nat}{H:AH}(hs:Sl H v xs)(dx:Dig B64 xs)(hlen:xs.length≤17592186044000){s:Nat}(h64:s<64):CW Tryz.prog Zo 217 [v,.int .u64 (s:Int)] H fun v' H'=>Keep H H'∧ ∃ys,Own H.n H' v' ys∧Dig B64 ys∧ys.length=xs.length+1∧dv B64 ys=dv B64 xs*2^s:=by
 refine Zl 39 (by decide) (by decide) Tryz.func217 rfl rfl ?_;obtain⟨c0,H1,hmk,k1,o1,n1⟩:=Qj (H:=H) Zk (n:=xs.length+1) (by omega);have l0:=hs.len Zk;apply Zb;intro b1 hb1;apply Za;simp;subst hb1;apply Zb;intro b1 hb1;apply Za;simp[l0,Qd (x:=xs.length) (by omega),hmk];subst hb1;apply Zb;intro b1 hb1;apply Zb;intro b2 hb2;apply Za;simp[l0];subst hb2;apply Zx;refine Qg (fun m s'=>s'.k=39∧ ∃(i c:Nat) (L:List Nat),m+i=xs.length∧L.length=i∧c<2^s∧Dig B64 L∧dv B64 L+B64^i*c=dv B64 (xs.take i)*2^s∧Keep H s'.H∧Own H.n s'.H c0 (L++c::List.replicate m 0)∧s'.tm.get 1=some (.int .u64 (s:Int))∧s'.tm.get 5=some c0∧s'.tm.get 12=some v∧s'.tm.get 13=some (.int .i64 (xs.length:Int))∧s'.tm.get 14=some (.int .i64 (i:Int))) ?_ xs.length _ ⟨rfl,0,0,[],by omega,rfl,Nat.two_pow_pos s,.nil _,by simp[dv],k1,o1,by simp,by simp,by simp,by simp,by simp⟩;rintro m ⟨k,tm,H2⟩ ⟨hk,i,c,L,hmi,hL,hc,dL,hv,kH,own,t1,t5,t12,t13,t14⟩ Q' hQ';simp only at hk t1 t5 t12 t13 t14 kH own;subst hk;apply Zb;intro b3 hb3;apply Za;simp[t13,t14];subst hb3;apply Zb;intro b3 hb3;by_cases hi:i<xs.length
 ·refine Zc (t:=true) (by simp[hi]) ?_;apply Zj;subst hb3;have s2:=hs.keep kH;have a1:=s2.adr Zk (k:= .i64) hi;have d1:=s2.load hi;have hx:xs[i]<B64:=dx.get (List.getElem?_eq_getElem hi);obtain⟨m',rfl⟩: ∃m',m=m'+1:=⟨m-1,by omega⟩;have hlen2:(L++c::List.replicate (m'+1) 0).length=xs.length+1:=by simp;omega
  have own1:=own.sl;have a2:=own1.adr Zk (k:= .i64) (i:=i) (by omega);have d2:=own1.load (i:=i) (by omega);rw[get_mid L c _ hL]at d2;have hcB:c<B64:=Nat.lt_of_lt_of_le hc (by show 2^s≤2^64;exact Nat.pow_le_pow_right (by decide) (by omega));have hm:xs[i]*2^s%B64<B64:=Nat.mod_lt _ (by decide);have hor:c|||xs[i]*2^s%B64=xs[i]*2^s%B64+c:=by obtain⟨a,e1,_⟩:=limb_low (x:=xs[i]) h64;rw[Nat.or_comm,e1,or_add hc]
  obtain⟨H3,st1,own3,n3,kp3⟩:=own.store (i:=i) (by omega) (xs[i]*2^s%B64+c);rw[Ks L c _ _ hL]at own3;have a3:=own3.sl.adr Zk (k:= .i64) (i:=i+1) (by simp;omega);obtain⟨H4,st2,own4,n4,kp4⟩:=own3.store (i:=i+1) (by simp;omega) (xs[i]/2^(64-s));have hset:(L++(xs[i]*2^s%B64+c)::List.replicate (m'+1) 0).set (i+1) (xs[i]/2^(64-s))=(L++[xs[i]*2^s%B64+c])++(xs[i]/2^(64-s))::List.replicate m' 0:=by rw[show L++(xs[i]*2^s%B64+c)::List.replicate (m'+1) 0=(L++[xs[i]*2^s%B64+c])++0::List.replicate m' 0 by simp[List.replicate_succ]];exact Ks _ _ _ _ (by simp[hL])
  rw[hset]at own4;have sh2:Ql .shr .u64 ((xs[i]/2:Nat):Int) ((63-s:Nat):Int)=some (.int .u64 ((xs[i]/2^(64-s):Nat):Int)):=by rw[Cr (by omega),Nat.div_div_eq_div_mul];rw[show 2*2^(63-s)=2^(64-s) by rw[←Nat.pow_succ',show(63-s).succ=64-s by omega]]
  have sh1:Ql .shr .u64 (xs[i]:Int) 1=some (.int .u64 ((xs[i]/2:Nat):Int)):=Cr (s:=1) (by omega);have sb:Zd .sub .u64 63 (s:Int)=some (.int .u64 ((63-s:Nat):Int)):=Zf3 (x:=63) (by decide) (by omega);apply Zb;intro b3 hb3;apply Zx;apply Zb;intro b4 hb4;apply Za;simp[t12,t14,a1,d1];subst hb4;apply Zb;intro b4 hb4;apply Za;simp[t1,t5,a2,d2,Aw (x:=xs[i]) (s:=s) (by omega),or_u64 hcB hm,hor,st1];subst hb4;apply Za;simp[t1,t5,Qd (x:=i) (by omega),sh1,sb,sh2,a3,st2];subst hb3;apply Za;simp[t14,Qd (x:=i) (by omega)];apply hQ';refine⟨m',by omega,rfl,i+1,xs[i]/2^(64-s),L++[xs[i]*2^s%B64+c],by omega,by simp[hL],?_,?_,?_,kp4 H (kp3 H kH (Nat.le_refl _)) (Nat.le_refl _),?_,?_⟩;·rw[Nat.div_lt_iff_lt_mul (Nat.two_pow_pos _),←Nat.pow_add,show s+(64-s)=64 by omega];exact hx
  ·exact dL.append (.cons (limb_fit h64 hc) (.nil _))
  ·rw[Xc,hL,Qx hi,Xc,List.length_take,Nat.min_eq_left (by omega)];simp only[dv,Nat.mul_zero,Nat.add_zero];have e1:=limb_shift (x:=xs[i]) h64;generalize hq:xs[i]*2^s%B64=q at e1⊢;generalize xs[i]/2^(64-s)=r at e1⊢;rw[Nat.add_mul,←hv,Nat.mul_assoc (B64^i) xs[i],e1,Nat.pow_succ,Nat.mul_assoc (B64^i) B64 r,Nat.mul_add,Nat.mul_add];omega
  ·simpa using own4
  ·exact⟨by simp[t1],by simp[t5],by simp[t12],by simp[t13],by simp⟩
 ·refine Zc (t:=false) (by simp[hi]) ?_;apply Qf;apply hQ';left;refine⟨rfl,?_⟩;have hi':i=xs.length:=by omega
  obtain rfl:m=0:=by omega
  subst hb1;apply Zb;intro b4 hb4;apply Za;simp[t5];subst hb4;apply Zn;simp;refine⟨kH,L++[c],by simpa using own,?_,by simp[hL,hi'],?_⟩;·have hcB:c<B64:=Nat.lt_of_lt_of_le hc (by show 2^s≤2^64;exact Nat.pow_le_pow_right (by decide) (by omega));exact dL.append (.cons hcB (.nil _))
  ·rw[Xc,hL];simp only[dv,Nat.mul_zero,Nat.add_zero];rw[hv,hi',List.take_length]
end
theorem and32{x:Nat}(hx:x<B64):Zd .and .u64 (x:Int) 4294967295=some (.int .u64 ((x%4294967296:Nat):Int)):=by have:=and_u64 (x:=x) (y:=4294967295) hx (by decide);rw[show x&&&4294967295=x%4294967296 from Nat.and_two_pow_sub_one_eq_mod x 32]at this;exact this
theorem shr32{x:Nat} :Ql .shr .u64 (x:Int) 32=some (.int .u64 ((x/4294967296:Nat):Int)):=Cr (x:=x) (s:=32) (by omega)
theorem mul64_arith {x y : Nat} (hx : x < B64) (hy : y < B64) :
    let x0 := x % 4294967296; let x1 := x / 4294967296; let y0 := y % 4294967296; let y1 := y / 4294967296
    let w0 := x0 * y0 % B64
    let t := (x1 * y0 % B64 + w0 / 4294967296) % B64
    let w1 := (t % 4294967296 + x0 * y1 % B64) % B64
    ((x1 * y1 % B64 + t / 4294967296) % B64 + w1 / 4294967296) % B64 = x * y / B64 := by
  intro x0 x1 y0 y1 w0 t w1
  have hx : x < 18446744073709551616 := hx
  have hy : y < 18446744073709551616 := hy
  have a0 : x0 ≤ 4294967295 := by show x % 4294967296 ≤ _; omega
  have a1 : x1 ≤ 4294967295 := by show x / 4294967296 ≤ _; omega
  have b0 : y0 ≤ 4294967295 := by show y % 4294967296 ≤ _; omega
  have b1 : y1 ≤ 4294967295 := by show y / 4294967296 ≤ _; omega
  have ex : x = 4294967296 * x1 + x0 := (Nat.div_add_mod x 4294967296).symm
  have ey : y = 4294967296 * y1 + y0 := (Nat.div_add_mod y 4294967296).symm
  have p00 : x0 * y0 ≤ 18446744065119617025 := Nat.mul_le_mul a0 b0
  have p10 : x1 * y0 ≤ 18446744065119617025 := Nat.mul_le_mul a1 b0
  have p01 : x0 * y1 ≤ 18446744065119617025 := Nat.mul_le_mul a0 b1
  have p11 : x1 * y1 ≤ 18446744065119617025 := Nat.mul_le_mul a1 b1
  have e : x * y = 18446744073709551616 * (x1 * y1) + 4294967296 * (x1 * y0) + 4294967296 * (x0 * y1) + x0 * y0 := by
    rw [ex, ey]
    simp only [Nat.mul_add, Nat.add_mul]
    rw [show 4294967296 * x1 * (4294967296 * y1) = 18446744073709551616 * (x1 * y1) by rw [Nat.mul_mul_mul_comm]]
    rw [Nat.mul_assoc 4294967296 x1 y0, Nat.mul_left_comm x0 4294967296 y1]
    omega
  rw [e]
  show ((x1 * y1 % 18446744073709551616 + t / 4294967296) % 18446744073709551616 + w1 / 4294967296) % 18446744073709551616 = _ / 18446744073709551616
  have hw0 : w0 = x0 * y0 := Nat.mod_eq_of_lt (by show _ < 18446744073709551616; omega)
  have ht : t = x1 * y0 + x0 * y0 / 4294967296 := by
    show (x1 * y0 % 18446744073709551616 + w0 / 4294967296) % 18446744073709551616 = _
    rw [hw0]; omega
  have hw1 : w1 = t % 4294967296 + x0 * y1 := by
    show (t % 4294967296 + x0 * y1 % 18446744073709551616) % 18446744073709551616 = _
    omega
  generalize x1 * y1 = p11 at *
  generalize x1 * y0 = p10 at *
  generalize x0 * y1 = p01 at *
  generalize x0 * y0 = p00 at *
  clear_value t w1
  omega
section
attribute [-simp] Int.natCast_add Int.natCast_mul Int.natCast_ediv Int.natCast_emod Int.natCast_pow
attribute [local simp] strip Yd LW' gW Yf Xh Ya Xi Yo Xj Zr Zs Zh Yp Yy Yk Yq Zi Xa Ze opd Qe Ym plain Yj Tr.get_set Qc Zp Xy Yc sameKind undef Zt Yr Yv Zk Jg Jf Yb parts Jc
theorem mul64_spec{x y:Nat}(hx:x<B64)(hy:y<B64){H:AH} :CW Tryz.prog Zo 202 [.int .u64 (x:Int),.int .u64 (y:Int)] H fun v H'=>H'=H∧v= .tuple #[.int .u64 ((x*y/B64:Nat):Int),.int .u64 ((x*y%B64:Nat):Int)]:=by
 refine Zl 51 (by decide) (by decide) Tryz.func202 rfl rfl ?_;have ht: ∀z:Nat,z%B64<B64:=fun z=>Nat.mod_lt _ (by decide);have key:=mul64_arith hx hy;simp only at key;iterate 12 apply Zb;intro b hb;apply Za;simp[and32 hx,and32 hy,shr32,Cn,Fw,and32 (ht _)];subst hb
 apply Zn;simp;have key2:=key;simp only[Nat.mod_add_mod,Nat.add_mod_mod]at key2;rw[←key2]
end
theorem Own.cut{n0:Nat}{H:AH}{v:Value}{xs:List Nat}(h:Own n0 H v xs){t:TypeId}(ht:LT t){m:Nat}(hm:m≤xs.length)(h0:0<xs.length): ∃v',Us Tryz.prog H t v none (some (.int .i64 (m:Int))) none=some v'∧Own n0 H v' (xs.take m):=by cases h with
 |nil=>cases h0
 |mk b o cap xs cs h1 h2 h3 h4 h5 h6=>
  have hl:(xs.take m).length=m:=by rw[List.length_take];omega
  have hsz:H.size b=some 1:=by unfold AH.size;rw[h4]
  refine⟨.slice (some ⟨b,o,none⟩) (xs.take m).length cap,?_,.mk b o cap _ cs (by omega) h2 h3 h4 h5 fun i x hx=>h6 i x ?_⟩;·unfold Us;simp only[ht.1,sU64];unfold cutV Qq;simp only[hsz,Option.isSome_some,Option.isNone_none,Bool.true_or];rw[if_pos (by omega)];have e1:Nat.ble m cap=true:=Nat.ble_eq.mpr (by omega);simp[Qq,e1,hl]
  ·rw[List.getElem?_take]at hx;split at hx;·exact hx
   ·cases hx
section
attribute [local simp] strip Yd LW' gW Yf Xh Ya Xi Yo Xj Zr Zs Zh Yp Yy Yk Yq Zi Xa opd Qe Ym plain Yj Tr.get_set Qc Zp Xy Yc sameKind Zd undef Zt Yr Yv Zk Jg Jf Yb
theorem trim_own{v:Value}{xs:List Nat}{H:AH}{n0:Nat}(hs:Own n0 H v xs)(hlen:xs.length<1152921504606846976):CW Tryz.prog Zo 160 [v] H fun v' H'=>H'=H∧Own n0 H v' (Xl xs):=by
 refine Zl 21 (by decide) (by decide) Tryz.func160 rfl rfl ?_;apply Zb;intro b1 hb1;apply Za;simp;subst hb1;apply Zb;intro b1 hb1;apply Zx;refine W_loop (fun n s=>s.k=21∧s.H=H∧ ∃v',s.tm.get 0=some v'∧n≤xs.length∧Own n0 H v' (xs.take n)∧Xl (xs.take n)=Xl xs) ?_ xs.length _ ⟨rfl,rfl,v,by simp,Nat.le_refl _,by rw[List.take_length];exact hs,by rw[List.take_length]⟩;rintro n ⟨k,tm,H'⟩ ⟨h2,h3,v',h4,h5,h6,h7⟩;simp only at h2 h3 h4;subst h2;subst h3;have hl:(xs.take n).length=n:=by rw[List.length_take];omega
 have hlenv:=h6.sl.len Zk;rw[hl]at hlenv;apply Zb;intro b2 hb2;apply Zb;intro b3 hb3;apply Za;by_cases hz:n=0;·subst hz;simp[h4,hlenv];subst hb3;refine Zc (t:=false) (by simp) ?_;apply Qf;left;refine⟨rfl,?_⟩;subst hb1;apply Zb;intro b4 hb4;apply Za;simp[h4];subst hb4;apply Zn;simp;rw[←h7];exact h6
 ·have hn:0<n:=Nat.pos_of_ne_zero hz;have hw:IntKind.i64.wrap ((n:Int)-1)=((n-1:Nat):Int):=Zn5 hn (by omega);have hi:n-1<(xs.take n).length:=by omega
  have ha:=h6.sl.adr Zk (k:= .i64) hi;have hld:=h6.sl.load hi;simp[h4,hlenv,hn,hw,ha,hld];subst hb3;have hx:n-1<xs.length:=by omega
  have htake:xs.take n=xs.take (n-1)++[xs[n-1]]:=by have:=List.take_append_getElem (l:=xs) (i:=n-1) hx;rw[this,show n-1+1=n by omega]
  by_cases h0:xs[n-1]=0
  ·refine Zc (t:=true) (by simp[h0]) ?_;apply Zj;subst hb2;apply Zx;apply Za;obtain⟨v2,hv2,hs2⟩:=h6.cut Zk (m:=n-1) (by omega) (by omega);simp[h4,hlenv,hw,hv2];refine⟨n-1,by omega,rfl,rfl,v2,by simp,by omega,?_,?_⟩;·rw[List.take_take,show min (n-1) n=n-1 by omega]at hs2;exact hs2
   ·rw[←h7,htake,h0,Kn]
  ·refine Zc (t:=false) (by simp;exact h0) ?_;apply Qf;left;refine⟨rfl,?_⟩;subst hb1;apply Zb;intro b4 hb4;apply Za;simp[h4];subst hb4;apply Zn;simp;rw[←h7];have:Xl (xs.take n)=xs.take n:=by rw[htake];exact Ce _ _ h0
   rw[this];exact h6
theorem Zf4{v:Value}{xs:List Nat}{H:AH}{n0:Nat}(hs:Own n0 H v xs)(dx:Dig B64 xs)(hlen:xs.length≤17592186044416):CW Tryz.prog Zo 204 [v] H fun v' H'=>H'=H∧((67108864<Zf (dv B64 xs)∧v'= .tuple #[.slice none 0 0,.int .i64 3])∨(Zf (dv B64 xs)≤67108864∧ ∃u,v'= .tuple #[u,.int .i64 0]∧Own n0 H u (ds B64 (dv B64 xs)))):=by
 refine Zl 10 (by decide) (by decide) Tryz.func204 rfl rfl ?_;obtain⟨v1,H1,hc1,e1,s1⟩:=trim_own hs (by omega);subst e1;have dt:=Jo dx;obtain⟨v2,H2,hc2,e2,e3⟩:=Uk s1.sl dt (Nat.le_trans (Jp xs) hlen);subst e2;subst e3;rw[Vv]at hc2;rw[Ji Zz dx]at s1;apply Zb;intro b1 hb1;apply Za;simp;subst hb1;apply Zb;intro b1 hb1;apply Za;simp[hc1];subst hb1;apply Zb;intro b1 hb1;apply Zb;intro b2 hb2;apply Za;simp[hc2];subst hb2;by_cases h:67108864<Zf (dv B64 xs);·refine Zc (t:=true) (by simp;omega) ?_;apply Zb;intro b2 hb2;apply Za;simp;subst hb2;apply Zn;simp[Xw,h]
 ·refine Zc (t:=false) (by simp;omega) ?_;apply Zj;subst hb1;apply Zb;intro b2 hb2;apply Za;simp;subst hb2;apply Zn;simp[h];exact⟨by omega,s1⟩
end
end
end Go.Proofs.YtmkfecoeghokfaaGreatDoor
