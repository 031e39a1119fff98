/-
  The engine and the walks that the claim's last text leans on, part 3 of 9: EvP, EvQ, Cfg, Laid, Np, Na, Nb, EvR, Nc, Nd, Ne, Nf, Ng, Nh, Ni, Nj, Nk, Nq, Nl, Nm, Nr, EvS.
-/
import Derived.Test.YtmkfecoeghokfaaGreatDoorM2
import Derived.Test.YtmkfecoeghokfaaGreatDoorRows
import Derived.WalkKit
import Derived.ProofKit
import Derived.OpenShut
import Derived.ChangeOld
import Derived.SizedLaws
import Derived.Test.YtmkfecoeghokfaaGreatDoorCards
import Derived.Test.YtmkfecoeghokfaaGreatDoorTie
import Derived.LaidMore
import Derived.Deep.Strs
import Derived.MakeChecks
import Derived.FnData
import Derived.Stop.Joined
import Derived.SevenTiedAt
import Derived.KernelRfl
import Derived.Laws.Bits64
import Derived.Laws.BitsLemmas
namespace Go.Proofs.YtmkfecoeghokfaaGreatDoor.Ev
open Go Go.RowKit
set_option linter.unusedVariables false
set_option linter.unusedSimpArgs false
noncomputable section
set_option maxHeartbeats 1000000
section
def CLe(f g:FuncId→List Value→AH→Option (Value×AH)):Prop:= ∀x a H r,f x a H=some r→g x a H=some r
def ELe(f g:Code→St→Option (Ex×St)):Prop:= ∀c s r,f c s=some r→g c s=some r
section
variable {P : Program} {C : Cfg} {f g : FuncId → List Value → AH → Option (Value × AH)}
theorem Cp(h:CLe f g){tm:Tr Value}{H:AH}{op:Op}{r:Value×AH}(he:Yk P C f tm H op=some r):Yk P C g tm H op=some r:=by
 cases op;case call c=>obtain⟨callee,cargs,cts⟩:=c;cases callee with
  |value x=>
   simp only[Yk,Xa]at he⊢;split at he<;>first|(cases he;done)|skip
   split at he<;>first|(cases he;done)|skip
   exact h _ _ _ _ he
  |builtin b=>exact he
  |invoke x m=>
   simp only[Yk,Xa]at he⊢;split at he<;>first|(cases he;done)|skip
   split at he<;>first|(cases he;done)|skip
   exact h _ _ _ _ he
 all_goals exact he
theorem Ds(h:CLe f g){ops:Array Oper} : ∀(l:List Oper)(s s':St),Uk P C f ops l s=some s'→Uk P C g ops l s=some s'
 |[],s,s',he=>he
 |o::rest,s,s',he=>by
  rw[Vi]at he⊢;split at he<;>first|(cases he;done)|skip
  ·rename_i hw;split at he<;>first|(cases he;done)|skip
   rename_i v H hop;split at he<;>first|(cases he;done)|skip
   rename_i s1 hput;simp only[Cp h hop,hput];exact Ds h rest s1 s' he
  ·rename_i hw;split at he<;>first|(cases he;done)|skip
   rename_i s1 hput;try simp only[hput]
   exact Ds h rest s1 s' he
theorem Zo3(h:CLe f g){ops:Array Oper}{i:Nat}{q:Bool}{ms:List (Nat×Nat×Nat)}{s:St}{o:Oper}{r:Value×AH×Bool}(he:Qx P C f ops i q ms s o=some r):Qx P C g ops i q ms s o=some r:=by unfold Qx at he⊢;cases hh:Zy o.op with
 |false=>
  rw[hh,cond_false]at he;rw[cond_false];split at he<;>first|(cases he;done)|skip
  rename_i v H2 hop;simp only[Cp h hop];exact he
 |true=>
  rw[hh,cond_true]at he;rw[cond_true];simp only at he⊢;split at he<;>first|(cases he;done)|skip
  rename_i v H2 hop;simp only[Cp h hop];exact he
theorem Ze5(h:CLe f g){ops:Array Oper} : ∀(l:List Oper)(i:Nat)(q:Bool)(ms:List (Nat×Nat×Nat))(s s':St),Jm P C f ops i q ms l s=some s'→Jm P C g ops i q ms l s=some s'
 |[],i,q,ms,s,s',he=>by simp only[Jm]at he⊢;exact he
 |o::rest,i,q,ms,s,s',he=>by
  simp only[Jm]at he⊢;split at he<;>first|(cases he;done)|skip
  ·rename_i hw;split at he<;>first|(cases he;done)|skip
   rename_i v H q' hop;split at he<;>first|(cases he;done)|skip
   rename_i s1 hput;simp only[Zo3 h hop,hput];exact Ze5 h rest _ _ _ s1 s' he
  ·rename_i hw;split at he<;>first|(cases he;done)|skip
   rename_i s1 hput;try simp only[hput]
   exact Ze5 h rest _ _ _ s1 s' he
theorem Zj9(h:CLe f g){ops:Array Oper} : ∀(l:List Oper)(i:Nat)(fs:List (Nat×Nat×Bool))(s s':St),Kh P C f ops i fs l s=some s'→Kh P C g ops i fs l s=some s'
 |[],i,fs,s,s',he=>by simp only[Kh]at he⊢;exact he
 |o::rest,i,fs,s,s',he=>by
  simp only[Kh]at he⊢;split at he<;>first|(cases he;done)|skip
  ·rename_i hw;split at he<;>first|(cases he;done)|skip
   ·rename_i hf;split at he<;>first|(cases he;done)|skip
    rename_i v H hop;split at he<;>first|(cases he;done)|skip
    rename_i s1 hput;simp only[Cp h hop,hput];exact Zj9 h rest _ _ s1 s' he
   ·rename_i b w hf;cases hc:Ki ((before ops).getD i 0) b w fs with
    |false=>rw[hc]at he;cases he
    |true=>
     rw[hc,cond_true]at he;rw[cond_true];split at he<;>first|(cases he;done)|skip
     rename_i v H hop;split at he<;>first|(cases he;done)|skip
     rename_i s1 hput;simp only[Cp h hop,hput];exact Zj9 h rest _ _ s1 s' he
  ·rename_i hw;split at he<;>first|(cases he;done)|skip
   rename_i s1 hput;try simp only[hput]
   exact Zj9 h rest _ _ s1 s' he
theorem Cq(h:CLe f g){ops:Array Oper}{draw:Bool}{s s':St}(he:Qg P C f ops draw s=some s'):Qg P C g ops draw s=some s':=by unfold Qg at he⊢;cases hb:(draw&&Uh ops)with
 |true=>rw[hb,cond_true]at he;rw[cond_true];cases hr:Gy ops with|false=>rw[hr]at he;cases he|true=>rw[hr,cond_true]at he;rw[cond_true];exact Zj9 h _ _ _ _ _ he
 |false=>rw[hb,cond_false]at he;rw[cond_false];unfold Ul at he⊢;cases draw with
  |false=>rw[cond_false]at he⊢;exact Ds h _ _ _ he
  |true=>rw[cond_true]at he⊢;cases hr:Gy ops with|false=>rw[hr]at he;cases he|true=>rw[hr,cond_true]at he;rw[cond_true];exact Ze5 h _ _ _ _ _ _ he
theorem Zh3{ops:Array Oper}{s:St} :Qg P C f ops false s=Uk P C f ops ops.toList s:=by unfold Qg Ul;simp
end
structure LLe (u v : Lv) : Prop where
  code : ELe u.code v.code
  call : CLe u.call v.call
section
variable {P : Program} {C : Cfg} {u v : Lv}
theorem evS_le(h:LLe u v){rv:Value} : ∀(c:Code)(s:St)(r:Ex×St),evS P C u rv c s=some r→evS P C v rv c s=some r:=by intro c;induction c with
 |seq x y ihx ihy=>intro s r he;simp only[evS]at he⊢;cases hf:Bk x with
  |true=>
   rw[hf,cond_true]at he;rw[cond_true];split at he<;>first|(cases he;done)|skip
   rename_i s1 h1;rw[ihx _ _ h1];simp only;unfold Zl6 at he⊢;split at he<;>first|(cases he;done)|skip
   ·rename_i s2 e;rw[h.code _ _ _ e];exact he
   ·rename_i s2 e;rw[h.code _ _ _ e];exact he
  |false=>
   rw[hf,cond_false]at he;rw[cond_false];split at he<;>first|(cases he;done)|skip
   rename_i s1 h1;rw[h.code _ _ _ h1];exact ihy _ _ he
 |region id ops draw=>intro s r he;simp only[evS]at he⊢;cases ho:Cs ops with
  |false=>rw[ho]at he;cases he
  |true=>
   rw[ho,cond_true]at he;rw[cond_true];split at he<;>first|(cases he;done)|skip
   rename_i s1 h1;rw[Cq h.call h1];exact he
 |_=>intro s r he;cases he
theorem evDef_le(h:LLe u v){g:FuncId}{args:List Value}{rv:Value}{H H':AH}(he:Zb6 P C u g args rv H=some H'):Zb6 P C v g args rv H=some H':=by
 unfold Zb6 at he⊢;split at he<;>first|(cases he;done)|skip
 split at he<;>first|(cases he;done)|skip
 split at he<;>first|(cases he;done)|skip
 ·rename_i hc;rw[evS_le h _ _ _ hc];exact he
 ·rename_i hc;rw[evS_le h _ _ _ hc];exact he
theorem evDeferred_le(h:LLe u v){fn:Func}{a:Code}{ops:Array Oper}{o1:Oper}{c:Call}{rest:Code}{s0:St}{r:Out×AH}(he:Uu P C u fn a ops o1 c rest s0=some r):Uu P C v fn a ops o1 c rest s0=some r:=by
 unfold Uu at he⊢;split at he<;>first|(cases he;done)|skip
 rename_i h1;rw[h.code _ _ _ h1];simp only;split at he<;>first|(cases he;done)|skip
 rename_i h2;rw[Ds h.call _ _ _ h2];simp only;split at he<;>first|(cases he;done)|skip
 rename_i h3;split at he<;>first|(cases he;done)|skip
 rename_i h4;rw[h.code _ _ _ h4];simp only;split at he<;>first|(cases he;done)|skip
 rename_i h5;split at he<;>first|(cases he;done)|skip
 rename_i h6;rw[evDef_le h h6];exact he
theorem evBody_le(h:LLe u v){fn:Func}{c:Code}{s0:St}{r:Out×AH}(he:Dz P C u fn c s0=some r):Dz P C v fn c s0=some r:=by
 unfold Dz at he⊢;split at he;·exact evDeferred_le h he
 ·cases hc:u.code c s0 with|none=>rw[hc]at he;cases he|some x=>rw[hc]at he;rw[h.code _ _ _ hc];exact he
theorem Aa(h:LLe u v)(x:FuncId)(a:List Value)(H:AH)(r:Out×AH)(he:Jx P C u x a H=some r):Jx P C v x a H=some r:=by unfold Jx at he⊢;cases h1:Nat.beq x C.add with
 |true=>rw[h1,cond_true]at he;rw[cond_true];exact he
 |false=>rw[h1,cond_false]at he;rw[cond_false];cases h2:Nat.beq x C.sub with
  |true=>rw[h2,cond_true]at he;rw[cond_true];exact he
  |false=>
   rw[h2,cond_false]at he;rw[cond_false];split at he<;>first|(cases he;done)|skip
   split at he<;>first|(cases he;done)|skip
   exact evBody_le h he
theorem Gv(h:LLe u v):CLe (Qh P C u) (Qh P C v):=fun x a H r he=>by obtain⟨w,H'⟩:=r;have:=Aa h _ _ _ _ (Aq he);unfold Qh;rw[this];rfl
theorem evCallP_le(h:LLe u v):CLe (Jc P C u) (Jc P C v):=fun x a H r he=>by obtain⟨w,H'⟩:=r;have:=Aa h _ _ _ _ (Ao he);unfold Jc;rw[this];rfl
theorem ret_pan(h:LLe u v){x:FuncId}{a:List Value}{H:AH}{r:Value×AH}(he:Qh P C u x a H=some r):Jc P C v x a H=none:=by obtain⟨w,H'⟩:=r;have:=Aa h _ _ _ _ (Aq he);unfold Jc;rw[this];rfl
theorem pan_ret(h:LLe u v){x:FuncId}{a:List Value}{H:AH}{r:Value×AH}(he:Jc P C u x a H=some r):Qh P C v x a H=none:=by obtain⟨w,H'⟩:=r;have:=Aa h _ _ _ _ (Ao he);unfold Qh;rw[this];rfl
theorem Zj6{f:FuncId→List Value→AH→Option (Value×AH)}{tm:Tr Value}{H:AH}{c:Call}{g:FuncId}{args:List Value}(h:Qo C tm c=some (g,args)):Xa P C f tm H c=f g args H:=by
 obtain⟨callee,cargs,cts⟩:=c;unfold Qo at h;cases callee<;>simp only at h<;>first|(cases h;done)|skip
 split at h<;>first|(cases h;done)|skip
 rename_i fv h1;split at h<;>first|(cases h;done)|skip
 rename_i h3 h4;injection h with h;injection h with e1 e2;subst e1;subst e2;simp only[Xa,h1,h3,h4]
theorem Zh7(h:LLe u v){tm:Tr Value}{H:AH}{op:Op}{r:Value×AH}(he:Yk P C (Qh P C u) tm H op=some r):Fp C (Jc P C v) tm H op=none:=by
 cases op;case call c=>simp only[Fp];cases hd:Qo C tm c with|none=>rfl|some x=>obtain⟨g,args⟩:=x;simp only[Yk]at he;rw[Zj6 hd]at he;exact ret_pan h he
 case panic x=>cases he
 all_goals rfl
theorem evOp_none(h:LLe u v){tm:Tr Value}{H:AH}{op:Op}{r:Value×AH}(he:Fp C (Jc P C u) tm H op=some r):Yk P C (Qh P C v) tm H op=none:=by
 cases op;case call c=>simp only[Fp]at he;cases hd:Qo C tm c with|none=>rw[hd]at he;cases he|some x=>obtain⟨g,args⟩:=x;rw[hd]at he;simp only[Yk];rw[Zj6 hd];exact pan_ret h he
 case panic x=>rfl
 all_goals cases he
theorem panOp_le(h:LLe u v){tm:Tr Value}{H:AH}{op:Op}{r:Value×AH}(he:Fp C (Jc P C u) tm H op=some r):Fp C (Jc P C v) tm H op=some r:=by
 cases op;case call c=>simp only[Fp]at he⊢;cases hd:Qo C tm c with|none=>rw[hd]at he;cases he|some x=>rw[hd]at he;exact evCallP_le h _ _ _ _ he
 case panic x=>exact he
 all_goals cases he
theorem Zb7(h:LLe u v){ops:Array Oper} : ∀(l:List Oper)(s:St)(r:Ex×St),Cc P C (Qh P C u) (Jc P C u) ops l s=some r→Cc P C (Qh P C v) (Jc P C v) ops l s=some r∧Uk P C (Qh P C v) ops l s=none
 |[],s,r,he=>by cases he
 |o::rest,s,r,he=>by
  rw[Vi];simp only[Cc]at he⊢;split at he<;>first|(cases he;done)|skip
  ·rename_i hw;split at he;·rename_i v1 H1 hp;rw[panOp_le h hp];simp only[evOp_none h hp];exact⟨he,trivial⟩
   ·rename_i hp;split at he<;>first|(cases he;done)|skip
    rename_i v1 H1 hop;split at he<;>first|(cases he;done)|skip
    rename_i s1 hput;rw[Zh7 h hop];simp only[Cp (Gv h) hop,hput];exact Zb7 h rest s1 r he
  ·rename_i hw;split at he<;>first|(cases he;done)|skip
   rename_i s1 hput;try simp only[hput]
   exact Zb7 h rest s1 r he
theorem evStep_le(h:LLe u v):ELe (Js P C u) (Js P C v):=by
 intro c s r he;cases c<;>simp only[Js]at he⊢ <;>first|exact he|skip
 ·rename_i id ops draw;split at he;·rename_i s1 hr;rw[Cq (Gv h) hr];exact he
  ·cases draw with|true=>cases he|false=>rw[cond_false]at he;obtain⟨h1,h2⟩:=Zb7 h _ _ _ he;rw[Zh3,h2];exact h1
 ·split at he;·rename_i s1 hr;rw[h.code _ _ _ hr];exact h.code _ _ _ he
  ·rename_i hn;rw[h.code _ _ _ he];split;·rename_i s1 e;exact absurd (he.trans e) (by intro e';exact hn s1 e')
   ·rfl
 ·split at he<;>first|(cases he;done)|skip
  exact h.code _ _ _ he
 ·split at he;·rename_i j s1 hr;rw[h.code _ _ _ hr];exact he
  ·rename_i hn;rw[h.code _ _ _ he];split;·rename_i j s1 e;exact absurd (he.trans e) (by intro e';exact hn j s1 e')
   ·rfl
 ·split at he;·rename_i s1 hr;rw[h.code _ _ _ hr];exact h.code _ _ _ he
  ·rename_i hn;rw[h.code _ _ _ he];split;·rename_i s1 e;exact absurd (he.trans e) (by intro e';exact hn s1 e')
   ·rfl
end
theorem Za1{P:Program}{C:Cfg} : ∀{n m:Nat},n≤m→LLe (lv P C n) (lv P C m)|0,m,_=>⟨(fun c s r h=>by rw[Zf1]at h;cases h),(fun x a H r h=>by rw[Zf1]at h;cases h)⟩|n+1,0,h=>by omega|n+1,m+1,h=>by have ih:=Za1 (P:=P) (C:=C) (show n≤m by omega);rw[Zf0,Zf0];exact⟨evStep_le ih,Gv ih⟩
theorem ev_le{P:Program}{C:Cfg}{n m:Nat}(h:n≤m):ELe (ev P C n) (ev P C m):=(Za1 h).code
open Classical in def evI(P:Program)(C:Cfg)(c:Code)(s:St):Option (Ex×St):=if h: ∃n r,ev P C n c s=some r then some (Classical.choose (Classical.choose_spec h))else none
open Classical in def Zq(P:Program)(C:Cfg)(f:FuncId)(args:List Value)(H:AH):Option (Value×AH):=if h: ∃n r,(lv P C n).call f args H=some r then some (Classical.choose (Classical.choose_spec h))else none
theorem evI_of{P:Program}{C:Cfg}{n:Nat}{c:Code}{s:St}{r:Ex×St}(h:ev P C n c s=some r):evI P C c s=some r:=by have hx: ∃n r,ev P C n c s=some r:=⟨n,r,h⟩;unfold evI;rw[dif_pos hx];have h2:=Classical.choose_spec (Classical.choose_spec hx);have a:=ev_le (Nat.le_max_left n (Classical.choose hx)) c s r h;have b:=ev_le (Nat.le_max_right n (Classical.choose hx)) c s _ h2;rw[a]at b;exact b.symm
theorem evI_some{P:Program}{C:Cfg}{c:Code}{s:St}{r:Ex×St}(h:evI P C c s=some r): ∃n,ev P C n c s=some r:=by
 unfold evI at h;split at h;·rename_i hx;obtain rfl:=Option.some.inj h;exact⟨_,Classical.choose_spec (Classical.choose_spec hx)⟩
 ·cases h
theorem callI_of{P:Program}{C:Cfg}{n:Nat}{f:FuncId}{args:List Value}{H:AH}{r:Value×AH}(h:(lv P C n).call f args H=some r):Zq P C f args H=some r:=by have hx: ∃n r,(lv P C n).call f args H=some r:=⟨n,r,h⟩;unfold Zq;rw[dif_pos hx];have h2:=Classical.choose_spec (Classical.choose_spec hx);have a:=(Za1 (Nat.le_max_left n (Classical.choose hx))).call _ _ _ r h;have b:=(Za1 (Nat.le_max_right n (Classical.choose hx))).call _ _ _ _ h2;rw[a]at b;exact b.symm
theorem Zj4{P:Program}{C:Cfg}{f:FuncId}{args:List Value}{H:AH}{r:Value×AH}(h:Zq P C f args H=some r): ∃n,(lv P C n).call f args H=some r:=by
 unfold Zq at h;split at h;·rename_i hx;obtain rfl:=Option.some.inj h;exact⟨_,Classical.choose_spec (Classical.choose_spec hx)⟩
 ·cases h
def lvI(P:Program)(C:Cfg):Lv:=⟨evI P C,Zq P C⟩
theorem lv_lvI{P:Program}{C:Cfg}(n:Nat):LLe (lv P C n) (lvI P C):=⟨fun c s r h=>evI_of h,fun x a H r h=>callI_of h⟩
section
variable {P : Program} {C : Cfg} {F : FuncId → List Value → AH → Option (Value × AH)} {G : Nat → FuncId → List Value → AH → Option (Value × AH)}
theorem Zk0(hfin: ∀x a H r,F x a H=some r→ ∃n,G n x a H=some r)(hmono: ∀{n m:Nat},n≤m→CLe (G n) (G m)){tm:Tr Value}{H:AH}{op:Op}{r:Value×AH}(he:Yk P C (F) tm H op=some r): ∃n,Yk P C (G n) tm H op=some r:=by
 cases op;case call c=>obtain⟨callee,cargs,cts⟩:=c;cases callee with
  |value x=>
   simp only[Yk,Xa]at he⊢;split at he<;>first|(cases he;done)|skip
   split at he<;>first|(cases he;done)|skip
   obtain⟨n,hn⟩:=hfin _ _ _ _ he;exact⟨n,hn⟩
  |builtin b=>exact⟨0,he⟩
  |invoke x m=>
   simp only[Yk,Xa]at he⊢;split at he<;>first|(cases he;done)|skip
   split at he<;>first|(cases he;done)|skip
   obtain⟨n,hn⟩:=hfin _ _ _ _ he;exact⟨n,hn⟩
 all_goals exact⟨0,he⟩
theorem Ab(hfin: ∀x a H r,F x a H=some r→ ∃n,G n x a H=some r)(hmono: ∀{n m:Nat},n≤m→CLe (G n) (G m)){ops:Array Oper} : ∀(l:List Oper)(s s':St),Uk P C (F) ops l s=some s'→ ∃n,Uk P C (G n) ops l s=some s'
 |[],s,s',he=>⟨0,he⟩
 |o::rest,s,s',he=>by
  rw[Vi]at he;split at he<;>first|(cases he;done)|skip
  ·rename_i hw;split at he<;>first|(cases he;done)|skip
   rename_i v H hop;split at he<;>first|(cases he;done)|skip
   rename_i s1 hput;obtain⟨n1,h1⟩:=Zk0 hfin hmono hop;obtain⟨n2,h2⟩:=Ab hfin hmono rest s1 s' he;refine⟨max n1 n2,?_⟩;rw[Vi,hw];simp only[Cp (hmono (Nat.le_max_left n1 n2)) h1,hput];exact Ds (hmono (Nat.le_max_right n1 n2)) _ _ _ h2
  ·rename_i hw;split at he<;>first|(cases he;done)|skip
   rename_i s1 hput;obtain⟨n2,h2⟩:=Ab hfin hmono rest s1 s' he;refine⟨n2,?_⟩;rw[Vi,hw];try simp only[hput]
   exact h2
theorem evDrawOp_fin(hfin: ∀x a H r,F x a H=some r→ ∃n,G n x a H=some r)(hmono: ∀{n m:Nat},n≤m→CLe (G n) (G m)){ops:Array Oper}{i:Nat}{q:Bool}{ms:List (Nat×Nat×Nat)}{s:St}{o:Oper}{r:Value×AH×Bool}(he:Qx P C (F) ops i q ms s o=some r): ∃n,Qx P C (G n) ops i q ms s o=some r:=by unfold Qx at he⊢;cases hh:Zy o.op with
 |false=>
  rw[hh,cond_false]at he;simp only[cond_false];split at he<;>first|(cases he;done)|skip
  rename_i v H2 hop;obtain⟨n,hn⟩:=Zk0 hfin hmono hop;exact⟨n,by simp only[hn];exact he⟩
 |true=>
  rw[hh,cond_true]at he;simp only[cond_true];simp only at he;split at he<;>first|(cases he;done)|skip
  rename_i v H2 hop;obtain⟨n,hn⟩:=Zk0 hfin hmono hop;exact⟨n,by simp only[hn];exact he⟩
theorem Zh2(hfin: ∀x a H r,F x a H=some r→ ∃n,G n x a H=some r)(hmono: ∀{n m:Nat},n≤m→CLe (G n) (G m)){ops:Array Oper} : ∀(l:List Oper)(i:Nat)(q:Bool)(ms:List (Nat×Nat×Nat))(s s':St),Jm P C (F) ops i q ms l s=some s'→ ∃n,Jm P C (G n) ops i q ms l s=some s'
 |[],i,q,ms,s,s',he=>⟨0,by simp only[Jm]at he⊢;exact he⟩
 |o::rest,i,q,ms,s,s',he=>by
  simp only[Jm]at he⊢;split at he<;>first|(cases he;done)|skip
  ·rename_i hw;split at he<;>first|(cases he;done)|skip
   rename_i v H q' hop;split at he<;>first|(cases he;done)|skip
   rename_i s1 hput;obtain⟨n1,h1⟩:=evDrawOp_fin hfin hmono hop;obtain⟨n2,h2⟩:=Zh2 hfin hmono rest _ _ _ s1 s' he;refine⟨max n1 n2,?_⟩;simp only[Zo3 (hmono (Nat.le_max_left n1 n2)) h1,hput];exact Ze5 (hmono (Nat.le_max_right n1 n2)) _ _ _ _ _ _ h2
  ·rename_i hw;split at he<;>first|(cases he;done)|skip
   rename_i s1 hput;obtain⟨n2,h2⟩:=Zh2 hfin hmono rest _ _ _ s1 s' he;refine⟨n2,?_⟩;try simp only[hput]
   exact h2
theorem Ac{f g:FuncId→List Value→AH→Option (Value×AH)}{ops:Array Oper} : ∀(l:List Oper)(i:Nat)(fs:List (Nat×Nat×Bool))(s s':St),Kh P C f ops i fs l s=some s'→Kh P C g ops i fs l s=some s'
 |[],i,fs,s,s',he=>by simp only[Kh]at he⊢;exact he
 |o::rest,i,fs,s,s',he=>by
  have hop': ∀tm H r x,Ua C tm o.op=some x→Yk P C f tm H o.op=some r→Yk P C g tm H o.op=some r:=fun tm H r x hm hop=>by
   cases e:o.op;case call c=>rw[e]at hm hop;obtain⟨callee,cargs,cts⟩:=c;cases callee with|value x=>simp[Ua,Zy]at hm|builtin b=>exact hop|invoke x m=>simp[Ua,Zy]at hm
   all_goals(rw[e]at hop;exact hop)
  simp only[Kh]at he⊢;split at he<;>first|(cases he;done)|skip
  ·rename_i hw;split at he<;>first|(cases he;done)|skip
   ·rename_i hf;split at he<;>first|(cases he;done)|skip
    rename_i v H hop;split at he<;>first|(cases he;done)|skip
    rename_i s1 hput;simp only[hop' _ _ _ _ hf hop,hput];exact Ac rest _ _ s1 s' he
   ·rename_i b w hf;cases hc:Ki ((before ops).getD i 0) b w fs with
    |false=>rw[hc]at he;cases he
    |true=>
     rw[hc,cond_true]at he;rw[cond_true];split at he<;>first|(cases he;done)|skip
     rename_i v H hop;split at he<;>first|(cases he;done)|skip
     rename_i s1 hput;simp only[hop' _ _ _ _ hf hop,hput];exact Ac rest _ _ s1 s' he
  ·rename_i hw;split at he<;>first|(cases he;done)|skip
   rename_i s1 hput;try simp only[hput]
   exact Ac rest _ _ s1 s' he
theorem Zk1(hfin: ∀x a H r,F x a H=some r→ ∃n,G n x a H=some r)(hmono: ∀{n m:Nat},n≤m→CLe (G n) (G m)){ops:Array Oper}{draw:Bool}{s s':St}(he:Qg P C (F) ops draw s=some s'): ∃n,Qg P C (G n) ops draw s=some s':=by unfold Qg at he⊢;cases hb:(draw&&Uh ops)with
 |true=>rw[hb,cond_true]at he;simp only[cond_true];cases hr:Gy ops with|false=>rw[hr]at he;cases he|true=>rw[hr,cond_true]at he;exact⟨0,by rw[cond_true];exact Ac _ _ _ _ _ he⟩
 |false=>rw[hb,cond_false]at he;simp only[cond_false];unfold Ul at he⊢;cases draw with
  |false=>rw[cond_false]at he;simp only[cond_false];exact Ab hfin hmono _ _ _ he
  |true=>rw[cond_true]at he;simp only[cond_true];cases hr:Gy ops with|false=>rw[hr]at he;cases he|true=>rw[hr,cond_true]at he;simp only[cond_true];exact Zh2 hfin hmono _ _ _ _ _ _ he
end
section
variable {P : Program} {C : Cfg}
theorem Vo{c:Code}{s:St}{r:Ex×St}(h:evI P C c s=some r): ∃n,∀m,n≤m→(lv P C m).code c s=some r:=by obtain⟨n,hn⟩:=evI_some h;exact⟨n,fun m hm=>(Za1 hm).code _ _ _ hn⟩
theorem Ai{n m:Nat}(h:n≤m):CLe (lv P C n).call (lv P C m).call:=(Za1 h).call
theorem reg_fin{ops:Array Oper}{draw:Bool}{s s':St}(h:Qg P C (Zq P C) ops draw s=some s'): ∃n,∀m,n≤m→Qg P C (lv P C m).call ops draw s=some s':=by obtain⟨n,hn⟩:=Zk1 (F:=Zq P C) (G:=fun n=>(lv P C n).call) (fun x a H r h=>Zj4 h) (fun h=>Ai h) h;exact⟨n,fun m hm=>Cq (Ai hm) hn⟩
theorem list_fin{ops:Array Oper}{l:List Oper}{s s':St}(h:Uk P C (Zq P C) ops l s=some s'): ∃n,∀m,n≤m→Uk P C (lv P C m).call ops l s=some s':=by obtain⟨n,hn⟩:=Ab (F:=Zq P C) (G:=fun n=>(lv P C n).call) (fun x a H r h=>Zj4 h) (fun h=>Ai h) _ _ _ h;exact⟨n,fun m hm=>Ds (Ai hm) _ _ _ hn⟩
theorem evS_fin{rv:Value} : ∀(c:Code)(s:St)(r:Ex×St),evS P C (lvI P C) rv c s=some r→ ∃n,∀m,n≤m→evS P C (lv P C m) rv c s=some r:=by intro c;induction c with
 |seq x y ihx ihy=>intro s r he;simp only[evS]at he⊢;cases hf:Bk x with
  |true=>
   rw[hf,cond_true]at he;simp only[cond_true];split at he<;>first|(cases he;done)|skip
   rename_i s1 h1;obtain⟨n1,e1⟩:=ihx _ _ h1;unfold Zl6 at he⊢;split at he<;>first|(cases he;done)|skip
   ·rename_i s2 e;obtain⟨n2,e2⟩:=Vo e;refine⟨max n1 n2,fun m hm=>?_⟩;rw[e1 m (by omega)];simp only[e2 m (by omega)];exact he
   ·rename_i s2 e;obtain⟨n2,e2⟩:=Vo e;refine⟨max n1 n2,fun m hm=>?_⟩;rw[e1 m (by omega)];simp only[e2 m (by omega)];exact he
  |false=>
   rw[hf,cond_false]at he;simp only[cond_false];split at he<;>first|(cases he;done)|skip
   rename_i s1 h1;obtain⟨n1,e1⟩:=Vo h1;obtain⟨n2,e2⟩:=ihy _ _ he;refine⟨max n1 n2,fun m hm=>?_⟩;rw[e1 m (by omega)];exact e2 m (by omega)
 |region id ops draw=>intro s r he;simp only[evS]at he⊢;cases ho:Cs ops with
  |false=>rw[ho]at he;cases he
  |true=>
   rw[ho,cond_true]at he;simp only[cond_true];split at he<;>first|(cases he;done)|skip
   rename_i s1 h1;obtain⟨n,hn⟩:=reg_fin h1;exact⟨n,fun m hm=>by rw[hn m hm];exact he⟩
 |_=>intro s r he;cases he
theorem evDef_fin{g:FuncId}{args:List Value}{rv:Value}{H H':AH}(he:Zb6 P C (lvI P C) g args rv H=some H'): ∃n,∀m,n≤m→Zb6 P C (lv P C m) g args rv H=some H':=by
 unfold Zb6 at he⊢;split at he<;>first|(cases he;done)|skip
 rename_i hf;split at he<;>first|(cases he;done)|skip
 rename_i hb;split at he<;>first|(cases he;done)|skip
 ·rename_i hc;obtain⟨n,hn⟩:=evS_fin _ _ _ hc;exact⟨n,fun m hm=>by simp only[hf,hb,hn m hm];exact he⟩
 ·rename_i hc;obtain⟨n,hn⟩:=evS_fin _ _ _ hc;exact⟨n,fun m hm=>by simp only[hf,hb,hn m hm];exact he⟩
theorem evDeferred_fin{fn:Func}{a:Code}{ops:Array Oper}{o1:Oper}{c:Call}{rest:Code}{s0:St}{r:Out×AH}(he:Uu P C (lvI P C) fn a ops o1 c rest s0=some r): ∃n,∀m,n≤m→Uu P C (lv P C m) fn a ops o1 c rest s0=some r:=by
 unfold Uu at he⊢;split at he<;>first|(cases he;done)|skip
 rename_i h1;split at he<;>first|(cases he;done)|skip
 rename_i h2;split at he<;>first|(cases he;done)|skip
 rename_i h3;split at he<;>first|(cases he;done)|skip
 rename_i h4;split at he<;>first|(cases he;done)|skip
 rename_i h5;split at he<;>first|(cases he;done)|skip
 rename_i h6;obtain⟨n1,e1⟩:=Vo h1;obtain⟨n2,e2⟩:=list_fin h2;obtain⟨n3,e3⟩:=Vo h4;obtain⟨n4,e4⟩:=evDef_fin h6;refine⟨max (max n1 n2) (max n3 n4),fun m hm=>?_⟩;simp only[e1 m (by omega),e2 m (by omega),h3,e3 m (by omega),h5,e4 m (by omega)];exact he
theorem evBody_fin{fn:Func}{c:Code}{s0:St}{r:Out×AH}(he:Dz P C (lvI P C) fn c s0=some r): ∃n,∀m,n≤m→Dz P C (lv P C m) fn c s0=some r:=by
 unfold Dz at he⊢;split at he;·rename_i hd;obtain⟨n,hn⟩:=evDeferred_fin he;exact⟨n,fun m hm=>by simp only[hn m hm]⟩
 ·rename_i hd;cases hc:(lvI P C).code c s0 with|none=>rw[hc]at he;cases he|some x=>obtain⟨n,hn⟩:=Vo hc;rw[hc]at he;exact⟨n,fun m hm=>by simp only[hn m hm];exact he⟩
theorem callO_fin{x:FuncId}{a:List Value}{H:AH}{r:Out×AH}(he:Jx P C (lvI P C) x a H=some r): ∃n,∀m,n≤m→Jx P C (lv P C m) x a H=some r:=by unfold Jx at he⊢;cases h1:Nat.beq x C.add with
 |true=>rw[h1,cond_true]at he;exact⟨0,fun m _=>by rw[cond_true];exact he⟩
 |false=>rw[h1,cond_false]at he;simp only[cond_false];cases h2:Nat.beq x C.sub with
  |true=>rw[h2,cond_true]at he;exact⟨0,fun m _=>by rw[cond_true];exact he⟩
  |false=>
   rw[h2,cond_false]at he;simp only[cond_false];split at he<;>first|(cases he;done)|skip
   rename_i hf;split at he<;>first|(cases he;done)|skip
   rename_i hb;obtain⟨n,hn⟩:=evBody_fin he;exact⟨n,fun m hm=>hn m hm⟩
theorem Vc:Zq P C=Qh P C (lvI P C):=by funext x a H;cases h:Zq P C x a H with
 |some r=>obtain⟨n,hn⟩:=Zj4 h;cases n with|zero=>rw[Zf1]at hn;cases hn|succ n=>rw[Zf0]at hn;exact(Gv (lv_lvI n) _ _ _ _ hn).symm
 |none=>cases h2:Qh P C (lvI P C) x a H with
  |none=>rfl
  |some r=>
   obtain⟨v,H'⟩:=r;obtain⟨n,hn⟩:=callO_fin (Aq h2);have:(lv P C (n+1)).call x a H=some (v,H'):=by rw[Zf0];show Qh P C (lv P C n) x a H=_;unfold Qh;rw[hn n (Nat.le_refl _)];rfl
   rw[callI_of this]at h;cases h
def callPI(P:Program)(C:Cfg):FuncId→List Value→AH→Option (Value×AH):=Jc P C (lvI P C)
theorem callI_some{f:FuncId}{args:List Value}{H:AH}{r:Value×AH}(he:Zq P C f args H=some r): ∃n,Qh P C (lv P C n) f args H=some r:=by obtain⟨n,hn⟩:=Zj4 he;cases n with|zero=>rw[Zf1]at hn;cases hn|succ n=>rw[Zf0]at hn;exact⟨n,hn⟩
theorem callI_run{f:FuncId}{args:List Value}{H:AH}{r:Value×AH}(h:Zq P C f args H=some r): ∃n,run P C n f args H=some r:=callI_some h
theorem ret_fin{x:FuncId}{a:List Value}{H:AH}{r:Value×AH}(h:Qh P C (lvI P C) x a H=some r): ∃n,Qh P C (lv P C n) x a H=some r:=by rw[←Vc]at h;exact callI_some h
theorem pan_fin{x:FuncId}{a:List Value}{H:AH}{r:Value×AH}(h:callPI P C x a H=some r): ∃n,∀m,n≤m→Jc P C (lv P C m) x a H=some r:=by obtain⟨v,H'⟩:=r;obtain⟨n,hn⟩:=callO_fin (Ao h);exact⟨n,fun m hm=>by unfold Jc;rw[hn m hm];rfl⟩
theorem panOp_fin{tm:Tr Value}{H:AH}{op:Op}{r:Value×AH}(he:Fp C (callPI P C) tm H op=some r): ∃n,∀m,n≤m→Fp C (Jc P C (lv P C m)) tm H op=some r:=by
 cases op;case call c=>simp only[Fp]at he⊢;cases hd:Qo C tm c with|none=>rw[hd]at he;cases he|some x=>rw[hd]at he;exact pan_fin he
 case panic x=>exact⟨0,fun m _=>he⟩
 all_goals cases he
theorem op_fin{tm:Tr Value}{H:AH}{op:Op}{r:Value×AH}(he:Yk P C (Qh P C (lvI P C)) tm H op=some r): ∃n,∀m,n≤m→Yk P C (Qh P C (lv P C m)) tm H op=some r:=by obtain⟨n,hn⟩:=Zk0 (F:=Qh P C (lvI P C)) (G:=fun n=>Qh P C (lv P C n)) (fun x a H r h=>ret_fin h) (fun h=>Gv (Za1 h)) he;exact⟨n,fun m hm=>Cp (Gv (Za1 hm)) hn⟩
theorem Zn2{ops:Array Oper} : ∀(l:List Oper)(s:St)(r:Ex×St),Cc P C (Qh P C (lvI P C)) (callPI P C) ops l s=some r→ ∃n,∀m,n≤m→Cc P C (Qh P C (lv P C m)) (Jc P C (lv P C m)) ops l s=some r
 |[],s,r,he=>by cases he
 |o::rest,s,r,he=>by
  simp only[Cc]at he⊢;split at he<;>first|(cases he;done)|skip
  ·rename_i hw;split at he;·rename_i v1 H1 hp;obtain⟨n,hn⟩:=panOp_fin hp;exact⟨n,fun m hm=>by simp only[hn m hm];exact he⟩
   ·rename_i hp;split at he<;>first|(cases he;done)|skip
    rename_i v1 H1 hop;split at he<;>first|(cases he;done)|skip
    rename_i s1 hput;obtain⟨n1,h1⟩:=op_fin hop;obtain⟨n2,h2⟩:=Zn2 rest s1 r he;refine⟨max n1 n2,fun m hm=>?_⟩;have hpn:=Zh7 (u:=lv P C m) (v:=lv P C m) (Za1 (Nat.le_refl m)) (h1 m (by omega));simp only[hpn,h1 m (by omega),hput];exact h2 m (by omega)
  ·rename_i hw;split at he<;>first|(cases he;done)|skip
   rename_i s1 hput;obtain⟨n2,h2⟩:=Zn2 rest s1 r he;exact⟨n2,fun m hm=>h2 m hm⟩
theorem Gf(c:Code)(s:St):evI P C c s=Js P C (lvI P C) c s:=by
 have up: ∀r,evI P C c s=some r→Js P C (lvI P C) c s=some r:=fun r h=>by obtain⟨n,hn⟩:=evI_some h;cases n with|zero=>rw[ev_zero]at hn;cases hn|succ n=>rw[ev_succ]at hn;exact evStep_le (lv_lvI n) c s r hn
 have down: ∀r,Js P C (lvI P C) c s=some r→evI P C c s=some r:=fun r he=>by
  have fin1:(∃n,∀m,n≤m→Js P C (lv P C m) c s=some r)→evI P C c s=some r:=fun⟨n,h⟩=>evI_of (n:=n+1) (by rw[ev_succ];exact h n (Nat.le_refl _));apply fin1;cases c<;>simp only[Js]at he⊢ <;>first|(cases he;done)|skip
  ·exact⟨0,fun m _=>he⟩
  ·rename_i id ops draw;split at he;·rename_i s1 hr;obtain⟨n,hn⟩:=Zk1 (F:=Qh P C (lvI P C)) (G:=fun n=>Qh P C (lv P C n)) (fun x a H r h=>ret_fin h) (fun h=>Gv (Za1 h)) hr;exact⟨n,fun m hm=>by rw[Cq (Gv (Za1 hm)) hn];exact he⟩
   ·cases draw with|true=>cases he|false=>rw[cond_false]at he;obtain⟨n,hn⟩:=Zn2 _ _ _ he;refine⟨n,fun m hm=>?_⟩;have h2:=(Zb7 (Za1 (Nat.le_refl m)) _ _ _ (hn m hm)).2;rw[Zh3,h2];exact hn m hm
  ·split at he;·rename_i s1 hr;obtain⟨n1,h1⟩:=Vo hr;obtain⟨n2,h2⟩:=Vo he;exact⟨max n1 n2,fun m hm=>by rw[h1 m (by omega)];exact h2 m (by omega)⟩
   ·rename_i hn;obtain⟨n1,h1⟩:=Vo he;refine⟨n1,fun m hm=>?_⟩;rw[h1 m hm];split;·rename_i s1 e;exact absurd (he.trans e) (by intro e';exact hn s1 e')
    ·rfl
  ·split at he<;>first|(cases he;done)|skip
   obtain⟨n1,h1⟩:=Vo he;exact⟨n1,fun m hm=>h1 m hm⟩
  ·split at he;·rename_i j s1 hr;obtain⟨n1,h1⟩:=Vo hr;exact⟨n1,fun m hm=>by rw[h1 m hm];exact he⟩
   ·rename_i hn;obtain⟨n1,h1⟩:=Vo he;refine⟨n1,fun m hm=>?_⟩;rw[h1 m hm];split;·rename_i j s1 e;exact absurd (he.trans e) (by intro e';exact hn j s1 e')
    ·rfl
  ·split at he;·rename_i s1 hr;obtain⟨n1,h1⟩:=Vo hr;obtain⟨n2,h2⟩:=Vo he;exact⟨max n1 n2,fun m hm=>by rw[h1 m (by omega)];exact h2 m (by omega)⟩
   ·rename_i hn;obtain⟨n1,h1⟩:=Vo he;refine⟨n1,fun m hm=>?_⟩;rw[h1 m hm];split;·rename_i s1 e;exact absurd (he.trans e) (by intro e';exact hn s1 e')
    ·rfl
  ·exact⟨0,fun m _=>he⟩
  ·exact⟨0,fun m _=>he⟩
 cases h:evI P C c s with
  |some r=>exact(up r h).symm
  |none=>cases h2:Js P C (lvI P C) c s with|none=>rfl|some r=>rw[down r h2]at h;cases h
end
end
structure SOp where
  dst : Option Tmp
  op : Op
  grd : Option (Option Tmp × Bool)
def Ye(ops:Array Oper):List Oper→List SOp
 |[]=>[]
 |o::r=>⟨o.dst,o.op,match o.guard with|none=>none|some (j,b)=>some ((ops[j]?).bind (·.dst),b)⟩::Ye ops r
def strip(ops:Array Oper):List SOp:=Ye ops ops.toList
section
variable (P : Program) (C : Cfg)
def CW(f:FuncId)(args:List Value)(H:AH)(Q:Value→AH→Prop):Prop:= ∃v H',Zq P C f args H=some (v,H')∧Q v H'
def gW(tm:Tr Value)(g:Option (Option Tmp×Bool)):Option Bool:=match g with
 |none=>some true
 |some (some d,want)=>match tm.get d with|some (.bool b)=>some (b==want)|some (.tuple _)=>some false|_=>none
 |some (none,_)=>none
def LW'(k:Nat):List SOp→Tr Value→AH→(Tr Value→AH→Prop)→Prop
 |[],tm,H,K=>K tm H
 |o::r,tm,H,K=>match gW tm o.grd with
  |some true=>match Yk P C (Zq P C) tm H o.op with
   |some (v,H')=>match o.dst with|none=>LW' k r tm H' K|some d=>d<k∧LW' k r (tm.set d v) H' K
   |none=>False
  |some false=>match o.dst with|none=>LW' k r tm H K|some d=>d<k∧LW' k r (tm.set d undef) H K
  |none=>False
def W(c:Code)(s:St)(Q:Ex→St→Prop):Prop:= ∃ex s',evI P C c s=some (ex,s')∧Q ex s'
end
section
variable {P : Program} {C : Cfg} {Q : Ex → St → Prop}
theorem gW_eq{ops:Array Oper}{tm:Tr Value}{o:Oper} :Jh ops tm o=gW tm (match o.guard with|none=>none|some (j,b)=>some ((ops[j]?).bind (·.dst),b)):=by unfold Jh gW;cases o.guard with|none=>rfl|some x=>obtain⟨j,b⟩:=x;simp only;cases(ops[j]?).bind (·.dst)<;>rfl
theorem Zd7{ops:Array Oper}{k:Nat} : ∀(l:List Oper)(tm:Tr Value)(H:AH)(K:Tr Value→AH→Prop),LW' P C k (Ye ops l) tm H K→ ∃tm' H',Uk P C (Zq P C) ops l ⟨k,tm,H⟩=some ⟨k,tm',H'⟩∧K tm' H'
 |[],tm,H,K,h=>⟨tm,H,rfl,h⟩
 |o::r,tm,H,K,h=>by
  have put: ∀(v:Value)(H1:AH),(match o.dst with|none=>LW' P C k (Ye ops r) tm H1 K|some d=>d<k∧LW' P C k (Ye ops r) (tm.set d v) H1 K)→ ∃tm1,(St.put ⟨k,tm,H⟩ o.dst v H1)=some ⟨k,tm1,H1⟩∧LW' P C k (Ye ops r) tm1 H1 K:=fun v H1 h=>by cases hd:o.dst with
   |none=>rw[hd]at h;exact⟨tm,rfl,h⟩
   |some d=>
    rw[hd]at h;have:Nat.blt d k=true:=by rw[Nat.blt_eq];exact h.1
    exact⟨tm.set d v,by simp only[St.put,putSt,this,cond_true],h.2⟩
  rw[Vi];simp only;rw[gW_eq];simp only[Ye,LW']at h;split at h
  ·rename_i hg;rw[hg];split at h;·rename_i v H1 hop;obtain⟨tm1,hput,hl⟩:=put v H1 h;obtain⟨tm',H',h1,h2⟩:=Zd7 r tm1 H1 K hl;refine⟨tm',H',?_,h2⟩;simp only[hop,hput];exact h1
   ·exact h.elim
  ·rename_i hg;rw[hg];obtain⟨tm1,hput,hl⟩:=put undef H h;obtain⟨tm',H',h1,h2⟩:=Zd7 r tm1 H K hl;refine⟨tm',H',?_,h2⟩;simp only[hput];exact h1
  ·exact h.elim
theorem Za{i:Nat}{ops:Array Oper}{s:St}(h:LW' P C s.k (strip ops) s.tm s.H fun tm' H'=>Q .norm ⟨s.k,tm',H'⟩):W P C (.region i ops false) s Q:=by
 obtain⟨k,tm,H⟩:=s;obtain⟨tm',H',h1,h2⟩:=Zd7 (ops:=ops) ops.toList tm H _ h;refine⟨.norm,⟨k,tm',H'⟩,?_,h2⟩;rw[Gf];simp only[Js];rw[Vc]at h1;have:Qg P C (Qh P C (lvI P C)) ops false ⟨k,tm,H⟩=some ⟨k,tm',H'⟩:=by unfold Qg Ul;simp only[Bool.false_and,cond_false];exact h1
 rw[this]
theorem Zl1:(lvI P C).code=evI P C:=rfl
def Xo(P:Program)(C:Cfg)(b:Code)(Q:Ex→St→Prop):Ex→St→Prop| .norm,s=>W P C b s Q|e,s=>Q e s
theorem Zb{a b:Code}{s:St}(h: ∀b',b'=b→W P C a s (Xo P C b' Q)):W P C (.seq a b) s Q:=by obtain⟨ex,s1,h1,h2⟩:=h b rfl;unfold W;rw[Gf];simp only[Js,Zl1,h1];cases ex with|norm=>exact h2|exit j=>exact⟨_,_,rfl,h2⟩|ret=>exact⟨_,_,rfl,h2⟩|pan v=>exact⟨_,_,rfl,h2⟩
theorem Zi{s:St}(h:Q .norm s):W P C .skip s Q:=⟨.norm,s,by rw[Gf];rfl,h⟩
theorem Xy{i:Nat}{s:St}(h:Q (.exit i) s):W P C (.exit i) s Q:=⟨.exit i,s,by rw[Gf];rfl,h⟩
theorem Zm{s:St}(h:Q .ret s):W P C .ret s Q:=⟨.ret,s,by rw[Gf];rfl,h⟩
theorem Zc{x:Operand}{a b:Code}{s:St}{t:Bool}(hx:opd C s.tm x=some (.bool t))(h:W P C (cond t a b) s Q):W P C (.cond x a b) s Q:=by unfold W;rw[Gf];simp only[Js,Zl1,hx];exact h
def Xn(id:Nat)(Q:Ex→St→Prop):Ex→St→Prop| .exit j,s=>(j=id∧Q .norm s)∨(j≠id∧Q (.exit j) s)|e,s=>Q e s
theorem Zt{id:Nat}{b:Code}{s:St}(h:W P C b s (Xn id Q)):W P C (.block id b) s Q:=by obtain⟨ex,s1,h1,h2⟩:=h;unfold W;rw[Gf];simp only[Js,Zl1,h1];cases ex with
 |norm=>exact⟨_,_,rfl,h2⟩
 |exit j=>
  rcases h2 with⟨e,h2⟩|⟨e,h2⟩;·exact⟨.norm,s1,by simp only[Jq e,cond_true],h2⟩
  ·exact⟨.exit j,s1,by simp only[Qn e,cond_false],h2⟩
 |ret=>exact⟨_,_,rfl,h2⟩
 |pan v=>exact⟨_,_,rfl,h2⟩
theorem W_loop1{b:Code}{s:St}(h:W P C b s (Xo P C (.loop b) Q)):W P C (.loop b) s Q:=by obtain⟨ex,s1,h1,h2⟩:=h;unfold W;rw[Gf];simp only[Js,Zl1,h1];cases ex with|norm=>exact h2|exit j=>exact⟨_,_,rfl,h2⟩|ret=>exact⟨_,_,rfl,h2⟩|pan v=>exact⟨_,_,rfl,h2⟩
def Dc(I:Nat→St→Prop)(n:Nat)(Q:Ex→St→Prop):Ex→St→Prop| .norm,s=> ∃m,m<n∧I m s|e,s=>Q e s
theorem W_loop{b:Code}(I:Nat→St→Prop)(h: ∀n s,I n s→W P C b s (Dc I n Q)): ∀(n:Nat)(s:St),I n s→W P C (.loop b) s Q:=by intro n;induction n using Nat.strongRecOn with
 |_ n ih=>intro s hI;apply W_loop1;obtain⟨ex,s1,h1,h2⟩:=h n s hI;refine⟨ex,s1,h1,?_⟩;cases ex with|norm=>obtain⟨m,hm,hI'⟩:=h2;exact ih m hm s1 hI'|exit j=>exact h2|ret=>exact h2|pan v=>exact h2
theorem W.mono{c:Code}{s:St}{Q':Ex→St→Prop}(h:W P C c s Q)(hQ: ∀e s,Q e s→Q' e s):W P C c s Q':=by obtain⟨e,s1,h1,h2⟩:=h;exact⟨e,s1,h1,hQ _ _ h2⟩
theorem CW.mono{f:FuncId}{args:List Value}{H:AH}{Q Q':Value→AH→Prop}(h:CW P C f args H Q)(hQ: ∀v H',Q v H'→Q' v H'):CW P C f args H Q':=by obtain⟨v,H',h1,h2⟩:=h;exact⟨v,H',h1,hQ _ _ h2⟩
theorem Zj(k:Nat){f:FuncId}{fn:Func}{c:Code}{args:List Value}{H:AH}{R:Value→AH→Prop}(ha:Nat.beq f C.add=false)(hs:Nat.beq f C.sub=false)(hf:P.funcs[f]?=some fn)(hb:fn.body=some c)(hk:args.length+(fn.ntmps-args.length)=k)(h:W P C c { k:=k,tm:=Qb 0 args .nil,H:=H } fun ex s=>(ex= .norm∨ex= .ret)∧ ∃vs,Zu P s fn.results.toList=some vs∧R (Yw vs) s.H)(hd:Bz c=none:=by rfl):CW P C f args H R:=by
 subst hk;obtain⟨ex,s,h1,h2,vs,h3,h4⟩:=h;refine⟨Yw vs,s.H,?_,h4⟩;rw[Vc];unfold Qh Jx;rw[ha,cond_false,hs,cond_false,hf];simp only[hb,Dz,hd];show retOf (finO P fn (evI P C c _))=_;rw[h1];rcases h2 with rfl|rfl;·simp only[finO,h3,retOf]
 ·simp only[finO,h3,retOf]
def callOI(P:Program)(C:Cfg):FuncId→List Value→AH→Option (Out×AH):=Jx P C (lvI P C)
def CWO(P:Program)(C:Cfg)(f:FuncId)(args:List Value)(H:AH)(R:Out→AH→Prop):Prop:= ∃o H',callOI P C f args H=some (o,H')∧R o H'
theorem callOI_ret{f:FuncId}{args:List Value}{H:AH}{v:Value}{H':AH}(h:callOI P C f args H=some (.ret v,H')):Zq P C f args H=some (v,H'):=by rw[Vc];unfold Qh;have:Jx P C (lvI P C) f args H=_:=h;rw[this];rfl
theorem Zh0{f:FuncId}{args:List Value}{H:AH}{v:Value}{H':AH}(h:callOI P C f args H=some (.pan v,H')):callPI P C f args H=some (v,H'):=by unfold callPI Jc;have:Jx P C (lvI P C) f args H=_:=h;rw[this];rfl
theorem CWO_intro(k:Nat){f:FuncId}{fn:Func}{c:Code}{args:List Value}{H:AH}{R:Out→AH→Prop}(ha:Nat.beq f C.add=false)(hs:Nat.beq f C.sub=false)(hf:P.funcs[f]?=some fn)(hb:fn.body=some c)(hk:args.length+(fn.ntmps-args.length)=k)(h:W P C c { k:=k,tm:=Qb 0 args .nil,H:=H } fun ex s=>((ex= .norm∨ex= .ret)∧ ∃vs,Zu P s fn.results.toList=some vs∧R (.ret (Yw vs)) s.H)∨ ∃v,ex= .pan v∧R (.pan v) s.H)(hd:Bz c=none:=by rfl):CWO P C f args H R:=by
 subst hk;obtain⟨ex,s,h1,h2⟩:=h;unfold CWO callOI Jx;rw[ha,cond_false,hs,cond_false,hf];simp only[hb,Dz,hd];show∃o H',finO P fn (evI P C c _)=some (o,H')∧R o H';rw[h1];rcases h2 with⟨h2,vs,h3,h4⟩|⟨v,rfl,h4⟩
 ·refine⟨.ret (Yw vs),s.H,?_,h4⟩;rcases h2 with rfl|rfl;·simp only[finO,h3]
  ·simp only[finO,h3]
 ·exact⟨.pan v,s.H,rfl,h4⟩
def LP'(P:Program)(C:Cfg)(k:Nat):List SOp→Tr Value→AH→(Value→Tr Value→AH→Prop)→Prop
 |[],tm,H,K=>False
 |o::r,tm,H,K=>match gW tm o.grd with
  |some true=>match Yk P C (Zq P C) tm H o.op with
   |some (v,H')=>match o.dst with|none=>LP' P C k r tm H' K|some d=>d<k∧LP' P C k r (tm.set d v) H' K
   |none=>match Fp C (callPI P C) tm H o.op with|some (v,H')=>K v tm H'|none=>False
  |some false=>match o.dst with|none=>LP' P C k r tm H K|some d=>d<k∧LP' P C k r (tm.set d undef) H K
  |none=>False
theorem LP_list{ops:Array Oper}{k:Nat} : ∀(l:List Oper)(tm:Tr Value)(H:AH)(K:Value→Tr Value→AH→Prop),LP' P C k (Ye ops l) tm H K→ ∃v tm' H',Cc P C (Qh P C (lvI P C)) (Jc P C (lvI P C)) ops l ⟨k,tm,H⟩=some (.pan v,⟨k,tm',H'⟩)∧K v tm' H'
 |[],tm,H,K,h=>h.elim
 |o::r,tm,H,K,h=>by
  have put: ∀(v:Value)(H1:AH),(match o.dst with|none=>LP' P C k (Ye ops r) tm H1 K|some d=>d<k∧LP' P C k (Ye ops r) (tm.set d v) H1 K)→ ∃tm1,(St.put ⟨k,tm,H⟩ o.dst v H1)=some ⟨k,tm1,H1⟩∧LP' P C k (Ye ops r) tm1 H1 K:=fun v H1 h=>by cases hd:o.dst with
   |none=>rw[hd]at h;exact⟨tm,rfl,h⟩
   |some d=>
    rw[hd]at h;have:Nat.blt d k=true:=by rw[Nat.blt_eq];exact h.1
    exact⟨tm.set d v,by simp only[St.put,putSt,this,cond_true],h.2⟩
  simp only[Cc];rw[gW_eq];simp only[Ye,LP']at h;split at h
  ·rename_i hg;rw[hg];split at h;·rename_i v H1 hop;obtain⟨tm1,hput,hl⟩:=put v H1 h;obtain⟨v2,tm',H',h1,h2⟩:=LP_list r tm1 H1 K hl;refine⟨v2,tm',H',?_,h2⟩;rw[Vc]at hop;have hn:=Zh7 (u:=lvI P C) (v:=lvI P C) ⟨fun _ _ _ h=>h,fun _ _ _ _ h=>h⟩ hop;simp only[hn,hop,hput];exact h1
   ·split at h;·rename_i v H1 hp;refine⟨v,tm,H1,?_,h⟩;have hp:Fp C (Jc P C (lvI P C)) tm H o.op=some (v,H1):=hp;simp only[hp]
    ·exact h.elim
  ·rename_i hg;rw[hg];obtain⟨tm1,hput,hl⟩:=put undef H h;obtain⟨v2,tm',H',h1,h2⟩:=LP_list r tm1 H K hl;refine⟨v2,tm',H',?_,h2⟩;simp only[hput];exact h1
  ·exact h.elim
theorem W_rpan{i:Nat}{ops:Array Oper}{s:St}(h:LP' P C s.k (strip ops) s.tm s.H fun v tm' H'=>Q (.pan v) ⟨s.k,tm',H'⟩):W P C (.region i ops false) s Q:=by obtain⟨k,tm,H⟩:=s;obtain⟨v,tm',H',h1,h2⟩:=LP_list (ops:=ops) ops.toList tm H _ h;refine⟨.pan v,⟨k,tm',H'⟩,?_,h2⟩;rw[Gf];simp only[Js];have hn:=(Zb7 (u:=lvI P C) (v:=lvI P C) ⟨fun _ _ _ h=>h,fun _ _ _ _ h=>h⟩ _ _ _ h1).2;rw[Zh3,hn];exact h1
def WS(P:Program)(C:Cfg)(rv:Value)(c:Code)(s:St)(Q:Ex→St→Prop):Prop:= ∃ex s',evS P C (lvI P C) rv c s=some (ex,s')∧Q ex s'
theorem Vl{rv:Value}{id:Nat}{ops:Array Oper}{draw:Bool}{s:St}(ho:Cs ops=true)(h:W P C (.region id (ops.map (Vr rv)) draw) s fun ex s'=>ex= .norm∧Q .norm s'):WS P C rv (.region id ops draw) s Q:=by
 obtain⟨ex,s',h1,rfl,h2⟩:=h;refine⟨.norm,s',?_,h2⟩;simp only[evS];rw[ho,cond_true];rw[Gf]at h1;simp only[Js]at h1;show(match Qg P C (Zq P C) (ops.map (Vr rv)) draw s with|some s'=>some (Ex.norm,s')|none=>none)=_;rw[Vc];split at h1;·rename_i s1 hr;rw[hr];exact h1
 ·exfalso;cases draw with
  |true=>cases h1
  |false=>
   rw[cond_false]at h1;have: ∀(l:List Oper)(s:St)(s':St),Cc P C (Qh P C (lvI P C)) (Jc P C (lvI P C)) (ops.map (Vr rv)) l s≠some (.norm,s'):=by intro l;induction l with
    |nil=>intro s s' e;cases e
    |cons o r ih=>
     intro s s' e;simp only[Cc]at e;split at e<;>first|(cases e;done)|skip
     ·split at e;·cases e
      ·split at e<;>first|(cases e;done)|skip
       split at e<;>first|(cases e;done)|skip
       exact ih _ _ e
     ·split at e<;>first|(cases e;done)|skip
      exact ih _ _ e
   exact this _ _ _ h1
theorem WS_seq{rv:Value}{a b:Code}{s:St}(hf:Bk a=true)(h:WS P C rv a s fun ex s'=>ex= .norm∧W P C b s' fun ex s'=>(ex= .norm∨ex= .ret)∧Q ex s'):WS P C rv (.seq a b) s Q:=by obtain⟨ex,s1,h1,rfl,ex2,s2,h2,h3,h4⟩:=h;refine⟨ex2,s2,?_,h4⟩;simp only[evS,hf,cond_true,h1];show Zl6 (evI P C b s1)=_;rw[h2];rcases h3 with rfl|rfl<;>rfl
def CWD(P:Program)(C:Cfg)(g:FuncId)(args:List Value)(rv:Value)(H:AH)(K:AH→Prop):Prop:= ∃H',Zb6 P C (lvI P C) g args rv H=some H'∧K H'
theorem Vk(k:Nat){g:FuncId}{fn:Func}{c:Code}{args:List Value}{rv:Value}{H:AH}{K:AH→Prop}(hf:P.funcs[g]?=some fn)(hb:fn.body=some c)(hk:args.length+(fn.ntmps-args.length)=k)(h:WS P C rv c { k:=k,tm:=Qb 0 args .nil,H:=H } fun ex s=>(ex= .norm∨ex= .ret)∧ ∃vs,Zu P s fn.results.toList=some vs∧K s.H):CWD P C g args rv H K:=by
 subst hk;obtain⟨ex,s,h1,h2,vs,h3,h4⟩:=h;refine⟨s.H,?_,h4⟩;unfold Zb6;simp only[hf,hb,h1];rcases h2 with rfl|rfl;·simp only[h3]
 ·simp only[h3]
theorem CW_defer(k:Nat){f:FuncId}{fn:Func}{c a:Code}{ops:Array Oper}{o1:Oper}{dc:Call}{rest:Code}{args:List Value}{H:AH}{R:Value→AH→Prop}(ha:Nat.beq f C.add=false)(hs:Nat.beq f C.sub=false)(hf:P.funcs[f]?=some fn)(hb:fn.body=some c)(hk:args.length+(fn.ntmps-args.length)=k)(hd:Bz c=some (a,ops,o1,dc,rest))(h:W P C a { k:=k,tm:=Qb 0 args .nil,H:=H } fun ex s=>ex= .norm∧LW' P C s.k (Ye ops [o1]) s.tm s.H fun tm2 H2=> ∃g dargs,Qo C tm2 dc=some (g,dargs)∧W P C rest ⟨s.k,tm2,H2⟩ fun ex3 s3=> ∃rv,Kk ex3=some rv∧CWD P C g dargs rv s3.H fun H4=> ∃vs,Zu P ⟨s3.k,s3.tm,H4⟩ fn.results.toList=some vs∧R (Yw vs) H4):CW P C f args H R:=by subst hk;obtain⟨ex,s1,h1,rfl,h2⟩:=h;obtain⟨tm2,H2,h3,g,dargs,h4,ex3,s3,h5,rv,h6,H4,h7,vs,h8,h9⟩:=Zd7 [o1] _ _ _ h2;refine⟨Yw vs,H4,?_,h9⟩;rw[Vc];unfold Qh Jx;rw[ha,cond_false,hs,cond_false,hf];simp only[hb,Dz,hd];unfold Uu;have h1:(lvI P C).code a { k:=args.length+(fn.ntmps-args.length),tm:=Qb 0 args .nil,H:=H } =some (.norm,s1):=h1;have h3:Uk P C (lvI P C).call ops [o1] s1=some ⟨s1.k,tm2,H2⟩:=h3;have h5:(lvI P C).code rest ⟨s1.k,tm2,H2⟩=some (ex3,s3):=h5;simp only[h1,h3,h4,h5,h6,h7,h8,retOf]
variable {tm : Tr Value} {H : AH} {K : Value → AH → Prop}
end
end
end Go.Proofs.YtmkfecoeghokfaaGreatDoor.Ev
namespace Go.Proofs.YtmkfecoeghokfaaGreatDoor
open Go.ChangeShapes Go.WideShapes Go.ChangeAt Go.RowKit Go.Proofs.YtmkfecoeghokfaaGreatDoor.Ev
set_option linter.unusedVariables false
noncomputable section
set_option maxHeartbeats 1000000
def cfg0:Cfg:= { ng:=0,add:=203,sub:=206 }
theorem names_ok:(Tryz.prog.funcs.toList.all fun fn=>fn.body.isNone||!(fn.name== "runtime.NumGoroutine"))=true:=by kernel_rfl
theorem cfg_ok (n : Nat) : CfgOk Tryz.prog { cfg0 with ng := n } where
  mixed := Tryz.checked.mixed
  names := fun f fn hf hb => by
    have h := List.all_eq_true.mp names_ok fn (by rw [Array.mem_toList_iff]; exact Array.mem_of_getElem? hf)
    cases hbody : fn.body with
    | none => rw [hbody] at hb; cases hb
    | some c =>
      rw [hbody] at h
      simpa using h
  add := ⟨Tryz.f203, Tryz.func203, by kernel_rfl, by kernel_rfl, by kernel_rfl, by kernel_rfl⟩
  sub := ⟨Tryz.f206, Tryz.func206, by kernel_rfl, by kernel_rfl, by kernel_rfl, by kernel_rfl⟩
end
end Go.Proofs.YtmkfecoeghokfaaGreatDoor
namespace Go.Proofs.YtmkfecoeghokfaaGreatDoor
open Go.ChangeShapes Go.WideShapes Go.ChangeAt Go.RowKit Go.Proofs.YtmkfecoeghokfaaGreatDoor.Ev
set_option linter.unusedVariables false
noncomputable section
set_option linter.unusedSimpArgs false
set_option maxHeartbeats 1000000
def lz(k:Int)(s:List UInt8)(a:Int):List Value:=[.int .i64 k,.string ⟨s.toArray⟩,.int .i64 a]
def rowD(k:Int)(s:List UInt8)(a:Int){H:Type} :DataW H:= .agg [.lit (.int .i64 k),.lit (.string s),.lit (.int .i64 a)]
def Zf6:List (Int×List UInt8×Int):=[(0,[],0),(1,[112,105],0),(2,[45],1),(3,[43],2),(4,[45],2),(5,[42],2),(6,[47],2),(7,[97,98,115],1),(8,[109,105,110],2),(9,[109,97,120],2),(10,[115,113,114,116],1),(11,[101,120,112],1),(12,[108,110],1),(13,[115,105,110],1),(14,[99,111,115],1),(15,[97,116,97,110],1)]
def Vv:List Value:=Zf6.flatMap fun x=>lz x.1 x.2.1 x.2.2
theorem laid_rows{H:Type} :(Rows.laid_surd_expr_rows:DataW H)= .agg (Zf6.map fun x=>rowD x.1 x.2.1 x.2.2):=rfl
theorem gRows:Tryz.prog.globalNamed "surd/expr.rows"=some 0:=by kernel_rfl
theorem tRows:(Tryz.prog.globals[0]?).map (·.type)=some 181:=by kernel_rfl
theorem uRows:Tryz.prog.underlying 181=some (.array 16 180):=by kernel_rfl
theorem uRow: ∃f0 f1 f2,Tryz.prog.underlying 180=some (.struct #[f0,f1,f2])∧f0.type=50∧f0.offset=0∧f1.type=9∧f1.offset=1∧f2.type=3∧f2.offset=2:=⟨_,_,_,Tryz.underlying180,rfl,rfl,rfl,rfl,rfl,rfl⟩
theorem uOp:Tryz.prog.underlying 50=some (.int .i64):=by kernel_rfl
theorem cOp:Tryz.prog.cellsOf 50=1:=by kernel_rfl
theorem cStr:Tryz.prog.cellsOf 9=1:=by kernel_rfl
theorem cInt:Tryz.prog.cellsOf 3=1:=by kernel_rfl
theorem cRow:Tryz.prog.cellsOf 180=3:=by kernel_rfl
theorem cRows:Tryz.prog.cellsOf 181=48:=by kernel_rfl
section
variable {H : Type} {enc : TypeId × Value → H} {w : World} {base : Nat} {sp : Nat → Bool} {held : Bool}
theorem row_of{m:Nat}{l:List Value}{k:Int}{s:List UInt8}{a:Int}{p:List MemPlace}(h:DataW.trod enc Tryz.prog w base sp held m 180 l=some (rowD k s a,p)):l=lz k s a:=by obtain⟨f0,f1,f2,hu,e1,e2,e3,e4,e5,e6⟩:=uRow;obtain⟨y0,y1,y2,n,hx,hl,h0,h1,h2⟩:=Deep.trod_struct3 hu h;rw[e1,e2,cOp]at h0;rw[e3,e4,cStr]at h1;rw[e5,e6,cInt]at h2;rw[cRow]at hl;obtain⟨n0,c0,x0,_⟩:=DataW.trod_int uOp h0;obtain⟨s1,c1,x1,_⟩:=DataW.trod_string Tryz.underlying9 h1;obtain⟨n2,c2,x2,_⟩:=DataW.trod_int Tryz.underlying3 h2;subst x0;subst x1;subst x2;simp only[rowD,Prod.mk.injEq,DataW.agg.injEq,List.cons.injEq,DataW.lit.injEq,Lit.int.injEq,Lit.string.injEq,true_and,and_true]at hx;obtain⟨⟨rfl,rfl,rfl⟩,_⟩:=hx;match l,hl with|[a0,a1,a2],_=>simp at c0 c1 c2;subst c0;subst c1;subst c2;rfl
theorem rows_of{fuel:Nat}{cs:List Value}{p:List MemPlace}(h:DataW.trod enc Tryz.prog w base sp held fuel 181 cs=some (Rows.laid_surd_expr_rows,p)):cs=Vv:=by
 obtain⟨xs,m,_,hx,hl,hn,hel⟩:=DataW.trod_array uRows h;rw[cRows]at hl;rw[laid_rows]at hx;simp only[Prod.mk.injEq,DataW.agg.injEq]at hx;have key: ∀i,i<16→(cs.drop (i*3)).take 3=(Vv.drop (i*3)).take 3:=by
  intro i hi;have h1:=hel i hi;rw[cRow]at h1;have h2:(xs.map (·.1))[i]?=some (rowD ((Zf6[i]?.getD (0,[],0))).1 (Zf6[i]?.getD (0,[],0)).2.1 (Zf6[i]?.getD (0,[],0)).2.2):=by rw[←hx.1,List.getElem?_map,List.getElem?_eq_getElem (show i<Zf6.length from hi)];rfl
  rw[List.getElem?_map]at h2;cases hxi:xs[i]? with
   |none=>rw[hxi]at h2;cases h2
   |some y=>
    rw[hxi]at h1 h2;obtain⟨y1,y2⟩:=y;simp only[Option.map_some,Option.some.injEq]at h2;subst h2;rw[row_of h1];clear h1 hx hel hn hl h hxi;have:i=0∨i=1∨i=2∨i=3∨i=4∨i=5∨i=6∨i=7∨i=8∨i=9∨i=10∨i=11∨i=12∨i=13∨i=14∨i=15:=by omega
    rcases this with rfl|rfl|rfl|rfl|rfl|rfl|rfl|rfl|rfl|rfl|rfl|rfl|rfl|rfl|rfl|rfl<;>rfl
 apply List.ext_getElem?;intro k;by_cases hk:k<48
 ·have:=key (k/3) (by omega);have h3:=congrArg (fun l=>l[k%3]?) this;simp only[List.getElem?_take,List.getElem?_drop]at h3;rw[if_pos (Nat.mod_lt _ (by decide)),if_pos (Nat.mod_lt _ (by decide))]at h3;have e:k/3*3+k%3=k:=by omega
  rw[e]at h3;exact h3
 ·rw[List.getElem?_eq_none (by omega),List.getElem?_eq_none (by show Vv.length≤k;have:Vv.length=48:=rfl;omega)]
end
theorem of_laid{W:World}(h:laidMetH Tryz.prog [("surd/expr.rows",Rows.laid_surd_expr_rows)] W): ∀k v,Vv[k]?=some v→W.cell? ⟨0,k,none⟩=some v:=by rw[MakeChecks.laidMetH_plain _ _ _ (by kernel_rfl)]at h;obtain⟨ps,⟨g0,t0,cs0,f0,p0,q0,hg0,ht0,hv0,hd0,_⟩,_,_⟩:=h;obtain rfl:=Option.some.inj (gRows.symm.trans hg0);obtain rfl:=Option.some.inj (tRows.symm.trans ht0);have hc:=rows_of hd0;intro k v hk;rw[World.var?_cell hg0 hv0 k,←hk,←hc];simp
def Zm1:AH:= { n:=0+1,lw:=0+1,t:=Tr.nil.set 0 (.ro 3 Vv) }
def Zo:Cfg:= { cfg0 with ng:=0+1 }
def rowsL:Nat→Ev.Loc:=fun i=>⟨i,0,3,48⟩
def rowsS:Nat→Prop:=fun i=>i<0+1
theorem rows_go:GO Zo rowsS rowsL:=fun g hg=>⟨hg,rfl,rfl⟩
theorem rows_plain:Vv.all Yg=true:=rfl
theorem vr_plain1{S:Nat→Prop}{L:Nat→Ev.Loc}{v:Value}(h:Yg v=true):VR S L v v:=by exact Zf5 h
theorem rowsHeap_inv{w:World}(h: ∀k v,Vv[k]?=some v→w.cell? ⟨0,k,none⟩=some v):Inv w.heap.size rowsS rowsL Zm1 w:=by
 have hblk: ∀i b,Zm1.blk i=b→b≠ .dead→i=0∧b= .ro 3 Vv:=by
  intro i b hb hd;by_cases hi:i=0;·subst hi;exact⟨rfl,by rw[←hb];rfl⟩
  ·exfalso;apply hd;rw[←hb];unfold AH.blk Zm1;simp only[Tr.get_set,if_neg hi,Tr.get_nil]
 have h0:=h 0 _ rfl;have hsz:0<w.heap.size:=by
  by_cases hx:0<w.heap.size;·exact hx
  ·exfalso;have:w.heap[0]?=none:=Array.getElem?_eq_none (by omega);simp[World.cell?,this]at h0
 refine⟨fun i sz cs hb=>?_,fun i sz cs hb=>?_,fun i j a b c d hb=>?_,fun i hi=>hi,Nat.le_refl _⟩
 ·obtain⟨rfl,he⟩:=hblk i _ hb (by intro e;cases e);cases he;refine⟨Nat.lt_succ_self _,hsz,rfl,fun k v hk=>⟨v,?_,?_⟩⟩;·have:=h k v hk;simpa[rowsL]using this
  ·exact vr_plain1 (List.all_eq_true.mp rows_plain v (List.mem_of_getElem? hk))
 ·obtain⟨_,he⟩:=hblk i _ hb (by intro e;cases e);cases he
 ·obtain⟨_,he⟩:=hblk i _ hb (by intro e;cases e);cases he
end
end Go.Proofs.YtmkfecoeghokfaaGreatDoor
namespace Go.Proofs.YtmkfecoeghokfaaGreatDoor
set_option linter.unusedVariables false
set_option linter.unusedSimpArgs false
set_option maxHeartbeats 1000000
def Xm:List Nat→List Nat
 |[]=>[]
 |x::xs=>match Xm xs with|[]=>if x=0 then[]else[x]|y::ys=>x::y::ys
theorem Kv: ∀(xs:List Nat),Xm (xs++[0])=Xm xs|[]=>rfl|x::xs=>by simp[Xm,Kv xs]
theorem Ck: ∀(xs:List Nat)(x:Nat),x≠0→Xm (xs++[x])=xs++[x]|[],x,h=>by simp[Xm,h]|y::xs,x,h=>by have:=Ck xs x h;simp only[List.cons_append,Xm,this];cases xs<;>rfl
theorem Jj(xs:List Nat):(Xm xs).length≤xs.length:=by induction xs with
 |nil=>simp[Xm]
 |cons x xs ih=>
  simp only[Xm];split;·split<;>simp
  ·rename_i y ys e;rw[e]at ih;simp at ih⊢;exact ih
def Dig(B:Nat)(xs:List Nat):Prop:= ∀x∈xs,x<B
theorem Dig.nil(B:Nat):Dig B []:=fun x h=>by cases h
theorem Dig.cons{B x:Nat}{xs:List Nat}(h:x<B)(hs:Dig B xs):Dig B (x::xs):=fun y hy=>by
 rcases List.mem_cons.mp hy with e|e;·rw[e];exact h
 ·exact hs y e
theorem Dig.tail{B x:Nat}{xs:List Nat}(h:Dig B (x::xs)):Dig B xs:=fun y hy=>h y (List.mem_cons_of_mem _ hy)
theorem Dig.head{B x:Nat}{xs:List Nat}(h:Dig B (x::xs)):x<B:=h x (List.mem_cons_self ..)
theorem Dig.append{B:Nat}{xs ys:List Nat}(h:Dig B xs)(h':Dig B ys):Dig B (xs++ys):=fun y hy=>by
 rcases List.mem_append.mp hy with e|e;·exact h y e
 ·exact h' y e
theorem Dig.get{B:Nat}{xs:List Nat}(h:Dig B xs){i x:Nat}(hi:xs[i]?=some x):x<B:=h x (List.mem_of_getElem? hi)
theorem Dig.take{B:Nat}{xs:List Nat}(h:Dig B xs)(n:Nat):Dig B (xs.take n):=fun y hy=>h y (List.mem_of_mem_take hy)
theorem Dig.drop{B:Nat}{xs:List Nat}(h:Dig B xs)(n:Nat):Dig B (xs.drop n):=fun y hy=>h y (List.mem_of_mem_drop hy)
def dv(B:Nat):List Nat→Nat|[]=>0|x::xs=>x+B*dv B xs
theorem Yy(B:Nat): ∀(xs ys:List Nat),dv B (xs++ys)=dv B xs+B^xs.length*dv B ys|[],ys=>by simp[dv]|x::xs,ys=>by simp only[List.cons_append,dv,Yy B xs ys,List.length_cons,Nat.pow_succ,Nat.mul_add];rw[Nat.add_assoc,←Nat.mul_assoc,Nat.mul_comm B (B^_)]
theorem Vh{B:Nat} : ∀{xs:List Nat},Dig B xs→dv B xs<B^xs.length
 |[],_=>by simp[dv]
 |x::xs,h=>by
  have h1:=h.head;have h2:=Vh h.tail;simp only[dv,List.length_cons,Nat.pow_succ];have:B*dv B xs+B≤B*B^xs.length:=by rw[←Nat.mul_succ];exact Nat.mul_le_mul_left _ h2
  rw[Nat.mul_comm (B^_) B];omega
theorem Fh(B:Nat): ∀n,dv B (List.replicate n 0)=0|0=>rfl|n+1=>by simp[List.replicate_succ,dv,Fh B n]
theorem Vp(B:Nat): ∀(xs:List Nat),dv B (Xm xs)=dv B xs
 |[]=>rfl
 |x::xs=>by
  have ih:=Vp B xs;simp only[Xm];split
  ·rename_i e;rw[e]at ih;simp only[dv]at ih⊢;split;·rename_i h;simp[dv,h,←ih]
   ·simp[dv,←ih]
  ·rename_i y ys e;rw[e]at ih;simp only[dv]at ih⊢;rw[ih]
theorem Ji{B:Nat} : ∀{xs:List Nat},Dig B xs→Dig B (Xm xs)
 |[],h=>h
 |x::xs,h=>by
  have ih:=Ji h.tail;simp only[Xm];split
  ·split;·exact .nil B
   ·exact .cons h.head (.nil B)
  ·rename_i y ys e;rw[e]at ih;exact .cons h.head ih
theorem Cj: ∀(xs:List Nat),Xm (Xm xs)=Xm xs
 |[]=>rfl
 |x::xs=>by
  have ih:=Cj xs;simp only[Xm];split
  ·split;·rfl
   ·rename_i h;simp[Xm,h]
  ·rename_i y ys e;rw[e]at ih;simp only[Xm]at ih⊢;rw[ih]
def ds(B:Nat)(n:Nat):List Nat:=if h:n=0∨B<2 then[]else n%B::ds B (n/B) termination_by n decreasing_by exact Nat.div_lt_self (by omega) (by omega)
theorem Jb(B:Nat):ds B 0=[]:=by rw[ds];simp
theorem Eu{B n:Nat}(hB:2≤B)(hn:n≠0):ds B n=n%B::ds B (n/B):=by rw[ds,dif_neg (by omega)]
theorem Xx{B:Nat}(hB:2≤B)(n:Nat):dv B (ds B n)=n:=by induction n using Nat.strongRecOn with
 |_ n ih=>
  by_cases h:n=0;·subst h;rw[Jb];rfl
  ·rw[Eu hB h];simp only[dv];rw[ih (n/B) (Nat.div_lt_self (by omega) (by omega))];exact Nat.mod_add_div n B
theorem Xj{B:Nat}(hB:2≤B)(n:Nat):Dig B (ds B n):=by induction n using Nat.strongRecOn with
 |_ n ih=>
  by_cases h:n=0;·subst h;rw[Jb];exact .nil B
  ·rw[Eu hB h];exact .cons (Nat.mod_lt _ (by omega)) (ih (n/B) (Nat.div_lt_self (by omega) (by omega)))
theorem Zg7(B:Nat)(hB:2≤B): ∀{xs:List Nat},dv B xs=0→Xm xs=[]
 |[],_=>rfl
 |x::xs,h=>by
  simp only[dv]at h;have h1:x=0:=by omega
  have h2:dv B xs=0:=by
   have:B*dv B xs=0:=by omega
   rcases Nat.mul_eq_zero.mp this with e|e;·omega
   ·exact e
  simp[Xm,Zg7 B hB h2,h1]
theorem Qr{B:Nat}(hB:2≤B): ∀{xs:List Nat},Dig B xs→Xm xs=ds B (dv B xs)
 |[],_=>(Jb B).symm
 |x::xs,h=>by
  have ih:=Qr hB h.tail;have hx:=h.head;by_cases h0:dv B (x::xs)=0;·rw[h0,Jb];exact Zg7 B hB h0
  ·have e1:(x+B*dv B xs)%B=x:=by rw[Nat.add_mul_mod_self_left];exact Nat.mod_eq_of_lt hx
   have e2:(x+B*dv B xs)/B=dv B xs:=by rw[Nat.add_mul_div_left _ _ (by omega),Nat.div_eq_of_lt hx,Nat.zero_add]
   rw[Eu hB h0];simp only[dv,e1,e2];rw[←ih];simp only[Xm];split
   ·rename_i e;split
    ·rename_i hz;exfalso;apply h0;have:dv B xs=0:=by rw[←Vp B xs,e];rfl
     simp[dv,hz,this]
    ·rw[e]
   ·rename_i y ys e;rw[e]
theorem Ze2{B:Nat}(hB:2≤B)(n:Nat):Xm (ds B n)=ds B n:=by rw[Qr hB (Xj hB n),Xx hB]
theorem Jr{B:Nat}(hB:2≤B): ∀{k n:Nat},n<B^k→(ds B n).length≤k
 |0,n,h=>by
  have:n=0:=by simpa using h
  subst this;rw[Jb];exact Nat.le_refl _
 |k+1,n,h=>by
  by_cases h0:n=0;·subst h0;rw[Jb];exact Nat.zero_le _
  ·rw[Eu hB h0];have:n/B<B^k:=by rw[Nat.div_lt_iff_lt_mul (by omega)];rw[Nat.pow_succ]at h;exact h
   simpa using Jr hB this
theorem ds_lt{B:Nat}(hB:2≤B)(n:Nat):n<B^(ds B n).length:=by have:=Vh (Xj hB n);rwa[Xx hB]at this
theorem ds_ge{B:Nat}(hB:2≤B){n:Nat}(hn:n≠0):B^((ds B n).length-1)≤n:=by
 rcases Nat.lt_or_ge n (B^((ds B n).length-1))with h|h
 ·have:=Jr hB h;have h2:(ds B n).length≠0:=by rw[Eu hB hn];simp
  omega
 ·exact h
theorem dv_cmp{B:Nat}{xs ys:List Nat}{x y:Nat}(h1:Dig B xs)(h2:Dig B ys)(hl:xs.length=ys.length)(h:x<y)(zs:List Nat):dv B (xs++x::zs)<dv B (ys++y::zs):=by
 rw[Yy,Yy,←hl];simp only[dv];have a:=Vh h1;have hm:B^xs.length*(x+1+B*dv B zs)≤B^xs.length*(y+B*dv B zs):=Nat.mul_le_mul_left _ (by omega);have e:B^xs.length*(x+1+B*dv B zs)=B^xs.length*(x+B*dv B zs)+B^xs.length:=by rw[show x+1+B*dv B zs=(x+B*dv B zs)+1 by omega,Nat.mul_succ]
 omega
end Go.Proofs.YtmkfecoeghokfaaGreatDoor
namespace Go.Proofs.YtmkfecoeghokfaaGreatDoor
open Go Ev
set_option linter.unusedVariables false
set_option linter.unusedSimpArgs false
noncomputable section
set_option maxRecDepth 20000
set_option maxHeartbeats 1000000
theorem uNat:Tryz.prog.underlying 30=some (.slice 101):=by kernel_rfl
theorem uNum:Tryz.prog.underlying 37=some (.slice 101):=by kernel_rfl
theorem uLst:Tryz.prog.underlying 25=some (.slice 101):=by kernel_rfl
theorem sU64:Qq Tryz.prog 101=some 1:=by kernel_rfl
theorem aU64:Jd Tryz.prog 101=some false:=by kernel_rfl
theorem tNat:Uy Tryz.prog 30=some (101,1,8):=by kernel_rfl
theorem tNum:Uy Tryz.prog 37=some (101,1,8):=by kernel_rfl
theorem tLst:Uy Tryz.prog 25=some (101,1,8):=by kernel_rfl
theorem zU64:Us Tryz.prog 101=some (.int .u64 0):=by kernel_rfl
def LT(t:TypeId):Prop:=Tryz.prog.underlying t=some (.slice 101)∧Uy Tryz.prog t=some (101,1,8)
theorem Zn:LT 30:=⟨uNat,tNat⟩
theorem Qa:LT 37:=⟨uNum,tNum⟩
theorem Jl:LT 25:=⟨uLst,tLst⟩
def At(H:AH)(b o:Nat)(xs:List Nat):Prop:=b<H.n∧ ∃cs,H.cells b=some cs∧H.size b=some 1∧(∀(i x:Nat),xs[i]?=some x→cs[o+i]?=some (.int .u64 (x:Int)))∧o≤cs.length
inductive Sl(H:AH):Value→List Nat→Prop|nil:Sl H (.slice none 0 0) []|emp(b:Nat):Sl H (.slice (some ⟨b,0,some 0⟩) 0 0) []|mk(b o cap:Nat)(xs:List Nat):xs.length≤cap→At H b o xs→Sl H (.slice (some ⟨b,o,none⟩) xs.length cap) xs
structure Keep (H H' : AH) : Prop where
  n : H.n ≤ H'.n
  lw : min H.lw H.n ≤ H'.lw
  blk : ∀ j, j < H.n → H'.blk j = H.blk j
theorem Keep.refl(H:AH):Keep H H:=⟨Nat.le_refl _,Nat.min_le_left _ _,fun _ _=>rfl⟩
theorem Keep.trans{H H1 H2:AH}(a:Keep H H1)(b:Keep H1 H2):Keep H H2:=⟨Nat.le_trans a.n b.n,by have:=a.n;have:=a.lw;have:=b.lw;omega,fun j hj=>(b.blk j (Nat.lt_of_lt_of_le hj a.n)).trans (a.blk j hj)⟩
theorem At.keep{H H':AH}{b o:Nat}{xs:List Nat}(h:At H b o xs)(k:Keep H H'):At H' b o xs:=by obtain⟨h1,cs,h2,h3,h4⟩:=h;have e:=k.blk b h1;exact⟨Nat.lt_of_lt_of_le h1 k.n,cs,by unfold AH.cells;rw[e];exact h2,by unfold AH.size;rw[e];exact h3,h4⟩
theorem Sl.keep{H H':AH}{v:Value}{xs:List Nat}(h:Sl H v xs)(k:Keep H H'):Sl H' v xs:=by cases h with|nil=>exact .nil|emp b=>exact .emp b|mk b o cap xs h1 h2=>exact .mk b o cap xs h1 (h2.keep k)
theorem Sl.len{H:AH}{v:Value}{xs:List Nat}(h:Sl H v xs){t:TypeId}(ht:LT t):lenV Tryz.prog t v=some xs.length:=by unfold lenV;rw[ht.1];cases h<;>rfl
def adr(v:Value)(i:Nat):Value:=match v with| .slice (some ⟨b,o,none⟩) _ _=> .pointer (some ⟨b,o+i,none⟩)|_=> .pointer none
theorem Sl.adr{H:AH}{v:Value}{xs:List Nat}(h:Sl H v xs){t:TypeId}(ht:LT t){i:Nat}{k:IntKind}(hi:i<xs.length):Yu Tryz.prog t v (.int k (i:Int))=some (adr v i):=by cases h with|nil=>cases hi|emp b=>cases hi|mk b o cap xs h1 h2=>unfold Yu Go.Proofs.YtmkfecoeghokfaaGreatDoor.adr;simp only[ht.1,sU64];rw[if_pos (by omega)];simp
theorem Sl.load{H:AH}{v:Value}{xs:List Nat}(h:Sl H v xs){i:Nat}(hi:i<xs.length):Ys Tryz.prog H 101 (Go.Proofs.YtmkfecoeghokfaaGreatDoor.adr v i)=some (.int .u64 (xs[i]:Nat)):=by cases h with|nil=>cases hi|emp b=>cases hi|mk b o cap xs h1 h2=>obtain⟨_,cs,h3,h4,h5⟩:=h2;unfold Ys Go.Proofs.YtmkfecoeghokfaaGreatDoor.adr;simp only[aU64,h3];exact h5.1 i _ (List.getElem?_eq_getElem hi)
theorem Zm7{n:Nat}(h:n<9223372036854775808):IntKind.i64.wrap (n:Int)=(n:Int):=by rw[IntKind.wrap_i64];omega
theorem Zo1{n:Nat}(h0:0<n)(h:n<9223372036854775808):IntKind.i64.wrap ((n:Int)-1)=((n-1:Nat):Int):=by rw[IntKind.wrap_i64];omega
theorem Sl.cut{H:AH}{v:Value}{xs:List Nat}(h:Sl H v xs){t:TypeId}(ht:LT t){m:Nat}(hm:m≤xs.length)(h0:0<xs.length): ∃v',Uz Tryz.prog H t v none (some (.int .i64 (m:Int))) none=some v'∧Sl H v' (xs.take m):=by cases h with
 |nil=>cases h0
 |emp b=>cases h0
 |mk b o cap xs h1 h2=>
  have hl:(xs.take m).length=m:=by rw[List.length_take];omega
  obtain⟨h2a,cs,h3,h4,h5⟩:=h2;refine⟨.slice (some ⟨b,o,none⟩) (xs.take m).length cap,?_,.mk b o cap _ (by omega) ⟨h2a,cs,h3,h4,fun i x hx=>h5.1 i x ?_,h5.2⟩⟩;·unfold Uz;simp only[ht.1,sU64];unfold cutV Qt;simp only[h4,Option.isSome_some,Option.isNone_none,Bool.true_or];rw[if_pos (by omega)];have e1:Nat.ble m cap=true:=Nat.ble_eq.mpr (by omega);simp[Qt,e1,hl]
  ·rw[List.getElem?_take]at hx;split at hx;·exact hx
   ·cases hx
section
attribute [local simp] strip Ye LW' gW Yk Xc Zz Xd Yn Xe Zr Zs Zg Yo Yz Yj Yp Zh Xa opd Qd Yl plain Yg Tr.get_set Qb Zp Xv Yc sameKind Zd undef Zu Yr Yw Zn Qa Jl
theorem Uo{v:Value}{xs:List Nat}{H:AH}(hs:Sl H v xs)(hlen:xs.length<1152921504606846976):CW Tryz.prog Zo 160 [v] H fun v' H'=>H'=H∧Sl H v' (Xm xs):=by
 refine Zj 21 (by decide) (by decide) Tryz.func160 rfl rfl ?_;apply Zb;intro b1 hb1;apply Za;simp;subst hb1;apply Zb;intro b1 hb1;apply Zt;refine W_loop (fun n s=>s.k=21∧s.H=H∧ ∃v',s.tm.get 0=some v'∧n≤xs.length∧Sl H v' (xs.take n)∧Xm (xs.take n)=Xm xs) ?_ xs.length _ ⟨rfl,rfl,v,by simp,Nat.le_refl _,by rw[List.take_length];exact hs,by rw[List.take_length]⟩;rintro n ⟨k,tm,H'⟩ ⟨h2,h3,v',h4,h5,h6,h7⟩;simp only at h2 h3 h4;subst h2;subst h3;have hl:(xs.take n).length=n:=by rw[List.length_take];omega
 have hlenv:=h6.len Zn;rw[hl]at hlenv;apply Zb;intro b2 hb2;apply Zb;intro b3 hb3;apply Za;by_cases hz:n=0;·subst hz;simp[h4,hlenv];subst hb3;refine Zc (t:=false) (by simp) ?_;apply Xy;left;refine⟨rfl,?_⟩;subst hb1;apply Zb;intro b4 hb4;apply Za;simp[h4];subst hb4;apply Zm;simp;rw[←h7];exact h6
 ·have hn:0<n:=Nat.pos_of_ne_zero hz;have hw:IntKind.i64.wrap ((n:Int)-1)=((n-1:Nat):Int):=Zo1 hn (by omega);have hi:n-1<(xs.take n).length:=by omega
  have ha:=h6.adr Zn (k:= .i64) hi;have hld:=h6.load hi;simp[h4,hlenv,hn,hw,ha,hld];subst hb3;have hx:n-1<xs.length:=by omega
  have htake:xs.take n=xs.take (n-1)++[xs[n-1]]:=by have:=List.take_append_getElem (l:=xs) (i:=n-1) hx;rw[this,show n-1+1=n by omega]
  by_cases h0:xs[n-1]=0
  ·refine Zc (t:=true) (by simp[h0]) ?_;apply Zi;subst hb2;apply Zt;apply Za;obtain⟨v2,hv2,hs2⟩:=h6.cut Zn (m:=n-1) (by omega) (by omega);simp[h4,hlenv,hw,hv2];refine⟨n-1,by omega,rfl,rfl,v2,by simp,by omega,?_,?_⟩;·rw[List.take_take,show min (n-1) n=n-1 by omega]at hs2;exact hs2
   ·rw[←h7,htake,h0,Kv]
  ·refine Zc (t:=false) (by simp;exact h0) ?_;apply Xy;left;refine⟨rfl,?_⟩;subst hb1;apply Zb;intro b4 hb4;apply Za;simp[h4];subst hb4;apply Zm;simp;rw[←h7];have:Xm (xs.take n)=xs.take n:=by rw[htake];exact Ck _ _ h0
   rw[this];exact h6
end
def Gk(x:Nat):Value:= .int .u64 (x:Int)
inductive Own(n:Nat)(H:AH):Value→List Nat→Prop|nil:Own n H (.slice none 0 0) []|mk(b o cap:Nat)(xs:List Nat)(cs:List Value):xs.length≤cap→n≤b→b<H.n→H.blk b= .rw 1 cs→o+cap≤cs.length→(∀(i x:Nat),xs[i]?=some x→cs[o+i]?=some (Gk x))→Own n H (.slice (some ⟨b,o,none⟩) xs.length cap) xs
theorem Own.sl{n:Nat}{H:AH}{v:Value}{xs:List Nat}(h:Own n H v xs):Sl H v xs:=by cases h with|nil=>exact .nil|mk b o cap xs cs h1 h2 h3 h4 h5 h6=>exact .mk b o cap xs h1 ⟨h3,cs,by unfold AH.cells;rw[h4],by unfold AH.size;rw[h4],h6,by omega⟩
theorem Own.mono{n m:Nat}{H H':AH}{v:Value}{xs:List Nat}(h:Own n H v xs)(hn:m≤n)(k:Keep H H'):Own m H' v xs:=by cases h with|nil=>exact .nil|mk b o cap xs cs h1 h2 h3 h4 h5 h6=>exact .mk b o cap xs cs h1 (Nat.le_trans hn h2) (Nat.lt_of_lt_of_le h3 k.n) (by rw[k.blk b h3];exact h4) h5 h6
theorem AH.blk_new(H:AH)(sz:Nat)(cs:List Value)(j:Nat):(H.new sz cs).blk j=if j=H.n then .rw sz cs else H.blk j:=by
 unfold AH.new AH.blk;simp only[Tr.get_set];by_cases e:j=H.n;·rw[if_pos e,if_pos e]
 ·rw[if_neg e,if_neg e]
theorem Keep.new(H:AH)(sz:Nat)(cs:List Value):Keep H (H.new sz cs):=⟨Nat.le_succ _,Nat.min_le_left _ _,fun j hj=>by rw[AH.blk_new,if_neg (by omega)]⟩
theorem Own.new(H:AH)(xs:List Nat):Own H.n (H.new 1 (xs.map Gk)) (.slice (some ⟨H.n,0,none⟩) xs.length xs.length) xs:= .mk H.n 0 xs.length xs (xs.map Gk) (Nat.le_refl _) (Nat.le_refl _) (Nat.lt_succ_self _) (by rw[AH.blk_new,if_pos rfl]) (by simp) (fun i x h=>by simp[h])
theorem list_of{cs:List Value}{o:Nat}{xs:List Nat}(h0:0<xs.length)(h: ∀(i x:Nat),xs[i]?=some x→cs[o+i]?=some (Gk x)):o+xs.length≤cs.length∧(cs.drop o).take xs.length=xs.map Gk:=by
 have hl:o+xs.length≤cs.length:=by have:=h (xs.length-1) _ (List.getElem?_eq_getElem (by omega));have:=(List.getElem?_eq_some_iff.mp this).1;omega
 refine⟨hl,List.ext_getElem? fun i=>?_⟩;rw[List.getElem?_take,List.getElem?_drop,List.getElem?_map];by_cases hi:i<xs.length;·rw[if_pos hi,List.getElem?_eq_getElem hi,Option.map_some];exact h i _ (List.getElem?_eq_getElem hi)
 ·rw[if_neg hi,List.getElem?_eq_none (by omega)];rfl
theorem Sl.cells{H:AH}{v:Value}{xs:List Nat}(h:Sl H v xs)(h0:0<xs.length):Vb H 1 v xs.length=some (xs.map Gk):=by cases h with|nil=>cases h0|emp b=>cases h0|mk b o cap xs h1 h2=>obtain⟨_,cs,h3,h4,h5⟩:=h2;obtain⟨h6,h7⟩:=list_of h0 h5.1;have:Nat.ble (o+xs.length) cs.length=true:=Nat.ble_eq.mpr (by omega);simp only[Vb,AH.read_def,h3,this,cond_true,Nat.mul_one,h7]
theorem Sl.copyNew{H:AH}{v:Value}{xs:List Nat}(h:Sl H v xs)(hl:xs.length≤17592186044416){t t2:TypeId}(ht:LT t)(ht2:LT t2): ∃v' H',Ve Tryz.prog H t t2 (.slice none 0 0) v=some (v',H')∧Keep H H'∧Own H.n H' v' xs:=by
 by_cases h0:xs.length=0;·obtain rfl:xs=[]:=List.length_eq_zero_iff.mp h0;refine⟨.slice none 0 0,H,?_,.refl H,.nil⟩;generalize hn:([]:List Nat)=ys at h;cases h with|nil=>simp[Ve,ht.2,ht2.2]|emp b=>simp[Ve,ht.2,ht2.2]|mk b o cap xs h1 h2=>subst hn;simp[Ve,ht.2,ht2.2]
 ·refine⟨.slice (some ⟨H.n,0,none⟩) xs.length xs.length,H.new 1 (xs.map Gk),?_,.new _ _ _,.new H xs⟩;have hc:=h.cells (by omega);obtain⟨a,cap,rfl⟩: ∃a cap,v= .slice a xs.length cap:=by cases h<;>exact⟨_,_,rfl⟩
  have e1:Nat.beq xs.length 0=false:=Qn h0;have e2:Nat.ble (xs.length*8) 140737488355328=true:=Nat.ble_eq.mpr (by omega);have e3:Nat.ble xs.length 281474976710656=true:=Nat.ble_eq.mpr (by omega);simp[Ve,ht.2,ht2.2,e1,e2,e3,hc,zU64,Value.cells]
section
attribute [local simp] strip Ye LW' gW Yk Xc Zz Xd Yn Xe Zr Zs Zg Yo Yz Yj Yp Zh Xa opd Qd Yl plain Yg Tr.get_set Qb Zp Xv Yc sameKind Zd undef Zu Yr Yw Zn Qa Jl Yb
theorem Kd{v:Value}{xs:List Nat}{H:AH}(hs:Sl H v xs)(hlen:xs.length≤17592186044416):CW Tryz.prog Zo 120 [v] H fun v' H'=>Keep H H'∧Own H.n H' v' (Xm xs):=by refine Zj 6 (by decide) (by decide) Tryz.func120 rfl rfl ?_;obtain⟨v1,H1,hc1,e1,hs1⟩:=Uo hs (by omega);subst e1;obtain⟨v2,H2,ha,hk,ho⟩:=hs1.copyNew (by have:=Jj xs;omega) Zn Zn;apply Zb;intro b1 hb1;apply Za;simp;subst hb1;apply Zb;intro b1 hb1;apply Za;simp[hc1,ha];subst hb1;apply Zm;simp;exact⟨hk,ho⟩
end
end
end Go.Proofs.YtmkfecoeghokfaaGreatDoor
namespace Go.Proofs.YtmkfecoeghokfaaGreatDoor.Ev
open Go Go.RowKit
set_option linter.unusedVariables false
set_option linter.unusedSimpArgs false
noncomputable section
set_option maxHeartbeats 1000000
def Zl0(ops:Array Oper):Bool:=ops.toList.all fun o=>match o.op with| .load .. =>true|op=>!Zy op
theorem Zg0{bits b:Nat} : ∀{l:List (Nat×Nat×Bool)},(∀x∈l,x.2.2=false)→Ki bits b false l=true|[],_=>rfl|(k,b',w')::r,h=>by have h1:w'=false:=h (k,b',w') (List.mem_cons_self ..);subst h1;simp only[Ki,Bool.or_self,Bool.not_false,Bool.or_true,Bool.true_or,Bool.true_and];exact Zg0 fun x hx=>h x (List.mem_cons_of_mem _ hx)
section
variable {P : Program} {C : Cfg} {call : FuncId → List Value → AH → Option (Value × AH)} {ops : Array Oper}
theorem Co: ∀(l:List Oper)(i:Nat)(fs:List (Nat×Nat×Bool))(s s':St),(∀x∈fs,x.2.2=false)→(∀o∈l,(match o.op with| .load .. =>true|op=>!Zy op)=true)→Uk P C call ops l s=some s'→Kh P C call ops i fs l s=some s'
 |[],i,fs,s,s',hf,hl,h=>by rw[Ca]at h;simp only[Kh];exact h
 |o::rest,i,fs,s,s',hf,hl,h=>by
  have ho:=hl o (List.mem_cons_self ..);have hl':=fun o' h'=>hl o' (List.mem_cons_of_mem _ h');rw[Vi]at h;simp only[Kh];split at h<;>first|(cases h;done)|skip
  ·split at h<;>first|(cases h;done)|skip
   rename_i v H1 hop;split at h<;>first|(cases h;done)|skip
   rename_i s1 hput;cases hh:Zy o.op with
    |false=>
     have hm:Ua C s.tm o.op=some none:=by
      unfold Ua;split;·rename_i e;rw[e]at hh;cases hh
      ·rename_i e;rw[e]at hh;cases hh
      ·rw[hh];rfl
     have hH:Yk P C call s.tm s.H o.op=some (v,s.H):=Dt hh hop s.H;rw[hH]at hop;cases hop;simp only[hm,hH,hput];exact Co rest _ _ s1 s' hf hl' h
    |true=>
     split at ho
     ·rename_i t x e;rw[e]at hop;simp only[Yk,Yz]at hop;split at hop<;>first|(cases hop;done)|skip
      rename_i a ha;split at hop<;>first|(cases hop;done)|skip
      rename_i v' hv;cases hop;obtain⟨b,off,rfl⟩: ∃b off,a= .pointer (some ⟨b,off,none⟩):=by
       unfold Ys at hv;split at hv;·exact⟨_,_,rfl⟩
       ·cases hv
      have hm:Ua C s.tm o.op=some (some (b,false)):=by rw[e];simp only[Ua,ha]
      have hop':Yk P C call s.tm s.H o.op=some (v,s.H):=by rw[e];simp only[Yk,Yz,ha,hv]
      simp only[hm,Zg0 hf,cond_true,hop',hput];exact Co rest _ _ s1 s' (fun x hx=>by
       rcases List.mem_cons.mp hx with e|e;·rw[e]
       ·exact hf x e) hl' h
     ·rw[hh]at ho;cases ho
  ·split at h<;>first|(cases h;done)|skip
   rename_i s1 hput;try simp only[hput]
   exact Co rest _ _ s1 s' hf hl' h
end
section
variable {P : Program} {C : Cfg} {Q : Ex → St → Prop}
theorem loadOnly_mem{ops:Array Oper}(h:Zl0 ops=true):Uh ops=true:=by unfold Zl0 at h;unfold Uh;rw[List.all_eq_true]at h⊢;intro o ho;have:=h o ho;revert this;cases o.op<;>simp
theorem Cn{i:Nat}{ops:Array Oper}{s:St}(hd:(Zl0 ops&&Gy ops)=true)(h:LW' P C s.k (strip ops) s.tm s.H fun tm' H'=>Q .norm ⟨s.k,tm',H'⟩):W P C (.region i ops true) s Q:=by
 rw[Bool.and_eq_true]at hd;obtain⟨k,tm,H⟩:=s;obtain⟨tm',H',h1,h2⟩:=Zd7 (ops:=ops) ops.toList tm H _ h;refine⟨.norm,⟨k,tm',H'⟩,?_,h2⟩;rw[Gf];simp only[Js];rw[Vc]at h1;have:Qg P C (Qh P C (lvI P C)) ops true ⟨k,tm,H⟩=some ⟨k,tm',H'⟩:=by unfold Qg;rw[loadOnly_mem hd.1,hd.2];simp only[Bool.and_self,cond_true];refine Co _ _ _ _ _ (fun x hx=>by cases hx) (fun o ho=>?_) h1;have:=hd.1;unfold Zl0 at this;rw[List.all_eq_true]at this;exact this o ho
 rw[this]
def Zx:Op→Bool| .store .. =>true|_=>false
def Zf2(ops:Array Oper):Bool:=Uh ops&&Gy ops&&(List.range ops.size).all fun i=>match ops[i]? with|some o=>!Zx o.op||alone ops i|none=>true
theorem Zp5{bits b:Nat}{w:Bool} : ∀{l:List (Nat×Nat×Bool)},(∀x∈l,(w||x.2.2)=true→bits.testBit x.1=true)→Ki bits b w l=true
 |[],_=>rfl
 |(k,b',w')::r,h=>by have h1:=h (k,b',w') (List.mem_cons_self ..);simp only[Ki,Bool.and_eq_true,Bool.or_eq_true,Bool.not_eq_true'];refine⟨?_,Zp5 fun x hx=>h x (List.mem_cons_of_mem _ hx)⟩;cases hw:(w||w')with|false=>exact .inl (.inr rfl)|true=>exact .inr (h1 hw)
theorem Cb{call:FuncId→List Value→AH→Option (Value×AH)}{ops:Array Oper}(hm:Zf2 ops=true): ∀(l:List Oper)(i:Nat)(fs:List (Nat×Nat×Bool))(s s':St),(∀j,l[j]?=ops[i+j]?)→(∀x∈fs,x.1<i∧ ∃o,ops[x.1]?=some o∧Zy o.op=true∧x.2.2=Zx o.op)→Uk P C call ops l s=some s'→Kh P C call ops i fs l s=some s'
 |[],i,fs,s,s',hl,hf,h=>by rw[Ca]at h;simp only[Kh];exact h
 |o::rest,i,fs,s,s',hl,hf,h=>by
  have h0:ops[i]?=some o:=by simpa using(hl 0).symm
  have hl': ∀j,rest[j]?=ops[i+1+j]?:=fun j=>by have:=hl (j+1);simpa[Nat.add_assoc,Nat.add_comm 1 j]using this
  have hf': ∀x∈fs,x.1<i+1∧ ∃o,ops[x.1]?=some o∧Zy o.op=true∧x.2.2=Zx o.op:=fun x hx=>⟨Nat.lt_succ_of_lt (hf x hx).1,(hf x hx).2⟩;unfold Zf2 at hm;rw[Bool.and_eq_true,Bool.and_eq_true]at hm;have hsafe: ∀k ok,ops[k]?=some ok→Zx ok.op=true→alone ops k=true:=fun k ok hk hs=>by have:=hm.2;rw[List.all_eq_true]at this;have:=this k (by simpa using Qf hk);rw[hk]at this;simpa[hs]using this
  have ho:(match o.op with| .load .. =>true| .store .. =>true|op=>!Zy op)=true:=by have:=hm.1.1;unfold Uh at this;rw[List.all_eq_true]at this;exact this o (by rw[←Array.getElem?_toList]at h0;exact List.mem_of_getElem? h0)
  have clear: ∀b,Zy o.op=true→Ki ((before ops).getD i 0) b (Zx o.op) fs=true:=fun b hh=>Zp5 fun x hx hw=>by obtain⟨h1,ok,h2,h3,h4⟩:=hf x hx;rw[h4]at hw;cases hs:Zx o.op with|true=>exact(Dv (hsafe i o h0 hs) h2 (by omega) h3).1 h1|false=>rw[hs,Bool.false_or]at hw;exact(Dv (hsafe x.1 ok h2 hw) h0 (by omega) hh).2 h1
  have hm':Zf2 ops=true:=by unfold Zf2;rw[Bool.and_eq_true,Bool.and_eq_true];exact hm
  rw[Vi]at h;simp only[Kh];split at h<;>first|(cases h;done)|skip
  ·split at h<;>first|(cases h;done)|skip
   rename_i v H1 hop;split at h<;>first|(cases h;done)|skip
   rename_i s1 hput;cases hh:Zy o.op with
    |false=>
     have hmf:Ua C s.tm o.op=some none:=by
      unfold Ua;split;·rename_i e;rw[e]at hh;cases hh
      ·rename_i e;rw[e]at hh;cases hh
      ·rw[hh];rfl
     have hH:Yk P C call s.tm s.H o.op=some (v,s.H):=Dt hh hop s.H;rw[hH]at hop;cases hop;simp only[hmf,hH,hput];exact Cb hm' rest _ _ s1 s' hl' hf' h
    |true=>
     split at ho
     ·rename_i t x e;have hop0:=hop;rw[e]at hop;simp only[Yk,Yz]at hop;split at hop<;>first|(cases hop;done)|skip
      rename_i a ha;split at hop<;>first|(cases hop;done)|skip
      rename_i v' hv;obtain⟨b,off,rfl⟩: ∃b off,a= .pointer (some ⟨b,off,none⟩):=by
       unfold Ys at hv;split at hv;·exact⟨_,_,rfl⟩
       ·cases hv
      have hmf:Ua C s.tm o.op=some (some (b,false)):=by rw[e];simp only[Ua,ha]
      have hc:=clear b hh;rw[show Zx o.op=false by rw[e];rfl]at hc;simp only[hmf,hc,cond_true,hop0,hput];exact Cb hm' rest _ _ s1 s' hl' (fun x hx=>by
       rcases List.mem_cons.mp hx with e1|e1;·rw[e1];exact⟨Nat.lt_succ_self _,o,h0,hh,by rw[e];rfl⟩
       ·exact hf' x e1) h
     ·rename_i t x y e;have hop0:=hop;rw[e]at hop;simp only[Yk,Yj]at hop;split at hop<;>first|(cases hop;done)|skip
      rename_i a a' ha ha';split at hop<;>first|(cases hop;done)|skip
      rename_i H' hv;obtain⟨b,off,rfl⟩: ∃b off,a= .pointer (some ⟨b,off,none⟩):=by
       unfold Xt at hv;split at hv;·exact⟨_,_,rfl⟩
       ·cases hv
      have hmf:Ua C s.tm o.op=some (some (b,true)):=by rw[e];simp only[Ua,ha]
      have hc:=clear b hh;rw[show Zx o.op=true by rw[e];rfl]at hc;simp only[hmf,hc,cond_true,hop0,hput];exact Cb hm' rest _ _ s1 s' hl' (fun x hx=>by
       rcases List.mem_cons.mp hx with e1|e1;·rw[e1];exact⟨Nat.lt_succ_self _,o,h0,hh,by rw[e];rfl⟩
       ·exact hf' x e1) h
     ·rw[hh]at ho;cases ho
  ·split at h<;>first|(cases h;done)|skip
   rename_i s1 hput;try simp only[hput]
   exact Cb hm' rest _ _ s1 s' hl' hf' h
theorem W_mem{i:Nat}{ops:Array Oper}{s:St}(hd:Zf2 ops=true)(h:LW' P C s.k (strip ops) s.tm s.H fun tm' H'=>Q .norm ⟨s.k,tm',H'⟩):W P C (.region i ops true) s Q:=by
 obtain⟨k,tm,H⟩:=s;obtain⟨tm',H',h1,h2⟩:=Zd7 (ops:=ops) ops.toList tm H _ h;refine⟨.norm,⟨k,tm',H'⟩,?_,h2⟩;rw[Gf];simp only[Js];rw[Vc]at h1;have:Qg P C (Qh P C (lvI P C)) ops true ⟨k,tm,H⟩=some ⟨k,tm',H'⟩:=by have hd':=hd;unfold Zf2 at hd';rw[Bool.and_eq_true,Bool.and_eq_true]at hd';unfold Qg;rw[hd'.1.1,hd'.1.2];simp only[Bool.and_self,cond_true];exact Cb hd _ _ _ _ _ (fun j=>by simp) (fun x hx=>by cases hx) h1
 rw[this]
def vis(H:AH)(bits:Nat)(ms:List (Nat×Nat×Nat)):AH:= { n:=H.n,lw:=H.n,t:=Fo H.t (hidden bits ms) }
def grown(H H2:AH):AH:= { n:=H2.n,lw:=H.lw,t:=addT H.t H2 H.n (H2.n-H.n) }
def Xl(ops:Array Oper)(o:Oper):Option (Option Tmp×Bool):=match o.guard with|none=>none|some (j,b)=>some ((ops[j]?).bind (·.dst),b)
theorem Cm{ops:Array Oper}{tm:Tr Value}{o:Oper} :Jh ops tm o=gW tm (Xl ops o):=gW_eq
def DG(P:Program)(C:Cfg)(ops:Array Oper)(k i:Nat)(q:Bool)(ms:List (Nat×Nat×Nat))(l:List Oper)(tm:Tr Value)(H:AH)(K:Tr Value→AH→Prop):Prop:= ∃tm' H',Jm P C (Zq P C) ops i q ms l ⟨k,tm,H⟩=some ⟨k,tm',H'⟩∧K tm' H'
def DW(P:Program)(C:Cfg)(ops:Array Oper)(k:Nat):Nat→Bool→List (Nat×Nat×Nat)→List Oper→Tr Value→AH→(Tr Value→AH→Prop)→Prop
 |_,_,_,[],tm,H,K=>K tm H
 |i,q,ms,o::r,tm,H,K=>match gW tm (Xl ops o)with
  |some true=>match Zy o.op with
   |true=>DG P C ops k i q ms (o::r) tm H K
   |false=>match Yk P C (Zq P C) tm H o.op with
    |some (v,_)=>match o.dst with|none=>DW P C ops k (i+1) q ms r tm H K|some d=>d<k∧DW P C ops k (i+1) q ms r (tm.set d v) H K
    |none=>False
  |some false=>match o.dst with|none=>DW P C ops k (i+1) q ms r tm H K|some d=>d<k∧DW P C ops k (i+1) q ms r (tm.set d undef) H K
  |none=>False
variable {ops : Array Oper} {k i : Nat} {q : Bool} {ms : List (Nat × Nat × Nat)} {tm : Tr Value} {H : AH} {K : Tr Value → AH → Prop}
theorem Ec{o:Oper}{v:Value}{H1:AH}{K1:Tr Value→Prop}(h:match o.dst with|none=>K1 tm|some d=>d<k∧K1 (tm.set d v)): ∃tm1,(St.put ⟨k,tm,H⟩ o.dst v H1)=some ⟨k,tm1,H1⟩∧K1 tm1:=by cases hd:o.dst with
 |none=>rw[hd]at h;exact⟨tm,rfl,h⟩
 |some d=>
  rw[hd]at h;have:Nat.blt d k=true:=by rw[Nat.blt_eq];exact h.1
  exact⟨tm.set d v,by simp only[St.put,putSt,this,cond_true],h.2⟩
theorem Qj(n:Nat):Nat.blt n n=false:=by cases hb:Nat.blt n n with|false=>rfl|true=>rw[Nat.blt_eq]at hb;omega
theorem DG_of: ∀(l:List Oper)(i:Nat)(q:Bool)(ms:List (Nat×Nat×Nat))(tm:Tr Value)(H:AH),DW P C ops k i q ms l tm H K→DG P C ops k i q ms l tm H K
 |[],i,q,ms,tm,H,h=>⟨tm,H,by simp only[Jm],h⟩
 |o::r,i,q,ms,tm,H,h=>by
  simp only[DW]at h;split at h
  ·rename_i hg;split at h;·exact h
   ·rename_i hh;split at h;·rename_i v H2 hop;obtain⟨tm1,hput,hl⟩:=Ec (H:=H) (H1:=H) (K1:=fun tm=>DW P C ops k (i+1) q ms r tm H K) h;obtain⟨tm',H',h1,h2⟩:=DG_of r (i+1) q ms tm1 H hl;refine⟨tm',H',?_,h2⟩;simp only[Jm];rw[Cm,hg];simp only[Qx,hh,cond_false,hop,hput,Qj];exact h1
    ·exact h.elim
  ·rename_i hg;obtain⟨tm1,hput,hl⟩:=Ec (H:=H) (H1:=H) (K1:=fun tm=>DW P C ops k (i+1) q ms r tm H K) h;obtain⟨tm',H',h1,h2⟩:=DG_of r (i+1) q ms tm1 H hl;refine⟨tm',H',?_,h2⟩;simp only[Jm];rw[Cm,hg];simp only[hput];exact h1
  ·exact h.elim
theorem Qm{id:Nat}{s:St}(hd:(!Uh ops&&Gy ops)=true)(h:DW P C ops s.k 0 false [] ops.toList s.tm s.H fun tm' H'=>Q .norm ⟨s.k,tm',H'⟩):W P C (.region id ops true) s Q:=by
 obtain⟨k,tm,H⟩:=s;obtain⟨tm',H',h1,h2⟩:=DG_of _ _ _ _ _ _ h;refine⟨.norm,⟨k,tm',H'⟩,?_,h2⟩;rw[Gf];simp only[Js];rw[Vc]at h1;rw[Bool.and_eq_true]at hd;have hm:Uh ops=false:=by simpa using hd.1
 have:Qg P C (Qh P C (lvI P C)) ops true ⟨k,tm,H⟩=some ⟨k,tm',H'⟩:=by unfold Qg Ul;rw[hm,hd.2];simp only[Bool.and_false,cond_false,cond_true];exact h1
 rw[this]
theorem Yd{o:Oper}{r:List Oper}{v:Value}(hg:gW tm (Xl ops o)=some true)(hh:Zy o.op=true)(hq:q=false)(he:Yk P C (Zq P C) tm (vis H ((before ops).getD i 0) ms) o.op=some (v,vis H ((before ops).getD i 0) ms))(h:match o.dst with|none=>DW P C ops k (i+1) q ms r tm H K|some d=>d<k∧DW P C ops k (i+1) q ms r (tm.set d v) H K):DG P C ops k i q ms (o::r) tm H K:=by
 obtain⟨tm1,hput,hl⟩:=Ec (H:=H) (H1:=H) (K1:=fun tm=>DW P C ops k (i+1) q ms r tm H K) h;obtain⟨tm',H',h1,h2⟩:=DG_of r (i+1) q ms tm1 H hl;refine⟨tm',H',?_,h2⟩;subst hq;have hop:Qx P C (Zq P C) ops i false ms ⟨k,tm,H⟩ o=some (v,H,false):=by unfold Qx;rw[hh,cond_true];simp only;have he':Yk P C (Zq P C) tm { n:=H.n,lw:=H.n,t:=Fo H.t (hidden ((before ops).getD i 0) ms) } o.op=some (v,{ n:=H.n,lw:=H.n,t:=Fo H.t (hidden ((before ops).getD i 0) ms) }):=he;rw[he'];have:Nat.ble H.n H.n=true:=Nat.ble_eq.mpr (Nat.le_refl _);simp only[this,cond_true,Bool.not_false,Bool.and_self,Nat.sub_self,addT]
 simp only[Jm];rw[Cm,hg];simp only[hop,hput,Qj,cond_false];exact h1
theorem Yv{o:Oper}{r:List Oper}{v:Value}{H2:AH}(hg:gW tm (Xl ops o)=some true)(hh:Zy o.op=true)(hq:q=false)(he:Yk P C (Zq P C) tm (vis H ((before ops).getD i 0) ms) o.op=some (v,H2))(hn:H.n≤H2.n)(hlw:H.n≤H2.lw)(h:match o.dst with|none=>DW P C ops k (i+1) q (cond (Nat.blt H.n H2.n) ((i,H.n,H2.n)::ms) ms) r tm (grown H H2) K|some d=>d<k∧DW P C ops k (i+1) q (cond (Nat.blt H.n H2.n) ((i,H.n,H2.n)::ms) ms) r (tm.set d v) (grown H H2) K):DG P C ops k i q ms (o::r) tm H K:=by
 obtain⟨tm1,hput,hl⟩:=Ec (H:=H) (H1:=grown H H2) (K1:=fun tm=>DW P C ops k (i+1) q (cond (Nat.blt H.n H2.n) ((i,H.n,H2.n)::ms) ms) r tm (grown H H2) K) h;obtain⟨tm',H',h1,h2⟩:=DG_of r (i+1) q _ tm1 _ hl;refine⟨tm',H',?_,h2⟩;subst hq;have hop:Qx P C (Zq P C) ops i false ms ⟨k,tm,H⟩ o=some (v,grown H H2,false):=by unfold Qx;rw[hh,cond_true];simp only;have he':Yk P C (Zq P C) tm { n:=H.n,lw:=H.n,t:=Fo H.t (hidden ((before ops).getD i 0) ms) } o.op=some (v,H2):=he;rw[he'];have e1:Nat.ble H.n H2.n=true:=Nat.ble_eq.mpr hn;have e2:Nat.ble H.n H2.lw=true:=Nat.ble_eq.mpr hlw;simp only[e1,e2,cond_true,Bool.not_false,Bool.and_self];rfl
 simp only[Jm];rw[Cm,hg];simp only[hop,hput];exact h1
theorem Xk{o:Oper}{r:List Oper}{v:Value}{H2:AH}(hg:gW tm (Xl ops o)=some true)(hh:Zy o.op=true)(ha:alone ops i=true)(hhid:hidden ((before ops).getD i 0) ms=[])(he:Yk P C (Zq P C) tm { n:=H.n,lw:=H.n,t:=H.t } o.op=some (v,H2))(hn:H.n≤H2.n)(hlw:H2.lw<H.n)(h:match o.dst with|none=>DW P C ops k (i+1) true (cond (Nat.blt H.n H2.n) ((i,H.n,H2.n)::ms) ms) r tm { n:=H2.n,lw:=min H.lw H2.lw,t:=H2.t } K|some d=>d<k∧DW P C ops k (i+1) true (cond (Nat.blt H.n H2.n) ((i,H.n,H2.n)::ms) ms) r (tm.set d v) { n:=H2.n,lw:=min H.lw H2.lw,t:=H2.t } K):DG P C ops k i q ms (o::r) tm H K:=by
 obtain⟨tm1,hput,hl⟩:=Ec (H:=H) (H1:= { n:=H2.n,lw:=min H.lw H2.lw,t:=H2.t }) (K1:=fun tm=>DW P C ops k (i+1) true (cond (Nat.blt H.n H2.n) ((i,H.n,H2.n)::ms) ms) r tm { n:=H2.n,lw:=min H.lw H2.lw,t:=H2.t } K) h;obtain⟨tm',H',h1,h2⟩:=DG_of r (i+1) true _ tm1 _ hl;refine⟨tm',H',?_,h2⟩;have hop:Qx P C (Zq P C) ops i q ms ⟨k,tm,H⟩ o=some (v,{ n:=H2.n,lw:=min H.lw H2.lw,t:=H2.t },true):=by
  unfold Qx;rw[hh,cond_true];simp only[hhid,Fo];rw[he];have e1:Nat.ble H.n H2.n=true:=Nat.ble_eq.mpr hn;have e2:Nat.ble H.n H2.lw=false:=by cases hb:Nat.ble H.n H2.lw with|false=>rfl|true=>have:=Nat.le_of_ble_eq_true hb;omega
  simp only[e1,e2,cond_true,Bool.and_false,cond_false,ha,List.isEmpty_nil,Bool.and_self]
 simp only[Jm];rw[Cm,hg];simp only[hop,hput];exact h1
theorem Xw{b:Code}(I:Nat→St→Prop)(h: ∀n s,I n s→ ∀Q':Ex→St→Prop,(∀e s',Dc I n Q e s'→Q' e s')→W P C b s Q')(n:Nat)(s:St)(hI:I n s):W P C (.loop b) s Q:=W_loop I (fun n s hI=>h n s hI _ (fun _ _ h=>h)) n s hI
theorem W_then(R:St→Prop){a b:Code}{s:St}(h1:W P C a s fun e s'=>e= .norm∧R s')(h2: ∀s',R s'→W P C b s' Q):W P C (.seq a b) s Q:=by refine Zb fun b' hb=>h1.mono ?_;rintro e s' ⟨rfl,hr⟩;subst hb;exact h2 s' hr
end
end
end Go.Proofs.YtmkfecoeghokfaaGreatDoor.Ev
namespace Go.Proofs.YtmkfecoeghokfaaGreatDoor
open Go Ev
set_option linter.unusedVariables false
set_option linter.unusedSimpArgs false
noncomputable section
set_option maxRecDepth 20000
set_option maxHeartbeats 1000000
abbrev B64:Nat:=18446744073709551616
theorem Yf:2≤B64:=by decide
def Vn(a b:Nat):Int:=if a<b then-1 else if b<a then 1 else 0
theorem Zn0{xs ys:List Nat}(hx:Xm xs=xs)(hy:Xm ys=ys)(dx:Dig B64 xs)(dy:Dig B64 ys)(h:xs.length<ys.length):dv B64 xs<dv B64 ys:=by
 have h1:=Vh dx;have e:ys=ds B64 (dv B64 ys):=by rw[←Qr Yf dy,hy]
 have hne:dv B64 ys≠0:=by intro h0;rw[h0,Jb]at e;rw[e]at h;simp at h
 have h2:=ds_ge Yf hne;rw[←e]at h2;have h3:B64^xs.length≤B64^(ys.length-1):=Nat.pow_le_pow_right (by decide) (by omega);omega
section
attribute [local simp] strip Ye LW' gW Yk Xc Zz Xd Yn Xe Zr Zs Zg Yo Yz Yj Yp Zh Xa opd Qd Yl plain Yg Tr.get_set Qb Zp Xv Yc sameKind Zd undef Zu Yr Yw Zn Qa Jl Yb
set_option maxRecDepth 10000 in theorem Ff{va vb:Value}{xs ys:List Nat}{H:AH}(ha:Sl H va xs)(hb:Sl H vb ys)(dx:Dig B64 xs)(dy:Dig B64 ys)(lx:xs.length≤17592186044416)(ly:ys.length≤17592186044416):CW Tryz.prog Zo 162 [va,vb] H fun v H'=>H'=H∧v= .int .i64 (Vn (dv B64 xs) (dv B64 ys)):=by
 refine Zj 45 (by decide) (by decide) Tryz.func162 rfl rfl ?_;obtain⟨v1,H1,hc1,e1,s1⟩:=Uo ha (by omega);obtain⟨v2,H2,hc2,e2,s2⟩:=Uo hb (by omega);subst e1;subst e2;rw[←Vp B64 xs,←Vp B64 ys];have tx:=Cj xs;have ty:=Cj ys;have dx:=Ji dx;have dy:=Ji dy;have lx:(Xm xs).length≤17592186044416:=Nat.le_trans (Jj xs) lx;have ly:(Xm ys).length≤17592186044416:=Nat.le_trans (Jj ys) ly;generalize Xm xs=xs at*;generalize Xm ys=ys at*;have l1:=s1.len Zn;have l2:=s2.len Zn;apply Zb;intro b1 hb1;apply Za;simp;subst hb1;apply Zb;intro b1 hb1;apply Za;simp[hc1,hc2];subst hb1;apply Zb;intro b1 hb1;apply Zb;intro b2 hb2;apply Za;simp[l1,l2];subst hb2;by_cases hl:xs.length=ys.length
 ·refine Zc (t:=false) (by simp[hl]) ?_;apply Zi;subst hb1;apply Zb;intro b1 hb1;apply Zb;intro b2 hb2;have hw0:IntKind.i64.wrap ((xs.length:Int)-1)=(xs.length:Int)-1:=by rw[IntKind.wrap_i64];omega
  apply Za;simp[l1,hw0];subst hb2;apply Zt;refine W_loop (fun n s=>s.k=45∧s.H=H2∧s.tm.get 0=some v1∧s.tm.get 1=some v2∧s.tm.get 5=some (.int .i64 ((n:Int)-1))∧n≤xs.length∧xs.drop n=ys.drop n) ?_ xs.length _ ⟨rfl,rfl,by simp,by simp,by simp,Nat.le_refl _,by rw[List.drop_length,hl,List.drop_length]⟩;rintro n ⟨k,tm,H'⟩ ⟨h2,h3,h4,h5,h6,h7,h8⟩;simp only at h2 h3 h4 h5 h6;subst h2;subst h3;apply Zb;intro b2 hb2;apply Zb;intro b3 hb3;apply Za;simp[h4,h5,h6];subst hb3;have e44:xs.drop n=ys.drop n:=h8;by_cases hz:n=0
  ·subst hz;refine Zc (t:=false) (by simp) ?_;apply Xy;left;refine⟨rfl,?_⟩;subst hb1;apply Zb;intro b4 hb4;apply Za;simp;subst hb4;apply Zm;have:xs=ys:=by simpa using h8
   simp[Vn,this]
  ·have e:(n:Int)-1=((n-1:Nat):Int):=by omega
   refine Zc (t:=true) (by simp;omega) ?_;apply Zi;subst hb2;have i1:n-1<xs.length:=by omega
   have i2:n-1<ys.length:=by omega
   have a1:=s1.adr Zn (k:= .i64) i1;have a2:=s2.adr Zn (k:= .i64) i2;have d1:=s1.load i1;have d2:=s2.load i2;rw[e]at h6;have sx:xs=xs.take (n-1)++xs[n-1]::xs.drop n:=by have:=List.take_append_drop (n-1) xs;rw[List.drop_eq_getElem_cons i1,show n-1+1=n by omega]at this;exact this.symm
   have sy:ys=ys.take (n-1)++ys[n-1]::ys.drop n:=by have:=List.take_append_drop (n-1) ys;rw[List.drop_eq_getElem_cons i2,show n-1+1=n by omega]at this;exact this.symm
   have ltk:(xs.take (n-1)).length=(ys.take (n-1)).length:=by simp[List.length_take,hl]
   apply Zb;intro b4 hb4;apply Zt;apply Zb;intro b5 hb5;apply Zb;intro b6 hb6;apply Cn (by kernel_rfl);simp[h4,h5,h6,a1,a2,d1,d2];subst hb6;by_cases hlt:xs[n-1]<ys[n-1]
   ·refine Zc (t:=true) (by simp;omega) ?_;apply Zb;intro b7 hb7;apply Za;simp;subst hb7;apply Zm;have hd:dv B64 xs<dv B64 ys:=by rw[sx,sy,h8];exact dv_cmp (dx.take _) (dy.take _) ltk hlt _
    simp[Xo,Xn,Dc,Vn,hd]
   ·refine Zc (t:=false) (by simp;omega) ?_;apply Zi;subst hb5;apply Zb;intro b6 hb6;apply Cn (by kernel_rfl);simp[h4,h5,h6,a1,a2,d1,d2];subst hb6;by_cases hgt:ys[n-1]<xs[n-1]
    ·refine Zc (t:=true) (by simp;omega) ?_;apply Zb;intro b7 hb7;apply Za;simp;subst hb7;apply Zm;have hd:dv B64 ys<dv B64 xs:=by rw[sx,sy,h8];exact dv_cmp (dy.take _) (dx.take _) ltk.symm hgt _
     have hd2: ¬dv B64 xs<dv B64 ys:=by omega
     simp[Xo,Xn,Dc,Vn,hd,hd2]
    ·refine Zc (t:=false) (by simp;omega) ?_;apply Zi;subst hb4;have hw1:IntKind.i64.wrap (((n-1:Nat):Int)-1)=((n-1:Nat):Int)-1:=by rw[IntKind.wrap_i64];omega
     apply Za;simp[h6,hw1];refine⟨n-1,by omega,rfl,rfl,?_⟩;simp[h4,h5];refine⟨by omega,?_⟩;rw[List.drop_eq_getElem_cons i1,List.drop_eq_getElem_cons i2,show n-1+1=n by omega,h8];congr 1;omega
 ·refine Zc (t:=true) (by simp;omega) ?_;apply Zb;intro b2 hb2;apply Zb;intro b3 hb3;apply Za;simp[l1,l2];subst hb3;by_cases hlt:xs.length<ys.length;·refine Zc (t:=true) (by simp;omega) ?_;apply Zb;intro b3 hb3;apply Za;simp;subst hb3;apply Zm;have:=Zn0 tx ty dx dy hlt;simp[Xo,Vn,this]
  ·refine Zc (t:=false) (by simp;omega) ?_;apply Zi;subst hb2;apply Zb;intro b2 hb2;apply Za;simp;subst hb2;apply Zm;have:=Zn0 ty tx dy dx (by omega);have h2: ¬dv B64 xs<dv B64 ys:=by omega
   simp[Xo,Vn,this,h2]
end
def Zf(n:Nat):Nat:=if n=0 then 0 else Nat.log2 n+1
theorem Vx(n:Nat):n<2^Zf n:=by
 unfold Zf;split;·omega
 ·exact Nat.lt_log2_self
theorem Ug{n:Nat}(h:n≠0):2^(Zf n-1)≤n:=by unfold Zf;rw[if_neg h];exact Nat.log2_self_le h
theorem blen_uniq{n k:Nat}(h1:n<2^k)(h2:k=0∨2^(k-1)≤n):Zf n=k:=by
 rcases h2 with h2|h2
 ·subst h2;have:n=0:=by simpa using h1
  subst this;rfl
 ·have hn:n≠0:=by have:=Nat.two_pow_pos (k-1);omega
  have a:2^(Zf n-1)<2^k:=Nat.lt_of_le_of_lt (Ug hn) h1;have b:2^(k-1)<2^Zf n:=Nat.lt_of_le_of_lt h2 (Vx n);have a':=(Nat.pow_lt_pow_iff_right (by decide)).mp a;have b':=(Nat.pow_lt_pow_iff_right (by decide)).mp b;omega
theorem Fu{n k:Nat}(h:2^k≤n):Zf n=k+Zf (n/2^k):=by
 have hk:=Nat.two_pow_pos k;have hq:n/2^k≠0:=by have:=Nat.div_pos h hk;omega
 apply blen_uniq;·rw[Nat.pow_add,Nat.mul_comm];have:=Vx (n/2^k);exact(Nat.div_lt_iff_lt_mul hk).mp this
 ·right;have h1:=Ug hq;have h2:Zf (n/2^k)≠0:=by unfold Zf;rw[if_neg hq];omega
  rw[show k+Zf (n/2^k)-1=(Zf (n/2^k)-1)+k by omega,Nat.pow_add];exact(Nat.le_div_iff_mul_le hk).mp h1
theorem Zb8(x k:Nat):(x:Int).fdiv (2^k)=((x/2^k:Nat):Int):=by rw[Int.fdiv_eq_ediv_of_nonneg _ (Int.le_of_lt (Int.pow_pos (by decide)))];rw[Int.natCast_ediv,Int.natCast_pow];rfl
theorem bits_u64:IntKind.u64.bits=64:=rfl
def tabOk(s:ByteArray):Bool:=(List.range 256).all fun n=>match s[n]? with|some b=>Nat.beq b.toNat (Zf n)|none=>false
theorem tab_spec{s:ByteArray}(h:tabOk s=true){n:Nat}(hn:n<256):indexV Tryz.prog 9 (.string s) (.int .u8 (n:Int))=some (.int .u8 (Zf n:Int)):=by
 unfold tabOk at h;rw[List.all_eq_true]at h;have:=h n (List.mem_range.mpr hn);split at this;·rename_i b hb;have e:=Nat.eq_of_beq_eq_true this;unfold indexV;simp only[Tryz.underlying9];rw[if_pos (by omega)];simp only[Int.toNat_natCast,hb,e]
 ·cases this
section
attribute [local simp] strip Ye LW' gW Yk Xc Zz Xd Yn Xe Zr Zs Zg Yo Yz Yj Yp Zh Xa opd Qd Yl plain Yg Tr.get_set Qb Zp Xv Yc sameKind Zd undef Zu Yr Yw Zn Qa Jl Yb Qk
theorem len64_spec{x:Nat}{H:AH}(hx:x<B64):CW Tryz.prog Zo 163 [.int .u64 (x:Int)] H fun v H'=>H'=H∧v= .int .i64 (Zf x:Int):=by
 have hx:x<18446744073709551616:=hx;refine Zj 25 (by decide) (by decide) Tryz.func163 rfl rfl ?_;apply Zb;intro b1 hb1;apply Za;simp;subst hb1;refine W_then (fun s=>s.k=25∧s.H=H∧ ∃y n:Nat,s.tm.get 0=some (.int .u64 (y:Int))∧s.tm.get 2=some (.int .i64 (n:Int))∧y<4294967296∧n≤32∧Zf x=n+Zf y) ?_ ?_
 ·apply Zb;intro b1 hb1;apply Za;simp;subst hb1;by_cases h:4294967296≤x;·have f1:(x:Int).fdiv 4294967296=((x/4294967296:Nat):Int):=Zb8 x 32;have f2:Zf x=32+Zf (x/4294967296):=Fu (k:=32) h;refine Zc (t:=true) (by simp;omega) ?_;apply Zb;intro b1 hb1;apply Za;simp[bits_u64,f1];subst hb1;apply Za;simp;exact⟨x/4294967296,rfl,32,rfl,by omega,by omega,f2⟩
  ·refine Zc (t:=false) (by simp;omega) ?_;apply Zi;simp;exact⟨x,rfl,0,rfl,by omega,by omega,by omega⟩
 rintro⟨k,tm,H'⟩ ⟨h2,h3,y,n,h4,h5,h6,h7,h8⟩;simp only at h2 h3 h4 h5;subst h2;subst h3;refine W_then (fun s=>s.k=25∧s.H=H'∧ ∃y n:Nat,s.tm.get 0=some (.int .u64 (y:Int))∧s.tm.get 2=some (.int .i64 (n:Int))∧y<65536∧n≤48∧Zf x=n+Zf y) ?_ ?_
 ·apply Zb;intro b1 hb1;apply Za;simp[h4,h5];subst hb1;by_cases h:65536≤y
  ·have f1:(y:Int).fdiv 65536=((y/65536:Nat):Int):=Zb8 y 16;have f2:Zf y=16+Zf (y/65536):=Fu (k:=16) h;have hw:IntKind.i64.wrap ((n:Int)+16)=((n+16:Nat):Int):=by rw[IntKind.wrap_i64];omega
   refine Zc (t:=true) (by simp;omega) ?_;apply Zb;intro b1 hb1;apply Za;simp[h4,h5,bits_u64,f1];subst hb1;apply Za;simp[h4,h5,hw];exact⟨y/65536,rfl,n+16,rfl,by omega,by omega,by omega⟩
  ·refine Zc (t:=false) (by simp;omega) ?_;apply Zi;simp[h4,h5];exact⟨y,rfl,n,rfl,by omega,by omega,h8⟩
 rintro⟨k,tm,H'⟩ ⟨h2,h3,y,n,h4,h5,h6,h7,h8⟩;simp only at h2 h3 h4 h5;subst h2;subst h3;refine W_then (fun s=>s.k=25∧s.H=H'∧ ∃y n:Nat,s.tm.get 0=some (.int .u64 (y:Int))∧s.tm.get 2=some (.int .i64 (n:Int))∧y<256∧n≤56∧Zf x=n+Zf y) ?_ ?_
 ·apply Zb;intro b1 hb1;apply Za;simp[h4,h5];subst hb1;by_cases h:256≤y
  ·have f1:(y:Int).fdiv 256=((y/256:Nat):Int):=Zb8 y 8;have f2:Zf y=8+Zf (y/256):=Fu (k:=8) h;have hw:IntKind.i64.wrap ((n:Int)+8)=((n+8:Nat):Int):=by rw[IntKind.wrap_i64];omega
   refine Zc (t:=true) (by simp;omega) ?_;apply Zb;intro b1 hb1;apply Za;simp[h4,h5,bits_u64,f1];subst hb1;apply Za;simp[h4,h5,hw];exact⟨y/256,rfl,n+8,rfl,by omega,by omega,by omega⟩
  ·refine Zc (t:=false) (by simp;omega) ?_;apply Zi;simp[h4,h5];exact⟨y,rfl,n,rfl,by omega,by omega,h8⟩
 rintro⟨k,tm,H'⟩ ⟨h2,h3,y,n,h4,h5,h6,h7,h8⟩;simp only at h2 h3 h4 h5;subst h2;subst h3;apply Zb;intro b1 hb1;apply Za;have hb8:Zf y≤8:=by
  rcases Nat.lt_or_ge 8 (Zf y)with h|h
  ·have h0:y≠0:=by rintro rfl;simp[Zf]at h
   have a:=Ug h0;have b:2^8≤2^(Zf y-1):=Nat.pow_le_pow_right (by decide) (by omega);omega
  ·exact h
 generalize hs:ByteArray.mk _=s;have ht:tabOk s=true:=by rw[←hs];kernel_rfl
 have e1:=tab_spec ht h6;have e2:IntKind.u8.wrap (y:Int)=(y:Int):=by rw[IntKind.wrap_u8];omega
 have e3:IntKind.i64.wrap (Zf y:Int)=(Zf y:Int):=Zm7 (by omega);have e4:IntKind.i64.wrap ((n:Int)+(Zf y:Int))=(Zf x:Int):=by rw[IntKind.wrap_i64,h8];omega
 simp[h4,h5,Dy,Tryz.underlying101,Tryz.underlying5,Tryz.underlying3,e1,e2,e3,e4];subst hb1;apply Zm;simp
end
theorem Bt(x y c:Nat)(H:AH)(hc:c≤1):Zq Tryz.prog Zo 203 [.int .u64 (x:Int),.int .u64 (y:Int),.int .u64 (c:Int)] H=some (.tuple #[.int .u64 (((x+y+c)%B64:Nat):Int),.int .u64 (((x+y+c)/B64:Nat):Int)],H):=by
 rw[Vc];unfold Qh Jx;rw[show Nat.beq 203 Zo.add=true from rfl,cond_true];have:Zc7 [.int .u64 (x:Int),.int .u64 (y:Int),.int .u64 (c:Int)]=some (x,y,c):=by simp[Zc7];omega
 rw[this];rfl
theorem Av(x y c:Nat)(H:AH)(hc:c≤1):Zq Tryz.prog Zo 206 [.int .u64 (x:Int),.int .u64 (y:Int),.int .u64 (c:Int)] H=some (.tuple #[.int .u64 (((x+B64-y-c)%B64:Nat):Int),.int .u64 ((if x<y+c then 1 else 0:Nat):Int)],H):=by
 rw[Vc];unfold Qh Jx;rw[show Nat.beq 206 Zo.add=false from rfl,cond_false,show Nat.beq 206 Zo.sub=true from rfl,cond_true];have:Zc7 [.int .u64 (x:Int),.int .u64 (y:Int),.int .u64 (c:Int)]=some (x,y,c):=by simp[Zc7];omega
 rw[this];by_cases h:x<y+c
 ·have:Nat.blt x (y+c)=true:=by rw[Nat.blt_eq];exact h
  simp only[this,cond_true,if_pos h];rfl
 ·have:Nat.blt x (y+c)=false:=by cases hb:Nat.blt x (y+c)with|false=>rfl|true=>rw[Nat.blt_eq]at hb;exact absurd hb h
  simp only[this,cond_false,if_neg h];rfl
section
attribute [local simp] strip Ye LW' gW Yk Xc Zz Xd Yn Xe Zr Zs Zg Yo Yz Yj Yp Zh Xa Ze opd Qd Yl plain Yg Tr.get_set Qb Zp Xv Yc sameKind Zd undef Zu Yr Yw Zn Qa Jl Yb Qk parts
theorem lz_spec{x:Nat}{H:AH}(hx:x<B64):CW Tryz.prog Zo 216 [.int .u64 (x:Int)] H fun v H'=>H'=H∧v= .int .i64 (64-(Zf x:Int)):=by
 refine Zj 6 (by decide) (by decide) Tryz.func216 rfl rfl ?_;obtain⟨v1,H1,hc1,rfl,rfl⟩:=len64_spec (H:=H) hx;have hb:Zf x≤64:=by
  rcases Nat.lt_or_ge 64 (Zf x)with h|h
  ·have h0:x≠0:=by rintro rfl;simp[Zf]at h
   have a:=Ug h0;have b:2^64≤2^(Zf x-1):=Nat.pow_le_pow_right (by decide) (by omega);have hx:x<18446744073709551616:=hx;omega
  ·exact h
 have hw:IntKind.i64.wrap (64-(Zf x:Int))=64-(Zf x:Int):=by rw[IntKind.wrap_i64];omega
 apply Zb;intro b1 hb1;apply Za;simp;subst hb1;apply Zb;intro b1 hb1;apply Za;simp[hc1,hw];subst hb1;apply Zm;simp
theorem blen_dv{xs:List Nat}(dx:Dig B64 xs)(tx:Xm xs=xs)(h:0<xs.length):Zf (dv B64 xs)=64*(xs.length-1)+Zf (xs[xs.length-1]):=by
 have hs:xs=xs.take (xs.length-1)++[xs[xs.length-1]]:=by have:=List.take_append_getElem (l:=xs) (i:=xs.length-1) (by omega);rw[this,show xs.length-1+1=xs.length by omega,List.take_length]
 have hl:(xs.take (xs.length-1)).length=xs.length-1:=by rw[List.length_take];omega
 generalize hz:xs[xs.length-1]=z at*;have hz0:z≠0:=by intro h0;rw[h0]at hs;have:=congrArg Xm hs;rw[Kv,tx]at this;have:=congrArg List.length this;have:=Jj (xs.take (xs.length-1));omega
 have e:dv B64 xs=dv B64 (xs.take (xs.length-1))+2^(64*(xs.length-1))*z:=by have:=congrArg (dv B64) hs;rw[this,Yy,hl];simp only[dv,Nat.mul_zero,Nat.add_zero];rw[Nat.pow_mul]
 have hlow:dv B64 (xs.take (xs.length-1))<2^(64*(xs.length-1)):=by have:=Vh (dx.take (xs.length-1));rw[hl]at this;rw[Nat.pow_mul];exact this
 have hge:2^(64*(xs.length-1))≤dv B64 xs:=by rw[e];have:2^(64*(xs.length-1))*1≤2^(64*(xs.length-1))*z:=Nat.mul_le_mul_left _ (by omega);omega
 rw[Fu hge];congr 2;rw[e,Nat.add_mul_div_left _ _ (Nat.two_pow_pos _),Nat.div_eq_of_lt hlow,Nat.zero_add]
theorem Ur{v:Value}{xs:List Nat}{H:AH}(hs:Sl H v xs)(dx:Dig B64 xs)(hlen:xs.length≤17592186044416):CW Tryz.prog Zo 123 [v] H fun v' H'=>H'=H∧v'= .int .i64 (Zf (dv B64 xs):Int):=by
 refine Zj 20 (by decide) (by decide) Tryz.func123 rfl rfl ?_;obtain⟨v1,H1,hc1,e1,s1⟩:=Uo hs (by omega);subst e1;rw[←Vp B64 xs];have tx:=Cj xs;have dx:=Ji dx;have lx:(Xm xs).length≤17592186044416:=Nat.le_trans (Jj xs) hlen;generalize Xm xs=xs at*;have l1:=s1.len Zn;apply Zb;intro b1 hb1;apply Za;simp;subst hb1;apply Zb;intro b1 hb1;apply Za;simp[hc1];subst hb1;apply Zb;intro b1 hb1;apply Zb;intro b2 hb2;apply Za;simp[l1];subst hb2;by_cases h0:xs.length=0;·obtain rfl:xs=[]:=List.length_eq_zero_iff.mp h0;refine Zc (t:=true) (by simp) ?_;apply Zb;intro b2 hb2;apply Za;simp;subst hb2;apply Zm;simp[Xo,dv,Zf]
 ·refine Zc (t:=false) (by simp;intro h;apply h0;simp[h]) ?_;apply Zi;subst hb1;have i1:xs.length-1<xs.length:=by omega
  have a1:=s1.adr Zn (k:= .i64) i1;have d1:=s1.load i1;have hw:IntKind.i64.wrap ((xs.length:Int)-1)=((xs.length-1:Nat):Int):=Zo1 (by omega) (by omega);have hx:xs[xs.length-1]<B64:=dx.get (List.getElem?_eq_getElem i1);obtain⟨v3,H3,hc3,e3,e4⟩:=len64_spec (H:=H1) hx;subst e3;subst e4;have hb:=blen_dv dx tx (by omega);have hb64:Zf (xs[xs.length-1])≤64:=by
   rcases Nat.lt_or_ge 64 (Zf (xs[xs.length-1]))with h|h
   ·have h0:xs[xs.length-1]≠0:=by intro e;rw[e]at h;simp[Zf]at h
    have a:=Ug h0;have b:2^64≤2^(Zf (xs[xs.length-1])-1):=Nat.pow_le_pow_right (by decide) (by omega);have hx:xs[xs.length-1]<18446744073709551616:=hx;omega
   ·exact h
  have hw2:IntKind.i64.wrap (64*((xs.length-1:Nat):Int))=64*((xs.length-1:Nat):Int):=by rw[IntKind.wrap_i64];omega
  have hw3:IntKind.i64.wrap (64*((xs.length-1:Nat):Int)+(Zf (xs[xs.length-1]):Int))=(Zf (dv B64 xs):Int):=by rw[IntKind.wrap_i64,hb];omega
  apply Zb;intro b2 hb2;apply Za;simp[l1,hw,hw2,a1,d1,hc3,hw3];subst hb2;apply Zm;simp
theorem Fy{x:Nat}{H:AH}(hx:x<B64):CW Tryz.prog Zo 164 [.int .u64 (x:Int)] H fun v H'=>Keep H H'∧Own H.n H' v (ds B64 x):=by
 refine Zj 7 (by decide) (by decide) Tryz.func164 rfl rfl ?_;apply Zb;intro b1 hb1;apply Za;simp;subst hb1;apply Zb;intro b1 hb1;apply Zb;intro b2 hb2;apply Za;simp;subst hb2;by_cases h0:x=0;·subst h0;refine Zc (t:=true) (by simp) ?_;apply Zb;intro b2 hb2;apply Za;simp;subst hb2;apply Zm;simp[Xo,Jb];exact⟨.refl H,.nil⟩
 ·refine Zc (t:=false) (by simp;omega) ?_;apply Zi;subst hb1;have e:ds B64 x=[x]:=by rw[Eu Yf h0,Nat.mod_eq_of_lt hx,Nat.div_eq_of_lt hx,Jb]
  have hbs:Qe Tryz.prog H 30 1 [(0,.int .u64 (x:Int))]=some (.slice (some ⟨H.n,0,none⟩) 1 1,H.new 1 ([x].map Gk)):=by unfold Qe;simp only[tNat,zU64];kernel_rfl
  apply Zb;intro b2 hb2;apply Za;simp[hbs];subst hb2;apply Zm;simp;rw[e];exact⟨.new _ _ _,Own.new H [x]⟩
end
theorem zeros_limb(n:Nat):zeros (Value.int .u64 0).cells n=(List.replicate n 0).map Gk:=by
 unfold zeros;apply List.ext_getElem?;intro i;rw[List.getElem?_map,List.getElem?_map,List.getElem?_replicate];by_cases h:i<n;·rw[if_pos h,List.getElem?_range h];simp[Gk,Value.cells,Nat.mod_one]
 ·rw[if_neg h,List.getElem?_eq_none (by simp;omega)];rfl
theorem Xz{H:AH}{t:TypeId}(ht:LT t){n:Nat}(hn:n≤17592186044416): ∃v H',Kp Tryz.prog H t (.int .i64 (n:Int)) (.int .i64 (n:Int))=some (v,H')∧Keep H H'∧Own H.n H' v (List.replicate n 0)∧H'.n=H.n+1:=by
 refine⟨.slice (some ⟨H.n,0,none⟩) n n,H.new 1 ((List.replicate n 0).map Gk),?_,.new _ _ _,?_,rfl⟩;·unfold Kp;simp only[ht.2,zU64];rw[if_pos (by omega)];simp only[Int.toNat_natCast,Nat.mul_one,zeros_limb]
 ·have:=Own.new H (List.replicate n 0);rwa[List.length_replicate]at this
theorem Own.store{n:Nat}{H:AH}{v:Value}{xs:List Nat}(h:Own n H v xs){i:Nat}(hi:i<xs.length)(y:Nat): ∃H',Xt Tryz.prog H 101 (adr v i) (.int .u64 (y:Int))=some H'∧Own n H' v (xs.set i y)∧H'.n=H.n∧ ∀H0,Keep H0 H→H0.n≤n→Keep H0 H':=by cases h with
 |nil=>cases hi
 |mk b o cap xs cs h1 h2 h3 h4 h5 h6=>
  have hlen:Nat.ble (o+i+1) cs.length=true:=Nat.ble_eq.mpr (by omega);have e0:(Value.int .u64 (y:Int)).cells=#[.int .u64 (y:Int)]:=rfl;have hw:H.write b (o+i) [.int .u64 (y:Int)]=some { n:=H.n,lw:=min H.lw b,t:=H.t.set b (.rw 1 (cs.take (o+i)++[.int .u64 (y:Int)]++cs.drop (o+i+1))) } :=by rw[AH.write_def,h4];simp only[List.length_singleton,hlen,Bool.true_and];rfl
  refine⟨{ n:=H.n,lw:=min H.lw b,t:=H.t.set b (.rw 1 (cs.take (o+i)++[.int .u64 (y:Int)]++cs.drop (o+i+1))) },?_,?_,rfl,?_⟩;·unfold Xt Go.Proofs.YtmkfecoeghokfaaGreatDoor.adr;simp only[sU64,e0];rw[show Nat.beq (#[Value.int .u64 (y:Int)]:Array Value).size 1=true from rfl,cond_true];exact hw
  ·have hl:(xs.set i y).length=xs.length:=List.length_set;rw[←hl];refine .mk b o cap _ (cs.take (o+i)++[.int .u64 (y:Int)]++cs.drop (o+i+1)) (by omega) h2 h3 ?_ ?_ ?_;·unfold AH.blk;simp only[Tr.get_set,if_true]
   ·simp only[List.length_append,List.length_take,List.length_drop,List.length_singleton];omega
   ·intro j x hj;rw[List.getElem?_set]at hj;by_cases e:i=j;·subst e;rw[if_pos rfl,if_pos hi]at hj;cases hj;rw[List.append_assoc,List.getElem?_append_right (by rw[List.length_take];omega)];rw[List.length_take,show o+i-min (o+i) cs.length=0 by omega];rfl
    ·rw[if_neg e]at hj;have:=h6 j x hj;rcases Nat.lt_or_ge (o+j) (o+i)with hlt|hge;·rw[List.append_assoc,List.getElem?_append_left (by rw[List.length_take];omega),List.getElem?_take,if_pos hlt];exact this
     ·rw[List.getElem?_append_right (by simp only[List.length_append,List.length_take,List.length_singleton];omega),List.getElem?_drop];simp only[List.length_append,List.length_take,List.length_singleton];rw[show o+i+1+(o+j-(min (o+i) cs.length+1))=o+j by omega];exact this
  ·intro H0 k hn;refine⟨k.n,?_,fun j hj=>?_⟩;·have:=k.lw;show min H0.lw H0.n≤min H.lw b;omega
   ·have:j≠b:=by omega
    rw[←k.blk j hj];unfold AH.blk;simp only[Tr.get_set,if_neg this]
theorem bv_nat{x:Nat}(h:x<B64):(BitVec.ofInt 64 (x:Int)).toNat=x:=by have h:x<18446744073709551616:=h;simp[BitVec.toNat_ofInt];omega
theorem or_u64{x y:Nat}(hx:x<B64)(hy:y<B64):Zd .or .u64 (x:Int) (y:Int)=some (.int .u64 ((x|||y:Nat):Int)):=by
 have h:x|||y<2^64:=Nat.or_lt_two_pow hx hy;have e:(BitVec.ofInt 64 (x:Int)|||BitVec.ofInt 64 (y:Int)).toNat=x|||y:=by rw[BitVec.toNat_or,bv_nat hx,bv_nat hy]
 show some (Value.int .u64 (IntKind.u64.wrap ((BitVec.ofInt 64 (x:Int)|||BitVec.ofInt 64 (y:Int)).toNat:Nat)))=_;rw[e,IntKind.wrap_u64];have h:x|||y<18446744073709551616:=h;rw[Int.emod_eq_of_lt (by omega) (by omega)]
theorem and_u64{x y:Nat}(hx:x<B64)(hy:y<B64):Zd .and .u64 (x:Int) (y:Int)=some (.int .u64 ((x&&&y:Nat):Int)):=by
 have h:x&&&y<2^64:=Nat.and_lt_two_pow _ hy;have e:(BitVec.ofInt 64 (x:Int)&&&BitVec.ofInt 64 (y:Int)).toNat=x&&&y:=by rw[BitVec.toNat_and,bv_nat hx,bv_nat hy]
 show some (Value.int .u64 (IntKind.u64.wrap ((BitVec.ofInt 64 (x:Int)&&&BitVec.ofInt 64 (y:Int)).toNat:Nat)))=_;rw[e,IntKind.wrap_u64];have h:x&&&y<18446744073709551616:=h;rw[Int.emod_eq_of_lt (by omega) (by omega)]
theorem Dn{x s:Nat}(hs:s≤64):Qk .shl .u64 (x:Int) (s:Int)=some (.int .u64 ((x*2^s%B64:Nat):Int)):=by unfold Qk;rw[if_neg (by omega)];simp only[show IntKind.u64.bits=64 from rfl,Int.toNat_natCast,Nat.min_eq_left hs,IntKind.wrap_u64];congr 2
theorem Cv{x s:Nat}(hs:s≤64):Qk .shr .u64 (x:Int) (s:Int)=some (.int .u64 ((x/2^s:Nat):Int)):=by unfold Qk;rw[if_neg (by omega)];simp only[show IntKind.u64.bits=64 from rfl,Int.toNat_natCast,Nat.min_eq_left hs];rw[Zb8]
theorem Fz{x y:Nat} :Zd .add .u64 (x:Int) (y:Int)=some (.int .u64 (((x+y)%B64:Nat):Int)):=by unfold Zd;simp only[IntKind.wrap_u64];congr 2
theorem Dj{x y:Nat} :Zd .mul .u64 (x:Int) (y:Int)=some (.int .u64 ((x*y%B64:Nat):Int)):=by unfold Zd;simp only[IntKind.wrap_u64];congr 2
theorem Uf{x y:Nat}(h:x+y<9223372036854775808):Zd .add .i64 (x:Int) (y:Int)=some (.int .i64 ((x+y:Nat):Int)):=by
 show some (Value.int .i64 (IntKind.i64.wrap ((x:Int)+(y:Int))))=_;have e:IntKind.i64.wrap ((x:Int)+(y:Int))=((x+y:Nat):Int):=by rw[IntKind.wrap_i64];omega
 rw[e]
theorem Xp{x:Nat}(h:x<9223372036854775800):Zd .add .i64 (x:Int) 1=some (.int .i64 ((x+1:Nat):Int)):=by have:=Uf (x:=x) (y:=1) (by omega);simpa using this
theorem sub_i64{x y:Nat}(h:x<9223372036854775808)(hy:y≤x):Zd .sub .i64 (x:Int) (y:Int)=some (.int .i64 ((x-y:Nat):Int)):=by
 show some (Value.int .i64 (IntKind.i64.wrap ((x:Int)-(y:Int))))=_;have e:IntKind.i64.wrap ((x:Int)-(y:Int))=((x-y:Nat):Int):=by rw[IntKind.wrap_i64];omega
 rw[e]
theorem Gn{x:Nat}(h:x<9223372036854775808)(hx:0<x):Zd .sub .i64 (x:Int) 1=some (.int .i64 ((x-1:Nat):Int)):=by have:=sub_i64 (x:=x) (y:=1) h hx;simpa using this
theorem Do{x y:Nat}(hx:x<B64)(hy:y≤x):Zd .sub .u64 (x:Int) (y:Int)=some (.int .u64 ((x-y:Nat):Int)):=by
 have hx:x<18446744073709551616:=hx;show some (Value.int .u64 (IntKind.u64.wrap ((x:Int)-(y:Int))))=_;have e:IntKind.u64.wrap ((x:Int)-(y:Int))=((x-y:Nat):Int):=by rw[IntKind.wrap_u64];omega
 rw[e]
theorem Jf{k:IntKind}{x y:Nat} :Zd .lss k (x:Int) (y:Int)=some (.bool (decide (x<y))):=by show some (Value.bool (decide ((x:Int)<(y:Int))))=_;congr 2;simp
theorem Ze7{k:IntKind}{x y:Nat} :Zd .leq k (x:Int) (y:Int)=some (.bool (decide (x≤y))):=by show some (Value.bool (decide ((x:Int)≤(y:Int))))=_;congr 2;simp
theorem Uw{k:IntKind}{x y:Nat} :Zd .gtr k (x:Int) (y:Int)=some (.bool (decide (y<x))):=by show some (Value.bool (decide ((x:Int)>(y:Int))))=_;congr 2;simp
theorem geq_nat{k:IntKind}{x y:Nat} :Zd .geq k (x:Int) (y:Int)=some (.bool (decide (y≤x))):=by show some (Value.bool (decide ((x:Int)≥(y:Int))))=_;congr 2;simp
theorem Ze4{k:IntKind}{x y:Nat} :Zd .eql k (x:Int) (y:Int)=some (.bool (decide (x=y))):=by
 show some (Value.bool ((x:Int)==(y:Int)))=_;congr 2;by_cases h:x=y;·simp[h]
 ·have: ¬ (x:Int)=(y:Int):=by omega
  simp[h,this]
theorem neq_nat{k:IntKind}{x y:Nat} :Zd .neq k (x:Int) (y:Int)=some (.bool (decide (x≠y))):=by
 show some (Value.bool ((x:Int) !=(y:Int)))=_;congr 2;by_cases h:x=y;·simp[h]
 ·have: ¬ (x:Int)=(y:Int):=by omega
  simp[h,this]
theorem or_add{s a b:Nat}(hb:b<2^s):(a*2^s)|||b=a*2^s+b:=by rw[Nat.mul_comm,Nat.two_pow_add_eq_or_of_lt hb]
theorem Ui(L:List Nat)(c y:Nat)(R:List Nat){i:Nat}(h:L.length=i):(L++c::R).set i y=L++y::R:=by subst h;rw[List.set_append_right _ _ (Nat.le_refl _),Nat.sub_self];rfl
theorem Zk7(L:List Nat)(c:Nat)(R:List Nat){i:Nat}(h:L.length=i)(hi:i<(L++c::R).length):(L++c::R)[i]=c:=by subst h;simp
theorem Qp{xs:List Nat}{i:Nat}(h:i<xs.length):xs.take (i+1)=xs.take i++[xs[i]]:=(List.take_append_getElem (l:=xs) (i:=i) h).symm
theorem limb_shift{x s:Nat}(hs:s<64):x*2^s=x*2^s%B64+B64*(x/2^(64-s)):=by
 have e:B64=2^(64-s)*2^s:=by rw[←Nat.pow_add,show 64-s+s=64 by omega]
 have h1:x*2^s/B64=x/2^(64-s):=by rw[e,Nat.mul_div_mul_right _ _ (Nat.two_pow_pos s)]
 have:=Nat.mod_add_div (x*2^s) B64;rw[h1]at this;exact this.symm
theorem limb_low{x s:Nat}(hs:s<64): ∃a,x*2^s%B64=a*2^s∧a<2^(64-s):=by
 have e:B64=2^(64-s)*2^s:=by rw[←Nat.pow_add,show 64-s+s=64 by omega]
 refine⟨x%2^(64-s),?_,Nat.mod_lt _ (Nat.two_pow_pos _)⟩;rw[e,Nat.mul_mod_mul_right]
theorem limb_fit{x c s:Nat}(hs:s<64)(hc:c<2^s):x*2^s%B64+c<B64:=by
 obtain⟨a,e1,h⟩:=limb_low (x:=x) hs;have e:B64=2^(64-s)*2^s:=by rw[←Nat.pow_add,show 64-s+s=64 by omega]
 rw[e1,e];have:(a+1)*2^s≤2^(64-s)*2^s:=Nat.mul_le_mul_right _ h;rw[Nat.succ_mul]at this;omega
section
attribute [-simp] Int.natCast_add Int.natCast_mul Int.natCast_ediv Int.natCast_emod Int.natCast_pow
attribute [local simp] strip Ye LW' gW Yk Xc Zz Xd Yn Xe Zr Zs Zg Yo Yz Yj Yp Zh Xa Ze opd Qd Yl plain Yg Tr.get_set Qb Zp Xv Yc sameKind undef Zu Yr Yw Zn Qa Jl Yb parts Jf
theorem up_spec{v:Value}{xs:List Nat}{H:AH}(hs:Sl H v xs)(dx:Dig B64 xs)(hlen:xs.length≤17592186044000){s:Nat}(h64:s<64):CW Tryz.prog Zo 217 [v,.int .u64 (s:Int)] H fun v' H'=>Keep H H'∧ ∃ys,Own H.n H' v' ys∧Dig B64 ys∧ys.length=xs.length+1∧dv B64 ys=dv B64 xs*2^s:=by
 refine Zj 39 (by decide) (by decide) Tryz.func217 rfl rfl ?_;obtain⟨c0,H1,hmk,k1,o1,n1⟩:=Xz (H:=H) Zn (n:=xs.length+1) (by omega);have l0:=hs.len Zn;apply Zb;intro b1 hb1;apply Za;simp;subst hb1;apply Zb;intro b1 hb1;apply Za;simp[l0,Xp (x:=xs.length) (by omega),hmk];subst hb1;apply Zb;intro b1 hb1;apply Zb;intro b2 hb2;apply Za;simp[l0];subst hb2;apply Zt;refine Xw (fun m s'=>s'.k=39∧ ∃(i c:Nat) (L:List Nat),m+i=xs.length∧L.length=i∧c<2^s∧Dig B64 L∧dv B64 L+B64^i*c=dv B64 (xs.take i)*2^s∧Keep H s'.H∧Own H.n s'.H c0 (L++c::List.replicate m 0)∧s'.tm.get 1=some (.int .u64 (s:Int))∧s'.tm.get 5=some c0∧s'.tm.get 12=some v∧s'.tm.get 13=some (.int .i64 (xs.length:Int))∧s'.tm.get 14=some (.int .i64 (i:Int))) ?_ xs.length _ ⟨rfl,0,0,[],by omega,rfl,Nat.two_pow_pos s,.nil _,by simp[dv],k1,o1,by simp,by simp,by simp,by simp,by simp⟩;rintro m ⟨k,tm,H2⟩ ⟨hk,i,c,L,hmi,hL,hc,dL,hv,kH,own,t1,t5,t12,t13,t14⟩ Q' hQ';simp only at hk t1 t5 t12 t13 t14 kH own;subst hk;apply Zb;intro b3 hb3;apply Za;simp[t13,t14];subst hb3;apply Zb;intro b3 hb3;by_cases hi:i<xs.length
 ·refine Zc (t:=true) (by simp[hi]) ?_;apply Zi;subst hb3;have s2:=hs.keep kH;have a1:=s2.adr Zn (k:= .i64) hi;have d1:=s2.load hi;have hx:xs[i]<B64:=dx.get (List.getElem?_eq_getElem hi);obtain⟨m',rfl⟩: ∃m',m=m'+1:=⟨m-1,by omega⟩;have hlen2:(L++c::List.replicate (m'+1) 0).length=xs.length+1:=by simp;omega
  have own1:=own.sl;have a2:=own1.adr Zn (k:= .i64) (i:=i) (by omega);have d2:=own1.load (i:=i) (by omega);rw[Zk7 L c _ hL]at d2;have hcB:c<B64:=Nat.lt_of_lt_of_le hc (by show 2^s≤2^64;exact Nat.pow_le_pow_right (by decide) (by omega));have hm:xs[i]*2^s%B64<B64:=Nat.mod_lt _ (by decide);have hor:c|||xs[i]*2^s%B64=xs[i]*2^s%B64+c:=by obtain⟨a,e1,_⟩:=limb_low (x:=xs[i]) h64;rw[Nat.or_comm,e1,or_add hc]
  obtain⟨H3,st1,own3,n3,kp3⟩:=own.store (i:=i) (by omega) (xs[i]*2^s%B64+c);rw[Ui L c _ _ hL]at own3;have a3:=own3.sl.adr Zn (k:= .i64) (i:=i+1) (by simp;omega);obtain⟨H4,st2,own4,n4,kp4⟩:=own3.store (i:=i+1) (by simp;omega) (xs[i]/2^(64-s));have hset:(L++(xs[i]*2^s%B64+c)::List.replicate (m'+1) 0).set (i+1) (xs[i]/2^(64-s))=(L++[xs[i]*2^s%B64+c])++(xs[i]/2^(64-s))::List.replicate m' 0:=by rw[show L++(xs[i]*2^s%B64+c)::List.replicate (m'+1) 0=(L++[xs[i]*2^s%B64+c])++0::List.replicate m' 0 by simp[List.replicate_succ]];exact Ui _ _ _ _ (by simp[hL])
  rw[hset]at own4;have sh2:Qk .shr .u64 ((xs[i]/2:Nat):Int) ((63-s:Nat):Int)=some (.int .u64 ((xs[i]/2^(64-s):Nat):Int)):=by rw[Cv (by omega),Nat.div_div_eq_div_mul];rw[show 2*2^(63-s)=2^(64-s) by rw[←Nat.pow_succ',show(63-s).succ=64-s by omega]]
  have sh1:Qk .shr .u64 (xs[i]:Int) 1=some (.int .u64 ((xs[i]/2:Nat):Int)):=Cv (s:=1) (by omega);have sb:Zd .sub .u64 63 (s:Int)=some (.int .u64 ((63-s:Nat):Int)):=Do (x:=63) (by decide) (by omega);apply Zb;intro b3 hb3;apply Zt;apply Zb;intro b4 hb4;apply Za;simp[t12,t14,a1,d1];subst hb4;apply Zb;intro b4 hb4;apply Za;simp[t1,t5,a2,d2,Dn (x:=xs[i]) (s:=s) (by omega),or_u64 hcB hm,hor,st1];subst hb4;apply Za;simp[t1,t5,Xp (x:=i) (by omega),sh1,sb,sh2,a3,st2];subst hb3;apply Za;simp[t14,Xp (x:=i) (by omega)];apply hQ';refine⟨m',by omega,rfl,i+1,xs[i]/2^(64-s),L++[xs[i]*2^s%B64+c],by omega,by simp[hL],?_,?_,?_,kp4 H (kp3 H kH (Nat.le_refl _)) (Nat.le_refl _),?_,?_⟩;·rw[Nat.div_lt_iff_lt_mul (Nat.two_pow_pos _),←Nat.pow_add,show s+(64-s)=64 by omega];exact hx
  ·exact dL.append (.cons (limb_fit h64 hc) (.nil _))
  ·rw[Yy,hL,Qp hi,Yy,List.length_take,Nat.min_eq_left (by omega)];simp only[dv,Nat.mul_zero,Nat.add_zero];have e1:=limb_shift (x:=xs[i]) h64;generalize hq:xs[i]*2^s%B64=q at e1⊢;generalize xs[i]/2^(64-s)=r at e1⊢;rw[Nat.add_mul,←hv,Nat.mul_assoc (B64^i) xs[i],e1,Nat.pow_succ,Nat.mul_assoc (B64^i) B64 r,Nat.mul_add,Nat.mul_add];omega
  ·simpa using own4
  ·exact⟨by simp[t1],by simp[t5],by simp[t12],by simp[t13],by simp⟩
 ·refine Zc (t:=false) (by simp[hi]) ?_;apply Xy;apply hQ';left;refine⟨rfl,?_⟩;have hi':i=xs.length:=by omega
  obtain rfl:m=0:=by omega
  subst hb1;apply Zb;intro b4 hb4;apply Za;simp[t5];subst hb4;apply Zm;simp;refine⟨kH,L++[c],by simpa using own,?_,by simp[hL,hi'],?_⟩;·have hcB:c<B64:=Nat.lt_of_lt_of_le hc (by show 2^s≤2^64;exact Nat.pow_le_pow_right (by decide) (by omega));exact dL.append (.cons hcB (.nil _))
  ·rw[Yy,hL];simp only[dv,Nat.mul_zero,Nat.add_zero];rw[hv,hi',List.take_length]
end
theorem and32{x:Nat}(hx:x<B64):Zd .and .u64 (x:Int) 4294967295=some (.int .u64 ((x%4294967296:Nat):Int)):=by have:=and_u64 (x:=x) (y:=4294967295) hx (by decide);rw[show x&&&4294967295=x%4294967296 from Nat.and_two_pow_sub_one_eq_mod x 32]at this;exact this
theorem shr32{x:Nat} :Qk .shr .u64 (x:Int) 32=some (.int .u64 ((x/4294967296:Nat):Int)):=Cv (x:=x) (s:=32) (by omega)
theorem mul64_arith {x y : Nat} (hx : x < B64) (hy : y < B64) :
    let x0 := x % 4294967296; let x1 := x / 4294967296; let y0 := y % 4294967296; let y1 := y / 4294967296
    let w0 := x0 * y0 % B64
    let t := (x1 * y0 % B64 + w0 / 4294967296) % B64
    let w1 := (t % 4294967296 + x0 * y1 % B64) % B64
    ((x1 * y1 % B64 + t / 4294967296) % B64 + w1 / 4294967296) % B64 = x * y / B64 := by
  intro x0 x1 y0 y1 w0 t w1
  have hx : x < 18446744073709551616 := hx
  have hy : y < 18446744073709551616 := hy
  have a0 : x0 ≤ 4294967295 := by show x % 4294967296 ≤ _; omega
  have a1 : x1 ≤ 4294967295 := by show x / 4294967296 ≤ _; omega
  have b0 : y0 ≤ 4294967295 := by show y % 4294967296 ≤ _; omega
  have b1 : y1 ≤ 4294967295 := by show y / 4294967296 ≤ _; omega
  have ex : x = 4294967296 * x1 + x0 := (Nat.div_add_mod x 4294967296).symm
  have ey : y = 4294967296 * y1 + y0 := (Nat.div_add_mod y 4294967296).symm
  have p00 : x0 * y0 ≤ 18446744065119617025 := Nat.mul_le_mul a0 b0
  have p10 : x1 * y0 ≤ 18446744065119617025 := Nat.mul_le_mul a1 b0
  have p01 : x0 * y1 ≤ 18446744065119617025 := Nat.mul_le_mul a0 b1
  have p11 : x1 * y1 ≤ 18446744065119617025 := Nat.mul_le_mul a1 b1
  have e : x * y = 18446744073709551616 * (x1 * y1) + 4294967296 * (x1 * y0) + 4294967296 * (x0 * y1) + x0 * y0 := by
    rw [ex, ey]
    simp only [Nat.mul_add, Nat.add_mul]
    rw [show 4294967296 * x1 * (4294967296 * y1) = 18446744073709551616 * (x1 * y1) by rw [Nat.mul_mul_mul_comm]]
    rw [Nat.mul_assoc 4294967296 x1 y0, Nat.mul_left_comm x0 4294967296 y1]
    omega
  rw [e]
  show ((x1 * y1 % 18446744073709551616 + t / 4294967296) % 18446744073709551616 + w1 / 4294967296) % 18446744073709551616 = _ / 18446744073709551616
  have hw0 : w0 = x0 * y0 := Nat.mod_eq_of_lt (by show _ < 18446744073709551616; omega)
  have ht : t = x1 * y0 + x0 * y0 / 4294967296 := by
    show (x1 * y0 % 18446744073709551616 + w0 / 4294967296) % 18446744073709551616 = _
    rw [hw0]; omega
  have hw1 : w1 = t % 4294967296 + x0 * y1 := by
    show (t % 4294967296 + x0 * y1 % 18446744073709551616) % 18446744073709551616 = _
    omega
  generalize x1 * y1 = p11 at *
  generalize x1 * y0 = p10 at *
  generalize x0 * y1 = p01 at *
  generalize x0 * y0 = p00 at *
  clear_value t w1
  omega
section
attribute [-simp] Int.natCast_add Int.natCast_mul Int.natCast_ediv Int.natCast_emod Int.natCast_pow
attribute [local simp] strip Ye LW' gW Yk Xc Zz Xd Yn Xe Zr Zs Zg Yo Yz Yj Yp Zh Xa Ze opd Qd Yl plain Yg Tr.get_set Qb Zp Xv Yc sameKind undef Zu Yr Yw Zn Qa Jl Yb parts Jf
theorem mul64_spec{x y:Nat}(hx:x<B64)(hy:y<B64){H:AH} :CW Tryz.prog Zo 202 [.int .u64 (x:Int),.int .u64 (y:Int)] H fun v H'=>H'=H∧v= .tuple #[.int .u64 ((x*y/B64:Nat):Int),.int .u64 ((x*y%B64:Nat):Int)]:=by
 refine Zj 51 (by decide) (by decide) Tryz.func202 rfl rfl ?_;have ht: ∀z:Nat,z%B64<B64:=fun z=>Nat.mod_lt _ (by decide);have key:=mul64_arith hx hy;simp only at key;iterate 12 apply Zb;intro b hb;apply Za;simp[and32 hx,and32 hy,shr32,Dj,Fz,and32 (ht _)];subst hb
 apply Zm;simp;have key2:=key;simp only[Nat.mod_add_mod,Nat.add_mod_mod]at key2;rw[←key2]
end
theorem Own.cut{n0:Nat}{H:AH}{v:Value}{xs:List Nat}(h:Own n0 H v xs){t:TypeId}(ht:LT t){m:Nat}(hm:m≤xs.length)(h0:0<xs.length): ∃v',Uz Tryz.prog H t v none (some (.int .i64 (m:Int))) none=some v'∧Own n0 H v' (xs.take m):=by cases h with
 |nil=>cases h0
 |mk b o cap xs cs h1 h2 h3 h4 h5 h6=>
  have hl:(xs.take m).length=m:=by rw[List.length_take];omega
  have hsz:H.size b=some 1:=by unfold AH.size;rw[h4]
  refine⟨.slice (some ⟨b,o,none⟩) (xs.take m).length cap,?_,.mk b o cap _ cs (by omega) h2 h3 h4 h5 fun i x hx=>h6 i x ?_⟩;·unfold Uz;simp only[ht.1,sU64];unfold cutV Qt;simp only[hsz,Option.isSome_some,Option.isNone_none,Bool.true_or];rw[if_pos (by omega)];have e1:Nat.ble m cap=true:=Nat.ble_eq.mpr (by omega);simp[Qt,e1,hl]
  ·rw[List.getElem?_take]at hx;split at hx;·exact hx
   ·cases hx
section
attribute [local simp] strip Ye LW' gW Yk Xc Zz Xd Yn Xe Zr Zs Zg Yo Yz Yj Yp Zh Xa opd Qd Yl plain Yg Tr.get_set Qb Zp Xv Yc sameKind Zd undef Zu Yr Yw Zn Qa Jl Yb
theorem trim_own{v:Value}{xs:List Nat}{H:AH}{n0:Nat}(hs:Own n0 H v xs)(hlen:xs.length<1152921504606846976):CW Tryz.prog Zo 160 [v] H fun v' H'=>H'=H∧Own n0 H v' (Xm xs):=by
 refine Zj 21 (by decide) (by decide) Tryz.func160 rfl rfl ?_;apply Zb;intro b1 hb1;apply Za;simp;subst hb1;apply Zb;intro b1 hb1;apply Zt;refine W_loop (fun n s=>s.k=21∧s.H=H∧ ∃v',s.tm.get 0=some v'∧n≤xs.length∧Own n0 H v' (xs.take n)∧Xm (xs.take n)=Xm xs) ?_ xs.length _ ⟨rfl,rfl,v,by simp,Nat.le_refl _,by rw[List.take_length];exact hs,by rw[List.take_length]⟩;rintro n ⟨k,tm,H'⟩ ⟨h2,h3,v',h4,h5,h6,h7⟩;simp only at h2 h3 h4;subst h2;subst h3;have hl:(xs.take n).length=n:=by rw[List.length_take];omega
 have hlenv:=h6.sl.len Zn;rw[hl]at hlenv;apply Zb;intro b2 hb2;apply Zb;intro b3 hb3;apply Za;by_cases hz:n=0;·subst hz;simp[h4,hlenv];subst hb3;refine Zc (t:=false) (by simp) ?_;apply Xy;left;refine⟨rfl,?_⟩;subst hb1;apply Zb;intro b4 hb4;apply Za;simp[h4];subst hb4;apply Zm;simp;rw[←h7];exact h6
 ·have hn:0<n:=Nat.pos_of_ne_zero hz;have hw:IntKind.i64.wrap ((n:Int)-1)=((n-1:Nat):Int):=Zo1 hn (by omega);have hi:n-1<(xs.take n).length:=by omega
  have ha:=h6.sl.adr Zn (k:= .i64) hi;have hld:=h6.sl.load hi;simp[h4,hlenv,hn,hw,ha,hld];subst hb3;have hx:n-1<xs.length:=by omega
  have htake:xs.take n=xs.take (n-1)++[xs[n-1]]:=by have:=List.take_append_getElem (l:=xs) (i:=n-1) hx;rw[this,show n-1+1=n by omega]
  by_cases h0:xs[n-1]=0
  ·refine Zc (t:=true) (by simp[h0]) ?_;apply Zi;subst hb2;apply Zt;apply Za;obtain⟨v2,hv2,hs2⟩:=h6.cut Zn (m:=n-1) (by omega) (by omega);simp[h4,hlenv,hw,hv2];refine⟨n-1,by omega,rfl,rfl,v2,by simp,by omega,?_,?_⟩;·rw[List.take_take,show min (n-1) n=n-1 by omega]at hs2;exact hs2
   ·rw[←h7,htake,h0,Kv]
  ·refine Zc (t:=false) (by simp;exact h0) ?_;apply Xy;left;refine⟨rfl,?_⟩;subst hb1;apply Zb;intro b4 hb4;apply Za;simp[h4];subst hb4;apply Zm;simp;rw[←h7];have:Xm (xs.take n)=xs.take n:=by rw[htake];exact Ck _ _ h0
   rw[this];exact h6
theorem Zf8{v:Value}{xs:List Nat}{H:AH}{n0:Nat}(hs:Own n0 H v xs)(dx:Dig B64 xs)(hlen:xs.length≤17592186044416):CW Tryz.prog Zo 204 [v] H fun v' H'=>H'=H∧((67108864<Zf (dv B64 xs)∧v'= .tuple #[.slice none 0 0,.int .i64 3])∨(Zf (dv B64 xs)≤67108864∧ ∃u,v'= .tuple #[u,.int .i64 0]∧Own n0 H u (ds B64 (dv B64 xs)))):=by
 refine Zj 10 (by decide) (by decide) Tryz.func204 rfl rfl ?_;obtain⟨v1,H1,hc1,e1,s1⟩:=trim_own hs (by omega);subst e1;have dt:=Ji dx;obtain⟨v2,H2,hc2,e2,e3⟩:=Ur s1.sl dt (Nat.le_trans (Jj xs) hlen);subst e2;subst e3;rw[Vp]at hc2;rw[Qr Yf dx]at s1;apply Zb;intro b1 hb1;apply Za;simp;subst hb1;apply Zb;intro b1 hb1;apply Za;simp[hc1];subst hb1;apply Zb;intro b1 hb1;apply Zb;intro b2 hb2;apply Za;simp[hc2];subst hb2;by_cases h:67108864<Zf (dv B64 xs);·refine Zc (t:=true) (by simp;omega) ?_;apply Zb;intro b2 hb2;apply Za;simp;subst hb2;apply Zm;simp[Xo,h]
 ·refine Zc (t:=false) (by simp;omega) ?_;apply Zi;subst hb1;apply Zb;intro b2 hb2;apply Za;simp;subst hb2;apply Zm;simp[h];exact⟨by omega,s1⟩
end
def nth(xs:List Nat)(i:Nat):Nat:=xs[i]?.getD 0
theorem Jn{xs:List Nat}{i:Nat}(h:i<xs.length):nth xs i=xs[i]:=by unfold nth;rw[List.getElem?_eq_getElem h];rfl
theorem Ga{xs:List Nat}{i:Nat}(h:xs.length≤i):nth xs i=0:=by unfold nth;rw[List.getElem?_eq_none h];rfl
section
attribute [-simp] Int.natCast_add Int.natCast_mul Int.natCast_ediv Int.natCast_emod Int.natCast_pow
attribute [local simp] strip Ye LW' gW Yk Xc Zz Xd Yn Xe Zr Zs Zg Yo Yz Yj Yp Zh Xa Ze opd Qd Yl plain Yg Tr.get_set Qb Zp Xv Yc sameKind undef Zu Yr Yw Zn Qa Jl Yb parts Jf
theorem down_spec{v:Value}{xs:List Nat}{H:AH}(hs:Sl H v xs)(dx:Dig B64 xs)(hlen:xs.length≤17592186044000){s:Nat}(h64:s<64):CW Tryz.prog Zo 219 [v,.int .u64 (s:Int)] H fun v' H'=>Keep H H'∧Own H.n H' v' (ds B64 (dv B64 xs/2^s)):=by
 refine Zj 47 (by decide) (by decide) Tryz.func219 rfl rfl ?_;obtain⟨c0,H1,hmk,k1,o1,n1⟩:=Xz (H:=H) Zn (n:=xs.length) (by omega);have l0:=hs.len Zn;apply Zb;intro b1 hb1;apply Za;simp;subst hb1;apply Zb;intro b1 hb1;apply Za;simp[l0,hmk];subst hb1;apply Zb;intro b1 hb1;apply Zb;intro b2 hb2;apply Za;simp[l0];subst hb2;apply Zt;refine Xw (fun m s'=>s'.k=47∧ ∃(i:Nat) (L:List Nat),m+i=xs.length∧L.length=i∧Dig B64 L∧dv B64 L*2^s+nth xs 0%2^s=dv B64 (xs.take i)+B64^i*(nth xs i%2^s)∧Keep H s'.H∧Own H.n s'.H c0 (L++List.replicate m 0)∧s'.tm.get 0=some v∧s'.tm.get 1=some (.int .u64 (s:Int))∧s'.tm.get 5=some c0∧s'.tm.get 11=some v∧s'.tm.get 12=some (.int .i64 (xs.length:Int))∧s'.tm.get 13=some (.int .i64 (i:Int))) ?_ xs.length _ ⟨rfl,0,[],by omega,rfl,.nil _,by simp[dv],k1,o1,by simp,by simp,by simp,by simp,by simp,by simp⟩;rintro m ⟨k,tm,H2⟩ ⟨hk,i,L,hmi,hL,dL,hv,kH,own,t0,t1,t5,t11,t12,t13⟩ Q' hQ';simp only at hk t0 t1 t5 t11 t12 t13 kH own;subst hk;apply Zb;intro b3 hb3;apply Za;simp[t12,t13];subst hb3;apply Zb;intro b3 hb3;by_cases hi:i<xs.length
 ·refine Zc (t:=true) (by simp[hi]) ?_;apply Zi;subst hb3;have s2:=hs.keep kH;have a1:=s2.adr Zn (k:= .i64) hi;have d1:=s2.load hi;have hx:xs[i]<B64:=dx.get (List.getElem?_eq_getElem hi);obtain⟨m',rfl⟩: ∃m',m=m'+1:=⟨m-1,by omega⟩;have own':Own H.n H2 c0 (L++0::List.replicate m' 0):=by rw[List.replicate_succ]at own;exact own
  have a2:=own'.sl.adr Zn (k:= .i64) (i:=i) (by simp;omega);have hq:xs[i]/2^s<2^(64-s):=by rw[Nat.div_lt_iff_lt_mul (Nat.two_pow_pos _),←Nat.pow_add,show 64-s+s=64 by omega];exact hx
  have hqB:xs[i]/2^s<B64:=Nat.lt_of_lt_of_le hq (by show _≤2^64;exact Nat.pow_le_pow_right (by decide) (by omega));obtain⟨H3,st1,own3,n3,kp3⟩:=own'.store (i:=i) (by simp;omega) (xs[i]/2^s);rw[Ui L 0 _ _ hL]at own3;have kH3:=kp3 H kH (Nat.le_refl _);apply Zb;intro b3 hb3;have low:nth xs (i+1)%2^s<2^s:=Nat.mod_lt _ (Nat.two_pow_pos _);have e64:2^s*2^(64-s)=B64:=by rw[←Nat.pow_add,show s+(64-s)=64 by omega]
  have fin: ∀(tm4:Tr Value)(H4:AH),Keep H H4→Own H.n H4 c0 (L++(nth xs (i+1)%2^s*2^(64-s)+xs[i]/2^s)::List.replicate m' 0)→tm4.get 0=some v→tm4.get 1=some (.int .u64 (s:Int))→tm4.get 5=some c0→tm4.get 11=some v→tm4.get 12=some (.int .i64 (xs.length:Int))→tm4.get 13=some (.int .i64 (i:Int))→W Tryz.prog Zo b3 ⟨47,tm4,H4⟩ Q':=fun tm4 H4 k4 o4 q0 q1 q5 q11 q12 q13=>by
   subst hb3;apply Za;simp[q13,Xp (x:=i) (by omega)];apply hQ';refine⟨m',by omega,rfl,i+1,L++[nth xs (i+1)%2^s*2^(64-s)+xs[i]/2^s],by omega,by simp[hL],?_,?_,k4,by simpa using o4,by simp[q0],by simp[q1],by simp[q5],by simp[q11],by simp[q12],by simp⟩;·refine dL.append (.cons ?_ (.nil _));have:(nth xs (i+1)%2^s+1)*2^(64-s)≤2^s*2^(64-s):=Nat.mul_le_mul_right _ low;rw[e64,Nat.succ_mul]at this;omega
   ·rw[Yy,hL,Qp hi,Yy,List.length_take,Nat.min_eq_left (by omega)];simp only[dv,Nat.mul_zero,Nat.add_zero];rw[Jn hi]at hv;have e1:2^s*(xs[i]/2^s)+xs[i]%2^s=xs[i]:=Nat.div_add_mod _ _;generalize nth xs (i+1)%2^s=u at*;generalize hr:xs[i]%2^s=r at*;generalize hqq:xs[i]/2^s=q at*;have e2:(u*2^(64-s)+q)*2^s=B64*u+2^s*q:=by rw[Nat.add_mul,Nat.mul_assoc,Nat.mul_comm (2^(64-s)),e64,Nat.mul_comm u,Nat.mul_comm q]
    have e3:B64^i*xs[i]=B64^i*(2^s*q)+B64^i*r:=by rw[←Nat.mul_add,e1]
    rw[Nat.add_mul,Nat.mul_assoc (B64^i),e2,Nat.mul_add,e3,Nat.pow_succ,Nat.mul_assoc (B64^i) B64 u];omega
  apply Zt;apply Zb;intro b4 hb4;apply Za;simp[t11,t13,a1,d1];subst hb4;apply Zb;intro b4 hb4;apply Za;simp[t1,t5,t13,Cv (x:=xs[i]) (s:=s) (by omega),a2,st1];subst hb4;apply Zb;intro b4 hb4;apply Za;simp[t0,l0,Xp (x:=i) (by omega)];subst hb4;by_cases hi2:i+1<xs.length
  ·refine Zc (t:=true) (by simp[hi2]) ?_;have s3:=hs.keep kH3;have a4:=s3.adr Zn (k:= .i64) hi2;have d4:=s3.load hi2;have a5:=own3.sl.adr Zn (k:= .i64) (i:=i) (by simp;omega);have d5:=own3.sl.load (i:=i) (by simp;omega);rw[Zk7 L _ _ hL]at d5;have hx1:xs[i+1]<B64:=dx.get (List.getElem?_eq_getElem hi2);have n1:nth xs (i+1)=xs[i+1]:=Jn hi2;have sb:Zd .sub .u64 63 (s:Int)=some (.int .u64 ((63-s:Nat):Int)):=Do (x:=63) (by decide) (by omega);have sh1:Qk .shl .u64 (xs[i+1]:Int) 1=some (.int .u64 ((xs[i+1]*2%B64:Nat):Int)):=Dn (s:=1) (by omega);have em:xs[i+1]*2%B64*2^(63-s)%B64=nth xs (i+1)%2^s*2^(64-s):=by rw[n1,Nat.mod_mul_mod,Nat.mul_assoc,show 2*2^(63-s)=2^(64-s) by rw[←Nat.pow_succ',show(63-s).succ=64-s by omega],←e64,Nat.mul_mod_mul_right]
   have sh2:Qk .shl .u64 ((xs[i+1]*2%B64:Nat):Int) ((63-s:Nat):Int)=some (.int .u64 ((nth xs (i+1)%2^s*2^(64-s):Nat):Int)):=by rw[Dn (by omega),em]
   have hwB:nth xs (i+1)%2^s*2^(64-s)<B64:=by rw[←em];exact Nat.mod_lt _ (by decide)
   have hor:xs[i]/2^s|||nth xs (i+1)%2^s*2^(64-s)=nth xs (i+1)%2^s*2^(64-s)+xs[i]/2^s:=by rw[Nat.or_comm,or_add hq]
   obtain⟨H4,st4,own4,n4,kp4⟩:=own3.store (i:=i) (by simp;omega) (nth xs (i+1)%2^s*2^(64-s)+xs[i]/2^s);rw[Ui L _ _ _ hL]at own4;apply W_mem (by kernel_rfl);simp[t0,t1,t5,a4,d4,a5,d5,Xp (x:=i) (by omega),sb,sh1,sh2,or_u64 hqB hwB,hor,st4];exact fin _ _ (kp4 H kH3 (Nat.le_refl _)) own4 (by simp[t0]) (by simp[t1]) (by simp[t5]) (by simp[t11]) (by simp[t12]) (by simp[t13])
  ·refine Zc (t:=false) (by simp[hi2]) ?_;apply Zi;have n0:nth xs (i+1)=0:=Ga (by omega);exact fin _ _ kH3 (by rw[n0];simpa using own3) (by simp[t0]) (by simp[t1]) (by simp[t5]) (by simp[t11]) (by simp[t12]) (by simp[t13])
 ·refine Zc (t:=false) (by simp[hi]) ?_;apply Xy;apply hQ';left;refine⟨rfl,?_⟩;obtain rfl:m=0:=by omega
  have hi':i=xs.length:=by omega
  obtain⟨v5,H5,hc5,k5,o5⟩:=Kd own.sl (by simp;omega);subst hb1;apply Zb;intro b4 hb4;apply Za;simp[t5,hc5];subst hb4;apply Zm;simp;refine⟨kH.trans k5,?_⟩;have e:dv B64 xs/2^s=dv B64 L:=by rw[hi',Ga (Nat.le_refl _),List.take_length,Nat.zero_mod,Nat.mul_zero,Nat.add_zero]at hv;rw[←hv,Nat.add_comm,Nat.add_mul_div_right _ _ (Nat.two_pow_pos _),Nat.div_eq_of_lt (Nat.mod_lt _ (Nat.two_pow_pos _)),Nat.zero_add]
  rw[e,←Qr Yf dL];have o5':Own H2.n H5 v5 (Xm L):=by simpa using o5
  exact o5'.mono kH.n (.refl H5)
end
end
end Go.Proofs.YtmkfecoeghokfaaGreatDoor
namespace Go.Proofs.YtmkfecoeghokfaaGreatDoor
set_option linter.unusedVariables false
set_option maxHeartbeats 1000000
theorem est_num{b y1 y0 u d q r:Nat}(hq:q*y1+r=u):u*b+d=q*(y1*b)+(b*r+d):=by rw[←hq,Nat.add_mul,Nat.mul_assoc,Nat.mul_comm r b];omega
theorem est_true{b y1 y0 u d q r:Nat}(hq:q*y1+r=u)(hu:u<y1*b+y0)(hd:d<b)(ht:b≤q∨b*r+d<q*y0):(u*b+d)/(y1*b+y0)<q:=by
 have hy:0<y1*b+y0:=by omega
 rw[Nat.div_lt_iff_lt_mul hy];rcases ht with ht|ht;·have h1:(u+1)*b≤(y1*b+y0)*b:=Nat.mul_le_mul_right _ hu;have h2:b*(y1*b+y0)≤q*(y1*b+y0):=Nat.mul_le_mul_right _ ht;rw[Nat.succ_mul]at h1;rw[Nat.mul_comm b]at h2;omega
 ·rw[est_num (y0:=y0) (d:=d) (b:=b) hq,Nat.mul_add];omega
theorem est_false{b y1 y0 u d q r:Nat}(hq:q*y1+r=u)(hy:0<y1*b+y0)(ht:q*y0≤b*r+d):q≤(u*b+d)/(y1*b+y0):=by rw[Nat.le_div_iff_mul_le hy,est_num (y0:=y0) (d:=d) (b:=b) hq,Nat.mul_add];omega
theorem est_first{b y1 y0 u d:Nat}(h1:0<y1)(hd:d<b):(u*b+d)/(y1*b+y0)≤u/y1:=by
 have hb:0<b:=by omega
 have hy:0<y1*b+y0:=by have:=Nat.mul_pos h1 hb;omega
 have h2:(u*b+d)/(y1*b+y0)≤(u*b+d)/(y1*b):=by rw[Nat.le_div_iff_mul_le (Nat.mul_pos h1 hb)];have:=Nat.div_mul_le_self (u*b+d) (y1*b+y0);rw[Nat.mul_add]at this;omega
 have h3:(u*b+d)/(y1*b)=u/y1:=by rw[Nat.mul_comm y1 b,←Nat.div_div_eq_div_mul,Nat.add_comm,Nat.add_mul_div_right _ _ hb,Nat.div_eq_of_lt hd,Nat.zero_add]
 omega
theorem est_small{b y1 y0 u:Nat}(h1:b≤2*y1)(h0:y0<b)(hu:u<y1*b+y0)(hp:0<y1):u/y1≤b+1:=by
 have:u/y1<b+2:=by rw[Nat.div_lt_iff_lt_mul hp,Nat.add_mul,Nat.mul_comm b y1];omega
 omega
end Go.Proofs.YtmkfecoeghokfaaGreatDoor
namespace Go.Proofs.YtmkfecoeghokfaaGreatDoor
open Go Ev
set_option linter.unusedVariables false
set_option linter.unusedSimpArgs false
noncomputable section
set_option maxRecDepth 20000
set_option maxHeartbeats 1000000
theorem Zm0{x y:Nat}(hx:x<B64)(hy:0<y):Zd .quo .u64 (x:Int) (y:Int)=some (.int .u64 ((x/y:Nat):Int)):=by
 have hx:x<18446744073709551616:=hx;have hle:x/y≤x:=Nat.div_le_self x y;have h0: ¬ ((y:Int)=0):=by omega
 have e:IntKind.u64.wrap ((x:Int).tdiv (y:Int))=((x/y:Nat):Int):=by rw[IntKind.wrap_u64,Int.tdiv_eq_ediv_of_nonneg (by omega),←Int.natCast_ediv];generalize x/y=q at*;omega
 show(if(y:Int)=0 then none else some (Value.int .u64 (IntKind.u64.wrap ((x:Int).tdiv (y:Int)))))=_;rw[if_neg h0,e]
theorem rem_u64{x y:Nat}(hy:0<y):Zd .rem .u64 (x:Int) (y:Int)=some (.int .u64 ((x%y:Nat):Int)):=by
 have h0: ¬ ((y:Int)=0):=by omega
 have e:(x:Int).tmod (y:Int)=((x%y:Nat):Int):=by rw[Int.tmod_eq_emod_of_nonneg (by omega),←Int.natCast_emod]
 show(if(y:Int)=0 then none else some (Value.int .u64 ((x:Int).tmod (y:Int))))=_;rw[if_neg h0,e]
theorem subm_u64{x y:Nat}(hy:y≤B64):Zd .sub .u64 (x:Int) (y:Int)=some (.int .u64 (((x+B64-y)%B64:Nat):Int)):=by
 have hy:y≤18446744073709551616:=hy;have e:IntKind.u64.wrap ((x:Int)-(y:Int))=(((x+18446744073709551616-y)%18446744073709551616:Nat):Int):=by rw[IntKind.wrap_u64];omega
 show some (Value.int .u64 (IntKind.u64.wrap ((x:Int)-(y:Int))))=_;rw[e]
theorem rest_mod{u b d q y:Nat}(hy:y<B64)(hy0:0<y)(hq:q=(u*b+d)/y):((u*b%B64+d)%B64+B64-q*y%B64)%B64=(u*b+d)%y:=by have e:=Nat.div_add_mod (u*b+d) y;rw[←hq,Nat.mul_comm y q]at e;have hr:(u*b+d)%y<y:=Nat.mod_lt _ hy0;generalize(u*b+d)%y=r at*;generalize q*y=p at*;rw[Nat.mod_add_mod,←e];have hy:y<18446744073709551616:=hy;show((p+r)%18446744073709551616+18446744073709551616-p%18446744073709551616)%18446744073709551616=r;omega
abbrev b32:Nat:=4294967296
theorem geqL{x:Nat} :Zd .geq .u64 (x:Int) 4294967296=some (.bool (decide (4294967296≤x))):=geq_nat (y:=4294967296)
theorem mulL{x:Nat} :Zd .mul .u64 4294967296 (x:Int)=some (.int .u64 ((4294967296*x%B64:Nat):Int)):=Dj (x:=4294967296)
theorem mulR{x:Nat} :Zd .mul .u64 (x:Int) 4294967296=some (.int .u64 ((x*4294967296%B64:Nat):Int)):=Dj (y:=4294967296)
theorem Zm2{x:Nat}(hx:x<B64)(h:0<x):Zd .sub .u64 (x:Int) 1=some (.int .u64 ((x-1:Nat):Int)):=Do (y:=1) hx h
structure Est (y1 y0 u d q r : Nat) : Prop where
  y1lo : 2147483648 ≤ y1
  y1hi : y1 < 4294967296
  y0hi : y0 < 4294967296
  uhi : u < y1 * 4294967296 + y0
  dhi : d < 4294967296
  eq : q * y1 + r = u
  ge : (u * 4294967296 + d) / (y1 * 4294967296 + y0) ≤ q
  rhi : r < 4294967296
  qhi : q ≤ 4294967297
def estT(y0 d q r:Nat):Bool:=decide (4294967296≤q)||decide (4294967296*r+d<q*y0)
theorem Est.down{y1 y0 u d q r:Nat}(h:Est y1 y0 u d q r)(ht:estT y0 d q r=true):0<q∧(q-1)*y1+(r+y1)=u∧(u*4294967296+d)/(y1*4294967296+y0)≤q-1∧q-1≤4294967296:=by
 have ht':4294967296≤q∨4294967296*r+d<q*y0:=by simpa[estT]using ht
 have h1:=est_true h.eq h.uhi h.dhi ht';have hq:0<q:=Nat.lt_of_le_of_lt (Nat.zero_le _) h1;refine⟨hq,?_,Nat.le_sub_one_of_lt h1,by have:=h.qhi;omega⟩;obtain⟨q',rfl⟩: ∃q',q=q'+1:=⟨q-1,by omega⟩;have:=h.eq;rw[Nat.succ_mul]at this;rw[Nat.add_sub_cancel];omega
theorem Est.stop{y1 y0 u d q r:Nat}(h:Est y1 y0 u d q r)(ht:estT y0 d q r=false):q=(u*4294967296+d)/(y1*4294967296+y0)∧q<4294967296:=by
 have ht':q<4294967296∧q*y0≤4294967296*r+d:=by simpa[estT]using ht
 have:=est_false h.eq (by have:=h.y1lo;omega) ht'.2;exact⟨Nat.le_antisymm this h.ge,ht'.1⟩
theorem est_break{y1 y0 u d q r:Nat}(y1lo:2147483648≤y1)(y0hi:y0<4294967296)(uhi:u<y1*4294967296+y0)(dhi:d<4294967296)(eq:q*y1+r=u)(ge:(u*4294967296+d)/(y1*4294967296+y0)≤q)(hr:4294967296≤r)(hq:q≤4294967296):q=(u*4294967296+d)/(y1*4294967296+y0)∧q<4294967296:=by
 have h1:q*y0≤4294967296*r+d:=by have a:q*y0≤4294967296*y0:=Nat.mul_le_mul_right _ hq;omega
 have h2:=est_false eq (show 0<y1*4294967296+y0 by omega) h1;have h3:q=(u*4294967296+d)/(y1*4294967296+y0):=Nat.le_antisymm h2 ge;refine⟨h3,?_⟩;rw[h3,Nat.div_lt_iff_lt_mul (by omega)];have:(u+1)*4294967296≤(y1*4294967296+y0)*4294967296:=Nat.mul_le_mul_right _ uhi;rw[Nat.succ_mul,Nat.mul_comm (y1*4294967296+y0)]at this;omega
theorem est_start{y1 y0 u d:Nat}(y1lo:2147483648≤y1)(y1hi:y1<4294967296)(y0hi:y0<4294967296)(uhi:u<y1*4294967296+y0)(dhi:d<4294967296):Est y1 y0 u d (u/y1) (u%y1):=⟨y1lo,y1hi,y0hi,uhi,dhi,by rw[Nat.mul_comm];exact Nat.div_add_mod u y1,est_first (by omega) dhi,Nat.lt_of_lt_of_le (Nat.mod_lt _ (by omega)) (by omega),est_small (by omega) y0hi uhi (by omega)⟩
theorem eql0{x:Nat} :Zd .eql .u64 (x:Int) 0=some (.bool (decide (x=0))):=Ze4 (y:=0)
theorem Zf9{n:Nat}(h:n<B64):Dy Tryz.prog 3 228 (.int .i64 (n:Int))=some (.int .u64 (n:Int)):=by
 have h:n<18446744073709551616:=h;have e:IntKind.u64.wrap (n:Int)=(n:Int):=by rw[IntKind.wrap_u64];omega
 unfold Dy;simp only[Tryz.underlying3,Tryz.underlying228,e]
theorem total_div{U N1 N0 b B yn qh u2 ql r3:Nat}(e1:yn*qh+u2=U*b+N1)(e2:yn*ql+r3=u2*b+N0)(hB:B=b*b):U*B+(N1*b+N0)=yn*(qh*b+ql)+r3:=by
 subst hB;have e3:(yn*qh+u2)*b=(U*b+N1)*b:=by rw[e1]
 rw[Nat.add_mul,Nat.add_mul,Nat.mul_assoc,Nat.mul_assoc]at e3;rw[Nat.mul_add];omega
section
attribute [-simp] Int.natCast_add Int.natCast_mul Int.natCast_ediv Int.natCast_emod Int.natCast_pow
attribute [local simp] strip Ye LW' gW Yk Xc Zz Xd Yn Xe Zr Zs Zg Yo Yz Yj Yp Zh Xa Ze opd Qd Yl plain Yg Tr.get_set Qb Zp Xv Yc sameKind undef Zu Yr Yw Zn Qa Jl Yb parts Jf
theorem div64_spec{h l y:Nat}(hh:h<y)(hl:l<B64)(hy:y<B64){H:AH} :CW Tryz.prog Zo 205 [.int .u64 (h:Int),.int .u64 (l:Int),.int .u64 (y:Int)] H fun v H'=>H'=H∧v= .tuple #[.int .u64 (((h*B64+l)/y:Nat):Int),.int .u64 (((h*B64+l)%y:Nat):Int)]:=by
 refine Zj 135 (by decide) (by decide) Tryz.func205 rfl rfl ?_;have y0:0<y:=by omega
 apply Zb;intro b1 hb1;apply Za;simp;subst hb1;apply Zb;intro b1 hb1;apply Zb;intro b2 hb2;apply Za;simp[eql0];subst hb2;refine Zc (t:=false) (by simp;omega) ?_;apply Zi;subst hb1;apply Zb;intro b1 hb1;apply Zb;intro b2 hb2;apply Za;simp[Ze7];subst hb2;refine Zc (t:=false) (by simp;omega) ?_;apply Zi;subst hb1;apply Zb;intro b1 hb1;apply Zb;intro b2 hb2;apply Za;simp[eql0];subst hb2;by_cases h0:h=0;·subst h0;refine Zc (t:=true) (by simp) ?_;apply Zb;intro b2 hb2;apply Cn (by kernel_rfl);simp[Zm0 hl y0,rem_u64 (x:=l) y0];subst hb2;apply Zm;simp[Xo]
 ·refine Zc (t:=false) (by simp;omega) ?_;apply Zi;subst hb1;obtain⟨v1,H1,hc1,e1,e2⟩:=lz_spec (H:=H) hy;subst e1;subst e2;have hbl:Zf y≤64:=by
   rcases Nat.lt_or_ge 64 (Zf y)with h|h;·have a:=Ug (n:=y) (by omega);have b:2^64≤2^(Zf y-1):=Nat.pow_le_pow_right (by decide) (by omega);have hy:y<18446744073709551616:=hy;omega
   ·exact h
  have hbl0:0<Zf y:=by unfold Zf;rw[if_neg (by omega)];omega
  obtain⟨s,hs⟩: ∃s,s=64-Zf y:=⟨_,rfl⟩;have h64:s<64:=by omega
  have es:(64-(Zf y:Int))=(s:Int):=by omega
  rw[es]at hc1;have ylt:y<2^(64-s):=by have:=Vx y;rwa[show Zf y=64-s by omega]at this
  have yge:2^(63-s)≤y:=by have:=Ug (n:=y) (by omega);rwa[show Zf y-1=63-s by omega]at this
  apply Zb;intro b1 hb1;apply Za;simp[hc1,Zf9 (n:=s) (Nat.lt_trans h64 (by decide))];subst hb1;have eB:B64=2^(64-s)*2^s:=by rw[←Nat.pow_add,show 64-s+s=64 by omega]
  obtain⟨yn,hyn⟩: ∃yn,yn=y*2^s:=⟨_,rfl⟩;have ynlt:yn<B64:=by rw[hyn,eB];exact Nat.mul_lt_mul_of_pos_right ylt (Nat.two_pow_pos s)
  have ynge:9223372036854775808≤yn:=by have:2^(63-s)*2^s≤y*2^s:=Nat.mul_le_mul_right _ yge;rw[←Nat.pow_add,show 63-s+s=63 by omega,←hyn]at this;exact this
  have hlow:l/2^(64-s)<2^s:=by rw[Nat.div_lt_iff_lt_mul (Nat.two_pow_pos _),←Nat.pow_add,show s+(64-s)=64 by omega];exact hl
  obtain⟨u,hu⟩: ∃u,u=h*2^s+l/2^(64-s):=⟨_,rfl⟩;have hhs:h*2^s+2^s≤yn:=by rw[hyn,←Nat.succ_mul];exact Nat.mul_le_mul_right _ hh
  have ult:u<yn:=by omega
  obtain⟨n,hn⟩: ∃n,n=l*2^s%B64:=⟨_,rfl⟩;have nlt:n<B64:=by rw[hn];exact Nat.mod_lt _ (by decide)
  have total:(h*B64+l)*2^s=u*B64+n:=by have:=limb_shift (x:=l) h64;rw[←hn]at this;rw[Nat.add_mul,this,hu,Nat.add_mul,Nat.mul_comm B64 (l/_),Nat.mul_assoc h,Nat.mul_comm B64,←Nat.mul_assoc];omega
  obtain⟨y1,hy1⟩: ∃y1,y1=yn/4294967296:=⟨_,rfl⟩;obtain⟨w0,hw0⟩: ∃w0,w0=yn%4294967296:=⟨_,rfl⟩;have eyn:yn=y1*4294967296+w0:=by omega
  have ynlt':yn<18446744073709551616:=ynlt;have y1lo:2147483648≤y1:=by omega
  have y1hi:y1<4294967296:=by omega
  have w0hi:w0<4294967296:=by omega
  obtain⟨n1,hn1⟩: ∃n1,n1=n/4294967296:=⟨_,rfl⟩;obtain⟨n0,hn0⟩: ∃n0,n0=n%4294967296:=⟨_,rfl⟩;have nlt':n<18446744073709551616:=nlt;have en:n=n1*4294967296+n0:=by omega
  have n1hi:n1<4294967296:=by omega
  have n0hi:n0<4294967296:=by omega
  have ulB:u<B64:=Nat.lt_trans ult ynlt;have hpos:=Nat.two_pow_pos s;have hhB:h*2^s<B64:=by omega
  have hlB:l/2^(64-s)<B64:=Nat.lt_of_le_of_lt (Nat.div_le_self _ _) hl;have f8:Qk .shl .u64 (y:Int) (s:Int)=some (.int .u64 (yn:Int)):=by rw[Dn (by omega),←hyn,Nat.mod_eq_of_lt ynlt]
  have f9:Qk .shr .u64 (yn:Int) 32=some (.int .u64 (y1:Int)):=by rw[shr32,←hy1]
  have f10:Zd .and .u64 (yn:Int) 4294967295=some (.int .u64 (w0:Int)):=by rw[and32 ynlt,←hw0]
  have f11a:Qk .shl .u64 (h:Int) (s:Int)=some (.int .u64 ((h*2^s:Nat):Int)):=by rw[Dn (by omega),Nat.mod_eq_of_lt hhB]
  have f11b:Zd .sub .u64 64 (s:Int)=some (.int .u64 ((64-s:Nat):Int)):=Do (x:=64) (by decide) (by omega);have f11c:Qk .shr .u64 (l:Int) ((64-s:Nat):Int)=some (.int .u64 ((l/2^(64-s):Nat):Int)):=Cv (by omega);have f11d:Zd .or .u64 ((h*2^s:Nat):Int) ((l/2^(64-s):Nat):Int)=some (.int .u64 (u:Int)):=by rw[or_u64 hhB hlB,or_add hlow,←hu]
  have f12:Qk .shl .u64 (l:Int) (s:Int)=some (.int .u64 (n:Int)):=by rw[Dn (by omega),←hn]
  have f13:Qk .shr .u64 (n:Int) 32=some (.int .u64 (n1:Int)):=by rw[shr32,←hn1]
  have f14:Zd .and .u64 (n:Int) 4294967295=some (.int .u64 (n0:Int)):=by rw[and32 nlt,←hn0]
  have f15:Zd .quo .u64 (u:Int) (y1:Int)=some (.int .u64 ((u/y1:Nat):Int)):=Zm0 ulB (by omega);have f16: ∀z:Nat,z<B64→(Zd .mul .u64 ((z/y1:Nat):Int) (y1:Int)=some (.int .u64 ((z/y1*y1:Nat):Int))∧Zd .sub .u64 (z:Int) ((z/y1*y1:Nat):Int)=some (.int .u64 ((z%y1:Nat):Int))):=fun z hz=>by have a:=Nat.div_mul_le_self z y1;refine⟨by rw[Dj,Nat.mod_eq_of_lt (Nat.lt_of_le_of_lt a hz)],?_⟩;rw[Do hz a];have:=Nat.div_add_mod z y1;rw[Nat.mul_comm]at this;rw[show z-z/y1*y1=z%y1 by omega]
  iterate 9 apply Zb;intro b hb;apply Za;simp[f8,f9,f10,f11a,f11b,f11c,f11d,f12,f13,f14,f15,(f16 u ulB).1,(f16 u ulB).2];subst hb
  refine W_then (fun s'=>s'.k=135∧s'.H=H1∧s'.tm.get 2=some (.int .u64 (yn:Int))∧s'.tm.get 8=some (.int .u64 (s:Int))∧s'.tm.get 9=some (.int .u64 (y1:Int))∧s'.tm.get 10=some (.int .u64 (w0:Int))∧s'.tm.get 11=some (.int .u64 (u:Int))∧s'.tm.get 13=some (.int .u64 (n1:Int))∧s'.tm.get 14=some (.int .u64 (n0:Int))∧ ∃q:Nat,q=(u*4294967296+n1)/(y1*4294967296+w0)∧q<4294967296∧s'.tm.get 15=some (.int .u64 (q:Int))) ?_ ?_
  ·apply Zt;refine Xw (fun m s'=>s'.k=135∧s'.H=H1∧s'.tm.get 2=some (.int .u64 (yn:Int))∧s'.tm.get 8=some (.int .u64 (s:Int))∧s'.tm.get 9=some (.int .u64 (y1:Int))∧s'.tm.get 10=some (.int .u64 (w0:Int))∧s'.tm.get 11=some (.int .u64 (u:Int))∧s'.tm.get 13=some (.int .u64 (n1:Int))∧s'.tm.get 14=some (.int .u64 (n0:Int))∧ ∃r:Nat,Est y1 w0 u n1 m r∧s'.tm.get 15=some (.int .u64 (m:Int))∧s'.tm.get 16=some (.int .u64 (r:Int))) ?_ (u/y1) _ ⟨rfl,rfl,by simp,by simp,by simp,by simp,by simp,by simp,by simp,_,est_start y1lo y1hi w0hi (by rw[←eyn];exact ult) n1hi,by simp,by simp⟩;rintro q ⟨k,tm,H2⟩ ⟨hk,hH,k2,k8,k9,k10,k11,k13,k14,r,E,tq,tr⟩ Q' hQ';simp only at hk hH k2 k8 k9 k10 k11 k13 k14 tq tr;subst hk;subst hH;have hqB:q<B64:=Nat.lt_of_le_of_lt E.qhi (by decide);have hrB:=E.rhi;apply Zb;intro b3 hb3;have qle:=E.qhi;have rB:4294967296*r<B64:=by show _<18446744073709551616;omega
   have mB:(4294967296*r+n1)%B64=4294967296*r+n1:=Nat.mod_eq_of_lt (by show _<18446744073709551616;omega);have key: ∀tm',W Tryz.prog Zo b3 ⟨135,tm',H2⟩ Q'→W Tryz.prog Zo b3 ⟨135,tm',H2⟩ Q':=fun _ h=>h;have down:estT w0 n1 q r=true→ ∀tm',tm'.get 2=some (.int .u64 (yn:Int))→tm'.get 8=some (.int .u64 (s:Int))→tm'.get 9=some (.int .u64 (y1:Int))→tm'.get 10=some (.int .u64 (w0:Int))→tm'.get 11=some (.int .u64 (u:Int))→tm'.get 13=some (.int .u64 (n1:Int))→tm'.get 14=some (.int .u64 (n0:Int))→tm'.get 15=some (.int .u64 (q:Int))→tm'.get 16=some (.int .u64 (r:Int))→W Tryz.prog Zo b3 ⟨135,tm',H2⟩ Q':=fun ht tm' k2 k8 k9 k10 k11 k13 k14 tq tr=>by
    obtain⟨q0,e1,ge1,q1⟩:=E.down ht;have f1:Zd .sub .u64 (q:Int) 1=some (.int .u64 ((q-1:Nat):Int)):=Zm2 hqB q0;have f2:Zd .add .u64 (r:Int) (y1:Int)=some (.int .u64 ((r+y1:Nat):Int)):=by rw[Fz,Nat.mod_eq_of_lt (by show _<18446744073709551616;omega)]
    subst hb3;apply Zt;apply Zb;intro b4 hb4;apply Za;simp[tq,f1];subst hb4;apply Zb;intro b4 hb4;apply Za;simp[tr,k9,f2];subst hb4;apply Zb;intro b4 hb4;apply Za;simp[geqL];subst hb4;by_cases hr:4294967296≤r+y1;·refine Zc (t:=true) (by simp[hr]) ?_;apply Xy;right;refine⟨by decide,?_⟩;apply hQ';left;have:=est_break y1lo w0hi E.uhi E.dhi e1 ge1 hr q1;exact⟨rfl,rfl,rfl,rfl,by simp[k2],by simp[k8],by simp[k9],by simp[k10],by simp[k11],by simp[k13],by simp[k14],q-1,this.1,this.2,by simp⟩
    ·refine Zc (t:=false) (by simp[hr]) ?_;apply Zi;apply hQ';exact⟨q-1,by omega,rfl,rfl,by simp[k2],by simp[k8],by simp[k9],by simp[k10],by simp[k11],by simp[k13],by simp[k14],r+y1,⟨y1lo,y1hi,w0hi,E.uhi,E.dhi,e1,ge1,by omega,by omega⟩,by simp,by simp⟩
   apply Zb;intro b4 hb4;apply Za;by_cases hq:4294967296≤q;·simp[tq,geqL,hq];subst hb4;refine Zc (t:=true) (by simp) ?_;apply Zi;show W _ _ b3 _ _;exact down (by simp[estT,hq]) _ (by simp[k2]) (by simp[k8]) (by simp[k9]) (by simp[k10]) (by simp[k11]) (by simp[k13]) (by simp[k14]) (by simp[tq]) (by simp[tr])
   ·have hqw:q*w0<B64:=by have a:q*w0≤4294967295*w0:=Nat.mul_le_mul_right _ (by omega);show _<18446744073709551616;omega
    have g1:Zd .mul .u64 (q:Int) (w0:Int)=some (.int .u64 ((q*w0:Nat):Int)):=by rw[Dj,Nat.mod_eq_of_lt hqw]
    have g2:Zd .mul .u64 4294967296 (r:Int)=some (.int .u64 ((4294967296*r:Nat):Int)):=by rw[mulL,Nat.mod_eq_of_lt rB]
    have g3:Zd .add .u64 ((4294967296*r:Nat):Int) (n1:Int)=some (.int .u64 ((4294967296*r+n1:Nat):Int)):=by rw[Fz,mB]
    simp[tq,geqL,hq,tr,k10,k13,g1,g2,g3,Uw];subst hb4;by_cases ht:4294967296*r+n1<q*w0;·refine Zc (t:=true) (by simp[ht]) ?_;apply Zi;show W _ _ b3 _ _;exact down (by simp[estT,ht]) _ (by simp[k2]) (by simp[k8]) (by simp[k9]) (by simp[k10]) (by simp[k11]) (by simp[k13]) (by simp[k14]) (by simp[tq]) (by simp[tr])
    ·refine Zc (t:=false) (by simp[ht]) ?_;apply Xy;apply hQ';left;have:=E.stop (by simp[estT,ht];omega);exact⟨rfl,rfl,rfl,rfl,by simp[k2],by simp[k8],by simp[k9],by simp[k10],by simp[k11],by simp[k13],by simp[k14],q,this.1,this.2,by simp[tq]⟩
  rintro⟨k,tm,H2⟩ ⟨hk,hH,k2,k8,k9,k10,k11,k13,k14,qh,hqh,hqlt,k15⟩;simp only at hk hH k2 k8 k9 k10 k11 k13 k14 k15;subst hk;subst hH;have ynpos:0<yn:=by omega
  obtain⟨u2,hu2⟩: ∃u2,u2=(u*4294967296+n1)%yn:=⟨_,rfl⟩;have u2lt:u2<yn:=by rw[hu2];exact Nat.mod_lt _ ynpos
  have u2B:u2<B64:=Nat.lt_trans u2lt ynlt;rw[←eyn]at hqh;have hrest:=rest_mod (u:=u) (b:=4294967296) (d:=n1) (q:=qh) ynlt ynpos hqh;rw[←hu2]at hrest;obtain⟨pa,hpa⟩: ∃pa,pa=u*4294967296%B64:=⟨_,rfl⟩;obtain⟨pb,hpb⟩: ∃pb,pb=(pa+n1)%B64:=⟨_,rfl⟩;obtain⟨pc,hpc⟩: ∃pc,pc=qh*yn%B64:=⟨_,rfl⟩;rw[←hpa,←hpb,←hpc]at hrest;have g21:Zd .mul .u64 (u:Int) 4294967296=some (.int .u64 (pa:Int)):=by rw[mulR,hpa]
  have g21a:Zd .add .u64 (pa:Int) (n1:Int)=some (.int .u64 (pb:Int)):=by rw[Fz,hpb]
  have g21b:Zd .mul .u64 (qh:Int) (yn:Int)=some (.int .u64 (pc:Int)):=by rw[Dj,hpc]
  have g21c:Zd .sub .u64 (pb:Int) (pc:Int)=some (.int .u64 (u2:Int)):=by rw[subm_u64 (by rw[hpc];exact Nat.le_of_lt (Nat.mod_lt _ (by decide))),hrest]
  have g22:Zd .quo .u64 (u2:Int) (y1:Int)=some (.int .u64 ((u2/y1:Nat):Int)):=Zm0 u2B (by omega);apply Zb;intro b hb;apply Za;simp[k11,k13,k15,k2,g21,g21a,g21b,g21c];subst hb;apply Zb;intro b hb;apply Za;simp[k9,g22];subst hb;apply Zb;intro b hb;apply Za;simp[k9,(f16 u2 u2B).1,(f16 u2 u2B).2];subst hb;refine W_then (fun s'=>s'.k=135∧s'.H=H2∧s'.tm.get 2=some (.int .u64 (yn:Int))∧s'.tm.get 8=some (.int .u64 (s:Int))∧s'.tm.get 9=some (.int .u64 (y1:Int))∧s'.tm.get 10=some (.int .u64 (w0:Int))∧s'.tm.get 11=some (.int .u64 (u:Int))∧s'.tm.get 13=some (.int .u64 (n1:Int))∧s'.tm.get 14=some (.int .u64 (n0:Int))∧s'.tm.get 15=some (.int .u64 (qh:Int))∧s'.tm.get 17=some (.int .u64 (u2:Int))∧ ∃q:Nat,q=(u2*4294967296+n0)/(y1*4294967296+w0)∧q<4294967296∧s'.tm.get 18=some (.int .u64 (q:Int))) ?_ ?_
  ·apply Zt;refine Xw (fun m s'=>s'.k=135∧s'.H=H2∧s'.tm.get 2=some (.int .u64 (yn:Int))∧s'.tm.get 8=some (.int .u64 (s:Int))∧s'.tm.get 9=some (.int .u64 (y1:Int))∧s'.tm.get 10=some (.int .u64 (w0:Int))∧s'.tm.get 11=some (.int .u64 (u:Int))∧s'.tm.get 13=some (.int .u64 (n1:Int))∧s'.tm.get 14=some (.int .u64 (n0:Int))∧s'.tm.get 15=some (.int .u64 (qh:Int))∧s'.tm.get 17=some (.int .u64 (u2:Int))∧ ∃r:Nat,Est y1 w0 u2 n0 m r∧s'.tm.get 18=some (.int .u64 (m:Int))∧s'.tm.get 16=some (.int .u64 (r:Int))) ?_ (u2/y1) _ ⟨rfl,rfl,by simp[k2],by simp[k8],by simp[k9],by simp[k10],by simp[k11],by simp[k13],by simp[k14],by simp[k15],by simp,_,est_start y1lo y1hi w0hi (by rw[←eyn];exact u2lt) n0hi,by simp,by simp⟩;clear k2 k8 k9 k10 k11 k13 k14 k15;rintro q ⟨k,tm,H3⟩ ⟨hk,hH,k2,k8,k9,k10,k11,k13,k14,k15,k17,r,E,tq,tr⟩ Q' hQ';simp only at hk hH k2 k8 k9 k10 k11 k13 k14 k15 k17 tq tr;subst hk;subst hH;have hqB:q<B64:=Nat.lt_of_le_of_lt E.qhi (by decide);have hrB:=E.rhi;apply Zb;intro b3 hb3;have qle:=E.qhi;have rB:4294967296*r<B64:=by show _<18446744073709551616;omega
   have mB:(4294967296*r+n0)%B64=4294967296*r+n0:=Nat.mod_eq_of_lt (by show _<18446744073709551616;omega);have key: ∀tm',W Tryz.prog Zo b3 ⟨135,tm',H3⟩ Q'→W Tryz.prog Zo b3 ⟨135,tm',H3⟩ Q':=fun _ h=>h;have down:estT w0 n0 q r=true→ ∀tm',tm'.get 2=some (.int .u64 (yn:Int))→tm'.get 8=some (.int .u64 (s:Int))→tm'.get 9=some (.int .u64 (y1:Int))→tm'.get 10=some (.int .u64 (w0:Int))→tm'.get 11=some (.int .u64 (u:Int))→tm'.get 13=some (.int .u64 (n1:Int))→tm'.get 14=some (.int .u64 (n0:Int))→tm'.get 15=some (.int .u64 (qh:Int))→tm'.get 17=some (.int .u64 (u2:Int))→tm'.get 18=some (.int .u64 (q:Int))→tm'.get 16=some (.int .u64 (r:Int))→W Tryz.prog Zo b3 ⟨135,tm',H3⟩ Q':=fun ht tm' k2 k8 k9 k10 k11 k13 k14 k15 k17 tq tr=>by
    obtain⟨q0,e1,ge1,q1⟩:=E.down ht;have f1:Zd .sub .u64 (q:Int) 1=some (.int .u64 ((q-1:Nat):Int)):=Zm2 hqB q0;have f2:Zd .add .u64 (r:Int) (y1:Int)=some (.int .u64 ((r+y1:Nat):Int)):=by rw[Fz,Nat.mod_eq_of_lt (by show _<18446744073709551616;omega)]
    subst hb3;apply Zt;apply Zb;intro b4 hb4;apply Za;simp[tq,f1];subst hb4;apply Zb;intro b4 hb4;apply Za;simp[tr,k9,f2];subst hb4;apply Zb;intro b4 hb4;apply Za;simp[geqL];subst hb4;by_cases hr:4294967296≤r+y1;·refine Zc (t:=true) (by simp[hr]) ?_;apply Xy;right;refine⟨by decide,?_⟩;apply hQ';left;have:=est_break y1lo w0hi E.uhi E.dhi e1 ge1 hr q1;exact⟨rfl,rfl,rfl,rfl,by simp[k2],by simp[k8],by simp[k9],by simp[k10],by simp[k11],by simp[k13],by simp[k14],by simp[k15],by simp[k17],q-1,this.1,this.2,by simp⟩
    ·refine Zc (t:=false) (by simp[hr]) ?_;apply Zi;apply hQ';exact⟨q-1,by omega,rfl,rfl,by simp[k2],by simp[k8],by simp[k9],by simp[k10],by simp[k11],by simp[k13],by simp[k14],by simp[k15],by simp[k17],r+y1,⟨y1lo,y1hi,w0hi,E.uhi,E.dhi,e1,ge1,by omega,by omega⟩,by simp,by simp⟩
   apply Zb;intro b4 hb4;apply Za;by_cases hq:4294967296≤q;·simp[tq,geqL,hq];subst hb4;refine Zc (t:=true) (by simp) ?_;apply Zi;show W _ _ b3 _ _;exact down (by simp[estT,hq]) _ (by simp[k2]) (by simp[k8]) (by simp[k9]) (by simp[k10]) (by simp[k11]) (by simp[k13]) (by simp[k14]) (by simp[k15]) (by simp[k17]) (by simp[tq]) (by simp[tr])
   ·have hqw:q*w0<B64:=by have a:q*w0≤4294967295*w0:=Nat.mul_le_mul_right _ (by omega);show _<18446744073709551616;omega
    have g1:Zd .mul .u64 (q:Int) (w0:Int)=some (.int .u64 ((q*w0:Nat):Int)):=by rw[Dj,Nat.mod_eq_of_lt hqw]
    have g2:Zd .mul .u64 4294967296 (r:Int)=some (.int .u64 ((4294967296*r:Nat):Int)):=by rw[mulL,Nat.mod_eq_of_lt rB]
    have g3:Zd .add .u64 ((4294967296*r:Nat):Int) (n0:Int)=some (.int .u64 ((4294967296*r+n0:Nat):Int)):=by rw[Fz,mB]
    simp[tq,geqL,hq,tr,k10,k14,g1,g2,g3,Uw];subst hb4;by_cases ht:4294967296*r+n0<q*w0;·refine Zc (t:=true) (by simp[ht]) ?_;apply Zi;show W _ _ b3 _ _;exact down (by simp[estT,ht]) _ (by simp[k2]) (by simp[k8]) (by simp[k9]) (by simp[k10]) (by simp[k11]) (by simp[k13]) (by simp[k14]) (by simp[k15]) (by simp[k17]) (by simp[tq]) (by simp[tr])
    ·refine Zc (t:=false) (by simp[ht]) ?_;apply Xy;apply hQ';left;have:=E.stop (by simp[estT,ht];omega);exact⟨rfl,rfl,rfl,rfl,by simp[k2],by simp[k8],by simp[k9],by simp[k10],by simp[k11],by simp[k13],by simp[k14],by simp[k15],by simp[k17],q,this.1,this.2,by simp[tq]⟩
  rintro⟨k,tm,H3⟩ ⟨hk,hH,k2,k8,k9,k10,k11,k13,k14,k15,k17,ql,hql,hqllt,k18⟩;simp only at hk hH k2 k8 k9 k10 k11 k13 k14 k15 k17 k18;subst hk;subst hH;rw[←eyn]at hql;obtain⟨r3,hr3⟩: ∃r3,r3=(u2*4294967296+n0)%yn:=⟨_,rfl⟩;have r3lt:r3<yn:=by rw[hr3];exact Nat.mod_lt _ ynpos
  have hrest2:=rest_mod (u:=u2) (b:=4294967296) (d:=n0) (q:=ql) ynlt ynpos hql;obtain⟨pd,hpd⟩: ∃pd,pd=u2*4294967296%B64:=⟨_,rfl⟩;obtain⟨pe,hpe⟩: ∃pe,pe=(pd+n0)%B64:=⟨_,rfl⟩;obtain⟨pf,hpf⟩: ∃pf,pf=ql*yn%B64:=⟨_,rfl⟩;rw[←hr3,←hpd,←hpe,←hpf]at hrest2;have j1:Zd .mul .u64 (qh:Int) 4294967296=some (.int .u64 ((qh*4294967296:Nat):Int)):=by rw[mulR,Nat.mod_eq_of_lt (by show _<18446744073709551616;omega)]
  have j2:Zd .add .u64 ((qh*4294967296:Nat):Int) (ql:Int)=some (.int .u64 ((qh*4294967296+ql:Nat):Int)):=by rw[Fz,Nat.mod_eq_of_lt (by show _<18446744073709551616;omega)]
  have j3:Zd .mul .u64 (u2:Int) 4294967296=some (.int .u64 (pd:Int)):=by rw[mulR,hpd]
  have j4:Zd .add .u64 (pd:Int) (n0:Int)=some (.int .u64 (pe:Int)):=by rw[Fz,hpe]
  have j5:Zd .mul .u64 (ql:Int) (yn:Int)=some (.int .u64 (pf:Int)):=by rw[Dj,hpf]
  have j6:Zd .sub .u64 (pe:Int) (pf:Int)=some (.int .u64 (r3:Int)):=by rw[subm_u64 (by rw[hpf];exact Nat.le_of_lt (Nat.mod_lt _ (by decide))),hrest2]
  have j7:Qk .shr .u64 (r3:Int) (s:Int)=some (.int .u64 ((r3/2^s:Nat):Int)):=Cv (by omega);have all:(h*B64+l)*2^s=yn*(qh*4294967296+ql)+r3:=by have e1:=Nat.div_add_mod (u*4294967296+n1) yn;rw[←hqh,←hu2]at e1;have e2:=Nat.div_add_mod (u2*4294967296+n0) yn;rw[←hql,←hr3]at e2;rw[total,en];exact total_div e1 e2 (by decide)
  have hquo:(h*B64+l)/y=qh*4294967296+ql:=by rw[←Nat.mul_div_mul_right _ _ (Nat.two_pow_pos s),all,←hyn,Nat.add_comm,Nat.add_mul_div_left _ _ ynpos,Nat.div_eq_of_lt r3lt,Nat.zero_add]
  have hrem:(h*B64+l)%y=r3/2^s:=by
   have:(h*B64+l)%y*2^s=r3:=by rw[←Nat.mul_mod_mul_right,all,←hyn,Nat.add_comm,Nat.add_mul_mod_self_left,Nat.mod_eq_of_lt r3lt]
   rw[←this,Nat.mul_div_cancel _ (Nat.two_pow_pos s)]
  rw[hquo,hrem];apply Zb;intro b hb;apply Za;simp[k2,k8,k14,k15,k17,k18,j1,j2,j3,j4,j5,j6,j7];subst hb;apply Zm;simp
end
end
end Go.Proofs.YtmkfecoeghokfaaGreatDoor
namespace Go.Proofs.YtmkfecoeghokfaaGreatDoor
set_option linter.unusedVariables false
set_option maxHeartbeats 1000000
structure Top (B P V U y1 y0 v' u d u' : Nat) : Prop where
  hV : V = (y1 * B + y0) * P + v'
  hU : U = (u * B + d) * P + u'
  vlt : v' < P
  ult : u' < P
  d_lt : d < B
  y0lt : y0 < B
  y1pos : 0 < y1
section
variable {B P V U y1 y0 v' u d u' q r : Nat}
theorem Top.Ppos(T:Top B P V U y1 y0 v' u d u'):0<P:=Nat.lt_of_le_of_lt (Nat.zero_le _) T.vlt
theorem Top.Bpos(T:Top B P V U y1 y0 v' u d u'):0<B:=Nat.lt_of_le_of_lt (Nat.zero_le _) T.d_lt
theorem Top.Vge(T:Top B P V U y1 y0 v' u d u'):B*P≤V:=by rw[T.hV];have:B*P≤(y1*B+y0)*P:=Nat.mul_le_mul_right _ (by have:1*B≤y1*B:=Nat.mul_le_mul_right _ T.y1pos;omega);omega
theorem Top.Vpos(T:Top B P V U y1 y0 v' u d u'):0<V:=Nat.lt_of_lt_of_le (Nat.mul_pos T.Bpos T.Ppos) T.Vge
theorem Top.Ult(T:Top B P V U y1 y0 v' u d u'):U<(u*B+d+1)*P:=by rw[T.hU,Nat.succ_mul];have:=T.ult;omega
theorem Top.first(T:Top B P V U y1 y0 v' u d u'):U/V≤u/y1:=by
 rw[Nat.le_div_iff_mul_le T.y1pos];have h1:U/V*V≤U:=Nat.div_mul_le_self U V;have h2:U/V*(y1*B*P)≤U/V*V:=Nat.mul_le_mul_left _ (by rw[T.hV,Nat.add_mul];omega);have h3:=T.Ult;have h4:(u*B+d+1)*P≤((u+1)*B)*P:=Nat.mul_le_mul_right _ (by have:=T.d_lt;rw[Nat.succ_mul];omega);have h5:(U/V*y1)*(B*P)<(u+1)*(B*P):=by rw[Nat.mul_assoc]at h2 h4;rw[Nat.mul_assoc];omega
 have:=Nat.lt_of_mul_lt_mul_right h5;omega
theorem Top.high{un un1:Nat}(T:Top B P V U y1 y0 v' (un*B+un1) d u')(h:U<V*B):un≤y1:=by
 rcases Nat.lt_or_ge y1 un with hlt|hge
 ·exfalso;have h1:V<(y1+1)*B*P:=by rw[T.hV];have a:(y1*B+y0+1)*P≤(y1+1)*B*P:=Nat.mul_le_mul_right _ (by have:=T.y0lt;rw[Nat.succ_mul];omega);have b:=T.vlt;rw[Nat.succ_mul]at a;omega
  have h2:V*B≤((y1+1)*B*P)*B:=Nat.mul_le_mul_right _ (Nat.le_of_lt h1);have h3:((y1+1)*B*P)*B≤U:=by rw[T.hU];have a:((y1+1)*B)*B≤(un*B)*B:=Nat.mul_le_mul_right _ (Nat.mul_le_mul_right _ hlt);have b:((y1+1)*B)*B*P≤((un*B+un1)*B+d)*P:=Nat.mul_le_mul_right _ (by rw[Nat.add_mul (un*B) un1 B];omega);rw[Nat.mul_right_comm _ P B];omega
  omega
 ·exact hge
theorem Top.true(T:Top B P V U y1 y0 v' u d u')(hq:q*y1+r=u)(ht:r*B+d<q*y0):U/V<q:=by rw[Nat.div_lt_iff_lt_mul T.Vpos];have h1:q*((y1*B+y0)*P)≤q*V:=Nat.mul_le_mul_left _ (by rw[T.hV];omega);have h2:(u*B+d+1)*P≤(q*(y1*B+y0))*P:=Nat.mul_le_mul_right _ (by rw[←hq,Nat.add_mul,Nat.mul_add,Nat.mul_assoc];omega);have h3:=T.Ult;rw[Nat.mul_assoc]at h2;omega
theorem Top.false(T:Top B P V U y1 y0 v' u d u')(hq:q*y1+r=u)(hlt:q<B)(ht:q*y0≤r*B+d):q≤U/V+1:=by
 have h1:q*V≤q*((y1*B+y0)*P)+q*P:=by rw[←Nat.mul_add];exact Nat.mul_le_mul_left _ (by rw[T.hV];have:=T.vlt;omega)
 have h2:(q*(y1*B+y0))*P≤(u*B+d)*P:=Nat.mul_le_mul_right _ (by rw[←hq,Nat.add_mul,Nat.mul_add,Nat.mul_assoc];omega);rw[Nat.mul_assoc]at h2;have h3:q*P<B*P:=Nat.mul_lt_mul_of_pos_right hlt T.Ppos;have h4:=T.Vge;have h5:q*V<U+V:=by have:=T.hU;omega
 have h6:q*V<(U/V+2)*V:=by have a:=Nat.div_add_mod U V;have b:=Nat.mod_lt U T.Vpos;rw[Nat.mul_comm]at a;rw[Nat.add_mul,Nat.two_mul];omega
 have:=Nat.lt_of_mul_lt_mul_right h6;omega
end
theorem take_away{N U V q R b:Nat}(hV:0<V)(hge:U/V≤q)(hle:q≤U/V+1)(hU:U<N)(hR:R<N)(hb:b≤1)(e:R+q*V=U+N*b):(b=0∧q=U/V∧R=U%V)∨(b=1∧q=U/V+1∧R+V=N+U%V):=by
 have a:=Nat.div_add_mod U V;have m:=Nat.mod_lt U hV;rw[Nat.mul_comm]at a;rcases Nat.lt_or_ge (U/V) q with h|h
 ·right;obtain rfl:q=U/V+1:=by omega
  rw[Nat.add_mul,Nat.one_mul]at e;have hb1:b=1:=by
   rcases Nat.lt_or_ge b 1 with h0|h0
   ·exfalso;obtain rfl:b=0:=by omega
    rw[Nat.mul_zero]at e;omega
   ·omega
  subst hb1;rw[Nat.mul_one]at e;exact⟨rfl,rfl,by omega⟩
 ·left;obtain rfl:q=U/V:=by omega
  have hb0:b=0:=by
   rcases Nat.lt_or_ge b 1 with h0|h0;·omega
   ·exfalso;obtain rfl:b=1:=by omega
    rw[Nat.mul_one]at e;omega
  subst hb0;rw[Nat.mul_zero]at e;exact⟨rfl,rfl,by omega⟩
theorem mul_sub_step {B x y q carry borrow : Nat} (hx : x < B) (hq : q < B) (hc : carry < B) (hy : y < B) (hb : borrow ≤ 1) :
    let p := x * q
    let sum := (p % B + carry) % B
    let carry' := p / B + (p % B + carry) / B
    let y' := (y + B - sum - borrow) % B
    let borrow' := if y < sum + borrow then 1 else 0
    carry' < B ∧ y' < B ∧ y' + x * q + carry + borrow = y + B * (carry' + borrow') := by
  intro p sum carry' y' borrow'
  have hB : 0 < B := by omega
  have hp : p ≤ (B - 1) * (B - 1) := Nat.mul_le_mul (by omega) (by omega)
  have e1 := Nat.div_add_mod p B
  have e2 := Nat.div_add_mod (p % B + carry) B
  have hs : sum < B := Nat.mod_lt _ hB
  have hcy : carry' * B + sum = p + carry := by
    show (p / B + (p % B + carry) / B) * B + (p % B + carry) % B = p + carry
    rw [Nat.add_mul, Nat.mul_comm (p / B), Nat.mul_comm ((p % B + carry) / B)]
    omega
  have hcB : carry' < B := by
    have : (B - 1) * (B - 1) + (B - 1) = (B - 1) * B := by
      obtain ⟨b, rfl⟩ : ∃ b, B = b + 1 := ⟨B - 1, by omega⟩
      rw [Nat.add_sub_cancel, Nat.mul_succ]
    have h3 : carry' * B ≤ (B - 1) * B := by omega
    have := Nat.le_of_mul_le_mul_right h3 hB
    omega
  refine ⟨hcB, Nat.mod_lt _ hB, ?_⟩
  show (y + B - sum - borrow) % B + p + carry + borrow = y + B * (carry' + if y < sum + borrow then 1 else 0)
  have key : (y + B - sum - borrow) % B + sum + borrow = y + B * (if y < sum + borrow then 1 else 0) := by
    by_cases h : y < sum + borrow
    · rw [if_pos h, Nat.mod_eq_of_lt (by omega)]; omega
    · rw [if_neg h]
      have : y + B - sum - borrow = (y - sum - borrow) + B := by omega
      rw [this, Nat.add_mod_right, Nat.mod_eq_of_lt (by omega)]; omega
  rw [Nat.mul_add, Nat.mul_comm B carry']
  omega
end Go.Proofs.YtmkfecoeghokfaaGreatDoor
namespace Go.Proofs.YtmkfecoeghokfaaGreatDoor.Ev
open Go Go.RowKit
set_option linter.unusedVariables false
set_option linter.unusedSimpArgs false
noncomputable section
set_option maxRecDepth 20000
set_option maxHeartbeats 1000000
def AH.top(H:AH):AH:= { n:=H.n,lw:=H.n,t:=H.t }
def LR(P:Program)(C:Cfg)(k:Nat):List SOp→Tr Value→AH→(Tr Value→Prop)→Prop
 |[],tm,_,K=>K tm
 |o::r,tm,H,K=>match gW tm o.grd with
  |some true=>match Yk P C (Zq P C) tm H o.op with
   |some (v,H')=>H'=H∧match o.dst with|none=>LR P C k r tm H K|some d=>d<k∧LR P C k r (tm.set d v) H K
   |none=>False
  |some false=>match o.dst with|none=>LR P C k r tm H K|some d=>d<k∧LR P C k r (tm.set d undef) H K
  |none=>False
section
variable {P : Program} {C : Cfg} {Q : Ex → St → Prop} {ops : Array Oper} {k : Nat}
theorem LR_draw: ∀(l:List Oper)(i:Nat)(tm:Tr Value)(H:AH)(K:Tr Value→Prop),LR P C k (Ye ops l) tm H.top K→ ∃tm',Jm P C (Zq P C) ops i false [] l ⟨k,tm,H⟩=some ⟨k,tm',H⟩∧K tm'
 |[],i,tm,H,K,h=>⟨tm,by simp only[Jm],h⟩
 |o::r,i,tm,H,K,h=>by
  simp only[Ye,LR]at h;simp only[Jm];rw[gW_eq];split at h
  ·rename_i hg;rw[hg];split at h
   ·rename_i v H1 hop;obtain⟨e,h⟩:=h;subst e;obtain⟨tm1,hput,hl⟩:=Ec (k:=k) (H:=H) (H1:=H) (K1:=fun tm=>LR P C k (Ye ops r) tm H.top K) h;obtain⟨tm',h1,h2⟩:=LR_draw r (i+1) tm1 H K hl;refine⟨tm',?_,h2⟩;have hd:Qx P C (Zq P C) ops i false [] ⟨k,tm,H⟩ o=some (v,H,false):=by unfold Qx;cases hh:Zy o.op with|true=>rw[cond_true];simp only[hidden,Fo];have hop':Yk P C (Zq P C) tm { n:=H.n,lw:=H.n,t:=H.t } o.op=some (v,{ n:=H.n,lw:=H.n,t:=H.t }):=hop;rw[hop'];have:Nat.ble H.n H.n=true:=Nat.ble_eq.mpr (Nat.le_refl _);simp only[this,cond_true,Bool.not_false,Bool.and_self,Nat.sub_self,addT]|false=>rw[cond_false];rw[Dt hh hop H]
    simp only[hd,hput,Qj,cond_false];exact h1
   ·exact h.elim
  ·rename_i hg;rw[hg];obtain⟨tm1,hput,hl⟩:=Ec (k:=k) (H:=H) (H1:=H) (K1:=fun tm=>LR P C k (Ye ops r) tm H.top K) h;obtain⟨tm',h1,h2⟩:=LR_draw r (i+1) tm1 H K hl;refine⟨tm',?_,h2⟩;simp only[hput];exact h1
  ·exact h.elim
theorem W_reads{id:Nat}{s:St}(hd:(!Uh ops&&Gy ops)=true)(h:LR P C s.k (strip ops) s.tm s.H.top fun tm'=>Q .norm ⟨s.k,tm',s.H⟩):W P C (.region id ops true) s Q:=by
 obtain⟨k,tm,H⟩:=s;obtain⟨tm',h1,h2⟩:=LR_draw _ 0 _ _ _ h;refine⟨.norm,⟨k,tm',H⟩,?_,h2⟩;rw[Gf];simp only[Js];rw[Vc]at h1;rw[Bool.and_eq_true]at hd;have hm:Uh ops=false:=by simpa using hd.1
 have:Qg P C (Qh P C (lvI P C)) ops true ⟨k,tm,H⟩=some ⟨k,tm',H⟩:=by unfold Qg Ul;rw[hm,hd.2];simp only[Bool.and_false,cond_false,cond_true];exact h1
 rw[this]
def low(H H2:AH):AH:= { n:=H2.n,lw:=min H.lw H2.lw,t:=H2.t }
def LX(P:Program)(C:Cfg)(k:Nat):List SOp→Tr Value→AH→(Tr Value→AH→Prop)→Prop
 |[],tm,H,K=>K tm H
 |o::r,tm,H,K=>match gW tm o.grd with
  |some true=>match Zx o.op with
   |true=>match Yk P C (Zq P C) tm H.top o.op with
    |some (v,H2)=>(H2.n=H.n∧H2.lw<H.n)∧match o.dst with|none=>LX P C k r tm (low H H2) K|some d=>d<k∧LX P C k r (tm.set d v) (low H H2) K
    |none=>False
   |false=>match Yk P C (Zq P C) tm H.top o.op with
    |some (v,H2)=>H2=H.top∧match o.dst with|none=>LX P C k r tm H K|some d=>d<k∧LX P C k r (tm.set d v) H K
    |none=>False
  |some false=>match o.dst with|none=>LX P C k r tm H K|some d=>d<k∧LX P C k r (tm.set d undef) H K
  |none=>False
def Gs:List Oper→Bool|[]=>true|o::r=>cond (Zx o.op) (r.all fun o=>Zx o.op||!Zy o.op) (Gs r)
def storesAlone(ops:Array Oper):Bool:=(List.range ops.size).all fun i=>match ops[i]? with|some o=>!Zx o.op||alone ops i|none=>true
theorem LX_draw(hst: ∀i o,ops[i]?=some o→Zx o.op=true→alone ops i=true): ∀(l:List Oper)(i:Nat)(q:Bool)(tm:Tr Value)(H:AH)(K:Tr Value→AH→Prop),(∀j,l[j]?=ops[i+j]?)→(q=true→ ∀o∈l,(Zx o.op||!Zy o.op)=true)→Gs l=true→LX P C k (Ye ops l) tm H K→ ∃tm' H',Jm P C (Zq P C) ops i q [] l ⟨k,tm,H⟩=some ⟨k,tm',H'⟩∧K tm' H'
 |[],i,q,tm,H,K,hl,hq,hs,h=>⟨tm,H,by simp only[Jm],h⟩
 |o::r,i,q,tm,H,K,hl,hq,hs,h=>by
  have h0:ops[i]?=some o:=by simpa using(hl 0).symm
  have hl': ∀j,r[j]?=ops[i+1+j]?:=fun j=>by have:=hl (j+1);simpa[Nat.add_assoc,Nat.add_comm 1 j]using this
  have hq':q=true→ ∀o∈r,(Zx o.op||!Zy o.op)=true:=fun e o' h'=>hq e o' (List.mem_cons_of_mem _ h');simp only[Ye,LX]at h;simp only[Jm];rw[gW_eq];have hs':Gs r=true:=by unfold Gs at hs;cases e:Zx o.op with
   |false=>rw[e,cond_false]at hs;exact hs
   |true=>rw[e,cond_true]at hs;clear h hl hl' hq hq' h0;induction r with
    |nil=>rfl
    |cons x r ih=>rw[List.all_cons,Bool.and_eq_true]at hs;unfold Gs;cases Zx x.op with|false=>rw[cond_false];exact ih hs.2|true=>rw[cond_true];exact hs.2
  split at h
  ·rename_i hg;rw[hg];split at h
   ·rename_i hstore;split at h
    ·rename_i v H2 hop;obtain⟨⟨e1,e2⟩,h⟩:=h;obtain⟨tm1,hput,hlx⟩:=Ec (k:=k) (H:=H) (H1:=low H H2) (K1:=fun tm=>LX P C k (Ye ops r) tm (low H H2) K) h;have hall: ∀o∈r,(Zx o.op||!Zy o.op)=true:=by unfold Gs at hs;rw[hstore,cond_true]at hs;exact List.all_eq_true.mp hs
     obtain⟨tm',H',h1,h2⟩:=LX_draw hst r (i+1) true tm1 (low H H2) K hl' (fun _=>hall) hs' hlx;refine⟨tm',H',?_,h2⟩;have hh:Zy o.op=true:=by revert hstore;cases o.op<;>simp[Zx,Zy]
     have hd:Qx P C (Zq P C) ops i q [] ⟨k,tm,H⟩ o=some (v,low H H2,true):=by
      unfold Qx;rw[hh,cond_true];simp only[hidden,Fo];have hop':Yk P C (Zq P C) tm { n:=H.n,lw:=H.n,t:=H.t } o.op=some (v,H2):=hop;rw[hop'];have a1:Nat.ble H.n H2.n=true:=Nat.ble_eq.mpr (by omega);have a2:Nat.ble H.n H2.lw=false:=by cases hb:Nat.ble H.n H2.lw with|false=>rfl|true=>have:=Nat.le_of_ble_eq_true hb;omega
      simp only[a1,a2,cond_true,Bool.and_false,cond_false,hst i o h0 hstore,List.isEmpty_nil,Bool.and_self];rfl
     have hn:Nat.blt H.n (low H H2).n=false:=by show Nat.blt H.n H2.n=false;rw[e1];exact Qj _
     simp only[hd,hput,hn,cond_false];exact h1
    ·exact h.elim
   ·rename_i hstore;split at h
    ·rename_i v H2 hop;obtain⟨e,h⟩:=h;subst e;obtain⟨tm1,hput,hlx⟩:=Ec (k:=k) (H:=H) (H1:=H) (K1:=fun tm=>LX P C k (Ye ops r) tm H K) h;obtain⟨tm',H',h1,h2⟩:=LX_draw hst r (i+1) q tm1 H K hl' hq' hs' hlx;refine⟨tm',H',?_,h2⟩;have hd:Qx P C (Zq P C) ops i q [] ⟨k,tm,H⟩ o=some (v,H,q):=by unfold Qx;cases hh:Zy o.op with
      |true=>
       have hqf:q=false:=by cases q with|false=>rfl|true=>have:=hq rfl o (List.mem_cons_self ..);rw[hstore,hh]at this;cases this
       subst hqf;rw[cond_true];simp only[hidden,Fo];have hop':Yk P C (Zq P C) tm { n:=H.n,lw:=H.n,t:=H.t } o.op=some (v,{ n:=H.n,lw:=H.n,t:=H.t }):=hop;rw[hop'];have:Nat.ble H.n H.n=true:=Nat.ble_eq.mpr (Nat.le_refl _);simp only[this,cond_true,Bool.not_false,Bool.and_self,Nat.sub_self,addT]
      |false=>rw[cond_false];rw[Dt hh hop H]
     simp only[hd,hput,Qj,cond_false];exact h1
    ·exact h.elim
  ·rename_i hg;rw[hg];obtain⟨tm1,hput,hlx⟩:=Ec (k:=k) (H:=H) (H1:=H) (K1:=fun tm=>LX P C k (Ye ops r) tm H K) h;obtain⟨tm',H',h1,h2⟩:=LX_draw hst r (i+1) q tm1 H K hl' hq' hs' hlx;refine⟨tm',H',?_,h2⟩;simp only[hput];exact h1
  ·exact h.elim
theorem W_rws{id:Nat}{s:St}(hd:(!Uh ops&&Gy ops&&storesAlone ops&&Gs ops.toList)=true)(h:LX P C s.k (strip ops) s.tm s.H fun tm' H'=>Q .norm ⟨s.k,tm',H'⟩):W P C (.region id ops true) s Q:=by
 obtain⟨k,tm,H⟩:=s;rw[Bool.and_eq_true,Bool.and_eq_true,Bool.and_eq_true]at hd;have hst: ∀i o,ops[i]?=some o→Zx o.op=true→alone ops i=true:=fun i o hi hs=>by have:=List.all_eq_true.mp hd.1.2 i (by simpa using Qf hi);rw[hi]at this;simpa[hs]using this
 obtain⟨tm',H',h1,h2⟩:=LX_draw hst _ 0 false _ _ _ (fun j=>by simp) (fun e=>by cases e) hd.2 h;refine⟨.norm,⟨k,tm',H'⟩,?_,h2⟩;rw[Gf];simp only[Js];have hm:Uh ops=false:=by simpa using hd.1.1.1
 rw[Vc]at h1;have:Qg P C (Qh P C (lvI P C)) ops true ⟨k,tm,H⟩=some ⟨k,tm',H'⟩:=by unfold Qg Ul;rw[hm,hd.1.1.2];simp only[Bool.and_false,cond_false,cond_true];exact h1
 rw[this]
theorem Qs(R:St→Prop){a b:Code}{s:St}(h1: ∀Q':Ex→St→Prop,(∀s',R s'→Q' .norm s')→W P C a s Q')(h2: ∀s',R s'→W P C b s' Q):W P C (.seq a b) s Q:=W_then R (h1 _ fun s' h=>⟨rfl,h⟩) h2
end
end
end Go.Proofs.YtmkfecoeghokfaaGreatDoor.Ev
