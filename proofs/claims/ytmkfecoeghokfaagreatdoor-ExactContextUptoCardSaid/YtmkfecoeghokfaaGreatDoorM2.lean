/-
  The engine and the walks that the claim's last text leans on, part 2 of 9: EvH, EvI, EvJ, EvK, EvL, EvN, EvRc, EvM, EvMb.
-/
import Derived.Test.YtmkfecoeghokfaaGreatDoorM1
import Derived.Eval
import Derived.Recover
import Derived.Defers
namespace Go.Proofs.YtmkfecoeghokfaaGreatDoor.Ev
open Go Go.RowKit
set_option linter.unusedVariables false
noncomputable section
set_option linter.unusedSimpArgs false
set_option maxHeartbeats 1000000
section
variable {Df : List Deferred}
variable {B : Nat} {S : Nat → Prop} {L : Nat → Loc} {H H' : AH} {w w' : World} {P : Program} {C : Cfg}
  {call : FuncId → List Value → AH → Option (Value × AH)} {ops : Array Oper} {Q : Exit → Act → World → Prop}
theorem ext_ext{m n p:Nat}(h1:m≤n)(h2:n≤p):ext (ext S m n) n p=ext S m p:=by
 funext i;apply propext;unfold ext;constructor
 ·rintro((h|h)|h);·exact .inl h
  ·exact .inr ⟨h.1,by omega⟩
  ·exact .inr ⟨by omega,h.2⟩
 ·rintro(h|h);·exact .inl (.inl h)
  ·rcases Nat.lt_or_ge i n with hlt|hge;·exact .inl (.inr ⟨h.1,hlt⟩)
   ·exact .inr ⟨hge,h.2⟩
theorem AI.mono{S':Nat→Prop}{L':Nat→Loc}{k:Nat}{tm:Tr Value}{a:Act}(h:AI Df S L k tm a)(hS: ∀i,S i→S' i)(hL: ∀i,S i→L' i=L i):AI Df S' L' k tm a:=⟨h.defers,h.size,fun t v ht=>⟨(h.tmp t v ht).1,(h.tmp t v ht).2.mono hS hL⟩⟩
theorem GO.mono{S':Nat→Prop}{L':Nat→Loc}(h:GO C S L)(hS: ∀i,S i→S' i)(hL: ∀i,S i→L' i=L i):GO C S' L':=fun g hg=>by obtain⟨h1,h2,h3⟩:=h g hg;exact⟨hS g h1,by rw[hL g h1];exact h2,by rw[hL g h1];exact h3⟩
theorem Jo{s s':St}{dst:Option Tmp}{v:Value}(h:s.put dst v H'=some s'):s'.H=H'∧s'.k=s.k∧((dst=none∧s'.tm=s.tm)∨ ∃d,dst=some d∧d<s.k∧s'.tm=s.tm.set d v):=by unfold St.put at h;obtain⟨k0,tm0,H0⟩:=s;simp only[putSt]at h;cases dst with
 |none=>obtain rfl:=Option.some.inj h;exact⟨rfl,rfl,.inl ⟨rfl,rfl⟩⟩
 |some d=>simp only at h;cases hb:Nat.blt d k0 with|false=>rw[hb]at h;cases h|true=>rw[hb,cond_true]at h;obtain rfl:=Option.some.inj h;exact⟨rfl,rfl,.inr ⟨d,rfl,by rw[Nat.blt_eq]at hb;exact hb,rfl⟩⟩
theorem Ba(a:Array Value)(d:Nat)(v x:Value)(h:d<a.size):(a.setIfInBounds d v).getD d x=v:=by simp[Array.getD,h]
theorem Af(a:Array Value)(d t:Nat)(v x:Value)(h:d≠t):(a.setIfInBounds d v).getD t x=a.getD t x:=by simp[Array.getD_eq_getD_getElem?,Array.getElem?_setIfInBounds_ne h]
theorem AI.put{S':Nat→Prop}{L':Nat→Loc}{s s':St}{a:Act}{dst:Option Tmp}{v v':Value}(hA:AI Df S L s.k s.tm a)(hS: ∀i,S i→S' i)(hL: ∀i,S i→L' i=L i)(hv:VR S' L' v v')(hp:s.put dst v H'=some s'):AI Df S' L' s'.k s'.tm (a.put dst v'):=by
 obtain⟨_,hk,h⟩:=Jo hp;rw[hk];rcases h with⟨rfl,ht⟩|⟨d,rfl,hd,ht⟩;·rw[ht];exact hA.mono hS hL
 ·rw[ht];have hsz:=hA.size;refine⟨hA.defers,by simp[Act.put,hsz],fun t u hu=>?_⟩;rw[Tr.get_set]at hu;split at hu;·rename_i e;subst e;obtain rfl:=Option.some.inj hu;exact⟨hd,by simp only[Act.put];rw[Ba _ _ _ _ (by rw[hsz];exact hd)];exact hv⟩
  ·rename_i e;obtain⟨h1,h2⟩:=hA.tmp t u hu;exact⟨h1,by simp only[Act.put];rw[Af _ _ _ _ _ (fun e'=>e e'.symm)];exact h2.mono hS hL⟩
theorem Fb{tm:Tr Value}{a:Act}{o:Oper}{b:Bool}(h:Jh ops tm o=some b)(hg: ∀j want d,o.guard=some (j,want)→(ops[j]?).bind (·.dst)=some d→ ∀v,tm.get d=some v→d<a.tmps.size∧VR S L v (a.tmps.getD d undef)):Region.wanted o (yielded ops a.tmps)=b:=by unfold Jh at h;unfold Region.wanted;cases hgd:o.guard with
 |none=>rw[hgd]at h;obtain rfl:=Option.some.inj h;rfl
 |some x=>obtain⟨j,want⟩:=x;rw[hgd]at h;simp only at h⊢;cases hd:(ops[j]?).bind (·.dst)with
  |none=>rw[hd]at h;cases h
  |some d=>rw[hd]at h;simp only at h;cases ht:tm.get d with
   |none=>rw[ht]at h;cases h
   |some v=>
    obtain⟨h1,h2⟩:=hg j want d hgd hd v ht;have he:a.tmps[d]?=some (a.tmps.getD d undef):=by simp[Array.getD,h1]
    rw[ht]at h;unfold yielded;rw[hd];simp only[Option.bind_some,he];generalize a.tmps.getD d undef=u at h2;cases h2<;>first|(obtain rfl:=Option.some.inj h;first|rfl|(simp;done))|cases h
theorem AI.guard{k:Nat}{tm:Tr Value}{a:Act}(hA:AI Df S L k tm a)(o:Oper): ∀j want d,o.guard=some (j,want)→(ops[j]?).bind (·.dst)=some d→ ∀v,tm.get d=some v→d<a.tmps.size∧VR S L v (a.tmps.getD d undef):=fun _ _ d _ _ v hv=>⟨by rw[hA.size];exact(hA.tmp d v hv).1,(hA.tmp d v hv).2⟩
def Ee(Df:List Deferred)(B:Nat)(S:Nat→Prop)(L:Nat→Loc)(H:AH)(w:World)(s':St)(a':Act)(w':World):Prop:= ∃L',AI Df (ext S H.n s'.H.n) L' s'.k s'.tm a'∧Inv B (ext S H.n s'.H.n) L' s'.H w'∧Fr S L H w L' s'.H w'
theorem Ee.refl{s:St}{a:Act}(hA:AI Df S L s.k s.tm a)(hI:Inv B S L s.H w):Ee Df B S L s.H w s a w:=⟨L,hA.mono (fun _ h=> .inl h) (fun _ _=>rfl),hI.mono (fun _ h=> .inl h) (fun i h=>hI.bd i (Vq h)),Fr.refl hI⟩
theorem Ee.trans{s1 s2:St}{L1:Nat→Loc}{a2:Act}{w1 w2:World}(hI:Inv B S L H w)(hI1:Inv B (ext S H.n s1.H.n) L1 s1.H w1)(hF:Fr S L H w L1 s1.H w1)(h:Ee Df B (ext S H.n s1.H.n) L1 s1.H w1 s2 a2 w2):Ee Df B S L H w s2 a2 w2:=by obtain⟨L2,h1,h2,h3⟩:=h;rw[ext_ext hF.n h3.n]at h1 h2;exact⟨L2,h1,h2,hF.trans hI hI1 (fun _ h=> .inl h) h3⟩
def Bf(P:Program)(ops:Array Oper)(draw:Bool)(Q:Exit→Act→World→Prop)(a:Act)(w:World):Prop:=match draw with|false=>wpOps P ops Q (List.range ops.size) a w|true=>wpAny P .any ops Q ops.size (Array.replicate ops.size false) a { w with drawn:=w.drawn+1 }
theorem Bf.wp{draw:Bool}{a:Act}(hm:P.follows .mixedOrders=true)(h:Bf P ops draw Q a w)(id:Nat):(Code.region id ops draw).wp P Q a w:=by cases draw with|false=>exact wp_region h|true=>exact wp_region_any hm h
theorem Zd4:VR S L undef undef:= .tuple _ _ rfl (fun k v v' h=>by simp at h)
theorem Zn1(hcall:Fq P C B call): ∀(l:List Oper)(k:Nat)(s s':St)(S:Nat→Prop)(L:Nat→Loc)(a:Act)(w:World),GO C S L→(∀j,l[j]?=ops[k+j]?)→Uk P C call ops l s=some s'→AI Df S L s.k s.tm a→Inv B S L s.H w→(∀a' w',Ee Df B S L s.H w s' a' w'→Q .normal a' w')→wpOps P ops Q (List.range' k l.length) a w
 |[],k,s,s',S,L,a,w,hG,hl,h,hA,hI,hQ=>by rw[Ca]at h;obtain rfl:=Option.some.inj h;simp only[List.length_nil,List.range'_zero,wpOps];exact hQ a w (Ee.refl hA hI)
 |o::rest,k,s,s',S,L,a,w,hG,hl,h,hA,hI,hQ=>by
  have h0:ops[k]?=some o:=by simpa using(hl 0).symm
  have hl': ∀j,rest[j]?=ops[k+1+j]?:=fun j=>by have:=hl (j+1);simpa[Nat.add_assoc,Nat.add_comm 1 j]using this
  rw[List.length_cons,List.range'_succ,wpOps_cons];unfold wpOp;rw[h0];dsimp only;rw[Vi]at h;split at h<;>first|(cases h;done)|skip
  ·rename_i hw;rw[Fb hw (hA.guard o),if_pos rfl];split at h<;>first|(cases h;done)|skip
   rename_i v H1 hop;split at h<;>first|(cases h;done)|skip
   rename_i s1 hput;refine .inl ((Uv hcall hG hI (fun x _ u hx=>opd_vr hG hA hx) hop).wp fun v' w1 hgood=>?_);obtain⟨L1,g1,g2,g3⟩:=hgood;obtain⟨e1,e2,_⟩:=Jo hput;subst e1;refine Zn1 hcall rest (k+1) s1 s' _ L1 _ w1 (hG.mono (fun _ h=> .inl h) g2.agree) hl' h (hA.put (fun _ h=> .inl h) g2.agree g3 hput) g1 fun a' w' hd=>hQ a' w' (hd.trans hI g1 g2)
  ·rename_i hw;rw[Fb hw (hA.guard o),if_neg (by simp)];split at h<;>first|(cases h;done)|skip
   rename_i s1 hput;obtain⟨e1,e2,_⟩:=Jo hput;refine Zn1 hcall rest (k+1) s1 s' S L _ w hG hl' h (hA.put (fun _ h=>h) (fun _ _=>rfl) Zd4 hput) (by rw[e1];exact hI) fun a' w' hd=>hQ a' w' (by rw[e1]at hd;exact hd)
end
def InS(S:Nat→Prop)(v:Value):Prop:= ∃L v',VR S L v v'
theorem VR.inS{S:Nat→Prop}{L:Nat→Loc}{v v':Value}(h:VR S L v v'):InS S v:=⟨L,v',h⟩
theorem InS.mono{S S':Nat→Prop}{v:Value}(h:InS S v)(hS: ∀i,S i→S' i):InS S' v:=by obtain⟨L,v',h⟩:=h;exact⟨L,v',h.mono hS (fun _ _=>rfl)⟩
theorem Ze3{S:Nat→Prop}{L:Nat→Loc}{cs cs':Array Value}(hs:cs.size=cs'.size)(hc: ∀(k:Nat)(v v':Value),cs[k]?=some v→cs'[k]?=some v'→VR S L v v')(k:Nat)(v:Value)(h:cs[k]?=some v):InS S v:=by
 have hlt:k<cs'.size:=by
  rw[←hs];rcases Nat.lt_or_ge k cs.size with h'|h';·exact h'
  ·rw[Array.getElem?_eq_none h']at h;cases h
 exact(hc k v cs'[k] h (Array.getElem?_eq_getElem hlt)).inS
theorem VR.narrow{S S':Nat→Prop}{L:Nat→Loc}{v v':Value}(h:VR S L v v')(hi:InS S' v):VR S' L v v':=by induction h with
 |bool b=>exact .bool b
 |int k n=>exact .int k n
 |string s=>exact .string s
 |nilFunc=>exact .nilFunc
 |nilIface=>exact .nilIface
 |nilPtr=>exact .nilPtr
 |ptr i o h=>obtain⟨L2,v2,h2⟩:=hi;cases h2 with|ptr _ _ h3=>exact .ptr i o h3
 |nilSlice=>exact .nilSlice
 |slice i o len cap cap' h h1 h2 h3=>obtain⟨L2,v2,h4⟩:=hi;cases h4 with|slice _ _ _ _ _ h5=>exact .slice i o len cap cap' h5 h1 h2 h3
 |emp i a c=>exact .emp i a c
 |agg cs cs' hs hc ih=>obtain⟨L2,v2,h2⟩:=hi;cases h2 with|agg _ cs2 hs2 hc2=>exact .agg cs cs' hs fun k v v' h1 h2=>ih k v v' h1 h2 (Ze3 hs2 hc2 k v h1)
 |tuple cs cs' hs hc ih=>obtain⟨L2,v2,h2⟩:=hi;cases h2 with|tuple _ cs2 hs2 hc2=>exact .tuple cs cs' hs fun k v v' h1 h2=>ih k v v' h1 h2 (Ze3 hs2 hc2 k v h1)
 |func f fs fs' cs cs' h1 _ h2 _ ih1 ih2=>obtain⟨L2,v2,h3⟩:=hi;cases h3 with|func _ _ fs2 _ cs2 a1 b1 a2 b2=>exact .func f fs fs' cs cs' h1 (fun k v v' q1 q2=>ih1 k v v' q1 q2 (Ze3 a1 b1 k v q1)) h2 (fun k v v' q1 q2=>ih2 k v v' q1 q2 (Ze3 a2 b2 k v q1))
 |iface t v v' _ ih=>obtain⟨L2,v2,h2⟩:=hi;cases h2 with|iface _ _ v3 h3=>exact .iface t v v' (ih h3.inS)
 |nilMap=>exact .nilMap
 |map i h=>obtain⟨L2,v2,h2⟩:=hi;cases h2 with|map _ h3=>exact .map i h3
def InSB(S:Nat→Prop):Blk→Prop| .dead=>True| .ro _ cs=> ∀(k:Nat)(v:Value),cs[k]?=some v→InS S v| .rw _ cs=> ∀(k:Nat)(v:Value),cs[k]?=some v→InS S v
theorem InSB.mono{S S':Nat→Prop}{b:Blk}(h:InSB S b)(hS: ∀i,S i→S' i):InSB S' b:=by cases b with|dead=>trivial|ro sz cs=>exact fun k v hk=>(h k v hk).mono hS|rw sz cs=>exact fun k v hk=>(h k v hk).mono hS
theorem Inv.inSB{B:Nat}{S:Nat→Prop}{L:Nat→Loc}{H:AH}{w:World}(hI:Inv B S L H w)(j:Nat):InSB S (H.blk j):=by cases hb:H.blk j with|dead=>trivial|ro sz cs=>intro k v hk;obtain⟨_,_,_,h4⟩:=hI.ro j sz cs hb;obtain⟨v',_,h6⟩:=h4 k v hk;exact h6.inS|rw sz cs=>intro k v hk;obtain⟨_,_,_,C,e,_,_,h4⟩:=hI.rw j sz cs hb;obtain⟨v',_,h6⟩:=h4 k v hk;exact h6.inS
theorem get_addT(t:Tr Blk)(H2:AH)(n:Nat): ∀(k j:Nat),(addT t H2 n k).get j=if n≤j∧j<n+k then some (H2.blk j)else t.get j
 |0,j=>by rw[if_neg (by omega)];rfl
 |k+1,j=>by
  simp only[addT];rw[Tr.get_set,get_addT t H2 n k j];by_cases e:j=n+k;·rw[if_pos e,if_pos (by omega),e]
  ·rw[if_neg e];by_cases h:n≤j∧j<n+k;·rw[if_pos h,if_pos (by omega)]
   ·rw[if_neg h,if_neg (by omega)]
theorem blk_addT(t:Tr Blk)(H2:AH)(n k n' lw:Nat)(j:Nat):({ n:=n',lw:=lw,t:=addT t H2 n k } :AH).blk j=if n≤j∧j<n+k then H2.blk j else({ n:=n',lw:=lw,t:=t } :AH).blk j:=by
 unfold AH.blk;simp only[get_addT];by_cases h:n≤j∧j<n+k;·rw[if_pos h,if_pos h];rfl
 ·rw[if_neg h,if_neg h]
theorem get_hideT(t:Tr Blk): ∀(hs:List Nat)(j:Nat),(Fo t hs).get j=if j∈hs then some .dead else t.get j
 |[],j=>by simp[Fo]
 |i::r,j=>by
  simp only[Fo];rw[Tr.get_set,get_hideT t r j];by_cases e:j=i;·simp[e]
  ·by_cases h:j∈r<;>simp[e,h]
theorem blk_hideT(t:Tr Blk)(hs:List Nat)(n lw:Nat)(j:Nat):({ n:=n,lw:=lw,t:=Fo t hs } :AH).blk j=if j∈hs then .dead else({ n:=n,lw:=lw,t:=t } :AH).blk j:=by
 unfold AH.blk;simp only[get_hideT];by_cases h:j∈hs;·rw[if_pos h,if_pos h]
 ·rw[if_neg h,if_neg h]
theorem Zh5(b:Nat): ∀(ms:List (Nat×Nat×Nat))(j:Nat),j∈hidden b ms↔ ∃k lo hi,(k,lo,hi)∈ms∧b.testBit k=false∧lo≤j∧j<hi
 |[],j=>by simp[hidden]
 |(k,lo,hi)::r,j=>by simp only[hidden];cases hb:b.testBit k with
  |true=>
   rw[cond_true,Zh5 b r j];constructor;·rintro⟨k',lo',hi',h1,h2⟩;exact⟨k',lo',hi',by simp[h1],h2⟩
   ·rintro⟨k',lo',hi',h1,h2,h3⟩;rw[List.mem_cons]at h1;rcases h1 with h1|h1;·injection h1 with e1 e2;subst e1;rw[hb]at h2;cases h2
    ·exact⟨k',lo',hi',h1,h2,h3⟩
  |false=>
   rw[cond_false,List.mem_append,Zh5 b r j];constructor
   ·rintro(h|⟨k',lo',hi',h1,h2⟩);·simp only[List.mem_map,List.mem_range]at h;obtain⟨x,h1,h2⟩:=h;exact⟨k,lo,hi,by simp,hb,by omega,by omega⟩
    ·exact⟨k',lo',hi',by simp[h1],h2⟩
   ·rintro⟨k',lo',hi',h1,h2,h3,h4⟩;rw[List.mem_cons]at h1;rcases h1 with h1|h1;·injection h1 with e1 e2;injection e2 with e2 e3;subst e1;subst e2;subst e3;left;simp only[List.mem_map,List.mem_range];exact⟨j-lo',by omega,by omega⟩
    ·exact .inr ⟨k',lo',hi',h1,h2,h3,h4⟩
theorem Ci(acc:List Nat)(m:Nat): ∀es:List Edge,(bitsOf acc es).testBit m=true↔ ∃e∈es,Region.binds .any e=true∧(e.on=m∨(acc.getD e.on 0).testBit m=true)
 |[]=>by simp[bitsOf]
 |e::r=>by simp only[bitsOf];cases hb:Region.binds .any e with
  |false=>
   rw[cond_false,Ci acc m r];constructor;·rintro⟨x,h1,h2⟩;exact⟨x,by simp[h1],h2⟩
   ·rintro⟨x,h1,h2,h3⟩;rw[List.mem_cons]at h1;rcases h1 with rfl|h1;·rw[hb]at h2;cases h2
    ·exact⟨x,h1,h2,h3⟩
  |true=>
   rw[cond_true,Nat.testBit_or,Nat.testBit_or,Bool.or_eq_true,Bool.or_eq_true,Ci acc m r,Nat.testBit_two_pow];constructor
   ·rintro(h|h|⟨x,h1,h2⟩);·exact⟨e,by simp,hb,.inl (by simpa using h)⟩
    ·exact⟨e,by simp,hb,.inr h⟩
    ·exact⟨x,by simp[h1],h2⟩
   ·rintro⟨x,h1,h2,h3⟩;rw[List.mem_cons]at h1;rcases h1 with rfl|h1
    ·rcases h3 with h3|h3;·exact .inl (by simpa using h3)
     ·exact .inr (.inl h3)
    ·exact .inr (.inr ⟨x,h1,h2,h3⟩)
theorem befs_old: ∀(l:List Oper)(acc:List Nat)(j:Nat),j<acc.length→(befs l acc)[j]?=acc[j]?|[],acc,j,h=>rfl|o::r,acc,j,h=>by simp only[befs];rw[befs_old r _ j (by simp;omega),List.getElem?_append,if_pos h]
theorem Zj2{acc acc':List Nat} : ∀es:List Edge,(∀e∈es,Region.binds .any e=true→acc.getD e.on 0=acc'.getD e.on 0)→bitsOf acc es=bitsOf acc' es
 |[],_=>rfl
 |e::r,h=>by simp only[bitsOf];rw[Zj2 r (fun x hx=>h x (by simp[hx]))];cases hb:Region.binds .any e with|false=>rfl|true=>rw[h e (by simp) hb]
theorem befs_at: ∀(l:List Oper)(acc:List Nat)(j:Nat)(o:Oper),l[j]?=some o→(∀e∈o.after.toList,Region.binds .any e=true→e.on<acc.length+j)→(befs l acc)[acc.length+j]?=some (bitsOf (befs l acc) o.after.toList)
 |[],acc,j,o,h,_=>by simp at h
 |x::r,acc,0,o,h,hb=>by
  simp at h;subst h;simp only[befs,Nat.add_zero];rw[befs_old r _ acc.length (by simp)];simp only[List.getElem?_append,Nat.lt_irrefl,if_false,Nat.sub_self,List.getElem?_cons_zero];congr 1;refine Zj2 _ fun e he hbe=>?_;have hlt:e.on<acc.length:=by simpa using hb e he hbe
  simp only[List.getD_eq_getElem?_getD];rw[befs_old r _ e.on (by simp;omega),List.getElem?_append,if_pos hlt]
 |x::r,acc,j+1,o,h,hb=>by simp only[befs];have:=befs_at r (acc++[bitsOf acc x.after.toList]) j o (by simpa using h) (fun e he hbe=>by have:=hb e he hbe;simp;omega);rw[←this];congr 1;simp;omega
def bef(ops:Array Oper)(i m:Nat):Prop:=((before ops).getD i 0).testBit m=true
structure RegOk (ops : Array Oper) : Prop where
  lead : ∀ i o, ops[i]? = some o → ∀ e ∈ o.after.toList, Region.binds .any e = true → e.on < i
  apart : ∀ i j x o, ops[i]? = some x → ops[j]? = some o → i < j → bef ops j i ∨ x.apart ops o = true
theorem Zi0{ops:Array Oper}(h:Gy ops=true):RegOk ops:=by
 unfold Gy at h;rw[List.all_eq_true]at h;have hlt: ∀{i:Nat}{o:Oper},ops[i]?=some o→i<ops.size:=fun{i o} hi=>by
  rcases Nat.lt_or_ge i ops.size with h'|h';·exact h'
  ·rw[Array.getElem?_eq_none h']at hi;cases hi
 refine⟨fun i o hi e he hb=>?_,fun i j x o hi hj hij=>?_⟩;·have:=h i (by simpa using hlt hi);rw[hi]at this;simp only[Bool.and_eq_true]at this;have:=List.all_eq_true.mp this.1 e he;rw[hb]at this;simpa[Nat.blt_eq]using this
 ·have:=h j (by simpa using hlt hj);rw[hj]at this;simp only[Bool.and_eq_true]at this;have:=List.all_eq_true.mp this.2 i (by simpa using hij);rw[hi]at this;simpa[bef]using this
section
variable {ops : Array Oper} (hR : RegOk ops)
include hR
theorem RegOk.bef_iff{i m:Nat}{o:Oper}(hi:ops[i]?=some o):bef ops i m↔ ∃e∈o.after.toList,Region.binds .any e=true∧(e.on=m∨bef ops e.on m):=by unfold bef before;have:=befs_at ops.toList [] i o (by simpa using hi) (fun e he hb=>by simpa using hR.lead i o hi e he hb);simp only[List.length_nil,Nat.zero_add]at this;rw[List.getD_eq_getElem?_getD (i:=i),this,Option.getD_some,Ci]
theorem RegOk.bef_lt{i:Nat} : ∀m,(∃o,ops[i]?=some o)→bef ops i m→m<i:=by induction i using Nat.strongRecOn with
 |_ i ih=>
  rintro m ⟨o,hi⟩ h;obtain⟨e,he,hb,h⟩:=(hR.bef_iff hi).mp h;have hlt:=hR.lead i o hi e he hb;rcases h with h|h;·omega
  ·have hlt2:e.on<ops.size:=by
    have:i<ops.size:=by
     rcases Nat.lt_or_ge i ops.size with h'|h';·exact h'
     ·rw[Array.getElem?_eq_none h']at hi;cases hi
    omega
   have:=ih e.on hlt m ⟨_,Array.getElem?_eq_getElem hlt2⟩ h;omega
theorem RegOk.bef_trans{i:Nat} : ∀m l,(∃o,ops[i]?=some o)→bef ops i m→bef ops m l→bef ops i l:=by induction i using Nat.strongRecOn with
 |_ i ih=>
  rintro m l ⟨o,hi⟩ h h';obtain⟨e,he,hb,h⟩:=(hR.bef_iff hi).mp h;have hlt:=hR.lead i o hi e he hb;have hlt2:e.on<ops.size:=by
   have:i<ops.size:=by
    rcases Nat.lt_or_ge i ops.size with h'|h';·exact h'
    ·rw[Array.getElem?_eq_none h']at hi;cases hi
   omega
  refine(hR.bef_iff hi).mpr ⟨e,he,hb,.inr ?_⟩;rcases h with h|h;·rw[h];exact h'
  ·exact ih e.on hlt m l ⟨_,Array.getElem?_eq_getElem hlt2⟩ h h'
theorem RegOk.closed{D:Nat→Prop}(hD: ∀i o,ops[i]?=some o→D i→ ∀e∈o.after.toList,Region.binds .any e=true→D e.on){i:Nat} : ∀m,(∃o,ops[i]?=some o)→D i→bef ops i m→D m:=by induction i using Nat.strongRecOn with
 |_ i ih=>
  rintro m ⟨o,hi⟩ hDi h;obtain⟨e,he,hb,h⟩:=(hR.bef_iff hi).mp h;have hlt:=hR.lead i o hi e he hb;have hlt2:e.on<ops.size:=by
   have:i<ops.size:=by
    rcases Nat.lt_or_ge i ops.size with h'|h';·exact h'
    ·rw[Array.getElem?_eq_none h']at hi;cases hi
   omega
  have:=hD i o hi hDi e he hb;rcases h with h|h;·rw[←h];exact this
  ·exact ih e.on hlt m ⟨_,Array.getElem?_eq_getElem hlt2⟩ this h
end
theorem builtinV_pure{P:Program}{H H0 H2:AH}{b:Builtin}{ts:List TypeId}{xs:List Value}{v:Value}(hb:b= .len∨b= .max∨b= .min)(h:Zp P H b ts xs=some (v,H2)):Zp P H0 b ts xs=some (v,H0):=by
 rcases hb with rfl|rfl|rfl;·match ts,xs with
  |[t],[x]=>
   simp only[Zp]at h⊢;split at h<;>first|(cases h;done)|skip
   injection h with h;injection h with h1 h2;subst h1;rfl
  |[],_=>simp[Zp]at h
  |_::_::_,_=>simp[Zp]at h
  |[_],[]=>simp[Zp]at h
  |[_],_::_::_=>simp[Zp]at h
 ·simp only[Zp]at h⊢;split at h<;>first|(cases h;done)|skip
  injection h with h;injection h with h1 h2;subst h1;rfl
 ·simp only[Zp]at h⊢;split at h<;>first|(cases h;done)|skip
  injection h with h;injection h with h1 h2;subst h1;rfl
theorem Dt{P:Program}{C:Cfg}{call:FuncId→List Value→AH→Option (Value×AH)}{tm:Tr Value}{H H2:AH}{op:Op}{v:Value}(hp:Zy op=false)(h:Yk P C call tm H op=some (v,H2))(H0:AH):Yk P C call tm H0 op=some (v,H0):=by
 cases op;case call c=>obtain⟨callee,cargs,cts⟩:=c;cases callee with
  |value f=>simp[Zy]at hp
  |invoke r m=>simp[Zy]at hp
  |builtin b=>
   simp only[Yk,Xc,Zz,Xd,Yn,Xe,Zr,Zs,Zg,Yo,Yz,Yj,Xi,Zv,Yp,Zh,Ze,Xh,Xg,Qu,Ya,Qc,Xa,Bo,An,Gb,Kr,Am]at h⊢;split at h<;>first|(cases h;done)|skip
   rename_i xs hx;exact builtinV_pure (by cases b<;>first|(simp;done)|(simp[Zy]at hp;done)) h
 all_goals first|(simp[Zy]at hp;done)|skip
 all_goals
  simp only[Yk,Xc,Zz,Xd,Yn,Xe,Zr,Zs,Zg,Yo,Yz,Yj,Xi,Zv,Yp,Zh,Ze,Xh,Xg,Qu,Ya,Qc,Xa,Bo,An,Gb,Kr,Am]at h⊢;repeat' split at h
  all_goals first|(cases h;done)|skip
  all_goals(injection h with h;injection h with h1 h2;subst h1;simp_all)
section
variable (P : Program) (C : Cfg) (call : FuncId → List Value → AH → Option (Value × AH)) (ops : Array Oper) (st : Nat → St) (val : Nat → Value) (q : Nat → Bool) (ms : Nat → List (Nat × Nat × Nat))
def Quiet(i:Nat)(o:Oper):Prop:=(st (i+1)).H=(st i).H∧q (i+1)=q i∧((Jh ops (st i).tm o=some false∧val i=undef)∨(Jh ops (st i).tm o=some true∧Zy o.op=false∧ ∀H0,Yk P C call (st i).tm H0 o.op=some (val i,H0)))
def Grow(i:Nat)(o:Oper):Prop:=Jh ops (st i).tm o=some true∧Zy o.op=true∧q i=false∧q (i+1)=false∧ ∃H2:AH,Yk P C call (st i).tm { n:=(st i).H.n,lw:=(st i).H.n,t:=Fo (st i).H.t (hidden ((before ops).getD i 0) (ms i)) } o.op=some (val i,H2)∧(st i).H.n≤H2.n∧(st i).H.n≤H2.lw∧(st (i+1)).H.n=H2.n∧(st (i+1)).H.lw=(st i).H.lw∧ ∀j,(st (i+1)).H.blk j=if(st i).H.n≤j∧j<H2.n then H2.blk j else(st i).H.blk j
def Wri(i:Nat)(o:Oper):Prop:=Jh ops (st i).tm o=some true∧Zy o.op=true∧q (i+1)=true∧alone ops i=true∧ ∃H2:AH,Yk P C call (st i).tm { n:=(st i).H.n,lw:=(st i).H.n,t:=(st i).H.t } o.op=some (val i,H2)∧(st i).H.n≤H2.n∧(st (i+1)).H.n=H2.n∧(st (i+1)).H.lw=min (st i).H.lw H2.lw∧ ∀j,(st (i+1)).H.blk j=H2.blk j
def Full(i:Nat)(o:Oper):Prop:=(Quiet P C call ops st val q i o∨Grow P C call ops st val q ms i o∨Wri P C call ops st val q i o)∧(st i).put o.dst (val i) (st (i+1)).H=some (st (i+1))∧ms (i+1)=cond (Nat.blt (st i).H.n (st (i+1)).H.n) ((i,(st i).H.n,(st (i+1)).H.n)::ms i) (ms i)
structure Trace (s s' : St) : Prop where
  start : st 0 = s
  stop : st ops.size = s'
  q0 : q 0 = false
  m0 : ms 0 = []
  step : ∀ i o, ops[i]? = some o → Full P C call ops st val q ms i o
end
theorem Zj8{P:Program}{C:Cfg}{call:FuncId→List Value→AH→Option (Value×AH)}{ops:Array Oper} : ∀(l:List Oper)(i:Nat)(q0:Bool)(m0:List (Nat×Nat×Nat))(s s':St),Jm P C call ops i q0 m0 l s=some s'→(∀j,l[j]?=ops[i+j]?)→ ∃(st:Nat→St) (val:Nat→Value) (q:Nat→Bool) (ms:Nat→List (Nat×Nat×Nat)),st i=s∧q i=q0∧ms i=m0∧st (i+l.length)=s'∧ ∀k o,i≤k→ops[k]?=some o→Full P C call ops st val q ms k o
 |[],i,q0,m0,s,s',h,hl=>by simp only[Jm]at h;obtain rfl:=Option.some.inj h;refine⟨fun _=>s,fun _=>undef,fun _=>q0,fun _=>m0,rfl,rfl,rfl,rfl,fun k o hk ho=>?_⟩;have:=hl (k-i);rw[show i+(k-i)=k by omega,ho]at this;simp at this
 |o::rest,i,q0,m0,s,s',h,hl=>by
  have h0:ops[i]?=some o:=by simpa using(hl 0).symm
  have hl': ∀j,rest[j]?=ops[i+1+j]?:=fun j=>by have:=hl (j+1);simpa[Nat.add_assoc,Nat.add_comm 1 j]using this
  have glue: ∀(v:Value)(q1:Bool)(m1:List (Nat×Nat×Nat))(s1:St),Jm P C call ops (i+1) q1 m1 rest s1=some s'→(∀(st:Nat→St)(val:Nat→Value)(q:Nat→Bool)(ms:Nat→List (Nat×Nat×Nat)),st i=s→st (i+1)=s1→val i=v→q i=q0→q (i+1)=q1→ms i=m0→ms (i+1)=m1→Full P C call ops st val q ms i o)→ ∃(st:Nat→St) (val:Nat→Value) (q:Nat→Bool) (ms:Nat→List (Nat×Nat×Nat)),st i=s∧q i=q0∧ms i=m0∧st (i+(o::rest).length)=s'∧ ∀k o,i≤k→ops[k]?=some o→Full P C call ops st val q ms k o:=by
   intro v q1 m1 s1 hr hf;obtain⟨st,val,q,ms,e1,e2,e3,e4,e5⟩:=Zj8 rest (i+1) q1 m1 s1 s' hr hl';refine⟨fun k=>if k=i then s else st k,fun k=>if k=i then v else val k,fun k=>if k=i then q0 else q k,fun k=>if k=i then m0 else ms k,by simp,by simp,by simp,?_,fun k o' hk ho=>?_⟩
   ·have e6:i+(o::rest).length=i+1+rest.length:=by simp;omega
    have e7:i+1+rest.length≠i:=by omega
    show(if i+(o::rest).length=i then s else st (i+(o::rest).length))=s';rw[e6,if_neg e7];exact e4
   ·by_cases hki:k=i;·subst hki;rw[h0]at ho;obtain rfl:=Option.some.inj ho;exact hf _ _ _ _ (by simp) (by simp[e1]) (by simp) (by simp) (by simp[e2]) (by simp) (by simp[e3])
    ·have:=e5 k o' (by omega) ho;have hk1:k+1≠i:=by omega
     unfold Full Quiet Grow Wri at this⊢;simp only[if_neg hki,if_neg hk1];exact this
  simp only[Jm]at h;split at h<;>first|(cases h;done)|skip
  ·rename_i hw;split at h<;>first|(cases h;done)|skip
   rename_i v H1 q1 hop;split at h<;>first|(cases h;done)|skip
   rename_i s1 hput;obtain⟨eH,ek,_⟩:=Jo hput;refine glue v q1 _ s1 h fun st val q ms a1 a2 a3 a4 a5 a6 a7=>⟨?_,by rw[a1,a2,a3,eH];exact hput,by rw[a1,a2,a6,a7,eH]⟩;unfold Qx at hop;cases hh:Zy o.op with
    |false=>
     rw[hh,cond_false]at hop;split at hop<;>first|(cases hop;done)|skip
     rename_i v2 H2 he;injection hop with hop;injection hop with b1 b2;injection b2 with b2 b3;subst b1;subst b2;subst b3;exact .inl ⟨by rw[a1,a2,eH],by rw[a4,a5],.inr ⟨by rw[a1];exact hw,hh,fun H0=>by rw[a1,a3];exact Dt hh he H0⟩⟩
    |true=>
     rw[hh,cond_true]at hop;simp only at hop;split at hop<;>first|(cases hop;done)|skip
     rename_i v2 H2 he;cases hn:Nat.ble s.H.n H2.n with
      |false=>rw[hn]at hop;cases hop
      |true=>rw[hn,cond_true]at hop;have hn':s.H.n≤H2.n:=Nat.le_of_ble_eq_true hn;cases hb:(!q0&&Nat.ble s.H.n H2.lw)with
       |true=>
        rw[hb,cond_true]at hop;injection hop with hop;injection hop with b1 b2;injection b2 with b2 b3;subst b1;subst b2;subst b3;rw[Bool.and_eq_true]at hb;have hq:q0=false:=by simpa using hb.1
        refine .inr (.inl ⟨by rw[a1];exact hw,hh,by rw[a4,hq],by rw[a5],H2,by rw[a1,a3,a6];exact he,by rw[a1];exact hn',by rw[a1];exact Nat.le_of_ble_eq_true hb.2,by rw[a2,eH],by rw[a1,a2,eH],fun j=>?_⟩);rw[a1,a2,eH,blk_addT,show s.H.n+(H2.n-s.H.n)=H2.n by omega];rfl
       |false=>rw[hb,cond_false]at hop;cases hc:(alone ops i&&(hidden ((before ops).getD i 0) m0).isEmpty)with
        |false=>rw[hc]at hop;cases hop
        |true=>
         rw[hc,cond_true]at hop;injection hop with hop;injection hop with b1 b2;injection b2 with b2 b3;subst b1;subst b2;subst b3;rw[Bool.and_eq_true]at hc;have hnil:hidden ((before ops).getD i 0) m0=[]:=by simpa using hc.2
         rw[hnil]at he;exact .inr (.inr ⟨by rw[a1];exact hw,hh,by rw[a5],hc.1,H2,by rw[a1,a3];exact he,by rw[a1];exact hn',by rw[a2,eH],by rw[a1,a2,eH],fun j=>by rw[a2,eH];rfl⟩)
  ·rename_i hw;split at h<;>first|(cases h;done)|skip
   rename_i s1 hput;obtain⟨eH,ek,_⟩:=Jo hput;refine glue undef q0 m0 s1 h fun st val q ms a1 a2 a3 a4 a5 a6 a7=>⟨.inl ⟨by rw[a1,a2,eH],by rw[a4,a5],.inl ⟨by rw[a1];exact hw,a3⟩⟩,by rw[a1,a2,a3,eH];exact hput,?_⟩;rw[a1,a2,a6,a7,eH];have:Nat.blt s.H.n s.H.n=false:=by cases hb:Nat.blt s.H.n s.H.n with|false=>rfl|true=>rw[Nat.blt_eq]at hb;omega
   rw[this];rfl
section
variable {P : Program} {C : Cfg} {call : FuncId → List Value → AH → Option (Value × AH)} {ops : Array Oper} {st : Nat → St} {val : Nat → Value} {q : Nat → Bool} {ms : Nat → List (Nat × Nat × Nat)} {s s' : St}
theorem Xr{i:Nat}(h:i<ops.size): ∃o,ops[i]?=some o:=⟨_,Array.getElem?_eq_getElem h⟩
theorem Qf{i:Nat}{o:Oper}(h:ops[i]?=some o):i<ops.size:=by
 rcases Nat.lt_or_ge i ops.size with h'|h';·exact h'
 ·rw[Array.getElem?_eq_none h']at h;cases h
theorem Trace.n_le(T:Trace P C call ops st val q ms s s'){i:Nat}(hi:i<ops.size):(st i).H.n≤(st (i+1)).H.n:=by
 obtain⟨o,ho⟩:=Xr hi;rcases(T.step i o ho).1 with h|h|h;·rw[h.1];exact Nat.le_refl _
 ·obtain⟨_,_,_,_,H2,_,h1,_,h2,_⟩:=h;rw[h2];exact h1
 ·obtain⟨_,_,_,_,H2,_,h1,h2,_⟩:=h;rw[h2];exact h1
theorem Trace.n_mono(T:Trace P C call ops st val q ms s s'){i:Nat} : ∀{j:Nat},i≤j→j≤ops.size→(st i).H.n≤(st j).H.n
 |0,h,_=>by
  obtain rfl:i=0:=by omega
  exact Nat.le_refl _
 |j+1,h,hj=>by
  rcases Nat.lt_or_ge i (j+1)with h'|h';·exact Nat.le_trans (T.n_mono (by omega) (by omega)) (T.n_le (by omega))
  ·obtain rfl:i=j+1:=by omega
   exact Nat.le_refl _
theorem Trace.ms_iff(T:Trace P C call ops st val q ms s s'): ∀(i:Nat),i≤ops.size→ ∀k lo hi,(k,lo,hi)∈ms i↔k<i∧lo=(st k).H.n∧hi=(st (k+1)).H.n∧(st k).H.n<(st (k+1)).H.n
 |0,_,k,lo,hi=>by rw[T.m0];simp
 |i+1,hi',k,lo,hi=>by obtain⟨o,ho⟩:=Xr (ops:=ops) (i:=i) (by omega);rw[(T.step i o ho).2.2];have ih:=T.ms_iff i (by omega) k lo hi;cases hb:Nat.blt (st i).H.n (st (i+1)).H.n with
  |false=>
   rw[cond_false,ih];constructor;·rintro⟨h1,h2⟩;exact⟨by omega,h2⟩
   ·rintro⟨h1,h2,h3,h4⟩;have:k≠i:=by
     rintro rfl;have:Nat.blt (st k).H.n (st (k+1)).H.n=true:=by rw[Nat.blt_eq];exact h4
     rw[this]at hb;cases hb
    exact⟨by omega,h2,h3,h4⟩
  |true=>
   rw[cond_true,List.mem_cons,ih];rw[Nat.blt_eq]at hb;constructor
   ·rintro(h|⟨h1,h2⟩);·injection h with h1 h2;injection h2 with h2 h3;subst h1;exact⟨by omega,h2,h3,hb⟩
    ·exact⟨by omega,h2⟩
   ·rintro⟨h1,h2,h3,h4⟩;by_cases hk:k=i;·subst hk;exact .inl (by rw[h2,h3])
    ·exact .inr ⟨by omega,h2,h3,h4⟩
theorem Trace.range(T:Trace P C call ops st val q ms s s'){j:Nat}(h0:(st 0).H.n≤j): ∀{i:Nat},i≤ops.size→j<(st i).H.n→ ∃m,m<i∧(st m).H.n≤j∧j<(st (m+1)).H.n
 |0,_,h=>by omega
 |i+1,hi,h=>by
  rcases Nat.lt_or_ge j (st i).H.n with h'|h';·obtain⟨m,h1,h2⟩:=T.range h0 (by omega) h';exact⟨m,by omega,h2⟩
  ·exact⟨i,by omega,h',h⟩
theorem Trace.q_mono(T:Trace P C call ops st val q ms s s'){i:Nat}(h:q i=true): ∀{k:Nat},i≤k→k≤ops.size→q k=true
 |0,hk,_=>by
  obtain rfl:i=0:=by omega
  exact h
 |k+1,hk,hn=>by
  rcases Nat.lt_or_ge i (k+1)with h'|h'
  ·have ih:=T.q_mono h (k:=k) (by omega) (by omega);obtain⟨o,ho⟩:=Xr (ops:=ops) (i:=k) (by omega);rcases(T.step k o ho).1 with h1|h1|h1;·rw[h1.2.1];exact ih
   ·rw[h1.2.2.1]at ih;cases ih
   ·exact h1.2.2.1
  ·obtain rfl:i=k+1:=by omega
   exact h
theorem Trace.grown(T:Trace P C call ops st val q ms s s')(hdead: ∀j,(st 0).H.n≤j→(st 0).H.blk j= .dead): ∀(i:Nat),i≤ops.size→q i=false→(st i).H.lw=(st 0).H.lw∧(∀j,(st i).H.n≤j→(st i).H.blk j= .dead)∧ ∀m,m≤i→ ∀j,j<(st m).H.n→(st i).H.blk j=(st m).H.blk j
 |0,_,_=>⟨rfl,hdead,fun m hm j _=>by
  obtain rfl:m=0:=by omega
  rfl⟩
 |i+1,hi,hq=>by
  obtain⟨o,ho⟩:=Xr (ops:=ops) (i:=i) (by omega);rcases(T.step i o ho).1 with h|h|h
  ·obtain⟨h1,h2,_⟩:=h;rw[h2]at hq;obtain⟨g1,g2,g3⟩:=T.grown hdead i (by omega) hq;rw[h1];refine⟨g1,g2,fun m hm j hj=>?_⟩;rcases Nat.lt_or_ge m (i+1)with h'|h';·exact g3 m (by omega) j hj
   ·obtain rfl:m=i+1:=by omega
    rw[h1]
  ·obtain⟨_,_,h1,_,H2,_,h3,_,h5,h6,h7⟩:=h;obtain⟨g1,g2,g3⟩:=T.grown hdead i (by omega) h1;refine⟨h6.trans g1,fun j hj=>?_,fun m hm j hj=>?_⟩;·rw[h7,if_neg (by omega)];exact g2 j (by omega)
   ·rcases Nat.lt_or_ge m (i+1)with h'|h';·have:(st m).H.n≤(st i).H.n:=T.n_mono (by omega) (by omega);rw[h7,if_neg (by omega)];exact g3 m (by omega) j hj
    ·obtain rfl:m=i+1:=by omega
     rfl
  ·rw[h.2.2.1]at hq;cases hq
def Ql(ops:Array Oper)(m:Nat):Option Tmp:=(ops[m]?).bind (·.dst)
theorem Trace.k_eq(T:Trace P C call ops st val q ms s s'): ∀(i:Nat),i≤ops.size→(st i).k=(st 0).k|0,_=>rfl|i+1,hi=>by obtain⟨o,ho⟩:=Xr (ops:=ops) (i:=i) (by omega);obtain⟨_,h,_⟩:=Jo (T.step i o ho).2.1;exact h.trans (T.k_eq i (by omega))
theorem Trace.dst_lt(T:Trace P C call ops st val q ms s s'){m:Nat}{t:Nat}(h:Ql ops m=some t):t<(st 0).k:=by unfold Ql at h;cases ho:ops[m]? with
 |none=>rw[ho]at h;cases h
 |some o=>
  rw[ho]at h;obtain⟨_,_,h1⟩:=Jo (T.step m o ho).2.1;have hd:o.dst=some t:=h;rcases h1 with⟨h1,_⟩|⟨d,h1,h2,_⟩;·rw[h1]at hd;cases hd
  ·rw[h1]at hd;obtain rfl:=Option.some.inj hd;rw[T.k_eq m (Nat.le_of_lt (Qf ho))]at h2;exact h2
theorem Trace.tm(T:Trace P C call ops st val q ms s s'): ∀(i:Nat),i≤ops.size→ ∀t v,(st i).tm.get t=some v→(∃m,m<i∧Ql ops m=some t∧val m=v∧ ∀m',m<m'→m'<i→Ql ops m'≠some t)∨((∀m,m<i→Ql ops m≠some t)∧(st 0).tm.get t=some v)
 |0,_,t,v,h=> .inr ⟨fun m hm=>by omega,h⟩
 |i+1,hi,t,v,h=>by
  obtain⟨o,ho⟩:=Xr (ops:=ops) (i:=i) (by omega);have hd:Ql ops i=o.dst:=by simp[Ql,ho]
  obtain⟨_,_,h1⟩:=Jo (T.step i o ho).2.1;have old:Ql ops i≠some t→(st i).tm.get t=some v→(∃m,m<i+1∧Ql ops m=some t∧val m=v∧ ∀m',m<m'→m'<i+1→Ql ops m'≠some t)∨((∀m,m<i+1→Ql ops m≠some t)∧(st 0).tm.get t=some v):=fun hne hold=>by
   rcases T.tm i (by omega) t v hold with⟨m,a1,a2,a3,a4⟩|⟨a1,a2⟩
   ·refine .inl ⟨m,by omega,a2,a3,fun m' h1 h2=>?_⟩;by_cases e:m'=i;·subst e;exact hne
    ·exact a4 m' h1 (by omega)
   ·refine .inr ⟨fun m hm=>?_,a2⟩;by_cases e:m=i;·subst e;exact hne
    ·exact a1 m (by omega)
  rcases h1 with⟨h1,h2⟩|⟨d,h1,h2,h3⟩;·rw[h2]at h;exact old (by rw[hd,h1];simp) h
  ·rw[h3,Tr.get_set]at h;split at h;·rename_i e;subst e;obtain rfl:=Option.some.inj h;exact .inl ⟨i,by omega,by rw[hd,h1],rfl,fun m' _ _=>by omega⟩
   ·rename_i e;exact old (by rw[hd,h1];intro h';injection h' with h';exact e h'.symm) h
end
section
variable (Df : List Deferred) (ops : Array Oper) (st : Nat → St) (S0 : Nat → Prop)
def Sk(m:Nat):Nat→Prop:=fun j=>S0 j∨ ∃l,(l=m∨bef ops m l)∧(st l).H.n≤j∧j<(st (l+1)).H.n
def Spre(i:Nat):Nat→Prop:=fun j=>S0 j∨ ∃l,bef ops i l∧(st l).H.n≤j∧j<(st (l+1)).H.n
def SDs(D:Nat→Prop):Nat→Prop:=fun j=>S0 j∨ ∃l,l<ops.size∧D l∧(st l).H.n≤j∧j<(st (l+1)).H.n
def live(D:Nat→Prop)(j:Nat):Prop:=j<(st 0).H.n∨ ∃l,l<ops.size∧D l∧(st l).H.n≤j∧j<(st (l+1)).H.n
def isW(m:Nat):Prop:= ∃o,ops[m]?=some o∧Jh ops (st m).tm o=some true∧Zy o.op=true
variable (q : Nat → Bool)
def R1(D:Nat→Prop)(HD:AH):Prop:=(∀m,isW ops st m→D m→q (m+1)=false)∧HD.lw=(st 0).H.lw∧(∀j,¬live ops st D j→HD.blk j= .dead)∧(∀i,i≤ops.size→q i=false→ ∀j,j<(st i).H.n→live ops st D j→HD.blk j=(st i).H.blk j)∧(∀m,m<ops.size→D m→ ∀j,(st m).H.n≤j→j<(st (m+1)).H.n→InSB (Sk ops st S0 m) (HD.blk j))
def R2(D:Nat→Prop)(HD:AH):Prop:= ∃h,h≤ops.size∧q h=true∧(∀m,isW ops st m→(D m↔m<h))∧HD.lw=(st h).H.lw∧ ∀j,HD.blk j=(st h).H.blk j
variable (val : Nat → Value) (B : Nat) (L0 : Nat → Loc) (w0 : World)
structure ID (D : Nat → Prop) (L : Nat → Loc) (HD : AH) (a : Act) (w : World) : Prop where
  agree : ∀ j, S0 j → L j = L0 j
  inv : Inv B (SDs ops st S0 D) L HD w
  hn : HD.n = (st ops.size).H.n
  keep : ∀ j, j < (st 0).H.n → j < HD.lw → HD.blk j = (st 0).H.blk j
  back : ∀ j, j < (st 0).H.n → ∀ sz cs, HD.blk j = .rw sz cs → ∃ cs0, (st 0).H.blk j = .rw sz cs0
  newg : ∀ j, (st 0).H.n ≤ j → ∀ sz cs, HD.blk j = .rw sz cs → w0.heap.size ≤ (L j).g ∨ ∃ i0 sz0 cs0, (st 0).H.blk i0 = .rw sz0 cs0 ∧ (L0 i0).g = (L j).g ∧ HD.lw ≤ i0
  os : w.os = w0.os
  tape : w.tape = w0.tape
  output : w.output = w0.output
  wsize : w0.heap.size ≤ w.heap.size
  frame : ∀ g, g < w0.heap.size → w.heap[g]? = w0.heap[g]? ∨ ∃ i sz cs, (st 0).H.blk i = .rw sz cs ∧ (L0 i).g = g ∧ HD.lw ≤ i
  lwle : HD.lw ≤ (st 0).H.lw
  defers : a.defers = Df
  size : a.tmps.size = (st 0).k
  v0 : ∀ t v, (∀ m, m < ops.size → D m → Ql ops m ≠ some t) → (st 0).tm.get t = some v → t < (st 0).k ∧ VR S0 L v (a.tmps.getD t undef)
  v1 : ∀ m t, m < ops.size → D m → Ql ops m = some t → (∀ m', m' < ops.size → D m' → m < m' → Ql ops m' ≠ some t) → VR (Sk ops st S0 m) L (val m) (a.tmps.getD t undef)
  regime : R1 ops st S0 q D HD ∨ R2 ops st q D HD
end
theorem Inv.congr{B:Nat}{S:Nat→Prop}{L:Nat→Loc}{H H':AH}{w:World}(hI:Inv B S L H w)(hb: ∀j,H'.blk j=H.blk j)(hn:H'.n=H.n):Inv B S L H' w:=⟨fun i sz cs h=>hI.ro i sz cs (by rw[←hb];exact h),fun i sz cs h=>hI.rw i sz cs (by rw[←hb];exact h),fun i j a b c d h h' e=>hI.dj i j a b c d (by rw[←hb];exact h) (by rw[←hb];exact h') e,fun i h=>by rw[hn];exact hI.bd i h,hI.base⟩
theorem Inv.world{B:Nat}{S:Nat→Prop}{L:Nat→Loc}{H:AH}{w w':World}(hI:Inv B S L H w)(hs:w.heap.size≤w'.heap.size)(hb: ∀g,g<w.heap.size→w'.heap[g]?=w.heap[g]?):Inv B S L H w':=by
 refine⟨fun i sz cs h=>?_,fun i sz cs h=>?_,hI.dj,hI.bd,Nat.le_trans hI.base hs⟩;·obtain⟨h1,h2,h3,h4⟩:=hI.ro i sz cs h;refine⟨h1,h2,h3,fun k v hk=>?_⟩;obtain⟨v',h5,h6⟩:=h4 k v hk;exact⟨v',by rw[←h5];exact World.cell?_of_block (w:=w) (hb _ (Nat.lt_of_lt_of_le h2 hI.base)),h6⟩
 ·obtain⟨h1,h2,h3,C,e,h4,h5,h6⟩:=hI.rw i sz cs h;exact⟨h1,h2,h3,C,e,by rw[hb _ (Vw h4)];exact h4,h5,h6⟩
section
variable {Df : List Deferred} {P : Program} {C : Cfg} {call : FuncId → List Value → AH → Option (Value × AH)} {ops : Array Oper} {st : Nat → St} {val : Nat → Value} {q : Nat → Bool} {ms : Nat → List (Nat × Nat × Nat)} {s s' : St}
variable {B : Nat} {S0 : Nat → Prop} {L0 : Nat → Loc} {w0 : World} {D : Nat → Prop} {L : Nat → Loc} {HD : AH} {a : Act} {w : World}
theorem Sk_pre(hR:RegOk ops){i m:Nat}(hi:i<ops.size)(h:bef ops i m): ∀j,Sk ops st S0 m j→Spre ops st S0 i j:=by
 rintro j (h1|⟨l,h1,h2⟩);·exact .inl h1
 ·refine .inr ⟨l,?_,h2⟩;rcases h1 with h1|h1;·rw[h1];exact h
  ·exact hR.bef_trans m l (Xr hi) h h1
theorem pre_D(hR:RegOk ops){i:Nat}(hi:i<ops.size)(h: ∀m,bef ops i m→D m): ∀j,Spre ops st S0 i j→SDs ops st S0 D j:=by
 rintro j (h1|⟨l,h1,h2⟩);·exact .inl h1
 ·exact .inr ⟨l,Nat.lt_trans (hR.bef_lt l (Xr hi) h1) hi,h l h1,h2⟩
theorem Sk_D(hR:RegOk ops)(hcl: ∀i m,i<ops.size→D i→bef ops i m→D m){m:Nat}(hm:m<ops.size)(hD:D m): ∀j,Sk ops st S0 m j→SDs ops st S0 D j:=by
 rintro j (h1|⟨l,h1,h2⟩);·exact .inl h1
 ·rcases h1 with h1|h1;·subst h1;exact .inr ⟨l,hm,hD,h2⟩
  ·exact .inr ⟨l,Nat.lt_trans (hR.bef_lt l (Xr hm) h1) hm,hcl m l hm hD h1,h2⟩
theorem ID.looks(T:Trace P C call ops st val q ms s s')(hR:RegOk ops)(h:ID Df ops st S0 q val B L0 w0 D L HD a w){i:Nat}{o:Oper}(ho:ops[i]?=some o)(hDi: ¬D i)(hpre: ∀m,bef ops i m→D m)(hcl: ∀i m,i<ops.size→D i→bef ops i m→D m){t:Nat}(ht:t∈o.looksAt ops){v:Value}(hv:(st i).tm.get t=some v):t<a.tmps.size∧VR (Spre ops st S0 i) L v (a.tmps.getD t undef):=by
 have hi:=Qf ho;have later: ∀m',m'<ops.size→D m'→i<m'→Ql ops m'≠some t:=fun m' hm' hD' hlt e=>by
  obtain⟨o',ho'⟩:=Xr hm';rcases hR.apart i m' o o' ho ho' hlt with h1|h1;·exact hDi (hcl m' i hm' hD' h1)
  ·exact(Oper.apart_spec h1).2.2 t (by simpa[Ql,ho']using e) ht
 rw[h.size];rcases T.tm i (Nat.le_of_lt hi) t v hv with⟨m,h1,h2,h3,h4⟩|⟨h1,h2⟩
 ·obtain⟨om,hom⟩:=Xr (ops:=ops) (i:=m) (by omega);have hb:bef ops i m:=by
   rcases hR.apart m i om o hom ho h1 with h5|h5;·exact h5
   ·exact absurd ht ((Oper.apart_spec h5).1 t (by simpa[Ql,hom]using h2))
  refine⟨T.dst_lt h2,?_⟩;have:=h.v1 m t (by omega) (hpre m hb) h2 (fun m' hm' hD' hlt=>by
   rcases Nat.lt_or_ge m' i with h6|h6;·exact h4 m' hlt h6
   ·rcases Nat.lt_or_ge i m' with h7|h7;·exact later m' hm' hD' h7
    ·obtain rfl:m'=i:=by omega
     exact absurd hD' hDi);rw[h3]at this;exact this.mono (Sk_pre hR hi hb) (fun _ _=>rfl)
 ·obtain⟨h3,h4⟩:=h.v0 t v (fun m hm hD'=>by
  rcases Nat.lt_or_ge m i with h6|h6;·exact h1 m h6
  ·rcases Nat.lt_or_ge i m with h7|h7;·exact later m hm hD' h7
   ·obtain rfl:m=i:=by omega
    exact absurd hD' hDi) h2;exact⟨h3,h4.mono (fun _ h=> .inl h) (fun _ _=>rfl)⟩
theorem put_getD{i:Nat}{o:Oper}(T:Trace P C call ops st val q ms s s')(ho:ops[i]?=some o)(hsz:a.tmps.size=(st 0).k)(v':Value)(t:Nat):(a.put o.dst v').tmps.getD t undef=if Ql ops i=some t then v' else a.tmps.getD t undef:=by
 have hd:Ql ops i=o.dst:=by simp[Ql,ho]
 rw[hd];cases hdst:o.dst with
  |none=>simp[Act.put]
  |some d=>
   simp only[Act.put];by_cases e:d=t;·subst e;rw[if_pos rfl,Ba _ _ _ _ (by rw[hsz];exact T.dst_lt (by rw[hd,hdst]))]
   ·rw[if_neg (by intro h;injection h with h;exact e h),Af _ _ _ _ _ e]
theorem ID.slots(T:Trace P C call ops st val q ms s s')(hR:RegOk ops)(h:ID Df ops st S0 q val B L0 w0 D L HD a w){i:Nat}{o:Oper}(ho:ops[i]?=some o)(hDi: ¬D i)(hcl: ∀i m,i<ops.size→D i→bef ops i m→D m){L':Nat→Loc}(hL: ∀j,SDs ops st S0 D j→L' j=L j){v':Value}(hv:VR (Sk ops st S0 i) L' (val i) v'):(a.put o.dst v').defers=Df∧(a.put o.dst v').tmps.size=(st 0).k∧(∀t v,(∀m,m<ops.size→(D m∨m=i)→Ql ops m≠some t)→(st 0).tm.get t=some v→t<(st 0).k∧VR S0 L' v ((a.put o.dst v').tmps.getD t undef))∧(∀m t,m<ops.size→(D m∨m=i)→Ql ops m=some t→(∀m',m'<ops.size→(D m'∨m'=i)→m<m'→Ql ops m'≠some t)→VR (Sk ops st S0 m) L' (val m) ((a.put o.dst v').tmps.getD t undef)):=by
 have hi:=Qf ho;refine⟨?_,?_,fun t v h1 h2=>?_,fun m t hm hD hd hlast=>?_⟩;·have:=h.defers;cases hdst:o.dst<;>simp[Act.put,this]
 ·have:=h.size;cases hdst:o.dst<;>simp[Act.put,this]
 ·rw[put_getD T ho h.size,if_neg (h1 i hi (.inr rfl))];obtain⟨h3,h4⟩:=h.v0 t v (fun m hm hD=>h1 m hm (.inl hD)) h2;exact⟨h3,h4.mono (fun _ h=>h) (fun j hj=>hL j (.inl hj))⟩
 ·rw[put_getD T ho h.size];by_cases hmi:m=i;·subst hmi;rw[if_pos hd];exact hv
  ·have hDm:D m:=hD.resolve_right hmi;have hne:Ql ops i≠some t:=by
    intro e;obtain⟨om,hom⟩:=Xr hm;rcases Nat.lt_or_ge m i with h1|h1;·exact hlast i hi (.inr rfl) h1 e
    ·have hlt:i<m:=by omega
     rcases hR.apart i m o om ho hom hlt with h2|h2;·exact hDi (hcl m i hm hDm h2)
     ·exact(Oper.apart_spec h2).2.1 t (by simpa[Ql,ho]using e) (by simpa[Ql,hom]using hd)
   rw[if_neg hne];exact(h.v1 m t hm hDm hd (fun m' hm' hD'=>hlast m' hm' (.inl hD'))).mono (fun _ h=>h) (fun j hj=>hL j (Sk_D hR hcl hm hDm j hj))
theorem ID.quiet(T:Trace P C call ops st val q ms s s')(hR:RegOk ops)(h:ID Df ops st S0 q val B L0 w0 D L HD a w){i:Nat}{o:Oper}(ho:ops[i]?=some o)(hDi: ¬D i)(hcl: ∀i m,i<ops.size→D i→bef ops i m→D m)(hH:(st (i+1)).H=(st i).H)(hq:q (i+1)=q i)(hW: ¬isW ops st i){v':Value}(hv:VR (Sk ops st S0 i) L (val i) v'){w':World}(hs:w.heap.size≤w'.heap.size)(hb: ∀g,g<w.heap.size→w'.heap[g]?=w.heap[g]?)(e1:w'.os=w.os)(e2:w'.tape=w.tape)(e3:w'.output=w.output):ID Df ops st S0 q val B L0 w0 (fun m=>D m∨m=i) L HD (a.put o.dst v') w':=by
 have hi:=Qf ho;have hsd: ∀j,SDs ops st S0 (fun m=>D m∨m=i) j↔SDs ops st S0 D j:=fun j=>by
  constructor
  ·rintro(h1|⟨l,h1,h2|h2,h3,h4⟩);·exact .inl h1
   ·exact .inr ⟨l,h1,h2,h3,h4⟩
   ·subst h2;rw[hH]at h4;omega
  ·rintro(h1|⟨l,h1,h2,h3⟩);·exact .inl h1
   ·exact .inr ⟨l,h1,.inl h2,h3⟩
 have hlive: ∀j,live ops st (fun m=>D m∨m=i) j↔live ops st D j:=fun j=>by
  constructor
  ·rintro(h1|⟨l,h1,h2|h2,h3,h4⟩);·exact .inl h1
   ·exact .inr ⟨l,h1,h2,h3,h4⟩
   ·subst h2;rw[hH]at h4;omega
  ·rintro(h1|⟨l,h1,h2,h3⟩);·exact .inl h1
   ·exact .inr ⟨l,h1,.inl h2,h3⟩
 obtain⟨s1,s2,s3,s4⟩:=h.slots T hR ho hDi hcl (fun _ _=>rfl) hv;refine⟨h.agree,(h.inv.world hs hb).mono (fun j hj=>(hsd j).mpr hj) (fun j hj=>h.inv.bd j ((hsd j).mp hj)),h.hn,h.keep,h.back,h.newg,e1.trans h.os,e2.trans h.tape,e3.trans h.output,Nat.le_trans h.wsize hs,fun g hg=>?_,h.lwle,s1,s2,s3,s4,?_⟩
 ·rcases h.frame g hg with h1|h1;·exact .inl ((hb g (Nat.lt_of_lt_of_le hg h.wsize)).trans h1)
  ·exact .inr h1
 ·rcases h.regime with⟨r1,r2,r3,r4,r5⟩|⟨hh,r1,r2,r3,r4,r5⟩
  ·refine .inl ⟨fun m hm hD=>?_,r2,fun j hj=>r3 j (fun h=>hj ((hlive j).mpr h)),fun k hk hqk j hj hl=>r4 k hk hqk j hj ((hlive j).mp hl),fun m hm hD j h1 h2=>?_⟩
   ·rcases hD with hD|hD;·exact r1 m hm hD
    ·subst hD;exact absurd hm hW
   ·rcases hD with hD|hD;·exact r5 m hm hD j h1 h2
    ·subst hD;rw[hH]at h2;omega
  ·exact .inr ⟨hh,r1,r2,fun m hm=>⟨fun hD=>by
   rcases hD with hD|hD;·exact(r3 m hm).mp hD
   ·subst hD;exact absurd hm hW,fun hlt=> .inl ((r3 m hm).mpr hlt)⟩,r4,r5⟩
theorem Trace.isW_of(T:Trace P C call ops st val q ms s s'){l:Nat}(hl:l<ops.size)(h:(st l).H.n<(st (l+1)).H.n):isW ops st l:=by
 obtain⟨o,ho⟩:=Xr hl;rcases(T.step l o ho).1 with h1|h1|h1;·rw[h1.1]at h;omega
 ·exact⟨o,ho,h1.1,h1.2.1⟩
 ·exact⟨o,ho,h1.1,h1.2.1⟩
theorem Trace.q_false(T:Trace P C call ops st val q ms s s'): ∀(i:Nat),i≤ops.size→(∀m,m<i→isW ops st m→q (m+1)=false)→q i=false
 |0,_,_=>T.q0
 |i+1,hi,h=>by
  obtain⟨o,ho⟩:=Xr (ops:=ops) (i:=i) (by omega);rcases(T.step i o ho).1 with h1|h1|h1;·rw[h1.2.1];exact T.q_false i (by omega) (fun m hm=>h m (by omega))
  ·exact h1.2.2.2.1
  ·exact h i (by omega) ⟨o,ho,h1.1,h1.2.1⟩
theorem Trace.still(T:Trace P C call ops st val q ms s s'){h:Nat} : ∀(i:Nat),h≤i→i≤ops.size→(∀m,h≤m→m<i→ ¬isW ops st m)→(st i).H=(st h).H
 |0,h1,_,_=>by
  obtain rfl:h=0:=by omega
  rfl
 |i+1,h1,hi,hn=>by
  rcases Nat.lt_or_ge h (i+1)with h'|h'
  ·have ih:=T.still i (by omega) (by omega) (fun m a b=>hn m a (by omega));obtain⟨o,ho⟩:=Xr (ops:=ops) (i:=i) (by omega);rcases(T.step i o ho).1 with h2|h2|h2;·exact h2.1.trans ih
   ·exact absurd ⟨o,ho,h2.1,h2.2.1⟩ (hn i (by omega) (by omega))
   ·exact absurd ⟨o,ho,h2.1,h2.2.1⟩ (hn i (by omega) (by omega))
  ·obtain rfl:h=i+1:=by omega
   rfl
theorem Dv{i k:Nat}{o:Oper}(h:alone ops i=true)(ho:ops[k]?=some o)(hk:k≠i)(hh:Zy o.op=true):(k<i→bef ops i k)∧(i<k→bef ops k i):=by
 unfold alone at h;rw[List.all_eq_true]at h;have:=h k (by simpa using Qf ho);rw[ho]at this;simp only[hh,Bool.not_true,Bool.false_or,Bool.or_eq_true]at this;rcases this with h1|h1;·exact absurd (Nat.eq_of_beq_eq_true h1) hk
 ·refine⟨fun hlt=>?_,fun hlt=>?_⟩
  ·have:Nat.blt k i=true:=by rw[Nat.blt_eq];exact hlt
   rw[this,cond_true]at h1;exact h1
  ·have:Nat.blt k i=false:=by cases hb:Nat.blt k i with|false=>rfl|true=>rw[Nat.blt_eq]at hb;omega
   rw[this,cond_false]at h1;exact h1
def hid(ops:Array Oper)(st:Nat→St)(ms:Nat→List (Nat×Nat×Nat))(i:Nat):AH:= { n:=(st i).H.n,lw:=(st i).H.n,t:=Fo (st i).H.t (hidden ((before ops).getD i 0) (ms i)) }
theorem ID.sees(T:Trace P C call ops st val q ms s s')(hR:RegOk ops)(hI0:Inv B S0 L0 (st 0).H w0)(h:ID Df ops st S0 q val B L0 w0 D L HD a w)(hr:R1 ops st S0 q D HD){i:Nat}(hi:i<ops.size)(hpre: ∀m,bef ops i m→D m)(hqi:q i=false):Inv B (Spre ops st S0 i) L (hid ops st ms i) w:=by
 obtain⟨r1,r2,r3,r4,r5⟩:=hr;have hdead: ∀j,(st 0).H.n≤j→(st 0).H.blk j= .dead:=fun j hj=>by cases hb:(st 0).H.blk j with|dead=>rfl|ro sz cs=>exact absurd (hI0.bd j (hI0.ro j sz cs hb).1) (by omega)|rw sz cs=>exact absurd (hI0.bd j (hI0.rw j sz cs hb).1) (by omega)
 obtain⟨g1,g2,g3⟩:=T.grown hdead i (Nat.le_of_lt hi) hqi;have hsub:=pre_D (S0:=S0) (st:=st) hR hi hpre;have key: ∀j b,(hid ops st ms i).blk j=b→b≠ .dead→HD.blk j=b∧Spre ops st S0 i j∧InSB (Spre ops st S0 i) b:=by
  intro j b hb hne;have hb2:((if j∈hidden ((before ops).getD i 0) (ms i)then Blk.dead else(st i).H.blk j):Blk)=b:=by rw[←hb];exact(blk_hideT _ _ _ _ j).symm
  by_cases hj:j∈hidden ((before ops).getD i 0) (ms i);·rw[if_pos hj]at hb2;exact absurd hb2.symm hne
  ·rw[if_neg hj]at hb2;have hlt:j<(st i).H.n:=by
    rcases Nat.lt_or_ge j (st i).H.n with h'|h';·exact h'
    ·rw[g2 j h']at hb2;exact absurd hb2.symm hne
   rcases Nat.lt_or_ge j (st 0).H.n with h0|h0
   ·have e0:=g3 0 (Nat.zero_le _) j h0;refine⟨(r4 i (Nat.le_of_lt hi) hqi j hlt (.inl h0)).trans hb2,.inl ?_,?_⟩;·rw[e0]at hb2;cases hbb:(st 0).H.blk j with|dead=>rw[hbb]at hb2;exact absurd hb2.symm hne|ro sz cs=>exact(hI0.ro j sz cs hbb).1|rw sz cs=>exact(hI0.rw j sz cs hbb).1
    ·rw[←hb2,e0];exact(hI0.inSB j).mono (fun _ h=> .inl h)
   ·obtain⟨m,h1,h2,h3⟩:=T.range h0 (Nat.le_of_lt hi) hlt;have hbit:bef ops i m:=by unfold bef;cases hbt:((before ops).getD i 0).testBit m with|true=>rfl|false=>exact absurd ((Zh5 _ _ _).mpr ⟨m,_,_,(T.ms_iff i (Nat.le_of_lt hi) m _ _).mpr ⟨h1,rfl,rfl,by omega⟩,hbt,h2,h3⟩) hj
    have hDm:=hpre m hbit;have hHD:=(r4 i (Nat.le_of_lt hi) hqi j hlt (.inr ⟨m,by omega,hDm,h2,h3⟩)).trans hb2;refine⟨hHD,.inr ⟨m,hbit,h2,h3⟩,?_⟩;rw[←hHD];exact(r5 m (by omega) hDm j h2 h3).mono (Sk_pre hR hi hbit)
 refine⟨fun j sz cs hb=>?_,fun j sz cs hb=>?_,fun j j' sz cs sz' cs' hb hb' e=>?_,fun j hj=>?_,h.inv.base⟩;·obtain⟨k1,k2,k3⟩:=key j _ hb (by intro h;cases h);obtain⟨h1,h2,h3,h4⟩:=h.inv.ro j sz cs k1;refine⟨k2,h2,h3,fun k v hk=>?_⟩;obtain⟨v',h5,h6⟩:=h4 k v hk;exact⟨v',h5,h6.narrow (k3 k v hk)⟩
 ·obtain⟨k1,k2,k3⟩:=key j _ hb (by intro h;cases h);obtain⟨h1,h2,h3,C',e,h4,h5,h6⟩:=h.inv.rw j sz cs k1;refine⟨k2,h2,h3,C',e,h4,h5,fun k v hk=>?_⟩;obtain⟨v',h7,h8⟩:=h6 k v hk;exact⟨v',h7,h8.narrow (k3 k v hk)⟩
 ·exact h.inv.dj j j' sz cs sz' cs' (key j _ hb (by intro h;cases h)).1 (key j' _ hb' (by intro h;cases h)).1 e
 ·show j<(st i).H.n;rcases hj with hj|⟨l,h1,h2,h3⟩;·exact Nat.lt_of_lt_of_le (hI0.bd j hj) (T.n_mono (Nat.zero_le _) (Nat.le_of_lt hi))
  ·have:=hR.bef_lt l (Xr hi) h1;exact Nat.lt_of_lt_of_le h3 (T.n_mono (by omega) (Nat.le_of_lt hi))
theorem ID.grow(T:Trace P C call ops st val q ms s s')(hR:RegOk ops)(hI0:Inv B S0 L0 (st 0).H w0)(h:ID Df ops st S0 q val B L0 w0 D L HD a w)(hr:R1 ops st S0 q D HD){i:Nat}{o:Oper}(ho:ops[i]?=some o)(hDi: ¬D i)(hpre: ∀m,bef ops i m→D m)(hcl: ∀i m,i<ops.size→D i→bef ops i m→D m)(hqi:q i=false)(hq1:q (i+1)=false){H2:AH}(hn2:(st i).H.n≤H2.n)(hlw:(st i).H.n≤H2.lw)(hE:(st (i+1)).H.n=H2.n)(hblk: ∀j,(st (i+1)).H.blk j=if(st i).H.n≤j∧j<H2.n then H2.blk j else(st i).H.blk j){v':Value}{w':World}(hg:Good B (Spre ops st S0 i) L (hid ops st ms i) w (val i) H2 v' w'): ∃L2 HD2,ID Df ops st S0 q val B L0 w0 (fun m=>D m∨m=i) L2 HD2 (a.put o.dst v') w':=by
 have hi:=Qf ho;obtain⟨r1,r2,r3,r4,r5⟩:=hr;obtain⟨L',gI,gF,gV⟩:=hg;have hMn:(hid ops st ms i).n=(st i).H.n:=rfl;rw[hMn]at gI gV;have hdead: ∀j,(st 0).H.n≤j→(st 0).H.blk j= .dead:=fun j hj=>by cases hb:(st 0).H.blk j with|dead=>rfl|ro sz cs=>exact absurd (hI0.bd j (hI0.ro j sz cs hb).1) (by omega)|rw sz cs=>exact absurd (hI0.bd j (hI0.rw j sz cs hb).1) (by omega)
 have hM:Inv B (Spre ops st S0 i) L (hid ops st ms i) w:=ID.sees T hR hI0 h ⟨r1,r2,r3,r4,r5⟩ hi hpre hqi;have hsub:=pre_D (S0:=S0) (st:=st) hR hi hpre;have hn0:(st 0).H.n≤(st i).H.n:=T.n_mono (Nat.zero_le _) (Nat.le_of_lt hi);have hEN:H2.n≤(st ops.size).H.n:=by rw[←hE];exact T.n_mono (by omega) (Nat.le_refl _)
 have hold: ∀g,g<w.heap.size→w'.heap[g]?=w.heap[g]?:=fun g hg=>by
  rcases gF.frame g hg with h1|⟨j,sz,cs,h1,h2,h3⟩;·exact h1
  ·have:=hM.lt h1;rw[hMn]at this;omega
 have hnewg: ∀j,(st i).H.n≤j→ ∀sz cs,H2.blk j= .rw sz cs→w.heap.size≤(L' j).g:=fun j hj sz cs hb=>by
  rcases gF.newg j hj sz cs hb with h1|⟨i0,sz0,cs0,h1,h2,h3⟩;·exact h1
  ·have:=hM.lt h1;rw[hMn]at this;omega
 have hout: ∀j,SDs ops st S0 D j→ ¬ ((st i).H.n≤j∧j<H2.n):=by
  rintro j (h1|⟨l,h1,h2,h3,h4⟩) ⟨h5,h6⟩;·have:=hI0.bd j h1;omega
  ·rcases Nat.lt_or_ge l i with h7|h7;·have:=T.n_mono (i:=l+1) (j:=i) (by omega) (by omega);omega
   ·rcases Nat.lt_or_ge i l with h8|h8;·have:=T.n_mono (i:=i+1) (j:=l) (by omega) (by omega);omega
    ·obtain rfl:l=i:=by omega
     exact hDi h2
 let L2:Nat→Loc:=fun j=>if(st i).H.n≤j∧j<H2.n then L' j else L j;have hL2: ∀j,SDs ops st S0 D j→L2 j=L j:=fun j hj=>if_neg (hout j hj);have hL2': ∀j,ext (Spre ops st S0 i) (st i).H.n H2.n j→L2 j=L' j:=by
  rintro j (hj|hj);·rw[hL2 j (hsub j hj),gF.agree j hj]
  ·exact if_pos hj
 have hSD': ∀j,SDs ops st S0 (fun m=>D m∨m=i) j↔SDs ops st S0 D j∨((st i).H.n≤j∧j<H2.n):=fun j=>by
  constructor
  ·rintro(h1|⟨l,h1,h2|h2,h3,h4⟩);·exact .inl (.inl h1)
   ·exact .inl (.inr ⟨l,h1,h2,h3,h4⟩)
   ·subst h2;exact .inr ⟨h3,by rw[←hE];exact h4⟩
  ·rintro((h1|⟨l,h1,h2,h3⟩)|⟨h1,h2⟩);·exact .inl h1
   ·exact .inr ⟨l,h1,.inl h2,h3⟩
   ·exact .inr ⟨i,hi,.inr rfl,h1,by rw[hE];exact h2⟩
 have hS1: ∀j,SDs ops st S0 D j→SDs ops st S0 (fun m=>D m∨m=i) j:=fun j hj=>(hSD' j).mpr (.inl hj);have hS2: ∀j,ext (Spre ops st S0 i) (st i).H.n H2.n j→SDs ops st S0 (fun m=>D m∨m=i) j:=by
  rintro j (hj|hj);·exact hS1 j (hsub j hj)
  ·exact(hSD' j).mpr (.inr hj)
 have hSk: ∀j,ext (Spre ops st S0 i) (st i).H.n H2.n j→Sk ops st S0 i j:=by
  rintro j ((hj|⟨l,h1,h2⟩)|⟨h1,h2⟩);·exact .inl hj
  ·exact .inr ⟨l,.inr h1,h2⟩
  ·exact .inr ⟨i,.inl rfl,h1,by rw[hE];exact h2⟩
 let HD2:AH:= { n:=HD.n,lw:=HD.lw,t:=addT HD.t H2 (st i).H.n (H2.n-(st i).H.n) };have hB2: ∀j,HD2.blk j=if(st i).H.n≤j∧j<H2.n then H2.blk j else HD.blk j:=fun j=>by show({ n:=HD.n,lw:=HD.lw,t:=addT HD.t H2 (st i).H.n (H2.n-(st i).H.n) } :AH).blk j=_;rw[blk_addT,show(st i).H.n+(H2.n-(st i).H.n)=H2.n by omega]
 have hw:=h.inv.world gF.size hold;have hinv:Inv B (SDs ops st S0 (fun m=>D m∨m=i)) L2 HD2 w':=by
  refine⟨fun j sz cs hb=>?_,fun j sz cs hb=>?_,fun j j' sz cs sz' cs' hb hb' e=>?_,fun j hj=>?_,hw.base⟩
  ·rw[hB2]at hb;split at hb;·rename_i hin;obtain⟨h1,h2,h3,h4⟩:=gI.ro j sz cs hb;rw[hL2' j h1];refine⟨hS2 j h1,h2,h3,fun k v hk=>?_⟩;obtain⟨u,h5,h6⟩:=h4 k v hk;exact⟨u,h5,h6.mono hS2 hL2'⟩
   ·obtain⟨h1,h2,h3,h4⟩:=hw.ro j sz cs hb;rw[hL2 j h1];refine⟨hS1 j h1,h2,h3,fun k v hk=>?_⟩;obtain⟨u,h5,h6⟩:=h4 k v hk;exact⟨u,h5,h6.mono hS1 hL2⟩
  ·rw[hB2]at hb;split at hb;·rename_i hin;obtain⟨h1,h2,h3,C',e,h4,h5,h6⟩:=gI.rw j sz cs hb;rw[hL2' j h1];refine⟨hS2 j h1,h2,h3,C',e,h4,h5,fun k v hk=>?_⟩;obtain⟨u,h7,h8⟩:=h6 k v hk;exact⟨u,h7,h8.mono hS2 hL2'⟩
   ·obtain⟨h1,h2,h3,C',e,h4,h5,h6⟩:=hw.rw j sz cs hb;rw[hL2 j h1];refine⟨hS1 j h1,h2,h3,C',e,h4,h5,fun k v hk=>?_⟩;obtain⟨u,h7,h8⟩:=h6 k v hk;exact⟨u,h7,h8.mono hS1 hL2⟩
  ·rw[hB2]at hb hb';have oldlt: ∀x s c,HD.blk x= .rw s c→(L2 x).g<w.heap.size:=fun x s c hx=>by obtain⟨h1,_,_,C',e',h4,_⟩:=h.inv.rw x s c hx;rw[hL2 x h1];exact Vw h4
   have newge: ∀x s c,(st i).H.n≤x→H2.blk x= .rw s c→w.heap.size≤(L2 x).g:=fun x s c hx hbx=>by rw[hL2' x (gI.rw x s c hbx).1];exact hnewg x hx s c hbx
   split at hb
   ·rename_i hin;split at hb';·rename_i hin';have e1:=hL2' j (gI.rw j sz cs hb).1;have e2:=hL2' j' (gI.rw j' sz' cs' hb').1;rw[e1,e2]at e;exact gI.dj j j' sz cs sz' cs' hb hb' e
    ·have:=oldlt j' _ _ hb';have:=newge j _ _ hin.1 hb;omega
   ·split at hb';·rename_i hin';have:=oldlt j _ _ hb;have:=newge j' _ _ hin'.1 hb';omega
    ·rw[hL2 j (h.inv.rw j sz cs hb).1,hL2 j' (h.inv.rw j' sz' cs' hb').1]at e;exact h.inv.dj j j' sz cs sz' cs' hb hb' e
  ·show j<HD.n;rcases(hSD' j).mp hj with h1|⟨h1,h2⟩;·exact h.inv.bd j h1
   ·rw[h.hn];omega
 obtain⟨s1,s2,s3,s4⟩:=h.slots T hR ho hDi hcl (L':=L2) hL2 (v':=v') (gV.mono hSk (fun j hj=>hL2' j hj));have hn0out: ∀j,j<(st 0).H.n→ ¬ ((st i).H.n≤j∧j<H2.n):=fun j hj=>by omega
 refine⟨L2,HD2,⟨fun j hj=>(hL2 j (.inl hj)).trans (h.agree j hj),hinv,h.hn,fun j hj hl=>?_,fun j hj sz cs hb=>?_,fun j hj sz cs hb=>?_,gF.os.trans h.os,gF.tape.trans h.tape,gF.output.trans h.output,Nat.le_trans h.wsize gF.size,fun g hg=>?_,h.lwle,s1,s2,s3,s4,.inl ⟨fun m hm hD=>?_,r2,fun j hj=>?_,fun k hk hqk j hj hl=>?_,fun m hm hD j h1 h2=>?_⟩⟩⟩;·rw[hB2,if_neg (hn0out j hj)];exact h.keep j hj hl
 ·rw[hB2,if_neg (hn0out j hj)]at hb;exact h.back j hj sz cs hb
 ·rw[hB2]at hb;split at hb;·rename_i hin;left;rw[hL2' j (gI.rw j sz cs hb).1];exact Nat.le_trans h.wsize (hnewg j hin.1 sz cs hb)
  ·rw[hL2 j (h.inv.rw j sz cs hb).1];exact h.newg j hj sz cs hb
 ·rcases h.frame g hg with h1|h1;·exact .inl ((hold g (Nat.lt_of_lt_of_le hg h.wsize)).trans h1)
  ·exact .inr h1
 ·rcases hD with hD|hD;·exact r1 m hm hD
  ·subst hD;exact hq1
 ·rw[hB2,if_neg (fun hin=>hj (.inr ⟨i,hi,.inr rfl,hin.1,by rw[hE];exact hin.2⟩))];refine r3 j fun hl=>hj ?_;rcases hl with hl|⟨l,h1,h2,h3⟩;·exact .inl hl
  ·exact .inr ⟨l,h1,.inl h2,h3⟩
 ·rw[hB2];split
  ·rename_i hin;have hki:i+1≤k:=by
    rcases Nat.lt_or_ge k (i+1)with h'|h';·have:=T.n_mono (i:=k) (j:=i) (by omega) (by omega);omega
    ·exact h'
   rw[(T.grown hdead k hk hqk).2.2 (i+1) hki j (by rw[hE];exact hin.2),hblk,if_pos hin]
  ·rename_i hin;refine r4 k hk hqk j hj ?_;rcases hl with hl|⟨l,h1,h2|h2,h3,h4⟩;·exact .inl hl
   ·exact .inr ⟨l,h1,h2,h3,h4⟩
   ·subst h2;exact absurd ⟨h3,by rw[←hE];exact h4⟩ hin
 ·rw[hB2];rcases hD with hD|hD;·rw[if_neg (hout j (.inr ⟨m,hm,hD,h1,h2⟩))];exact r5 m hm hD j h1 h2
  ·subst hD;rw[if_pos ⟨h1,by rw[←hE];exact h2⟩];exact(gI.inSB j).mono hSk
end
section
variable {Df : List Deferred} {P : Program} {C : Cfg} {call : FuncId → List Value → AH → Option (Value × AH)} {ops : Array Oper} {st : Nat → St} {val : Nat → Value} {q : Nat → Bool} {ms : Nat → List (Nat × Nat × Nat)} {s s' : St}
variable {B : Nat} {S0 : Nat → Prop} {L0 : Nat → Loc} {w0 : World} {D : Nat → Prop} {L : Nat → Loc} {HD : AH} {a : Act} {w : World}
def allOf(st:Nat→St)(i:Nat):AH:= { n:=(st i).H.n,lw:=(st i).H.n,t:=(st i).H.t }
theorem Ze1(hI0:Inv B S0 L0 (st 0).H w0): ∀j,(st 0).H.n≤j→(st 0).H.blk j= .dead:=fun j hj=>by cases hb:(st 0).H.blk j with|dead=>rfl|ro sz cs=>exact absurd (hI0.bd j (hI0.ro j sz cs hb).1) (by omega)|rw sz cs=>exact absurd (hI0.bd j (hI0.rw j sz cs hb).1) (by omega)
theorem ID.all(T:Trace P C call ops st val q ms s s')(hI0:Inv B S0 L0 (st 0).H w0)(h:ID Df ops st S0 q val B L0 w0 D L HD a w){i:Nat}(hi:i<ops.size)(hD: ∀m,isW ops st m→(D m↔m<i))(hWi:isW ops st i):HD.lw=(st i).H.lw∧ ∀j,HD.blk j=(st i).H.blk j:=by
 rcases h.regime with⟨r1,r2,r3,r4,r5⟩|⟨k,r1,r2,r3,r4,r5⟩
 ·have hqi:q i=false:=T.q_false i (Nat.le_of_lt hi) (fun m hm hw=>r1 m hw ((hD m hw).mpr hm));obtain⟨g1,g2,g3⟩:=T.grown (Ze1 hI0) i (Nat.le_of_lt hi) hqi;refine⟨r2.trans g1.symm,fun j=>?_⟩;rcases Nat.lt_or_ge j (st i).H.n with hlt|hge
  ·refine r4 i (Nat.le_of_lt hi) hqi j hlt ?_;rcases Nat.lt_or_ge j (st 0).H.n with h0|h0;·exact .inl h0
   ·obtain⟨m,h1,h2,h3⟩:=T.range h0 (Nat.le_of_lt hi) hlt;exact .inr ⟨m,by omega,(hD m (T.isW_of (by omega) (by omega))).mpr h1,h2,h3⟩
  ·rw[g2 j hge];refine r3 j fun hl=>?_;rcases hl with hl|⟨l,h1,h2,h3,h4⟩;·have:=T.n_mono (i:=0) (j:=i) (Nat.zero_le _) (Nat.le_of_lt hi);omega
   ·have hlt:=(hD l (T.isW_of h1 (by omega))).mp h2;have:=T.n_mono (i:=l+1) (j:=i) (by omega) (Nat.le_of_lt hi);omega
 ·have hk:k≤i:=by
   rcases Nat.lt_or_ge i k with h'|h';·have:=(hD i hWi).mp ((r3 i hWi).mpr h');omega
   ·exact h'
  have:=T.still i hk (Nat.le_of_lt hi) (fun m h1 h2 hw=>by have:=(r3 m hw).mp ((hD m hw).mpr h2);omega);rw[this];exact⟨r4,r5⟩
theorem ID.seesAll(T:Trace P C call ops st val q ms s s')(hI0:Inv B S0 L0 (st 0).H w0)(h:ID Df ops st S0 q val B L0 w0 D L HD a w){i:Nat}(hi:i<ops.size)(hD: ∀m,isW ops st m→(D m↔m<i))(hWi:isW ops st i):Inv B (SDs ops st S0 D) L (allOf st i) w:=by
 have hb:=(h.all T hI0 hi hD hWi).2;have hb': ∀j,(allOf st i).blk j=HD.blk j:=fun j=>(hb j).symm;refine⟨fun j sz cs hj=>h.inv.ro j sz cs (by rw[←hb'];exact hj),fun j sz cs hj=>h.inv.rw j sz cs (by rw[←hb'];exact hj),fun j j' a b c d hj hj' e=>h.inv.dj j j' a b c d (by rw[←hb'];exact hj) (by rw[←hb'];exact hj') e,fun j hj=>?_,h.inv.base⟩;show j<(st i).H.n;rcases hj with hj|⟨l,h1,h2,h3,h4⟩;·exact Nat.lt_of_lt_of_le (hI0.bd j hj) (T.n_mono (Nat.zero_le _) (Nat.le_of_lt hi))
 ·have:=(hD l (T.isW_of h1 (by omega))).mp h2;exact Nat.lt_of_lt_of_le h4 (T.n_mono (by omega) (Nat.le_of_lt hi))
theorem ID.write(T:Trace P C call ops st val q ms s s')(hR:RegOk ops)(hI0:Inv B S0 L0 (st 0).H w0)(h:ID Df ops st S0 q val B L0 w0 D L HD a w){i:Nat}{o:Oper}(ho:ops[i]?=some o)(hDi: ¬D i)(hcl: ∀i m,i<ops.size→D i→bef ops i m→D m)(hD: ∀m,isW ops st m→(D m↔m<i))(hbef: ∀m,isW ops st m→m<i→bef ops i m)(hWi:isW ops st i)(hq1:q (i+1)=true){H2:AH}(hn2:(st i).H.n≤H2.n)(hE:(st (i+1)).H.n=H2.n)(hlw:(st (i+1)).H.lw=min (st i).H.lw H2.lw)(hblk: ∀j,(st (i+1)).H.blk j=H2.blk j){v':Value}{w':World}(hg:Good B (SDs ops st S0 D) L (allOf st i) w (val i) H2 v' w'): ∃L2 HD2,ID Df ops st S0 q val B L0 w0 (fun m=>D m∨m=i) L2 HD2 (a.put o.dst v') w':=by
 have hi:=Qf ho;obtain⟨L',gI,gF,gV⟩:=hg;have hMn:(allOf st i).n=(st i).H.n:=rfl;rw[hMn]at gI gV;obtain⟨hlwD,hb⟩:=h.all T hI0 hi hD hWi;have hM:=h.seesAll T hI0 hi hD hWi;have hMb: ∀j,(allOf st i).blk j=HD.blk j:=fun j=>(hb j).symm;have hn0:(st 0).H.n≤(st i).H.n:=T.n_mono (Nat.zero_le _) (Nat.le_of_lt hi);have hEN:H2.n≤(st ops.size).H.n:=by rw[←hE];exact T.n_mono (by omega) (Nat.le_refl _)
 have hSD': ∀j,SDs ops st S0 (fun m=>D m∨m=i) j↔ext (SDs ops st S0 D) (st i).H.n H2.n j:=fun j=>by
  constructor
  ·rintro(h1|⟨l,h1,h2|h2,h3,h4⟩);·exact .inl (.inl h1)
   ·exact .inl (.inr ⟨l,h1,h2,h3,h4⟩)
   ·subst h2;exact .inr ⟨h3,by rw[←hE];exact h4⟩
  ·rintro((h1|⟨l,h1,h2,h3⟩)|⟨h1,h2⟩);·exact .inl h1
   ·exact .inr ⟨l,h1,.inl h2,h3⟩
   ·exact .inr ⟨i,hi,.inr rfl,h1,by rw[hE];exact h2⟩
 have hSk: ∀j,ext (SDs ops st S0 D) (st i).H.n H2.n j→Sk ops st S0 i j:=by
  rintro j ((hj|⟨l,h1,h2,h3,h4⟩)|⟨h1,h2⟩);·exact .inl hj
  ·have hw:=T.isW_of h1 (by omega);exact .inr ⟨l,.inr (hbef l hw ((hD l hw).mp h2)),h3,h4⟩
  ·exact .inr ⟨i,.inl rfl,h1,by rw[hE];exact h2⟩
 let HD2:AH:= { n:=HD.n,lw:=min HD.lw H2.lw,t:=H2.t };have hB2: ∀j,HD2.blk j=H2.blk j:=fun j=>rfl;have hinv:Inv B (SDs ops st S0 (fun m=>D m∨m=i)) L' HD2 w':=by have hmono:=gI.mono (S':=SDs ops st S0 (fun m=>D m∨m=i)) (fun j hj=>(hSD' j).mpr hj) (fun j hj=>gI.bd j ((hSD' j).mp hj));exact⟨hmono.ro,hmono.rw,hmono.dj,fun j hj=>by show j<HD.n;have:=gI.bd j ((hSD' j).mp hj);rw[h.hn];omega,hmono.base⟩
 have hback: ∀j,j<(st i).H.n→ ∀sz cs,H2.blk j= .rw sz cs→ ∃cs0,HD.blk j= .rw sz cs0∧L' j=L j:=fun j hj sz cs hbj=>by obtain⟨cs0,h0⟩:=gF.back j hj sz cs hbj;exact⟨cs0,by rw[←hMb];exact h0,gF.agree j (hM.rw j sz cs0 h0).1⟩
 have hlift: ∀i1 sz1 cs1,HD.blk i1= .rw sz1 cs1→H2.lw≤i1→w0.heap.size≤(L i1).g∨ ∃i0 sz0 cs0,(st 0).H.blk i0= .rw sz0 cs0∧(L0 i0).g=(L i1).g∧min HD.lw H2.lw≤i0:=fun i1 sz1 cs1 h1 hl=>by
  rcases Nat.lt_or_ge i1 (st 0).H.n with hlt|hge;·obtain⟨cs0,h0⟩:=h.back i1 hlt sz1 cs1 h1;exact .inr ⟨i1,sz1,cs0,h0,by rw[h.agree i1 (hI0.rw i1 sz1 cs0 h0).1],Nat.le_trans (Nat.min_le_right _ _) hl⟩
  ·rcases h.newg i1 hge sz1 cs1 h1 with h2|⟨i0,sz0,cs0,h0,e0,l0⟩;·exact .inl h2
   ·exact .inr ⟨i0,sz0,cs0,h0,e0,Nat.le_trans (Nat.min_le_left _ _) l0⟩
 obtain⟨s1,s2,s3,s4⟩:=h.slots T hR ho hDi hcl (L':=L') gF.agree (v':=v') (gV.mono hSk (fun _ _=>rfl));refine⟨L',HD2,⟨fun j hj=>(gF.agree j (.inl hj)).trans (h.agree j hj),hinv,h.hn,fun j hj hl=>?_,fun j hj sz cs hbj=>?_,fun j hj sz cs hbj=>?_,gF.os.trans h.os,gF.tape.trans h.tape,gF.output.trans h.output,Nat.le_trans h.wsize gF.size,fun g hg=>?_,Nat.le_trans (Nat.min_le_left _ _) h.lwle,s1,s2,s3,s4,.inr ⟨i+1,hi,hq1,fun m hm=>?_,by rw[hlw,←hlwD],fun j=>(hblk j).symm⟩⟩⟩;·have hl1:j<HD.lw:=Nat.lt_of_lt_of_le hl (Nat.min_le_left _ _);have hl2:j<H2.lw:=Nat.lt_of_lt_of_le hl (Nat.min_le_right _ _);rw[hB2,gF.keep j (Nat.lt_of_lt_of_le hj hn0) hl2,hMb];exact h.keep j hj hl1
 ·rw[hB2]at hbj;obtain⟨cs0,h0,_⟩:=hback j (Nat.lt_of_lt_of_le hj hn0) sz cs hbj;exact h.back j hj sz cs0 h0
 ·rw[hB2]at hbj;rcases Nat.lt_or_ge j (st i).H.n with hlt|hge
  ·obtain⟨cs0,h0,hLj⟩:=hback j hlt sz cs hbj;rw[hLj];rcases h.newg j hj sz cs0 h0 with h2|⟨i0,sz0,cs1,h1,e1,l1⟩;·exact .inl h2
   ·exact .inr ⟨i0,sz0,cs1,h1,e1,Nat.le_trans (Nat.min_le_left _ _) l1⟩
  ·rcases gF.newg j hge sz cs hbj with h1|⟨i1,sz1,cs1,h1,e1,l1⟩;·exact .inl (Nat.le_trans h.wsize h1)
   ·rw[hMb]at h1;rw[←e1];exact hlift i1 sz1 cs1 h1 l1
 ·rcases gF.frame g (Nat.lt_of_lt_of_le hg h.wsize)with h1|⟨i1,sz1,cs1,h1,e1,l1⟩
  ·rcases h.frame g hg with h2|⟨i0,sz0,cs0,h2,e2,l2⟩;·exact .inl (h1.trans h2)
   ·exact .inr ⟨i0,sz0,cs0,h2,e2,Nat.le_trans (Nat.min_le_left _ _) l2⟩
  ·rw[hMb]at h1;rcases hlift i1 sz1 cs1 h1 l1 with h2|⟨i0,sz0,cs0,h2,e2,l2⟩;·rw[e1]at h2;omega
   ·exact .inr ⟨i0,sz0,cs0,h2,e2.trans e1,l2⟩
 ·constructor
  ·rintro(hD1|hD1);·have:=(hD m hm).mp hD1;omega
   ·omega
  ·intro hlt;by_cases e:m=i;·exact .inr e
   ·exact .inl ((hD m hm).mpr (by omega))
theorem opd_vr2{C:Cfg}{S:Nat→Prop}{L:Nat→Loc}(hG:GO C S L){tm:Tr Value}{a:Act}{x:Operand}(ht: ∀t v,x= .tmp t→tm.get t=some v→VR S L v (a.tmps.getD t undef)){v:Value}(h:opd C tm x=some v):VR S L v (a.eval x):=by cases x with
 |tmp t=>exact ht t v rfl h
 |const u=>simp only[opd]at h;cases hp:plain u with|false=>rw[hp]at h;cases h|true=>rw[hp]at h;obtain rfl:=Option.some.inj h;exact Ks hp
 |global g=>simp only[opd]at h;cases hg:Nat.blt g C.ng with|false=>rw[hg]at h;cases h|true=>rw[hg]at h;obtain rfl:=Option.some.inj h;obtain⟨h1,h2,h3⟩:=hG g (by simpa[Nat.blt_eq]using hg);have:=VR.ptr (S:=S) (L:=L) g 0 h1;rw[h2,h3]at this;exact this
 |func f=>obtain rfl:=Option.some.inj h;exact .func _ _ _ _ _ rfl (fun k v v' h1=>by simp at h1) rfl (fun k v v' h1=>by simp at h1)
theorem looks_tmp{o:Oper}{t:Nat}(h:Operand.tmp t∈o.op.operands):t∈o.looksAt ops:=List.mem_append_left _ (List.mem_filterMap.2 ⟨.tmp t,by simpa using h,rfl⟩)
theorem Zo8{o:Oper}{j:Nat}{want:Bool}{d:Tmp}(h:o.guard=some (j,want))(hd:(ops[j]?).bind (·.dst)=some d):d∈o.looksAt ops:=by refine List.mem_append_right _ ?_;rw[h];simp only[hd];simp
theorem ID.step(T:Trace P C call ops st val q ms s s')(hR:RegOk ops)(hcall:Fq P C B call)(hG:GO C S0 L0)(hI0:Inv B S0 L0 (st 0).H w0)(h:ID Df ops st S0 q val B L0 w0 D L HD a w){i:Nat}{o:Oper}(ho:ops[i]?=some o)(hDi: ¬D i)(hpre: ∀m,bef ops i m→D m)(hcl: ∀i m,i<ops.size→D i→bef ops i m→D m){K:Act→World→Prop}{Q:Exit→Act→World→Prop}(hK: ∀L2 HD2 a' w',ID Df ops st S0 q val B L0 w0 (fun m=>D m∨m=i) L2 HD2 a' w'→K a' w'):wpOp P ops Q i K a w:=by
 have hi:=Qf ho;have hlook:=fun{t:Nat} (ht:t∈o.looksAt ops){v:Value} (hv:(st i).tm.get t=some v)=>h.looks T hR ho hDi hpre hcl ht hv;have hGp:GO C (Spre ops st S0 i) L:=hG.mono (fun _ hj=> .inl hj) h.agree;have hopd: ∀x∈o.op.operands,∀u,opd C (st i).tm x=some u→VR (Spre ops st S0 i) L u (a.eval x):=fun x hx u hu=>opd_vr2 hGp (fun t v e hv=>by subst e;exact(hlook (looks_tmp hx) hv).2) hu;have hwant: ∀b,Jh ops (st i).tm o=some b→Region.wanted o (yielded ops a.tmps)=b:=fun b hb=>Fb hb (fun j want d hg hd v hv=>hlook (Zo8 hg hd) hv);unfold wpOp;rw[ho];dsimp only;rcases(T.step i o ho).1 with⟨h1,h2,h3⟩|⟨h1,h2,h3,h4,H2,h5,h6,h7,h8,h9,h10⟩|⟨h1,h2,h3,h4,H2,h5,h6,h7,h8,h9⟩
 ·rcases h3 with⟨h3,h4⟩|⟨h3,h4,h5⟩;·rw[hwant _ h3,if_neg (by simp)];refine hK L HD _ w (h.quiet T hR ho hDi hcl h1 h2 ?_ (by rw[h4];exact Zd4) (Nat.le_refl _) (fun _ _=>rfl) rfl rfl rfl);rintro⟨o',e1,e2,_⟩;rw[ho]at e1;obtain rfl:=Option.some.inj e1;rw[h3]at e2;cases e2
  ·rw[hwant _ h3,if_pos rfl];left;let M0:AH:= { n:=(st ops.size).H.n,lw:=(st ops.size).H.n,t:= .nil };have hM0:Inv B (Spre ops st S0 i) L M0 w:=by refine⟨fun j sz cs hb=>(by cases hb),fun j sz cs hb=>(by cases hb),fun j j' a b c d hb=>(by cases hb),fun j hj=>?_,h.inv.base⟩;show j<(st ops.size).H.n;have:=h.inv.bd j (pre_D (S0:=S0) (st:=st) hR hi hpre j hj);rw[h.hn]at this;exact this
   refine(Uv hcall hGp hM0 hopd (h5 M0)).wp fun v' w' hg=>?_;obtain⟨L',gI,gF,gV⟩:=hg;have hfr: ∀g,g<w.heap.size→w'.heap[g]?=w.heap[g]?:=fun g hg=>by
    rcases gF.frame g hg with e|⟨j,sz,cs,e,_⟩;·exact e
    ·cases e
   refine hK L HD _ w' (h.quiet T hR ho hDi hcl h1 h2 ?_ (v':=v') ?_ gF.size hfr gF.os gF.tape gF.output);·rintro⟨o',e1,_,e3⟩;rw[ho]at e1;obtain rfl:=Option.some.inj e1;rw[h4]at e3;cases e3
   ·refine(gV.mono (S':=Sk ops st S0 i) (L':=L) (fun j hj=>?_) (fun j hj=>(gF.agree j (Vq hj)).symm));rcases Vq hj with e|⟨l,e1,e2⟩;·exact .inl e
    ·exact .inr ⟨l,.inr e1,e2⟩
 ·rw[hwant _ h1,if_pos rfl];left;have hWi:isW ops st i:=⟨o,ho,h1,h2⟩;have hr:R1 ops st S0 q D HD:=by
   rcases h.regime with r|⟨k,r1,r2,r3,r4,r5⟩;·exact r
   ·have hk:k≤i:=by
     rcases Nat.lt_or_ge i k with h'|h';·exact absurd ((r3 i hWi).mpr h') hDi
     ·exact h'
    have:=T.q_mono r2 hk (Nat.le_of_lt hi);rw[h3]at this;cases this
  refine(Uv hcall hGp (ID.sees T hR hI0 h hr hi hpre h3) hopd h5).wp fun v' w' hg=>?_;obtain⟨L2,HD2,hid⟩:=h.grow T hR hI0 hr ho hDi hpre hcl h3 h4 h6 h7 h8 h10 hg;exact hK L2 HD2 _ w' hid
 ·rw[hwant _ h1,if_pos rfl];left;have hWi:isW ops st i:=⟨o,ho,h1,h2⟩;have hbef: ∀m,isW ops st m→m<i→bef ops i m:=fun m ⟨o',e1,e2,e3⟩ hlt=>(Dv h4 e1 (by omega) e3).1 hlt;have hD: ∀m,isW ops st m→(D m↔m<i):=fun m hm=>by
   obtain⟨o',e1,e2,e3⟩:=hm;constructor
   ·intro hDm;rcases Nat.lt_or_ge m i with h'|h';·exact h'
    ·rcases Nat.lt_or_ge i m with h''|h'';·exact absurd (hcl m i (Qf e1) hDm ((Dv h4 e1 (by omega) e3).2 h'')) hDi
     ·obtain rfl:m=i:=by omega
      exact absurd hDm hDi
   ·intro hlt;exact hpre m ((Dv h4 e1 (by omega) e3).1 hlt)
  have hsub:=pre_D (S0:=S0) (st:=st) hR hi hpre;have hGd:GO C (SDs ops st S0 D) L:=hGp.mono hsub (fun _ _=>rfl);refine(Uv hcall hGd (h.seesAll T hI0 hi hD hWi) (fun x hx u hu=>(hopd x hx u hu).mono hsub (fun _ _=>rfl)) h5).wp fun v' w' hg=>?_;obtain⟨L2,HD2,hid⟩:=h.write T hR hI0 ho hDi hcl hD hbef hWi h3 h6 h7 h8 h9 hg;exact hK L2 HD2 _ w' hid
theorem ID.done(T:Trace P C call ops st val q ms s s')(hR:RegOk ops)(hI0:Inv B S0 L0 (st 0).H w0)(h:ID Df ops st S0 q val B L0 w0 D L HD a w)(hD: ∀m,m<ops.size→D m):Ee Df B S0 L0 (st 0).H w0 (st ops.size) a w:=by
 have hall:HD.lw=(st ops.size).H.lw∧ ∀j,HD.blk j=(st ops.size).H.blk j:=by
  rcases h.regime with⟨r1,r2,r3,r4,r5⟩|⟨k,r1,r2,r3,r4,r5⟩
  ·have hqN:q ops.size=false:=T.q_false ops.size (Nat.le_refl _) (fun m hm hw=>r1 m hw (hD m hm));obtain⟨g1,g2,g3⟩:=T.grown (Ze1 hI0) ops.size (Nat.le_refl _) hqN;refine⟨r2.trans g1.symm,fun j=>?_⟩;rcases Nat.lt_or_ge j (st ops.size).H.n with hlt|hge
   ·refine r4 ops.size (Nat.le_refl _) hqN j hlt ?_;rcases Nat.lt_or_ge j (st 0).H.n with h0|h0;·exact .inl h0
    ·obtain⟨m,h1,h2,h3⟩:=T.range h0 (Nat.le_refl _) hlt;exact .inr ⟨m,h1,hD m h1,h2,h3⟩
   ·rw[g2 j hge];refine r3 j fun hl=>?_;rcases hl with hl|⟨l,h1,h2,h3,h4⟩;·have:=T.n_mono (i:=0) (j:=ops.size) (Nat.zero_le _) (Nat.le_refl _);omega
    ·have:=T.n_mono (i:=l+1) (j:=ops.size) (by omega) (Nat.le_refl _);omega
  ·have:=T.still ops.size r1 (Nat.le_refl _) (fun m h1 h2 hw=>by have:=(r3 m hw).mp (hD m h2);omega);rw[this];exact⟨r4,r5⟩
 have hS: ∀j,SDs ops st S0 D j→ext S0 (st 0).H.n (st ops.size).H.n j:=by
  rintro j (h1|⟨l,h1,h2,h3,h4⟩);·exact .inl h1
  ·exact .inr ⟨Nat.le_trans (T.n_mono (Nat.zero_le _) (Nat.le_of_lt h1)) h3,Nat.lt_of_lt_of_le h4 (T.n_mono (by omega) (Nat.le_refl _))⟩
 refine⟨L,⟨h.defers,by rw[h.size,T.k_eq _ (Nat.le_refl _)],fun t v hv=>?_⟩,?_,⟨h.agree,T.n_mono (Nat.zero_le _) (Nat.le_refl _),by rw[←hall.1];exact h.lwle,fun j hj hl=>?_,fun j hj sz cs hb=>?_,fun j hj sz cs hb=>?_,h.os,h.tape,h.output,h.wsize,fun g hg=>?_⟩⟩
 ·rw[T.k_eq _ (Nat.le_refl _)];rcases T.tm ops.size (Nat.le_refl _) t v hv with⟨m,h1,h2,h3,h4⟩|⟨h1,h2⟩
  ·refine⟨T.dst_lt h2,?_⟩;have:=h.v1 m t h1 (hD m h1) h2 (fun m' hm' _ hlt=>h4 m' hlt hm');rw[h3]at this;refine this.mono (fun j hj=>?_) (fun _ _=>rfl);rcases hj with hj|⟨l,hl,h5,h6⟩;·exact .inl hj
   ·rcases Nat.lt_or_ge l ops.size with h'|h';·exact .inr ⟨Nat.le_trans (T.n_mono (Nat.zero_le _) (Nat.le_of_lt h')) h5,Nat.lt_of_lt_of_le h6 (T.n_mono (by omega) (Nat.le_refl _))⟩
    ·rcases hl with hl|hl;·omega
     ·have:=hR.bef_lt l (Xr h1) hl;omega
  ·obtain⟨h3,h4⟩:=h.v0 t v (fun m hm _=>h1 m hm) h2;exact⟨h3,h4.mono (fun _ h=> .inl h) (fun _ _=>rfl)⟩
 ·have:=h.inv.mono (S':=ext S0 (st 0).H.n (st ops.size).H.n) hS (fun j hj=>by
  rw[h.hn];rcases hj with hj|hj;·exact Nat.lt_of_lt_of_le (hI0.bd j hj) (T.n_mono (Nat.zero_le _) (Nat.le_refl _))
  ·exact hj.2);exact this.congr (fun j=>(hall.2 j).symm) h.hn.symm
 ·rw[←hall.2];exact h.keep j hj (by rw[hall.1];exact hl)
 ·rw[←hall.2]at hb;exact h.back j hj sz cs hb
 ·rw[←hall.2]at hb;rcases h.newg j hj sz cs hb with h1|⟨i0,sz0,cs0,h1,h2,h3⟩;·exact .inl h1
  ·exact .inr ⟨i0,sz0,cs0,h1,h2,by rw[←hall.1];exact h3⟩
 ·rcases h.frame g hg with h1|⟨i0,sz0,cs0,h1,h2,h3⟩;·exact .inl h1
  ·exact .inr ⟨i0,sz0,cs0,h1,h2,by rw[←hall.1];exact h3⟩
def Aw(listed:Array Bool):Nat:=listed.toList.count false
theorem undone_set{listed:Array Bool}{i:Nat}(hi:i<listed.size)(h:listed[i]?=some false):Aw (listed.setIfInBounds i true)+1=Aw listed:=by
 unfold Aw;rw[Array.toList_setIfInBounds];have hl:i<listed.toList.length:=by simpa using hi
 have he:listed.toList[i]=false:=by
  have:listed.toList[i]?=some false:=by rw[Array.getElem?_toList];exact h
  rw[List.getElem?_eq_getElem hl]at this;exact Option.some.inj this
 rw[List.count_set hl,he];have hpos:0<listed.toList.count false:=List.count_pos_iff.mpr (he▸List.getElem_mem hl);have e1:(if(false==false)=true then 1 else 0)=1:=rfl;have e2:(if(true==false)=true then 1 else 0)=0:=rfl;rw[e1,e2];omega
theorem draw_any(T:Trace P C call ops st val q ms s s')(hR:RegOk ops)(hcall:Fq P C B call)(hG:GO C S0 L0)(hI0:Inv B S0 L0 (st 0).H w0){Q:Exit→Act→World→Prop}(hQ: ∀a w,Ee Df B S0 L0 (st 0).H w0 (st ops.size) a w→Q .normal a w): ∀(fuel:Nat)(listed:Array Bool)(L:Nat→Loc)(HD:AH)(a:Act)(w:World),listed.size=ops.size→Aw listed=fuel→(∀(i:Nat)(o:Oper),ops[i]?=some o→listed[i]?=some true→ ∀e∈o.after.toList,Region.binds .any e=true→listed[e.on]?=some true)→ID Df ops st S0 q val B L0 w0 (fun m=>listed[m]?=some true) L HD a w→wpAny P .any ops Q fuel listed a w:=by
 have hend: ∀(listed:Array Bool)(L:Nat→Loc)(HD:AH)(a:Act)(w:World),listed.size=ops.size→Region.ready .any ops listed=[]→ID Df ops st S0 q val B L0 w0 (fun m=>listed[m]?=some true) L HD a w→Q .normal a w:=by intro listed L HD a w hsz hr hid;refine hQ a w (hid.done T hR hI0 fun m hm=>?_);induction m using Nat.strongRecOn with
  |_ m ih=>cases hb:listed[m]with|true=>rw[Array.getElem?_eq_getElem (by omega),hb]|false=>exfalso;obtain⟨o,ho⟩:=Xr hm;have:m∈Region.ready .any ops listed:=mem_ready.2 ⟨by simp[Array.getD,hsz,hm,hb],o,ho,fun e he hbe=>by have hlt:=hR.lead m o ho e (by simpa using he) hbe;have:=ih e.on hlt (by omega);simp[Array.getD_eq_getD_getElem?,this]⟩;rw[hr]at this;cases this
 intro fuel;induction fuel with
  |zero=>
   intro listed L HD a w hsz hun hcl hid;have hr:Region.ready .any ops listed=[]:=by cases hr:Region.ready .any ops listed with
    |nil=>rfl
    |cons i r=>
     exfalso;have hi:i∈Region.ready .any ops listed:=by rw[hr];simp
     obtain⟨h1,o,ho,_⟩:=mem_ready.1 hi;have hlt:i<listed.size:=by rw[hsz];exact Qf ho
     have h2:listed.toList[i]'(by simpa using hlt)=false:=by simpa[Array.getD,hlt]using h1
     have:=List.count_pos_iff.mpr (h2▸List.getElem_mem (l:=listed.toList) (n:=i) (by simpa using hlt));unfold Aw at hun;omega
   exact⟨hr,hend listed L HD a w hsz hr hid⟩
  |succ fuel ih=>
   intro listed L HD a w hsz hun hcl hid;refine⟨fun hr=>hend listed L HD a w hsz hr hid,fun i hi=>?_⟩;obtain⟨h1,o,ho,h3⟩:=mem_ready.1 hi;have hlt:i<listed.size:=by rw[hsz];exact Qf ho
   have hfalse:listed[i]?=some false:=by rw[Array.getElem?_eq_getElem hlt];simpa[Array.getD,hlt]using h1
   have hclD: ∀(i:Nat)(o:Oper),ops[i]?=some o→listed[i]?=some true→ ∀e∈o.after.toList,Region.binds .any e=true→listed[e.on]?=some true:=hcl;have h3': ∀e∈o.after.toList,Region.binds .any e=true→listed[e.on]?=some true:=fun e he hb=>by have:=h3 e (by simpa using he) hb;rw[Array.getD_eq_getD_getElem?]at this;cases hx:listed[e.on]? with|none=>rw[hx]at this;simp at this|some b=>rw[hx]at this;simpa using this
   refine hid.step T hR hcall hG hI0 ho (by rw[hfalse];simp) (fun m hm=>?_) (fun j m hj hD hb=>hR.closed (D:=fun m=>listed[m]?=some true) hclD m (Xr hj) hD hb) fun L2 HD2 a' w' hid2=>?_
   ·obtain⟨e,he,hb,h4⟩:=(hR.bef_iff ho).mp hm;have he1:=h3' e he hb;rcases h4 with h4|h4;·rw[←h4];exact he1
    ·have:e.on<ops.size:=by have:=hR.lead i o ho e he hb;have:=Qf ho;omega
     exact hR.closed (D:=fun m=>listed[m]?=some true) hclD m (Xr this) he1 h4
   ·have hset: ∀m,(listed.setIfInBounds i true)[m]?=some true↔(listed[m]?=some true∨m=i):=fun m=>by
     rw[Array.getElem?_setIfInBounds];by_cases e:i=m;·subst e;simp[hlt]
     ·rw[if_neg e];constructor;·exact fun h=> .inl h
      ·rintro(h|h);·exact h
       ·exact absurd h.symm e
    have hfun:(fun m=>(listed.setIfInBounds i true)[m]?=some true)=(fun m=>listed[m]?=some true∨m=i):=by funext m;exact propext (hset m)
    refine ih (listed.setIfInBounds i true) L2 HD2 a' w' (by simp[hsz]) (by have:=undone_set hlt hfalse;omega) (fun k ok hk hD e he hb=>?_) (by rw[hfun];exact hid2);rw[hset]at hD⊢;rcases hD with hD|hD;·exact .inl (hcl k ok hk hD e he hb)
    ·subst hD;rw[ho]at hk;obtain rfl:=Option.some.inj hk;exact .inl (h3' e he hb)
end
theorem evRegionD_ops{Df:List Deferred}{P:Program}{C:Cfg}{call:FuncId→List Value→AH→Option (Value×AH)}{B:Nat}(hm:P.follows .mixedOrders=true)(hcall:Fq P C B call){ops:Array Oper}{draw:Bool}{s s':St}(h:Ul P C call ops draw s=some s'){S:Nat→Prop}{L:Nat→Loc}{a:Act}{w:World}(hG:GO C S L)(hA:AI Df S L s.k s.tm a)(hI:Inv B S L s.H w){Q:Exit→Act→World→Prop}(hQ: ∀a' w',Ee Df B S L s.H w s' a' w'→Q .normal a' w'):Bf P ops draw Q a w:=by unfold Ul at h;cases draw with
 |false=>rw[cond_false]at h;show wpOps P ops Q _ a w;have:=Zn1 (Q:=Q) hcall ops.toList 0 s s' S L a w hG (fun j=>by simp) h hA hI hQ;rw[List.range_eq_range'];simpa using this
 |true=>rw[cond_true]at h;cases hr:Gy ops with
  |false=>rw[hr]at h;cases h
  |true=>
   rw[hr,cond_true]at h;have hR:=Zi0 hr;obtain⟨st,val,q,ms,e1,e2,e3,e4,e5⟩:=Zj8 ops.toList 0 false [] s s' h (fun j=>by simp);have hN:st ops.size=s':=by rw[←e4];simp
   have T:Trace P C call ops st val q ms s s':=⟨e1,hN,e2,e3,fun i o ho=>e5 i o (Nat.zero_le _) ho⟩;subst e1;show wpAny P .any ops Q _ _ a _;let w1:World:= { w with drawn:=w.drawn+1 };have hI1:Inv B S L (st 0).H w1:=hI.heap rfl;refine draw_any (Df:=Df) T hR hcall hG hI1 (fun a' w' hd=>hQ a' w' ?_) ops.size _ L { n:=(st ops.size).H.n,lw:=(st 0).H.lw,t:=(st 0).H.t } a w1 (by simp) (by simp[Aw]) (fun i o ho hl=>by have:i<ops.size:=Qf ho;simp[this]at hl) ?_;·rw[hN]at hd;obtain⟨L',d1,d2,d3⟩:=hd;exact⟨L',d1,d2,⟨d3.agree,d3.n,d3.lw,d3.keep,d3.back,d3.newg,d3.os,d3.tape,d3.output,d3.size,d3.frame⟩⟩
   ·have hnone: ∀m,¬ ((Array.replicate ops.size false)[m]?=some true):=fun m hm=>by
     rw[Array.getElem?_replicate]at hm;split at hm;·cases hm
     ·cases hm
    have hb: ∀j,({ n:=(st ops.size).H.n,lw:=(st 0).H.lw,t:=(st 0).H.t } :AH).blk j=(st 0).H.blk j:=fun j=>rfl;have hsd: ∀j,SDs ops st S (fun m=>(Array.replicate ops.size false)[m]?=some true) j↔S j:=fun j=>by
     constructor
     ·rintro(h1|⟨l,_,h2,_⟩);·exact h1
      ·exact absurd h2 (hnone l)
     ·exact fun h=> .inl h
    refine⟨fun _ _=>rfl,?_,rfl,fun j _ _=>hb j,fun j _ sz cs hj=>⟨cs,hj⟩,fun j hj sz cs hbj=>absurd (hI1.lt hbj) (by omega),rfl,rfl,rfl,Nat.le_refl _,fun g _=> .inl rfl,Nat.le_refl _,hA.defers,hA.size,fun t v _ hv=>hA.tmp t v hv,fun m t _ hm=>absurd hm (hnone m),.inl ⟨fun m _ hm=>absurd hm (hnone m),rfl,fun j hj=>?_,fun i hi hq j hj hl=>?_,fun m _ hm=>absurd hm (hnone m)⟩⟩;·have:=hI1.mono (S':=SDs ops st S (fun m=>(Array.replicate ops.size false)[m]?=some true)) (fun j hj=>(hsd j).mpr hj) (fun j hj=>hI1.bd j ((hsd j).mp hj));exact⟨this.ro,this.rw,this.dj,fun j hj=>Nat.lt_of_lt_of_le (hI1.bd j ((hsd j).mp hj)) (T.n_mono (Nat.zero_le _) (Nat.le_refl _)),this.base⟩
    ·rw[hb];exact Ze1 hI1 j (by
     rcases Nat.lt_or_ge j (st 0).H.n with h'|h';·exact absurd (.inl h') hj
     ·exact h')
    ·rw[hb];rcases hl with hl|⟨l,_,hl,_⟩;·exact((T.grown (Ze1 hI1) i hi hq).2.2 0 (Nat.zero_le _) j hl).symm
     ·exact absurd hl (hnone l)
section
variable (P : Program) (C : Cfg) (call : FuncId → List Value → AH → Option (Value × AH)) (ops : Array Oper) (st : Nat → St) (val : Nat → Value) (ft : Nat → Option (Nat × Bool)) (fs : Nat → List (Nat × Nat × Bool))
def MQuiet(i:Nat)(o:Oper):Prop:=ft i=none∧(st (i+1)).H=(st i).H∧((Jh ops (st i).tm o=some false∧val i=undef)∨(Jh ops (st i).tm o=some true∧ ∀H0,Yk P C call (st i).tm H0 o.op=some (val i,H0)))
def MRead(i:Nat)(o:Oper):Prop:= ∃t x b off,o.op= .load t x∧Jh ops (st i).tm o=some true∧opd C (st i).tm x=some (.pointer (some ⟨b,off,none⟩))∧Ys P (st i).H t (.pointer (some ⟨b,off,none⟩))=some (val i)∧(st (i+1)).H=(st i).H∧ft i=some (b,false)
def MWrite(i:Nat)(o:Oper):Prop:= ∃t x y b off v,o.op= .store t x y∧Jh ops (st i).tm o=some true∧opd C (st i).tm x=some (.pointer (some ⟨b,off,none⟩))∧opd C (st i).tm y=some v∧Xt P (st i).H t (.pointer (some ⟨b,off,none⟩)) v=some (st (i+1)).H∧val i=undef∧ft i=some (b,true)
def MFull(i:Nat)(o:Oper):Prop:=(MQuiet P C call ops st val ft i o∨MRead P C ops st val ft i o∨MWrite P C ops st val ft i o)∧(st i).put o.dst (val i) (st (i+1)).H=some (st (i+1))∧(fs (i+1)=match ft i with|none=>fs i|some (b,w)=>(i,b,w)::fs i)∧ ∀b w,ft i=some (b,w)→Ki ((before ops).getD i 0) b w (fs i)=true
structure MTrace (s s' : St) : Prop where
  start : st 0 = s
  stop : st ops.size = s'
  f0 : fs 0 = []
  step : ∀ i o, ops[i]? = some o → MFull P C call ops st val ft fs i o
end
theorem Zo4{P:Program}{C:Cfg}{call:FuncId→List Value→AH→Option (Value×AH)}{ops:Array Oper} : ∀(l:List Oper)(i:Nat)(f0:List (Nat×Nat×Bool))(s s':St),Kh P C call ops i f0 l s=some s'→(∀j,l[j]?=ops[i+j]?)→ ∃(st:Nat→St) (val:Nat→Value) (ft:Nat→Option (Nat×Bool)) (fs:Nat→List (Nat×Nat×Bool)),st i=s∧fs i=f0∧st (i+l.length)=s'∧ ∀k o,i≤k→ops[k]?=some o→MFull P C call ops st val ft fs k o
 |[],i,f0,s,s',h,hl=>by simp only[Kh]at h;obtain rfl:=Option.some.inj h;refine⟨fun _=>s,fun _=>undef,fun _=>none,fun _=>f0,rfl,rfl,rfl,fun k o hk ho=>?_⟩;have:=hl (k-i);rw[show i+(k-i)=k by omega,ho]at this;simp at this
 |o::rest,i,f0,s,s',h,hl=>by
  have h0:ops[i]?=some o:=by simpa using(hl 0).symm
  have hl': ∀j,rest[j]?=ops[i+1+j]?:=fun j=>by have:=hl (j+1);simpa[Nat.add_assoc,Nat.add_comm 1 j]using this
  have glue: ∀(v:Value)(t1:Option (Nat×Bool))(f1:List (Nat×Nat×Bool))(s1:St),Kh P C call ops (i+1) f1 rest s1=some s'→(∀(st:Nat→St)(val:Nat→Value)(ft:Nat→Option (Nat×Bool))(fs:Nat→List (Nat×Nat×Bool)),st i=s→st (i+1)=s1→val i=v→ft i=t1→fs i=f0→fs (i+1)=f1→MFull P C call ops st val ft fs i o)→ ∃(st:Nat→St) (val:Nat→Value) (ft:Nat→Option (Nat×Bool)) (fs:Nat→List (Nat×Nat×Bool)),st i=s∧fs i=f0∧st (i+(o::rest).length)=s'∧ ∀k o,i≤k→ops[k]?=some o→MFull P C call ops st val ft fs k o:=by
   intro v t1 f1 s1 hr hf;obtain⟨st,val,ft,fs,e1,e3,e4,e5⟩:=Zo4 rest (i+1) f1 s1 s' hr hl';refine⟨fun k=>if k=i then s else st k,fun k=>if k=i then v else val k,fun k=>if k=i then t1 else ft k,fun k=>if k=i then f0 else fs k,by simp,by simp,?_,fun k o' hk ho=>?_⟩
   ·have e6:i+(o::rest).length=i+1+rest.length:=by simp;omega
    have e7:i+1+rest.length≠i:=by omega
    show(if i+(o::rest).length=i then s else st (i+(o::rest).length))=s';rw[e6,if_neg e7];exact e4
   ·by_cases hki:k=i;·subst hki;rw[h0]at ho;obtain rfl:=Option.some.inj ho;exact hf _ _ _ _ (by simp) (by simp[e1]) (by simp) (by simp) (by simp) (by simp[e3])
    ·have:=e5 k o' (by omega) ho;have hk1:k+1≠i:=by omega
     unfold MFull MQuiet MRead MWrite at this⊢;simp only[if_neg hki,if_neg hk1];exact this
  simp only[Kh]at h;split at h<;>first|(cases h;done)|skip
  ·rename_i hw;split at h<;>first|(cases h;done)|skip
   ·rename_i hmf;split at h<;>first|(cases h;done)|skip
    rename_i v H1 hop;split at h<;>first|(cases h;done)|skip
    rename_i s1 hput;obtain⟨eH,ek,_⟩:=Jo hput;have hh:Zy o.op=false:=by
     unfold Ua at hmf;split at hmf;·split at hmf<;>cases hmf
     ·split at hmf<;>cases hmf
     ·cases e:Zy o.op with|false=>rfl|true=>rw[e]at hmf;cases hmf
    refine glue v none f0 s1 h fun st val ft fs a1 a2 a3 a4 a5 a6=>⟨.inl ⟨a4,by rw[a1,a2,eH],.inr ⟨by rw[a1];exact hw,fun H0=>by rw[a1,a3];exact Dt hh hop H0⟩⟩,by rw[a1,a2,a3,eH];exact hput,by rw[a4,a5,a6],fun b w e=>by rw[a4]at e;cases e⟩
   ·rename_i b w hmf;cases hc:Ki ((before ops).getD i 0) b w f0 with
    |false=>rw[hc]at h;cases h
    |true=>
     rw[hc,cond_true]at h;split at h<;>first|(cases h;done)|skip
     rename_i v H1 hop;split at h<;>first|(cases h;done)|skip
     rename_i s1 hput;obtain⟨eH,ek,_⟩:=Jo hput;refine glue v (some (b,w)) _ s1 h fun st val ft fs a1 a2 a3 a4 a5 a6=>⟨?_,by rw[a1,a2,a3,eH];exact hput,by rw[a4,a5,a6],fun b' w' e=>by rw[a4]at e;cases e;rw[a5];exact hc⟩;unfold Ua at hmf;split at hmf
     ·rename_i t x e;split at hmf<;>first|(cases hmf;done)|skip
      rename_i b' off hx;cases hmf;rw[e]at hop;simp only[Yk,Yz,Yj,hx]at hop;split at hop<;>first|(cases hop;done)|skip
      rename_i v' hv;cases hop;exact .inr (.inl ⟨t,x,b,off,e,by rw[a1];exact hw,by rw[a1];exact hx,by rw[a1,a3];exact hv,by rw[a1,a2,eH],a4⟩)
     ·rename_i t x y e;split at hmf<;>first|(cases hmf;done)|skip
      rename_i b' off hx;cases hmf;rw[e]at hop;simp only[Yk,Yz,Yj,hx]at hop;split at hop<;>first|(cases hop;done)|skip
      rename_i a' b' e1 hy;split at hop<;>first|(cases hop;done)|skip
      rename_i H' hst;cases hop;cases e1;exact .inr (.inr ⟨t,x,y,b,off,_,e,by rw[a1];exact hw,by rw[a1];exact hx,by rw[a1];exact hy,by rw[a1,a2,eH];exact hst,a3,a4⟩)
     ·cases e:Zy o.op with|false=>rw[e]at hmf;cases hmf|true=>rw[e]at hmf;cases hmf
  ·rename_i hw;split at h<;>first|(cases h;done)|skip
   rename_i s1 hput;obtain⟨eH,ek,_⟩:=Jo hput;exact glue undef none f0 s1 h fun st val ft fs a1 a2 a3 a4 a5 a6=>⟨.inl ⟨a4,by rw[a1,a2,eH],.inl ⟨by rw[a1];exact hw,a3⟩⟩,by rw[a1,a2,a3,eH];exact hput,by rw[a4,a5,a6],fun b w e=>by rw[a4]at e;cases e⟩
theorem loadV_blk{P:Program}{H H2:AH}{t:TypeId}{b off:Nat}(h:H2.blk b=H.blk b):Ys P H2 t (.pointer (some ⟨b,off,none⟩))=Ys P H t (.pointer (some ⟨b,off,none⟩)):=by
 have hc:H2.cells b=H.cells b:=by unfold AH.cells;rw[h]
 have hr: ∀n,H2.read b off n=H.read b off n:=fun n=>by unfold AH.read;rw[hc]
 simp only[Ys,hc,hr]
theorem write_blk{H H2 H':AH}{b off:Nat}{vs:List Value}(h:H2.blk b=H.blk b)(hw:H.write b off vs=some H'): ∃H2',H2.write b off vs=some H2'∧H2'.blk b=H'.blk b∧(∀j,j≠b→H2'.blk j=H2.blk j∧H'.blk j=H.blk j)∧H2'.n=H2.n∧H'.n=H.n∧H2'.lw=min H2.lw b∧H'.lw=min H.lw b:=by
 rw[AH.write_def]at hw⊢;rw[h];split at hw<;>first|(cases hw;done)|skip
 rename_i sz cs e;cases hb:(Nat.ble (off+vs.length) cs.length&&vs.all one)with
  |false=>rw[hb]at hw;cases hw
  |true=>
   rw[hb,cond_true]at hw;obtain rfl:=Option.some.inj hw;refine⟨{ n:=H2.n,lw:=min H2.lw b,t:=H2.t.set b (.rw (sz+1) (cs.take off++vs++cs.drop (off+vs.length))) },?_,?_,fun j hj=>⟨?_,?_⟩,rfl,rfl,rfl,rfl⟩;·rfl
   ·unfold AH.blk;simp only[Tr.get_set,if_true]
   ·unfold AH.blk;simp only[Tr.get_set,if_neg hj]
   ·unfold AH.blk;simp only[Tr.get_set,if_neg hj]
theorem Au{P:Program}{H H2 H':AH}{t:TypeId}{b off:Nat}{v:Value}(h:H2.blk b=H.blk b)(hw:Xt P H t (.pointer (some ⟨b,off,none⟩)) v=some H'): ∃H2',Xt P H2 t (.pointer (some ⟨b,off,none⟩)) v=some H2'∧H2'.blk b=H'.blk b∧(∀j,j≠b→H2'.blk j=H2.blk j∧H'.blk j=H.blk j)∧H2'.n=H2.n∧H'.n=H.n∧H2'.lw=min H2.lw b∧H'.lw=min H.lw b:=by
 simp only[Xt]at hw⊢;split at hw<;>first|(cases hw;done)|skip
 rename_i n e;cases hb:Nat.beq v.cells.size n with|false=>rw[hb]at hw;cases hw|true=>rw[hb,cond_true]at hw;rw[cond_true];exact write_blk h hw
section
variable {Df : List Deferred} {P : Program} {C : Cfg} {call : FuncId → List Value → AH → Option (Value × AH)} {ops : Array Oper} {st : Nat → St} {val : Nat → Value} {ft : Nat → Option (Nat × Bool)} {fs : Nat → List (Nat × Nat × Bool)} {s s' : St}
theorem MTrace.fs_iff(T:MTrace P C call ops st val ft fs s s'): ∀(i:Nat),i≤ops.size→ ∀k b w,(k,b,w)∈fs i↔k<i∧ft k=some (b,w)
 |0,_,k,b,w=>by rw[T.f0];simp
 |i+1,hi',k,b,w=>by obtain⟨o,ho⟩:=Xr (ops:=ops) (i:=i) (by omega);have ih:=T.fs_iff i (by omega) k b w;have hs:=(T.step i o ho).2.2.1;cases hf:ft i with
  |none=>
   rw[hf]at hs;simp only at hs;rw[hs,ih];constructor;·rintro⟨h1,h2⟩;exact⟨by omega,h2⟩
   ·rintro⟨h1,h2⟩;have:k≠i:=by rintro rfl;rw[hf]at h2;cases h2
    exact⟨by omega,h2⟩
  |some x=>
   obtain⟨b',w'⟩:=x;rw[hf]at hs;simp only at hs;rw[hs,List.mem_cons,ih];constructor
   ·rintro(h|⟨h1,h2⟩);·injection h with h1 h2;injection h2 with h2 h3;subst h1;subst h2;subst h3;exact⟨by omega,hf⟩
    ·exact⟨by omega,h2⟩
   ·rintro⟨h1,h2⟩;by_cases hk:k=i;·subst hk;rw[hf]at h2;cases h2;exact .inl rfl
    ·exact .inr ⟨by omega,h2⟩
theorem Zl4{bits b:Nat}{w:Bool} : ∀{l:List (Nat×Nat×Bool)},Ki bits b w l=true→ ∀k w',(k,b,w')∈l→(w||w')=true→bits.testBit k=true
 |[],_,k,w',h,_=>by cases h
 |(k0,b0,w0)::r,h,k,w',hm,hw=>by
  simp only[Ki,Bool.and_eq_true,Bool.or_eq_true,Bool.not_eq_true']at h;rcases List.mem_cons.mp hm with h1|h1
  ·injection h1 with h1 h2;injection h2 with h2 h3;subst h1;subst h2;subst h3;rcases h.1 with(h4|h4)|h4;·rw[Nat.beq_refl]at h4;cases h4
   ·rw[h4]at hw;cases hw
   ·exact h4
  ·exact Zl4 h.2 k w' h1 hw
theorem MTrace.order(T:MTrace P C call ops st val ft fs s s'){i k b:Nat}{w w':Bool}(hi:i<ops.size)(hk:k<i)(h1:ft k=some (b,w'))(h2:ft i=some (b,w))(hw:(w||w')=true):bef ops i k:=by obtain⟨o,ho⟩:=Xr hi;have:=(T.step i o ho).2.2.2 b w h2;exact Zl4 this k w' ((T.fs_iff i (Nat.le_of_lt hi) k b w').mpr ⟨hk,h1⟩) hw
theorem MTrace.n_eq(T:MTrace P C call ops st val ft fs s s'): ∀(i:Nat),i≤ops.size→(st i).H.n=(st 0).H.n
 |0,_=>rfl
 |i+1,hi=>by
  obtain⟨o,ho⟩:=Xr (ops:=ops) (i:=i) (by omega);have ih:=T.n_eq i (by omega);rcases(T.step i o ho).1 with h|⟨_,_,_,_,_,_,_,_,h,_⟩|⟨_,_,_,_,_,_,_,_,_,_,h,_⟩;·rw[h.2.1];exact ih
  ·rw[h];exact ih
  ·obtain⟨_,_,_,_,_,e,_⟩:=Au (H2:=(st i).H) rfl h;rw[e];exact ih
theorem MTrace.still(T:MTrace P C call ops st val ft fs s s'){h j:Nat} : ∀(i:Nat),h≤i→i≤ops.size→(∀m,h≤m→m<i→ft m≠some (j,true))→(st i).H.blk j=(st h).H.blk j
 |0,h1,_,_=>by
  obtain rfl:h=0:=by omega
  rfl
 |i+1,h1,hi,hn=>by
  rcases Nat.lt_or_ge h (i+1)with h'|h'
  ·have ih:=T.still i (by omega) (by omega) (fun m a b=>hn m a (by omega));obtain⟨o,ho⟩:=Xr (ops:=ops) (i:=i) (by omega);rcases(T.step i o ho).1 with h2|⟨_,_,_,_,_,_,_,_,h2,_⟩|⟨_,_,_,b,_,_,_,_,_,_,h2,_,h3⟩;·rw[h2.2.1];exact ih
   ·rw[h2];exact ih
   ·obtain⟨_,_,_,e,_⟩:=Au (H2:=(st i).H) rfl h2;have hb:j≠b:=by rintro rfl;exact hn i (by omega) (by omega) h3
    rw[(e j hb).2];exact ih
  ·obtain rfl:h=i+1:=by omega
   rfl
theorem MTrace.lw_iff(T:MTrace P C call ops st val ft fs s s'): ∀(i:Nat),i≤ops.size→ ∀x,x≤(st i).H.lw↔(x≤(st 0).H.lw∧ ∀m b,m<i→ft m=some (b,true)→x≤b)
 |0,_,x=>⟨fun h=>⟨h,fun m b hm=>by omega⟩,fun h=>h.1⟩
 |i+1,hi,x=>by
  obtain⟨o,ho⟩:=Xr (ops:=ops) (i:=i) (by omega);have ih:=T.lw_iff i (by omega) x;have skip:(st (i+1)).H.lw=(st i).H.lw→(∀b,ft i≠some (b,true))→(x≤(st (i+1)).H.lw↔(x≤(st 0).H.lw∧ ∀m b,m<i+1→ft m=some (b,true)→x≤b)):=fun e hf=>by
   rw[e,ih];refine⟨fun⟨h1,h2⟩=>⟨h1,fun m b hm hb=>?_⟩,fun⟨h1,h2⟩=>⟨h1,fun m b hm hb=>h2 m b (by omega) hb⟩⟩;by_cases e:m=i;·subst e;exact absurd hb (hf b)
   ·exact h2 m b (by omega) hb
  rcases(T.step i o ho).1 with h2|⟨_,_,_,_,_,_,_,_,h2,h3⟩|⟨_,_,_,b,_,_,_,_,_,_,h2,_,h3⟩;·exact skip (by rw[h2.2.1]) (fun b e=>by rw[h2.1]at e;cases e)
  ·exact skip (by rw[h2]) (fun b e=>by rw[h3]at e;cases e)
  ·obtain⟨_,_,_,_,_,_,_,e⟩:=Au (H2:=(st i).H) rfl h2;rw[e,Nat.le_min,ih];refine⟨fun⟨⟨h4,h5⟩,h6⟩=>⟨h4,fun m b' hm hb=>?_⟩,fun⟨h4,h5⟩=>⟨⟨h4,fun m b' hm hb=>h5 m b' (by omega) hb⟩,h5 i b (by omega) h3⟩⟩;by_cases e:m=i;·subst e;rw[h3]at hb;cases hb;exact h6
   ·exact h5 m b' (by omega) hb
theorem MTrace.k_eq(T:MTrace P C call ops st val ft fs s s'): ∀(i:Nat),i≤ops.size→(st i).k=(st 0).k|0,_=>rfl|i+1,hi=>by obtain⟨o,ho⟩:=Xr (ops:=ops) (i:=i) (by omega);obtain⟨_,h,_⟩:=Jo (T.step i o ho).2.1;exact h.trans (T.k_eq i (by omega))
theorem MTrace.dst_lt(T:MTrace P C call ops st val ft fs s s'){m:Nat}{t:Nat}(h:Ql ops m=some t):t<(st 0).k:=by unfold Ql at h;cases ho:ops[m]? with
 |none=>rw[ho]at h;cases h
 |some o=>
  rw[ho]at h;obtain⟨_,_,h1⟩:=Jo (T.step m o ho).2.1;have hd:o.dst=some t:=h;rcases h1 with⟨h1,_⟩|⟨d,h1,h2,_⟩;·rw[h1]at hd;cases hd
  ·rw[h1]at hd;obtain rfl:=Option.some.inj hd;rw[T.k_eq m (Nat.le_of_lt (Qf ho))]at h2;exact h2
theorem MTrace.tm(T:MTrace P C call ops st val ft fs s s'): ∀(i:Nat),i≤ops.size→ ∀t v,(st i).tm.get t=some v→(∃m,m<i∧Ql ops m=some t∧val m=v∧ ∀m',m<m'→m'<i→Ql ops m'≠some t)∨((∀m,m<i→Ql ops m≠some t)∧(st 0).tm.get t=some v)
 |0,_,t,v,h=> .inr ⟨fun m hm=>by omega,h⟩
 |i+1,hi,t,v,h=>by
  obtain⟨o,ho⟩:=Xr (ops:=ops) (i:=i) (by omega);have hd:Ql ops i=o.dst:=by simp[Ql,ho]
  obtain⟨_,_,h1⟩:=Jo (T.step i o ho).2.1;have old:Ql ops i≠some t→(st i).tm.get t=some v→(∃m,m<i+1∧Ql ops m=some t∧val m=v∧ ∀m',m<m'→m'<i+1→Ql ops m'≠some t)∨((∀m,m<i+1→Ql ops m≠some t)∧(st 0).tm.get t=some v):=fun hne hold=>by
   rcases T.tm i (by omega) t v hold with⟨m,a1,a2,a3,a4⟩|⟨a1,a2⟩
   ·refine .inl ⟨m,by omega,a2,a3,fun m' h1 h2=>?_⟩;by_cases e:m'=i;·subst e;exact hne
    ·exact a4 m' h1 (by omega)
   ·refine .inr ⟨fun m hm=>?_,a2⟩;by_cases e:m=i;·subst e;exact hne
    ·exact a1 m (by omega)
  rcases h1 with⟨h1,h2⟩|⟨d,h1,h2,h3⟩;·rw[h2]at h;exact old (by rw[hd,h1];simp) h
  ·rw[h3,Tr.get_set]at h;split at h;·rename_i e;subst e;obtain rfl:=Option.some.inj h;exact .inl ⟨i,by omega,by rw[hd,h1],rfl,fun m' _ _=>by omega⟩
   ·rename_i e;exact old (by rw[hd,h1];intro h';injection h' with h';exact e h'.symm) h
end
structure MD (Df : List Deferred) (ops : Array Oper) (st : Nat → St) (ft : Nat → Option (Nat × Bool)) (val : Nat → Value) (B : Nat) (S0 : Nat → Prop) (L0 : Nat → Loc) (w0 : World) (D : Nat → Prop) (HD : AH) (a : Act) (w : World) : Prop where
  inv : Inv B S0 L0 HD w
  hn : HD.n = (st 0).H.n
  fr : Fr S0 L0 (st 0).H w0 L0 HD w
  lw : ∀ x, x ≤ HD.lw ↔ (x ≤ (st 0).H.lw ∧ ∀ m b, m < ops.size → D m → ft m = some (b, true) → x ≤ b)
  blk : ∀ j h, h ≤ ops.size → (∀ m, m < ops.size → ft m = some (j, true) → (D m ↔ m < h)) → HD.blk j = (st h).H.blk j
  defers : a.defers = Df
  size : a.tmps.size = (st 0).k
  v0 : ∀ t v, (∀ m, m < ops.size → D m → Ql ops m ≠ some t) → (st 0).tm.get t = some v → t < (st 0).k ∧ VR S0 L0 v (a.tmps.getD t undef)
  v1 : ∀ m t, m < ops.size → D m → Ql ops m = some t → (∀ m', m' < ops.size → D m' → m < m' → Ql ops m' ≠ some t) → VR S0 L0 (val m) (a.tmps.getD t undef)
theorem Inv.reloc{B:Nat}{S S':Nat→Prop}{L L':Nat→Loc}{H:AH}{w:World}(hI:Inv B S' L' H w)(hS: ∀i,S' i↔S i)(hL: ∀i,S i→L' i=L i):Inv B S L H w:=by
 refine⟨fun i sz cs h=>?_,fun i sz cs h=>?_,fun i j a b c d h h' e=>?_,fun i h=>hI.bd i ((hS i).mpr h),hI.base⟩;·obtain⟨h1,h2,h3,h4⟩:=hI.ro i sz cs h;have hs:=(hS i).mp h1;rw[hL i hs]at h2 h3 h4;exact⟨hs,h2,h3,fun k v hk=>by obtain⟨v',h5,h6⟩:=h4 k v hk;exact⟨v',h5,h6.mono (fun j hj=>(hS j).mp hj) (fun j hj=>(hL j ((hS j).mp hj)).symm)⟩⟩
 ·obtain⟨h1,h2,h3,C,e,h4,h5,h6⟩:=hI.rw i sz cs h;have hs:=(hS i).mp h1;rw[hL i hs]at h2 h3 h4 h5 h6;exact⟨hs,h2,h3,C,e,h4,h5,fun k v hk=>by obtain⟨v',h7,h8⟩:=h6 k v hk;exact⟨v',h7,h8.mono (fun j hj=>(hS j).mp hj) (fun j hj=>(hL j ((hS j).mp hj)).symm)⟩⟩
 ·have h1:=(hS i).mp (hI.rw i _ _ h).1;have h2:=(hS j).mp (hI.rw j _ _ h').1;exact hI.dj i j a b c d h h' (by rw[hL i h1,hL j h2];exact e)
theorem Fr.reloc{B:Nat}{S:Nat→Prop}{L L':Nat→Loc}{H H':AH}{w w':World}(hF:Fr S L H w L' H' w')(hI:Inv B S L H' w')(hb: ∀i,S i→i<H.n):Fr S L H w L H' w':=⟨fun _ _=>rfl,hF.n,hF.lw,hF.keep,hF.back,fun i hi sz cs h=>absurd (hb i (hI.rw i sz cs h).1) (by omega),hF.os,hF.tape,hF.output,hF.size,hF.frame⟩
section
variable {Df : List Deferred} {P : Program} {C : Cfg} {call : FuncId → List Value → AH → Option (Value × AH)} {ops : Array Oper} {st : Nat → St} {val : Nat → Value} {ft : Nat → Option (Nat × Bool)} {fs : Nat → List (Nat × Nat × Bool)} {s s' : St}
variable {B : Nat} {S0 : Nat → Prop} {L0 : Nat → Loc} {w0 : World} {D : Nat → Prop} {HD : AH} {a : Act} {w : World}
theorem MD.looks(T:MTrace P C call ops st val ft fs s s')(hR:RegOk ops)(h:MD Df ops st ft val B S0 L0 w0 D HD a w){i:Nat}{o:Oper}(ho:ops[i]?=some o)(hDi: ¬D i)(hpre: ∀m,bef ops i m→D m)(hcl: ∀i m,i<ops.size→D i→bef ops i m→D m){t:Nat}(ht:t∈o.looksAt ops){v:Value}(hv:(st i).tm.get t=some v):t<a.tmps.size∧VR S0 L0 v (a.tmps.getD t undef):=by
 have hi:=Qf ho;have later: ∀m',m'<ops.size→D m'→i<m'→Ql ops m'≠some t:=fun m' hm' hD' hlt e=>by
  obtain⟨o',ho'⟩:=Xr hm';rcases hR.apart i m' o o' ho ho' hlt with h1|h1;·exact hDi (hcl m' i hm' hD' h1)
  ·exact(Oper.apart_spec h1).2.2 t (by simpa[Ql,ho']using e) ht
 rw[h.size];rcases T.tm i (Nat.le_of_lt hi) t v hv with⟨m,h1,h2,h3,h4⟩|⟨h1,h2⟩
 ·obtain⟨om,hom⟩:=Xr (ops:=ops) (i:=m) (by omega);have hb:bef ops i m:=by
   rcases hR.apart m i om o hom ho h1 with h5|h5;·exact h5
   ·exact absurd ht ((Oper.apart_spec h5).1 t (by simpa[Ql,hom]using h2))
  refine⟨T.dst_lt h2,?_⟩;have:=h.v1 m t (by omega) (hpre m hb) h2 (fun m' hm' hD' hlt=>by
   rcases Nat.lt_or_ge m' i with h6|h6;·exact h4 m' hlt h6
   ·rcases Nat.lt_or_ge i m' with h7|h7;·exact later m' hm' hD' h7
    ·obtain rfl:m'=i:=by omega
     exact absurd hD' hDi);rw[h3]at this;exact this
 ·exact h.v0 t v (fun m hm hD'=>by
  rcases Nat.lt_or_ge m i with h6|h6;·exact h1 m h6
  ·rcases Nat.lt_or_ge i m with h7|h7;·exact later m hm hD' h7
   ·obtain rfl:m=i:=by omega
    exact absurd hD' hDi) h2
theorem mput_getD{i:Nat}{o:Oper}(T:MTrace P C call ops st val ft fs s s')(ho:ops[i]?=some o)(hsz:a.tmps.size=(st 0).k)(v':Value)(t:Nat):(a.put o.dst v').tmps.getD t undef=if Ql ops i=some t then v' else a.tmps.getD t undef:=by
 have hd:Ql ops i=o.dst:=by simp[Ql,ho]
 rw[hd];cases hdst:o.dst with
  |none=>simp[Act.put]
  |some d=>
   simp only[Act.put];by_cases e:d=t;·subst e;rw[if_pos rfl,Ba _ _ _ _ (by rw[hsz];exact T.dst_lt (by rw[hd,hdst]))]
   ·rw[if_neg (by intro h;injection h with h;exact e h),Af _ _ _ _ _ e]
theorem MD.slots(T:MTrace P C call ops st val ft fs s s')(hR:RegOk ops)(h:MD Df ops st ft val B S0 L0 w0 D HD a w){i:Nat}{o:Oper}(ho:ops[i]?=some o)(hDi: ¬D i)(hcl: ∀i m,i<ops.size→D i→bef ops i m→D m){v':Value}(hv:VR S0 L0 (val i) v'):(a.put o.dst v').defers=Df∧(a.put o.dst v').tmps.size=(st 0).k∧(∀t v,(∀m,m<ops.size→(D m∨m=i)→Ql ops m≠some t)→(st 0).tm.get t=some v→t<(st 0).k∧VR S0 L0 v ((a.put o.dst v').tmps.getD t undef))∧(∀m t,m<ops.size→(D m∨m=i)→Ql ops m=some t→(∀m',m'<ops.size→(D m'∨m'=i)→m<m'→Ql ops m'≠some t)→VR S0 L0 (val m) ((a.put o.dst v').tmps.getD t undef)):=by
 have hi:=Qf ho;refine⟨?_,?_,fun t v h1 h2=>?_,fun m t hm hD hd hlast=>?_⟩;·have:=h.defers;cases hdst:o.dst<;>simp[Act.put,this]
 ·have:=h.size;cases hdst:o.dst<;>simp[Act.put,this]
 ·rw[mput_getD T ho h.size,if_neg (h1 i hi (.inr rfl))];exact h.v0 t v (fun m hm hD=>h1 m hm (.inl hD)) h2
 ·rw[mput_getD T ho h.size];by_cases hmi:m=i;·subst hmi;rw[if_pos hd];exact hv
  ·have hDm:D m:=hD.resolve_right hmi;have hne:Ql ops i≠some t:=by
    intro e;obtain⟨om,hom⟩:=Xr hm;rcases Nat.lt_or_ge m i with h1|h1;·exact hlast i hi (.inr rfl) h1 e
    ·have hlt:i<m:=by omega
     rcases hR.apart i m o om ho hom hlt with h2|h2;·exact hDi (hcl m i hm hDm h2)
     ·exact(Oper.apart_spec h2).2.1 t (by simpa[Ql,ho]using e) (by simpa[Ql,hom]using hd)
   rw[if_neg hne];exact h.v1 m t hm hDm hd (fun m' hm' hD'=>hlast m' hm' (.inl hD'))
theorem MD.step(T:MTrace P C call ops st val ft fs s s')(hR:RegOk ops)(hcall:Fq P C B call)(hG:GO C S0 L0)(hI0:Inv B S0 L0 (st 0).H w0)(h:MD Df ops st ft val B S0 L0 w0 D HD a w){i:Nat}{o:Oper}(ho:ops[i]?=some o)(hDi: ¬D i)(hpre: ∀m,bef ops i m→D m)(hcl: ∀i m,i<ops.size→D i→bef ops i m→D m){K:Act→World→Prop}{Q:Exit→Act→World→Prop}(hK: ∀HD2 a' w',MD Df ops st ft val B S0 L0 w0 (fun m=>D m∨m=i) HD2 a' w'→K a' w'):wpOp P ops Q i K a w:=by
 have hi:=Qf ho;have hlook:=fun{t:Nat} (ht:t∈o.looksAt ops){v:Value} (hv:(st i).tm.get t=some v)=>h.looks T hR ho hDi hpre hcl ht hv;have hopd: ∀x∈o.op.operands,∀u,opd C (st i).tm x=some u→VR S0 L0 u (a.eval x):=fun x hx u hu=>opd_vr2 hG (fun t v e hv=>by subst e;exact(hlook (looks_tmp hx) hv).2) hu;have hwant: ∀b,Jh ops (st i).tm o=some b→Region.wanted o (yielded ops a.tmps)=b:=fun b hb=>Fb hb (fun j want d hg hd v hv=>hlook (Zo8 hg hd) hv);have hsb: ∀i,S0 i→i<HD.n:=fun i hs=>by rw[h.hn];exact hI0.bd i hs
 have hsame: ∀b w,ft i=some (b,w)→HD.blk b=(st i).H.blk b:=fun b w hf=>h.blk b i (Nat.le_of_lt hi) fun m hm hfm=>by
  constructor
  ·intro hDm;rcases Nat.lt_or_ge m i with h'|h';·exact h'
   ·rcases Nat.lt_or_ge i m with h''|h'';·exact absurd (hcl m i hm hDm (T.order hm h'' hf hfm (by simp))) hDi
    ·obtain rfl:m=i:=by omega
     exact absurd hDm hDi
  ·intro hlt;exact hpre m (T.order hi hlt hfm hf (by simp))
 have quiet: ∀(v':Value)(w':World),VR S0 L0 (val i) v'→(∀b,ft i≠some (b,true))→Inv B S0 L0 HD w'→Fr S0 L0 HD w L0 HD w'→(st (i+1)).H=(st i).H→MD Df ops st ft val B S0 L0 w0 (fun m=>D m∨m=i) HD (a.put o.dst v') w':=fun v' w' hv hf hI' hF he=>by
  obtain⟨s1,s2,s3,s4⟩:=h.slots T hR ho hDi hcl hv;refine⟨hI',h.hn,Fr.trans hI0 h.inv (fun _ h=>h) h.fr hF,fun x=>?_,fun j k hk hw=>?_,s1,s2,s3,s4⟩
  ·rw[h.lw x];refine⟨fun⟨h1,h2⟩=>⟨h1,fun m b hm hD hb=>?_⟩,fun⟨h1,h2⟩=>⟨h1,fun m b hm hD hb=>h2 m b hm (.inl hD) hb⟩⟩;rcases hD with hD|hD;·exact h2 m b hm hD hb
   ·subst hD;exact absurd hb (hf b)
  ·refine h.blk j k hk fun m hm hfm=>?_;rw[←hw m hm hfm];refine⟨fun h=> .inl h,fun h=>?_⟩;rcases h with h|h;·exact h
   ·subst h;exact absurd hfm (hf j)
 unfold wpOp;rw[ho];dsimp only;rcases(T.step i o ho).1 with⟨h1,h2,h3⟩|⟨t,x,b,off,e,h1,h2,h3,h4,h5⟩|⟨t,x,y,b,off,v,e,h1,h2,h3,h4,h5,h6⟩
 ·rcases h3 with⟨h3,h4⟩|⟨h3,h5⟩;·rw[hwant _ h3,if_neg (by simp)];exact hK HD _ w (quiet undef w (by rw[h4];exact Zd4) (fun b e=>by rw[h1]at e;cases e) h.inv (Fr.refl h.inv) h2)
  ·rw[hwant _ h3,if_pos rfl];left;refine(Uv hcall hG h.inv hopd (h5 HD)).wp fun v' w' hg=>?_;obtain⟨L',gI,gF,gV⟩:=hg;have hI':Inv B S0 L0 HD w':=gI.reloc (fun i=>⟨Vq,.inl⟩) (fun i hs=>gF.agree i hs);exact hK HD _ w' (quiet v' w' (gV.mono (fun i=>Vq) (fun i hs=>(gF.agree i (Vq hs)).symm)) (fun b e=>by rw[h1]at e;cases e) hI' (gF.reloc hI' hsb) h2)
 ·rw[hwant _ h1,if_pos rfl];left;have hev:Yk P C call (st i).tm HD o.op=some (val i,HD):=by rw[e];simp only[Yk,Yz,Yj,h2,loadV_blk (hsame b false h5),h3]
  refine(Uv hcall hG h.inv hopd hev).wp fun v' w' hg=>?_;obtain⟨L',gI,gF,gV⟩:=hg;have hI':Inv B S0 L0 HD w':=gI.reloc (fun i=>⟨Vq,.inl⟩) (fun i hs=>gF.agree i hs);exact hK HD _ w' (quiet v' w' (gV.mono (fun i=>Vq) (fun i hs=>(gF.agree i (Vq hs)).symm)) (fun b e=>by rw[h5]at e;cases e) hI' (gF.reloc hI' hsb) h4)
 ·rw[hwant _ h1,if_pos rfl];left;obtain⟨HD2,e1,e2,e3,e4,e5,e6,e7⟩:=Au (hsame b true h6) h4;have hev:Yk P C call (st i).tm HD o.op=some (val i,HD2):=by rw[e];simp only[Yk,Yz,Yj,h2,h3,e1,h5]
  refine(Uv hcall hG h.inv hopd hev).wp fun v' w' hg=>?_;obtain⟨L',gI,gF,gV⟩:=hg;have hS: ∀i,ext S0 HD.n HD2.n i↔S0 i:=fun i=>by rw[e4];exact⟨Vq,.inl⟩
  have hI':Inv B S0 L0 HD2 w':=gI.reloc hS (fun i hs=>gF.agree i hs);obtain⟨s1,s2,s3,s4⟩:=h.slots T hR ho hDi hcl (gV.mono (fun i hs=>(hS i).mp hs) (fun i hs=>(gF.agree i ((hS i).mp hs)).symm));refine hK HD2 _ w' ⟨hI',e4.trans h.hn,Fr.trans hI0 h.inv (fun _ h=>h) h.fr (gF.reloc hI' hsb),fun x=>?_,fun j k hk hw=>?_,s1,s2,s3,s4⟩
  ·rw[e6,Nat.le_min,h.lw x];refine⟨fun⟨⟨h1,h2⟩,h7⟩=>⟨h1,fun m b' hm hD hb=>?_⟩,fun⟨h1,h2⟩=>⟨⟨h1,fun m b hm hD hb=>h2 m b hm (.inl hD) hb⟩,h2 i b hi (.inr rfl) h6⟩⟩;rcases hD with hD|hD;·exact h2 m b' hm hD hb
   ·subst hD;rw[h6]at hb;cases hb;exact h7
  ·by_cases hj:j=b
   ·subst hj;have hik:i<k:=(hw i hi h6).mp (.inr rfl);rw[e2];refine(T.still k (by omega) hk fun m hm1 hm2 hfm=>?_).symm;have hm:m<ops.size:=by omega
    have hDm:=(hw m hm hfm).mpr hm2;rcases hDm with hDm|hDm;·exact hDi (hcl m i hm hDm (T.order hm (by omega) h6 hfm (by simp)))
    ·omega
   ·rw[(e3 j hj).1];refine h.blk j k hk fun m hm hfm=>?_;rw[←hw m hm hfm];refine⟨fun h=> .inl h,fun h=>?_⟩;rcases h with h|h;·exact h
    ·subst h;rw[h6]at hfm;cases hfm;exact absurd rfl hj
theorem MD.done(T:MTrace P C call ops st val ft fs s s')(hI0:Inv B S0 L0 (st 0).H w0)(h:MD Df ops st ft val B S0 L0 w0 D HD a w)(hD: ∀m,m<ops.size→D m):Ee Df B S0 L0 (st 0).H w0 (st ops.size) a w:=by
 have hb: ∀j,(st ops.size).H.blk j=HD.blk j:=fun j=>(h.blk j ops.size (Nat.le_refl _) fun m hm _=>⟨fun _=>hm,fun _=>hD m hm⟩).symm;have hn:(st ops.size).H.n=HD.n:=(T.n_eq _ (Nat.le_refl _)).trans h.hn.symm;have hlw:(st ops.size).H.lw=HD.lw:=by
  apply Nat.le_antisymm;·rw[h.lw];obtain⟨h1,h2⟩:=(T.lw_iff ops.size (Nat.le_refl _) (st ops.size).H.lw).mp (Nat.le_refl _);exact⟨h1,fun m b hm _ hb=>h2 m b hm hb⟩
  ·rw[T.lw_iff ops.size (Nat.le_refl _)];obtain⟨h1,h2⟩:=(h.lw HD.lw).mp (Nat.le_refl _);exact⟨h1,fun m b hm hb=>h2 m b hm (hD m hm) hb⟩
 have hn0:(st ops.size).H.n=(st 0).H.n:=T.n_eq _ (Nat.le_refl _);have hS: ∀j,ext S0 (st 0).H.n (st ops.size).H.n j↔S0 j:=fun j=>by rw[hn0];exact⟨Vq,.inl⟩
 refine⟨L0,⟨h.defers,by rw[h.size,T.k_eq _ (Nat.le_refl _)],fun t v hv=>?_⟩,?_,⟨fun _ _=>rfl,by rw[hn0];exact Nat.le_refl _,by rw[hlw];exact h.fr.lw,fun j hj hl=>?_,fun j hj sz cs hb'=>?_,fun j hj sz cs hb'=>?_,h.fr.os,h.fr.tape,h.fr.output,h.fr.size,fun g hg=>?_⟩⟩
 ·rw[T.k_eq _ (Nat.le_refl _)];rcases T.tm ops.size (Nat.le_refl _) t v hv with⟨m,h1,h2,h3,h4⟩|⟨h1,h2⟩;·refine⟨T.dst_lt h2,?_⟩;have:=h.v1 m t h1 (hD m h1) h2 (fun m' hm' _ hlt=>h4 m' hlt hm');rw[h3]at this;exact this.mono (fun j hj=>(hS j).mpr hj) (fun _ _=>rfl)
  ·obtain⟨h3,h4⟩:=h.v0 t v (fun m hm _=>h1 m hm) h2;exact⟨h3,h4.mono (fun j hj=>(hS j).mpr hj) (fun _ _=>rfl)⟩
 ·exact(h.inv.congr hb hn).mono (fun j hj=>(hS j).mpr hj) (fun j hj=>by rw[hn0];exact hI0.bd j ((hS j).mp hj))
 ·rw[hb];exact h.fr.keep j hj (by rw[←hlw];exact hl)
 ·rw[hb]at hb';exact h.fr.back j hj sz cs hb'
 ·rw[hb]at hb';rw[hlw];exact h.fr.newg j hj sz cs hb'
 ·rw[hlw];exact h.fr.frame g hg
theorem mem_any(T:MTrace P C call ops st val ft fs s s')(hR:RegOk ops)(hcall:Fq P C B call)(hG:GO C S0 L0)(hI0:Inv B S0 L0 (st 0).H w0){Q:Exit→Act→World→Prop}(hQ: ∀a w,Ee Df B S0 L0 (st 0).H w0 (st ops.size) a w→Q .normal a w): ∀(fuel:Nat)(listed:Array Bool)(HD:AH)(a:Act)(w:World),listed.size=ops.size→Aw listed=fuel→(∀(i:Nat)(o:Oper),ops[i]?=some o→listed[i]?=some true→ ∀e∈o.after.toList,Region.binds .any e=true→listed[e.on]?=some true)→MD Df ops st ft val B S0 L0 w0 (fun m=>listed[m]?=some true) HD a w→wpAny P .any ops Q fuel listed a w:=by
 have hend: ∀(listed:Array Bool)(HD:AH)(a:Act)(w:World),listed.size=ops.size→Region.ready .any ops listed=[]→MD Df ops st ft val B S0 L0 w0 (fun m=>listed[m]?=some true) HD a w→Q .normal a w:=by intro listed HD a w hsz hr hid;refine hQ a w (hid.done T hI0 fun m hm=>?_);induction m using Nat.strongRecOn with
  |_ m ih=>cases hb:listed[m]with|true=>rw[Array.getElem?_eq_getElem (by omega),hb]|false=>exfalso;obtain⟨o,ho⟩:=Xr hm;have:m∈Region.ready .any ops listed:=mem_ready.2 ⟨by simp[Array.getD,hsz,hm,hb],o,ho,fun e he hbe=>by have hlt:=hR.lead m o ho e (by simpa using he) hbe;have:=ih e.on hlt (by omega);simp[Array.getD_eq_getD_getElem?,this]⟩;rw[hr]at this;cases this
 intro fuel;induction fuel with
  |zero=>
   intro listed HD a w hsz hun hcl hid;have hr:Region.ready .any ops listed=[]:=by cases hr:Region.ready .any ops listed with
    |nil=>rfl
    |cons i r=>
     exfalso;have hi:i∈Region.ready .any ops listed:=by rw[hr];simp
     obtain⟨h1,o,ho,_⟩:=mem_ready.1 hi;have hlt:i<listed.size:=by rw[hsz];exact Qf ho
     have h2:listed.toList[i]'(by simpa using hlt)=false:=by simpa[Array.getD,hlt]using h1
     have:=List.count_pos_iff.mpr (h2▸List.getElem_mem (l:=listed.toList) (n:=i) (by simpa using hlt));unfold Aw at hun;omega
   exact⟨hr,hend listed HD a w hsz hr hid⟩
  |succ fuel ih=>
   intro listed HD a w hsz hun hcl hid;refine⟨fun hr=>hend listed HD a w hsz hr hid,fun i hi=>?_⟩;obtain⟨h1,o,ho,h3⟩:=mem_ready.1 hi;have hlt:i<listed.size:=by rw[hsz];exact Qf ho
   have hfalse:listed[i]?=some false:=by rw[Array.getElem?_eq_getElem hlt];simpa[Array.getD,hlt]using h1
   have hclD: ∀(i:Nat)(o:Oper),ops[i]?=some o→listed[i]?=some true→ ∀e∈o.after.toList,Region.binds .any e=true→listed[e.on]?=some true:=hcl;have h3': ∀e∈o.after.toList,Region.binds .any e=true→listed[e.on]?=some true:=fun e he hb=>by have:=h3 e (by simpa using he) hb;rw[Array.getD_eq_getD_getElem?]at this;cases hx:listed[e.on]? with|none=>rw[hx]at this;simp at this|some b=>rw[hx]at this;simpa using this
   refine hid.step T hR hcall hG hI0 ho (by rw[hfalse];simp) (fun m hm=>?_) (fun j m hj hD hb=>hR.closed (D:=fun m=>listed[m]?=some true) hclD m (Xr hj) hD hb) fun HD2 a' w' hid2=>?_
   ·obtain⟨e,he,hb,h4⟩:=(hR.bef_iff ho).mp hm;have he1:=h3' e he hb;rcases h4 with h4|h4;·rw[←h4];exact he1
    ·have:e.on<ops.size:=by have:=hR.lead i o ho e he hb;have:=Qf ho;omega
     exact hR.closed (D:=fun m=>listed[m]?=some true) hclD m (Xr this) he1 h4
   ·have hset: ∀m,(listed.setIfInBounds i true)[m]?=some true↔(listed[m]?=some true∨m=i):=fun m=>by
     rw[Array.getElem?_setIfInBounds];by_cases e:i=m;·subst e;simp[hlt]
     ·rw[if_neg e];constructor;·exact fun h=> .inl h
      ·rintro(h|h);·exact h
       ·exact absurd h.symm e
    have hfun:(fun m=>(listed.setIfInBounds i true)[m]?=some true)=(fun m=>listed[m]?=some true∨m=i):=by funext m;exact propext (hset m)
    refine ih (listed.setIfInBounds i true) HD2 a' w' (by simp[hsz]) (by have:=undone_set hlt hfalse;omega) (fun k ok hk hD e he hb=>?_) (by rw[hfun];exact hid2);rw[hset]at hD⊢;rcases hD with hD|hD;·exact .inl (hcl k ok hk hD e he hb)
    ·subst hD;rw[ho]at hk;obtain rfl:=Option.some.inj hk;exact .inl (h3' e he hb)
end
theorem Zk2{Df:List Deferred}{P:Program}{C:Cfg}{call:FuncId→List Value→AH→Option (Value×AH)}{B:Nat}(hm:P.follows .mixedOrders=true)(hcall:Fq P C B call){ops:Array Oper}{draw:Bool}{s s':St}(h:Qg P C call ops draw s=some s'){S:Nat→Prop}{L:Nat→Loc}{a:Act}{w:World}(hG:GO C S L)(hA:AI Df S L s.k s.tm a)(hI:Inv B S L s.H w){Q:Exit→Act→World→Prop}(hQ: ∀a' w',Ee Df B S L s.H w s' a' w'→Q .normal a' w'):Bf P ops draw Q a w:=by unfold Qg at h;cases hb:(draw&&Uh ops)with
 |false=>rw[hb,cond_false]at h;exact evRegionD_ops hm hcall h hG hA hI hQ
 |true=>rw[hb,cond_true]at h;rw[Bool.and_eq_true]at hb;obtain⟨hd,_⟩:=hb;subst hd;cases hr:Gy ops with
  |false=>rw[hr]at h;cases h
  |true=>
   rw[hr,cond_true]at h;have hR:=Zi0 hr;obtain⟨st,val,ft,fs,e1,e3,e4,e5⟩:=Zo4 ops.toList 0 [] s s' h (fun j=>by simp);have hN:st ops.size=s':=by rw[←e4];simp
   have T:MTrace P C call ops st val ft fs s s':=⟨e1,hN,e3,fun i o ho=>e5 i o (Nat.zero_le _) ho⟩;subst e1;show wpAny P .any ops Q _ _ a _;let w1:World:= { w with drawn:=w.drawn+1 };have hI1:Inv B S L (st 0).H w1:=hI.heap rfl;refine mem_any (Df:=Df) T hR hcall hG hI1 (fun a' w' hd=>hQ a' w' ?_) ops.size _ (st 0).H a w1 (by simp) (by simp[Aw]) (fun i o ho hl=>by have:i<ops.size:=Qf ho;simp[this]at hl) ?_;·rw[hN]at hd;obtain⟨L',d1,d2,d3⟩:=hd;exact⟨L',d1,d2,⟨d3.agree,d3.n,d3.lw,d3.keep,d3.back,d3.newg,d3.os,d3.tape,d3.output,d3.size,d3.frame⟩⟩
   ·have hnone: ∀m,¬ ((Array.replicate ops.size false)[m]?=some true):=fun m hm=>by
     rw[Array.getElem?_replicate]at hm;split at hm;·cases hm
     ·cases hm
    refine⟨hI1,rfl,Fr.refl hI1,fun x=>⟨fun h=>⟨h,fun m b _ hm=>absurd hm (hnone m)⟩,fun h=>h.1⟩,fun j k hk hw=>?_,hA.defers,hA.size,fun t v _ hv=>hA.tmp t v hv,fun m t _ hm=>absurd hm (hnone m)⟩;exact(T.still k (Nat.zero_le _) hk fun m _ hm hf=>absurd ((hw m (by omega) hf).mpr hm) (hnone m)).symm
theorem evRegion_ok{Df:List Deferred}{P:Program}{C:Cfg}{call:FuncId→List Value→AH→Option (Value×AH)}{B:Nat}(hm:P.follows .mixedOrders=true)(hcall:Fq P C B call){ops:Array Oper}{draw:Bool}{s s':St}(h:Qg P C call ops draw s=some s'){S:Nat→Prop}{L:Nat→Loc}{a:Act}{w:World}(hG:GO C S L)(hA:AI Df S L s.k s.tm a)(hI:Inv B S L s.H w){Q:Exit→Act→World→Prop}(hQ: ∀a' w',Ee Df B S L s.H w s' a' w'→Q .normal a' w')(id:Nat):(Code.region id ops draw).wp P Q a w:=(Zk2 hm hcall h hG hA hI hQ).wp hm id
theorem upon_mono {P : Program} {o : Oper} {a : Act} {K K' : Act → World → Prop} {Q Q' : Exit → Act → World → Prop} {r : Result Next} (hK : ∀ a w, K a w → K' a w) (hQ : ∀ ch a w, Q (.panic ch) a w → Q' (.panic ch) a w) (hL : LetsOut Q → LetsOut Q') (h : o.upon P a K Q r) : o.upon P a K' Q' r := by
  cases r with
  | ok n w =>
    cases n <;> first | exact h.elim | exact hK _ _ h | exact Calls.mono h (fun e w' he => by cases e <;> first | exact hK _ _ he | exact hQ _ _ _ he | exact hL he) | exact Rows.mono h (fun _ _ he => hK _ _ he)
  | halt x w => cases x <;> first | exact h.elim | exact hQ _ _ _ h
section
variable {P : Program} {ops : Array Oper} {rv : Value}
theorem sub_at(i:Nat):(ops.map (Vr rv))[i]?=(ops[i]?).map (Vr rv):=by simp
theorem Zm4:(ops.map (Vr rv)).size=ops.size:=by simp
theorem Zi6(o:Oper):(Vr rv o).after=o.after∧(Vr rv o).guard=o.guard∧(Vr rv o).dst=o.dst:=by unfold Vr;cases isRec o.op<;>exact⟨rfl,rfl,rfl⟩
theorem sub_ready(md:Region.Mode)(listed:Array Bool):Region.ready md (ops.map (Vr rv)) listed=Region.ready md ops listed:=by unfold Region.ready;rw[Zm4];congr 1;funext i;rw[sub_at];cases ops[i]? with|none=>rfl|some o=>simp[(Zi6 (rv:=rv) o).1]
theorem sub_yielded(a:Array Value):yielded (ops.map (Vr rv)) a=yielded ops a:=by funext j;unfold yielded;rw[sub_at];cases ops[j]? with|none=>rfl|some o=>simp[(Zi6 (rv:=rv) o).2.2]
structure OneRec (ops : Array Oper) (r : Nat) : Prop where
  at_ : ∃ o, ops[r]? = some o ∧ isRec o.op = true ∧ o.guard = none
  one : ∀ i o, ops[i]? = some o → isRec o.op = true → i = r
theorem filter_one{l:List Oper}{p:Oper→Bool}(h:(l.filter p).length=1): ∃(r:Nat) (o:Oper),l[r]?=some o∧p o=true∧ ∀(i:Nat)(o':Oper),l[i]?=some o'→p o'=true→i=r:=by induction l with
 |nil=>simp at h
 |cons x xs ih=>
  by_cases hx:p x=true;·rw[List.filter_cons_of_pos hx]at h;have h0:xs.filter p=[]:=List.eq_nil_of_length_eq_zero (by simpa using h);refine⟨0,x,rfl,hx,fun i o' hi hp=>?_⟩;cases i with|zero=>rfl|succ i=>have:o'∈xs.filter p:=List.mem_filter.mpr ⟨List.mem_of_getElem? hi,hp⟩;rw[h0]at this;cases this
  ·rw[List.filter_cons_of_neg hx]at h;obtain⟨r,o,h1,h2,h3⟩:=ih h;refine⟨r+1,o,h1,h2,fun i o' hi hp=>?_⟩;cases i with|zero=>simp at hi;subst hi;exact absurd hp hx|succ i=>rw[h3 i o' hi hp]
theorem recOnce_spec(h:Cs ops=true): ∃r,OneRec ops r:=by unfold Cs at h;rw[Bool.and_eq_true]at h;obtain⟨r,o,h1,h2,h3⟩:=filter_one (Nat.eq_of_beq_eq_true h.1);have hg:=List.all_eq_true.mp h.2 o (List.mem_of_getElem? h1);refine⟨r,⟨o,by simpa using h1,h2,?_⟩,fun i o' hi hp=>h3 i o' (by simpa using hi) hp⟩;rw[h2]at hg;simpa using hg
def Be(Q:Exit→Act→World→Prop):Prop:= ∀e a w,Q e a w→e= .normal
theorem Be.lets{Q:Exit→Act→World→Prop}(h:Be Q): ¬LetsOut Q:=fun⟨a,w,q⟩=>by cases h _ _ _ q
theorem run_recover {o : Oper} (h : isRec o.op = true) (ρ : Operand → Value) (w : World) : (execOp ρ o).run P w = .ok .recover w := by
  obtain ⟨dst, op, ty, pos, after, guard⟩ := o
  cases op <;> first | (cases h; done) | skip
  rename_i c
  obtain ⟨callee, args, ts⟩ := c
  cases callee with
  | builtin b => cases b <;> first | (cases h; done) | (simp [execOp, resolve, invoke, builtin])
  | value f => cases h
  | invoke r m => cases h
theorem sub_step{Q:Exit→Act→World→Prop}{QS:Exit→Act→List Frame→World→Prop}(hQ:Be Q){r:Nat}(hr:OneRec ops r){cs cs':List Frame}(hrec:recoverD cs=some (rv,cs')∨(recoverD cs=none∧rv= .nilIface∧cs'=cs)){i:Nat}{rest:List Nat}{K:Act→World→Prop}{a:Act}{w:World}(c0:List Frame)(hc:i=r→c0=cs)(hk: ∀a w,K a w→wpOpsS P ops QS rest a (if i=r then cs' else c0) w)(h:wpOp P (ops.map (Vr rv)) Q i K a w):wpOpsS P ops QS (i::rest) a c0 w:=by unfold wpOp at h;rw[sub_at]at h;simp only[wpOpsS];cases ho:ops[i]? with
 |none=>
  rw[ho]at h;have hne:i≠r:=fun e=>by obtain⟨o,h1,_⟩:=hr.at_;rw[←e,ho]at h1;cases h1
  have:=hk a w h;rw[if_neg hne]at this;exact this
 |some o=>
  rw[ho]at h;simp only[Option.map_some]at h;rw[sub_yielded]at h;have hwant:Region.wanted (Vr rv o) (yielded ops a.tmps)=Region.wanted o (yielded ops a.tmps):=by unfold Region.wanted;rw[(Zi6 (rv:=rv) o).2.1]
  rw[hwant]at h;by_cases hir:i=r
  ·obtain⟨o',h1,h2,h3⟩:=hr.at_;rw[←hir,ho]at h1;obtain rfl:=Option.some.inj h1;have hw:Region.wanted o (yielded ops a.tmps)=true:=by unfold Region.wanted;rw[h3]
   simp only[hw,if_true]at h⊢;have h:=h.resolve_right (fun x=>hQ.lets x.2);have hs:Vr rv o= { o with op:= .assign (.const rv) } :=by unfold Vr;rw[h2,cond_true]
   rw[hs]at h;have h':K (a.put o.dst rv) w:=h;have hk':=hk _ _ h';rw[if_pos hir]at hk';rw[run_recover h2];rw[hc hir];simp only;rcases hrec with e|⟨e1,e2,e3⟩;·rw[e];exact hk'
   ·rw[e1];subst e2;subst e3;exact hk'
  ·have hn:isRec o.op=false:=by cases hb:isRec o.op with|false=>rfl|true=>exact absurd (hr.one i o ho hb) hir
   have hs:Vr rv o=o:=by unfold Vr;rw[hn,cond_false]
   rw[hs]at h;by_cases hw:Region.wanted o (yielded ops a.tmps)=true
   ·simp only[hw,if_true]at h⊢;have h:=h.resolve_right (fun x=>hQ.lets x.2);unfold Oper.wp at h;have hk': ∀a w,K a w→wpOpsS P ops QS rest a c0 w:=fun a w q=>by have:=hk a w q;rwa[if_neg hir]at this
    generalize(execOp a.eval o).run P w=res at h⊢;split;·exact h.elim
    ·exact upon_mono hk' (fun ch a w q=>by cases hQ _ _ _ q) (fun x=>absurd x hQ.lets) h
   ·simp only[hw,if_false,Bool.false_eq_true]at h⊢;have:=hk _ _ h;rw[if_neg hir]at this;exact this
theorem sub_list{Q:Exit→Act→World→Prop}{QS:Exit→Act→List Frame→World→Prop}(hQ:Be Q){r:Nat}(hr:OneRec ops r){cs cs':List Frame}(hrec:recoverD cs=some (rv,cs')∨(recoverD cs=none∧rv= .nilIface∧cs'=cs))(hQS: ∀a w,Q .normal a w→QS .normal a cs' w): ∀(n k:Nat)(a:Act)(w:World),r<k+n→wpOps P (ops.map (Vr rv)) Q (List.range' k n) a w→wpOpsS P ops QS (List.range' k n) a (if r<k then cs' else cs) w
 |0,k,a,w,hk,h=>by rw[if_pos (by omega)];exact hQS a w h
 |n+1,k,a,w,hk,h=>by
  rw[List.range'_succ,wpOps_cons]at h;rw[List.range'_succ];refine sub_step hQ hr hrec _ (fun e=>by rw[if_neg (by omega)]) (fun a w q=>?_) h;have:=sub_list hQ hr hrec hQS n (k+1) a w (by omega) q;by_cases e:k=r;·rw[if_pos e];rwa[if_pos (by omega)]at this
  ·rw[if_neg e];by_cases e2:r<k;·rw[if_pos e2];rwa[if_pos (by omega)]at this
   ·rw[if_neg e2];rwa[if_neg (by omega)]at this
theorem ready_all(hR:RegOk (ops.map (Vr rv))){listed:Array Bool}(hsz:listed.size=ops.size)(h:Region.ready .any (ops.map (Vr rv)) listed=[]): ∀m,m<ops.size→listed[m]?=some true:=by intro m hm;induction m using Nat.strongRecOn with
 |_ m ih=>cases hb:listed[m]with|true=>rw[Array.getElem?_eq_getElem (by omega),hb]|false=>exfalso;obtain⟨o,ho⟩:=Xr (ops:=ops.map (Vr rv)) (by rw[Zm4];exact hm);have:m∈Region.ready .any (ops.map (Vr rv)) listed:=mem_ready.2 ⟨by simp[Array.getD,hsz,hm,hb],o,ho,fun e he hbe=>by have hlt:=hR.lead m o ho e (by simpa using he) hbe;have:=ih e.on hlt (by omega);simp[Array.getD_eq_getD_getElem?,this]⟩;rw[h]at this;cases this
theorem mem_ready_lt{listed:Array Bool}{i:Nat}(h:i∈Region.ready .any ops listed):listed[i]?=some false:=by
 have h1:=(mem_ready.1 h).1;rcases Nat.lt_or_ge i listed.size with h2|h2;·rw[Array.getElem?_eq_getElem h2];simp[Array.getD,h2]at h1;rw[h1]
 ·simp[Array.getD,Nat.not_lt.mpr h2]at h1
theorem sub_any{Q:Exit→Act→World→Prop}{QS:Exit→Act→List Frame→World→Prop}(hQ:Be Q){r:Nat}(hr:OneRec ops r){cs cs':List Frame}(hrec:recoverD cs=some (rv,cs')∨(recoverD cs=none∧rv= .nilIface∧cs'=cs))(hQS: ∀a w,Q .normal a w→QS .normal a cs' w)(hR:RegOk (ops.map (Vr rv)))(hrs:r<ops.size): ∀(fuel t:Nat)(listed:Array Bool)(a:Act)(w:World),listed.size=ops.size→wpAny P .any (ops.map (Vr rv)) Q fuel listed a w→wpOpsS P ops QS (Region.linearise.go .any ops fuel t listed []) a (if listed[r]?=some true then cs' else cs) w:=by intro fuel;induction fuel with
 |zero=>intro t listed a w hsz h;have hall:=ready_all hR hsz h.1 r hrs;rw[if_pos hall];exact hQS a w h.2
 |succ fuel ih=>intro t listed a w hsz h;obtain⟨h₀,h₁⟩:=h;simp only[Region.linearise.go];change wpOpsS P ops QS (match(Region.ready .any ops listed)[t%(Region.ready .any ops listed).length]? with|some i=>Region.linearise.go .any ops fuel (t/(Region.ready .any ops listed).length) (listed.setIfInBounds i true) [i]|none=>[].reverse) a _ w;cases hi:(Region.ready .any ops listed)[t%(Region.ready .any ops listed).length]? with
  |none=>
   have hnil:Region.ready .any ops listed=[]:=by cases hr:Region.ready .any ops listed with|nil=>rfl|cons x xs=>rw[hr]at hi;have hlt:t%(x::xs).length<(x::xs).length:=Nat.mod_lt _ (by simp);simp at hi;simp at hlt;omega
   have hnil':Region.ready .any (ops.map (Vr rv)) listed=[]:=by rw[sub_ready];exact hnil
   rw[if_pos (ready_all hR hsz hnil' r hrs)];exact hQS a w (h₀ hnil')
  |some i=>
   have hmem:=List.mem_of_getElem? hi;have hfalse:=mem_ready_lt hmem;simp only[];rw[linearise_go_acc,List.reverse_singleton,List.singleton_append];refine sub_step hQ hr hrec _ (fun e=>by rw[←e,hfalse];rfl) (fun a w q=>?_) (h₁ i (by rw[sub_ready];exact hmem));have:=ih (t/(Region.ready .any ops listed).length) (listed.setIfInBounds i true) a w (by simp[hsz]) q;have hset:(listed.setIfInBounds i true)[r]?=some true↔(i=r∨listed[r]?=some true):=by
    rw[Array.getElem?_setIfInBounds];by_cases e:i=r
    ·have hl:i<listed.size:=by
      rcases Nat.lt_or_ge i listed.size with h2|h2;·exact h2
      ·rw[Array.getElem?_eq_none h2]at hfalse;cases hfalse
     simp[e];omega
    ·simp[e]
   by_cases e:i=r;·rw[if_pos e];rwa[if_pos (hset.mpr (.inl e))]at this
   ·rw[if_neg e];by_cases e2:listed[r]?=some true;·rw[if_pos e2];rwa[if_pos (hset.mpr (.inr e2))]at this
    ·rw[if_neg e2];rwa[if_neg (fun x=>by rcases hset.mp x with x|x;exact e x;exact e2 x)]at this
theorem Zq9{id:Nat}{QS:Exit→Act→List Frame→World→Prop}{a:Act}{cs:List Frame}{w:World}(h: ∀t,wpOpsS P ops QS (Region.schedule (P.follows .mixedOrders) ops t) a cs { w with drawn:=w.drawn+1 }):(Code.region id ops true).wpS P QS a cs w:=fun b k hb hr=>let⟨e,a',cs',w',q,r⟩:=wp_opsS _ a cs _ (h _) b k hb hr;⟨e,a',cs',w',q,.of_steps (.one step_region_draw) r⟩
theorem sub_region{Q:Exit→Act→World→Prop}{QS:Exit→Act→List Frame→World→Prop}(hm:P.follows .mixedOrders=true)(hQ:Be Q){cs cs':List Frame}(hrec:recoverD cs=some (rv,cs')∨(recoverD cs=none∧rv= .nilIface∧cs'=cs))(hQS: ∀a w,Q .normal a w→QS .normal a cs' w)(ho:Cs ops=true){draw:Bool}(hreg:draw=true→Gy (ops.map (Vr rv))=true){a:Act}{w:World}(h:Bf P (ops.map (Vr rv)) draw Q a w)(id:Nat):(Code.region id ops draw).wpS P QS a cs w:=by
 obtain⟨r,hr⟩:=recOnce_spec ho;have hrs:r<ops.size:=by obtain⟨o,h1,_⟩:=hr.at_;exact Qf h1
 cases draw with|false=>refine wpS_region ?_;have h:wpOps P (ops.map (Vr rv)) Q (List.range (ops.map (Vr rv)).size) a w:=h;rw[Zm4,List.range_eq_range']at h;have:=sub_list hQ hr hrec hQS ops.size 0 a w (by omega) h;rw[if_neg (by omega)]at this;rw[List.range_eq_range'];exact this|true=>refine Zq9 fun t=>?_;simp only[Region.schedule,hm,Bool.true_or,if_true];have h:wpAny P .any (ops.map (Vr rv)) Q (ops.map (Vr rv)).size (Array.replicate (ops.map (Vr rv)).size false) a { w with drawn:=w.drawn+1 } :=h;rw[Zm4]at h;have:=sub_any hQ hr hrec hQS (Zi0 (hreg rfl)) hrs ops.size t _ a _ (by simp) h;rw[if_neg (by simp[hrs])]at this;exact this
theorem evRegion_regOk{P:Program}{C:Cfg}{call:FuncId→List Value→AH→Option (Value×AH)}{ops:Array Oper}{s s':St}(h:Qg P C call ops true s=some s'):Gy ops=true:=by unfold Qg at h;cases hb:(true&&Uh ops)with
 |false=>rw[hb,cond_false]at h;unfold Ul at h;rw[cond_true]at h;cases hr:Gy ops with|false=>rw[hr]at h;cases h|true=>rfl
 |true=>rw[hb,cond_true]at h;cases hr:Gy ops with|false=>rw[hr]at h;cases h|true=>rfl
end
def Zm3 : Array Value → Sem Value := fun args => do
  let (x, y, b) ← Extern.MathBitsCarry.three "Sub64" args
  pure (Extern.MathBitsCarry.pair ((x + Extern.MathBitsCarry.m64 - y - b) % Extern.MathBitsCarry.m64) (if x < y + b then 1 else 0))
theorem run_add{P:Program}(x y c:Nat)(hc:c≤1)(w:World):(add64Entry #[.int .u64 x,.int .u64 y,.int .u64 c]).run P w= .ok (.tuple #[.int .u64 (Int.ofNat ((x+y+c)%18446744073709551616)),.int .u64 (Int.ofNat ((x+y+c)/18446744073709551616))]) w:=by
 have:c=0∨c=1:=by omega
 rcases this with rfl|rfl<;>rfl
theorem run_sub{P:Program}(x y c:Nat)(hc:c≤1)(w:World):(Zm3 #[.int .u64 x,.int .u64 y,.int .u64 c]).run P w= .ok (.tuple #[.int .u64 (Int.ofNat ((x+18446744073709551616-y-c)%18446744073709551616)),.int .u64 (cond (Nat.blt x (y+c)) 1 0)]) w:=by
 have key: ∀k:Nat,k≤1→(Zm3 #[.int .u64 x,.int .u64 y,.int .u64 k]).run P w= .ok (Extern.MathBitsCarry.pair ((x+Extern.MathBitsCarry.m64-y-k)%Extern.MathBitsCarry.m64) (if x<y+k then 1 else 0)) w:=by
  intro k hk;have:k=0∨k=1:=by omega
  rcases this with rfl|rfl<;>rfl
 rw[key c hc];unfold Extern.MathBitsCarry.pair;by_cases h:x<y+c
 ·have:Nat.blt x (y+c)=true:=by rw[Nat.blt_eq];exact h
  rw[if_pos h,this];rfl
 ·have:Nat.blt x (y+c)=false:=by cases hb:Nat.blt x (y+c)with|false=>rfl|true=>rw[Nat.blt_eq]at hb;exact absurd hb h
  rw[if_neg h,this];rfl
structure CfgOk (P : Program) (C : Cfg) : Prop where
  mixed : P.follows .mixedOrders = true
  names : ∀ (f : Nat) (fn : Func), P.funcs[f]? = some fn → fn.body.isSome = true → (fn.name == "runtime.NumGoroutine") = false
  add : ∃ fn, P.funcs[C.add]? = some fn ∧ (fn.name == "runtime.NumGoroutine") = false ∧ fn.body.isNone = true ∧ Extern.findNext fn = none ∧ Extern.find fn = some add64Entry
  sub : ∃ fn, P.funcs[C.sub]? = some fn ∧ (fn.name == "runtime.NumGoroutine") = false ∧ fn.body.isNone = true ∧ Extern.findNext fn = none ∧ Extern.find fn = some Zm3
def exitOf:Ex→Exit| .norm=> .normal| .exit id=> .exit id| .ret=> .ret| .pan _=> .normal
def LW(P:Program)(body:Code)(Q:Exit→Act→World→Prop)(a:Act)(w:World):Prop:= ∀(b:Frame)(k:List Item)(cs:List Frame),∃e a' w',Q e a' w'∧Arrives P (lone (b.at a (.code body:: .inLoop body::k)) cs w) b k cs e a' w'
theorem LW.wp{P:Program}{body:Code}{Q:Exit→Act→World→Prop}{a:Act}{w:World}(h:LW P body Q a w):(Code.loop body).wp P Q a w:=fun b k cs=>by obtain⟨e,a',w',hq,harr⟩:=h b k cs;exact⟨e,a',w',hq,.of_steps (.one step_loop) harr⟩
def Cy(Df:List Deferred)(B:Nat)(S:Nat→Prop)(L:Nat→Loc)(H:AH)(w:World)(ex:Ex)(s':St)(e:Exit)(a':Act)(w':World):Prop:=match ex with| .pan v=> ∃v',e= .panic [{ v:=v',recovered:=false }]∧ ∃L',AI Df (ext S H.n s'.H.n) L' s'.k s'.tm a'∧Inv B (ext S H.n s'.H.n) L' s'.H w'∧Fr S L H w L' s'.H w'∧VR (ext S H.n s'.H.n) L' v v'|ex=>e=exitOf ex∧Ee Df B S L H w s' a' w'
theorem Cy.trans{Df:List Deferred}{B:Nat}{S:Nat→Prop}{L L1:Nat→Loc}{H:AH}{w w1:World}{s1 s2:St}{ex:Ex}{e:Exit}{a2:Act}{w2:World}(hI:Inv B S L H w)(hI1:Inv B (ext S H.n s1.H.n) L1 s1.H w1)(hF:Fr S L H w L1 s1.H w1)(h:Cy Df B (ext S H.n s1.H.n) L1 s1.H w1 ex s2 e a2 w2):Cy Df B S L H w ex s2 e a2 w2:=by cases ex with|pan v=>obtain⟨v',he,L2,h1,h2,h3,h4⟩:=h;rw[ext_ext hF.n h3.n]at h1 h2 h4;exact⟨v',he,L2,h1,h2,hF.trans hI hI1 (fun _ h=> .inl h) h3,h4⟩|norm=>exact⟨h.1,h.2.trans hI hI1 hF⟩|exit j=>exact⟨h.1,h.2.trans hI hI1 hF⟩|ret=>exact⟨h.1,h.2.trans hI hI1 hF⟩
theorem Cy.norm{Df:List Deferred}{B:Nat}{S:Nat→Prop}{L:Nat→Loc}{H:AH}{w:World}{s':St}{e:Exit}{a':Act}{w':World}(h:Cy Df B S L H w .norm s' e a' w'):e= .normal∧Ee Df B S L H w s' a' w':=h
theorem Cy.not_normal{Df:List Deferred}{B:Nat}{S:Nat→Prop}{L:Nat→Loc}{H:AH}{w:World}{ex:Ex}{s':St}{e:Exit}{a':Act}{w':World}(hne:ex≠ .norm)(h:Cy Df B S L H w ex s' e a' w'):e≠ .normal:=by cases ex with|pan v=>obtain⟨v',he,_⟩:=h;subst he;simp|norm=>exact absurd rfl hne|exit j=>rw[h.1];simp[exitOf]|ret=>rw[h.1];simp[exitOf]
def CodeOk(P:Program)(C:Cfg)(B:Nat)(f:Code→St→Option (Ex×St)):Prop:= ∀c s ex s',f c s=some (ex,s')→ ∀Df S L a w,GO C S L→AI Df S L s.k s.tm a→Inv B S L s.H w→ ∀Q:Exit→Act→World→Prop,(∀e a' w',Cy Df B S L s.H w ex s' e a' w'→Q e a' w')→c.wp P Q a w∧ ∀body,c= .loop body→LW P body Q a w
def EndIs(B:Nat)(S:Nat→Prop)(L:Nat→Loc)(H:AH)(w:World)(o:Out)(H':AH)(e:Ending)(w':World):Prop:=match o with| .ret v=> ∃v',e= .returned v'∧Good B S L H w v H' v' w'| .pan v=> ∃v',e= .panicked [{ v:=v',recovered:=false }]∧Good B S L H w v H' v' w'
def Zd6(P:Program)(C:Cfg)(B:Nat)(call:FuncId→List Value→AH→Option (Out×AH)):Prop:= ∀f args H o H',call f args H=some (o,H')→ ∀S L w args',GO C S L→Inv B S L H w→VRs S L args args'→(∃v v' w',o= .ret v∧(callFunc f args'.toArray).run P w= .ok (.value v') w'∧Good B S L H w v H' v' w')∨((callFunc f args'.toArray).run P w= .ok (.enter f args'.toArray) w∧Calls P f args'.toArray w fun e w'=>EndIs B S L H w o H' e w')
def CallOkP(P:Program)(C:Cfg)(B:Nat)(call:FuncId→List Value→AH→Option (Value×AH)):Prop:= ∀f args H v H',call f args H=some (v,H')→ ∀S L w args',GO C S L→Inv B S L H w→VRs S L args args'→(callFunc f args'.toArray).run P w= .ok (.enter f args'.toArray) w∧Calls P f args'.toArray w fun e w'=> ∃v',e= .panicked [{ v:=v',recovered:=false }]∧Good B S L H w v H' v' w'
structure LvOk (P : Program) (C : Cfg) (B : Nat) (ih : Lv) : Prop where
  code : CodeOk P C B ih.code
  call : Fq P C B ih.call
theorem Aq{r:Option (Out×AH)}{v:Value}{H:AH}(h:retOf r=some (v,H)):r=some (.ret v,H):=by
 unfold retOf at h;split at h;·injection h with h;injection h with h1 h2;subst h1;subst h2;rfl
 ·cases h
theorem Ao{r:Option (Out×AH)}{v:Value}{H:AH}(h:panOf r=some (v,H)):r=some (.pan v,H):=by
 unfold panOf at h;split at h;·injection h with h;injection h with h1 h2;subst h1;subst h2;rfl
 ·cases h
theorem Zd6.ret{P:Program}{C:Cfg}{B:Nat}{call:FuncId→List Value→AH→Option (Out×AH)}(h:Zd6 P C B call):Fq P C B (fun f args H=>retOf (call f args H)):=by
 intro f args H v H' hc S L w args' hG hI ha;rcases h f args H _ H' (Aq hc) S L w args' hG hI ha with⟨v1,v',w',e,h1,h2⟩|⟨h1,h2⟩;·cases e;exact .inl ⟨v',w',h1,h2⟩
 ·exact .inr ⟨h1,h2⟩
theorem Zd6.pan{P:Program}{C:Cfg}{B:Nat}{call:FuncId→List Value→AH→Option (Out×AH)}(h:Zd6 P C B call):CallOkP P C B (fun f args H=>panOf (call f args H)):=by
 intro f args H v H' hc S L w args' hG hI ha;rcases h f args H _ H' (Ao hc) S L w args' hG hI ha with⟨v1,v',w',e,h1,h2⟩|⟨h1,h2⟩;·cases e
 ·exact⟨h1,h2⟩
theorem Zp2{S:Nat→Prop}{L:Nat→Loc}{args:List Value}{x y c:Nat}{args':List Value}(h:Zc7 args=some (x,y,c))(hv:VRs S L args args'):args'=[.int .u64 x,.int .u64 y,.int .u64 c]∧c≤1:=by
 unfold Zc7 at h;split at h<;>first|(cases h;done)|skip
 rename_i a b d;split at h<;>first|(cases h;done)|skip
 rename_i hb;obtain⟨h1,h2,h3,h4⟩:=hb;injection h with h;injection h with e1 e2;injection e2 with e2 e3;obtain⟨x',y',z',rfl,v1,v2,v3⟩:=hv.inv3;cases v1;cases v2;cases v3;subst e1;subst e2;subst e3;exact⟨by rw[Int.toNat_of_nonneg h1,Int.toNat_of_nonneg h2,Int.toNat_of_nonneg h3],by omega⟩
theorem tmOf_get: ∀(vs:List Value)(i:Nat)(t:Tr Value)(k:Nat),(Qb i vs t).get k=if i≤k∧k<i+vs.length then vs[k-i]? else t.get k
 |[],i,t,k=>by rw[if_neg (by rw[List.length_nil];omega)];rfl
 |v::vs,i,t,k=>by
  simp only[Qb];rw[tmOf_get vs (i+1) (t.set i v) k,Tr.get_set];by_cases h:i+1≤k∧k<i+1+vs.length
  ·rw[if_pos h,if_pos (by simp;omega)];have:k-i=(k-(i+1))+1:=by omega
   rw[this];rfl
  ·rw[if_neg h];by_cases e:k=i;·subst e;rw[if_pos rfl,if_pos (by simp)];simp
   ·rw[if_neg e,if_neg (by simp;omega)]
theorem loadVar_run{B:Nat}{S:Nat→Prop}{L:Nat→Loc}{H:AH}{w:World}{P:Program}(hI:Inv B S L H w){t:TypeId}{x x' v:Value}(h:Ys P H t x=some v)(hx:VR S L x x'): ∃v',(do loadVar t (←asAddr x'):Sem Value).run P w= .ok v' w∧VR S L v v':=by
 obtain⟨v',h1,h2⟩:=loadV_run (P:=P) hI h hx;refine⟨v',?_,h2⟩;unfold Ys at h;split at h<;>first|(cases h;done)|skip
 cases hx with|ptr i o hS=>simp only[Instr.loadAt,Instr.sureAddr,Sem.run_bind,Sem.run_pure,Result.andThen_ok]at h1;simp only[asAddr,Sem.run_bind,Sem.run_pure,Result.andThen_ok,h1]
def resSem(tmps:Array Value)(r:ResultVar):Sem Value:=match r with| .tmp t=>pure (tmps.getD t undef)| .cell c t=>do loadVar t (←asAddr (tmps.getD c undef))
theorem results_eq(fn:Func)(tmps:Array Value):results fn tmps=(do let vs←fn.results.mapM (resSem tmps);pure (if h:vs.size=1 then vs[0]else .tuple vs)):=rfl
theorem Zq1{Df:List Deferred}{B:Nat}{S:Nat→Prop}{L:Nat→Loc}{w:World}{P:Program}{s:St}{a:Act}(hA:AI Df S L s.k s.tm a)(hI:Inv B S L s.H w): ∀(rs:List ResultVar)(vs:List Value),Zu P s rs=some vs→ ∃vs',(rs.mapM (resSem a.tmps):Sem (List Value)).run P w= .ok vs' w∧VRs S L vs vs'
 |[],vs,h=>by simp only[Zu]at h;obtain rfl:=Option.some.inj h;exact⟨[],by simp,.nil⟩
 |r::rs,vs,h=>by simp only[Zu]at h;cases hr:Yr P s r with
  |none=>rw[hr]at h;cases h
  |some v=>rw[hr]at h;simp only at h;cases hrs:Zu P s rs with
   |none=>rw[hrs]at h;cases h
   |some vs1=>
    rw[hrs]at h;obtain rfl:=Option.some.inj h;obtain⟨vs',h1,h2⟩:=Zq1 hA hI rs vs1 hrs;have hone: ∃v',(resSem a.tmps r).run P w= .ok v' w∧VR S L v v':=by cases r with
     |tmp t=>exact⟨_,rfl,(hA.tmp t v hr).2⟩
     |cell c t=>simp only[Yr]at hr;cases hc:s.tm.get c with|none=>rw[hc]at hr;cases hr|some x=>rw[hc]at hr;exact loadVar_run hI hr (hA.tmp c x hc).2
    obtain⟨v',h3,h4⟩:=hone;refine⟨v'::vs',?_,.cons h4 h2⟩;rw[List.mapM_cons];simp only[Sem.run_bind,h3,Result.andThen_ok,h1,Sem.run_pure]
theorem Ct{Df:List Deferred}{B:Nat}{S:Nat→Prop}{L:Nat→Loc}{w:World}{P:Program}{s:St}{a:Act}(hA:AI Df S L s.k s.tm a)(hI:Inv B S L s.H w){fn:Func}{vs:List Value}(h:Zu P s fn.results.toList=some vs): ∃v',(results fn a.tmps).run P w= .ok v' w∧VR S L (Yw vs) v':=by
 obtain⟨vs',h1,h2⟩:=Zq1 (P:=P) hA hI _ _ h;have h3:(results fn a.tmps).run P w= .ok (if h:vs'.toArray.size=1 then vs'.toArray[0]else .tuple vs'.toArray) w:=by rw[results_eq,Array.mapM_eq_mapM_toList];simp only[Sem.run_bind,Sem.run_map,h1,Result.andThen_ok,Sem.run_pure]
 refine⟨_,h3,?_⟩;match vs,vs',h2 with
  |[v],[v'],h2=>exact h2.2 0 v v' rfl rfl
  |[],[],h2=>exact .tuple _ _ rfl (fun k v v' h=>by simp at h)
  |v::u::r,v'::u'::r',h2=>
   have e: ¬ ((v'::u'::r').toArray.size=1):=by simp
   rw[dif_neg e];exact .tuple _ _ (by simpa using h2.1) (fun k x y hx hy=>h2.2 k x y (by simpa using hx) (by simpa using hy))
  |[],_::_,h2=>have:=h2.1;simp at this
  |[v],[],h2=>have:=h2.1;simp at this
  |[v],_::_::_,h2=>have:=h2.1;simp at this
  |_::_::_,[],h2=>have:=h2.1;simp at this
  |_::_::_,[_],h2=>have:=h2.1;simp at this
section
variable {P : Program} {C : Cfg} {B : Nat}
theorem dcallV_ok{S:Nat→Prop}{L:Nat→Loc}{tm:Tr Value}{a:Act}{c:Call}{g:FuncId}{args:List Value}(hx: ∀x∈c.operands,∀u,opd C tm x=some u→VR S L u (a.eval x))(h:Qo C tm c=some (g,args))(ty:TypeId): ∃fs' cs':Array Value,∃xs':List Value,(∀w,(resolve a.eval c ty).run P w= .ok { target:= .fn (.func g) cs',args:=fs'++xs'.toArray } w)∧VRs S L args (fs'.toList++xs'++cs'.toList):=by
 obtain⟨callee,cargs,cts⟩:=c;unfold Qo at h;cases callee<;>simp only at h<;>first|(cases h;done)|skip
 rename_i f;split at h<;>first|(cases h;done)|skip
 rename_i fv h1;split at h<;>first|(cases h;done)|skip
 rename_i g' fs cs xs h3 h4;injection h with h;injection h with e1 e2;subst e1;subst e2;have hf:=hx f (by simp[Call.operands]) _ h1;have hxs:=Cg (ρ:=a.eval) (fun x hx' u h=>hx x (by simp only[Call.operands,Array.mem_append];exact .inr (by simpa using hx')) u h) h4;generalize hfe:a.eval f=f' at hf;unfold Yb at h3;split at h3<;>first|(cases h3;done)|skip
 rename_i g0 fs0 cs0;injection h3 with h3;injection h3 with h5 h6;injection h6 with h6 h7;subst h5;subst h6;subst h7;cases hf with
  |func _ _ fs' _ cs' e1 q1 e2 q2=>
   have hfs:VRs S L fs0.toList fs'.toList:=⟨by simpa using e1,fun k x y hx hy=>q1 k x y (by simpa using hx) (by simpa using hy)⟩;have hcs:VRs S L cs0.toList cs'.toList:=⟨by simpa using e2,fun k x y hx hy=>q2 k x y (by simpa using hx) (by simpa using hy)⟩;refine⟨fs',cs',cargs.toList.map a.eval,fun w=>?_,(hfs.append hxs).append hcs⟩;have e:cargs.map a.eval=(cargs.toList.map a.eval).toArray:=by apply Array.ext';simp
   simp[resolve,hfe,Deferred.ofValue,e]
theorem evPan_ok{Df:List Deferred}{call callP:FuncId→List Value→AH→Option (Value×AH)}(hcall:Fq P C B call)(hcp:CallOkP P C B callP){ops:Array Oper}{Q:Exit→Act→World→Prop} : ∀(l:List Oper)(k:Nat)(s:St)(ex:Ex)(s':St)(S:Nat→Prop)(L:Nat→Loc)(a:Act)(w:World),GO C S L→(∀j,l[j]?=ops[k+j]?)→Cc P C call callP ops l s=some (ex,s')→AI Df S L s.k s.tm a→Inv B S L s.H w→(∀e a' w',Cy Df B S L s.H w ex s' e a' w'→Q e a' w')→wpOps P ops Q (List.range' k l.length) a w
 |[],k,s,ex,s',S,L,a,w,hG,hl,h,hA,hI,hQ=>by cases h
 |o::rest,k,s,ex,s',S,L,a,w,hG,hl,h,hA,hI,hQ=>by
  have h0:ops[k]?=some o:=by simpa using(hl 0).symm
  have hl': ∀j,rest[j]?=ops[k+1+j]?:=fun j=>by have:=hl (j+1);simpa[Nat.add_assoc,Nat.add_comm 1 j]using this
  rw[List.length_cons,List.range'_succ,wpOps_cons];unfold wpOp;rw[h0];dsimp only;simp only[Cc]at h;split at h<;>first|(cases h;done)|skip
  ·rename_i hw;rw[Fb hw (hA.guard o),if_pos rfl];split at h
   ·rename_i v H1 hp;injection h with h;injection h with e1 e2;subst e1;subst e2;refine .inl ?_;unfold Oper.wp;unfold Fp at hp;split at hp<;>first|(cases hp;done)|skip
    ·rename_i x hop;split at hp<;>first|(cases hp;done)|skip
     rename_i t u hx;injection hp with hp;injection hp with e1 e2;subst e1;subst e2;have hv:=opd_vr hG hA hx;generalize hxe:a.eval x=x' at hv;have hrun:(execOp a.eval o).run P w= .halt (.panic x') w:=by obtain⟨dst,op,ty,pos,after,guard⟩:=o;simp only at hop;subst hop;cases hv with|iface _ _ u' hu=>simp[execOp,hxe,Instr.panic]
     rw[hrun];exact hQ _ a w ⟨x',rfl,L,hA.mono (fun _ h=> .inl h) (fun _ _=>rfl),hI.mono (fun _ h=> .inl h) (fun i h=>hI.bd i (Vq h)),Fr.refl hI,hv.mono (fun _ h=> .inl h) (fun _ _=>rfl)⟩
    ·rename_i c hop;split at hp<;>first|(cases hp;done)|skip
     rename_i g args hd;obtain⟨dst,op,ty,pos,after,guard⟩:=o;simp only at hop;subst hop;obtain⟨fs',cs',xs',h2,h3⟩:=dcallV_ok (P:=P) (fun x _ u hx=>opd_vr hG hA hx) hd ty;obtain⟨h4,h5⟩:=hcp g args s.H v H1 hp S L w _ hG hI h3;have e:fs'++xs'.toArray++cs'=(fs'.toList++xs'++cs'.toList).toArray:=by apply Array.ext';simp
     have hrun:(execOp a.eval { dst,op:=Op.call c,type:=ty,pos,after,guard }).run P w= .ok (.enter g (fs'.toList++xs'++cs'.toList).toArray) w:=by simp only[execOp,Sem.run_bind,h2,Result.andThen_ok,invoke];rw[e,h4]
     rw[hrun];refine Calls.mono h5 fun e w' ⟨v',he,hg⟩=>?_;subst he;obtain⟨L1,g1,g2,g3⟩:=hg;exact hQ _ a w' ⟨v',rfl,L1,hA.mono (fun _ h=> .inl h) g2.agree,g1,g2,g3⟩
   ·split at h<;>first|(cases h;done)|skip
    rename_i v H1 hop;split at h<;>first|(cases h;done)|skip
    rename_i s1 hput;refine .inl ((Uv hcall hG hI (fun x _ u hx=>opd_vr hG hA hx) hop).wp fun v' w1 hgood=>?_);obtain⟨L1,g1,g2,g3⟩:=hgood;obtain⟨e1,e2,_⟩:=Jo hput;subst e1;refine evPan_ok hcall hcp rest (k+1) s1 ex s' _ L1 _ w1 (hG.mono (fun _ h=> .inl h) g2.agree) hl' h (hA.put (fun _ h=> .inl h) g2.agree g3 hput) g1 fun e a' w' hd=>hQ e a' w' (hd.trans hI g1 g2)
  ·rename_i hw;rw[Fb hw (hA.guard o),if_neg (by simp)];split at h<;>first|(cases h;done)|skip
   rename_i s1 hput;obtain⟨e1,e2,_⟩:=Jo hput;refine evPan_ok hcall hcp rest (k+1) s1 ex s' S L _ w hG hl' h (hA.put (fun _ h=>h) (fun _ _=>rfl) Zd4 hput) (by rw[e1];exact hI) fun e a' w' hd=>hQ e a' w' (by rw[e1]at hd;exact hd)
end
theorem then_of{next:Act→World→Prop}{Q:Exit→Act→World→Prop}{e:Exit}{a:Act}{w:World}(h:e≠ .normal)(hQ:Q e a w):Exit.then next Q e a w:=by cases e<;>first|exact absurd rfl h|exact hQ
theorem step_ok{P:Program}{C:Cfg}{B:Nat}(hC:CfgOk P C){ih:Lv}(hih:LvOk P C B ih)(hcO:Zd6 P C B (Jx P C ih)):CodeOk P C B (Js P C ih):=by
 have hcall:Fq P C B (Qh P C ih):=hcO.ret;have hcp:CallOkP P C B (Jc P C ih):=hcO.pan;have ih:=hih.code;intro c s ex s' h Df S L a w hG hA hI Q hQ;cases c<;>simp only[Js]at h<;>first|(cases h;done)|skip
 case skip=>injection h with h;injection h with h1 h2;subst h1;subst h2;exact⟨wp_skip (hQ _ a w ⟨rfl,Ee.refl hA hI⟩),fun _ e=>by cases e⟩
 case exit id=>injection h with h;injection h with h1 h2;subst h1;subst h2;exact⟨wp_exit (hQ _ a w ⟨rfl,Ee.refl hA hI⟩),fun _ e=>by cases e⟩
 case ret=>injection h with h;injection h with h1 h2;subst h1;subst h2;exact⟨wp_ret (hQ _ a w ⟨rfl,Ee.refl hA hI⟩),fun _ e=>by cases e⟩
 case region id ops draw=>
  split at h;·rename_i s1 hr;injection h with h;injection h with h1 h2;subst h1;subst h2;exact⟨evRegion_ok hC.mixed hcall hr hG hA hI (fun a' w' hd=>hQ _ a' w' ⟨rfl,hd⟩) id,fun _ e=>by cases e⟩
  ·cases draw with|true=>cases h|false=>rw[cond_false]at h;refine⟨wp_region ?_,fun _ e=>by cases e⟩;have:=evPan_ok (Q:=Q) hcall hcp ops.toList 0 s ex s' S L a w hG (fun j=>by simp) h hA hI hQ;rw[List.range_eq_range'];simpa using this
 case seq x y=>
  refine⟨wp_seq ?_,fun _ e=>by cases e⟩;split at h;·rename_i s1 hx;refine(ih x s .norm s1 hx Df S L a w hG hA hI _ fun e a1 w1 hd=>?_).1;obtain⟨rfl,hd⟩:=hd;obtain⟨L1,d1,d2,d3⟩:=hd;exact(ih y s1 ex s' h Df _ L1 a1 w1 (hG.mono (fun _ h=> .inl h) d3.agree) d1 d2 Q fun e a2 w2 hd2=>hQ e a2 w2 (hd2.trans hI d2 d3)).1
  ·rename_i hne;refine(ih x s ex s' h Df S L a w hG hA hI _ fun e a1 w1 hd=>then_of (hd.not_normal fun e=>?_) (hQ e a1 w1 hd)).1;subst e;exact hne s' h
 case cond x y z=>
  refine⟨?_,fun _ e=>by cases e⟩;split at h<;>first|(cases h;done)|skip
  rename_i t hx;have hv:=opd_vr2 hG (fun t v _ hv=>(hA.tmp t v hv).2) hx;generalize hxe:a.eval x=u at hv;cases hv;refine wp_cond hxe ?_;have:=(ih (cond t y z) s ex s' h Df S L a w hG hA hI Q hQ).1;cases t<;>exact this
 case block id body=>
  refine⟨wp_block ?_,fun _ e=>by cases e⟩;split at h;·rename_i j s1 hb;refine(ih body s (.exit j) s1 hb Df S L a w hG hA hI _ fun e a1 w1 hd=>?_).1;obtain⟨rfl,hd⟩:=hd;cases hj:Nat.beq j id with
   |true=>rw[hj,cond_true]at h;injection h with h;injection h with h1 h2;subst h1;subst h2;have e:=Nat.eq_of_beq_eq_true hj;show Exit.inBlock id Q (.exit j) a1 w1;simp only[Exit.inBlock,e,if_true];exact hQ _ a1 w1 ⟨rfl,hd⟩
   |false=>
    rw[hj,cond_false]at h;injection h with h;injection h with h1 h2;subst h1;subst h2;have e:j≠id:=fun e=>by subst e;rw[Nat.beq_refl]at hj;cases hj
    show Exit.inBlock id Q (.exit j) a1 w1;simp only[Exit.inBlock,e,if_false];exact hQ _ a1 w1 ⟨rfl,hd⟩
  ·rename_i hne;refine(ih body s ex s' h Df S L a w hG hA hI _ fun e a1 w1 hd=>?_).1;cases ex with|norm=>rw[hd.1];exact hQ _ a1 w1 ⟨rfl,hd.2⟩|exit j=>exact absurd h (hne j s')|ret=>rw[hd.1];exact hQ _ a1 w1 ⟨rfl,hd.2⟩|pan v=>have:=hQ e a1 w1 hd;obtain⟨v',rfl,_⟩:=hd;exact this
 case loop body=>
  have key:LW P body Q a w:=by
   intro b k cs;split at h;·rename_i s1 hb;have h1:=(ih body s .norm s1 hb Df S L a w hG hA hI (fun e a1 w1=>e= .normal∧Ee Df B S L s.H w s1 a1 w1) fun e a1 w1 hd=>hd).1;obtain⟨e,a1,w1,⟨rfl,hd⟩,harr⟩:=h1 b (.inLoop body::k) cs;obtain⟨L1,d1,d2,d3⟩:=hd;have h2:=(ih (.loop body) s1 ex s' h Df _ L1 a1 w1 (hG.mono (fun _ h=> .inl h) d3.agree) d1 d2 Q fun e a2 w2 hd2=>hQ e a2 w2 (hd2.trans hI d2 d3)).2 body rfl;obtain⟨e2,a2,w2,hq,harr2⟩:=h2 b k cs;have harr':Steps P (lone (b.at a (.code body:: .inLoop body::k)) cs w) (lone (b.at a1 (.inLoop body::k)) cs w1):=harr;exact⟨e2,a2,w2,hq,.of_steps (harr'.trans (.one step_inLoop)) harr2⟩
   ·rename_i hne;have h1:=(ih body s ex s' h Df S L a w hG hA hI (Exit.then (fun _ _=>False) Q) fun e a1 w1 hd=>then_of (hd.not_normal fun e=>by subst e;exact hne s' h) (hQ e a1 w1 hd)).1;obtain⟨e,a1,w1,hq,harr⟩:=h1 b (.inLoop body::k) cs;have hne':e≠ .normal:=fun e'=>by subst e';exact hq
    refine⟨e,a1,w1,?_,.pass (x:= .inLoop body) rfl (fun a w=> .inl hne') harr⟩;cases e<;>first|exact hq.elim|exact hq
  exact⟨key.wp,fun body' e=>by cases e;exact key⟩
section
variable {P : Program} {C : Cfg} {B : Nat}
theorem evS_ok(hC:CfgOk P C){ih:Lv}(hih:LvOk P C B ih){rv:Value}{cs cs':List Frame}(hrec:recoverD cs=some (rv,cs')∨(recoverD cs=none∧rv= .nilIface∧cs'=cs)): ∀(c:Code)(s:St)(ex:Ex)(s':St),evS P C ih rv c s=some (ex,s')→(ex= .norm∨ex= .ret)∧ ∀S L a w,GO C S L→AI [] S L s.k s.tm a→Inv B S L s.H w→ ∀Q:Exit→Act→List Frame→World→Prop,(∀a' w',Ee [] B S L s.H w s' a' w'→Q (exitOf ex) a' cs' w')→c.wpS P Q a cs w:=by intro c;induction c with
 |seq x y ihx ihy=>intro s ex s' h;simp only[evS]at h;cases hf:Bk x with
  |true=>
   rw[hf,cond_true]at h;split at h<;>first|(cases h;done)|skip
   rename_i s1 h1;have hnr:ih.code y s1=some (ex,s')∧(ex= .norm∨ex= .ret):=by
    unfold Zl6 at h;split at h<;>first|(cases h;done)|skip
    ·rename_i s2 e;injection h with h;injection h with e1 e2;subst e1;subst e2;exact⟨e,.inl rfl⟩
    ·rename_i s2 e;injection h with h;injection h with e1 e2;subst e1;subst e2;exact⟨e,.inr rfl⟩
   refine⟨hnr.2,fun S L a w hG hA hI Q hQ=>wpS_seq ((ihx s .norm s1 h1).2 S L a w hG hA hI _ fun a1 w1 hd=>?_)⟩;obtain⟨L1,d1,d2,d3⟩:=hd;show y.wpS P Q a1 cs' w1;refine wpS_of_wp (hih.code y s1 ex s' hnr.1 [] _ L1 a1 w1 (hG.mono (fun _ h=> .inl h) d3.agree) d1 d2 _ fun e a2 w2 hd2=>?_).1;have hd3:=hd2.trans hI d2 d3;rcases hnr.2 with e1|e1<;>(subst e1;rw[hd3.1];exact hQ a2 w2 hd3.2)
  |false=>
   rw[hf,cond_false]at h;split at h<;>first|(cases h;done)|skip
   rename_i s1 h1;obtain⟨g1,g2⟩:=ihy s1 ex s' h;refine⟨g1,fun S L a w hG hA hI Q hQ=>wpS_seq (wpS_of_wp (hih.code x s .norm s1 h1 [] S L a w hG hA hI _ fun e a1 w1 hd=>?_).1)⟩;obtain⟨rfl,hd⟩:=hd;obtain⟨L1,d1,d2,d3⟩:=hd;exact g2 _ L1 a1 w1 (hG.mono (fun _ h=> .inl h) d3.agree) d1 d2 Q fun a2 w2 hd2=>hQ a2 w2 (hd2.trans hI d2 d3)
 |region id ops draw=>intro s ex s' h;simp only[evS]at h;cases ho:Cs ops with
  |false=>rw[ho]at h;cases h
  |true=>
   rw[ho,cond_true]at h;split at h<;>first|(cases h;done)|skip
   rename_i s1 h1;injection h with h;injection h with e1 e2;subst e1;subst e2;refine⟨.inl rfl,fun S L a w hG hA hI Q hQ=>?_⟩;have hreg:=Zk2 (Q:=fun e a' w'=>e= .normal∧Ee [] B S L s.H w s1 a' w') hC.mixed hih.call h1 hG hA hI fun a' w' hd=>⟨rfl,hd⟩;exact sub_region hC.mixed (fun e a w q=>q.1) hrec (fun a w q=>hQ a w q.2) ho (fun e=>by subst e;exact evRegion_regOk h1) hreg id
 |_=>intro s ex s' h;cases h
theorem enter_ai{S:Nat→Prop}{L:Nat→Loc}{args args':List Value}(hargs:VRs S L args args')(n:Nat):AI [] S L (args.length+(n-args.length)) (Qb 0 args .nil) { tmps:=args'.toArray++Array.replicate (n-args'.toArray.size) undef,defers:=[] } :=by
 have hlen:=hargs.1;refine⟨rfl,by simp[hlen],fun t u hu=>?_⟩;rw[tmOf_get]at hu;split at hu
 ·rename_i ht;simp only[Nat.sub_zero]at hu;obtain⟨u',h1,h2⟩:=hargs.get hu;have hlt:t<args'.length:=by omega
  refine⟨by omega,?_⟩;have:(args'.toArray++Array.replicate (n-args'.toArray.size) undef).getD t undef=u':=by rw[Array.getD_eq_getD_getElem?];rw[Array.getElem?_append,if_pos (by simpa using hlt),List.getElem?_toArray,h1];rfl
  show VR S L u ((args'.toArray++Array.replicate (n-args'.toArray.size) undef).getD t undef);rw[this];exact h2
 ·cases hu
theorem run_enter(hC:CfgOk P C){f:FuncId}{fn:Func}{c:Code}(hfn:P.funcs[f]?=some fn)(hbody:fn.body=some c)(args:Array Value)(w:World):(callFunc f args).run P w= .ok (.enter f args) w:=by
 have hname:=hC.names f fn hfn (by rw[hbody];rfl);have hname':fn.name≠ "runtime.NumGoroutine":=by simpa using hname
 simp[callFunc,hfn,hname',hbody]
def Um:FrameMode→FrameMode| .panicking [{ v:=v,recovered:=false,goexit:=false }]=> .panicking [{ v:=v,recovered:=true }]|m=>m
theorem settle_after{u:FrameMode}(h:u= .returning∨ ∃v,u= .panicking [{ v:=v,recovered:=false }]):settle (Um u)= .returning:=by rcases h with rfl|⟨v,rfl⟩<;>rfl
theorem rec_after{u:FrameMode}{rv:Value}(h:(u= .returning∧rv= .nilIface)∨u= .panicking [{ v:=rv,recovered:=false }])(c:Frame)(hc:c.mode=u)(cs:List Frame):recoverD (c::cs)=some (rv,{ c with mode:=Um u } ::cs)∨(recoverD (c::cs)=none∧rv= .nilIface∧({ c with mode:=Um u } ::cs)=c::cs):=by
 rcases h with⟨rfl,rfl⟩|rfl;·right;refine⟨by simp[recoverD,hc],rfl,?_⟩;rw[show Um .returning=c.mode from hc.symm]
 ·left;simp[recoverD,hc];rfl
theorem evDef_ok(hC:CfgOk P C){ih:Lv}(hih:LvOk P C B ih){g:FuncId}{args:List Value}{rv:Value}{H H':AH}(h:Zb6 P C ih g args rv H=some H'){S:Nat→Prop}{L:Nat→Loc}{w:World}{args':List Value}(hG:GO C S L)(hI:Inv B S L H w)(ha:VRs S L args args'){u:FrameMode}(hu:(u= .returning∧rv= .nilIface)∨u= .panicking [{ v:=rv,recovered:=false }]): ∃fn,P.funcs[g]?=some fn∧fn.body.isSome=true∧CallsD P g args'.toArray u w fun e u' w'=>(∃v,e= .returned v)∧u'=Um u∧ ∃L',Inv B (ext S H.n H'.n) L' H' w'∧Fr S L H w L' H' w':=by
 unfold Zb6 at h;split at h<;>first|(cases h;done)|skip
 rename_i fn hfn;split at h<;>first|(cases h;done)|skip
 rename_i c hbody;refine⟨fn,hfn,by rw[hbody];rfl,callsD_of_wpS hfn hbody fun c₀ cs hc=>?_⟩;have hrec:=rec_after hu c₀ hc cs;have fin: ∀(ex:Ex)(s1:St)(vs:List Value),(ex= .norm∨ex= .ret)→Zu P s1 fn.results.toList=some vs→s1.H=H'→ ∀a' w',Ee [] B S L H w s1 a' w'→bodyPostS P fn c₀ cs (fun e u' w'=>(∃v,e= .returned v)∧u'=Um u∧ ∃L',Inv B (ext S H.n H'.n) L' H' w'∧Fr S L H w L' H' w') (exitOf ex) a' ({ c₀ with mode:=Um u } ::cs) w':=fun ex s1 vs hex hr he a' w' hd=>by obtain⟨L',d1,d2,d3⟩:=hd;obtain⟨v',r1,r2⟩:=Ct (P:=P) d1 d2 hr;subst he;have:a'.defers=[]∧ ∃u',({ c₀ with mode:=Um u } ::cs)= { c₀ with mode:=u' } ::cs∧ ∃v,(results fn a'.tmps).run P w'= .ok v w'∧(∃v1,Ending.returned v= .returned v1)∧u'=Um u∧ ∃L',Inv B (ext S H.n s1.H.n) L' s1.H w'∧Fr S L H w L' s1.H w':=⟨d1.defers,Um u,rfl,v',r1,⟨v',rfl⟩,rfl,L',d2,d3⟩;rcases hex with rfl|rfl<;>exact this
 split at h<;>first|(cases h;done)|skip
 ·rename_i s1 he;split at h<;>first|(cases h;done)|skip
  rename_i vs hr;exact(evS_ok hC hih hrec c _ _ _ he).2 S L _ w hG (enter_ai ha fn.ntmps) hI _ (fin _ s1 vs (.inl rfl) hr (Option.some.inj h))
 ·rename_i s1 he;split at h<;>first|(cases h;done)|skip
  rename_i vs hr;exact(evS_ok hC hih hrec c _ _ _ he).2 S L _ w hG (enter_ai ha fn.ntmps) hI _ (fin _ s1 vs (.inr rfl) hr (Option.some.inj h))
theorem defForm_some{c:Code}{a:Code}{ops:Array Oper}{o1:Oper}{dc:Call}{rest:Code}(h:Bz c=some (a,ops,o1,dc,rest)): ∃id ty pos after,c= .seq a (.seq (.region id ops false) rest)∧ops.toList=[o1,⟨none,.defer dc,ty,pos,after,none⟩]:=by
 unfold Bz at h;split at h<;>first|(cases h;done)|skip
 rename_i a' id ops' rest';unfold defOps at h;split at h<;>first|(cases h;done)|skip
 rename_i o1' c' ty pos after hops;injection h with h;injection h with e1 h;injection h with e2 h;injection h with e3 h;injection h with e4 e5;subst e1;subst e2;subst e3;subst e4;subst e5;exact⟨id,ty,pos,after,rfl,hops⟩
theorem recOf_spec{ex:Ex}{rv:Value}(h:Kk ex=some rv){Df:List Deferred}{S:Nat→Prop}{L:Nat→Loc}{H:AH}{w:World}{s':St}{e:Exit}{a':Act}{w':World}(hd:Cy Df B S L H w ex s' e a' w'):Ee Df B S L H w s' a' w'∧(((e= .normal∨e= .ret)∧rv= .nilIface)∨e= .panic [{ v:=rv,recovered:=false }]):=by
 unfold Kk at h;split at h<;>first|(cases h;done)|skip
 ·obtain rfl:=Option.some.inj h;exact⟨hd.2,.inl ⟨.inl hd.1,rfl⟩⟩
 ·obtain rfl:=Option.some.inj h;exact⟨hd.2,.inl ⟨.inr hd.1,rfl⟩⟩
 ·rename_i v;cases hp:plain v with
  |false=>rw[hp]at h;cases h
  |true=>
   rw[hp,cond_true]at h;split at h<;>first|(cases h;done)|skip
   obtain rfl:=Option.some.inj h;obtain⟨v',he,L',d1,d2,d3,d4⟩:=hd;obtain rfl:=plain_eq hp d4;exact⟨⟨L',d1,d2,d3⟩,.inr he⟩
theorem call_ok(hC:CfgOk P C){ih:Lv}(hih:LvOk P C B ih):Zd6 P C B (Jx P C ih):=by intro f args H o H' h S L w args' hG hI hargs;unfold Jx at h;cases hfa:Nat.beq f C.add with
 |true=>
  rw[hfa,cond_true]at h;obtain rfl:=Nat.eq_of_beq_eq_true hfa;split at h<;>first|(cases h;done)|skip
  rename_i x y c hn;injection h with h;injection h with h1 h2;subst h1;subst h2;obtain⟨rfl,hc⟩:=Zp2 hn hargs;obtain⟨fn,e1,e2,e3,e4,e5⟩:=hC.add;refine .inl ⟨_,_,w,rfl,?_,Good.same hI (v':= .tuple #[.int .u64 (Int.ofNat ((x+y+c)%18446744073709551616)),.int .u64 (Int.ofNat ((x+y+c)/18446744073709551616))]) (Ks rfl)⟩;rw[run_callFunc_extern e1 e2 e3 e4 e5];show((add64Entry #[.int .u64 x,.int .u64 y,.int .u64 c]).run P w).andThen _=_;rw[run_add x y c hc w];rfl
 |false=>rw[hfa,cond_false]at h;cases hfs:Nat.beq f C.sub with
  |true=>
   rw[hfs,cond_true]at h;obtain rfl:=Nat.eq_of_beq_eq_true hfs;split at h<;>first|(cases h;done)|skip
   rename_i x y c hn;injection h with h;injection h with h1 h2;subst h1;subst h2;obtain⟨rfl,hc⟩:=Zp2 hn hargs;obtain⟨fn,e1,e2,e3,e4,e5⟩:=hC.sub;refine .inl ⟨_,_,w,rfl,?_,Good.same hI (v':= .tuple #[.int .u64 (Int.ofNat ((x+18446744073709551616-y-c)%18446744073709551616)),.int .u64 (cond (Nat.blt x (y+c)) 1 0)]) (Ks rfl)⟩;rw[run_callFunc_extern e1 e2 e3 e4 e5];show((Zm3 #[.int .u64 x,.int .u64 y,.int .u64 c]).run P w).andThen _=_;rw[run_sub x y c hc w];rfl
  |false=>
   rw[hfs,cond_false]at h;split at h<;>first|(cases h;done)|skip
   rename_i fn hfn;split at h<;>first|(cases h;done)|skip
   rename_i c hbody;have hA:=enter_ai hargs fn.ntmps;right;refine⟨run_enter hC hfn hbody _ w,?_⟩;unfold Dz at h;split at h
   ·rename_i x a ops o1 dc rest hdf;obtain⟨id,ty,pos,after,rfl,hops⟩:=defForm_some hdf;unfold Uu at h;split at h<;>first|(cases h;done)|skip
    rename_i s1 ha;split at h<;>first|(cases h;done)|skip
    rename_i s2 hl;split at h<;>first|(cases h;done)|skip
    rename_i g dargs hd;split at h<;>first|(cases h;done)|skip
    rename_i ex s3 hr;split at h<;>first|(cases h;done)|skip
    rename_i rv hrv;split at h<;>first|(cases h;done)|skip
    rename_i H4 hdef;split at h<;>first|(cases h;done)|skip
    rename_i vs hres;injection h with h;injection h with h1 h2;subst h1;subst h2;refine calls_of_wp_defers hfn hbody (wp_seq ((hih.code a _ .norm s1 ha [] S L _ w hG hA hI _ fun e a1 w1 hd1=>?_).1));obtain⟨rfl,hd1⟩:=hd1;obtain⟨L1,d1,d2,d3⟩:=hd1;have hG1:=hG.mono (S':=ext S H.n s1.H.n) (L':=L1) (fun _ h=> .inl h) d3.agree;refine wp_seq (wp_region ?_);have hsz:ops.size=2:=by have:=congrArg List.length hops;simpa using this
    have ho1:ops[0]?=some o1:=by rw[←Array.getElem?_toList,hops];rfl
    have ho2:ops[1]?=some ⟨none,.defer dc,ty,pos,after,none⟩:=by rw[←Array.getElem?_toList,hops];rfl
    rw[hsz];show wpOps P ops _ [0,1] a1 w1;have next: ∀(a2:Act)(w2:World),Ee [] B (ext S H.n s1.H.n) L1 s1.H w1 s2 a2 w2→wpOps P ops (Exit.then (fun a' w'=>rest.wp P (bodyPostD P fn fun e w'=>EndIs B S L H w (.ret (Yw vs)) H4 e w') a' w') (bodyPostD P fn fun e w'=>EndIs B S L H w (.ret (Yw vs)) H4 e w')) [1] a2 w2:=fun a2 w2 hd2=>by
     have hd2':=hd2.trans hI d2 d3;obtain⟨L2,f1,f2,f3⟩:=hd2';have hG2:=hG.mono (S':=ext S H.n s2.H.n) (L':=L2) (fun _ h=> .inl h) f3.agree;rw[wpOps_cons];unfold wpOp;rw[ho2];dsimp only;have hwant:Region.wanted ⟨none,.defer dc,ty,pos,after,none⟩ (yielded ops a2.tmps)=true:=rfl;rw[hwant,if_pos rfl];refine .inl ?_;obtain⟨fs',cs',xs',q1,q2⟩:=dcallV_ok (P:=P) (fun x _ u hx=>opd_vr hG2 f1 hx) hd ty;have hrun:(execOp a2.eval ⟨none,.defer dc,ty,pos,after,none⟩).run P w2= .ok (.defer { target:= .fn (.func g) cs',args:=fs'++xs'.toArray }) w2:=by simp only[execOp,Sem.run_bind,q1,Result.andThen_ok,Sem.run_pure]
     unfold Oper.wp;rw[hrun];have f1d:=f1.defers;show rest.wp P _ { a2 with defers:= { target:= .fn (.func g) cs',args:=fs'++xs'.toArray } ::a2.defers } w2;rw[f1d];have hA2:AI [{ target:= .fn (.func g) cs',args:=fs'++xs'.toArray }] (ext S H.n s2.H.n) L2 s2.k s2.tm { a2 with defers:=[{ target:= .fn (.func g) cs',args:=fs'++xs'.toArray }] } :=⟨rfl,f1.size,f1.tmp⟩;refine(hih.code rest s2 ex s3 hr _ _ L2 _ w2 hG2 hA2 f2 _ fun e a3 w3 hd3=>?_).1;obtain⟨hd3,hmode⟩:=recOf_spec hrv hd3;obtain⟨L3,g1,g2,g3⟩:=hd3;rw[ext_ext f3.n g3.n]at g1 g2;have g30:=f3.trans hI f2 (fun _ h=> .inl h) g3;have hG3:=hG.mono (S':=ext S H.n s3.H.n) (L':=L3) (fun _ h=> .inl h) g30.agree;have leave: ∀u:FrameMode,((u= .returning∧rv= .nilIface)∨u= .panicking [{ v:=rv,recovered:=false }])→Leaves P fn a3.tmps (fun e w'=>EndIs B S L H w (.ret (Yw vs)) H4 e w') a3.defers u w3:=fun u hu=>by
      rw[g1.defers];have hargs3:VRs (ext S H.n s3.H.n) L3 dargs (fs'.toList++xs'++cs'.toList):=q2.mono (fun i hi=>by
       rcases hi with hi|⟨h1,h2⟩;·exact .inl hi
       ·exact .inr ⟨h1,Nat.lt_of_lt_of_le h2 g3.n⟩) (fun i hi=>g3.agree i hi);obtain⟨fng,hfg,hbg,hcd⟩:=evDef_ok hC hih hdef hG3 g2 hargs3 hu;obtain⟨cg,hcg⟩: ∃cg,fng.body=some cg:=Option.isSome_iff_exists.mp hbg;have e:fs'++xs'.toArray++cs'=(fs'.toList++xs'++cs'.toList).toArray:=by apply Array.ext';simp
      refine leaves_cons (by rcases hu with⟨rfl,_⟩|rfl<;>simp) (f:=g) (args:=(fs'.toList++xs'++cs'.toList).toArray) (by simp only[invoke];rw[e];exact run_enter hC hfg hcg _ w3) (hcd.mono fun e u' w4 hx=>?_);obtain⟨⟨v4,rfl⟩,rfl,L4,i1,i2⟩:=hx;show Leaves P fn a3.tmps _ [] (settle (Um u)) w4;rw[settle_after (by rcases hu with⟨h,_⟩|h;exact .inl h;exact .inr ⟨_,h⟩)];rw[ext_ext g30.n i2.n]at i1;have g4:=g30.trans hI g2 (fun _ h=> .inl h) i2;have hA4:AI a3.defers (ext S H.n H4.n) L4 s3.k s3.tm a3:=⟨rfl,g1.size,fun t v ht=>⟨(g1.tmp t v ht).1,(g1.tmp t v ht).2.mono (fun i hi=>by
       rcases hi with hi|⟨h1,h2⟩;·exact .inl hi
       ·exact .inr ⟨h1,Nat.lt_of_lt_of_le h2 i2.n⟩) (fun i hi=>i2.agree i hi)⟩⟩;obtain⟨v',r1,r2⟩:=Ct (P:=P) (s:= { k:=s3.k,tm:=s3.tm,H:=H4 }) hA4 i1 hres;exact⟨v',r1,v',rfl,L4,i1,g4,r2⟩
     rcases hmode with⟨rfl|rfl,hnil⟩|rfl;·exact leave .returning (.inl ⟨rfl,hnil⟩)
     ·exact leave .returning (.inl ⟨rfl,hnil⟩)
     ·exact leave _ (.inr rfl)
    rw[wpOps_cons];unfold wpOp;rw[ho1];dsimp only;rw[Vi]at hl;split at hl<;>first|(cases hl;done)|skip
    ·rename_i hw;rw[Fb hw (d1.guard o1),if_pos rfl];split at hl<;>first|(cases hl;done)|skip
     rename_i v1 H1 hop;split at hl<;>first|(cases hl;done)|skip
     rename_i s2' hput;rw[Ca]at hl;obtain rfl:=Option.some.inj hl;refine .inl ((Uv hih.call hG1 d2 (fun x _ u hx=>opd_vr hG1 d1 hx) hop).wp fun v' w2 hgood=>?_);obtain⟨L2,p1,p2,p3⟩:=hgood;obtain⟨e1,e2,_⟩:=Jo hput;refine next _ w2 ⟨L2,?_,by rw[e1];exact p1,by rw[e1];exact p2⟩;have:=d1.put (S':=ext (ext S H.n s1.H.n) s1.H.n H1.n) (L':=L2) (fun _ h=> .inl h) p2.agree p3 hput;rw[e1];exact this
    ·rename_i hw;rw[Fb hw (d1.guard o1),if_neg (by simp)];split at hl<;>first|(cases hl;done)|skip
     rename_i s2' hput;rw[Ca]at hl;obtain rfl:=Option.some.inj hl;obtain⟨e1,e2,_⟩:=Jo hput;have:=d1.put (S':=ext S H.n s1.H.n) (L':=L1) (fun _ h=>h) (fun _ _=>rfl) Zd4 hput;refine next _ w1 ?_;have hdd:=Ee.refl (B:=B) (w:=w1) this (by rw[e1];exact d2);rw[e1]at hdd;exact hdd
   ·refine calls_of_wp hfn hbody ?_;unfold finO at h;split at h<;>first|(cases h;done)|skip
    ·rename_i s1 hcode;split at h<;>first|(cases h;done)|skip
     rename_i vs hr;injection h with h;injection h with h1 h2;subst h1;subst h2;refine(hih.code c _ _ s1 hcode [] S L _ w hG hA hI _ fun e a' w' hd=>?_).1;obtain⟨rfl,L',d1,d2,d3⟩:=hd;obtain⟨v',r1,r2⟩:=Ct (P:=P) d1 d2 hr;exact⟨d1.defers,v',r1,v',rfl,L',d2,d3,r2⟩
    ·rename_i s1 hcode;split at h<;>first|(cases h;done)|skip
     rename_i vs hr;injection h with h;injection h with h1 h2;subst h1;subst h2;refine(hih.code c _ _ s1 hcode [] S L _ w hG hA hI _ fun e a' w' hd=>?_).1;obtain⟨rfl,L',d1,d2,d3⟩:=hd;obtain⟨v',r1,r2⟩:=Ct (P:=P) d1 d2 hr;exact⟨d1.defers,v',r1,v',rfl,L',d2,d3,r2⟩
    ·rename_i v s1 hcode;injection h with h;injection h with h1 h2;subst h1;subst h2;refine(hih.code c _ _ s1 hcode [] S L _ w hG hA hI _ fun e a' w' hd=>?_).1;obtain⟨v',rfl,L',d1,d2,d3,d4⟩:=hd;exact⟨d1.defers,v',rfl,L',d2,d3,d4⟩
theorem lv_ok(hC:CfgOk P C): ∀n,LvOk P C B (lv P C n)|0=>⟨(fun c s ex s' h=>by rw[Zf1]at h;cases h),(fun f args H v H' h=>by rw[Zf1]at h;cases h)⟩|n+1=>by have ih:=lv_ok hC n;have hO:=call_ok hC ih;rw[Zf0];exact⟨step_ok hC ih hO,hO.ret⟩
theorem run_calls{P:Program}{C:Cfg}{B:Nat}(hC:CfgOk P C){n:Nat}{f:FuncId}{args args':List Value}{H H':AH}{v:Value}(h:run P C n f args H=some (v,H')){fn:Func}(hf:P.funcs[f]?=some fn)(hb:fn.body.isSome=true){S:Nat→Prop}{L:Nat→Loc}{w:World}(hG:GO C S L)(hI:Inv B S L H w)(ha:VRs S L args args'):Calls P f args'.toArray w fun e w'=> ∃v',e= .returned v'∧Good B S L H w v H' v' w':=by
 rcases(call_ok hC (lv_ok (B:=B) hC n)).ret f args H v H' h S L w args' hG hI ha with⟨v',w',h1,h2⟩|⟨_,h2⟩
 ·exfalso;have hname:=hC.names f fn hf hb;have hname':fn.name≠ "runtime.NumGoroutine":=by simpa using hname
  cases hbody:fn.body with|none=>rw[hbody]at hb;cases hb|some c=>rw[show(callFunc f args'.toArray).run P w= .ok (.enter f args'.toArray) w by simp[callFunc,hf,hname',hbody]]at h1;injection h1 with h1 _;cases h1
 ·exact h2
theorem Good.below{B:Nat}{S:Nat→Prop}{L:Nat→Loc}{H H':AH}{w w':World}{v v':Value}(hI:Inv B S L H w)(h:Good B S L H w v H' v' w'):Below B w w':=by
 obtain⟨L',g1,g2,g3⟩:=h;refine⟨g2.os,g2.tape,g2.output,g2.size,fun k hk=>?_⟩;rcases g2.frame k (Nat.lt_of_lt_of_le hk hI.base)with h1|⟨i,sz,cs,h1,h2,_⟩;·exact h1
 ·have:=(hI.rw i sz cs h1).2.1;omega
#print axioms run_calls
end
end
end Go.Proofs.YtmkfecoeghokfaaGreatDoor.Ev
