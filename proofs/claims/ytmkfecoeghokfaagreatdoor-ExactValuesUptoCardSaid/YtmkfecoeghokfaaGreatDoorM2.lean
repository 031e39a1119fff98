/-
  The engine and the walks that the claim's last text leans on, part 2 of 9: EvH, EvI, EvJ, EvK, EvL, EvLs, EvLt, EvN.
-/
import Derived.Test.YtmkfecoeghokfaaGreatDoorM1
import Derived.Eval
namespace Go.Proofs.YtmkfecoeghokfaaGreatDoor.Ev
open Go Go.RowKit
set_option linter.unusedVariables false
noncomputable section
set_option linter.unusedSimpArgs false
set_option maxHeartbeats 2000000
set_option maxRecDepth 20000
section
variable {Df : List Deferred}
variable {B : Nat} {S : Nat -> Prop} {L : Nat -> Loc} {H H' : AH} {w w' : World} {P : Program} {C : Cfg}
  {call : FuncId -> List Value -> AH -> Option (Value × AH)} {ops : Array Oper} {Q : Exit -> Act -> World -> Prop}
theorem Kg{m n p:Nat}(h1:m<=n)(h2:n<=p):ext (ext S m n) n p=ext S m p:=by
 funext i;apply propext;unfold ext;constructor
 ·rintro((h|h)|h);·exact .inl h
  ·exact .inr ⟨h.1,by omega⟩
  ·exact .inr ⟨by omega,h.2⟩
 ·rintro(h|h);·exact .inl (.inl h)
  ·rcases Nat.lt_or_ge i n with YW|Sa;·exact .inl (.inr ⟨h.1,YW⟩)
   ·exact .inr ⟨Sa,h.2⟩
theorem AI.mono{S':Nat->Prop}{L':Nat->Loc}{k:Nat}{tm:Tr Value}{a:Act}(h:AI Df S L k tm a)(hS: ∀i,S i->S' i)(hL: ∀i,S i->L' i=L i):AI Df S' L' k tm a:=⟨h.defers,h.size,fun t v ht=>⟨(h.tmp t v ht).1,(h.tmp t v ht).2.mono hS hL⟩⟩
theorem GO.mono{S':Nat->Prop}{L':Nat->Loc}(h:GO C S L)(hS: ∀i,S i->S' i)(hL: ∀i,S i->L' i=L i):GO C S' L':=fun g hg=>by obtain⟨h1,h2,h3⟩:=h g hg;exact⟨hS g h1,by rw[hL g h1];exact h2,by rw[hL g h1];exact h3⟩
theorem Xq{s s':St}{dst:Option Tmp}{v:Value}(h:s.put dst v H'=some s'):s'.H=H'/\s'.k=s.k/\((dst=none/\s'.tm=s.tm)\/ ∃d,dst=some d/\d<s.k/\s'.tm=s.tm.set d v):=by unfold St.put at h;obtain⟨k0,tm0,H0⟩:=s;simp only[N9]at h;cases dst with
 |none=>obtain rfl:=Option.some.inj h;exact⟨rfl,rfl,.inl ⟨rfl,rfl⟩⟩
 |some d=>simp only at h;cases hb:Nat.blt d k0 with|false=>rw[hb]at h;cases h|true=>rw[hb,cond_true]at h;obtain rfl:=Option.some.inj h;exact⟨rfl,rfl,.inr ⟨d,rfl,by rw[Nat.blt_eq]at hb;exact hb,rfl⟩⟩
theorem RW(a:Array Value)(d:Nat)(v x:Value)(h:d<a.size):(a.setIfInBounds d v).getD d x=v:=by simp[Array.getD,h]
theorem Ql(a:Array Value)(d t:Nat)(v x:Value)(h:d≠t):(a.setIfInBounds d v).getD t x=a.getD t x:=by simp[Array.getD_eq_getD_getElem?,Array.getElem?_setIfInBounds_ne h]
theorem AI.put{S':Nat->Prop}{L':Nat->Loc}{s s':St}{a:Act}{dst:Option Tmp}{v v':Value}(hA:AI Df S L s.k s.tm a)(hS: ∀i,S i->S' i)(hL: ∀i,S i->L' i=L i)(hv:VR S' L' v v')(hp:s.put dst v H'=some s'):AI Df S' L' s'.k s'.tm (a.put dst v'):=by
 obtain⟨_,hk,h⟩:=Xq hp;rw[hk];rcases h with⟨rfl,ht⟩|⟨d,rfl,hd,ht⟩;·rw[ht];exact hA.mono hS hL
 ·rw[ht];have X4:=hA.size;refine⟨hA.defers,by simp[Act.put,X4],fun t u hu=>?_⟩;rw[Tr.get_set]at hu;split at hu;·rename_i e;subst e;obtain rfl:=Option.some.inj hu;exact⟨hd,by simp only[Act.put];rw[RW _ _ _ _ (by rw[X4];exact hd)];exact hv⟩
  ·rename_i e;obtain⟨h1,h2⟩:=hA.tmp t u hu;exact⟨h1,by simp only[Act.put];rw[Ql _ _ _ _ _ (fun e'=>e e'.symm)];exact h2.mono hS hL⟩
theorem UT{tm:Tr Value}{a:Act}{o:Oper}{b:Bool}(h:Xd ops tm o=some b)(hg: ∀j want d,o.guard=some (j,want)->(ops[j]?).bind (·.dst)=some d-> ∀v,tm.get d=some v->d<a.tmps.size/\VR S L v (a.tmps.getD d undef)):Region.wanted o (yielded ops a.tmps)=b:=by unfold Xd at h;unfold Region.wanted;cases yZ:o.guard with
 |none=>rw[yZ]at h;obtain rfl:=Option.some.inj h;rfl
 |some x=>obtain⟨j,want⟩:=x;rw[yZ]at h;simp only at h⊢;cases hd:(ops[j]?).bind (·.dst)with
  |none=>rw[hd]at h;cases h
  |some d=>rw[hd]at h;simp only at h;cases ht:tm.get d with
   |none=>rw[ht]at h;cases h
   |some v=>
    obtain⟨h1,h2⟩:=hg j want d yZ hd v ht;have he:a.tmps[d]?=some (a.tmps.getD d undef):=by simp[Array.getD,h1]
    rw[ht]at h;unfold yielded;rw[hd];simp only[Option.bind_some,he];generalize a.tmps.getD d undef=u at h2;cases h2<;>first|(obtain rfl:=Option.some.inj h;first|rfl|(simp;done))|cases h
theorem AI.guard{k:Nat}{tm:Tr Value}{a:Act}(hA:AI Df S L k tm a)(o:Oper): ∀j want d,o.guard=some (j,want)->(ops[j]?).bind (·.dst)=some d-> ∀v,tm.get d=some v->d<a.tmps.size/\VR S L v (a.tmps.getD d undef):=fun _ _ d _ _ v hv=>⟨by rw[hA.size];exact(hA.tmp d v hv).1,(hA.tmp d v hv).2⟩
def UK(Df:List Deferred)(B:Nat)(S:Nat->Prop)(L:Nat->Loc)(H:AH)(w:World)(s':St)(a':Act)(w':World):Prop:= ∃L',AI Df (ext S H.n s'.H.n) L' s'.k s'.tm a'/\Inv B (ext S H.n s'.H.n) L' s'.H w'/\Fr S L H w L' s'.H w'
theorem UK.refl{s:St}{a:Act}(hA:AI Df S L s.k s.tm a)(hI:Inv B S L s.H w):UK Df B S L s.H w s a w:=⟨L,hA.mono (fun _ h=> .inl h) (fun _ _=>rfl),hI.mono (fun _ h=> .inl h) (fun i h=>hI.bd i (Xc h)),Fr.refl hI⟩
theorem UK.trans{s1 s2:St}{L1:Nat->Loc}{a2:Act}{w1 w2:World}(hI:Inv B S L H w)(OY:Inv B (ext S H.n s1.H.n) L1 s1.H w1)(hF:Fr S L H w L1 s1.H w1)(h:UK Df B (ext S H.n s1.H.n) L1 s1.H w1 s2 a2 w2):UK Df B S L H w s2 a2 w2:=by obtain⟨L2,h1,h2,h3⟩:=h;rw[Kg hF.n h3.n]at h1 h2;exact⟨L2,h1,h2,hF.trans hI OY (fun _ h=> .inl h) h3⟩
def Ut(P:Program)(ops:Array Oper)(draw:Bool)(Q:Exit->Act->World->Prop)(a:Act)(w:World):Prop:=match draw with|false=>wpOps P ops Q (List.range ops.size) a w|true=>wpAny P .any ops Q ops.size (Array.replicate ops.size false) a { w with drawn:=w.drawn+1 }
theorem Ut.wp{draw:Bool}{a:Act}(hm:P.follows .mixedOrders=true)(h:Ut P ops draw Q a w)(id:Nat):(Code.region id ops draw).wp P Q a w:=by cases draw with|false=>exact wp_region h|true=>exact wp_region_any hm h
theorem PM:VR S L undef undef:= .tuple _ _ rfl (fun k v v' h=>by simp at h)
theorem MX(Xb:W5 P C B call): ∀(l:List Oper)(k:Nat)(s s':St)(S:Nat->Prop)(L:Nat->Loc)(a:Act)(w:World),GO C S L->(∀j,l[j]?=ops[k+j]?)->W7 P C call ops l s=some s'->AI Df S L s.k s.tm a->Inv B S L s.H w->(∀a' w',UK Df B S L s.H w s' a' w'->Q .normal a' w')->wpOps P ops Q (List.range' k l.length) a w
 |[],k,s,s',S,L,a,w,hG,hl,h,hA,hI,hQ=>by rw[SV]at h;obtain rfl:=Option.some.inj h;simp only[List.length_nil,List.range'_zero,wpOps];exact hQ a w (UK.refl hA hI)
 |o::rest,k,s,s',S,L,a,w,hG,hl,h,hA,hI,hQ=>by
  have h0:ops[k]?=some o:=by simpa using(hl 0).symm
  have Lj: ∀j,rest[j]?=ops[k+1+j]?:=fun j=>by have:=hl (j+1);simpa[Nat.add_assoc,Nat.add_comm 1 j]using this
  rw[List.length_cons,List.range'_succ,wpOps_cons];unfold wpOp;rw[h0];dsimp only;rw[Wv]at h;split at h<;>first|(cases h;done)|skip
  ·rename_i hw;rw[UT hw (hA.guard o),if_pos rfl];split at h<;>first|(cases h;done)|skip
   rename_i v H1 Y7;split at h<;>first|(cases h;done)|skip
   rename_i s1 YN;refine .inl ((Wj Xb hG hI (fun x _ u hx=>MC hG hA hx) Y7).wp fun v' w1 Ez=>?_);obtain⟨L1,g1,g2,g3⟩:=Ez;obtain⟨e1,e2,_⟩:=Xq YN;subst e1;refine MX Xb rest (k+1) s1 s' _ L1 _ w1 (hG.mono (fun _ h=> .inl h) g2.agree) Lj h (hA.put (fun _ h=> .inl h) g2.agree g3 YN) g1 fun a' w' hd=>hQ a' w' (hd.trans hI g1 g2)
  ·rename_i hw;rw[UT hw (hA.guard o),if_neg (by simp)];split at h<;>first|(cases h;done)|skip
   rename_i s1 YN;obtain⟨e1,e2,_⟩:=Xq YN;refine MX Xb rest (k+1) s1 s' S L _ w hG Lj h (hA.put (fun _ h=>h) (fun _ _=>rfl) PM YN) (by rw[e1];exact hI) fun a' w' hd=>hQ a' w' (by rw[e1]at hd;exact hd)
end
def oD(S:Nat->Prop)(v:Value):Prop:= ∃L v',VR S L v v'
theorem VR.inS{S:Nat->Prop}{L:Nat->Loc}{v v':Value}(h:VR S L v v'):oD S v:=⟨L,v',h⟩
theorem oD.mono{S S':Nat->Prop}{v:Value}(h:oD S v)(hS: ∀i,S i->S' i):oD S' v:=by obtain⟨L,v',h⟩:=h;exact⟨L,v',h.mono hS (fun _ _=>rfl)⟩
theorem PE{S:Nat->Prop}{L:Nat->Loc}{cs cs':Array Value}(hs:cs.size=cs'.size)(hc: ∀(k:Nat)(v v':Value),cs[k]?=some v->cs'[k]?=some v'->VR S L v v')(k:Nat)(v:Value)(h:cs[k]?=some v):oD S v:=by
 have YW:k<cs'.size:=by
  rw[<-hs];rcases Nat.lt_or_ge k cs.size with h'|h';·exact h'
  ·rw[Array.getElem?_eq_none h']at h;cases h
 exact(hc k v cs'[k] h (Array.getElem?_eq_getElem YW)).inS
theorem VR.narrow{S S':Nat->Prop}{L:Nat->Loc}{v v':Value}(h:VR S L v v')(hi:oD S' v):VR S' L v v':=by induction h with
 |bool b=>exact .bool b
 |int k n=>exact .int k n
 |string s=>exact .string s
 |nilFunc=>exact .nilFunc
 |nilIface=>exact .nilIface
 |nilPtr=>exact .nilPtr
 |ptr i o h=>obtain⟨L2,v2,h2⟩:=hi;cases h2 with|ptr _ _ h3=>exact .ptr i o h3
 |nilSlice=>exact .nilSlice
 |slice i o len cap Vv h h1 h2 h3=>obtain⟨L2,v2,h4⟩:=hi;cases h4 with|slice _ _ _ _ _ h5=>exact .slice i o len cap Vv h5 h1 h2 h3
 |emp i a c=>exact .emp i a c
 |agg cs cs' hs hc ih=>obtain⟨L2,v2,h2⟩:=hi;cases h2 with|agg _ S8 CH Jd=>exact .agg cs cs' hs fun k v v' h1 h2=>ih k v v' h1 h2 (PE CH Jd k v h1)
 |tuple cs cs' hs hc ih=>obtain⟨L2,v2,h2⟩:=hi;cases h2 with|tuple _ S8 CH Jd=>exact .tuple cs cs' hs fun k v v' h1 h2=>ih k v v' h1 h2 (PE CH Jd k v h1)
 |func f fs Ol cs cs' h1 _ h2 _ ih1 zr=>obtain⟨L2,v2,h3⟩:=hi;cases h3 with|func _ _ fs2 _ S8 a1 b1 a2 b2=>exact .func f fs Ol cs cs' h1 (fun k v v' q1 q2=>ih1 k v v' q1 q2 (PE a1 b1 k v q1)) h2 (fun k v v' q1 q2=>zr k v v' q1 q2 (PE a2 b2 k v q1))
 |iface t v v' _ ih=>obtain⟨L2,v2,h2⟩:=hi;cases h2 with|iface _ _ v3 h3=>exact .iface t v v' (ih h3.inS)
 |nilMap=>exact .nilMap
 |map i h=>obtain⟨L2,v2,h2⟩:=hi;cases h2 with|map _ h3=>exact .map i h3
def az(S:Nat->Prop):Ou->Prop| .dead=>True| .ro _ cs=> ∀(k:Nat)(v:Value),cs[k]?=some v->oD S v| .rw _ cs=> ∀(k:Nat)(v:Value),cs[k]?=some v->oD S v
theorem az.mono{S S':Nat->Prop}{b:Ou}(h:az S b)(hS: ∀i,S i->S' i):az S' b:=by cases b with|dead=>trivial|ro sz cs=>exact fun k v hk=>(h k v hk).mono hS|rw sz cs=>exact fun k v hk=>(h k v hk).mono hS
theorem Inv.inSB{B:Nat}{S:Nat->Prop}{L:Nat->Loc}{H:AH}{w:World}(hI:Inv B S L H w)(j:Nat):az S (H.blk j):=by cases hb:H.blk j with|dead=>trivial|ro sz cs=>intro k v hk;obtain⟨_,_,_,h4⟩:=hI.ro j sz cs hb;obtain⟨v',_,h6⟩:=h4 k v hk;exact h6.inS|rw sz cs=>intro k v hk;obtain⟨_,_,_,C,e,_,_,h4⟩:=hI.rw j sz cs hb;obtain⟨v',_,h6⟩:=h4 k v hk;exact h6.inS
theorem Eo(t:Tr Ou)(H2:AH)(n:Nat): ∀(k j:Nat),(Nr t H2 n k).get j=if n<=j/\j<n+k then some (H2.blk j)else t.get j
 |0,j=>by rw[if_neg (by omega)];rfl
 |k+1,j=>by
  simp only[Nr];rw[Tr.get_set,Eo t H2 n k j];by_cases e:j=n+k;·rw[if_pos e,if_pos (by omega),e]
  ·rw[if_neg e];by_cases h:n<=j/\j<n+k;·rw[if_pos h,if_pos (by omega)]
   ·rw[if_neg h,if_neg (by omega)]
theorem FG(t:Tr Ou)(H2:AH)(n k n' lw:Nat)(j:Nat):({ n:=n',lw:=lw,t:=Nr t H2 n k } :AH).blk j=if n<=j/\j<n+k then H2.blk j else({ n:=n',lw:=lw,t:=t } :AH).blk j:=by
 unfold AH.blk;simp only[Eo];by_cases h:n<=j/\j<n+k;·rw[if_pos h,if_pos h];rfl
 ·rw[if_neg h,if_neg h]
theorem I8(t:Tr Ou): ∀(hs:List Nat)(j:Nat),(U6 t hs).get j=if j∈hs then some .dead else t.get j
 |[],j=>by simp[U6]
 |i::r,j=>by
  simp only[U6];rw[Tr.get_set,I8 t r j];by_cases e:j=i;·simp[e]
  ·by_cases h:j∈r<;>simp[e,h]
theorem aU(t:Tr Ou)(hs:List Nat)(n lw:Nat)(j:Nat):({ n:=n,lw:=lw,t:=U6 t hs } :AH).blk j=if j∈hs then .dead else({ n:=n,lw:=lw,t:=t } :AH).blk j:=by
 unfold AH.blk;simp only[I8];by_cases h:j∈hs;·rw[if_pos h,if_pos h]
 ·rw[if_neg h,if_neg h]
theorem O7(b:Nat): ∀(ms:List (Nat×Nat×Nat))(j:Nat),j∈hidden b ms↔ ∃k lo hi,(k,lo,hi)∈ms/\b.testBit k=false/\lo<=j/\j<hi
 |[],j=>by simp[hidden]
 |(k,lo,hi)::r,j=>by simp only[hidden];cases hb:b.testBit k with
  |true=>
   rw[cond_true,O7 b r j];constructor;·rintro⟨k',C8,UN,h1,h2⟩;exact⟨k',C8,UN,by simp[h1],h2⟩
   ·rintro⟨k',C8,UN,h1,h2,h3⟩;rw[List.mem_cons]at h1;rcases h1 with h1|h1;·injection h1 with e1 e2;subst e1;rw[hb]at h2;cases h2
    ·exact⟨k',C8,UN,h1,h2,h3⟩
  |false=>
   rw[cond_false,List.mem_append,O7 b r j];constructor
   ·rintro(h|⟨k',C8,UN,h1,h2⟩);·simp only[List.mem_map,List.mem_range]at h;obtain⟨x,h1,h2⟩:=h;exact⟨k,lo,hi,by simp,hb,by omega,by omega⟩
    ·exact⟨k',C8,UN,by simp[h1],h2⟩
   ·rintro⟨k',C8,UN,h1,h2,h3,h4⟩;rw[List.mem_cons]at h1;rcases h1 with h1|h1;·injection h1 with e1 e2;injection e2 with e2 e3;subst e1;subst e2;subst e3;left;simp only[List.mem_map,List.mem_range];exact⟨j-C8,by omega,by omega⟩
    ·exact .inr ⟨k',C8,UN,h1,h2,h3,h4⟩
theorem SA(acc:List Nat)(m:Nat): ∀es:List Edge,(bitsOf acc es).testBit m=true↔ ∃e∈es,Region.binds .any e=true/\(e.on=m\/(acc.getD e.on 0).testBit m=true)
 |[]=>by simp[bitsOf]
 |e::r=>by simp only[bitsOf];cases hb:Region.binds .any e with
  |false=>
   rw[cond_false,SA acc m r];constructor;·rintro⟨x,h1,h2⟩;exact⟨x,by simp[h1],h2⟩
   ·rintro⟨x,h1,h2,h3⟩;rw[List.mem_cons]at h1;rcases h1 with rfl|h1;·rw[hb]at h2;cases h2
    ·exact⟨x,h1,h2,h3⟩
  |true=>
   rw[cond_true,Nat.testBit_or,Nat.testBit_or,Bool.or_eq_true,Bool.or_eq_true,SA acc m r,Nat.testBit_two_pow];constructor
   ·rintro(h|h|⟨x,h1,h2⟩);·exact⟨e,by simp,hb,.inl (by simpa using h)⟩
    ·exact⟨e,by simp,hb,.inr h⟩
    ·exact⟨x,by simp[h1],h2⟩
   ·rintro⟨x,h1,h2,h3⟩;rw[List.mem_cons]at h1;rcases h1 with rfl|h1
    ·rcases h3 with h3|h3;·exact .inl (by simpa using h3)
     ·exact .inr (.inl h3)
    ·exact .inr (.inr ⟨x,h1,h2,h3⟩)
theorem KX: ∀(l:List Oper)(acc:List Nat)(j:Nat),j<acc.length->(FH l acc)[j]?=acc[j]?|[],acc,j,h=>rfl|o::r,acc,j,h=>by simp only[FH];rw[KX r _ j (by simp;omega),List.getElem?_append,if_pos h]
theorem Ns{acc wO:List Nat} : ∀es:List Edge,(∀e∈es,Region.binds .any e=true->acc.getD e.on 0=wO.getD e.on 0)->bitsOf acc es=bitsOf wO es
 |[],_=>rfl
 |e::r,h=>by simp only[bitsOf];rw[Ns r (fun x hx=>h x (by simp[hx]))];cases hb:Region.binds .any e with|false=>rfl|true=>rw[h e (by simp) hb]
theorem B8: ∀(l:List Oper)(acc:List Nat)(j:Nat)(o:Oper),l[j]?=some o->(∀e∈o.after.toList,Region.binds .any e=true->e.on<acc.length+j)->(FH l acc)[acc.length+j]?=some (bitsOf (FH l acc) o.after.toList)
 |[],acc,j,o,h,_=>by simp at h
 |x::r,acc,0,o,h,hb=>by
  simp at h;subst h;simp only[FH,Nat.add_zero];rw[KX r _ acc.length (by simp)];simp only[List.getElem?_append,Nat.lt_irrefl,if_false,Nat.sub_self,List.getElem?_cons_zero];congr 1;refine Ns _ fun e he Eu=>?_;have YW:e.on<acc.length:=by simpa using hb e he Eu
  simp only[List.getD_eq_getElem?_getD];rw[KX r _ e.on (by simp;omega),List.getElem?_append,if_pos YW]
 |x::r,acc,j+1,o,h,hb=>by simp only[FH];have:=B8 r (acc++[bitsOf acc x.after.toList]) j o (by simpa using h) (fun e he Eu=>by have:=hb e he Eu;simp;omega);rw[<-this];congr 1;simp;omega
def bef(ops:Array Oper)(i m:Nat):Prop:=((before ops).getD i 0).testBit m=true
structure W6 (ops : Array Oper) : Prop where
  lead : ∀ i o, ops[i]? = some o -> ∀ e ∈ o.after.toList, Region.binds .any e = true -> e.on < i
  apart : ∀ i j x o, ops[i]? = some x -> ops[j]? = some o -> i < j -> bef ops j i \/ x.apart ops o = true
theorem SD{ops:Array Oper}(h:Ue ops=true):W6 ops:=by
 unfold Ue at h;rw[List.all_eq_true]at h;have YW: ∀{i:Nat}{o:Oper},ops[i]?=some o->i<ops.size:=fun{i o} hi=>by
  rcases Nat.lt_or_ge i ops.size with h'|h';·exact h'
  ·rw[Array.getElem?_eq_none h']at hi;cases hi
 refine⟨fun i o hi e he hb=>?_,fun i j x o hi hj Jj=>?_⟩;·have:=h i (by simpa using YW hi);rw[hi]at this;simp only[Bool.and_eq_true]at this;have:=List.all_eq_true.mp this.1 e he;rw[hb]at this;simpa[Nat.blt_eq]using this
 ·have:=h j (by simpa using YW hj);rw[hj]at this;simp only[Bool.and_eq_true]at this;have:=List.all_eq_true.mp this.2 i (by simpa using Jj);rw[hi]at this;simpa[bef]using this
section
variable {ops : Array Oper} (hR : W6 ops)
include hR
theorem W6.bef_iff{i m:Nat}{o:Oper}(hi:ops[i]?=some o):bef ops i m↔ ∃e∈o.after.toList,Region.binds .any e=true/\(e.on=m\/bef ops e.on m):=by unfold bef before;have:=B8 ops.toList [] i o (by simpa using hi) (fun e he hb=>by simpa using hR.lead i o hi e he hb);simp only[List.length_nil,Nat.zero_add]at this;rw[List.getD_eq_getElem?_getD (i:=i),this,Option.getD_some,SA]
theorem W6.bef_lt{i:Nat} : ∀m,(∃o,ops[i]?=some o)->bef ops i m->m<i:=by induction i using Nat.strongRecOn with
 |_ i ih=>
  rintro m ⟨o,hi⟩ h;obtain⟨e,he,hb,h⟩:=(hR.bef_iff hi).mp h;have YW:=hR.lead i o hi e he hb;rcases h with h|h;·omega
  ·have CN:e.on<ops.size:=by
    have:i<ops.size:=by
     rcases Nat.lt_or_ge i ops.size with h'|h';·exact h'
     ·rw[Array.getElem?_eq_none h']at hi;cases hi
    omega
   have:=ih e.on YW m ⟨_,Array.getElem?_eq_getElem CN⟩ h;omega
theorem W6.bef_trans{i:Nat} : ∀m l,(∃o,ops[i]?=some o)->bef ops i m->bef ops m l->bef ops i l:=by induction i using Nat.strongRecOn with
 |_ i ih=>
  rintro m l ⟨o,hi⟩ h h';obtain⟨e,he,hb,h⟩:=(hR.bef_iff hi).mp h;have YW:=hR.lead i o hi e he hb;have CN:e.on<ops.size:=by
   have:i<ops.size:=by
    rcases Nat.lt_or_ge i ops.size with h'|h';·exact h'
    ·rw[Array.getElem?_eq_none h']at hi;cases hi
   omega
  refine(hR.bef_iff hi).mpr ⟨e,he,hb,.inr ?_⟩;rcases h with h|h;·rw[h];exact h'
  ·exact ih e.on YW m l ⟨_,Array.getElem?_eq_getElem CN⟩ h h'
theorem W6.closed{D:Nat->Prop}(hD: ∀i o,ops[i]?=some o->D i-> ∀e∈o.after.toList,Region.binds .any e=true->D e.on){i:Nat} : ∀m,(∃o,ops[i]?=some o)->D i->bef ops i m->D m:=by induction i using Nat.strongRecOn with
 |_ i ih=>
  rintro m ⟨o,hi⟩ Sv h;obtain⟨e,he,hb,h⟩:=(hR.bef_iff hi).mp h;have YW:=hR.lead i o hi e he hb;have CN:e.on<ops.size:=by
   have:i<ops.size:=by
    rcases Nat.lt_or_ge i ops.size with h'|h';·exact h'
    ·rw[Array.getElem?_eq_none h']at hi;cases hi
   omega
  have:=hD i o hi Sv e he hb;rcases h with h|h;·rw[<-h];exact this
  ·exact ih e.on YW m ⟨_,Array.getElem?_eq_getElem CN⟩ this h
end
theorem Ic{P:Program}{H H0 H2:AH}{b:Builtin}{ts:List TypeId}{xs:List Value}{v:Value}(hb:b= .len\/b= .max\/b= .min)(h:Zp P H b ts xs=some (v,H2)):Zp P H0 b ts xs=some (v,H0):=by
 rcases hb with rfl|rfl|rfl;·match ts,xs with
  |[t],[x]=>
   simp only[Zp]at h⊢;split at h<;>first|(cases h;done)|skip
   injection h with h;injection h with h1 h2;subst h1;rfl
  |[],_=>simp[Zp]at h
  |_::_::_,_=>simp[Zp]at h
  |[_],[]=>simp[Zp]at h
  |[_],_::_::_=>simp[Zp]at h
 ·simp only[Zp]at h⊢;split at h<;>first|(cases h;done)|skip
  injection h with h;injection h with h1 h2;subst h1;rfl
 ·simp only[Zp]at h⊢;split at h<;>first|(cases h;done)|skip
  injection h with h;injection h with h1 h2;subst h1;rfl
theorem Su{P:Program}{C:Cfg}{call:FuncId->List Value->AH->Option (Value×AH)}{tm:Tr Value}{H H2:AH}{op:Op}{v:Value}(hp:Zz op=false)(h:Z2 P C call tm H op=some (v,H2))(H0:AH):Z2 P C call tm H0 op=some (v,H0):=by
 cases op;case call c=>obtain⟨callee,VT,ks⟩:=c;cases callee with
  |value f=>simp[Zz]at hp
  |invoke r m=>simp[Zz]at hp
  |builtin b=>
   simp only[Z2,Ye,ZW,Yf,ZK,Yg,Zs,Zt,Zi,ZJ,Ya,ZP,ZA,Zl,ZI,Zj,Zf,ZB,ZC,YV,Zo,Zq,Yd,ZV,ZM,ZQ,Zn,ZN]at h⊢;split at h<;>first|(cases h;done)|skip
   rename_i xs hx;exact Ic (by cases b<;>first|(simp;done)|(simp[Zz]at hp;done)) h
 all_goals first|(simp[Zz]at hp;done)|skip
 all_goals
  simp only[Z2,Ye,ZW,Yf,ZK,Yg,Zs,Zt,Zi,ZJ,Ya,ZP,ZA,Zl,ZI,Zj,Zf,ZB,ZC,YV,Zo,Zq,Yd,ZV,ZM,ZQ,Zn,ZN]at h⊢;repeat' split at h
  all_goals first|(cases h;done)|skip
  all_goals(injection h with h;injection h with h1 h2;subst h1;simp_all)
section
variable (X : Xs) (P : Program) (C : Cfg) (call : FuncId -> List Value -> AH -> Option (Value × AH)) (ops : Array Oper) (st : Nat -> St) (val : Nat -> Value) (q : Nat -> Bool) (ms : Nat -> List (Nat × Nat × Nat))
def oB(i:Nat)(o:Oper):Prop:=(st (i+1)).H=(st i).H/\q (i+1)=q i/\((Xd ops (st i).tm o=some false/\val i=undef)\/(Xd ops (st i).tm o=some true/\Zz o.op=false/\ ∀H0,Z2 P C call (st i).tm H0 o.op=some (val i,H0))\/(Xd ops (st i).tm o=some true/\Zz o.op=true/\X.fv i=some (val i)))
def wk(i:Nat)(o:Oper):Prop:=Xd ops (st i).tm o=some true/\Zz o.op=true/\X.fv i=none/\q i=false/\q (i+1)=false/\ ∃H2:AH,Z2 P C call (st i).tm { n:=(st i).H.n,lw:=(st i).H.n,t:=U6 (st i).H.t (hidden ((before ops).getD i 0) (ms i)) } o.op=some (val i,H2)/\(st i).H.n<=H2.n/\(st i).H.n<=H2.lw/\(st (i+1)).H.n=H2.n/\(st (i+1)).H.lw=(st i).H.lw/\ ∀j,(st (i+1)).H.blk j=if(st i).H.n<=j/\j<H2.n then H2.blk j else(st i).H.blk j
def Wri(i:Nat)(o:Oper):Prop:=Xd ops (st i).tm o=some true/\Zz o.op=true/\X.fv i=none/\q (i+1)=true/\X.al i=true/\ ∃H2:AH,Z2 P C call (st i).tm { n:=(st i).H.n,lw:=(st i).H.n,t:=(st i).H.t } o.op=some (val i,H2)/\(st i).H.n<=H2.n/\(st (i+1)).H.n=H2.n/\(st (i+1)).H.lw=min (st i).H.lw H2.lw/\ ∀j,(st (i+1)).H.blk j=H2.blk j
def Full(i:Nat)(o:Oper):Prop:=(oB X P C call ops st val q i o\/wk X P C call ops st val q ms i o\/Wri X P C call ops st val q i o)/\(st i).put o.dst (val i) (st (i+1)).H=some (st (i+1))/\ms (i+1)=cond (Nat.blt (st i).H.n (st (i+1)).H.n) ((i,(st i).H.n,(st (i+1)).H.n)::ms i) (ms i)
structure Trace (s s' : St) : Prop where
  start : st 0 = s
  stop : st ops.size = s'
  q0 : q 0 = false
  m0 : ms 0 = []
  step : ∀ i o, ops[i]? = some o -> Full X P C call ops st val q ms i o
end
theorem T9{X:Xs}{P:Program}{C:Cfg}{call:FuncId->List Value->AH->Option (Value×AH)}{ops:Array Oper} : ∀(l:List Oper)(i:Nat)(q0:Bool)(m0:List (Nat×Nat×Nat))(s s':St),XP X P C call ops i q0 m0 l s=some s'->(∀j,l[j]?=ops[i+j]?)-> ∃(st:Nat->St) (val:Nat->Value) (q:Nat->Bool) (ms:Nat->List (Nat×Nat×Nat)),st i=s/\q i=q0/\ms i=m0/\st (i+l.length)=s'/\ ∀k o,i<=k->ops[k]?=some o->Full X P C call ops st val q ms k o
 |[],i,q0,m0,s,s',h,hl=>by simp only[XP]at h;obtain rfl:=Option.some.inj h;refine⟨fun _=>s,fun _=>undef,fun _=>q0,fun _=>m0,rfl,rfl,rfl,rfl,fun k o hk ho=>?_⟩;have:=hl (k-i);rw[show i+(k-i)=k by omega,ho]at this;simp at this
 |o::rest,i,q0,m0,s,s',h,hl=>by
  have h0:ops[i]?=some o:=by simpa using(hl 0).symm
  have Lj: ∀j,rest[j]?=ops[i+1+j]?:=fun j=>by have:=hl (j+1);simpa[Nat.add_assoc,Nat.add_comm 1 j]using this
  have glue: ∀(v:Value)(q1:Bool)(m1:List (Nat×Nat×Nat))(s1:St),XP X P C call ops (i+1) q1 m1 rest s1=some s'->(∀(st:Nat->St)(val:Nat->Value)(q:Nat->Bool)(ms:Nat->List (Nat×Nat×Nat)),st i=s->st (i+1)=s1->val i=v->q i=q0->q (i+1)=q1->ms i=m0->ms (i+1)=m1->Full X P C call ops st val q ms i o)-> ∃(st:Nat->St) (val:Nat->Value) (q:Nat->Bool) (ms:Nat->List (Nat×Nat×Nat)),st i=s/\q i=q0/\ms i=m0/\st (i+(o::rest).length)=s'/\ ∀k o,i<=k->ops[k]?=some o->Full X P C call ops st val q ms k o:=by
   intro v q1 m1 s1 hr hf;obtain⟨st,val,q,ms,e1,e2,e3,e4,e5⟩:=T9 rest (i+1) q1 m1 s1 s' hr Lj;refine⟨fun k=>if k=i then s else st k,fun k=>if k=i then v else val k,fun k=>if k=i then q0 else q k,fun k=>if k=i then m0 else ms k,by simp,by simp,by simp,?_,fun k o' hk ho=>?_⟩
   ·have e6:i+(o::rest).length=i+1+rest.length:=by simp;omega
    have e7:i+1+rest.length≠i:=by omega
    show(if i+(o::rest).length=i then s else st (i+(o::rest).length))=s';rw[e6,if_neg e7];exact e4
   ·by_cases mP:k=i;·subst mP;rw[h0]at ho;obtain rfl:=Option.some.inj ho;exact hf _ _ _ _ (by simp) (by simp[e1]) (by simp) (by simp) (by simp[e2]) (by simp) (by simp[e3])
    ·have:=e5 k o' (by omega) ho;have bz:k+1≠i:=by omega
     unfold Full oB wk Wri at this⊢;simp only[if_neg mP,if_neg bz];exact this
  simp only[XP]at h;split at h<;>first|(cases h;done)|skip
  ·rename_i hw;split at h<;>first|(cases h;done)|skip
   rename_i v H1 q1 Y7;split at h<;>first|(cases h;done)|skip
   rename_i s1 YN;obtain⟨eH,ek,_⟩:=Xq YN;refine glue v q1 _ s1 h fun st val q ms a1 a2 a3 a4 a5 a6 a7=>⟨?_,by rw[a1,a2,a3,eH];exact YN,by rw[a1,a2,a6,a7,eH]⟩;unfold XU at Y7;cases hh:Zz o.op with
    |false=>
     rw[hh,cond_false]at Y7;split at Y7<;>first|(cases Y7;done)|skip
     rename_i v2 H2 he;injection Y7 with Y7;injection Y7 with b1 b2;injection b2 with b2 b3;subst b1;subst b2;subst b3;exact .inl ⟨by rw[a1,a2,eH],by rw[a4,a5],.inr (.inl ⟨by rw[a1];exact hw,hh,fun H0=>by rw[a1,a3];exact Su hh he H0⟩)⟩
    |true=>rw[hh,cond_true]at Y7;cases hf:X.fv i with
     |some vf=>rw[hf]at Y7;injection Y7 with Y7;injection Y7 with b1 b2;injection b2 with b2 b3;subst b1;subst b2;subst b3;exact .inl ⟨by rw[a1,a2,eH],by rw[a4,a5],.inr (.inr ⟨by rw[a1];exact hw,hh,by rw[a3];exact hf⟩)⟩
     |none=>
      rw[hf]at Y7;simp only at Y7;split at Y7<;>first|(cases Y7;done)|skip
      rename_i v2 H2 he;cases hn:Nat.ble s.H.n H2.n with
       |false=>rw[hn]at Y7;cases Y7
       |true=>rw[hn,cond_true]at Y7;have vQ:s.H.n<=H2.n:=Nat.le_of_ble_eq_true hn;cases hb:(!q0&&Nat.ble s.H.n H2.lw)with
        |true=>
         rw[hb,cond_true]at Y7;injection Y7 with Y7;injection Y7 with b1 b2;injection b2 with b2 b3;subst b1;subst b2;subst b3;rw[Bool.and_eq_true]at hb;have hq:q0=false:=by simpa using hb.1
         refine .inr (.inl ⟨by rw[a1];exact hw,hh,hf,by rw[a4,hq],by rw[a5],H2,by rw[a1,a3,a6];exact he,by rw[a1];exact vQ,by rw[a1];exact Nat.le_of_ble_eq_true hb.2,by rw[a2,eH],by rw[a1,a2,eH],fun j=>?_⟩);rw[a1,a2,eH,FG,show s.H.n+(H2.n-s.H.n)=H2.n by omega];rfl
        |false=>rw[hb,cond_false]at Y7;cases hc:(X.al i&&(hidden ((before ops).getD i 0) m0).isEmpty)with
         |false=>rw[hc]at Y7;cases Y7
         |true=>
          rw[hc,cond_true]at Y7;injection Y7 with Y7;injection Y7 with b1 b2;injection b2 with b2 b3;subst b1;subst b2;subst b3;rw[Bool.and_eq_true]at hc;have bW:hidden ((before ops).getD i 0) m0=[]:=by simpa using hc.2
          rw[bW]at he;exact .inr (.inr ⟨by rw[a1];exact hw,hh,hf,by rw[a5],hc.1,H2,by rw[a1,a3];exact he,by rw[a1];exact vQ,by rw[a2,eH],by rw[a1,a2,eH],fun j=>by rw[a2,eH];rfl⟩)
  ·rename_i hw;split at h<;>first|(cases h;done)|skip
   rename_i s1 YN;obtain⟨eH,ek,_⟩:=Xq YN;refine glue undef q0 m0 s1 h fun st val q ms a1 a2 a3 a4 a5 a6 a7=>⟨.inl ⟨by rw[a1,a2,eH],by rw[a4,a5],.inl ⟨by rw[a1];exact hw,a3⟩⟩,by rw[a1,a2,a3,eH];exact YN,?_⟩;rw[a1,a2,a6,a7,eH];have:Nat.blt s.H.n s.H.n=false:=by cases hb:Nat.blt s.H.n s.H.n with|false=>rfl|true=>rw[Nat.blt_eq]at hb;omega
   rw[this];rfl
section
variable {X : Xs} {P : Program} {C : Cfg} {call : FuncId -> List Value -> AH -> Option (Value × AH)} {ops : Array Oper} {st : Nat -> St} {val : Nat -> Value} {q : Nat -> Bool} {ms : Nat -> List (Nat × Nat × Nat)} {s s' : St}
theorem Yq{i:Nat}(h:i<ops.size): ∃o,ops[i]?=some o:=⟨_,Array.getElem?_eq_getElem h⟩
theorem Yu{i:Nat}{o:Oper}(h:ops[i]?=some o):i<ops.size:=by
 rcases Nat.lt_or_ge i ops.size with h'|h';·exact h'
 ·rw[Array.getElem?_eq_none h']at h;cases h
theorem Trace.n_le(T:Trace X P C call ops st val q ms s s'){i:Nat}(hi:i<ops.size):(st i).H.n<=(st (i+1)).H.n:=by
 obtain⟨o,ho⟩:=Yq hi;rcases(T.step i o ho).1 with h|h|h;·rw[h.1];exact Nat.le_refl _
 ·obtain⟨_,_,_,_,_,H2,_,h1,_,h2,_⟩:=h;rw[h2];exact h1
 ·obtain⟨_,_,_,_,_,H2,_,h1,h2,_⟩:=h;rw[h2];exact h1
theorem Trace.n_mono(T:Trace X P C call ops st val q ms s s'){i:Nat} : ∀{j:Nat},i<=j->j<=ops.size->(st i).H.n<=(st j).H.n
 |0,h,_=>by
  obtain rfl:i=0:=by omega
  exact Nat.le_refl _
 |j+1,h,hj=>by
  rcases Nat.lt_or_ge i (j+1)with h'|h';·exact Nat.le_trans (T.n_mono (by omega) (by omega)) (T.n_le (by omega))
  ·obtain rfl:i=j+1:=by omega
   exact Nat.le_refl _
theorem Trace.ms_iff(T:Trace X P C call ops st val q ms s s'): ∀(i:Nat),i<=ops.size-> ∀k lo hi,(k,lo,hi)∈ms i↔k<i/\lo=(st k).H.n/\hi=(st (k+1)).H.n/\(st k).H.n<(st (k+1)).H.n
 |0,_,k,lo,hi=>by rw[T.m0];simp
 |i+1,UN,k,lo,hi=>by obtain⟨o,ho⟩:=Yq (ops:=ops) (i:=i) (by omega);rw[(T.step i o ho).2.2];have ih:=T.ms_iff i (by omega) k lo hi;cases hb:Nat.blt (st i).H.n (st (i+1)).H.n with
  |false=>
   rw[cond_false,ih];constructor;·rintro⟨h1,h2⟩;exact⟨by omega,h2⟩
   ·rintro⟨h1,h2,h3,h4⟩;have:k≠i:=by
     rintro rfl;have:Nat.blt (st k).H.n (st (k+1)).H.n=true:=by rw[Nat.blt_eq];exact h4
     rw[this]at hb;cases hb
    exact⟨by omega,h2,h3,h4⟩
  |true=>
   rw[cond_true,List.mem_cons,ih];rw[Nat.blt_eq]at hb;constructor
   ·rintro(h|⟨h1,h2⟩);·injection h with h1 h2;injection h2 with h2 h3;subst h1;exact⟨by omega,h2,h3,hb⟩
    ·exact⟨by omega,h2⟩
   ·rintro⟨h1,h2,h3,h4⟩;by_cases hk:k=i;·subst hk;exact .inl (by rw[h2,h3])
    ·exact .inr ⟨by omega,h2,h3,h4⟩
theorem Trace.range(T:Trace X P C call ops st val q ms s s'){j:Nat}(h0:(st 0).H.n<=j): ∀{i:Nat},i<=ops.size->j<(st i).H.n-> ∃m,m<i/\(st m).H.n<=j/\j<(st (m+1)).H.n
 |0,_,h=>by omega
 |i+1,hi,h=>by
  rcases Nat.lt_or_ge j (st i).H.n with h'|h';·obtain⟨m,h1,h2⟩:=T.range h0 (by omega) h';exact⟨m,by omega,h2⟩
  ·exact⟨i,by omega,h',h⟩
theorem Trace.q_mono(T:Trace X P C call ops st val q ms s s'){i:Nat}(h:q i=true): ∀{k:Nat},i<=k->k<=ops.size->q k=true
 |0,hk,_=>by
  obtain rfl:i=0:=by omega
  exact h
 |k+1,hk,hn=>by
  rcases Nat.lt_or_ge i (k+1)with h'|h'
  ·have ih:=T.q_mono h (k:=k) (by omega) (by omega);obtain⟨o,ho⟩:=Yq (ops:=ops) (i:=k) (by omega);rcases(T.step k o ho).1 with h1|h1|h1;·rw[h1.2.1];exact ih
   ·rw[h1.2.2.2.1]at ih;cases ih
   ·exact h1.2.2.2.1
  ·obtain rfl:i=k+1:=by omega
   exact h
theorem Trace.grown(T:Trace X P C call ops st val q ms s s')(Jg: ∀j,(st 0).H.n<=j->(st 0).H.blk j= .dead): ∀(i:Nat),i<=ops.size->q i=false->(st i).H.lw=(st 0).H.lw/\(∀j,(st i).H.n<=j->(st i).H.blk j= .dead)/\ ∀m,m<=i-> ∀j,j<(st m).H.n->(st i).H.blk j=(st m).H.blk j
 |0,_,_=>⟨rfl,Jg,fun m hm j _=>by
  obtain rfl:m=0:=by omega
  rfl⟩
 |i+1,hi,hq=>by
  obtain⟨o,ho⟩:=Yq (ops:=ops) (i:=i) (by omega);rcases(T.step i o ho).1 with h|h|h
  ·obtain⟨h1,h2,_⟩:=h;rw[h2]at hq;obtain⟨g1,g2,g3⟩:=T.grown Jg i (by omega) hq;rw[h1];refine⟨g1,g2,fun m hm j hj=>?_⟩;rcases Nat.lt_or_ge m (i+1)with h'|h';·exact g3 m (by omega) j hj
   ·obtain rfl:m=i+1:=by omega
    rw[h1]
  ·obtain⟨_,_,_,h1,_,H2,_,h3,_,h5,h6,h7⟩:=h;obtain⟨g1,g2,g3⟩:=T.grown Jg i (by omega) h1;refine⟨h6.trans g1,fun j hj=>?_,fun m hm j hj=>?_⟩;·rw[h7,if_neg (by omega)];exact g2 j (by omega)
   ·rcases Nat.lt_or_ge m (i+1)with h'|h';·have:(st m).H.n<=(st i).H.n:=T.n_mono (by omega) (by omega);rw[h7,if_neg (by omega)];exact g3 m (by omega) j hj
    ·obtain rfl:m=i+1:=by omega
     rfl
  ·rw[h.2.2.2.1]at hq;cases hq
def Xa(ops:Array Oper)(m:Nat):Option Tmp:=(ops[m]?).bind (·.dst)
theorem Trace.k_eq(T:Trace X P C call ops st val q ms s s'): ∀(i:Nat),i<=ops.size->(st i).k=(st 0).k|0,_=>rfl|i+1,hi=>by obtain⟨o,ho⟩:=Yq (ops:=ops) (i:=i) (by omega);obtain⟨_,h,_⟩:=Xq (T.step i o ho).2.1;exact h.trans (T.k_eq i (by omega))
theorem Trace.dst_lt(T:Trace X P C call ops st val q ms s s'){m:Nat}{t:Nat}(h:Xa ops m=some t):t<(st 0).k:=by unfold Xa at h;cases ho:ops[m]? with
 |none=>rw[ho]at h;cases h
 |some o=>
  rw[ho]at h;obtain⟨_,_,h1⟩:=Xq (T.step m o ho).2.1;have hd:o.dst=some t:=h;rcases h1 with⟨h1,_⟩|⟨d,h1,h2,_⟩;·rw[h1]at hd;cases hd
  ·rw[h1]at hd;obtain rfl:=Option.some.inj hd;rw[T.k_eq m (Nat.le_of_lt (Yu ho))]at h2;exact h2
theorem Trace.tm(T:Trace X P C call ops st val q ms s s'): ∀(i:Nat),i<=ops.size-> ∀t v,(st i).tm.get t=some v->(∃m,m<i/\Xa ops m=some t/\val m=v/\ ∀m',m<m'->m'<i->Xa ops m'≠some t)\/((∀m,m<i->Xa ops m≠some t)/\(st 0).tm.get t=some v)
 |0,_,t,v,h=> .inr ⟨fun m hm=>by omega,h⟩
 |i+1,hi,t,v,h=>by
  obtain⟨o,ho⟩:=Yq (ops:=ops) (i:=i) (by omega);have hd:Xa ops i=o.dst:=by simp[Xa,ho]
  obtain⟨_,_,h1⟩:=Xq (T.step i o ho).2.1;have old:Xa ops i≠some t->(st i).tm.get t=some v->(∃m,m<i+1/\Xa ops m=some t/\val m=v/\ ∀m',m<m'->m'<i+1->Xa ops m'≠some t)\/((∀m,m<i+1->Xa ops m≠some t)/\(st 0).tm.get t=some v):=fun Ug hold=>by
   rcases T.tm i (by omega) t v hold with⟨m,a1,a2,a3,a4⟩|⟨a1,a2⟩
   ·refine .inl ⟨m,by omega,a2,a3,fun m' h1 h2=>?_⟩;by_cases e:m'=i;·subst e;exact Ug
    ·exact a4 m' h1 (by omega)
   ·refine .inr ⟨fun m hm=>?_,a2⟩;by_cases e:m=i;·subst e;exact Ug
    ·exact a1 m (by omega)
  rcases h1 with⟨h1,h2⟩|⟨d,h1,h2,h3⟩;·rw[h2]at h;exact old (by rw[hd,h1];simp) h
  ·rw[h3,Tr.get_set]at h;split at h;·rename_i e;subst e;obtain rfl:=Option.some.inj h;exact .inl ⟨i,by omega,by rw[hd,h1],rfl,fun m' _ _=>by omega⟩
   ·rename_i e;exact old (by rw[hd,h1];intro h';injection h' with h';exact e h'.symm) h
end
section
variable (Df : List Deferred) (ops : Array Oper) (st : Nat -> St) (S0 : Nat -> Prop)
def Sk(m:Nat):Nat->Prop:=fun j=>S0 j\/ ∃l,(l=m\/bef ops m l)/\(st l).H.n<=j/\j<(st (l+1)).H.n
def Sz(i:Nat):Nat->Prop:=fun j=>S0 j\/ ∃l,bef ops i l/\(st l).H.n<=j/\j<(st (l+1)).H.n
def Ow(D:Nat->Prop):Nat->Prop:=fun j=>S0 j\/ ∃l,l<ops.size/\D l/\(st l).H.n<=j/\j<(st (l+1)).H.n
def live(D:Nat->Prop)(j:Nat):Prop:=j<(st 0).H.n\/ ∃l,l<ops.size/\D l/\(st l).H.n<=j/\j<(st (l+1)).H.n
variable (X : Xs)
def EO(m:Nat):Prop:= ∃o,ops[m]?=some o/\Xd ops (st m).tm o=some true/\Zz o.op=true/\X.fv m=none
variable (q : Nat -> Bool)
def R1(D:Nat->Prop)(HD:AH):Prop:=(∀m,EO ops st X m->D m->q (m+1)=false)/\HD.lw=(st 0).H.lw/\(∀j,¬live ops st D j->HD.blk j= .dead)/\(∀i,i<=ops.size->q i=false-> ∀j,j<(st i).H.n->live ops st D j->HD.blk j=(st i).H.blk j)/\(∀m,m<ops.size->D m-> ∀j,(st m).H.n<=j->j<(st (m+1)).H.n->az (Sk ops st S0 m) (HD.blk j))
def R2(D:Nat->Prop)(HD:AH):Prop:= ∃h,h<=ops.size/\q h=true/\(∀m,EO ops st X m->(D m↔m<h))/\HD.lw=(st h).H.lw/\ ∀j,HD.blk j=(st h).H.blk j
variable (val : Nat -> Value) (B : Nat) (L0 : Nat -> Loc) (w0 : World)
structure ID (D : Nat -> Prop) (L : Nat -> Loc) (HD : AH) (a : Act) (w : World) : Prop where
  agree : ∀ j, S0 j -> L j = L0 j
  inv : Inv B (Ow ops st S0 D) L HD w
  hn : HD.n = (st ops.size).H.n
  keep : ∀ j, j < (st 0).H.n -> j < HD.lw -> HD.blk j = (st 0).H.blk j
  back : ∀ j, j < (st 0).H.n -> ∀ sz cs, HD.blk j = .rw sz cs -> ∃ Wr, (st 0).H.blk j = .rw sz Wr
  newg : ∀ j, (st 0).H.n <= j -> ∀ sz cs, HD.blk j = .rw sz cs -> w0.heap.size <= (L j).g \/ ∃ i0 Rg Wr, (st 0).H.blk i0 = .rw Rg Wr /\ (L0 i0).g = (L j).g /\ HD.lw <= i0
  os : w.os = w0.os
  tape : w.tape = w0.tape
  output : w.output = w0.output
  wsize : w0.heap.size <= w.heap.size
  frame : ∀ g, g < w0.heap.size -> w.heap[g]? = w0.heap[g]? \/ ∃ i sz cs, (st 0).H.blk i = .rw sz cs /\ (L0 i).g = g /\ HD.lw <= i
  lwle : HD.lw <= (st 0).H.lw
  defers : a.defers = Df
  size : a.tmps.size = (st 0).k
  v0 : ∀ t v, (∀ m, m < ops.size -> D m -> Xa ops m ≠ some t) -> (st 0).tm.get t = some v -> t < (st 0).k /\ VR S0 L v (a.tmps.getD t undef)
  v1 : ∀ m t, m < ops.size -> D m -> Xa ops m = some t -> (∀ m', m' < ops.size -> D m' -> m < m' -> Xa ops m' ≠ some t) -> VR (Sk ops st S0 m) L (val m) (a.tmps.getD t undef)
  regime : R1 ops st S0 X q D HD \/ R2 ops st X q D HD
end
theorem Inv.congr{B:Nat}{S:Nat->Prop}{L:Nat->Loc}{H H':AH}{w:World}(hI:Inv B S L H w)(hb: ∀j,H'.blk j=H.blk j)(hn:H'.n=H.n):Inv B S L H' w:=⟨fun i sz cs h=>hI.ro i sz cs (by rw[<-hb];exact h),fun i sz cs h=>hI.rw i sz cs (by rw[<-hb];exact h),fun i j a b c d h h' e=>hI.dj i j a b c d (by rw[<-hb];exact h) (by rw[<-hb];exact h') e,fun i h=>by rw[hn];exact hI.bd i h,hI.base⟩
theorem Inv.world{B:Nat}{S:Nat->Prop}{L:Nat->Loc}{H:AH}{w w':World}(hI:Inv B S L H w)(hs:w.heap.size<=w'.heap.size)(hb: ∀g,g<w.heap.size->w'.heap[g]?=w.heap[g]?):Inv B S L H w':=by
 refine⟨fun i sz cs h=>?_,fun i sz cs h=>?_,hI.dj,hI.bd,Nat.le_trans hI.base hs⟩;·obtain⟨h1,h2,h3,h4⟩:=hI.ro i sz cs h;refine⟨h1,h2,h3,fun k v hk=>?_⟩;obtain⟨v',h5,h6⟩:=h4 k v hk;exact⟨v',by rw[<-h5];exact World.cell?_of_block (w:=w) (hb _ (Nat.lt_of_lt_of_le h2 hI.base)),h6⟩
 ·obtain⟨h1,h2,h3,C,e,h4,h5,h6⟩:=hI.rw i sz cs h;exact⟨h1,h2,h3,C,e,by rw[hb _ (XF h4)];exact h4,h5,h6⟩
section
variable {Df : List Deferred} {X : Xs} {P : Program} {C : Cfg} {call : FuncId -> List Value -> AH -> Option (Value × AH)} {ops : Array Oper} {st : Nat -> St} {val : Nat -> Value} {q : Nat -> Bool} {ms : Nat -> List (Nat × Nat × Nat)} {s s' : St}
variable {B : Nat} {S0 : Nat -> Prop} {L0 : Nat -> Loc} {w0 : World} {D : Nat -> Prop} {L : Nat -> Loc} {HD : AH} {a : Act} {w : World}
theorem et(hR:W6 ops){i m:Nat}(hi:i<ops.size)(h:bef ops i m): ∀j,Sk ops st S0 m j->Sz ops st S0 i j:=by
 rintro j (h1|⟨l,h1,h2⟩);·exact .inl h1
 ·refine .inr ⟨l,?_,h2⟩;rcases h1 with h1|h1;·rw[h1];exact h
  ·exact hR.bef_trans m l (Yq hi) h h1
theorem A8(hR:W6 ops){i:Nat}(hi:i<ops.size)(h: ∀m,bef ops i m->D m): ∀j,Sz ops st S0 i j->Ow ops st S0 D j:=by
 rintro j (h1|⟨l,h1,h2⟩);·exact .inl h1
 ·exact .inr ⟨l,Nat.lt_trans (hR.bef_lt l (Yq hi) h1) hi,h l h1,h2⟩
theorem re(hR:W6 ops)(VP: ∀i m,i<ops.size->D i->bef ops i m->D m){m:Nat}(hm:m<ops.size)(hD:D m): ∀j,Sk ops st S0 m j->Ow ops st S0 D j:=by
 rintro j (h1|⟨l,h1,h2⟩);·exact .inl h1
 ·rcases h1 with h1|h1;·subst h1;exact .inr ⟨l,hm,hD,h2⟩
  ·exact .inr ⟨l,Nat.lt_trans (hR.bef_lt l (Yq hm) h1) hm,VP m l hm hD h1,h2⟩
theorem ID.looks(T:Trace X P C call ops st val q ms s s')(hR:W6 ops)(h:ID Df ops st S0 X q val B L0 w0 D L HD a w){i:Nat}{o:Oper}(ho:ops[i]?=some o)(Sv: ¬D i)(Ti: ∀m,bef ops i m->D m)(VP: ∀i m,i<ops.size->D i->bef ops i m->D m){t:Nat}(ht:t∈o.looksAt ops){v:Value}(hv:(st i).tm.get t=some v):t<a.tmps.size/\VR (Sz ops st S0 i) L v (a.tmps.getD t undef):=by
 have hi:=Yu ho;have later: ∀m',m'<ops.size->D m'->i<m'->Xa ops m'≠some t:=fun m' LG K8 YW e=>by
  obtain⟨o',mM⟩:=Yq LG;rcases hR.apart i m' o o' ho mM YW with h1|h1;·exact Sv (VP m' i LG K8 h1)
  ·exact(Oper.apart_spec h1).2.2 t (by simpa[Xa,mM]using e) ht
 rw[h.size];rcases T.tm i (Nat.le_of_lt hi) t v hv with⟨m,h1,h2,h3,h4⟩|⟨h1,h2⟩
 ·obtain⟨om,EW⟩:=Yq (ops:=ops) (i:=m) (by omega);have hb:bef ops i m:=by
   rcases hR.apart m i om o EW ho h1 with h5|h5;·exact h5
   ·exact absurd ht ((Oper.apart_spec h5).1 t (by simpa[Xa,EW]using h2))
  refine⟨T.dst_lt h2,?_⟩;have:=h.v1 m t (by omega) (Ti m hb) h2 (fun m' LG K8 YW=>by
   rcases Nat.lt_or_ge m' i with h6|h6;·exact h4 m' YW h6
   ·rcases Nat.lt_or_ge i m' with h7|h7;·exact later m' LG K8 h7
    ·obtain rfl:m'=i:=by omega
     exact absurd K8 Sv);rw[h3]at this;exact this.mono (et hR hi hb) (fun _ _=>rfl)
 ·obtain⟨h3,h4⟩:=h.v0 t v (fun m hm K8=>by
  rcases Nat.lt_or_ge m i with h6|h6;·exact h1 m h6
  ·rcases Nat.lt_or_ge i m with h7|h7;·exact later m hm K8 h7
   ·obtain rfl:m=i:=by omega
    exact absurd K8 Sv) h2;exact⟨h3,h4.mono (fun _ h=> .inl h) (fun _ _=>rfl)⟩
theorem Di{i:Nat}{o:Oper}(T:Trace X P C call ops st val q ms s s')(ho:ops[i]?=some o)(X4:a.tmps.size=(st 0).k)(v':Value)(t:Nat):(a.put o.dst v').tmps.getD t undef=if Xa ops i=some t then v' else a.tmps.getD t undef:=by
 have hd:Xa ops i=o.dst:=by simp[Xa,ho]
 rw[hd];cases CS:o.dst with
  |none=>simp[Act.put]
  |some d=>
   simp only[Act.put];by_cases e:d=t;·subst e;rw[if_pos rfl,RW _ _ _ _ (by rw[X4];exact T.dst_lt (by rw[hd,CS]))]
   ·rw[if_neg (by intro h;injection h with h;exact e h),Ql _ _ _ _ _ e]
theorem ID.slots(T:Trace X P C call ops st val q ms s s')(hR:W6 ops)(h:ID Df ops st S0 X q val B L0 w0 D L HD a w){i:Nat}{o:Oper}(ho:ops[i]?=some o)(Sv: ¬D i)(VP: ∀i m,i<ops.size->D i->bef ops i m->D m){L':Nat->Loc}(hL: ∀j,Ow ops st S0 D j->L' j=L j){v':Value}(hv:VR (Sk ops st S0 i) L' (val i) v'):(a.put o.dst v').defers=Df/\(a.put o.dst v').tmps.size=(st 0).k/\(∀t v,(∀m,m<ops.size->(D m\/m=i)->Xa ops m≠some t)->(st 0).tm.get t=some v->t<(st 0).k/\VR S0 L' v ((a.put o.dst v').tmps.getD t undef))/\(∀m t,m<ops.size->(D m\/m=i)->Xa ops m=some t->(∀m',m'<ops.size->(D m'\/m'=i)->m<m'->Xa ops m'≠some t)->VR (Sk ops st S0 m) L' (val m) ((a.put o.dst v').tmps.getD t undef)):=by
 have hi:=Yu ho;refine⟨?_,?_,fun t v h1 h2=>?_,fun m t hm hD hd EZ=>?_⟩;·have:=h.defers;cases CS:o.dst<;>simp[Act.put,this]
 ·have:=h.size;cases CS:o.dst<;>simp[Act.put,this]
 ·rw[Di T ho h.size,if_neg (h1 i hi (.inr rfl))];obtain⟨h3,h4⟩:=h.v0 t v (fun m hm hD=>h1 m hm (.inl hD)) h2;exact⟨h3,h4.mono (fun _ h=>h) (fun j hj=>hL j (.inl hj))⟩
 ·rw[Di T ho h.size];by_cases Kk:m=i;·subst Kk;rw[if_pos hd];exact hv
  ·have Hi:D m:=hD.resolve_right Kk;have Ug:Xa ops i≠some t:=by
    intro e;obtain⟨om,EW⟩:=Yq hm;rcases Nat.lt_or_ge m i with h1|h1;·exact EZ i hi (.inr rfl) h1 e
    ·have YW:i<m:=by omega
     rcases hR.apart i m o om ho EW YW with h2|h2;·exact Sv (VP m i hm Hi h2)
     ·exact(Oper.apart_spec h2).2.1 t (by simpa[Xa,ho]using e) (by simpa[Xa,EW]using hd)
   rw[if_neg Ug];exact(h.v1 m t hm Hi hd (fun m' LG K8=>EZ m' LG (.inl K8))).mono (fun _ h=>h) (fun j hj=>hL j (re hR VP hm Hi j hj))
theorem ID.quiet(T:Trace X P C call ops st val q ms s s')(hR:W6 ops)(h:ID Df ops st S0 X q val B L0 w0 D L HD a w){i:Nat}{o:Oper}(ho:ops[i]?=some o)(Sv: ¬D i)(VP: ∀i m,i<ops.size->D i->bef ops i m->D m)(hH:(st (i+1)).H=(st i).H)(hq:q (i+1)=q i)(hW: ¬EO ops st X i){v':Value}(hv:VR (Sk ops st S0 i) L (val i) v'){w':World}(hs:w.heap.size<=w'.heap.size)(hb: ∀g,g<w.heap.size->w'.heap[g]?=w.heap[g]?)(e1:w'.os=w.os)(e2:w'.tape=w.tape)(e3:w'.output=w.output):ID Df ops st S0 X q val B L0 w0 (fun m=>D m\/m=i) L HD (a.put o.dst v') w':=by
 have hi:=Yu ho;have AQ: ∀j,Ow ops st S0 (fun m=>D m\/m=i) j↔Ow ops st S0 D j:=fun j=>by
  constructor
  ·rintro(h1|⟨l,h1,h2|h2,h3,h4⟩);·exact .inl h1
   ·exact .inr ⟨l,h1,h2,h3,h4⟩
   ·subst h2;rw[hH]at h4;omega
  ·rintro(h1|⟨l,h1,h2,h3⟩);·exact .inl h1
   ·exact .inr ⟨l,h1,.inl h2,h3⟩
 have qf: ∀j,live ops st (fun m=>D m\/m=i) j↔live ops st D j:=fun j=>by
  constructor
  ·rintro(h1|⟨l,h1,h2|h2,h3,h4⟩);·exact .inl h1
   ·exact .inr ⟨l,h1,h2,h3,h4⟩
   ·subst h2;rw[hH]at h4;omega
  ·rintro(h1|⟨l,h1,h2,h3⟩);·exact .inl h1
   ·exact .inr ⟨l,h1,.inl h2,h3⟩
 obtain⟨s1,s2,s3,s4⟩:=h.slots T hR ho Sv VP (fun _ _=>rfl) hv;refine⟨h.agree,(h.inv.world hs hb).mono (fun j hj=>(AQ j).mpr hj) (fun j hj=>h.inv.bd j ((AQ j).mp hj)),h.hn,h.keep,h.back,h.newg,e1.trans h.os,e2.trans h.tape,e3.trans h.output,Nat.le_trans h.wsize hs,fun g hg=>?_,h.lwle,s1,s2,s3,s4,?_⟩
 ·rcases h.frame g hg with h1|h1;·exact .inl ((hb g (Nat.lt_of_lt_of_le hg h.wsize)).trans h1)
  ·exact .inr h1
 ·rcases h.regime with⟨r1,r2,r3,r4,r5⟩|⟨hh,r1,r2,r3,r4,r5⟩
  ·refine .inl ⟨fun m hm hD=>?_,r2,fun j hj=>r3 j (fun h=>hj ((qf j).mpr h)),fun k hk hqk j hj hl=>r4 k hk hqk j hj ((qf j).mp hl),fun m hm hD j h1 h2=>?_⟩
   ·rcases hD with hD|hD;·exact r1 m hm hD
    ·subst hD;exact absurd hm hW
   ·rcases hD with hD|hD;·exact r5 m hm hD j h1 h2
    ·subst hD;rw[hH]at h2;omega
  ·exact .inr ⟨hh,r1,r2,fun m hm=>⟨fun hD=>by
   rcases hD with hD|hD;·exact(r3 m hm).mp hD
   ·subst hD;exact absurd hm hW,fun YW=> .inl ((r3 m hm).mpr YW)⟩,r4,r5⟩
theorem Trace.isW_of(T:Trace X P C call ops st val q ms s s'){l:Nat}(hl:l<ops.size)(h:(st l).H.n<(st (l+1)).H.n):EO ops st X l:=by
 obtain⟨o,ho⟩:=Yq hl;rcases(T.step l o ho).1 with h1|h1|h1;·rw[h1.1]at h;omega
 ·exact⟨o,ho,h1.1,h1.2.1,h1.2.2.1⟩
 ·exact⟨o,ho,h1.1,h1.2.1,h1.2.2.1⟩
theorem Trace.q_false(T:Trace X P C call ops st val q ms s s'): ∀(i:Nat),i<=ops.size->(∀m,m<i->EO ops st X m->q (m+1)=false)->q i=false
 |0,_,_=>T.q0
 |i+1,hi,h=>by
  obtain⟨o,ho⟩:=Yq (ops:=ops) (i:=i) (by omega);rcases(T.step i o ho).1 with h1|h1|h1;·rw[h1.2.1];exact T.q_false i (by omega) (fun m hm=>h m (by omega))
  ·exact h1.2.2.2.2.1
  ·exact h i (by omega) ⟨o,ho,h1.1,h1.2.1,h1.2.2.1⟩
theorem Trace.still(T:Trace X P C call ops st val q ms s s'){h:Nat} : ∀(i:Nat),h<=i->i<=ops.size->(∀m,h<=m->m<i-> ¬EO ops st X m)->(st i).H=(st h).H
 |0,h1,_,_=>by
  obtain rfl:h=0:=by omega
  rfl
 |i+1,h1,hi,hn=>by
  rcases Nat.lt_or_ge h (i+1)with h'|h'
  ·have ih:=T.still i (by omega) (by omega) (fun m a b=>hn m a (by omega));obtain⟨o,ho⟩:=Yq (ops:=ops) (i:=i) (by omega);rcases(T.step i o ho).1 with h2|h2|h2;·exact h2.1.trans ih
   ·exact absurd ⟨o,ho,h2.1,h2.2.1,h2.2.2.1⟩ (hn i (by omega) (by omega))
   ·exact absurd ⟨o,ho,h2.1,h2.2.1,h2.2.2.1⟩ (hn i (by omega) (by omega))
  ·obtain rfl:h=i+1:=by omega
   rfl
def AlP(X:Xs)(ops:Array Oper):Prop:= ∀i,X.al i=true-> ∀k o,ops[k]?=some o->k≠i->Zz o.op=true->X.fv k=none->(k<i->bef ops i k)/\(i<k->bef ops k i)
theorem OK{i k:Nat}{o:Oper}(h:alone ops i=true)(ho:ops[k]?=some o)(hk:k≠i)(hh:Zz o.op=true):(k<i->bef ops i k)/\(i<k->bef ops k i):=by
 unfold alone at h;rw[List.all_eq_true]at h;have:=h k (by simpa using Yu ho);rw[ho]at this;simp only[hh,Bool.not_true,Bool.false_or,Bool.or_eq_true]at this;rcases this with h1|h1;·exact absurd (Nat.eq_of_beq_eq_true h1) hk
 ·refine⟨fun YW=>?_,fun YW=>?_⟩
  ·have:Nat.blt k i=true:=by rw[Nat.blt_eq];exact YW
   rw[this,cond_true]at h1;exact h1
  ·have:Nat.blt k i=false:=by cases hb:Nat.blt k i with|false=>rfl|true=>rw[Nat.blt_eq]at hb;omega
   rw[this,cond_false]at h1;exact h1
def hid(ops:Array Oper)(st:Nat->St)(ms:Nat->List (Nat×Nat×Nat))(i:Nat):AH:= { n:=(st i).H.n,lw:=(st i).H.n,t:=U6 (st i).H.t (hidden ((before ops).getD i 0) (ms i)) }
theorem ID.sees(T:Trace X P C call ops st val q ms s s')(hR:W6 ops)(W0:Inv B S0 L0 (st 0).H w0)(h:ID Df ops st S0 X q val B L0 w0 D L HD a w)(hr:R1 ops st S0 X q D HD){i:Nat}(hi:i<ops.size)(Ti: ∀m,bef ops i m->D m)(qt:q i=false):Inv B (Sz ops st S0 i) L (hid ops st ms i) w:=by
 obtain⟨r1,r2,r3,r4,r5⟩:=hr;have Jg: ∀j,(st 0).H.n<=j->(st 0).H.blk j= .dead:=fun j hj=>by cases hb:(st 0).H.blk j with|dead=>rfl|ro sz cs=>exact absurd (W0.bd j (W0.ro j sz cs hb).1) (by omega)|rw sz cs=>exact absurd (W0.bd j (W0.rw j sz cs hb).1) (by omega)
 obtain⟨g1,g2,g3⟩:=T.grown Jg i (Nat.le_of_lt hi) qt;have ML:=A8 (S0:=S0) (st:=st) hR hi Ti;have key: ∀j b,(hid ops st ms i).blk j=b->b≠ .dead->HD.blk j=b/\Sz ops st S0 i j/\az (Sz ops st S0 i) b:=by
  intro j b hb Ug;have Zx:((if j∈hidden ((before ops).getD i 0) (ms i)then Ou.dead else(st i).H.blk j):Ou)=b:=by rw[<-hb];exact(aU _ _ _ _ j).symm
  by_cases hj:j∈hidden ((before ops).getD i 0) (ms i);·rw[if_pos hj]at Zx;exact absurd Zx.symm Ug
  ·rw[if_neg hj]at Zx;have YW:j<(st i).H.n:=by
    rcases Nat.lt_or_ge j (st i).H.n with h'|h';·exact h'
    ·rw[g2 j h']at Zx;exact absurd Zx.symm Ug
   rcases Nat.lt_or_ge j (st 0).H.n with h0|h0
   ·have e0:=g3 0 (Nat.zero_le _) j h0;refine⟨(r4 i (Nat.le_of_lt hi) qt j YW (.inl h0)).trans Zx,.inl ?_,?_⟩;·rw[e0]at Zx;cases hbb:(st 0).H.blk j with|dead=>rw[hbb]at Zx;exact absurd Zx.symm Ug|ro sz cs=>exact(W0.ro j sz cs hbb).1|rw sz cs=>exact(W0.rw j sz cs hbb).1
    ·rw[<-Zx,e0];exact(W0.inSB j).mono (fun _ h=> .inl h)
   ·obtain⟨m,h1,h2,h3⟩:=T.range h0 (Nat.le_of_lt hi) YW;have Ew:bef ops i m:=by unfold bef;cases sj:((before ops).getD i 0).testBit m with|true=>rfl|false=>exact absurd ((O7 _ _ _).mpr ⟨m,_,_,(T.ms_iff i (Nat.le_of_lt hi) m _ _).mpr ⟨h1,rfl,rfl,by omega⟩,sj,h2,h3⟩) hj
    have Hi:=Ti m Ew;have hHD:=(r4 i (Nat.le_of_lt hi) qt j YW (.inr ⟨m,by omega,Hi,h2,h3⟩)).trans Zx;refine⟨hHD,.inr ⟨m,Ew,h2,h3⟩,?_⟩;rw[<-hHD];exact(r5 m (by omega) Hi j h2 h3).mono (et hR hi Ew)
 refine⟨fun j sz cs hb=>?_,fun j sz cs hb=>?_,fun j j' sz cs VU cs' hb Wk e=>?_,fun j hj=>?_,h.inv.base⟩;·obtain⟨k1,k2,k3⟩:=key j _ hb (by intro h;cases h);obtain⟨h1,h2,h3,h4⟩:=h.inv.ro j sz cs k1;refine⟨k2,h2,h3,fun k v hk=>?_⟩;obtain⟨v',h5,h6⟩:=h4 k v hk;exact⟨v',h5,h6.narrow (k3 k v hk)⟩
 ·obtain⟨k1,k2,k3⟩:=key j _ hb (by intro h;cases h);obtain⟨h1,h2,h3,C',e,h4,h5,h6⟩:=h.inv.rw j sz cs k1;refine⟨k2,h2,h3,C',e,h4,h5,fun k v hk=>?_⟩;obtain⟨v',h7,h8⟩:=h6 k v hk;exact⟨v',h7,h8.narrow (k3 k v hk)⟩
 ·exact h.inv.dj j j' sz cs VU cs' (key j _ hb (by intro h;cases h)).1 (key j' _ Wk (by intro h;cases h)).1 e
 ·show j<(st i).H.n;rcases hj with hj|⟨l,h1,h2,h3⟩;·exact Nat.lt_of_lt_of_le (W0.bd j hj) (T.n_mono (Nat.zero_le _) (Nat.le_of_lt hi))
  ·have:=hR.bef_lt l (Yq hi) h1;exact Nat.lt_of_lt_of_le h3 (T.n_mono (by omega) (Nat.le_of_lt hi))
theorem ID.grow(T:Trace X P C call ops st val q ms s s')(hR:W6 ops)(W0:Inv B S0 L0 (st 0).H w0)(h:ID Df ops st S0 X q val B L0 w0 D L HD a w)(hr:R1 ops st S0 X q D HD){i:Nat}{o:Oper}(ho:ops[i]?=some o)(Sv: ¬D i)(Ti: ∀m,bef ops i m->D m)(VP: ∀i m,i<ops.size->D i->bef ops i m->D m)(qt:q i=false)(kR:q (i+1)=false){H2:AH}(hn2:(st i).H.n<=H2.n)(LH:(st i).H.n<=H2.lw)(hE:(st (i+1)).H.n=H2.n)(XO: ∀j,(st (i+1)).H.blk j=if(st i).H.n<=j/\j<H2.n then H2.blk j else(st i).H.blk j){v':Value}{w':World}(hg:Good B (Sz ops st S0 i) L (hid ops st ms i) w (val i) H2 v' w'): ∃L2 R8,ID Df ops st S0 X q val B L0 w0 (fun m=>D m\/m=i) L2 R8 (a.put o.dst v') w'/\ ∀j,Ow ops st S0 D j->L2 j=L j:=by
 have hi:=Yu ho;obtain⟨r1,r2,r3,r4,r5⟩:=hr;obtain⟨L',gI,gF,gV⟩:=hg;have xC:(hid ops st ms i).n=(st i).H.n:=rfl;rw[xC]at gI gV;have Jg: ∀j,(st 0).H.n<=j->(st 0).H.blk j= .dead:=fun j hj=>by cases hb:(st 0).H.blk j with|dead=>rfl|ro sz cs=>exact absurd (W0.bd j (W0.ro j sz cs hb).1) (by omega)|rw sz cs=>exact absurd (W0.bd j (W0.rw j sz cs hb).1) (by omega)
 have hM:Inv B (Sz ops st S0 i) L (hid ops st ms i) w:=ID.sees T hR W0 h ⟨r1,r2,r3,r4,r5⟩ hi Ti qt;have ML:=A8 (S0:=S0) (st:=st) hR hi Ti;have Sw:(st 0).H.n<=(st i).H.n:=T.n_mono (Nat.zero_le _) (Nat.le_of_lt hi);have hEN:H2.n<=(st ops.size).H.n:=by rw[<-hE];exact T.n_mono (by omega) (Nat.le_refl _)
 have hold: ∀g,g<w.heap.size->w'.heap[g]?=w.heap[g]?:=fun g hg=>by
  rcases gF.frame g hg with h1|⟨j,sz,cs,h1,h2,h3⟩;·exact h1
  ·have:=hM.lt h1;rw[xC]at this;omega
 have qg: ∀j,(st i).H.n<=j-> ∀sz cs,H2.blk j= .rw sz cs->w.heap.size<=(L' j).g:=fun j hj sz cs hb=>by
  rcases gF.newg j hj sz cs hb with h1|⟨i0,Rg,Wr,h1,h2,h3⟩;·exact h1
  ·have:=hM.lt h1;rw[xC]at this;omega
 have yH: ∀j,Ow ops st S0 D j-> ¬ ((st i).H.n<=j/\j<H2.n):=by
  rintro j (h1|⟨l,h1,h2,h3,h4⟩) ⟨h5,h6⟩;·have:=W0.bd j h1;omega
  ·rcases Nat.lt_or_ge l i with h7|h7;·have:=T.n_mono (i:=l+1) (j:=i) (by omega) (by omega);omega
   ·rcases Nat.lt_or_ge i l with h8|h8;·have:=T.n_mono (i:=i+1) (j:=l) (by omega) (by omega);omega
    ·obtain rfl:l=i:=by omega
     exact Sv h2
 let L2:Nat->Loc:=fun j=>if(st i).H.n<=j/\j<H2.n then L' j else L j;have O0: ∀j,Ow ops st S0 D j->L2 j=L j:=fun j hj=>if_neg (yH j hj);have GZ: ∀j,ext (Sz ops st S0 i) (st i).H.n H2.n j->L2 j=L' j:=by
  rintro j (hj|hj);·rw[O0 j (ML j hj),gF.agree j hj]
  ·exact if_pos hj
 have CV: ∀j,Ow ops st S0 (fun m=>D m\/m=i) j↔Ow ops st S0 D j\/((st i).H.n<=j/\j<H2.n):=fun j=>by
  constructor
  ·rintro(h1|⟨l,h1,h2|h2,h3,h4⟩);·exact .inl (.inl h1)
   ·exact .inl (.inr ⟨l,h1,h2,h3,h4⟩)
   ·subst h2;exact .inr ⟨h3,by rw[<-hE];exact h4⟩
  ·rintro((h1|⟨l,h1,h2,h3⟩)|⟨h1,h2⟩);·exact .inl h1
   ·exact .inr ⟨l,h1,.inl h2,h3⟩
   ·exact .inr ⟨i,hi,.inr rfl,h1,by rw[hE];exact h2⟩
 have pD: ∀j,Ow ops st S0 D j->Ow ops st S0 (fun m=>D m\/m=i) j:=fun j hj=>(CV j).mpr (.inl hj);have r6: ∀j,ext (Sz ops st S0 i) (st i).H.n H2.n j->Ow ops st S0 (fun m=>D m\/m=i) j:=by
  rintro j (hj|hj);·exact pD j (ML j hj)
  ·exact(CV j).mpr (.inr hj)
 have hSk: ∀j,ext (Sz ops st S0 i) (st i).H.n H2.n j->Sk ops st S0 i j:=by
  rintro j ((hj|⟨l,h1,h2⟩)|⟨h1,h2⟩);·exact .inl hj
  ·exact .inr ⟨l,.inr h1,h2⟩
  ·exact .inr ⟨i,.inl rfl,h1,by rw[hE];exact h2⟩
 let R8:AH:= { n:=HD.n,lw:=HD.lw,t:=Nr HD.t H2 (st i).H.n (H2.n-(st i).H.n) };have bc: ∀j,R8.blk j=if(st i).H.n<=j/\j<H2.n then H2.blk j else HD.blk j:=fun j=>by show({ n:=HD.n,lw:=HD.lw,t:=Nr HD.t H2 (st i).H.n (H2.n-(st i).H.n) } :AH).blk j=_;rw[FG,show(st i).H.n+(H2.n-(st i).H.n)=H2.n by omega]
 have hw:=h.inv.world gF.size hold;have hinv:Inv B (Ow ops st S0 (fun m=>D m\/m=i)) L2 R8 w':=by
  refine⟨fun j sz cs hb=>?_,fun j sz cs hb=>?_,fun j j' sz cs VU cs' hb Wk e=>?_,fun j hj=>?_,hw.base⟩
  ·rw[bc]at hb;split at hb;·rename_i Ij;obtain⟨h1,h2,h3,h4⟩:=gI.ro j sz cs hb;rw[GZ j h1];refine⟨r6 j h1,h2,h3,fun k v hk=>?_⟩;obtain⟨u,h5,h6⟩:=h4 k v hk;exact⟨u,h5,h6.mono r6 GZ⟩
   ·obtain⟨h1,h2,h3,h4⟩:=hw.ro j sz cs hb;rw[O0 j h1];refine⟨pD j h1,h2,h3,fun k v hk=>?_⟩;obtain⟨u,h5,h6⟩:=h4 k v hk;exact⟨u,h5,h6.mono pD O0⟩
  ·rw[bc]at hb;split at hb;·rename_i Ij;obtain⟨h1,h2,h3,C',e,h4,h5,h6⟩:=gI.rw j sz cs hb;rw[GZ j h1];refine⟨r6 j h1,h2,h3,C',e,h4,h5,fun k v hk=>?_⟩;obtain⟨u,h7,h8⟩:=h6 k v hk;exact⟨u,h7,h8.mono r6 GZ⟩
   ·obtain⟨h1,h2,h3,C',e,h4,h5,h6⟩:=hw.rw j sz cs hb;rw[O0 j h1];refine⟨pD j h1,h2,h3,C',e,h4,h5,fun k v hk=>?_⟩;obtain⟨u,h7,h8⟩:=h6 k v hk;exact⟨u,h7,h8.mono pD O0⟩
  ·rw[bc]at hb Wk;have qM: ∀x s c,HD.blk x= .rw s c->(L2 x).g<w.heap.size:=fun x s c hx=>by obtain⟨h1,_,_,C',e',h4,_⟩:=h.inv.rw x s c hx;rw[O0 x h1];exact XF h4
   have qP: ∀x s c,(st i).H.n<=x->H2.blk x= .rw s c->w.heap.size<=(L2 x).g:=fun x s c hx hbx=>by rw[GZ x (gI.rw x s c hbx).1];exact qg x hx s c hbx
   split at hb
   ·rename_i Ij;split at Wk;·rename_i yT;have e1:=GZ j (gI.rw j sz cs hb).1;have e2:=GZ j' (gI.rw j' VU cs' Wk).1;rw[e1,e2]at e;exact gI.dj j j' sz cs VU cs' hb Wk e
    ·have:=qM j' _ _ Wk;have:=qP j _ _ Ij.1 hb;omega
   ·split at Wk;·rename_i yT;have:=qM j _ _ hb;have:=qP j' _ _ yT.1 Wk;omega
    ·rw[O0 j (h.inv.rw j sz cs hb).1,O0 j' (h.inv.rw j' VU cs' Wk).1]at e;exact h.inv.dj j j' sz cs VU cs' hb Wk e
  ·show j<HD.n;rcases(CV j).mp hj with h1|⟨h1,h2⟩;·exact h.inv.bd j h1
   ·rw[h.hn];omega
 obtain⟨s1,s2,s3,s4⟩:=h.slots T hR ho Sv VP (L':=L2) O0 (v':=v') (gV.mono hSk (fun j hj=>GZ j hj));have gO: ∀j,j<(st 0).H.n-> ¬ ((st i).H.n<=j/\j<H2.n):=fun j hj=>by omega
 refine⟨L2,R8,?_,O0⟩;refine⟨fun j hj=>(O0 j (.inl hj)).trans (h.agree j hj),hinv,h.hn,fun j hj hl=>?_,fun j hj sz cs hb=>?_,fun j hj sz cs hb=>?_,gF.os.trans h.os,gF.tape.trans h.tape,gF.output.trans h.output,Nat.le_trans h.wsize gF.size,fun g hg=>?_,h.lwle,s1,s2,s3,s4,.inl ⟨fun m hm hD=>?_,r2,fun j hj=>?_,fun k hk hqk j hj hl=>?_,fun m hm hD j h1 h2=>?_⟩⟩;·rw[bc,if_neg (gO j hj)];exact h.keep j hj hl
 ·rw[bc,if_neg (gO j hj)]at hb;exact h.back j hj sz cs hb
 ·rw[bc]at hb;split at hb;·rename_i Ij;left;rw[GZ j (gI.rw j sz cs hb).1];exact Nat.le_trans h.wsize (qg j Ij.1 sz cs hb)
  ·rw[O0 j (h.inv.rw j sz cs hb).1];exact h.newg j hj sz cs hb
 ·rcases h.frame g hg with h1|h1;·exact .inl ((hold g (Nat.lt_of_lt_of_le hg h.wsize)).trans h1)
  ·exact .inr h1
 ·rcases hD with hD|hD;·exact r1 m hm hD
  ·subst hD;exact kR
 ·rw[bc,if_neg (fun Ij=>hj (.inr ⟨i,hi,.inr rfl,Ij.1,by rw[hE];exact Ij.2⟩))];refine r3 j fun hl=>hj ?_;rcases hl with hl|⟨l,h1,h2,h3⟩;·exact .inl hl
  ·exact .inr ⟨l,h1,.inl h2,h3⟩
 ·rw[bc];split
  ·rename_i Ij;have mP:i+1<=k:=by
    rcases Nat.lt_or_ge k (i+1)with h'|h';·have:=T.n_mono (i:=k) (j:=i) (by omega) (by omega);omega
    ·exact h'
   rw[(T.grown Jg k hk hqk).2.2 (i+1) mP j (by rw[hE];exact Ij.2),XO,if_pos Ij]
  ·rename_i Ij;refine r4 k hk hqk j hj ?_;rcases hl with hl|⟨l,h1,h2|h2,h3,h4⟩;·exact .inl hl
   ·exact .inr ⟨l,h1,h2,h3,h4⟩
   ·subst h2;exact absurd ⟨h3,by rw[<-hE];exact h4⟩ Ij
 ·rw[bc];rcases hD with hD|hD;·rw[if_neg (yH j (.inr ⟨m,hm,hD,h1,h2⟩))];exact r5 m hm hD j h1 h2
  ·subst hD;rw[if_pos ⟨h1,by rw[<-hE];exact h2⟩];exact(gI.inSB j).mono hSk
end
section
variable {Df : List Deferred} {X : Xs} {P : Program} {C : Cfg} {call : FuncId -> List Value -> AH -> Option (Value × AH)} {ops : Array Oper} {st : Nat -> St} {val : Nat -> Value} {q : Nat -> Bool} {ms : Nat -> List (Nat × Nat × Nat)} {s s' : St}
variable {B : Nat} {S0 : Nat -> Prop} {L0 : Nat -> Loc} {w0 : World} {D : Nat -> Prop} {L : Nat -> Loc} {HD : AH} {a : Act} {w : World}
def FO(st:Nat->St)(i:Nat):AH:= { n:=(st i).H.n,lw:=(st i).H.n,t:=(st i).H.t }
theorem Uw(W0:Inv B S0 L0 (st 0).H w0): ∀j,(st 0).H.n<=j->(st 0).H.blk j= .dead:=fun j hj=>by cases hb:(st 0).H.blk j with|dead=>rfl|ro sz cs=>exact absurd (W0.bd j (W0.ro j sz cs hb).1) (by omega)|rw sz cs=>exact absurd (W0.bd j (W0.rw j sz cs hb).1) (by omega)
theorem ID.all(T:Trace X P C call ops st val q ms s s')(W0:Inv B S0 L0 (st 0).H w0)(h:ID Df ops st S0 X q val B L0 w0 D L HD a w){i:Nat}(hi:i<ops.size)(hD: ∀m,EO ops st X m->(D m↔m<i))(dV:EO ops st X i):HD.lw=(st i).H.lw/\ ∀j,HD.blk j=(st i).H.blk j:=by
 rcases h.regime with⟨r1,r2,r3,r4,r5⟩|⟨k,r1,r2,r3,r4,r5⟩
 ·have qt:q i=false:=T.q_false i (Nat.le_of_lt hi) (fun m hm hw=>r1 m hw ((hD m hw).mpr hm));obtain⟨g1,g2,g3⟩:=T.grown (Uw W0) i (Nat.le_of_lt hi) qt;refine⟨r2.trans g1.symm,fun j=>?_⟩;rcases Nat.lt_or_ge j (st i).H.n with YW|Sa
  ·refine r4 i (Nat.le_of_lt hi) qt j YW ?_;rcases Nat.lt_or_ge j (st 0).H.n with h0|h0;·exact .inl h0
   ·obtain⟨m,h1,h2,h3⟩:=T.range h0 (Nat.le_of_lt hi) YW;exact .inr ⟨m,by omega,(hD m (T.isW_of (by omega) (by omega))).mpr h1,h2,h3⟩
  ·rw[g2 j Sa];refine r3 j fun hl=>?_;rcases hl with hl|⟨l,h1,h2,h3,h4⟩;·have:=T.n_mono (i:=0) (j:=i) (Nat.zero_le _) (Nat.le_of_lt hi);omega
   ·have YW:=(hD l (T.isW_of h1 (by omega))).mp h2;have:=T.n_mono (i:=l+1) (j:=i) (by omega) (Nat.le_of_lt hi);omega
 ·have hk:k<=i:=by
   rcases Nat.lt_or_ge i k with h'|h';·have:=(hD i dV).mp ((r3 i dV).mpr h');omega
   ·exact h'
  have:=T.still i hk (Nat.le_of_lt hi) (fun m h1 h2 hw=>by have:=(r3 m hw).mp ((hD m hw).mpr h2);omega);rw[this];exact⟨r4,r5⟩
theorem ID.seesAll(T:Trace X P C call ops st val q ms s s')(W0:Inv B S0 L0 (st 0).H w0)(h:ID Df ops st S0 X q val B L0 w0 D L HD a w){i:Nat}(hi:i<ops.size)(hD: ∀m,EO ops st X m->(D m↔m<i))(dV:EO ops st X i):Inv B (Ow ops st S0 D) L (FO st i) w:=by
 have hb:=(h.all T W0 hi hD dV).2;have Wk: ∀j,(FO st i).blk j=HD.blk j:=fun j=>(hb j).symm;refine⟨fun j sz cs hj=>h.inv.ro j sz cs (by rw[<-Wk];exact hj),fun j sz cs hj=>h.inv.rw j sz cs (by rw[<-Wk];exact hj),fun j j' a b c d hj AX e=>h.inv.dj j j' a b c d (by rw[<-Wk];exact hj) (by rw[<-Wk];exact AX) e,fun j hj=>?_,h.inv.base⟩;show j<(st i).H.n;rcases hj with hj|⟨l,h1,h2,h3,h4⟩;·exact Nat.lt_of_lt_of_le (W0.bd j hj) (T.n_mono (Nat.zero_le _) (Nat.le_of_lt hi))
 ·have:=(hD l (T.isW_of h1 (by omega))).mp h2;exact Nat.lt_of_lt_of_le h4 (T.n_mono (by omega) (Nat.le_of_lt hi))
theorem ID.write(T:Trace X P C call ops st val q ms s s')(hR:W6 ops)(W0:Inv B S0 L0 (st 0).H w0)(h:ID Df ops st S0 X q val B L0 w0 D L HD a w){i:Nat}{o:Oper}(ho:ops[i]?=some o)(Sv: ¬D i)(VP: ∀i m,i<ops.size->D i->bef ops i m->D m)(hD: ∀m,EO ops st X m->(D m↔m<i))(si: ∀m,EO ops st X m->m<i->bef ops i m)(dV:EO ops st X i)(kR:q (i+1)=true){H2:AH}(hn2:(st i).H.n<=H2.n)(hE:(st (i+1)).H.n=H2.n)(LH:(st (i+1)).H.lw=min (st i).H.lw H2.lw)(XO: ∀j,(st (i+1)).H.blk j=H2.blk j){v':Value}{w':World}(hg:Good B (Ow ops st S0 D) L (FO st i) w (val i) H2 v' w'): ∃L2 R8,ID Df ops st S0 X q val B L0 w0 (fun m=>D m\/m=i) L2 R8 (a.put o.dst v') w'/\ ∀j,Ow ops st S0 D j->L2 j=L j:=by
 have hi:=Yu ho;obtain⟨L',gI,gF,gV⟩:=hg;have xC:(FO st i).n=(st i).H.n:=rfl;rw[xC]at gI gV;obtain⟨hlwD,hb⟩:=h.all T W0 hi hD dV;have hM:=h.seesAll T W0 hi hD dV;have hMb: ∀j,(FO st i).blk j=HD.blk j:=fun j=>(hb j).symm;have Sw:(st 0).H.n<=(st i).H.n:=T.n_mono (Nat.zero_le _) (Nat.le_of_lt hi);have hEN:H2.n<=(st ops.size).H.n:=by rw[<-hE];exact T.n_mono (by omega) (Nat.le_refl _)
 have CV: ∀j,Ow ops st S0 (fun m=>D m\/m=i) j↔ext (Ow ops st S0 D) (st i).H.n H2.n j:=fun j=>by
  constructor
  ·rintro(h1|⟨l,h1,h2|h2,h3,h4⟩);·exact .inl (.inl h1)
   ·exact .inl (.inr ⟨l,h1,h2,h3,h4⟩)
   ·subst h2;exact .inr ⟨h3,by rw[<-hE];exact h4⟩
  ·rintro((h1|⟨l,h1,h2,h3⟩)|⟨h1,h2⟩);·exact .inl h1
   ·exact .inr ⟨l,h1,.inl h2,h3⟩
   ·exact .inr ⟨i,hi,.inr rfl,h1,by rw[hE];exact h2⟩
 have hSk: ∀j,ext (Ow ops st S0 D) (st i).H.n H2.n j->Sk ops st S0 i j:=by
  rintro j ((hj|⟨l,h1,h2,h3,h4⟩)|⟨h1,h2⟩);·exact .inl hj
  ·have hw:=T.isW_of h1 (by omega);exact .inr ⟨l,.inr (si l hw ((hD l hw).mp h2)),h3,h4⟩
  ·exact .inr ⟨i,.inl rfl,h1,by rw[hE];exact h2⟩
 let R8:AH:= { n:=HD.n,lw:=min HD.lw H2.lw,t:=H2.t };have bc: ∀j,R8.blk j=H2.blk j:=fun j=>rfl;have hinv:Inv B (Ow ops st S0 (fun m=>D m\/m=i)) L' R8 w':=by have Xi:=gI.mono (S':=Ow ops st S0 (fun m=>D m\/m=i)) (fun j hj=>(CV j).mpr hj) (fun j hj=>gI.bd j ((CV j).mp hj));exact⟨Xi.ro,Xi.rw,Xi.dj,fun j hj=>by show j<HD.n;have:=gI.bd j ((CV j).mp hj);rw[h.hn];omega,Xi.base⟩
 have pC: ∀j,j<(st i).H.n-> ∀sz cs,H2.blk j= .rw sz cs-> ∃Wr,HD.blk j= .rw sz Wr/\L' j=L j:=fun j hj sz cs Ax=>by obtain⟨Wr,h0⟩:=gF.back j hj sz cs Ax;exact⟨Wr,by rw[<-hMb];exact h0,gF.agree j (hM.rw j sz Wr h0).1⟩
 have qe: ∀i1 Mk Oy,HD.blk i1= .rw Mk Oy->H2.lw<=i1->w0.heap.size<=(L i1).g\/ ∃i0 Rg Wr,(st 0).H.blk i0= .rw Rg Wr/\(L0 i0).g=(L i1).g/\min HD.lw H2.lw<=i0:=fun i1 Mk Oy h1 hl=>by
  rcases Nat.lt_or_ge i1 (st 0).H.n with YW|Sa;·obtain⟨Wr,h0⟩:=h.back i1 YW Mk Oy h1;exact .inr ⟨i1,Mk,Wr,h0,by rw[h.agree i1 (W0.rw i1 Mk Wr h0).1],Nat.le_trans (Nat.min_le_right _ _) hl⟩
  ·rcases h.newg i1 Sa Mk Oy h1 with h2|⟨i0,Rg,Wr,h0,e0,l0⟩;·exact .inl h2
   ·exact .inr ⟨i0,Rg,Wr,h0,e0,Nat.le_trans (Nat.min_le_left _ _) l0⟩
 obtain⟨s1,s2,s3,s4⟩:=h.slots T hR ho Sv VP (L':=L') gF.agree (v':=v') (gV.mono hSk (fun _ _=>rfl));refine⟨L',R8,?_,gF.agree⟩;refine⟨fun j hj=>(gF.agree j (.inl hj)).trans (h.agree j hj),hinv,h.hn,fun j hj hl=>?_,fun j hj sz cs Ax=>?_,fun j hj sz cs Ax=>?_,gF.os.trans h.os,gF.tape.trans h.tape,gF.output.trans h.output,Nat.le_trans h.wsize gF.size,fun g hg=>?_,Nat.le_trans (Nat.min_le_left _ _) h.lwle,s1,s2,s3,s4,.inr ⟨i+1,hi,kR,fun m hm=>?_,by rw[LH,<-hlwD],fun j=>(XO j).symm⟩⟩;·have GX:j<HD.lw:=Nat.lt_of_lt_of_le hl (Nat.min_le_left _ _);have CO:j<H2.lw:=Nat.lt_of_lt_of_le hl (Nat.min_le_right _ _);rw[bc,gF.keep j (Nat.lt_of_lt_of_le hj Sw) CO,hMb];exact h.keep j hj GX
 ·rw[bc]at Ax;obtain⟨Wr,h0,_⟩:=pC j (Nat.lt_of_lt_of_le hj Sw) sz cs Ax;exact h.back j hj sz Wr h0
 ·rw[bc]at Ax;rcases Nat.lt_or_ge j (st i).H.n with YW|Sa
  ·obtain⟨Wr,h0,hLj⟩:=pC j YW sz cs Ax;rw[hLj];rcases h.newg j hj sz Wr h0 with h2|⟨i0,Rg,Oy,h1,e1,l1⟩;·exact .inl h2
   ·exact .inr ⟨i0,Rg,Oy,h1,e1,Nat.le_trans (Nat.min_le_left _ _) l1⟩
  ·rcases gF.newg j Sa sz cs Ax with h1|⟨i1,Mk,Oy,h1,e1,l1⟩;·exact .inl (Nat.le_trans h.wsize h1)
   ·rw[hMb]at h1;rw[<-e1];exact qe i1 Mk Oy h1 l1
 ·rcases gF.frame g (Nat.lt_of_lt_of_le hg h.wsize)with h1|⟨i1,Mk,Oy,h1,e1,l1⟩
  ·rcases h.frame g hg with h2|⟨i0,Rg,Wr,h2,e2,l2⟩;·exact .inl (h1.trans h2)
   ·exact .inr ⟨i0,Rg,Wr,h2,e2,Nat.le_trans (Nat.min_le_left _ _) l2⟩
  ·rw[hMb]at h1;rcases qe i1 Mk Oy h1 l1 with h2|⟨i0,Rg,Wr,h2,e2,l2⟩;·rw[e1]at h2;omega
   ·exact .inr ⟨i0,Rg,Wr,h2,e2.trans e1,l2⟩
 ·constructor
  ·rintro(hD1|hD1);·have:=(hD m hm).mp hD1;omega
   ·omega
  ·intro YW;by_cases e:m=i;·exact .inr e
   ·exact .inl ((hD m hm).mpr (by omega))
theorem N6{C:Cfg}{S:Nat->Prop}{L:Nat->Loc}(hG:GO C S L){tm:Tr Value}{a:Act}{x:Operand}(ht: ∀t v,x= .tmp t->tm.get t=some v->VR S L v (a.tmps.getD t undef)){v:Value}(h:YE C tm x=some v):VR S L v (a.eval x):=by cases x with
 |tmp t=>exact ht t v rfl h
 |const u=>simp only[YE]at h;cases hp:plain u with|false=>rw[hp]at h;cases h|true=>rw[hp]at h;obtain rfl:=Option.some.inj h;exact VK hp
 |global g=>simp only[YE]at h;cases hg:Nat.blt g C.ng with|false=>rw[hg]at h;cases h|true=>rw[hg]at h;obtain rfl:=Option.some.inj h;obtain⟨h1,h2,h3⟩:=hG g (by simpa[Nat.blt_eq]using hg);have:=VR.ptr (S:=S) (L:=L) g 0 h1;rw[h2,h3]at this;exact this
 |func f=>obtain rfl:=Option.some.inj h;exact .func _ _ _ _ _ rfl (fun k v v' h1=>by simp at h1) rfl (fun k v v' h1=>by simp at h1)
theorem P2{o:Oper}{t:Nat}(h:Operand.tmp t∈o.op.operands):t∈o.looksAt ops:=List.mem_append_left _ (List.mem_filterMap.2 ⟨.tmp t,by simpa using h,rfl⟩)
theorem Ll{o:Oper}{j:Nat}{want:Bool}{d:Tmp}(h:o.guard=some (j,want))(hd:(ops[j]?).bind (·.dst)=some d):d∈o.looksAt ops:=by refine List.mem_append_right _ ?_;rw[h];simp only[hd];simp
theorem ID.step(T:Trace X P C call ops st val q ms s s')(hR:W6 ops)(Xb:W5 P C B call)(hG:GO C S0 L0)(W0:Inv B S0 L0 (st 0).H w0)(h:ID Df ops st S0 X q val B L0 w0 D L HD a w){i:Nat}{o:Oper}(ho:ops[i]?=some o)(Sv: ¬D i)(Ti: ∀m,bef ops i m->D m)(VP: ∀i m,i<ops.size->D i->bef ops i m->D m)(CY:AlP X ops)(hFi:X.fv i=none){K:Act->World->Prop}{Q:Exit->Act->World->Prop}(hK: ∀L2 R8 a' w',ID Df ops st S0 X q val B L0 w0 (fun m=>D m\/m=i) L2 R8 a' w'->(∀j,Ow ops st S0 D j->L2 j=L j)->K a' w'):wpOp P ops Q i K a w:=by
 have hi:=Yu ho;have Py:=fun{t:Nat} (ht:t∈o.looksAt ops){v:Value} (hv:(st i).tm.get t=some v)=>h.looks T hR ho Sv Ti VP ht hv;have gg:GO C (Sz ops st S0 i) L:=hG.mono (fun _ hj=> .inl hj) h.agree;have LF: ∀x∈o.op.operands,∀u,YE C (st i).tm x=some u->VR (Sz ops st S0 i) L u (a.eval x):=fun x hx u hu=>N6 gg (fun t v e hv=>by subst e;exact(Py (P2 hx) hv).2) hu;have RA: ∀b,Xd ops (st i).tm o=some b->Region.wanted o (yielded ops a.tmps)=b:=fun b hb=>UT hb (fun j want d hg hd v hv=>Py (Ll hg hd) hv);unfold wpOp;rw[ho];dsimp only;rcases(T.step i o ho).1 with⟨h1,h2,h3⟩|⟨h1,h2,mR,h3,h4,H2,h5,h6,h7,h8,h9,h10⟩|⟨h1,h2,mR,h3,h4,H2,h5,h6,h7,h8,h9⟩
 ·rcases h3 with⟨h3,h4⟩|⟨h3,h4,h5⟩|⟨_,_,h5⟩;·rw[RA _ h3,if_neg (by simp)];refine hK L HD _ w (h.quiet T hR ho Sv VP h1 h2 ?_ (by rw[h4];exact PM) (Nat.le_refl _) (fun _ _=>rfl) rfl rfl rfl) (fun _ _=>rfl);rintro⟨o',e1,e2,_⟩;rw[ho]at e1;obtain rfl:=Option.some.inj e1;rw[h3]at e2;cases e2
  ·rw[RA _ h3,if_pos rfl];left;let M0:AH:= { n:=(st ops.size).H.n,lw:=(st ops.size).H.n,t:= .nil };have hM0:Inv B (Sz ops st S0 i) L M0 w:=by refine⟨fun j sz cs hb=>(by cases hb),fun j sz cs hb=>(by cases hb),fun j j' a b c d hb=>(by cases hb),fun j hj=>?_,h.inv.base⟩;show j<(st ops.size).H.n;have:=h.inv.bd j (A8 (S0:=S0) (st:=st) hR hi Ti j hj);rw[h.hn]at this;exact this
   refine(Wj Xb gg hM0 LF (h5 M0)).wp fun v' w' hg=>?_;obtain⟨L',gI,gF,gV⟩:=hg;have qb: ∀g,g<w.heap.size->w'.heap[g]?=w.heap[g]?:=fun g hg=>by
    rcases gF.frame g hg with e|⟨j,sz,cs,e,_⟩;·exact e
    ·cases e
   refine hK L HD _ w' (h.quiet T hR ho Sv VP h1 h2 ?_ (v':=v') ?_ gF.size qb gF.os gF.tape gF.output) (fun _ _=>rfl);·rintro⟨o',e1,_,e3,_⟩;rw[ho]at e1;obtain rfl:=Option.some.inj e1;rw[h4]at e3;cases e3
   ·refine(gV.mono (S':=Sk ops st S0 i) (L':=L) (fun j hj=>?_) (fun j hj=>(gF.agree j (Xc hj)).symm));rcases Xc hj with e|⟨l,e1,e2⟩;·exact .inl e
    ·exact .inr ⟨l,.inr e1,e2⟩
  ·rw[hFi]at h5;cases h5
 ·rw[RA _ h1,if_pos rfl];left;have dV:EO ops st X i:=⟨o,ho,h1,h2,mR⟩;have hr:R1 ops st S0 X q D HD:=by
   rcases h.regime with r|⟨k,r1,r2,r3,r4,r5⟩;·exact r
   ·have hk:k<=i:=by
     rcases Nat.lt_or_ge i k with h'|h';·exact absurd ((r3 i dV).mpr h') Sv
     ·exact h'
    have:=T.q_mono r2 hk (Nat.le_of_lt hi);rw[h3]at this;cases this
  refine(Wj Xb gg (ID.sees T hR W0 h hr hi Ti h3) LF h5).wp fun v' w' hg=>?_;obtain⟨L2,R8,hid,my⟩:=h.grow T hR W0 hr ho Sv Ti VP h3 h4 h6 h7 h8 h10 hg;exact hK L2 R8 _ w' hid my
 ·rw[RA _ h1,if_pos rfl];left;have dV:EO ops st X i:=⟨o,ho,h1,h2,mR⟩;have si: ∀m,EO ops st X m->m<i->bef ops i m:=fun m ⟨o',e1,e2,e3,e4⟩ YW=>(CY i h4 m o' e1 (by omega) e3 e4).1 YW;have hD: ∀m,EO ops st X m->(D m↔m<i):=fun m hm=>by
   obtain⟨o',e1,e2,e3,e4⟩:=hm;constructor
   ·intro Hi;rcases Nat.lt_or_ge m i with h'|h';·exact h'
    ·rcases Nat.lt_or_ge i m with xR|xR;·exact absurd (VP m i (Yu e1) Hi ((CY i h4 m o' e1 (by omega) e3 e4).2 xR)) Sv
     ·obtain rfl:m=i:=by omega
      exact absurd Hi Sv
   ·intro YW;exact Ti m ((CY i h4 m o' e1 (by omega) e3 e4).1 YW)
  have ML:=A8 (S0:=S0) (st:=st) hR hi Ti;have hGd:GO C (Ow ops st S0 D) L:=gg.mono ML (fun _ _=>rfl);refine(Wj Xb hGd (h.seesAll T W0 hi hD dV) (fun x hx u hu=>(LF x hx u hu).mono ML (fun _ _=>rfl)) h5).wp fun v' w' hg=>?_;obtain⟨L2,R8,hid,my⟩:=h.write T hR W0 ho Sv VP hD si dV h3 h6 h7 h8 h9 hg;exact hK L2 R8 _ w' hid my
theorem ID.doneL(T:Trace X P C call ops st val q ms s s')(hR:W6 ops)(W0:Inv B S0 L0 (st 0).H w0)(h:ID Df ops st S0 X q val B L0 w0 D L HD a w)(hD: ∀m,m<ops.size->D m):AI Df (ext S0 (st 0).H.n (st ops.size).H.n) L (st ops.size).k (st ops.size).tm a/\Inv B (ext S0 (st 0).H.n (st ops.size).H.n) L (st ops.size).H w/\Fr S0 L0 (st 0).H w0 L (st ops.size).H w:=by
 have Om:HD.lw=(st ops.size).H.lw/\ ∀j,HD.blk j=(st ops.size).H.blk j:=by
  rcases h.regime with⟨r1,r2,r3,r4,r5⟩|⟨k,r1,r2,r3,r4,r5⟩
  ·have hqN:q ops.size=false:=T.q_false ops.size (Nat.le_refl _) (fun m hm hw=>r1 m hw (hD m hm));obtain⟨g1,g2,g3⟩:=T.grown (Uw W0) ops.size (Nat.le_refl _) hqN;refine⟨r2.trans g1.symm,fun j=>?_⟩;rcases Nat.lt_or_ge j (st ops.size).H.n with YW|Sa
   ·refine r4 ops.size (Nat.le_refl _) hqN j YW ?_;rcases Nat.lt_or_ge j (st 0).H.n with h0|h0;·exact .inl h0
    ·obtain⟨m,h1,h2,h3⟩:=T.range h0 (Nat.le_refl _) YW;exact .inr ⟨m,h1,hD m h1,h2,h3⟩
   ·rw[g2 j Sa];refine r3 j fun hl=>?_;rcases hl with hl|⟨l,h1,h2,h3,h4⟩;·have:=T.n_mono (i:=0) (j:=ops.size) (Nat.zero_le _) (Nat.le_refl _);omega
    ·have:=T.n_mono (i:=l+1) (j:=ops.size) (by omega) (Nat.le_refl _);omega
  ·have:=T.still ops.size r1 (Nat.le_refl _) (fun m h1 h2 hw=>by have:=(r3 m hw).mp (hD m h2);omega);rw[this];exact⟨r4,r5⟩
 have hS: ∀j,Ow ops st S0 D j->ext S0 (st 0).H.n (st ops.size).H.n j:=by
  rintro j (h1|⟨l,h1,h2,h3,h4⟩);·exact .inl h1
  ·exact .inr ⟨Nat.le_trans (T.n_mono (Nat.zero_le _) (Nat.le_of_lt h1)) h3,Nat.lt_of_lt_of_le h4 (T.n_mono (by omega) (Nat.le_refl _))⟩
 refine⟨⟨h.defers,by rw[h.size,T.k_eq _ (Nat.le_refl _)],fun t v hv=>?_⟩,?_,⟨h.agree,T.n_mono (Nat.zero_le _) (Nat.le_refl _),by rw[<-Om.1];exact h.lwle,fun j hj hl=>?_,fun j hj sz cs hb=>?_,fun j hj sz cs hb=>?_,h.os,h.tape,h.output,h.wsize,fun g hg=>?_⟩⟩
 ·rw[T.k_eq _ (Nat.le_refl _)];rcases T.tm ops.size (Nat.le_refl _) t v hv with⟨m,h1,h2,h3,h4⟩|⟨h1,h2⟩
  ·refine⟨T.dst_lt h2,?_⟩;have:=h.v1 m t h1 (hD m h1) h2 (fun m' LG _ YW=>h4 m' YW LG);rw[h3]at this;refine this.mono (fun j hj=>?_) (fun _ _=>rfl);rcases hj with hj|⟨l,hl,h5,h6⟩;·exact .inl hj
   ·rcases Nat.lt_or_ge l ops.size with h'|h';·exact .inr ⟨Nat.le_trans (T.n_mono (Nat.zero_le _) (Nat.le_of_lt h')) h5,Nat.lt_of_lt_of_le h6 (T.n_mono (by omega) (Nat.le_refl _))⟩
    ·rcases hl with hl|hl;·omega
     ·have:=hR.bef_lt l (Yq h1) hl;omega
  ·obtain⟨h3,h4⟩:=h.v0 t v (fun m hm _=>h1 m hm) h2;exact⟨h3,h4.mono (fun _ h=> .inl h) (fun _ _=>rfl)⟩
 ·have:=h.inv.mono (S':=ext S0 (st 0).H.n (st ops.size).H.n) hS (fun j hj=>by
  rw[h.hn];rcases hj with hj|hj;·exact Nat.lt_of_lt_of_le (W0.bd j hj) (T.n_mono (Nat.zero_le _) (Nat.le_refl _))
  ·exact hj.2);exact this.congr (fun j=>(Om.2 j).symm) h.hn.symm
 ·rw[<-Om.2];exact h.keep j hj (by rw[Om.1];exact hl)
 ·rw[<-Om.2]at hb;exact h.back j hj sz cs hb
 ·rw[<-Om.2]at hb;rcases h.newg j hj sz cs hb with h1|⟨i0,Rg,Wr,h1,h2,h3⟩;·exact .inl h1
  ·exact .inr ⟨i0,Rg,Wr,h1,h2,by rw[<-Om.1];exact h3⟩
 ·rcases h.frame g hg with h1|⟨i0,Rg,Wr,h1,h2,h3⟩;·exact .inl h1
  ·exact .inr ⟨i0,Rg,Wr,h1,h2,by rw[<-Om.1];exact h3⟩
theorem ID.done(T:Trace X P C call ops st val q ms s s')(hR:W6 ops)(W0:Inv B S0 L0 (st 0).H w0)(h:ID Df ops st S0 X q val B L0 w0 D L HD a w)(hD: ∀m,m<ops.size->D m):UK Df B S0 L0 (st 0).H w0 (st ops.size) a w:=⟨L,h.doneL T hR W0 hD⟩
def Uq(listed:Array Bool):Nat:=listed.toList.count false
theorem QV{listed:Array Bool}{i:Nat}(hi:i<listed.size)(h:listed[i]?=some false):Uq (listed.setIfInBounds i true)+1=Uq listed:=by
 unfold Uq;rw[Array.toList_setIfInBounds];have hl:i<listed.toList.length:=by simpa using hi
 have he:listed.toList[i]=false:=by
  have:listed.toList[i]?=some false:=by rw[Array.getElem?_toList];exact h
  rw[List.getElem?_eq_getElem hl]at this;exact Option.some.inj this
 rw[List.count_set hl,he];have yE:0<listed.toList.count false:=List.count_pos_iff.mpr (he▸List.getElem_mem hl);have e1:(if(false==false)=true then 1 else 0)=1:=rfl;have e2:(if(true==false)=true then 1 else 0)=0:=rfl;rw[e1,e2];omega
theorem fZ(T:Trace X P C call ops st val q ms s s')(CY:AlP X ops)(hF: ∀i,X.fv i=none)(hR:W6 ops)(Xb:W5 P C B call)(hG:GO C S0 L0)(W0:Inv B S0 L0 (st 0).H w0){Q:Exit->Act->World->Prop}(hQ: ∀a w,UK Df B S0 L0 (st 0).H w0 (st ops.size) a w->Q .normal a w): ∀(fuel:Nat)(listed:Array Bool)(L:Nat->Loc)(HD:AH)(a:Act)(w:World),listed.size=ops.size->Uq listed=fuel->(∀(i:Nat)(o:Oper),ops[i]?=some o->listed[i]?=some true-> ∀e∈o.after.toList,Region.binds .any e=true->listed[e.on]?=some true)->ID Df ops st S0 X q val B L0 w0 (fun m=>listed[m]?=some true) L HD a w->wpAny P .any ops Q fuel listed a w:=by
 have Jh: ∀(listed:Array Bool)(L:Nat->Loc)(HD:AH)(a:Act)(w:World),listed.size=ops.size->Region.ready .any ops listed=[]->ID Df ops st S0 X q val B L0 w0 (fun m=>listed[m]?=some true) L HD a w->Q .normal a w:=by intro listed L HD a w X4 hr hid;refine hQ a w (hid.done T hR W0 fun m hm=>?_);induction m using Nat.strongRecOn with
  |_ m ih=>cases hb:listed[m]with|true=>rw[Array.getElem?_eq_getElem (by omega),hb]|false=>exfalso;obtain⟨o,ho⟩:=Yq hm;have:m∈Region.ready .any ops listed:=mem_ready.2 ⟨by simp[Array.getD,X4,hm,hb],o,ho,fun e he Eu=>by have YW:=hR.lead m o ho e (by simpa using he) Eu;have:=ih e.on YW (by omega);simp[Array.getD_eq_getD_getElem?,this]⟩;rw[hr]at this;cases this
 intro fuel;induction fuel with
  |zero=>
   intro listed L HD a w X4 ES VP hid;have hr:Region.ready .any ops listed=[]:=by cases hr:Region.ready .any ops listed with
    |nil=>rfl
    |cons i r=>
     exfalso;have hi:i∈Region.ready .any ops listed:=by rw[hr];simp
     obtain⟨h1,o,ho,_⟩:=mem_ready.1 hi;have YW:i<listed.size:=by rw[X4];exact Yu ho
     have h2:listed.toList[i]'(by simpa using YW)=false:=by simpa[Array.getD,YW]using h1
     have:=List.count_pos_iff.mpr (h2▸List.getElem_mem (l:=listed.toList) (n:=i) (by simpa using YW));unfold Uq at ES;omega
   exact⟨hr,Jh listed L HD a w X4 hr hid⟩
  |succ fuel ih=>
   intro listed L HD a w X4 ES VP hid;refine⟨fun hr=>Jh listed L HD a w X4 hr hid,fun i hi=>?_⟩;obtain⟨h1,o,ho,h3⟩:=mem_ready.1 hi;have YW:i<listed.size:=by rw[X4];exact Yu ho
   have Uk:listed[i]?=some false:=by rw[Array.getElem?_eq_getElem YW];simpa[Array.getD,YW]using h1
   have Je: ∀(i:Nat)(o:Oper),ops[i]?=some o->listed[i]?=some true-> ∀e∈o.after.toList,Region.binds .any e=true->listed[e.on]?=some true:=VP;have bb: ∀e∈o.after.toList,Region.binds .any e=true->listed[e.on]?=some true:=fun e he hb=>by have:=h3 e (by simpa using he) hb;rw[Array.getD_eq_getD_getElem?]at this;cases hx:listed[e.on]? with|none=>rw[hx]at this;simp at this|some b=>rw[hx]at this;simpa using this
   refine hid.step T hR Xb hG W0 ho (by rw[Uk];simp) (fun m hm=>?_) (fun j m hj hD hb=>hR.closed (D:=fun m=>listed[m]?=some true) Je m (Yq hj) hD hb) CY (hF i) fun L2 R8 a' w' MO _=>?_
   ·obtain⟨e,he,hb,h4⟩:=(hR.bef_iff ho).mp hm;have gZ:=bb e he hb;rcases h4 with h4|h4;·rw[<-h4];exact gZ
    ·have:e.on<ops.size:=by have:=hR.lead i o ho e he hb;have:=Yu ho;omega
     exact hR.closed (D:=fun m=>listed[m]?=some true) Je m (Yq this) gZ h4
   ·have Tj: ∀m,(listed.setIfInBounds i true)[m]?=some true↔(listed[m]?=some true\/m=i):=fun m=>by
     rw[Array.getElem?_setIfInBounds];by_cases e:i=m;·subst e;simp[YW]
     ·rw[if_neg e];constructor;·exact fun h=> .inl h
      ·rintro(h|h);·exact h
       ·exact absurd h.symm e
    have CR:(fun m=>(listed.setIfInBounds i true)[m]?=some true)=(fun m=>listed[m]?=some true\/m=i):=by funext m;exact propext (Tj m)
    refine ih (listed.setIfInBounds i true) L2 R8 a' w' (by simp[X4]) (by have:=QV YW Uk;omega) (fun k ok hk hD e he hb=>?_) (by rw[CR];exact MO);rw[Tj]at hD⊢;rcases hD with hD|hD;·exact .inl (VP k ok hk hD e he hb)
    ·subst hD;rw[ho]at hk;obtain rfl:=Option.some.inj hk;exact .inl (bb e he hb)
end
theorem Ig{Df:List Deferred}{P:Program}{C:Cfg}{call:FuncId->List Value->AH->Option (Value×AH)}{B:Nat}(hm:P.follows .mixedOrders=true)(Xb:W5 P C B call){ops:Array Oper}{draw:Bool}{s s':St}(h:W8 P C call ops draw s=some s'){S:Nat->Prop}{L:Nat->Loc}{a:Act}{w:World}(hG:GO C S L)(hA:AI Df S L s.k s.tm a)(hI:Inv B S L s.H w){Q:Exit->Act->World->Prop}(hQ: ∀a' w',UK Df B S L s.H w s' a' w'->Q .normal a' w'):Ut P ops draw Q a w:=by unfold W8 at h;cases draw with
 |false=>rw[cond_false]at h;show wpOps P ops Q _ a w;have:=MX (Q:=Q) Xb ops.toList 0 s s' S L a w hG (fun j=>by simp) h hA hI hQ;rw[List.range_eq_range'];simpa using this
 |true=>rw[cond_true]at h;cases hr:Ue ops with
  |false=>rw[hr]at h;cases h
  |true=>
   rw[hr,cond_true]at h;have hR:=SD hr;obtain⟨st,val,q,ms,e1,e2,e3,e4,e5⟩:=T9 ops.toList 0 false [] s s' h (fun j=>by simp);have hN:st ops.size=s':=by rw[<-e4];simp
   have T:Trace (X0 ops) P C call ops st val q ms s s':=⟨e1,hN,e2,e3,fun i o ho=>e5 i o (Nat.zero_le _) ho⟩;subst e1;show wpAny P .any ops Q _ _ a _;let w1:World:= { w with drawn:=w.drawn+1 };have OY:Inv B S L (st 0).H w1:=hI.heap rfl;refine fZ (Df:=Df) T (fun i hi k o ho hk hh _=>OK hi ho hk hh) (fun _=>rfl) hR Xb hG OY (fun a' w' hd=>hQ a' w' ?_) ops.size _ L { n:=(st ops.size).H.n,lw:=(st 0).H.lw,t:=(st 0).H.t } a w1 (by simp) (by simp[Uq]) (fun i o ho hl=>by have:i<ops.size:=Yu ho;simp[this]at hl) ?_;·rw[hN]at hd;obtain⟨L',d1,d2,d3⟩:=hd;exact⟨L',d1,d2,⟨d3.agree,d3.n,d3.lw,d3.keep,d3.back,d3.newg,d3.os,d3.tape,d3.output,d3.size,d3.frame⟩⟩
   ·have VO: ∀m,¬ ((Array.replicate ops.size false)[m]?=some true):=fun m hm=>by
     rw[Array.getElem?_replicate]at hm;split at hm;·cases hm
     ·cases hm
    have hb: ∀j,({ n:=(st ops.size).H.n,lw:=(st 0).H.lw,t:=(st 0).H.t } :AH).blk j=(st 0).H.blk j:=fun j=>rfl;have AQ: ∀j,Ow ops st S (fun m=>(Array.replicate ops.size false)[m]?=some true) j↔S j:=fun j=>by
     constructor
     ·rintro(h1|⟨l,_,h2,_⟩);·exact h1
      ·exact absurd h2 (VO l)
     ·exact fun h=> .inl h
    refine⟨fun _ _=>rfl,?_,rfl,fun j _ _=>hb j,fun j _ sz cs hj=>⟨cs,hj⟩,fun j hj sz cs Ax=>absurd (OY.lt Ax) (by omega),rfl,rfl,rfl,Nat.le_refl _,fun g _=> .inl rfl,Nat.le_refl _,hA.defers,hA.size,fun t v _ hv=>hA.tmp t v hv,fun m t _ hm=>absurd hm (VO m),.inl ⟨fun m _ hm=>absurd hm (VO m),rfl,fun j hj=>?_,fun i hi hq j hj hl=>?_,fun m _ hm=>absurd hm (VO m)⟩⟩;·have:=OY.mono (S':=Ow ops st S (fun m=>(Array.replicate ops.size false)[m]?=some true)) (fun j hj=>(AQ j).mpr hj) (fun j hj=>OY.bd j ((AQ j).mp hj));exact⟨this.ro,this.rw,this.dj,fun j hj=>Nat.lt_of_lt_of_le (OY.bd j ((AQ j).mp hj)) (T.n_mono (Nat.zero_le _) (Nat.le_refl _)),this.base⟩
    ·rw[hb];exact Uw OY j (by
     rcases Nat.lt_or_ge j (st 0).H.n with h'|h';·exact absurd (.inl h') hj
     ·exact h')
    ·rw[hb];rcases hl with hl|⟨l,_,hl,_⟩;·exact((T.grown (Uw OY) i hi hq).2.2 0 (Nat.zero_le _) j hl).symm
     ·exact absurd hl (VO l)
def TN(w:World)(g:Nat)(o:Obj):World:= { w with heap:=w.heap.setIfInBounds g o }
theorem Y5(w:World)(g:Nat)(o:Obj):(TN w g o).heap.size=w.heap.size:=by simp[TN]
theorem U2(w:World){g j:Nat}(o:Obj)(h:j≠g):(TN w g o).heap[j]?=w.heap[j]?:=by show(w.heap.setIfInBounds g o)[j]?=_;rw[Array.getElem?_setIfInBounds,if_neg (Ne.symm h)]
theorem Kt(w:World){g:Nat}(o:Obj)(h:g<w.heap.size):(TN w g o).heap[g]?=some o:=by show(w.heap.setIfInBounds g o)[g]?=_;rw[Array.getElem?_setIfInBounds,if_pos rfl,if_pos h]
section
variable {B : Nat} {S : Nat -> Prop} {L : Nat -> Loc} {H : AH} {w w' : World} {gb : Nat}
theorem Inv.gap(hI:Inv B S L H w)(hd: ∀j sz cs,H.blk j= .rw sz cs->(L j).g≠gb)(hB:B<=gb)(hs:w'.heap.size=w.heap.size)(hw: ∀g,g≠gb->w'.heap[g]?=w.heap[g]?):Inv B S L H w':=by
 refine⟨fun i sz cs h=>?_,fun i sz cs h=>?_,hI.dj,hI.bd,by rw[hs];exact hI.base⟩;·obtain⟨h1,h2,h3,h4⟩:=hI.ro i sz cs h;refine⟨h1,h2,h3,fun k v hk=>?_⟩;obtain⟨v',h5,h6⟩:=h4 k v hk;exact⟨v',by rw[<-h5];exact World.cell?_of_block (w:=w) (hw _ (fun e=>by have e:(L i).g=gb:=e;omega)),h6⟩
 ·obtain⟨h1,h2,h3,C,e,h4,h5,h6⟩:=hI.rw i sz cs h;exact⟨h1,h2,h3,C,e,by rw[hw _ (hd i sz cs h)];exact h4,h5,h6⟩
theorem Inv.drop{b:Nat}(hI:Inv B S L H w){H':AH}(hn:H'.n=H.n)(hb: ∀j,H'.blk j=if j=b then .dead else H.blk j):Inv B S L H' w:=by
 have key: ∀j x,H'.blk j=x->x≠ .dead->H.blk j=x:=fun j x h hx=>by
  rw[hb]at h;by_cases e:j=b;·rw[if_pos e]at h;exact absurd h.symm hx
  ·rw[if_neg e]at h;exact h
 exact⟨fun i sz cs h=>hI.ro i sz cs (key i _ h (by intro e;cases e)),fun i sz cs h=>hI.rw i sz cs (key i _ h (by intro e;cases e)),fun i j a c d e h h' hg=>hI.dj i j a c d e (key i _ h (by intro e;cases e)) (key j _ h' (by intro e;cases e)) hg,fun i h=>by rw[hn];exact hI.bd i h,hI.base⟩
end
section
variable {Df : List Deferred} {X : Xs} {P : Program} {C : Cfg} {call : FuncId -> List Value -> AH -> Option (Value × AH)} {ops : Array Oper} {st : Nat -> St} {val : Nat -> Value} {q : Nat -> Bool} {ms : Nat -> List (Nat × Nat × Nat)} {s s' : St}
variable {B : Nat} {S0 : Nat -> Prop} {L0 : Nat -> Loc} {w0 : World} {D : Nat -> Prop} {L : Nat -> Loc} {HD : AH} {a : Act} {w : World} {gb : Nat}
theorem ID.off(h:ID Df ops st S0 X q val B L0 w0 D L HD a w)(W0:Inv B S0 L0 (st 0).H w0)(hd: ∀j sz cs,(st 0).H.blk j= .rw sz cs->(L0 j).g≠gb)(hg:gb<w0.heap.size): ∀j sz cs,HD.blk j= .rw sz cs->(L j).g≠gb:=fun j sz cs hj=>by
 rcases Nat.lt_or_ge j (st 0).H.n with YW|Sa;·obtain⟨Wr,h0⟩:=h.back j YW sz cs hj;rw[h.agree j (W0.rw j sz Wr h0).1];exact hd j sz Wr h0
 ·rcases h.newg j Sa sz cs hj with h1|⟨i0,Rg,Wr,h1,h2,_⟩;·omega
  ·rw[<-h2];exact hd i0 Rg Wr h1
theorem ID.gap(h:ID Df ops st S0 X q val B L0 w0 D L HD a w)(W0:Inv B S0 L0 (st 0).H w0)(hd: ∀j sz cs,(st 0).H.blk j= .rw sz cs->(L0 j).g≠gb)(hg:gb<w0.heap.size)(hB:B<=gb)(o:Obj):ID Df ops st S0 X q val B L0 (TN w0 gb o) D L HD a (TN w gb o):=by
 have sJ:=h.off W0 hd hg;refine⟨h.agree,h.inv.gap sJ hB (Y5 _ _ _) (fun g hg=>U2 _ _ hg),h.hn,h.keep,h.back,fun j hj sz cs hb=>by rw[Y5];exact h.newg j hj sz cs hb,h.os,h.tape,h.output,by rw[Y5,Y5];exact h.wsize,fun g vU=>?_,h.lwle,h.defers,h.size,h.v0,h.v1,h.regime⟩;rw[Y5]at vU;by_cases e:g=gb;·subst e;left;rw[Kt _ _ hg,Kt _ _ (Nat.lt_of_lt_of_le hg h.wsize)]
 ·rw[U2 _ _ e,U2 _ _ e];exact h.frame g vU
theorem ID.gb_same(h:ID Df ops st S0 X q val B L0 w0 D L HD a w)(hd: ∀j sz cs,(st 0).H.blk j= .rw sz cs->(L0 j).g≠gb)(hg:gb<w0.heap.size):w.heap[gb]?=w0.heap[gb]?:=by
 rcases h.frame gb hg with h1|⟨i,sz,cs,h1,h2,_⟩;·exact h1
 ·exact absurd h2 (hd i sz cs h1)
theorem nc{tm:Tr Value}{op:Op}(h:mD op=true){H H2:AH}{v:Value}(he:Z2 P C call tm H op=some (v,H2)):H2=H:=by
 cases op<;>first|(cases h;done)|skip
 simp only[Z2,Ya]at he;repeat(first|(cases he;done)|split at he)
 all_goals first|(cases he;done)|(injection he with he;injection he with _ he;exact he.symm)
theorem jJ{tm:Tr Value}{op:Op}(h:isStr op=true){H H2:AH}{v:Value}(he:Z2 P C call tm H op=some (v,H2)):v= .tuple #[]:=by
 cases op<;>first|(cases h;done)|skip
 simp only[Z2,ZP]at he;repeat(first|(cases he;done)|split at he)
 all_goals first|(cases he;done)|(injection he with he;injection he with he _;exact he.symm)
theorem Nb(T:Trace X P C call ops st val q ms s s'){fl:Nat}(dS: ∀i o,i<fl->ops[i]?=some o->Zz o.op=false): ∀(n i:Nat)(u u1:St),i+n=fl->fl<=ops.size->u.k=(st i).k->u.tm=(st i).tm->TF P C call ops ((ops.toList.drop i).take n) u=some u1->u1.k=(st fl).k/\u1.tm=(st fl).tm
 |0,i,u,u1,hi,_,hk,ht,he=>by
  simp only[List.take_zero,TF]at he;obtain rfl:=Option.some.inj he;obtain rfl:i=fl:=by omega
  exact⟨hk,ht⟩
 |n+1,i,u,u1,hi,X4,hk,ht,he=>by
  obtain⟨o,ho⟩:=Yq (ops:=ops) (i:=i) (by omega);have hl:ops.toList.drop i=o::ops.toList.drop (i+1):=by
   have YW:i<ops.toList.length:=by simpa using Yu ho
   rw[List.drop_eq_getElem_cons YW];congr 1;have:ops.toList[i]?=some o:=by rw[Array.getElem?_toList];exact ho
   rw[List.getElem?_eq_getElem YW]at this;exact Option.some.inj this
  rw[hl,List.take_succ_cons]at he;have hh:=dS i o (by omega) ho;obtain⟨yx,YN,_⟩:=T.step i o ho;have hq:(Xd ops (st i).tm o=some false/\val i=undef)\/(Xd ops (st i).tm o=some true/\Zz o.op=false/\ ∀H0,Z2 P C call (st i).tm H0 o.op=some (val i,H0)):=by
   rcases yx with⟨_,_,h3⟩|⟨_,h2,_⟩|⟨_,h2,_⟩
   ·rcases h3 with h3|h3|⟨_,h2,_⟩;·exact .inl h3
    ·exact .inr h3
    ·rw[hh]at h2;cases h2
   ·rw[hh]at h2;cases h2
   ·rw[hh]at h2;cases h2
  have next: ∀u2,u.put o.dst (val i) u.H=some u2->u2.k=(st (i+1)).k/\u2.tm=(st (i+1)).tm:=fun u2 hu=>by
   obtain⟨_,e1,e2⟩:=Xq hu;obtain⟨_,e3,e4⟩:=Xq YN;refine⟨by rw[e1,hk,e3],?_⟩;rcases e2 with⟨d1,e2⟩|⟨d,d1,_,e2⟩
   ·rcases e4 with⟨_,e4⟩|⟨d',d2,_,e4⟩;·rw[e2,e4,ht]
    ·rw[d1]at d2;cases d2
   ·rcases e4 with⟨d2,e4⟩|⟨d',d2,_,e4⟩;·rw[d1]at d2;cases d2
    ·rw[d1]at d2;obtain rfl:=Option.some.inj d2;rw[e2,e4,ht]
  simp only[TF]at he;rw[ht]at he;rcases hq with⟨h1,h2⟩|⟨h1,h2,h3⟩
  ·rw[h1]at he;simp only at he;rw[<-h2]at he;split at he<;>first|(cases he;done)|skip
   rename_i u2 hu;obtain⟨n1,n2⟩:=next u2 hu;exact Nb T dS n (i+1) u2 u1 (by omega) X4 n1 n2 he
  ·rw[h1]at he;simp only at he;rw[h2,cond_false,h3 u.H]at he;simp only at he;split at he<;>first|(cases he;done)|skip
   rename_i u2 hu;obtain⟨n1,n2⟩:=next u2 hu;exact Nb T dS n (i+1) u2 u1 (by omega) X4 n1 n2 he
theorem Au{i:Nat}{o:Oper}(h:i<Y2 ops)(ho:ops[i]?=some o):Zz o.op=false:=by
 have YW:i<ops.toList.length:=by simpa using Yu ho
 have:=List.not_of_lt_findIdx (p:=fun o:Oper=>Zz o.op) h;have e:ops.toList[i]?=some o:=by rw[Array.getElem?_toList];exact ho
 rw[List.getElem?_eq_getElem YW]at e;rw[Option.some.inj e]at this;simpa using this
theorem FN{v:Value} :AlP (Xf ops v) ops:=fun i hi k o ho hk hh hf=>by
 have hi:Mt ops (Y2 ops) (ops.size-1) i=true:=hi;have hf:cond (Nat.beq k (Y2 ops)) (some v) (cond (Nat.beq k (ops.size-1)) (some (.tuple #[])) none)=none:=hf;have f1:Nat.beq k (Y2 ops)=false:=by cases e:Nat.beq k (Y2 ops)with|false=>rfl|true=>rw[e]at hf;cases hf
 have f2:Nat.beq k (ops.size-1)=false:=by cases e:Nat.beq k (ops.size-1)with|false=>rfl|true=>rw[f1,e]at hf;cases hf
 unfold Mt at hi;rw[List.all_eq_true]at hi;have:=hi k (by simpa using Yu ho);rw[ho]at this;simp only[f1,f2,hh,Bool.or_false,Bool.not_true,Bool.false_or,Bool.or_eq_true]at this;rcases this with h1|h1;·exact absurd (Nat.eq_of_beq_eq_true h1) hk
 ·refine⟨fun YW=>?_,fun YW=>?_⟩
  ·have:Nat.blt k i=true:=by rw[Nat.blt_eq];exact YW
   rw[this,cond_true]at h1;exact h1
  ·have:Nat.blt k i=false:=by cases hb:Nat.blt k i with|false=>rfl|true=>rw[Nat.blt_eq]at hb;omega
   rw[this,cond_false]at h1;exact h1
variable {b sz : Nat} {cs S8 : List Value} {v : Value}
def U8(b sz:Nat)(c:List Value)(gb:Nat)(S:Nat->Prop)(L:Nat->Loc)(lb:Loc)(w:World):Prop:= ∃C o,w.heap[gb]?=some o/\B3 sz C o/\B4 sz lb c C/\ ∀(k:Nat)(u:Value),c[k]?=some u-> ∃u',C[lb.o+k]?=some u'/\VR S L u u'
def SI(Df:List Deferred)(ops:Array Oper)(st:Nat->St)(S0:Nat->Prop)(X:Xs)(q:Nat->Bool)(val:Nat->Value)(B:Nat)(L0:Nat->Loc)(w1:World)(b sz:Nat)(cs S8:List Value)(D:Nat->Prop)(L:Nat->Loc)(HD:AH)(a:Act)(w:World):Prop:= ∃o,ID Df ops st S0 X q val B L0 (TN w1 (L0 b).g o) D L HD a w/\((¬D (ops.size-1)/\U8 b sz cs (L0 b).g S0 L (L0 b) w)\/(D (ops.size-1)/\U8 b sz S8 (L0 b).g (Sk ops st S0 (ops.size-1)) L (L0 b) w))
theorem U8.mono{c:List Value}{gb:Nat}{S S':Nat->Prop}{L L':Nat->Loc}{lb:Loc}{w w':World}(h:U8 b sz c gb S L lb w)(hw:w'.heap[gb]?=w.heap[gb]?)(hS: ∀j,S j->S' j)(hL: ∀j,S j->L' j=L j):U8 b sz c gb S' L' lb w':=by obtain⟨C,o,h1,h2,h3,h4⟩:=h;refine⟨C,o,hw.trans h1,h2,h3,fun k u hk=>?_⟩;obtain⟨u',h5,h6⟩:=h4 k u hk;exact⟨u',h5,h6.mono hS hL⟩
theorem PU(H:AH)(b:Nat)(x:Ou)(j:Nat):(only H b x).blk j=if j=b then x else .dead:=by
 show(match(Tr.nil.set b x).get j with|some y=>y|none=>Ou.dead)=_;rw[Tr.get_set];by_cases e:j=b;·rw[if_pos e,if_pos e]
 ·rw[if_neg e,if_neg e];rfl
theorem JX{H:AH}{S:Nat->Prop}{c:List Value}{gb:Nat}(LJ:S b)(Mm:B<=(L b).g)(X4:(L b).sz=sz)(hg:(L b).g=gb)(hc:U8 b sz c gb S L (L b) w)(D7: ∀j,S j->j<H.n)(vi:B<=w.heap.size):Inv B S L (only H b (.rw sz c)) w:=by
 obtain⟨C,o,h1,h2,h3,h4⟩:=hc;refine⟨fun i VU cs' h=>?_,fun i VU cs' h=>?_,fun i j a1 a2 a3 a4 h h' e=>?_,D7,vi⟩;·rw[PU]at h;split at h<;>cases h
 ·rw[PU]at h;by_cases e:i=b;·rw[if_pos e]at h;cases h;subst e;exact⟨LJ,Mm,X4,C,o,by rw[hg];exact h1,⟨h2,h3⟩,h4⟩
  ·rw[if_neg e]at h;cases h
 ·rw[PU]at h h';by_cases e1:i=b
  ·by_cases e2:j=b;·rw[e1,e2]
   ·rw[if_neg e2]at h';cases h'
  ·rw[if_neg e1]at h;cases h
structure ri (ops : Array Oper) (o1 oz : Oper) : Prop where
  reg : W6 ops
  lt : Y2 ops < ops.size - 1
  bef : bef ops (ops.size - 1) (Y2 ops)
  h1 : ops[Y2 ops]? = some o1
  ld : mD o1.op = true
  g1 : o1.guard = none
  hz : ops[ops.size - 1]? = some oz
  str : isStr oz.op = true
  gz : oz.guard = none
  dz : oz.dst = none
theorem Fk{o1 oz:Oper}(h:Uh ops=true)(h1:ops[Y2 ops]?=some o1)(hz:ops[ops.size-1]?=some oz):ri ops o1 oz:=by unfold Uh at h;rw[h1,hz]at h;simp only[Bool.and_eq_true,Option.isNone_iff_eq_none]at h;obtain⟨⟨⟨⟨a1,a2⟩,a3⟩,a4⟩,a5⟩:=h;exact⟨SD a1,by rw[Nat.blt_eq]at a2;exact a2,a3,h1,a4.1,a4.2,hz,a5.1.1,a5.1.2,a5.2⟩
theorem PL{o:Oper}(h:o.guard=none)(ys:Nat->Option Bool):Region.wanted o ys=true:=by unfold Region.wanted;rw[h]
theorem Jp{op:Op}(h:isStr op=true):Zz op=true:=by cases op<;>first|(cases h;done)|rfl
theorem bS{op:Op}(h:mD op=true):Zz op=true:=by cases op<;>first|(cases h;done)|rfl
theorem SI.step{o1 oz:Oper}(ok:ri ops o1 oz)(T:Trace (Xf ops v) P C call ops st val q ms s s')(Xb:W5 P C B call)(hG:GO C S0 L0){w1:World}(W0:Inv B S0 L0 (st 0).H w1)(LI: ∀j sz cs,(st 0).H.blk j= .rw sz cs->(L0 j).g≠(L0 b).g)(CQ:(L0 b).g<w1.heap.size)(Mm:B<=(L0 b).g)(LJ:S0 b)(X4:(L0 b).sz=sz)(e1:Z2 P C call (st (Y2 ops)).tm (only (st 0).H b (.rw sz cs)) o1.op=some (v,only (st 0).H b (.rw sz cs))){vz:Value}{H4:AH}(ez:Z2 P C call (st (ops.size-1)).tm (only (st ops.size).H b (.rw sz cs)) oz.op=some (vz,H4))(h4:H4.blk b= .rw sz S8)(fC:H4.n=(st ops.size).H.n)(h:SI Df ops st S0 (Xf ops v) q val B L0 w1 b sz cs S8 D L HD a w){i:Nat}{o:Oper}(ho:ops[i]?=some o)(Sv: ¬D i)(Ti: ∀m,bef ops i m->D m)(VP: ∀i m,i<ops.size->D i->bef ops i m->D m){K:Act->World->Prop}{Q:Exit->Act->World->Prop}(hK: ∀L2 R8 a' w',SI Df ops st S0 (Xf ops v) q val B L0 w1 b sz cs S8 (fun m=>D m\/m=i) L2 R8 a' w'->K a' w'):wpOp P ops Q i K a w:=by
 obtain⟨ob,hid,OW⟩:=h;have hR:=ok.reg;have hi:=Yu ho;have AZ:(L0 b).g<(TN w1 (L0 b).g ob).heap.size:=by rw[Y5];exact CQ
 have Ja:Inv B S0 L0 (st 0).H (TN w1 (L0 b).g ob):=W0.gap LI Mm (Y5 _ _ _) fun g hg=>U2 _ _ hg;have gg:GO C (Sz ops st S0 i) L:=hG.mono (fun _ hj=> .inl hj) hid.agree;have Py:=fun{t:Nat} (ht:t∈o.looksAt ops){u:Value} (hv:(st i).tm.get t=some u)=>hid.looks T hR ho Sv Ti VP ht hv;have LF: ∀x∈o.op.operands,∀u,YE C (st i).tm x=some u->VR (Sz ops st S0 i) L u (a.eval x):=fun x hx u hu=>N6 gg (fun t v e hv=>by subst e;exact(Py (P2 hx) hv).2) hu;have QO:L b=L0 b:=hid.agree b LJ;have D7: ∀j,Sz ops st S0 i j->j<(st i).H.n:=fun j hj=>by
  rcases hj with hj|⟨l,h1,h2,h3⟩;·exact Nat.lt_of_lt_of_le (W0.bd j hj) (T.n_mono (Nat.zero_le _) (Nat.le_of_lt hi))
  ·have:=hR.bef_lt l (Yq hi) h1;exact Nat.lt_of_lt_of_le h3 (T.n_mono (by omega) (Nat.le_of_lt hi))
 have vi:B<=w.heap.size:=hid.inv.base;by_cases CP:i=Y2 ops
 ·subst CP;have vj: ¬D (ops.size-1):=fun hz=>Sv (VP _ _ (by have:=ok.lt;omega) hz ok.bef);have hc:U8 b sz cs (L0 b).g S0 L (L0 b) w:=by
   rcases OW with⟨_,h⟩|⟨h,_⟩;·exact h
   ·exact absurd h vj
  rw[ok.h1]at ho;obtain rfl:=Option.some.inj ho;have hX:(Xf ops v).fv (Y2 ops)=some v:=by show cond (Nat.beq _ _) _ _=_;rw[Nat.beq_refl,cond_true]
  have Re:(st (Y2 ops)).H.n=(st 0).H.n:=by
   have key: ∀m,m<=Y2 ops->(st m).H=(st 0).H:=by intro m;induction m with
    |zero=>intro _;rfl
    |succ m ih=>
     intro hm;obtain⟨om,EW⟩:=Yq (ops:=ops) (i:=m) (by omega);have hh:=Au (i:=m) (by omega) EW;rcases(T.step m om EW).1 with h|⟨_,h2,_⟩|⟨_,h2,_⟩;·rw[h.1];exact ih (by omega)
     ·rw[hh]at h2;cases h2
     ·rw[hh]at h2;cases h2
   rw[key _ (Nat.le_refl _)]
  have hT:=(T.step _ _ ok.h1).1;have hq:(st (Y2 ops+1)).H=(st (Y2 ops)).H/\q (Y2 ops+1)=q (Y2 ops)/\val (Y2 ops)=v:=by
   rcases hT with⟨h1,h2,h3⟩|⟨_,_,h3,_⟩|⟨_,_,h3,_⟩
   ·refine⟨h1,h2,?_⟩;have hw:Xd ops (st (Y2 ops)).tm o1=some true:=by
     rcases h3 with⟨h3,_⟩|⟨h3,_⟩|⟨h3,_⟩;·unfold Xd at h3;rw[ok.g1]at h3;cases h3
     ·exact h3
     ·exact h3
    rcases h3 with⟨h3,_⟩|⟨_,h3,_⟩|⟨_,_,h3⟩;·rw[hw]at h3;cases h3
    ·rw[bS ok.ld]at h3;cases h3
    ·rw[hX]at h3;exact(Option.some.inj h3).symm
   ·rw[hX]at h3;cases h3
   ·rw[hX]at h3;cases h3
  have hM:Inv B (Sz ops st S0 (Y2 ops)) L (only (st 0).H b (.rw sz cs)) w:=by refine JX (.inl LJ) (by rw[QO];exact Mm) (by rw[QO];exact X4) (by rw[QO]) ?_ (fun j hj=>by rw[<-Re];exact D7 j hj) vi;rw[QO];exact hc.mono rfl (fun j hj=> .inl hj) (fun _ _=>rfl)
  unfold wpOp;rw[ok.h1];dsimp only;rw[PL ok.g1,if_pos rfl];left;refine(Wj Xb gg hM LF e1).wp fun v' w' hg=>?_;obtain⟨L',gI,gF,gV⟩:=hg;have qb: ∀g,g<w.heap.size->w'.heap[g]?=w.heap[g]?:=fun g hg=>by
   rcases gF.frame g hg with e|⟨j,VU,cs',e,_,e3⟩;·exact e
   ·have:j<(st 0).H.n:=by have:=hM.lt e;exact this
    have e3:(st 0).H.n<=j:=e3;omega
  refine hK L HD _ w' ⟨ob,hid.quiet T hR ok.h1 Sv VP hq.1 hq.2.1 ?_ (v':=v') ?_ gF.size qb gF.os gF.tape gF.output,.inl ⟨?_,?_⟩⟩;·rintro⟨o',f1,_,_,f4⟩;rw[hX]at f4;cases f4
  ·rw[hq.2.2];refine(gV.mono (S':=Sk ops st S0 (Y2 ops)) (L':=L) (fun j hj=>?_) (fun j hj=>(gF.agree j (Xc hj)).symm));rcases Xc hj with e|⟨l,f1,f2⟩;·exact .inl e
   ·exact .inr ⟨l,.inr f1,f2⟩
  ·rintro(hz|hz);·exact vj hz
   ·have:=ok.lt;omega
  ·refine hc.mono (qb _ ?_) (fun _ h=>h) (fun _ _=>rfl);exact Nat.lt_of_lt_of_le AZ hid.wsize
 ·by_cases Ji:i=ops.size-1
  ·subst Ji;have hc:U8 b sz cs (L0 b).g S0 L (L0 b) w:=by
    rcases OW with⟨_,h⟩|⟨h,_⟩;·exact h
    ·exact absurd h Sv
   rw[ok.hz]at ho;obtain rfl:=Option.some.inj ho;have hX:(Xf ops v).fv (ops.size-1)=some (.tuple #[]):=by
    show cond (Nat.beq _ _) _ _=_;have:Nat.beq (ops.size-1) (Y2 ops)=false:=by cases e:Nat.beq (ops.size-1) (Y2 ops)with|false=>rfl|true=>exact absurd (Nat.eq_of_beq_eq_true e) CP
    rw[this,cond_false,Nat.beq_refl,cond_true]
   have hT:=(T.step _ _ ok.hz).1;have hq:(st (ops.size-1+1)).H=(st (ops.size-1)).H/\q (ops.size-1+1)=q (ops.size-1)/\val (ops.size-1)= .tuple #[]:=by
    rcases hT with⟨h1,h2,h3⟩|⟨_,_,h3,_⟩|⟨_,_,h3,_⟩
    ·refine⟨h1,h2,?_⟩;rcases h3 with⟨h3,_⟩|⟨_,h3,_⟩|⟨_,_,h3⟩;·unfold Xd at h3;rw[ok.gz]at h3;cases h3
     ·rw[Jp ok.str]at h3;cases h3
     ·rw[hX]at h3;exact(Option.some.inj h3).symm
    ·rw[hX]at h3;cases h3
    ·rw[hX]at h3;cases h3
   have hnz:(st (ops.size-1)).H.n<=(st ops.size).H.n:=T.n_mono (by omega) (Nat.le_refl _);have hM:Inv B (Sz ops st S0 (ops.size-1)) L (only (st ops.size).H b (.rw sz cs)) w:=by refine JX (.inl LJ) (by rw[QO];exact Mm) (by rw[QO];exact X4) (by rw[QO]) ?_ (fun j hj=>Nat.lt_of_lt_of_le (D7 j hj) hnz) vi;rw[QO];exact hc.mono rfl (fun j hj=> .inl hj) (fun _ _=>rfl)
   unfold wpOp;rw[ok.hz];dsimp only;rw[PL ok.gz,if_pos rfl];left;refine(Wj Xb gg hM LF ez).wp fun v' w' hg=>?_;obtain⟨L',gI,gF,gV⟩:=hg;have hn:(only (st ops.size).H b (.rw sz cs)).n=H4.n:=fC.symm;rw[<-hn]at gI;obtain⟨i1,i2,i3,C2,o2,i4,⟨i5,i6⟩,i7⟩:=gI.rw b sz S8 h4;have rI:L' b=L0 b:=(gF.agree b (.inl LJ)).trans QO;rw[rI]at i4 i6 i7;have qb: ∀g,g<w.heap.size->g≠(L0 b).g->w'.heap[g]?=w.heap[g]?:=fun g hg Ug=>by
    rcases gF.frame g hg with e|⟨j,VU,cs',e,e2,_⟩;·exact e
    ·rw[PU]at e;by_cases ej:j=b;·subst ej;rw[QO]at e2;exact absurd e2.symm Ug
     ·rw[if_neg ej]at e;cases e
   have hgwl:(L0 b).g<w.heap.size:=Nat.lt_of_lt_of_le AZ hid.wsize;have gU:=hid.gap Ja LI AZ Mm o2;have Tj:TN (TN w1 (L0 b).g ob) (L0 b).g o2=TN w1 (L0 b).g o2:=by simp[TN]
   rw[Tj]at gU;refine hK L HD _ w' ⟨o2,gU.quiet T hR ok.hz Sv VP hq.1 hq.2.1 ?_ (v':=v') ?_ (by rw[Y5];exact gF.size) (fun g hg=>?_) gF.os gF.tape gF.output,.inr ⟨.inr rfl,?_⟩⟩;·rintro⟨o',f1,_,_,f4⟩;rw[hX]at f4;cases f4
   ·rw[hq.2.2];have hvz:vz= .tuple #[]:=jJ ok.str ez;rw[hvz]at gV;refine(gV.mono (S':=Sk ops st S0 (ops.size-1)) (L':=L) (fun j hj=>?_) (fun j hj=>?_))
    ·rw[<-hn]at hj;rcases Xc hj with e|⟨l,f1,f2⟩;·exact .inl e
     ·exact .inr ⟨l,.inr f1,f2⟩
    ·rw[<-hn]at hj;exact(gF.agree j (Xc hj)).symm
   ·rw[Y5]at hg;by_cases eg:g=(L0 b).g;·subst eg;rw[i4,Kt _ _ hg]
    ·rw[qb g hg eg,U2 _ _ eg]
   ·refine⟨C2,o2,i4,i5,i6,fun k u hk=>?_⟩;obtain⟨u',f1,f2⟩:=i7 k u hk;refine⟨u',f1,f2.mono (fun j hj=>?_) (fun j hj=>(gF.agree j (Xc hj)).symm)⟩;rcases Xc hj with e|⟨l,g1,g2⟩;·exact .inl e
    ·exact .inr ⟨l,.inr g1,g2⟩
  ·have hX:(Xf ops v).fv i=none:=by
    show cond (Nat.beq _ _) _ _=_;have f1:Nat.beq i (Y2 ops)=false:=by cases e:Nat.beq i (Y2 ops)with|false=>rfl|true=>exact absurd (Nat.eq_of_beq_eq_true e) CP
    have f2:Nat.beq i (ops.size-1)=false:=by cases e:Nat.beq i (ops.size-1)with|false=>rfl|true=>exact absurd (Nat.eq_of_beq_eq_true e) Ji
    rw[f1,f2,cond_false,cond_false]
   refine hid.step T hR Xb hG Ja ho Sv Ti VP FN hX fun L2 R8 a' w' MO my=>hK L2 R8 a' w' ⟨ob,MO,?_⟩;have SN:w'.heap[(L0 b).g]?=w.heap[(L0 b).g]?:=(MO.gb_same LI AZ).trans (hid.gb_same LI AZ).symm;rcases OW with⟨h1,h2⟩|⟨h1,h2⟩;·exact .inl ⟨fun h=>by
    rcases h with h|h;·exact h1 h
    ·exact Ji h.symm,h2.mono SN (fun _ h=>h) (fun j hj=>my j (.inl hj))⟩
   ·exact .inr ⟨.inl h1,h2.mono SN (fun _ h=>h) (fun j hj=>my j (re hR VP (by have:=ok.lt;omega) h1 j hj))⟩
theorem cD{o1 oz:Oper}(ok:ri ops o1 oz)(T:Trace (Xf ops v) P C call ops st val q ms s s')(Xb:W5 P C B call)(hG:GO C S0 L0){w1:World}(W0:Inv B S0 L0 (st 0).H w1)(LI: ∀j sz cs,(st 0).H.blk j= .rw sz cs->(L0 j).g≠(L0 b).g)(CQ:(L0 b).g<w1.heap.size)(Mm:B<=(L0 b).g)(LJ:S0 b)(sk:(L0 b).sz=sz)(e1:Z2 P C call (st (Y2 ops)).tm (only (st 0).H b (.rw sz cs)) o1.op=some (v,only (st 0).H b (.rw sz cs))){vz:Value}{H4:AH}(ez:Z2 P C call (st (ops.size-1)).tm (only (st ops.size).H b (.rw sz cs)) oz.op=some (vz,H4))(h4:H4.blk b= .rw sz S8)(fC:H4.n=(st ops.size).H.n){Q:Exit->Act->World->Prop}(hQ: ∀(D:Nat->Prop) L HD a w,(∀m,m<ops.size->D m)->SI Df ops st S0 (Xf ops v) q val B L0 w1 b sz cs S8 D L HD a w->Q .normal a w): ∀(fuel:Nat)(listed:Array Bool)(L:Nat->Loc)(HD:AH)(a:Act)(w:World),listed.size=ops.size->Uq listed=fuel->(∀(i:Nat)(o:Oper),ops[i]?=some o->listed[i]?=some true-> ∀e∈o.after.toList,Region.binds .any e=true->listed[e.on]?=some true)->SI Df ops st S0 (Xf ops v) q val B L0 w1 b sz cs S8 (fun m=>listed[m]?=some true) L HD a w->wpAny P .any ops Q fuel listed a w:=by
 have hR:=ok.reg;have Jh: ∀(listed:Array Bool)(L:Nat->Loc)(HD:AH)(a:Act)(w:World),listed.size=ops.size->Region.ready .any ops listed=[]->SI Df ops st S0 (Xf ops v) q val B L0 w1 b sz cs S8 (fun m=>listed[m]?=some true) L HD a w->Q .normal a w:=by intro listed L HD a w X4 hr hid;refine hQ _ L HD a w (fun m hm=>?_) hid;induction m using Nat.strongRecOn with
  |_ m ih=>cases hb:listed[m]with|true=>rw[Array.getElem?_eq_getElem (by omega),hb]|false=>exfalso;obtain⟨o,ho⟩:=Yq hm;have:m∈Region.ready .any ops listed:=mem_ready.2 ⟨by simp[Array.getD,X4,hm,hb],o,ho,fun e he Eu=>by have YW:=hR.lead m o ho e (by simpa using he) Eu;have:=ih e.on YW (by omega);simp[Array.getD_eq_getD_getElem?,this]⟩;rw[hr]at this;cases this
 intro fuel;induction fuel with
  |zero=>
   intro listed L HD a w X4 ES VP hid;have hr:Region.ready .any ops listed=[]:=by cases hr:Region.ready .any ops listed with
    |nil=>rfl
    |cons i r=>
     exfalso;have hi:i∈Region.ready .any ops listed:=by rw[hr];simp
     obtain⟨h1,o,ho,_⟩:=mem_ready.1 hi;have YW:i<listed.size:=by rw[X4];exact Yu ho
     have h2:listed.toList[i]'(by simpa using YW)=false:=by simpa[Array.getD,YW]using h1
     have:=List.count_pos_iff.mpr (h2▸List.getElem_mem (l:=listed.toList) (n:=i) (by simpa using YW));unfold Uq at ES;omega
   exact⟨hr,Jh listed L HD a w X4 hr hid⟩
  |succ fuel ih=>
   intro listed L HD a w X4 ES VP hid;refine⟨fun hr=>Jh listed L HD a w X4 hr hid,fun i hi=>?_⟩;obtain⟨h1,o,ho,h3⟩:=mem_ready.1 hi;have YW:i<listed.size:=by rw[X4];exact Yu ho
   have Uk:listed[i]?=some false:=by rw[Array.getElem?_eq_getElem YW];simpa[Array.getD,YW]using h1
   have Je: ∀(i:Nat)(o:Oper),ops[i]?=some o->listed[i]?=some true-> ∀e∈o.after.toList,Region.binds .any e=true->listed[e.on]?=some true:=VP;have bb: ∀e∈o.after.toList,Region.binds .any e=true->listed[e.on]?=some true:=fun e he hb=>by have:=h3 e (by simpa using he) hb;rw[Array.getD_eq_getD_getElem?]at this;cases hx:listed[e.on]? with|none=>rw[hx]at this;simp at this|some b=>rw[hx]at this;simpa using this
   refine SI.step ok T Xb hG W0 LI CQ Mm LJ sk e1 ez h4 fC hid ho (by rw[Uk];simp) (fun m hm=>?_) (fun j m hj hD hb=>hR.closed (D:=fun m=>listed[m]?=some true) Je m (Yq hj) hD hb) fun L2 R8 a' w' MO=>?_
   ·obtain⟨e,he,hb,h4⟩:=(hR.bef_iff ho).mp hm;have gZ:=bb e he hb;rcases h4 with h4|h4;·rw[<-h4];exact gZ
    ·have:e.on<ops.size:=by have:=hR.lead i o ho e he hb;have:=Yu ho;omega
     exact hR.closed (D:=fun m=>listed[m]?=some true) Je m (Yq this) gZ h4
   ·have Tj: ∀m,(listed.setIfInBounds i true)[m]?=some true↔(listed[m]?=some true\/m=i):=fun m=>by
     rw[Array.getElem?_setIfInBounds];by_cases e:i=m;·subst e;simp[YW]
     ·rw[if_neg e];constructor;·exact fun h=> .inl h
      ·rintro(h|h);·exact h
       ·exact absurd h.symm e
    have CR:(fun m=>(listed.setIfInBounds i true)[m]?=some true)=(fun m=>listed[m]?=some true\/m=i):=by funext m;exact propext (Tj m)
    refine ih (listed.setIfInBounds i true) L2 R8 a' w' (by simp[X4]) (by have:=QV YW Uk;omega) (fun k ok hk hD e he hb=>?_) (by rw[CR];exact MO);rw[Tj]at hD⊢;rcases hD with hD|hD;·exact .inl (VP k ok hk hD e he hb)
    ·subst hD;rw[ho]at hk;obtain rfl:=Option.some.inj hk;exact .inl (bb e he hb)
end
theorem Gs{Df:List Deferred}{P:Program}{C:Cfg}{call:FuncId->List Value->AH->Option (Value×AH)}{B:Nat}(Xb:W5 P C B call){ops:Array Oper}{s s':St}(h:UD P C call ops s=some s'){S:Nat->Prop}{L:Nat->Loc}{a:Act}{w:World}(hG:GO C S L)(hA:AI Df S L s.k s.tm a)(hI:Inv B S L s.H w){Q:Exit->Act->World->Prop}(hQ: ∀a' w',UK Df B S L s.H w s' a' w'->Q .normal a' w'):Ut P ops true Q a w:=by unfold UD at h;cases D9:Uh ops with
 |false=>rw[D9]at h;cases h
 |true=>
  rw[D9,cond_true]at h;split at h<;>first|(cases h;done)|skip
  rename_i s1 o1 oz Ft gL gH;have ok:=Fk D9 gL gH;split at h<;>first|(cases h;done)|skip
  rename_i b _ NQ;split at h<;>first|(cases h;done)|skip
  rename_i sz cs XO;split at h<;>first|(cases h;done)|skip
  rename_i v Hx Hn;split at h<;>first|(cases h;done)|skip
  rename_i s3 ib;split at h<;>first|(cases h;done)|skip
  rename_i vz H4 Re;split at h<;>first|(cases h;done)|skip
  rename_i Cc S8 h4;cases hc:(Nat.beq sz Cc&&Nat.ble H4.lw b&&Nat.beq H4.n s3.H.n)with
   |false=>rw[hc]at h;cases h
   |true=>
    rw[hc,cond_true]at h;obtain rfl:=Option.some.inj h;rw[Bool.and_eq_true,Bool.and_eq_true]at hc;obtain rfl:=Nat.eq_of_beq_eq_true hc.1.1;have LH:=Nat.le_of_ble_eq_true hc.1.2;have fC:=Nat.eq_of_beq_eq_true hc.2;have hR:=ok.reg;obtain⟨st,val,q,ms,t1,t2,t3,t4,t5⟩:=T9 ops.toList 0 false [] _ s3 ib (fun j=>by simp);have hN:st ops.size=s3:=by rw[<-t4];simp
    have T:Trace (Xf ops v) P C call ops st val q ms _ s3:=⟨t1,hN,t2,t3,fun i o ho=>t5 i o (Nat.zero_le _) ho⟩;have Sw:(st 0).H.n=s.H.n:=by rw[t1]
    have Ik:(st 0).H.lw=s.H.lw:=by rw[t1]
    have Fq: ∀j,(st 0).H.blk j=if j=b then .dead else s.H.blk j:=fun j=>by
     rw[t1];show(match(s.H.t.set b Ou.dead).get j with|some y=>y|none=>Ou.dead)=_;rw[Tr.get_set];by_cases e:j=b;·rw[if_pos e,if_pos e]
     ·rw[if_neg e,if_neg e];rfl
    have Li:(st 0).k=s.k:=by rw[t1]
    have vO:(st 0).tm=s.tm:=by rw[t1]
    let w1:World:= { w with drawn:=w.drawn+1 };have OY:Inv B S L s.H w1:=hI.heap rfl;obtain⟨LJ,Mm,gp,C0,ob,sK,⟨hoi,hot⟩,XA⟩:=OY.rw b sz cs XO;have W0:Inv B S L (st 0).H w1:=OY.drop Sw Fq;have LI: ∀j VU cs',(st 0).H.blk j= .rw VU cs'->(L j).g≠(L b).g:=fun j VU cs' hj e=>by
     rw[Fq]at hj;by_cases ej:j=b;·rw[if_pos ej]at hj;cases hj
     ·rw[if_neg ej]at hj;exact ej (OY.dj j b VU cs' sz cs hj XO e)
    have CQ:(L b).g<w1.heap.size:=XF sK;have hpt:=Nb T (fun i o hi ho=>Au hi ho) (Y2 ops) 0 s s1 (by omega) (by have:=ok.lt;omega) Li.symm vO.symm (by rw[List.drop_zero];exact Ft);have e1:Z2 P C call (st (Y2 ops)).tm (only (st 0).H b (.rw sz cs)) o1.op=some (v,only (st 0).H b (.rw sz cs)):=by
     have e0:only (st 0).H b (.rw sz cs)=only s.H b (.rw sz cs):=by unfold only;rw[Sw]
     have:=nc (call:=call) (C:=C) (P:=P) ok.ld Hn;rw[e0,<-hpt.2,Hn,this]
    have zq:=(T.step _ _ ok.hz).2.1;have hsz1:ops.size-1+1=ops.size:=by have:=ok.lt;omega
    have htz:(st (ops.size-1)).tm=(st ops.size).tm:=by
     obtain⟨_,_,p3⟩:=Xq zq;rw[hsz1]at p3;rcases p3 with⟨_,p3⟩|⟨d,p3,_⟩;·exact p3.symm
     ·rw[ok.dz]at p3;cases p3
    have ez:Z2 P C call (st (ops.size-1)).tm (only (st ops.size).H b (.rw sz cs)) oz.op=some (vz,H4):=by rw[htz,hN];exact Re
    show wpAny P .any ops Q _ _ a _;have VO: ∀m,¬ ((Array.replicate ops.size false)[m]?=some true):=fun m hm=>by
     rw[Array.getElem?_replicate]at hm;split at hm;·cases hm
     ·cases hm
    have ic:TN w1 (L b).g ob=w1:=by
     have:w1.heap.setIfInBounds (L b).g ob=w1.heap:=by
      apply Array.ext_getElem?;intro j;rw[Array.getElem?_setIfInBounds];by_cases e:(L b).g=j;·subst e;rw[if_pos rfl,if_pos CQ,sK]
      ·rw[if_neg e]
     show({ w1 with heap:=w1.heap.setIfInBounds (L b).g ob } :World)=w1;rw[this]
    refine cD (Df:=Df) ok T Xb hG W0 LI CQ Mm LJ gp e1 ez h4 (by rw[fC,hN]) (fun D L' HD a' w' hD hsi=>?_) ops.size _ L { n:=(st ops.size).H.n,lw:=(st 0).H.lw,t:=(st 0).H.t } a w1 (by simp) (by simp[Uq]) (fun i o ho hl=>by have:i<ops.size:=Yu ho;simp[this]at hl) ?_
    ·obtain⟨oc,hid,OW⟩:=hsi;have vj:D (ops.size-1):=hD _ (by have:=ok.lt;omega);have Jd:U8 b sz S8 (L b).g (Sk ops st S (ops.size-1)) L' (L b) w':=by
      rcases OW with⟨h1,_⟩|⟨_,h⟩;·exact absurd vj h1
      ·exact h
     have AZ:(L b).g<(TN w1 (L b).g oc).heap.size:=by rw[Y5];exact CQ
     have Ja:Inv B S L (st 0).H (TN w1 (L b).g oc):=W0.gap LI Mm (Y5 _ _ _) fun g hg=>U2 _ _ hg;have sJ:=hid.off Ja LI AZ;obtain⟨dA,dI,dF⟩:=hid.doneL T hR Ja hD;rw[hN]at dA dI dF;rw[Sw]at dA dI;have bo: ∀j,({ n:=s3.H.n,lw:=min s3.H.lw H4.lw,t:=s3.H.t.set b (.rw sz S8) } :AH).blk j=if j=b then .rw sz S8 else s3.H.blk j:=fun j=>by
      show(match(s3.H.t.set b (Ou.rw sz S8)).get j with|some y=>y|none=>Ou.dead)=_;rw[Tr.get_set];by_cases e:j=b;·rw[if_pos e,if_pos e]
      ·rw[if_neg e,if_neg e];rfl
     have JB:b<s.H.n:=OY.bd b LJ;have QO:L' b=L b:=dF.agree b LJ;have jl: ∀j VU cs',s3.H.blk j= .rw VU cs'->(L' j).g≠(L b).g:=fun j VU cs' hj=>by
      rcases Nat.lt_or_ge j (st 0).H.n with YW|Sa;·obtain⟨Wr,h0⟩:=dF.back j YW VU cs' hj;rw[dF.agree j (W0.rw j VU Wr h0).1];exact LI j VU Wr h0
      ·rcases dF.newg j Sa VU cs' hj with h1|⟨i0,Rg,Wr,h1,h2,_⟩;·omega
       ·rw[<-h2];exact LI i0 Rg Wr h1
     have r7: ∀j,Sk ops st S (ops.size-1) j->ext S s.H.n s3.H.n j:=fun j hj=>by
      rcases hj with hj|⟨l,hl,h5,h6⟩;·exact .inl hj
      ·have sP:l<ops.size:=by
        rcases hl with hl|hl;·have:=ok.lt;omega
        ·have:=hR.bef_lt l (Yq (ops:=ops) (i:=ops.size-1) (by have:=ok.lt;omega)) hl;omega
       refine .inr ⟨?_,?_⟩;·rw[<-Sw];exact Nat.le_trans (T.n_mono (Nat.zero_le _) (Nat.le_of_lt sP)) h5
       ·rw[<-hN];exact Nat.lt_of_lt_of_le h6 (T.n_mono (by omega) (Nat.le_refl _))
     refine hQ a' w' ⟨L',dA,⟨fun j VU cs' hj=>?_,fun j VU cs' hj=>?_,fun i j x1 x2 x3 x4 hi hj hg=>?_,dI.bd,dI.base⟩,⟨dF.agree,by rw[<-Sw];exact dF.n,?_,fun i hi qc=>?_,fun i hi VU cs' Wk=>?_,fun i hi VU cs' Wk=>?_,dF.os,dF.tape,dF.output,by have:=dF.size;rw[Y5]at this;exact this,fun g hg=>?_⟩⟩
     ·rw[bo]at hj;by_cases e:j=b;·rw[if_pos e]at hj;cases hj
      ·rw[if_neg e]at hj;exact dI.ro j VU cs' hj
     ·rw[bo]at hj;by_cases e:j=b;·rw[if_pos e]at hj;cases hj;subst e;obtain⟨C2,o2,g1,g2,g3,g4⟩:=Jd;refine⟨.inl LJ,by rw[QO];exact Mm,by rw[QO];exact gp,C2,o2,by rw[QO];exact g1,⟨g2,by rw[QO];exact g3⟩,fun k u hk=>?_⟩;obtain⟨u',g5,g6⟩:=g4 k u hk;exact⟨u',by rw[QO];exact g5,g6.mono r7 (fun _ _=>rfl)⟩
      ·rw[if_neg e]at hj;exact dI.rw j VU cs' hj
     ·rw[bo]at hi hj;by_cases mf:i=b
      ·by_cases Fo:j=b;·rw[mf,Fo]
       ·rw[if_neg Fo]at hj;rw[mf,QO]at hg;exact absurd hg.symm (jl j _ _ hj)
      ·rw[if_neg mf]at hi;by_cases Fo:j=b;·rw[Fo,QO]at hg;exact absurd hg (jl i _ _ hi)
       ·rw[if_neg Fo]at hj;exact dI.dj i j _ _ _ _ hi hj hg
     ·have:=dF.lw;rw[Ik]at this;exact Nat.le_trans (Nat.min_le_left _ _) this
     ·have yU:i≠b:=fun e=>by have h1:i<H4.lw:=Nat.lt_of_lt_of_le qc (Nat.min_le_right _ _);omega
      rw[bo,if_neg yU,dF.keep i (by rw[Sw];exact hi) (Nat.lt_of_lt_of_le qc (Nat.min_le_left _ _)),Fq,if_neg yU]
     ·rw[bo]at Wk;by_cases e:i=b;·rw[if_pos e]at Wk;cases Wk;subst e;exact⟨cs,XO⟩
      ·rw[if_neg e]at Wk;obtain⟨Wr,h0⟩:=dF.back i (by rw[Sw];exact hi) VU cs' Wk;rw[Fq,if_neg e]at h0;exact⟨Wr,h0⟩
     ·rw[bo]at Wk;have e:i≠b:=by omega
      rw[if_neg e]at Wk;rcases dF.newg i (by rw[Sw];exact hi) VU cs' Wk with h1|⟨i0,Rg,Wr,h1,h2,h3⟩;·rw[Y5]at h1;exact .inl h1
      ·rw[Fq]at h1;by_cases ei:i0=b;·rw[if_pos ei]at h1;cases h1
       ·rw[if_neg ei]at h1;exact .inr ⟨i0,Rg,Wr,h1,h2,Nat.le_trans (Nat.min_le_left _ _) h3⟩
     ·by_cases eg:g=(L b).g;·exact .inr ⟨b,sz,cs,XO,eg.symm,Nat.le_trans (Nat.min_le_right _ _) LH⟩
      ·rcases dF.frame g (by rw[Y5];exact hg)with h1|⟨i0,Rg,Wr,h1,h2,h3⟩;·rw[U2 _ _ eg]at h1;exact .inl h1
       ·rw[Fq]at h1;by_cases ei:i0=b;·rw[if_pos ei]at h1;cases h1
        ·rw[if_neg ei]at h1;exact .inr ⟨i0,Rg,Wr,h1,h2,Nat.le_trans (Nat.min_le_left _ _) h3⟩
    ·refine⟨ob,?_,.inl ⟨VO _,C0,ob,sK,hoi,hot,XA⟩⟩;rw[ic];have hb: ∀j,({ n:=(st ops.size).H.n,lw:=(st 0).H.lw,t:=(st 0).H.t } :AH).blk j=(st 0).H.blk j:=fun j=>rfl;have AQ: ∀j,Ow ops st S (fun m=>(Array.replicate ops.size false)[m]?=some true) j↔S j:=fun j=>by
      constructor
      ·rintro(h1|⟨l,_,h2,_⟩);·exact h1
       ·exact absurd h2 (VO l)
      ·exact fun h=> .inl h
     refine⟨fun _ _=>rfl,?_,rfl,fun j _ _=>hb j,fun j _ sz cs hj=>⟨cs,hj⟩,fun j hj sz cs Ax=>absurd (W0.lt Ax) (by omega),rfl,rfl,rfl,Nat.le_refl _,fun g _=> .inl rfl,Nat.le_refl _,hA.defers,by rw[Li];exact hA.size,fun t v _ hv=>by rw[Li];rw[vO]at hv;exact hA.tmp t v hv,fun m t _ hm=>absurd hm (VO m),.inl ⟨fun m _ hm=>absurd hm (VO m),rfl,fun j hj=>?_,fun i hi hq j hj hl=>?_,fun m _ hm=>absurd hm (VO m)⟩⟩;·have:=W0.mono (S':=Ow ops st S (fun m=>(Array.replicate ops.size false)[m]?=some true)) (fun j hj=>(AQ j).mpr hj) (fun j hj=>W0.bd j ((AQ j).mp hj));exact⟨this.ro,this.rw,this.dj,fun j hj=>Nat.lt_of_lt_of_le (W0.bd j ((AQ j).mp hj)) (T.n_mono (Nat.zero_le _) (Nat.le_refl _)),this.base⟩
     ·rw[hb];exact Uw W0 j (by
      rcases Nat.lt_or_ge j (st 0).H.n with h'|h';·exact absurd (.inl h') hj
      ·exact h')
     ·rw[hb];rcases hl with hl|⟨l,_,hl,_⟩;·exact((T.grown (Uw W0) i hi hq).2.2 0 (Nat.zero_le _) j hl).symm
      ·exact absurd hl (VO l)
section
variable {Df : List Deferred} {X : Xs} {P : Program} {C : Cfg} {call : FuncId -> List Value -> AH -> Option (Value × AH)} {ops : Array Oper} {st : Nat -> St} {val : Nat -> Value} {q : Nat -> Bool} {ms : Nat -> List (Nat × Nat × Nat)} {s s' : St}
variable {B : Nat} {S0 : Nat -> Prop} {L0 : Nat -> Loc} {w0 : World} {D : Nat -> Prop} {L : Nat -> Loc} {HD : AH} {a : Act} {w : World} {gb : Nat}
theorem FM:AlP (Xz ops) ops:=fun i hi k o ho hk hh hf=>by
 have hi:Mt ops (So ops) (So ops) i=true:=hi;have hf:cond (Nat.beq k (So ops)) (some (Value.tuple #[])) none=none:=hf;have f2:Nat.beq k (So ops)=false:=by cases e:Nat.beq k (So ops)with|false=>rfl|true=>rw[e]at hf;cases hf
 unfold Mt at hi;rw[List.all_eq_true]at hi;have:=hi k (by simpa using Yu ho);rw[ho]at this;simp only[f2,hh,Bool.or_false,Bool.not_true,Bool.false_or,Bool.or_eq_true]at this;rcases this with h1|h1;·exact absurd (Nat.eq_of_beq_eq_true h1) hk
 ·refine⟨fun YW=>?_,fun YW=>?_⟩
  ·have:Nat.blt k i=true:=by rw[Nat.blt_eq];exact YW
   rw[this,cond_true]at h1;exact h1
  ·have:Nat.blt k i=false:=by cases hb:Nat.blt k i with|false=>rfl|true=>rw[Nat.blt_eq]at hb;omega
   rw[this,cond_false]at h1;exact h1
variable {b sz : Nat} {cs S8 : List Value}
def PI(Df:List Deferred)(ops:Array Oper)(st:Nat->St)(S0:Nat->Prop)(X:Xs)(q:Nat->Bool)(val:Nat->Value)(B:Nat)(L0:Nat->Loc)(w1:World)(b sz:Nat)(cs S8:List Value)(D:Nat->Prop)(L:Nat->Loc)(HD:AH)(a:Act)(w:World):Prop:= ∃o,ID Df ops st S0 X q val B L0 (TN w1 (L0 b).g o) D L HD a w/\((¬D (So ops)/\U8 b sz cs (L0 b).g S0 L (L0 b) w)\/(D (So ops)/\U8 b sz S8 (L0 b).g (Sk ops st S0 (So ops)) L (L0 b) w))
structure PtOk (ops : Array Oper) (oz : Oper) : Prop where
  reg : W6 ops
  hz : ops[So ops]? = some oz
  str : isStr oz.op = true
  gz : oz.guard = none
  dz : oz.dst = none
  late : C6 ops oz = true
theorem PtOk.lt{oz:Oper}(h:PtOk ops oz):So ops<ops.size:=Yu h.hz
theorem Bs{oz:Oper}(h:Lw ops=true)(hz:ops[So ops]?=some oz):PtOk ops oz:=by unfold Lw at h;rw[hz]at h;simp only[Bool.and_eq_true,Option.isNone_iff_eq_none]at h;obtain⟨a1,⟨⟨a2,a3⟩,a4⟩,a5⟩:=h;exact⟨SD a1,hz,a2,a3,a4,a5⟩
theorem jm{tm:Tr Value}{d:Tmp}{v:Value}{x:Operand}(h:GB d x=true):YE C (tm.set d v) x=YE C tm x:=by cases x with
 |tmp t=>
  have:t≠d:=fun e=>by subst e;replace h:(!Nat.beq t t)=true:=h;rw[Nat.beq_refl]at h;cases h
  show(tm.set d v).get t=tm.get t;rw[Tr.get_set,if_neg this]
 |const _=>rfl
 |global _=>rfl
 |func _=>rfl
theorem PI.step{oz:Oper}(ok:PtOk ops oz)(T:Trace (Xz ops) P C call ops st val q ms s s')(Xb:W5 P C B call)(hG:GO C S0 L0){w1:World}(W0:Inv B S0 L0 (st 0).H w1)(LI: ∀j sz cs,(st 0).H.blk j= .rw sz cs->(L0 j).g≠(L0 b).g)(CQ:(L0 b).g<w1.heap.size)(Mm:B<=(L0 b).g)(LJ:S0 b)(X4:(L0 b).sz=sz){vz:Value}{H4:AH}(ez:Z2 P C call (st (So ops)).tm (only (st ops.size).H b (.rw sz cs)) oz.op=some (vz,H4))(h4:H4.blk b= .rw sz S8)(fC:H4.n=(st ops.size).H.n)(h:PI Df ops st S0 (Xz ops) q val B L0 w1 b sz cs S8 D L HD a w){i:Nat}{o:Oper}(ho:ops[i]?=some o)(Sv: ¬D i)(Ti: ∀m,bef ops i m->D m)(VP: ∀i m,i<ops.size->D i->bef ops i m->D m){K:Act->World->Prop}{Q:Exit->Act->World->Prop}(hK: ∀L2 R8 a' w',PI Df ops st S0 (Xz ops) q val B L0 w1 b sz cs S8 (fun m=>D m\/m=i) L2 R8 a' w'->K a' w'):wpOp P ops Q i K a w:=by
 obtain⟨ob,hid,OW⟩:=h;have hR:=ok.reg;have hi:=Yu ho;have AZ:(L0 b).g<(TN w1 (L0 b).g ob).heap.size:=by rw[Y5];exact CQ
 have Ja:Inv B S0 L0 (st 0).H (TN w1 (L0 b).g ob):=W0.gap LI Mm (Y5 _ _ _) fun g hg=>U2 _ _ hg;have gg:GO C (Sz ops st S0 i) L:=hG.mono (fun _ hj=> .inl hj) hid.agree;have Py:=fun{t:Nat} (ht:t∈o.looksAt ops){u:Value} (hv:(st i).tm.get t=some u)=>hid.looks T hR ho Sv Ti VP ht hv;have LF: ∀x∈o.op.operands,∀u,YE C (st i).tm x=some u->VR (Sz ops st S0 i) L u (a.eval x):=fun x hx u hu=>N6 gg (fun t v e hv=>by subst e;exact(Py (P2 hx) hv).2) hu;have QO:L b=L0 b:=hid.agree b LJ;have D7: ∀j,Sz ops st S0 i j->j<(st i).H.n:=fun j hj=>by
  rcases hj with hj|⟨l,h1,h2,h3⟩;·exact Nat.lt_of_lt_of_le (W0.bd j hj) (T.n_mono (Nat.zero_le _) (Nat.le_of_lt hi))
  ·have:=hR.bef_lt l (Yq hi) h1;exact Nat.lt_of_lt_of_le h3 (T.n_mono (by omega) (Nat.le_of_lt hi))
 have vi:B<=w.heap.size:=hid.inv.base;by_cases Ji:i=So ops
 ·subst Ji;have hc:U8 b sz cs (L0 b).g S0 L (L0 b) w:=by
   rcases OW with⟨_,h⟩|⟨h,_⟩;·exact h
   ·exact absurd h Sv
  rw[ok.hz]at ho;obtain rfl:=Option.some.inj ho;have hX:(Xz ops).fv (So ops)=some (.tuple #[]):=by show cond (Nat.beq _ _) _ _=_;rw[Nat.beq_refl,cond_true]
  have hT:=(T.step _ _ ok.hz).1;have hq:(st (So ops+1)).H=(st (So ops)).H/\q (So ops+1)=q (So ops)/\val (So ops)= .tuple #[]:=by
   rcases hT with⟨h1,h2,h3⟩|⟨_,_,h3,_⟩|⟨_,_,h3,_⟩
   ·refine⟨h1,h2,?_⟩;rcases h3 with⟨h3,_⟩|⟨_,h3,_⟩|⟨_,_,h3⟩;·unfold Xd at h3;rw[ok.gz]at h3;cases h3
    ·rw[Jp ok.str]at h3;cases h3
    ·rw[hX]at h3;exact(Option.some.inj h3).symm
   ·rw[hX]at h3;cases h3
   ·rw[hX]at h3;cases h3
  have hnz:(st (So ops)).H.n<=(st ops.size).H.n:=T.n_mono (Nat.le_of_lt ok.lt) (Nat.le_refl _);have hM:Inv B (Sz ops st S0 (So ops)) L (only (st ops.size).H b (.rw sz cs)) w:=by refine JX (.inl LJ) (by rw[QO];exact Mm) (by rw[QO];exact X4) (by rw[QO]) ?_ (fun j hj=>Nat.lt_of_lt_of_le (D7 j hj) hnz) vi;rw[QO];exact hc.mono rfl (fun j hj=> .inl hj) (fun _ _=>rfl)
  unfold wpOp;rw[ok.hz];dsimp only;rw[PL ok.gz,if_pos rfl];left;refine(Wj Xb gg hM LF ez).wp fun v' w' hg=>?_;obtain⟨L',gI,gF,gV⟩:=hg;have hn:(only (st ops.size).H b (.rw sz cs)).n=H4.n:=fC.symm;rw[<-hn]at gI;obtain⟨i1,i2,i3,C2,o2,i4,⟨i5,i6⟩,i7⟩:=gI.rw b sz S8 h4;have rI:L' b=L0 b:=(gF.agree b (.inl LJ)).trans QO;rw[rI]at i4 i6 i7;have qb: ∀g,g<w.heap.size->g≠(L0 b).g->w'.heap[g]?=w.heap[g]?:=fun g hg Ug=>by
   rcases gF.frame g hg with e|⟨j,VU,cs',e,e2,_⟩;·exact e
   ·rw[PU]at e;by_cases ej:j=b;·subst ej;rw[QO]at e2;exact absurd e2.symm Ug
    ·rw[if_neg ej]at e;cases e
  have hgwl:(L0 b).g<w.heap.size:=Nat.lt_of_lt_of_le AZ hid.wsize;have gU:=hid.gap Ja LI AZ Mm o2;have Tj:TN (TN w1 (L0 b).g ob) (L0 b).g o2=TN w1 (L0 b).g o2:=by simp[TN]
  rw[Tj]at gU;refine hK L HD _ w' ⟨o2,gU.quiet T hR ok.hz Sv VP hq.1 hq.2.1 ?_ (v':=v') ?_ (by rw[Y5];exact gF.size) (fun g hg=>?_) gF.os gF.tape gF.output,.inr ⟨.inr rfl,?_⟩⟩;·rintro⟨o',f1,_,_,f4⟩;rw[hX]at f4;cases f4
  ·rw[hq.2.2];have hvz:vz= .tuple #[]:=jJ ok.str ez;rw[hvz]at gV;refine(gV.mono (S':=Sk ops st S0 (So ops)) (L':=L) (fun j hj=>?_) (fun j hj=>?_))
   ·rw[<-hn]at hj;rcases Xc hj with e|⟨l,f1,f2⟩;·exact .inl e
    ·exact .inr ⟨l,.inr f1,f2⟩
   ·rw[<-hn]at hj;exact(gF.agree j (Xc hj)).symm
  ·rw[Y5]at hg;by_cases eg:g=(L0 b).g;·subst eg;rw[i4,Kt _ _ hg]
   ·rw[qb g hg eg,U2 _ _ eg]
  ·refine⟨C2,o2,i4,i5,i6,fun k u hk=>?_⟩;obtain⟨u',f1,f2⟩:=i7 k u hk;refine⟨u',f1,f2.mono (fun j hj=>?_) (fun j hj=>(gF.agree j (Xc hj)).symm)⟩;rcases Xc hj with e|⟨l,g1,g2⟩;·exact .inl e
   ·exact .inr ⟨l,.inr g1,g2⟩
 ·have hX:(Xz ops).fv i=none:=by
   show cond (Nat.beq _ _) _ _=_;have f2:Nat.beq i (So ops)=false:=by cases e:Nat.beq i (So ops)with|false=>rfl|true=>exact absurd (Nat.eq_of_beq_eq_true e) Ji
   rw[f2,cond_false]
  refine hid.step T hR Xb hG Ja ho Sv Ti VP FM hX fun L2 R8 a' w' MO my=>hK L2 R8 a' w' ⟨ob,MO,?_⟩;have SN:w'.heap[(L0 b).g]?=w.heap[(L0 b).g]?:=(MO.gb_same LI AZ).trans (hid.gb_same LI AZ).symm;rcases OW with⟨h1,h2⟩|⟨h1,h2⟩;·exact .inl ⟨fun h=>by
   rcases h with h|h;·exact h1 h
   ·exact Ji h.symm,h2.mono SN (fun _ h=>h) (fun j hj=>my j (.inl hj))⟩
  ·exact .inr ⟨.inl h1,h2.mono SN (fun _ h=>h) (fun j hj=>my j (re hR VP ok.lt h1 j hj))⟩
theorem od{oz:Oper}(ok:PtOk ops oz)(T:Trace (Xz ops) P C call ops st val q ms s s')(Xb:W5 P C B call)(hG:GO C S0 L0){w1:World}(W0:Inv B S0 L0 (st 0).H w1)(LI: ∀j sz cs,(st 0).H.blk j= .rw sz cs->(L0 j).g≠(L0 b).g)(CQ:(L0 b).g<w1.heap.size)(Mm:B<=(L0 b).g)(LJ:S0 b)(sk:(L0 b).sz=sz){vz:Value}{H4:AH}(ez:Z2 P C call (st (So ops)).tm (only (st ops.size).H b (.rw sz cs)) oz.op=some (vz,H4))(h4:H4.blk b= .rw sz S8)(fC:H4.n=(st ops.size).H.n){Q:Exit->Act->World->Prop}(hQ: ∀(D:Nat->Prop) L HD a w,(∀m,m<ops.size->D m)->PI Df ops st S0 (Xz ops) q val B L0 w1 b sz cs S8 D L HD a w->Q .normal a w): ∀(fuel:Nat)(listed:Array Bool)(L:Nat->Loc)(HD:AH)(a:Act)(w:World),listed.size=ops.size->Uq listed=fuel->(∀(i:Nat)(o:Oper),ops[i]?=some o->listed[i]?=some true-> ∀e∈o.after.toList,Region.binds .any e=true->listed[e.on]?=some true)->PI Df ops st S0 (Xz ops) q val B L0 w1 b sz cs S8 (fun m=>listed[m]?=some true) L HD a w->wpAny P .any ops Q fuel listed a w:=by
 have hR:=ok.reg;have Jh: ∀(listed:Array Bool)(L:Nat->Loc)(HD:AH)(a:Act)(w:World),listed.size=ops.size->Region.ready .any ops listed=[]->PI Df ops st S0 (Xz ops) q val B L0 w1 b sz cs S8 (fun m=>listed[m]?=some true) L HD a w->Q .normal a w:=by intro listed L HD a w X4 hr hid;refine hQ _ L HD a w (fun m hm=>?_) hid;induction m using Nat.strongRecOn with
  |_ m ih=>cases hb:listed[m]with|true=>rw[Array.getElem?_eq_getElem (by omega),hb]|false=>exfalso;obtain⟨o,ho⟩:=Yq hm;have:m∈Region.ready .any ops listed:=mem_ready.2 ⟨by simp[Array.getD,X4,hm,hb],o,ho,fun e he Eu=>by have YW:=hR.lead m o ho e (by simpa using he) Eu;have:=ih e.on YW (by omega);simp[Array.getD_eq_getD_getElem?,this]⟩;rw[hr]at this;cases this
 intro fuel;induction fuel with
  |zero=>
   intro listed L HD a w X4 ES VP hid;have hr:Region.ready .any ops listed=[]:=by cases hr:Region.ready .any ops listed with
    |nil=>rfl
    |cons i r=>
     exfalso;have hi:i∈Region.ready .any ops listed:=by rw[hr];simp
     obtain⟨h1,o,ho,_⟩:=mem_ready.1 hi;have YW:i<listed.size:=by rw[X4];exact Yu ho
     have h2:listed.toList[i]'(by simpa using YW)=false:=by simpa[Array.getD,YW]using h1
     have:=List.count_pos_iff.mpr (h2▸List.getElem_mem (l:=listed.toList) (n:=i) (by simpa using YW));unfold Uq at ES;omega
   exact⟨hr,Jh listed L HD a w X4 hr hid⟩
  |succ fuel ih=>
   intro listed L HD a w X4 ES VP hid;refine⟨fun hr=>Jh listed L HD a w X4 hr hid,fun i hi=>?_⟩;obtain⟨h1,o,ho,h3⟩:=mem_ready.1 hi;have YW:i<listed.size:=by rw[X4];exact Yu ho
   have Uk:listed[i]?=some false:=by rw[Array.getElem?_eq_getElem YW];simpa[Array.getD,YW]using h1
   have Je: ∀(i:Nat)(o:Oper),ops[i]?=some o->listed[i]?=some true-> ∀e∈o.after.toList,Region.binds .any e=true->listed[e.on]?=some true:=VP;have bb: ∀e∈o.after.toList,Region.binds .any e=true->listed[e.on]?=some true:=fun e he hb=>by have:=h3 e (by simpa using he) hb;rw[Array.getD_eq_getD_getElem?]at this;cases hx:listed[e.on]? with|none=>rw[hx]at this;simp at this|some b=>rw[hx]at this;simpa using this
   refine PI.step ok T Xb hG W0 LI CQ Mm LJ sk ez h4 fC hid ho (by rw[Uk];simp) (fun m hm=>?_) (fun j m hj hD hb=>hR.closed (D:=fun m=>listed[m]?=some true) Je m (Yq hj) hD hb) fun L2 R8 a' w' MO=>?_
   ·obtain⟨e,he,hb,h4⟩:=(hR.bef_iff ho).mp hm;have gZ:=bb e he hb;rcases h4 with h4|h4;·rw[<-h4];exact gZ
    ·have:e.on<ops.size:=by have:=hR.lead i o ho e he hb;have:=Yu ho;omega
     exact hR.closed (D:=fun m=>listed[m]?=some true) Je m (Yq this) gZ h4
   ·have Tj: ∀m,(listed.setIfInBounds i true)[m]?=some true↔(listed[m]?=some true\/m=i):=fun m=>by
     rw[Array.getElem?_setIfInBounds];by_cases e:i=m;·subst e;simp[YW]
     ·rw[if_neg e];constructor;·exact fun h=> .inl h
      ·rintro(h|h);·exact h
       ·exact absurd h.symm e
    have CR:(fun m=>(listed.setIfInBounds i true)[m]?=some true)=(fun m=>listed[m]?=some true\/m=i):=by funext m;exact propext (Tj m)
    refine ih (listed.setIfInBounds i true) L2 R8 a' w' (by simp[X4]) (by have:=QV YW Uk;omega) (fun k ok hk hD e he hb=>?_) (by rw[CR];exact MO);rw[Tj]at hD⊢;rcases hD with hD|hD;·exact .inl (VP k ok hk hD e he hb)
    ·subst hD;rw[ho]at hk;obtain rfl:=Option.some.inj hk;exact .inl (bb e he hb)
end
theorem aC{Df:List Deferred}{P:Program}{C:Cfg}{call:FuncId->List Value->AH->Option (Value×AH)}{B:Nat}(Xb:W5 P C B call){ops:Array Oper}{s s':St}(h:Oz P C call ops s=some s'){S:Nat->Prop}{L:Nat->Loc}{a:Act}{w:World}(hG:GO C S L)(hA:AI Df S L s.k s.tm a)(hI:Inv B S L s.H w){Q:Exit->Act->World->Prop}(hQ: ∀a' w',UK Df B S L s.H w s' a' w'->Q .normal a' w'):Ut P ops true Q a w:=by unfold Oz at h;cases D9:Lw ops with
 |false=>rw[D9]at h;cases h
 |true=>
  rw[D9,cond_true]at h;split at h<;>first|(cases h;done)|skip
  rename_i oz gH;have ok:=Bs D9 gH;split at h<;>first|(cases h;done)|skip
  rename_i b _ NQ;split at h<;>first|(cases h;done)|skip
  rename_i sz cs XO;split at h<;>first|(cases h;done)|skip
  rename_i s3 ib;split at h<;>first|(cases h;done)|skip
  rename_i vz H4 Re;split at h<;>first|(cases h;done)|skip
  rename_i Cc S8 h4;cases hc:(Nat.beq sz Cc&&Nat.ble H4.lw b&&Nat.beq H4.n s3.H.n)with
   |false=>rw[hc]at h;cases h
   |true=>
    rw[hc,cond_true]at h;obtain rfl:=Option.some.inj h;rw[Bool.and_eq_true,Bool.and_eq_true]at hc;obtain rfl:=Nat.eq_of_beq_eq_true hc.1.1;have LH:=Nat.le_of_ble_eq_true hc.1.2;have fC:=Nat.eq_of_beq_eq_true hc.2;have hR:=ok.reg;obtain⟨st,val,q,ms,t1,t2,t3,t4,t5⟩:=T9 ops.toList 0 false [] _ s3 ib (fun j=>by simp);have hN:st ops.size=s3:=by rw[<-t4];simp
    have T:Trace (Xz ops) P C call ops st val q ms _ s3:=⟨t1,hN,t2,t3,fun i o ho=>t5 i o (Nat.zero_le _) ho⟩;have Sw:(st 0).H.n=s.H.n:=by rw[t1]
    have Ik:(st 0).H.lw=s.H.lw:=by rw[t1]
    have Fq: ∀j,(st 0).H.blk j=if j=b then .dead else s.H.blk j:=fun j=>by
     rw[t1];show(match(s.H.t.set b Ou.dead).get j with|some y=>y|none=>Ou.dead)=_;rw[Tr.get_set];by_cases e:j=b;·rw[if_pos e,if_pos e]
     ·rw[if_neg e,if_neg e];rfl
    have Li:(st 0).k=s.k:=by rw[t1]
    have vO:(st 0).tm=s.tm:=by rw[t1]
    let w1:World:= { w with drawn:=w.drawn+1 };have OY:Inv B S L s.H w1:=hI.heap rfl;obtain⟨LJ,Mm,gp,C0,ob,sK,⟨hoi,hot⟩,XA⟩:=OY.rw b sz cs XO;have W0:Inv B S L (st 0).H w1:=OY.drop Sw Fq;have LI: ∀j VU cs',(st 0).H.blk j= .rw VU cs'->(L j).g≠(L b).g:=fun j VU cs' hj e=>by
     rw[Fq]at hj;by_cases ej:j=b;·rw[if_pos ej]at hj;cases hj
     ·rw[if_neg ej]at hj;exact ej (OY.dj j b VU cs' sz cs hj XO e)
    have CQ:(L b).g<w1.heap.size:=XF sK;have gG:=ok.late;have key: ∀x:Operand,(∀p∈ops.toList.drop (So ops+1),∀d,p.dst=some d->GB d x=true)-> ∀n,So ops+1+n<=ops.size->YE C (st (So ops+1+n)).tm x=YE C (st (So ops)).tm x:=fun x hx n=>by induction n with
     |zero=>
      intro _;obtain⟨_,_,p3⟩:=Xq (T.step _ _ ok.hz).2.1;rcases p3 with⟨_,p3⟩|⟨d,p3,_⟩;·rw[Nat.add_zero,p3]
      ·rw[ok.dz]at p3;cases p3
     |succ n ih=>
      intro hn;obtain⟨om,EW⟩:=Yq (ops:=ops) (i:=So ops+1+n) (by omega);have Im:om∈ops.toList.drop (So ops+1):=by
       have:(ops.toList.drop (So ops+1))[n]?=some om:=by rw[List.getElem?_drop,Array.getElem?_toList];exact EW
       exact List.mem_of_getElem? this
      obtain⟨_,_,p3⟩:=Xq (T.step _ _ EW).2.1;rw[show So ops+1+(n+1)=So ops+1+n+1 from rfl];rcases p3 with⟨_,p3⟩|⟨d,p3,_,p4⟩;·rw[p3];exact ih (by omega)
      ·rw[p4,jm (hx om Im d p3)];exact ih (by omega)
    have htz:Z2 P C call (st (So ops)).tm (only (st ops.size).H b (.rw sz cs)) oz.op=Z2 P C call (st ops.size).tm (only (st ops.size).H b (.rw sz cs)) oz.op:=by
     have YW:=ok.lt;unfold C6 at gG;have zh:=ok.str;cases Y7:oz.op<;>rw[Y7]at gG zh<;>first|(cases zh;done)|skip
     rename_i ty x y;rw[List.all_eq_true]at gG;have e:=key x (fun p hp d hd=>by have:=gG p hp;rw[hd]at this;exact(Bool.and_eq_true _ _▸this).1) (ops.size-So ops-1) (by omega);have e':=key y (fun p hp d hd=>by have:=gG p hp;rw[hd]at this;exact(Bool.and_eq_true _ _▸this).2) (ops.size-So ops-1) (by omega);rw[show So ops+1+(ops.size-So ops-1)=ops.size by omega]at e e';show ZP P C call _ _ ty x y=ZP P C call _ _ ty x y;unfold ZP;rw[e,e']
    have ez:Z2 P C call (st (So ops)).tm (only (st ops.size).H b (.rw sz cs)) oz.op=some (vz,H4):=by rw[htz,hN];exact Re
    show wpAny P .any ops Q _ _ a _;have VO: ∀m,¬ ((Array.replicate ops.size false)[m]?=some true):=fun m hm=>by
     rw[Array.getElem?_replicate]at hm;split at hm;·cases hm
     ·cases hm
    have ic:TN w1 (L b).g ob=w1:=by
     have:w1.heap.setIfInBounds (L b).g ob=w1.heap:=by
      apply Array.ext_getElem?;intro j;rw[Array.getElem?_setIfInBounds];by_cases e:(L b).g=j;·subst e;rw[if_pos rfl,if_pos CQ,sK]
      ·rw[if_neg e]
     show({ w1 with heap:=w1.heap.setIfInBounds (L b).g ob } :World)=w1;rw[this]
    refine od (Df:=Df) ok T Xb hG W0 LI CQ Mm LJ gp ez h4 (by rw[fC,hN]) (fun D L' HD a' w' hD hsi=>?_) ops.size _ L { n:=(st ops.size).H.n,lw:=(st 0).H.lw,t:=(st 0).H.t } a w1 (by simp) (by simp[Uq]) (fun i o ho hl=>by have:i<ops.size:=Yu ho;simp[this]at hl) ?_
    ·obtain⟨oc,hid,OW⟩:=hsi;have vj:D (So ops):=hD _ ok.lt;have Jd:U8 b sz S8 (L b).g (Sk ops st S (So ops)) L' (L b) w':=by
      rcases OW with⟨h1,_⟩|⟨_,h⟩;·exact absurd vj h1
      ·exact h
     have AZ:(L b).g<(TN w1 (L b).g oc).heap.size:=by rw[Y5];exact CQ
     have Ja:Inv B S L (st 0).H (TN w1 (L b).g oc):=W0.gap LI Mm (Y5 _ _ _) fun g hg=>U2 _ _ hg;have sJ:=hid.off Ja LI AZ;obtain⟨dA,dI,dF⟩:=hid.doneL T hR Ja hD;rw[hN]at dA dI dF;rw[Sw]at dA dI;have bo: ∀j,({ n:=s3.H.n,lw:=min s3.H.lw H4.lw,t:=s3.H.t.set b (.rw sz S8) } :AH).blk j=if j=b then .rw sz S8 else s3.H.blk j:=fun j=>by
      show(match(s3.H.t.set b (Ou.rw sz S8)).get j with|some y=>y|none=>Ou.dead)=_;rw[Tr.get_set];by_cases e:j=b;·rw[if_pos e,if_pos e]
      ·rw[if_neg e,if_neg e];rfl
     have JB:b<s.H.n:=OY.bd b LJ;have QO:L' b=L b:=dF.agree b LJ;have jl: ∀j VU cs',s3.H.blk j= .rw VU cs'->(L' j).g≠(L b).g:=fun j VU cs' hj=>by
      rcases Nat.lt_or_ge j (st 0).H.n with YW|Sa;·obtain⟨Wr,h0⟩:=dF.back j YW VU cs' hj;rw[dF.agree j (W0.rw j VU Wr h0).1];exact LI j VU Wr h0
      ·rcases dF.newg j Sa VU cs' hj with h1|⟨i0,Rg,Wr,h1,h2,_⟩;·omega
       ·rw[<-h2];exact LI i0 Rg Wr h1
     have r7: ∀j,Sk ops st S (So ops) j->ext S s.H.n s3.H.n j:=fun j hj=>by
      rcases hj with hj|⟨l,hl,h5,h6⟩;·exact .inl hj
      ·have sP:l<ops.size:=by
        rcases hl with hl|hl;·have:=ok.lt;omega
        ·have:=hR.bef_lt l ⟨_,ok.hz⟩ hl;have:=ok.lt;omega
       refine .inr ⟨?_,?_⟩;·rw[<-Sw];exact Nat.le_trans (T.n_mono (Nat.zero_le _) (Nat.le_of_lt sP)) h5
       ·rw[<-hN];exact Nat.lt_of_lt_of_le h6 (T.n_mono (by omega) (Nat.le_refl _))
     refine hQ a' w' ⟨L',dA,⟨fun j VU cs' hj=>?_,fun j VU cs' hj=>?_,fun i j x1 x2 x3 x4 hi hj hg=>?_,dI.bd,dI.base⟩,⟨dF.agree,by rw[<-Sw];exact dF.n,?_,fun i hi qc=>?_,fun i hi VU cs' Wk=>?_,fun i hi VU cs' Wk=>?_,dF.os,dF.tape,dF.output,by have:=dF.size;rw[Y5]at this;exact this,fun g hg=>?_⟩⟩
     ·rw[bo]at hj;by_cases e:j=b;·rw[if_pos e]at hj;cases hj
      ·rw[if_neg e]at hj;exact dI.ro j VU cs' hj
     ·rw[bo]at hj;by_cases e:j=b;·rw[if_pos e]at hj;cases hj;subst e;obtain⟨C2,o2,g1,g2,g3,g4⟩:=Jd;refine⟨.inl LJ,by rw[QO];exact Mm,by rw[QO];exact gp,C2,o2,by rw[QO];exact g1,⟨g2,by rw[QO];exact g3⟩,fun k u hk=>?_⟩;obtain⟨u',g5,g6⟩:=g4 k u hk;exact⟨u',by rw[QO];exact g5,g6.mono r7 (fun _ _=>rfl)⟩
      ·rw[if_neg e]at hj;exact dI.rw j VU cs' hj
     ·rw[bo]at hi hj;by_cases mf:i=b
      ·by_cases Fo:j=b;·rw[mf,Fo]
       ·rw[if_neg Fo]at hj;rw[mf,QO]at hg;exact absurd hg.symm (jl j _ _ hj)
      ·rw[if_neg mf]at hi;by_cases Fo:j=b;·rw[Fo,QO]at hg;exact absurd hg (jl i _ _ hi)
       ·rw[if_neg Fo]at hj;exact dI.dj i j _ _ _ _ hi hj hg
     ·have:=dF.lw;rw[Ik]at this;exact Nat.le_trans (Nat.min_le_left _ _) this
     ·have yU:i≠b:=fun e=>by have h1:i<H4.lw:=Nat.lt_of_lt_of_le qc (Nat.min_le_right _ _);omega
      rw[bo,if_neg yU,dF.keep i (by rw[Sw];exact hi) (Nat.lt_of_lt_of_le qc (Nat.min_le_left _ _)),Fq,if_neg yU]
     ·rw[bo]at Wk;by_cases e:i=b;·rw[if_pos e]at Wk;cases Wk;subst e;exact⟨cs,XO⟩
      ·rw[if_neg e]at Wk;obtain⟨Wr,h0⟩:=dF.back i (by rw[Sw];exact hi) VU cs' Wk;rw[Fq,if_neg e]at h0;exact⟨Wr,h0⟩
     ·rw[bo]at Wk;have e:i≠b:=by omega
      rw[if_neg e]at Wk;rcases dF.newg i (by rw[Sw];exact hi) VU cs' Wk with h1|⟨i0,Rg,Wr,h1,h2,h3⟩;·rw[Y5]at h1;exact .inl h1
      ·rw[Fq]at h1;by_cases ei:i0=b;·rw[if_pos ei]at h1;cases h1
       ·rw[if_neg ei]at h1;exact .inr ⟨i0,Rg,Wr,h1,h2,Nat.le_trans (Nat.min_le_left _ _) h3⟩
     ·by_cases eg:g=(L b).g;·exact .inr ⟨b,sz,cs,XO,eg.symm,Nat.le_trans (Nat.min_le_right _ _) LH⟩
      ·rcases dF.frame g (by rw[Y5];exact hg)with h1|⟨i0,Rg,Wr,h1,h2,h3⟩;·rw[U2 _ _ eg]at h1;exact .inl h1
       ·rw[Fq]at h1;by_cases ei:i0=b;·rw[if_pos ei]at h1;cases h1
        ·rw[if_neg ei]at h1;exact .inr ⟨i0,Rg,Wr,h1,h2,Nat.le_trans (Nat.min_le_left _ _) h3⟩
    ·refine⟨ob,?_,.inl ⟨VO _,C0,ob,sK,hoi,hot,XA⟩⟩;rw[ic];have hb: ∀j,({ n:=(st ops.size).H.n,lw:=(st 0).H.lw,t:=(st 0).H.t } :AH).blk j=(st 0).H.blk j:=fun j=>rfl;have AQ: ∀j,Ow ops st S (fun m=>(Array.replicate ops.size false)[m]?=some true) j↔S j:=fun j=>by
      constructor
      ·rintro(h1|⟨l,_,h2,_⟩);·exact h1
       ·exact absurd h2 (VO l)
      ·exact fun h=> .inl h
     refine⟨fun _ _=>rfl,?_,rfl,fun j _ _=>hb j,fun j _ sz cs hj=>⟨cs,hj⟩,fun j hj sz cs Ax=>absurd (W0.lt Ax) (by omega),rfl,rfl,rfl,Nat.le_refl _,fun g _=> .inl rfl,Nat.le_refl _,hA.defers,by rw[Li];exact hA.size,fun t v _ hv=>by rw[Li];rw[vO]at hv;exact hA.tmp t v hv,fun m t _ hm=>absurd hm (VO m),.inl ⟨fun m _ hm=>absurd hm (VO m),rfl,fun j hj=>?_,fun i hi hq j hj hl=>?_,fun m _ hm=>absurd hm (VO m)⟩⟩;·have:=W0.mono (S':=Ow ops st S (fun m=>(Array.replicate ops.size false)[m]?=some true)) (fun j hj=>(AQ j).mpr hj) (fun j hj=>W0.bd j ((AQ j).mp hj));exact⟨this.ro,this.rw,this.dj,fun j hj=>Nat.lt_of_lt_of_le (W0.bd j ((AQ j).mp hj)) (T.n_mono (Nat.zero_le _) (Nat.le_refl _)),this.base⟩
     ·rw[hb];exact Uw W0 j (by
      rcases Nat.lt_or_ge j (st 0).H.n with h'|h';·exact absurd (.inl h') hj
      ·exact h')
     ·rw[hb];rcases hl with hl|⟨l,_,hl,_⟩;·exact((T.grown (Uw W0) i hi hq).2.2 0 (Nat.zero_le _) j hl).symm
      ·exact absurd hl (VO l)
theorem Eb{Df:List Deferred}{P:Program}{C:Cfg}{call:FuncId->List Value->AH->Option (Value×AH)}{B:Nat}(Xb:W5 P C B call){ops:Array Oper}{s s':St}(h:UE P C call ops s=some s'){S:Nat->Prop}{L:Nat->Loc}{a:Act}{w:World}(hG:GO C S L)(hA:AI Df S L s.k s.tm a)(hI:Inv B S L s.H w){Q:Exit->Act->World->Prop}(hQ: ∀a' w',UK Df B S L s.H w s' a' w'->Q .normal a' w'):Ut P ops true Q a w:=by unfold UE at h;cases hs:Uh ops with|true=>rw[hs,cond_true]at h;exact Gs Xb h hG hA hI hQ|false=>rw[hs,cond_false]at h;exact aC Xb h hG hA hI hQ
section
variable (P : Program) (C : Cfg) (call : FuncId -> List Value -> AH -> Option (Value × AH)) (ops : Array Oper) (st : Nat -> St) (val : Nat -> Value) (ft : Nat -> Option (Nat × Bool)) (fs : Nat -> List (Nat × Nat × Bool))
def eh(i:Nat)(o:Oper):Prop:=ft i=none/\(st (i+1)).H=(st i).H/\((Xd ops (st i).tm o=some false/\val i=undef)\/(Xd ops (st i).tm o=some true/\ ∀H0,Z2 P C call (st i).tm H0 o.op=some (val i,H0)))
def oC(i:Nat)(o:Oper):Prop:= ∃t x b off,o.op= .load t x/\Xd ops (st i).tm o=some true/\YE C (st i).tm x=some (.pointer (some ⟨b,off,none⟩))/\Z4 P (st i).H t (.pointer (some ⟨b,off,none⟩))=some (val i)/\(st (i+1)).H=(st i).H/\ft i=some (b,false)
def eo(i:Nat)(o:Oper):Prop:= ∃t x y b off v,o.op= .store t x y/\Xd ops (st i).tm o=some true/\YE C (st i).tm x=some (.pointer (some ⟨b,off,none⟩))/\YE C (st i).tm y=some v/\YZ P (st i).H t (.pointer (some ⟨b,off,none⟩)) v=some (st (i+1)).H/\val i=undef/\ft i=some (b,true)
def FV(i:Nat)(o:Oper):Prop:=(eh P C call ops st val ft i o\/oC P C ops st val ft i o\/eo P C ops st val ft i o)/\(st i).put o.dst (val i) (st (i+1)).H=some (st (i+1))/\(fs (i+1)=match ft i with|none=>fs i|some (b,w)=>(i,b,w)::fs i)/\ ∀b w,ft i=some (b,w)->V2 ((before ops).getD i 0) b w (fs i)=true
structure Wy (s s' : St) : Prop where
  start : st 0 = s
  stop : st ops.size = s'
  f0 : fs 0 = []
  step : ∀ i o, ops[i]? = some o -> FV P C call ops st val ft fs i o
end
theorem Lc{P:Program}{C:Cfg}{call:FuncId->List Value->AH->Option (Value×AH)}{ops:Array Oper} : ∀(l:List Oper)(i:Nat)(f0:List (Nat×Nat×Bool))(s s':St),V6 P C call ops i f0 l s=some s'->(∀j,l[j]?=ops[i+j]?)-> ∃(st:Nat->St) (val:Nat->Value) (ft:Nat->Option (Nat×Bool)) (fs:Nat->List (Nat×Nat×Bool)),st i=s/\fs i=f0/\st (i+l.length)=s'/\ ∀k o,i<=k->ops[k]?=some o->FV P C call ops st val ft fs k o
 |[],i,f0,s,s',h,hl=>by simp only[V6]at h;obtain rfl:=Option.some.inj h;refine⟨fun _=>s,fun _=>undef,fun _=>none,fun _=>f0,rfl,rfl,rfl,fun k o hk ho=>?_⟩;have:=hl (k-i);rw[show i+(k-i)=k by omega,ho]at this;simp at this
 |o::rest,i,f0,s,s',h,hl=>by
  have h0:ops[i]?=some o:=by simpa using(hl 0).symm
  have Lj: ∀j,rest[j]?=ops[i+1+j]?:=fun j=>by have:=hl (j+1);simpa[Nat.add_assoc,Nat.add_comm 1 j]using this
  have glue: ∀(v:Value)(t1:Option (Nat×Bool))(f1:List (Nat×Nat×Bool))(s1:St),V6 P C call ops (i+1) f1 rest s1=some s'->(∀(st:Nat->St)(val:Nat->Value)(ft:Nat->Option (Nat×Bool))(fs:Nat->List (Nat×Nat×Bool)),st i=s->st (i+1)=s1->val i=v->ft i=t1->fs i=f0->fs (i+1)=f1->FV P C call ops st val ft fs i o)-> ∃(st:Nat->St) (val:Nat->Value) (ft:Nat->Option (Nat×Bool)) (fs:Nat->List (Nat×Nat×Bool)),st i=s/\fs i=f0/\st (i+(o::rest).length)=s'/\ ∀k o,i<=k->ops[k]?=some o->FV P C call ops st val ft fs k o:=by
   intro v t1 f1 s1 hr hf;obtain⟨st,val,ft,fs,e1,e3,e4,e5⟩:=Lc rest (i+1) f1 s1 s' hr Lj;refine⟨fun k=>if k=i then s else st k,fun k=>if k=i then v else val k,fun k=>if k=i then t1 else ft k,fun k=>if k=i then f0 else fs k,by simp,by simp,?_,fun k o' hk ho=>?_⟩
   ·have e6:i+(o::rest).length=i+1+rest.length:=by simp;omega
    have e7:i+1+rest.length≠i:=by omega
    show(if i+(o::rest).length=i then s else st (i+(o::rest).length))=s';rw[e6,if_neg e7];exact e4
   ·by_cases mP:k=i;·subst mP;rw[h0]at ho;obtain rfl:=Option.some.inj ho;exact hf _ _ _ _ (by simp) (by simp[e1]) (by simp) (by simp) (by simp) (by simp[e3])
    ·have:=e5 k o' (by omega) ho;have bz:k+1≠i:=by omega
     unfold FV eh oC eo at this⊢;simp only[if_neg mP,if_neg bz];exact this
  simp only[V6]at h;split at h<;>first|(cases h;done)|skip
  ·rename_i hw;split at h<;>first|(cases h;done)|skip
   ·rename_i MN;split at h<;>first|(cases h;done)|skip
    rename_i v H1 Y7;split at h<;>first|(cases h;done)|skip
    rename_i s1 YN;obtain⟨eH,ek,_⟩:=Xq YN;have hh:Zz o.op=false:=by
     unfold WV at MN;split at MN;·split at MN<;>cases MN
     ·split at MN<;>cases MN
     ·cases e:Zz o.op with|false=>rfl|true=>rw[e]at MN;cases MN
    refine glue v none f0 s1 h fun st val ft fs a1 a2 a3 a4 a5 a6=>⟨.inl ⟨a4,by rw[a1,a2,eH],.inr ⟨by rw[a1];exact hw,fun H0=>by rw[a1,a3];exact Su hh Y7 H0⟩⟩,by rw[a1,a2,a3,eH];exact YN,by rw[a4,a5,a6],fun b w e=>by rw[a4]at e;cases e⟩
   ·rename_i b w MN;cases hc:V2 ((before ops).getD i 0) b w f0 with
    |false=>rw[hc]at h;cases h
    |true=>
     rw[hc,cond_true]at h;split at h<;>first|(cases h;done)|skip
     rename_i v H1 Y7;split at h<;>first|(cases h;done)|skip
     rename_i s1 YN;obtain⟨eH,ek,_⟩:=Xq YN;refine glue v (some (b,w)) _ s1 h fun st val ft fs a1 a2 a3 a4 a5 a6=>⟨?_,by rw[a1,a2,a3,eH];exact YN,by rw[a4,a5,a6],fun b' w' e=>by rw[a4]at e;cases e;rw[a5];exact hc⟩;unfold WV at MN;split at MN
     ·rename_i t x e;split at MN<;>first|(cases MN;done)|skip
      rename_i b' off hx;cases MN;rw[e]at Y7;simp only[Z2,Ya,ZP,hx]at Y7;split at Y7<;>first|(cases Y7;done)|skip
      rename_i v' hv;cases Y7;exact .inr (.inl ⟨t,x,b,off,e,by rw[a1];exact hw,by rw[a1];exact hx,by rw[a1,a3];exact hv,by rw[a1,a2,eH],a4⟩)
     ·rename_i t x y e;split at MN<;>first|(cases MN;done)|skip
      rename_i b' off hx;cases MN;rw[e]at Y7;simp only[Z2,Ya,ZP,hx]at Y7;split at Y7<;>first|(cases Y7;done)|skip
      rename_i a' b' e1 hy;split at Y7<;>first|(cases Y7;done)|skip
      rename_i H' Re;cases Y7;cases e1;exact .inr (.inr ⟨t,x,y,b,off,_,e,by rw[a1];exact hw,by rw[a1];exact hx,by rw[a1];exact hy,by rw[a1,a2,eH];exact Re,a3,a4⟩)
     ·cases e:Zz o.op with|false=>rw[e]at MN;cases MN|true=>rw[e]at MN;cases MN
  ·rename_i hw;split at h<;>first|(cases h;done)|skip
   rename_i s1 YN;obtain⟨eH,ek,_⟩:=Xq YN;exact glue undef none f0 s1 h fun st val ft fs a1 a2 a3 a4 a5 a6=>⟨.inl ⟨a4,by rw[a1,a2,eH],.inl ⟨by rw[a1];exact hw,a3⟩⟩,by rw[a1,a2,a3,eH];exact YN,by rw[a4,a5,a6],fun b w e=>by rw[a4]at e;cases e⟩
theorem cf{P:Program}{H H2:AH}{t:TypeId}{b off:Nat}(h:H2.blk b=H.blk b):Z4 P H2 t (.pointer (some ⟨b,off,none⟩))=Z4 P H t (.pointer (some ⟨b,off,none⟩)):=by
 have hc:H2.cells b=H.cells b:=by unfold AH.cells;rw[h]
 have hr: ∀n,H2.read b off n=H.read b off n:=fun n=>by unfold AH.read;rw[hc]
 simp only[Z4,hc,hr]
theorem dq{H H2 H':AH}{b off:Nat}{vs:List Value}(h:H2.blk b=H.blk b)(hw:H.write b off vs=some H'): ∃dC,H2.write b off vs=some dC/\dC.blk b=H'.blk b/\(∀j,j≠b->dC.blk j=H2.blk j/\H'.blk j=H.blk j)/\dC.n=H2.n/\H'.n=H.n/\dC.lw=min H2.lw b/\H'.lw=min H.lw b:=by
 rw[AH.write_def]at hw⊢;rw[h];split at hw<;>first|(cases hw;done)|skip
 rename_i sz cs e;cases hb:(Nat.ble (off+vs.length) cs.length&&vs.all one)with
  |false=>rw[hb]at hw;cases hw
  |true=>
   rw[hb,cond_true]at hw;obtain rfl:=Option.some.inj hw;refine⟨{ n:=H2.n,lw:=min H2.lw b,t:=H2.t.set b (.rw (sz+1) (cs.take off++vs++cs.drop (off+vs.length))) },?_,?_,fun j hj=>⟨?_,?_⟩,rfl,rfl,rfl,rfl⟩;·rfl
   ·unfold AH.blk;simp only[Tr.get_set,if_true]
   ·unfold AH.blk;simp only[Tr.get_set,if_neg hj]
   ·unfold AH.blk;simp only[Tr.get_set,if_neg hj]
theorem QX{P:Program}{H H2 H':AH}{t:TypeId}{b off:Nat}{v:Value}(h:H2.blk b=H.blk b)(hw:YZ P H t (.pointer (some ⟨b,off,none⟩)) v=some H'): ∃dC,YZ P H2 t (.pointer (some ⟨b,off,none⟩)) v=some dC/\dC.blk b=H'.blk b/\(∀j,j≠b->dC.blk j=H2.blk j/\H'.blk j=H.blk j)/\dC.n=H2.n/\H'.n=H.n/\dC.lw=min H2.lw b/\H'.lw=min H.lw b:=by
 simp only[YZ]at hw⊢;split at hw<;>first|(cases hw;done)|skip
 rename_i n e;cases hb:Nat.beq v.cells.size n with|false=>rw[hb]at hw;cases hw|true=>rw[hb,cond_true]at hw;rw[cond_true];exact dq h hw
section
variable {Df : List Deferred} {P : Program} {C : Cfg} {call : FuncId -> List Value -> AH -> Option (Value × AH)} {ops : Array Oper} {st : Nat -> St} {val : Nat -> Value} {ft : Nat -> Option (Nat × Bool)} {fs : Nat -> List (Nat × Nat × Bool)} {s s' : St}
theorem Wy.fs_iff(T:Wy P C call ops st val ft fs s s'): ∀(i:Nat),i<=ops.size-> ∀k b w,(k,b,w)∈fs i↔k<i/\ft k=some (b,w)
 |0,_,k,b,w=>by rw[T.f0];simp
 |i+1,UN,k,b,w=>by obtain⟨o,ho⟩:=Yq (ops:=ops) (i:=i) (by omega);have ih:=T.fs_iff i (by omega) k b w;have hs:=(T.step i o ho).2.2.1;cases hf:ft i with
  |none=>
   rw[hf]at hs;simp only at hs;rw[hs,ih];constructor;·rintro⟨h1,h2⟩;exact⟨by omega,h2⟩
   ·rintro⟨h1,h2⟩;have:k≠i:=by rintro rfl;rw[hf]at h2;cases h2
    exact⟨by omega,h2⟩
  |some x=>
   obtain⟨b',w'⟩:=x;rw[hf]at hs;simp only at hs;rw[hs,List.mem_cons,ih];constructor
   ·rintro(h|⟨h1,h2⟩);·injection h with h1 h2;injection h2 with h2 h3;subst h1;subst h2;subst h3;exact⟨by omega,hf⟩
    ·exact⟨by omega,h2⟩
   ·rintro⟨h1,h2⟩;by_cases hk:k=i;·subst hk;rw[hf]at h2;cases h2;exact .inl rfl
    ·exact .inr ⟨by omega,h2⟩
theorem NA{bits b:Nat}{w:Bool} : ∀{l:List (Nat×Nat×Bool)},V2 bits b w l=true-> ∀k w',(k,b,w')∈l->(w||w')=true->bits.testBit k=true
 |[],_,k,w',h,_=>by cases h
 |(k0,b0,w0)::r,h,k,w',hm,hw=>by
  simp only[V2,Bool.and_eq_true,Bool.or_eq_true,Bool.not_eq_true']at h;rcases List.mem_cons.mp hm with h1|h1
  ·injection h1 with h1 h2;injection h2 with h2 h3;subst h1;subst h2;subst h3;rcases h.1 with(h4|h4)|h4;·rw[Nat.beq_refl]at h4;cases h4
   ·rw[h4]at hw;cases hw
   ·exact h4
  ·exact NA h.2 k w' h1 hw
theorem Wy.order(T:Wy P C call ops st val ft fs s s'){i k b:Nat}{w w':Bool}(hi:i<ops.size)(hk:k<i)(h1:ft k=some (b,w'))(h2:ft i=some (b,w))(hw:(w||w')=true):bef ops i k:=by obtain⟨o,ho⟩:=Yq hi;have:=(T.step i o ho).2.2.2 b w h2;exact NA this k w' ((T.fs_iff i (Nat.le_of_lt hi) k b w').mpr ⟨hk,h1⟩) hw
theorem Wy.n_eq(T:Wy P C call ops st val ft fs s s'): ∀(i:Nat),i<=ops.size->(st i).H.n=(st 0).H.n
 |0,_=>rfl
 |i+1,hi=>by
  obtain⟨o,ho⟩:=Yq (ops:=ops) (i:=i) (by omega);have ih:=T.n_eq i (by omega);rcases(T.step i o ho).1 with h|⟨_,_,_,_,_,_,_,_,h,_⟩|⟨_,_,_,_,_,_,_,_,_,_,h,_⟩;·rw[h.2.1];exact ih
  ·rw[h];exact ih
  ·obtain⟨_,_,_,_,_,e,_⟩:=QX (H2:=(st i).H) rfl h;rw[e];exact ih
theorem Wy.still(T:Wy P C call ops st val ft fs s s'){h j:Nat} : ∀(i:Nat),h<=i->i<=ops.size->(∀m,h<=m->m<i->ft m≠some (j,true))->(st i).H.blk j=(st h).H.blk j
 |0,h1,_,_=>by
  obtain rfl:h=0:=by omega
  rfl
 |i+1,h1,hi,hn=>by
  rcases Nat.lt_or_ge h (i+1)with h'|h'
  ·have ih:=T.still i (by omega) (by omega) (fun m a b=>hn m a (by omega));obtain⟨o,ho⟩:=Yq (ops:=ops) (i:=i) (by omega);rcases(T.step i o ho).1 with h2|⟨_,_,_,_,_,_,_,_,h2,_⟩|⟨_,_,_,b,_,_,_,_,_,_,h2,_,h3⟩;·rw[h2.2.1];exact ih
   ·rw[h2];exact ih
   ·obtain⟨_,_,_,e,_⟩:=QX (H2:=(st i).H) rfl h2;have hb:j≠b:=by rintro rfl;exact hn i (by omega) (by omega) h3
    rw[(e j hb).2];exact ih
  ·obtain rfl:h=i+1:=by omega
   rfl
theorem Wy.lw_iff(T:Wy P C call ops st val ft fs s s'): ∀(i:Nat),i<=ops.size-> ∀x,x<=(st i).H.lw↔(x<=(st 0).H.lw/\ ∀m b,m<i->ft m=some (b,true)->x<=b)
 |0,_,x=>⟨fun h=>⟨h,fun m b hm=>by omega⟩,fun h=>h.1⟩
 |i+1,hi,x=>by
  obtain⟨o,ho⟩:=Yq (ops:=ops) (i:=i) (by omega);have ih:=T.lw_iff i (by omega) x;have skip:(st (i+1)).H.lw=(st i).H.lw->(∀b,ft i≠some (b,true))->(x<=(st (i+1)).H.lw↔(x<=(st 0).H.lw/\ ∀m b,m<i+1->ft m=some (b,true)->x<=b)):=fun e hf=>by
   rw[e,ih];refine⟨fun⟨h1,h2⟩=>⟨h1,fun m b hm hb=>?_⟩,fun⟨h1,h2⟩=>⟨h1,fun m b hm hb=>h2 m b (by omega) hb⟩⟩;by_cases e:m=i;·subst e;exact absurd hb (hf b)
   ·exact h2 m b (by omega) hb
  rcases(T.step i o ho).1 with h2|⟨_,_,_,_,_,_,_,_,h2,h3⟩|⟨_,_,_,b,_,_,_,_,_,_,h2,_,h3⟩;·exact skip (by rw[h2.2.1]) (fun b e=>by rw[h2.1]at e;cases e)
  ·exact skip (by rw[h2]) (fun b e=>by rw[h3]at e;cases e)
  ·obtain⟨_,_,_,_,_,_,_,e⟩:=QX (H2:=(st i).H) rfl h2;rw[e,Nat.le_min,ih];refine⟨fun⟨⟨h4,h5⟩,h6⟩=>⟨h4,fun m b' hm hb=>?_⟩,fun⟨h4,h5⟩=>⟨⟨h4,fun m b' hm hb=>h5 m b' (by omega) hb⟩,h5 i b (by omega) h3⟩⟩;by_cases e:m=i;·subst e;rw[h3]at hb;cases hb;exact h6
   ·exact h5 m b' (by omega) hb
theorem Wy.k_eq(T:Wy P C call ops st val ft fs s s'): ∀(i:Nat),i<=ops.size->(st i).k=(st 0).k|0,_=>rfl|i+1,hi=>by obtain⟨o,ho⟩:=Yq (ops:=ops) (i:=i) (by omega);obtain⟨_,h,_⟩:=Xq (T.step i o ho).2.1;exact h.trans (T.k_eq i (by omega))
theorem Wy.dst_lt(T:Wy P C call ops st val ft fs s s'){m:Nat}{t:Nat}(h:Xa ops m=some t):t<(st 0).k:=by unfold Xa at h;cases ho:ops[m]? with
 |none=>rw[ho]at h;cases h
 |some o=>
  rw[ho]at h;obtain⟨_,_,h1⟩:=Xq (T.step m o ho).2.1;have hd:o.dst=some t:=h;rcases h1 with⟨h1,_⟩|⟨d,h1,h2,_⟩;·rw[h1]at hd;cases hd
  ·rw[h1]at hd;obtain rfl:=Option.some.inj hd;rw[T.k_eq m (Nat.le_of_lt (Yu ho))]at h2;exact h2
theorem Wy.tm(T:Wy P C call ops st val ft fs s s'): ∀(i:Nat),i<=ops.size-> ∀t v,(st i).tm.get t=some v->(∃m,m<i/\Xa ops m=some t/\val m=v/\ ∀m',m<m'->m'<i->Xa ops m'≠some t)\/((∀m,m<i->Xa ops m≠some t)/\(st 0).tm.get t=some v)
 |0,_,t,v,h=> .inr ⟨fun m hm=>by omega,h⟩
 |i+1,hi,t,v,h=>by
  obtain⟨o,ho⟩:=Yq (ops:=ops) (i:=i) (by omega);have hd:Xa ops i=o.dst:=by simp[Xa,ho]
  obtain⟨_,_,h1⟩:=Xq (T.step i o ho).2.1;have old:Xa ops i≠some t->(st i).tm.get t=some v->(∃m,m<i+1/\Xa ops m=some t/\val m=v/\ ∀m',m<m'->m'<i+1->Xa ops m'≠some t)\/((∀m,m<i+1->Xa ops m≠some t)/\(st 0).tm.get t=some v):=fun Ug hold=>by
   rcases T.tm i (by omega) t v hold with⟨m,a1,a2,a3,a4⟩|⟨a1,a2⟩
   ·refine .inl ⟨m,by omega,a2,a3,fun m' h1 h2=>?_⟩;by_cases e:m'=i;·subst e;exact Ug
    ·exact a4 m' h1 (by omega)
   ·refine .inr ⟨fun m hm=>?_,a2⟩;by_cases e:m=i;·subst e;exact Ug
    ·exact a1 m (by omega)
  rcases h1 with⟨h1,h2⟩|⟨d,h1,h2,h3⟩;·rw[h2]at h;exact old (by rw[hd,h1];simp) h
  ·rw[h3,Tr.get_set]at h;split at h;·rename_i e;subst e;obtain rfl:=Option.some.inj h;exact .inl ⟨i,by omega,by rw[hd,h1],rfl,fun m' _ _=>by omega⟩
   ·rename_i e;exact old (by rw[hd,h1];intro h';injection h' with h';exact e h'.symm) h
end
structure MD (Df : List Deferred) (ops : Array Oper) (st : Nat -> St) (ft : Nat -> Option (Nat × Bool)) (val : Nat -> Value) (B : Nat) (S0 : Nat -> Prop) (L0 : Nat -> Loc) (w0 : World) (D : Nat -> Prop) (HD : AH) (a : Act) (w : World) : Prop where
  inv : Inv B S0 L0 HD w
  hn : HD.n = (st 0).H.n
  fr : Fr S0 L0 (st 0).H w0 L0 HD w
  lw : ∀ x, x <= HD.lw ↔ (x <= (st 0).H.lw /\ ∀ m b, m < ops.size -> D m -> ft m = some (b, true) -> x <= b)
  blk : ∀ j h, h <= ops.size -> (∀ m, m < ops.size -> ft m = some (j, true) -> (D m ↔ m < h)) -> HD.blk j = (st h).H.blk j
  defers : a.defers = Df
  size : a.tmps.size = (st 0).k
  v0 : ∀ t v, (∀ m, m < ops.size -> D m -> Xa ops m ≠ some t) -> (st 0).tm.get t = some v -> t < (st 0).k /\ VR S0 L0 v (a.tmps.getD t undef)
  v1 : ∀ m t, m < ops.size -> D m -> Xa ops m = some t -> (∀ m', m' < ops.size -> D m' -> m < m' -> Xa ops m' ≠ some t) -> VR S0 L0 (val m) (a.tmps.getD t undef)
theorem Inv.reloc{B:Nat}{S S':Nat->Prop}{L L':Nat->Loc}{H:AH}{w:World}(hI:Inv B S' L' H w)(hS: ∀i,S' i↔S i)(hL: ∀i,S i->L' i=L i):Inv B S L H w:=by
 refine⟨fun i sz cs h=>?_,fun i sz cs h=>?_,fun i j a b c d h h' e=>?_,fun i h=>hI.bd i ((hS i).mpr h),hI.base⟩;·obtain⟨h1,h2,h3,h4⟩:=hI.ro i sz cs h;have hs:=(hS i).mp h1;rw[hL i hs]at h2 h3 h4;exact⟨hs,h2,h3,fun k v hk=>by obtain⟨v',h5,h6⟩:=h4 k v hk;exact⟨v',h5,h6.mono (fun j hj=>(hS j).mp hj) (fun j hj=>(hL j ((hS j).mp hj)).symm)⟩⟩
 ·obtain⟨h1,h2,h3,C,e,h4,h5,h6⟩:=hI.rw i sz cs h;have hs:=(hS i).mp h1;rw[hL i hs]at h2 h3 h4 h5 h6;exact⟨hs,h2,h3,C,e,h4,h5,fun k v hk=>by obtain⟨v',h7,h8⟩:=h6 k v hk;exact⟨v',h7,h8.mono (fun j hj=>(hS j).mp hj) (fun j hj=>(hL j ((hS j).mp hj)).symm)⟩⟩
 ·have h1:=(hS i).mp (hI.rw i _ _ h).1;have h2:=(hS j).mp (hI.rw j _ _ h').1;exact hI.dj i j a b c d h h' (by rw[hL i h1,hL j h2];exact e)
theorem Fr.reloc{B:Nat}{S:Nat->Prop}{L L':Nat->Loc}{H H':AH}{w w':World}(hF:Fr S L H w L' H' w')(hI:Inv B S L H' w')(hb: ∀i,S i->i<H.n):Fr S L H w L H' w':=⟨fun _ _=>rfl,hF.n,hF.lw,hF.keep,hF.back,fun i hi sz cs h=>absurd (hb i (hI.rw i sz cs h).1) (by omega),hF.os,hF.tape,hF.output,hF.size,hF.frame⟩
section
variable {Df : List Deferred} {P : Program} {C : Cfg} {call : FuncId -> List Value -> AH -> Option (Value × AH)} {ops : Array Oper} {st : Nat -> St} {val : Nat -> Value} {ft : Nat -> Option (Nat × Bool)} {fs : Nat -> List (Nat × Nat × Bool)} {s s' : St}
variable {B : Nat} {S0 : Nat -> Prop} {L0 : Nat -> Loc} {w0 : World} {D : Nat -> Prop} {HD : AH} {a : Act} {w : World}
theorem MD.looks(T:Wy P C call ops st val ft fs s s')(hR:W6 ops)(h:MD Df ops st ft val B S0 L0 w0 D HD a w){i:Nat}{o:Oper}(ho:ops[i]?=some o)(Sv: ¬D i)(Ti: ∀m,bef ops i m->D m)(VP: ∀i m,i<ops.size->D i->bef ops i m->D m){t:Nat}(ht:t∈o.looksAt ops){v:Value}(hv:(st i).tm.get t=some v):t<a.tmps.size/\VR S0 L0 v (a.tmps.getD t undef):=by
 have hi:=Yu ho;have later: ∀m',m'<ops.size->D m'->i<m'->Xa ops m'≠some t:=fun m' LG K8 YW e=>by
  obtain⟨o',mM⟩:=Yq LG;rcases hR.apart i m' o o' ho mM YW with h1|h1;·exact Sv (VP m' i LG K8 h1)
  ·exact(Oper.apart_spec h1).2.2 t (by simpa[Xa,mM]using e) ht
 rw[h.size];rcases T.tm i (Nat.le_of_lt hi) t v hv with⟨m,h1,h2,h3,h4⟩|⟨h1,h2⟩
 ·obtain⟨om,EW⟩:=Yq (ops:=ops) (i:=m) (by omega);have hb:bef ops i m:=by
   rcases hR.apart m i om o EW ho h1 with h5|h5;·exact h5
   ·exact absurd ht ((Oper.apart_spec h5).1 t (by simpa[Xa,EW]using h2))
  refine⟨T.dst_lt h2,?_⟩;have:=h.v1 m t (by omega) (Ti m hb) h2 (fun m' LG K8 YW=>by
   rcases Nat.lt_or_ge m' i with h6|h6;·exact h4 m' YW h6
   ·rcases Nat.lt_or_ge i m' with h7|h7;·exact later m' LG K8 h7
    ·obtain rfl:m'=i:=by omega
     exact absurd K8 Sv);rw[h3]at this;exact this
 ·exact h.v0 t v (fun m hm K8=>by
  rcases Nat.lt_or_ge m i with h6|h6;·exact h1 m h6
  ·rcases Nat.lt_or_ge i m with h7|h7;·exact later m hm K8 h7
   ·obtain rfl:m=i:=by omega
    exact absurd K8 Sv) h2
theorem Hw{i:Nat}{o:Oper}(T:Wy P C call ops st val ft fs s s')(ho:ops[i]?=some o)(X4:a.tmps.size=(st 0).k)(v':Value)(t:Nat):(a.put o.dst v').tmps.getD t undef=if Xa ops i=some t then v' else a.tmps.getD t undef:=by
 have hd:Xa ops i=o.dst:=by simp[Xa,ho]
 rw[hd];cases CS:o.dst with
  |none=>simp[Act.put]
  |some d=>
   simp only[Act.put];by_cases e:d=t;·subst e;rw[if_pos rfl,RW _ _ _ _ (by rw[X4];exact T.dst_lt (by rw[hd,CS]))]
   ·rw[if_neg (by intro h;injection h with h;exact e h),Ql _ _ _ _ _ e]
theorem MD.slots(T:Wy P C call ops st val ft fs s s')(hR:W6 ops)(h:MD Df ops st ft val B S0 L0 w0 D HD a w){i:Nat}{o:Oper}(ho:ops[i]?=some o)(Sv: ¬D i)(VP: ∀i m,i<ops.size->D i->bef ops i m->D m){v':Value}(hv:VR S0 L0 (val i) v'):(a.put o.dst v').defers=Df/\(a.put o.dst v').tmps.size=(st 0).k/\(∀t v,(∀m,m<ops.size->(D m\/m=i)->Xa ops m≠some t)->(st 0).tm.get t=some v->t<(st 0).k/\VR S0 L0 v ((a.put o.dst v').tmps.getD t undef))/\(∀m t,m<ops.size->(D m\/m=i)->Xa ops m=some t->(∀m',m'<ops.size->(D m'\/m'=i)->m<m'->Xa ops m'≠some t)->VR S0 L0 (val m) ((a.put o.dst v').tmps.getD t undef)):=by
 have hi:=Yu ho;refine⟨?_,?_,fun t v h1 h2=>?_,fun m t hm hD hd EZ=>?_⟩;·have:=h.defers;cases CS:o.dst<;>simp[Act.put,this]
 ·have:=h.size;cases CS:o.dst<;>simp[Act.put,this]
 ·rw[Hw T ho h.size,if_neg (h1 i hi (.inr rfl))];exact h.v0 t v (fun m hm hD=>h1 m hm (.inl hD)) h2
 ·rw[Hw T ho h.size];by_cases Kk:m=i;·subst Kk;rw[if_pos hd];exact hv
  ·have Hi:D m:=hD.resolve_right Kk;have Ug:Xa ops i≠some t:=by
    intro e;obtain⟨om,EW⟩:=Yq hm;rcases Nat.lt_or_ge m i with h1|h1;·exact EZ i hi (.inr rfl) h1 e
    ·have YW:i<m:=by omega
     rcases hR.apart i m o om ho EW YW with h2|h2;·exact Sv (VP m i hm Hi h2)
     ·exact(Oper.apart_spec h2).2.1 t (by simpa[Xa,ho]using e) (by simpa[Xa,EW]using hd)
   rw[if_neg Ug];exact h.v1 m t hm Hi hd (fun m' LG K8=>EZ m' LG (.inl K8))
theorem MD.step(T:Wy P C call ops st val ft fs s s')(hR:W6 ops)(Xb:W5 P C B call)(hG:GO C S0 L0)(W0:Inv B S0 L0 (st 0).H w0)(h:MD Df ops st ft val B S0 L0 w0 D HD a w){i:Nat}{o:Oper}(ho:ops[i]?=some o)(Sv: ¬D i)(Ti: ∀m,bef ops i m->D m)(VP: ∀i m,i<ops.size->D i->bef ops i m->D m){K:Act->World->Prop}{Q:Exit->Act->World->Prop}(hK: ∀R8 a' w',MD Df ops st ft val B S0 L0 w0 (fun m=>D m\/m=i) R8 a' w'->K a' w'):wpOp P ops Q i K a w:=by
 have hi:=Yu ho;have Py:=fun{t:Nat} (ht:t∈o.looksAt ops){v:Value} (hv:(st i).tm.get t=some v)=>h.looks T hR ho Sv Ti VP ht hv;have LF: ∀x∈o.op.operands,∀u,YE C (st i).tm x=some u->VR S0 L0 u (a.eval x):=fun x hx u hu=>N6 hG (fun t v e hv=>by subst e;exact(Py (P2 hx) hv).2) hu;have RA: ∀b,Xd ops (st i).tm o=some b->Region.wanted o (yielded ops a.tmps)=b:=fun b hb=>UT hb (fun j want d hg hd v hv=>Py (Ll hg hd) hv);have zb: ∀i,S0 i->i<HD.n:=fun i hs=>by rw[h.hn];exact W0.bd i hs
 have SN: ∀b w,ft i=some (b,w)->HD.blk b=(st i).H.blk b:=fun b w hf=>h.blk b i (Nat.le_of_lt hi) fun m hm dQ=>by
  constructor
  ·intro Hi;rcases Nat.lt_or_ge m i with h'|h';·exact h'
   ·rcases Nat.lt_or_ge i m with xR|xR;·exact absurd (VP m i hm Hi (T.order hm xR hf dQ (by simp))) Sv
    ·obtain rfl:m=i:=by omega
     exact absurd Hi Sv
  ·intro YW;exact Ti m (T.order hi YW dQ hf (by simp))
 have quiet: ∀(v':Value)(w':World),VR S0 L0 (val i) v'->(∀b,ft i≠some (b,true))->Inv B S0 L0 HD w'->Fr S0 L0 HD w L0 HD w'->(st (i+1)).H=(st i).H->MD Df ops st ft val B S0 L0 w0 (fun m=>D m\/m=i) HD (a.put o.dst v') w':=fun v' w' hv hf D6 hF he=>by
  obtain⟨s1,s2,s3,s4⟩:=h.slots T hR ho Sv VP hv;refine⟨D6,h.hn,Fr.trans W0 h.inv (fun _ h=>h) h.fr hF,fun x=>?_,fun j k hk hw=>?_,s1,s2,s3,s4⟩
  ·rw[h.lw x];refine⟨fun⟨h1,h2⟩=>⟨h1,fun m b hm hD hb=>?_⟩,fun⟨h1,h2⟩=>⟨h1,fun m b hm hD hb=>h2 m b hm (.inl hD) hb⟩⟩;rcases hD with hD|hD;·exact h2 m b hm hD hb
   ·subst hD;exact absurd hb (hf b)
  ·refine h.blk j k hk fun m hm dQ=>?_;rw[<-hw m hm dQ];refine⟨fun h=> .inl h,fun h=>?_⟩;rcases h with h|h;·exact h
   ·subst h;exact absurd dQ (hf j)
 unfold wpOp;rw[ho];dsimp only;rcases(T.step i o ho).1 with⟨h1,h2,h3⟩|⟨t,x,b,off,e,h1,h2,h3,h4,h5⟩|⟨t,x,y,b,off,v,e,h1,h2,h3,h4,h5,h6⟩
 ·rcases h3 with⟨h3,h4⟩|⟨h3,h5⟩;·rw[RA _ h3,if_neg (by simp)];exact hK HD _ w (quiet undef w (by rw[h4];exact PM) (fun b e=>by rw[h1]at e;cases e) h.inv (Fr.refl h.inv) h2)
  ·rw[RA _ h3,if_pos rfl];left;refine(Wj Xb hG h.inv LF (h5 HD)).wp fun v' w' hg=>?_;obtain⟨L',gI,gF,gV⟩:=hg;have D6:Inv B S0 L0 HD w':=gI.reloc (fun i=>⟨Xc,.inl⟩) (fun i hs=>gF.agree i hs);exact hK HD _ w' (quiet v' w' (gV.mono (fun i=>Xc) (fun i hs=>(gF.agree i (Xc hs)).symm)) (fun b e=>by rw[h1]at e;cases e) D6 (gF.reloc D6 zb) h2)
 ·rw[RA _ h1,if_pos rfl];left;have hev:Z2 P C call (st i).tm HD o.op=some (val i,HD):=by rw[e];simp only[Z2,Ya,ZP,h2,cf (SN b false h5),h3]
  refine(Wj Xb hG h.inv LF hev).wp fun v' w' hg=>?_;obtain⟨L',gI,gF,gV⟩:=hg;have D6:Inv B S0 L0 HD w':=gI.reloc (fun i=>⟨Xc,.inl⟩) (fun i hs=>gF.agree i hs);exact hK HD _ w' (quiet v' w' (gV.mono (fun i=>Xc) (fun i hs=>(gF.agree i (Xc hs)).symm)) (fun b e=>by rw[h5]at e;cases e) D6 (gF.reloc D6 zb) h4)
 ·rw[RA _ h1,if_pos rfl];left;obtain⟨R8,e1,e2,e3,e4,e5,e6,e7⟩:=QX (SN b true h6) h4;have hev:Z2 P C call (st i).tm HD o.op=some (val i,R8):=by rw[e];simp only[Z2,Ya,ZP,h2,h3,e1,h5]
  refine(Wj Xb hG h.inv LF hev).wp fun v' w' hg=>?_;obtain⟨L',gI,gF,gV⟩:=hg;have hS: ∀i,ext S0 HD.n R8.n i↔S0 i:=fun i=>by rw[e4];exact⟨Xc,.inl⟩
  have D6:Inv B S0 L0 R8 w':=gI.reloc hS (fun i hs=>gF.agree i hs);obtain⟨s1,s2,s3,s4⟩:=h.slots T hR ho Sv VP (gV.mono (fun i hs=>(hS i).mp hs) (fun i hs=>(gF.agree i ((hS i).mp hs)).symm));refine hK R8 _ w' ⟨D6,e4.trans h.hn,Fr.trans W0 h.inv (fun _ h=>h) h.fr (gF.reloc D6 zb),fun x=>?_,fun j k hk hw=>?_,s1,s2,s3,s4⟩
  ·rw[e6,Nat.le_min,h.lw x];refine⟨fun⟨⟨h1,h2⟩,h7⟩=>⟨h1,fun m b' hm hD hb=>?_⟩,fun⟨h1,h2⟩=>⟨⟨h1,fun m b hm hD hb=>h2 m b hm (.inl hD) hb⟩,h2 i b hi (.inr rfl) h6⟩⟩;rcases hD with hD|hD;·exact h2 m b' hm hD hb
   ·subst hD;rw[h6]at hb;cases hb;exact h7
  ·by_cases hj:j=b
   ·subst hj;have hik:i<k:=(hw i hi h6).mp (.inr rfl);rw[e2];refine(T.still k (by omega) hk fun m mN bZ dQ=>?_).symm;have hm:m<ops.size:=by omega
    have Hi:=(hw m hm dQ).mpr bZ;rcases Hi with Hi|Hi;·exact Sv (VP m i hm Hi (T.order hm (by omega) h6 dQ (by simp)))
    ·omega
   ·rw[(e3 j hj).1];refine h.blk j k hk fun m hm dQ=>?_;rw[<-hw m hm dQ];refine⟨fun h=> .inl h,fun h=>?_⟩;rcases h with h|h;·exact h
    ·subst h;rw[h6]at dQ;cases dQ;exact absurd rfl hj
theorem MD.done(T:Wy P C call ops st val ft fs s s')(W0:Inv B S0 L0 (st 0).H w0)(h:MD Df ops st ft val B S0 L0 w0 D HD a w)(hD: ∀m,m<ops.size->D m):UK Df B S0 L0 (st 0).H w0 (st ops.size) a w:=by
 have hb: ∀j,(st ops.size).H.blk j=HD.blk j:=fun j=>(h.blk j ops.size (Nat.le_refl _) fun m hm _=>⟨fun _=>hm,fun _=>hD m hm⟩).symm;have hn:(st ops.size).H.n=HD.n:=(T.n_eq _ (Nat.le_refl _)).trans h.hn.symm;have LH:(st ops.size).H.lw=HD.lw:=by
  apply Nat.le_antisymm;·rw[h.lw];obtain⟨h1,h2⟩:=(T.lw_iff ops.size (Nat.le_refl _) (st ops.size).H.lw).mp (Nat.le_refl _);exact⟨h1,fun m b hm _ hb=>h2 m b hm hb⟩
  ·rw[T.lw_iff ops.size (Nat.le_refl _)];obtain⟨h1,h2⟩:=(h.lw HD.lw).mp (Nat.le_refl _);exact⟨h1,fun m b hm hb=>h2 m b hm (hD m hm) hb⟩
 have Sw:(st ops.size).H.n=(st 0).H.n:=T.n_eq _ (Nat.le_refl _);have hS: ∀j,ext S0 (st 0).H.n (st ops.size).H.n j↔S0 j:=fun j=>by rw[Sw];exact⟨Xc,.inl⟩
 refine⟨L0,⟨h.defers,by rw[h.size,T.k_eq _ (Nat.le_refl _)],fun t v hv=>?_⟩,?_,⟨fun _ _=>rfl,by rw[Sw];exact Nat.le_refl _,by rw[LH];exact h.fr.lw,fun j hj hl=>?_,fun j hj sz cs Wk=>?_,fun j hj sz cs Wk=>?_,h.fr.os,h.fr.tape,h.fr.output,h.fr.size,fun g hg=>?_⟩⟩
 ·rw[T.k_eq _ (Nat.le_refl _)];rcases T.tm ops.size (Nat.le_refl _) t v hv with⟨m,h1,h2,h3,h4⟩|⟨h1,h2⟩;·refine⟨T.dst_lt h2,?_⟩;have:=h.v1 m t h1 (hD m h1) h2 (fun m' LG _ YW=>h4 m' YW LG);rw[h3]at this;exact this.mono (fun j hj=>(hS j).mpr hj) (fun _ _=>rfl)
  ·obtain⟨h3,h4⟩:=h.v0 t v (fun m hm _=>h1 m hm) h2;exact⟨h3,h4.mono (fun j hj=>(hS j).mpr hj) (fun _ _=>rfl)⟩
 ·exact(h.inv.congr hb hn).mono (fun j hj=>(hS j).mpr hj) (fun j hj=>by rw[Sw];exact W0.bd j ((hS j).mp hj))
 ·rw[hb];exact h.fr.keep j hj (by rw[<-LH];exact hl)
 ·rw[hb]at Wk;exact h.fr.back j hj sz cs Wk
 ·rw[hb]at Wk;rw[LH];exact h.fr.newg j hj sz cs Wk
 ·rw[LH];exact h.fr.frame g hg
theorem nW(T:Wy P C call ops st val ft fs s s')(hR:W6 ops)(Xb:W5 P C B call)(hG:GO C S0 L0)(W0:Inv B S0 L0 (st 0).H w0){Q:Exit->Act->World->Prop}(hQ: ∀a w,UK Df B S0 L0 (st 0).H w0 (st ops.size) a w->Q .normal a w): ∀(fuel:Nat)(listed:Array Bool)(HD:AH)(a:Act)(w:World),listed.size=ops.size->Uq listed=fuel->(∀(i:Nat)(o:Oper),ops[i]?=some o->listed[i]?=some true-> ∀e∈o.after.toList,Region.binds .any e=true->listed[e.on]?=some true)->MD Df ops st ft val B S0 L0 w0 (fun m=>listed[m]?=some true) HD a w->wpAny P .any ops Q fuel listed a w:=by
 have Jh: ∀(listed:Array Bool)(HD:AH)(a:Act)(w:World),listed.size=ops.size->Region.ready .any ops listed=[]->MD Df ops st ft val B S0 L0 w0 (fun m=>listed[m]?=some true) HD a w->Q .normal a w:=by intro listed HD a w X4 hr hid;refine hQ a w (hid.done T W0 fun m hm=>?_);induction m using Nat.strongRecOn with
  |_ m ih=>cases hb:listed[m]with|true=>rw[Array.getElem?_eq_getElem (by omega),hb]|false=>exfalso;obtain⟨o,ho⟩:=Yq hm;have:m∈Region.ready .any ops listed:=mem_ready.2 ⟨by simp[Array.getD,X4,hm,hb],o,ho,fun e he Eu=>by have YW:=hR.lead m o ho e (by simpa using he) Eu;have:=ih e.on YW (by omega);simp[Array.getD_eq_getD_getElem?,this]⟩;rw[hr]at this;cases this
 intro fuel;induction fuel with
  |zero=>
   intro listed HD a w X4 ES VP hid;have hr:Region.ready .any ops listed=[]:=by cases hr:Region.ready .any ops listed with
    |nil=>rfl
    |cons i r=>
     exfalso;have hi:i∈Region.ready .any ops listed:=by rw[hr];simp
     obtain⟨h1,o,ho,_⟩:=mem_ready.1 hi;have YW:i<listed.size:=by rw[X4];exact Yu ho
     have h2:listed.toList[i]'(by simpa using YW)=false:=by simpa[Array.getD,YW]using h1
     have:=List.count_pos_iff.mpr (h2▸List.getElem_mem (l:=listed.toList) (n:=i) (by simpa using YW));unfold Uq at ES;omega
   exact⟨hr,Jh listed HD a w X4 hr hid⟩
  |succ fuel ih=>
   intro listed HD a w X4 ES VP hid;refine⟨fun hr=>Jh listed HD a w X4 hr hid,fun i hi=>?_⟩;obtain⟨h1,o,ho,h3⟩:=mem_ready.1 hi;have YW:i<listed.size:=by rw[X4];exact Yu ho
   have Uk:listed[i]?=some false:=by rw[Array.getElem?_eq_getElem YW];simpa[Array.getD,YW]using h1
   have Je: ∀(i:Nat)(o:Oper),ops[i]?=some o->listed[i]?=some true-> ∀e∈o.after.toList,Region.binds .any e=true->listed[e.on]?=some true:=VP;have bb: ∀e∈o.after.toList,Region.binds .any e=true->listed[e.on]?=some true:=fun e he hb=>by have:=h3 e (by simpa using he) hb;rw[Array.getD_eq_getD_getElem?]at this;cases hx:listed[e.on]? with|none=>rw[hx]at this;simp at this|some b=>rw[hx]at this;simpa using this
   refine hid.step T hR Xb hG W0 ho (by rw[Uk];simp) (fun m hm=>?_) (fun j m hj hD hb=>hR.closed (D:=fun m=>listed[m]?=some true) Je m (Yq hj) hD hb) fun R8 a' w' MO=>?_
   ·obtain⟨e,he,hb,h4⟩:=(hR.bef_iff ho).mp hm;have gZ:=bb e he hb;rcases h4 with h4|h4;·rw[<-h4];exact gZ
    ·have:e.on<ops.size:=by have:=hR.lead i o ho e he hb;have:=Yu ho;omega
     exact hR.closed (D:=fun m=>listed[m]?=some true) Je m (Yq this) gZ h4
   ·have Tj: ∀m,(listed.setIfInBounds i true)[m]?=some true↔(listed[m]?=some true\/m=i):=fun m=>by
     rw[Array.getElem?_setIfInBounds];by_cases e:i=m;·subst e;simp[YW]
     ·rw[if_neg e];constructor;·exact fun h=> .inl h
      ·rintro(h|h);·exact h
       ·exact absurd h.symm e
    have CR:(fun m=>(listed.setIfInBounds i true)[m]?=some true)=(fun m=>listed[m]?=some true\/m=i):=by funext m;exact propext (Tj m)
    refine ih (listed.setIfInBounds i true) R8 a' w' (by simp[X4]) (by have:=QV YW Uk;omega) (fun k ok hk hD e he hb=>?_) (by rw[CR];exact MO);rw[Tj]at hD⊢;rcases hD with hD|hD;·exact .inl (VP k ok hk hD e he hb)
    ·subst hD;rw[ho]at hk;obtain rfl:=Option.some.inj hk;exact .inl (bb e he hb)
end
theorem NY{Df:List Deferred}{P:Program}{C:Cfg}{call:FuncId->List Value->AH->Option (Value×AH)}{B:Nat}(hm:P.follows .mixedOrders=true)(Xb:W5 P C B call){ops:Array Oper}{draw:Bool}{s s':St}(h:YB P C call ops draw s=some s'){S:Nat->Prop}{L:Nat->Loc}{a:Act}{w:World}(hG:GO C S L)(hA:AI Df S L s.k s.tm a)(hI:Inv B S L s.H w){Q:Exit->Act->World->Prop}(hQ: ∀a' w',UK Df B S L s.H w s' a' w'->Q .normal a' w'):Ut P ops draw Q a w:=by unfold YB at h;cases hb:(draw&&Vm ops)with
 |false=>rw[hb,cond_false]at h;cases hs:(draw&&isSplit C ops)with|false=>rw[hs,cond_false]at h;exact Ig hm Xb h hG hA hI hQ|true=>rw[hs,cond_true]at h;rw[Bool.and_eq_true]at hs;rw[hs.1];exact Eb Xb h hG hA hI hQ
 |true=>rw[hb,cond_true]at h;rw[Bool.and_eq_true]at hb;obtain⟨hd,_⟩:=hb;subst hd;cases hr:Ue ops with
  |false=>rw[hr]at h;cases h
  |true=>
   rw[hr,cond_true]at h;have hR:=SD hr;obtain⟨st,val,ft,fs,e1,e3,e4,e5⟩:=Lc ops.toList 0 [] s s' h (fun j=>by simp);have hN:st ops.size=s':=by rw[<-e4];simp
   have T:Wy P C call ops st val ft fs s s':=⟨e1,hN,e3,fun i o ho=>e5 i o (Nat.zero_le _) ho⟩;subst e1;show wpAny P .any ops Q _ _ a _;let w1:World:= { w with drawn:=w.drawn+1 };have OY:Inv B S L (st 0).H w1:=hI.heap rfl;refine nW (Df:=Df) T hR Xb hG OY (fun a' w' hd=>hQ a' w' ?_) ops.size _ (st 0).H a w1 (by simp) (by simp[Uq]) (fun i o ho hl=>by have:i<ops.size:=Yu ho;simp[this]at hl) ?_;·rw[hN]at hd;obtain⟨L',d1,d2,d3⟩:=hd;exact⟨L',d1,d2,⟨d3.agree,d3.n,d3.lw,d3.keep,d3.back,d3.newg,d3.os,d3.tape,d3.output,d3.size,d3.frame⟩⟩
   ·have VO: ∀m,¬ ((Array.replicate ops.size false)[m]?=some true):=fun m hm=>by
     rw[Array.getElem?_replicate]at hm;split at hm;·cases hm
     ·cases hm
    refine⟨OY,rfl,Fr.refl OY,fun x=>⟨fun h=>⟨h,fun m b _ hm=>absurd hm (VO m)⟩,fun h=>h.1⟩,fun j k hk hw=>?_,hA.defers,hA.size,fun t v _ hv=>hA.tmp t v hv,fun m t _ hm=>absurd hm (VO m)⟩;exact(T.still k (Nat.zero_le _) hk fun m _ hm hf=>absurd ((hw m (by omega) hf).mpr hm) (VO m)).symm
theorem F7{Df:List Deferred}{P:Program}{C:Cfg}{call:FuncId->List Value->AH->Option (Value×AH)}{B:Nat}(hm:P.follows .mixedOrders=true)(Xb:W5 P C B call){ops:Array Oper}{draw:Bool}{s s':St}(h:YB P C call ops draw s=some s'){S:Nat->Prop}{L:Nat->Loc}{a:Act}{w:World}(hG:GO C S L)(hA:AI Df S L s.k s.tm a)(hI:Inv B S L s.H w){Q:Exit->Act->World->Prop}(hQ: ∀a' w',UK Df B S L s.H w s' a' w'->Q .normal a' w')(id:Nat):(Code.region id ops draw).wp P Q a w:=(NY hm Xb h hG hA hI hQ).wp hm id
end
end Go.Proofs.YtmkfecoeghokfaaGreatDoor.Ev
