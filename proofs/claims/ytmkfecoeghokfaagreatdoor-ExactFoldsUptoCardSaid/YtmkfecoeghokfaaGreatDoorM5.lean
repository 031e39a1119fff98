/-
  The engine and the walks that the claim's last text leans on, part 5 of 9: Ref, Rt, Make, Rc, Rd, Re, Rf, Rg, Oh, Ok, Pa, Pb, Pc, Pd, Pe, Pf, Pg, Sa.
-/
import Derived.Test.YtmkfecoeghokfaaGreatDoorM4
namespace Go.Proofs.YtmkfecoeghokfaaGreatDoor
open Go Ev
set_option linter.unusedVariables false
set_option linter.unusedSimpArgs false
noncomputable section
set_option maxRecDepth 20000
abbrev Lim:Nat:=2000000000000
theorem Gn{xs:List Nat}(dx:Dig B64 xs):(ds B64 (dv B64 xs)).length≤xs.length:=Vm Ym (Vz dx)
theorem Fv{B:Nat}(hB:2≤B){n m:Nat}(h:n≤m):(ds B n).length≤(ds B m).length:=Vm hB (Nat.lt_of_le_of_lt h (ds_lt hB m))
theorem Ko{B n:Nat}(hB:2≤B):0<(ds B n).length↔0<n:=by
 constructor
 ·intro h;rcases Nat.eq_zero_or_pos n with h0|h0;·subst h0;rw[Jm]at h;cases h
  ·exact h0
 ·intro h;rw[Dy hB (by omega)];simp
theorem Ub{B n:Nat}(hB:2≤B):(ds B n).length=0↔n=0:=by have:=Ko (n:=n) hB;omega
theorem blen32{N:Nat}(h:0<(ds b32 N).length):Zg N=32*((ds b32 N).length-1)+Zg ((ds b32 N)[(ds b32 N).length-1])∧(ds b32 N)[(ds b32 N).length-1]<b32:=by
 have hN:0<N:=(Ko two32).mp h;obtain⟨k,hk⟩: ∃k,k=(ds b32 N).length-1:=⟨_,rfl⟩;have hlt:k<(ds b32 N).length:=by omega
 have e:=Cr b32 (ds b32 N) k (by omega);rw[Xy two32,List.drop_eq_getElem_cons hlt,List.drop_eq_nil_of_le (by omega)]at e;simp only[dv,Nat.mul_zero,Nat.add_zero]at e;have hl:=Vz ((Xg two32 N).take k);rw[List.length_take,Nat.min_eq_left (by omega)]at hl;have hd:(ds b32 N)[k]<b32:=(Xg two32 N).get (List.getElem?_eq_getElem hlt);have hge:=ds_ge two32 (n:=N) (by omega);rw[←hk]at hge;have hp:b32^k=2^(32*k):=by rw[Nat.pow_mul]
 rw[hp]at hge e hl;have e2:(ds b32 N)[(ds b32 N).length-1]=(ds b32 N)[k]:=by simp only[hk]
 rw[e2,←hk];refine⟨?_,hd⟩;have hs:=Ep hge;have hq:N/2^(32*k)=(ds b32 N)[k]:=by generalize(ds b32 N)[k]=t at*;generalize dv b32 ((ds b32 N).take k)=u at*;rw[e,Nat.add_mul_div_left _ _ (Nat.two_pow_pos _),Nat.div_eq_of_lt hl,Nat.zero_add]
 rw[hq]at hs;exact hs
theorem blen_le32{x:Nat}(h:x<b32):Zg x≤32:=by
 rcases Nat.lt_or_ge 32 (Zg x)with h1|h1
 ·have h0:x≠0:=by rintro rfl;simp[Zg]at h1
  have a:=Uu h0;have b:2^32≤2^(Zg x-1):=Nat.pow_le_pow_right (by decide) (by omega);have hx:x<4294967296:=h;omega
 ·exact h1
theorem dig1{x:Nat}(h:x<B64):Dig B64 [x]:= .cons h (.nil _)
theorem dv1(x:Nat):dv B64 [x]=x:=by simp[dv]
theorem ds1{x:Nat}(h0:x≠0)(h:x<B64):ds B64 x=[x]:=by rw[Dy Ym h0,Nat.mod_eq_of_lt h,Nat.div_eq_of_lt h,Jm]
section
attribute [-simp] Int.natCast_add Int.natCast_mul Int.natCast_ediv Int.natCast_emod Int.natCast_pow
attribute [local simp] strip Yj LW' LR gW Yo Xi Ye Xj Yt Xh Zv Zw Zn Yv Xd Yp Yu Zm Xe Zj opd Qi Ys plain Yn Tr.get_set Qg Zu Xv Yg sameKind undef Zx Yw Xc Zs Qb Jw Yf parts Jp unV DW Xp Yc LX Yb
theorem Zg3(H:AH){t:TypeId}(ht:LT t)(x:Nat): ∃v N,Xx Tryz.prog H t 1 [(0,.int .u64 (x:Int))]=some (v,N)∧Keep H N∧Own H.n N v [x]:=⟨_,_,Zk4 H ht x,.new _ _ _,Own.new H [x]⟩
theorem refLen_spec{H:AH}{v:Value}{N:Nat}(h:Sl H v (ds b32 N))(hl:(ds b32 N).length≤2*Lim):CW Tryz.prog Zl 23 [v] H fun v' H'=>H'=H∧v'= .int .i64 (Zg N:Int):=by
 refine Zf 25 (by decide) (by decide) Tryz.func23 rfl rfl ?_;have l1:=h.len Qb;obtain⟨L,hL⟩: ∃L,L=(ds b32 N).length:=⟨_,rfl⟩;rw[←hL]at l1;have hl:L≤4000000000000:=by rw[hL];exact hl
 apply Zb;intro b1 hb1;apply Za;simp;subst hb1;apply Zb;intro b1 hb1;apply Zb;intro b2 hb2;apply Za;simp[l1,Vw];subst hb2;by_cases h0:L=0
 ·refine Zc (t:=true) (by simp[h0]) ?_;apply Zb;intro b2 hb2;apply Za;simp;subst hb2;apply Zi;have:N=0:=by rw[h0]at hL;exact(Ub two32).mp hL.symm
  subst this;simp[Xb,Zg]
 ·refine Zc (t:=false) (by simp[h0]) ?_;apply Zh;subst hb1;obtain⟨e,hd⟩:=blen32 (N:=N) (by omega);have a1:=h.adr Qb (k:= .i64) (i:=(ds b32 N).length-1) (by omega);have d1:=h.load (i:=(ds b32 N).length-1) (by omega);obtain⟨x,hx⟩: ∃x,x=(ds b32 N)[(ds b32 N).length-1]'(by omega):=⟨_,rfl⟩;rw[←hx]at d1 hd e;rw[←hL]at a1 d1 e;have hx32:=blen_le32 hd;have s1:Zd .sub .i64 (L:Int) 1=some (.int .i64 ((L-1:Nat):Int)):=Fe (by omega) (by omega);have s2:Zd .mul .i64 32 ((L-1:Nat):Int)=some (.int .i64 ((32*(L-1):Nat):Int)):=mul32_i64 (by omega);apply Zb;intro b1 hb1;apply Za;simp[l1,s1,s2];subst hb1;apply Zb;intro b1 hb1;apply Zb;intro b2 hb2;apply Za;simp[l1,s1,a1,d1];subst hb2;apply Zp;refine Xt (fun y s'=>s'.k=25∧s'.H=H∧y<b32∧ ∃n:Nat,n+Zg y=Zg N∧s'.tm.get 3=some (.int .i64 (n:Int))∧s'.tm.get 4=some (.int .u64 (y:Int))) ?_ x _ ⟨rfl,rfl,hd,32*(L-1),e.symm,by simp,by simp⟩;rintro y ⟨k,tm,H2⟩ ⟨hk,hH,hy,n,hn,t3,t4⟩ Q' hQ';simp only at hk hH t3 t4;subst hk;subst hH;apply Zb;intro b3 hb3;apply Zb;intro b4 hb4;apply Za;simp[t4,gtr0];subst hb4;by_cases hy0:0<y;·refine Zc (t:=true) (by simp[hy0]) ?_;apply Zh;subst hb3;have hbh:=blen_half hy0;apply Zb;intro b3 hb3;apply Zp;apply Za;simp[t3,Xq (x:=n) (by omega)];subst hb3;apply Za;simp[t4,quo2 (b32_lt hy)];apply hQ';exact⟨y/2,Nat.div_lt_self hy0 (by decide),rfl,rfl,Nat.lt_of_le_of_lt (Nat.div_le_self y 2) hy,n+1,by omega,by simp,by simp⟩
  ·refine Zc (t:=false) (by simp[hy0]) ?_;apply Xu;apply hQ';left;refine⟨rfl,?_⟩;obtain rfl:y=0:=by omega
   have hn':n=Zg N:=by rw[←hn];rfl
   subst hb1;apply Zb;intro b4 hb4;apply Za;simp[t3];subst hb4;apply Zi;simp[hn']
theorem Dr{H:AH}{v:Value}{N:Nat}(h:Sl H v (ds b32 N))(hl:(ds b32 N).length≤2*Lim):Zo Tryz.prog Zl 23 [v] H=some (.int .i64 (Zg N:Int),H):=by obtain⟨_,_,hc,rfl,rfl⟩:=refLen_spec h hl;exact hc
theorem Zh4{H:AH}{v:Value}{N:Nat}(h:Sl H v (ds b32 N)):Zo Tryz.prog Zl 19 [v] H=some (.bool (decide (N=0)),H):=by obtain⟨_,_,hc,rfl,rfl⟩:=zero_spec h;rw[hc];congr 3;exact decide_eq_decide.mpr (Ub two32)
theorem Ze3{H:AH}{va vb:Value}{A B:Nat}(ha:Sl H va (ds b32 A))(hb:Sl H vb (ds b32 B))(lA:(ds b32 A).length≤2*Lim)(lB:(ds b32 B).length≤2*Lim)(hB:0<B): ∃q r H',Zo Tryz.prog Zl 64 [va,vb] H=some (.tuple #[q,r],H')∧Keep H H'∧Own H.n H' q (ds b32 (A/B))∧Own H.n H' r (ds b32 (A%B)):=by obtain⟨v,H',hc,k,q,r,e,o1,o2⟩:=refDiv_spec ha hb (Xg two32 A) (Xg two32 B) (Dc two32 B) (Nat.le_trans lA (by decide)) (Nat.le_trans lB (by decide)) (by rw[Xy two32];exact hB);subst e;rw[Xy two32,Xy two32]at o1 o2;exact⟨q,r,H',hc,k,o1,o2⟩
section
variable {H : AH} {va vb : Value} {A B : Nat}
theorem refGcd_spec(ha:Sl H va (ds b32 A))(hb:Sl H vb (ds b32 B))(lA:(ds b32 A).length≤2*Lim)(lB:(ds b32 B).length≤2*Lim):CW Tryz.prog Zl 63 [va,vb] H fun v H'=>Keep H H'∧Sl H' v (ds b32 (Nat.gcd A B)):=by
 refine Zf 19 (by decide) (by decide) Tryz.func63 rfl rfl ?_;apply Zb;intro b1 hb1;apply Za;simp;subst hb1;apply Zb;intro b1 hb1;apply Zp;refine Xt (fun m s'=>s'.k=19∧Keep H s'.H∧ ∃(a:Nat) (av bv:Value),Nat.gcd a m=Nat.gcd A B∧(ds b32 a).length≤2*Lim∧(ds b32 m).length≤2*Lim∧Sl s'.H av (ds b32 a)∧Sl s'.H bv (ds b32 m)∧s'.tm.get 0=some av∧s'.tm.get 1=some bv) ?_ B _ ⟨rfl,.refl H,A,va,vb,rfl,lA,lB,ha,hb,by simp,by simp⟩;rintro m ⟨k,tm,H3⟩ ⟨hk,k3,a,av,bv,hg,la,lm,oa,ob,t0,t1⟩ Q' hQ';simp only at hk k3 oa ob t0 t1;subst hk;have z:=Zh4 ob;apply Zb;intro b3 hb3;apply Zb;intro b4 hb4;apply Za;simp[t1,z];subst hb4;by_cases hm:m=0;·refine Zc (t:=false) (by simp[hm]) ?_;apply Xu;apply hQ';left;refine⟨rfl,?_⟩;subst hm;rw[Nat.gcd_zero_right]at hg;subst hb1;apply Zb;intro b4 hb4;apply Za;simp[t0];subst hb4;apply Zi;simp;rw[←hg];exact⟨k3,oa⟩
 ·refine Zc (t:=true) (by simp[hm]) ?_;apply Zh;subst hb3;obtain⟨q,r,H4,c4,k4,oq,orr⟩:=Ze3 oa ob la lm (by omega);apply Zp;apply Zb;intro b3 hb3;apply Za;simp[t0,t1,c4];subst hb3;apply Za;simp[t1];apply hQ';refine⟨a%m,Nat.mod_lt _ (by omega),rfl,k3.trans k4,m,bv,r,?_,lm,Nat.le_trans (Fv two32 (Nat.mod_le a m)) la,ob.keep k4,orr.sl,by simp,by simp⟩;rw[←hg,Nat.gcd_comm a m,Nat.gcd_rec m a,Nat.gcd_comm]
theorem of_call{H:AH}{v:Value}{xs:List Nat}(h:Sl H v xs)(dx:Dig B64 xs)(hl:xs.length≤Lim): ∃v' H',Zo Tryz.prog Zl 17 [v] H=some (v',H')∧Keep H H'∧Own H.n H' v' (ds b32 (dv B64 xs))∧(ds b32 (dv B64 xs)).length≤2*Lim:=by
 obtain⟨v',H',hc,k,o⟩:=of_spec h dx (Nat.le_trans hl (by decide));refine⟨v',H',hc,k,o,?_⟩;have h1:dv B64 xs<b32^(2*xs.length):=by have:=Vz (Zl7 dx);rwa[Zq7,Za3]at this
 have:=Vm two32 h1;have hl:xs.length≤2000000000000:=hl;show _≤2*2000000000000;omega
end
end
inductive RT where|node(op:Int)(neg:Bool)(N D:Nat)(bad:Bool)(args:List RT)
mutual def RT.nodes:RT→Nat| .node _ _ _ _ _ args=>1+Ql args def Ql:List RT→Nat|[]=>0|t::ts=>t.nodes+Ql ts end
mutual def RT.depth:RT→Nat| .node _ _ _ _ _ args=>Qu args+1 def Qu:List RT→Nat|[]=>0|t::ts=>max t.depth (Qu ts) end
def rgood(op:Int)(bad:Bool)(n:Nat):Bool:=!bad&&decide (0≤op∧op<16∧n=arity op.toNat)
mutual def RT.right:RT→Bool| .node op _ _ _ bad args=>rgood op bad args.length&&Vp args def Vp:List RT→Bool|[]=>true|t::ts=>t.right&&Vp ts end
mutual def RT.fit:RT→Prop| .node _ _ N D _ args=>Zg N≤67108864∧Zg D≤67108864∧rfitAll args def rfitAll:List RT→Prop|[]=>True|t::ts=>t.fit∧rfitAll ts end
def Yl(neg:Bool)(n d:Nat):Bool×Nat×Nat:=if n=0 then(false,0,1)else(neg,n/Nat.gcd n d,d/Nat.gcd n d)
def Ug(op:Int)(neg:Bool)(abs den:List Nat):(Bool×Nat×Nat)×Bool:=if op=0 then(if dv B64 den=0 then((false,0,0),true)else(Yl neg (dv B64 abs) (dv B64 den),false))else((false,0,0),neg||decide (0<abs.length)||decide (0<den.length))
mutual def ET.ref:ET→RT| .node op neg abs den args=> .node op (Ug op neg abs den).1.1 (Ug op neg abs den).1.2.1 (Ug op neg abs den).1.2.2 (Ug op neg abs den).2 (Uj args) def Uj:List ET→List RT|[]=>[]|t::ts=>t.ref::Uj ts end
theorem Zc3(l:List ET):Uj l=l.map ET.ref:=by induction l with|nil=>rfl|cons x xs ih=>simp[Uj,ih]
theorem Zk8(l:List ET):(Uj l).length=l.length:=by rw[Zc3];simp
theorem Aq(xs ys:List RT):Ql (xs++ys)=Ql xs+Ql ys:=by induction xs with|nil=>simp[Ql]|cons x xs ih=>simp[Ql,ih,Nat.add_assoc]
theorem Zr9(xs ys:List RT):Qu (xs++ys)=max (Qu xs) (Qu ys):=by induction xs with|nil=>simp[Qu]|cons x xs ih=>simp[Qu,ih,Nat.max_assoc]
theorem As(xs ys:List RT):Vp (xs++ys)=(Vp xs&&Vp ys):=by induction xs with|nil=>simp[Vp]|cons x xs ih=>simp[Vp,ih,Bool.and_assoc]
theorem Db(t:RT):0<t.nodes:=by cases t;simp only[RT.nodes];omega
theorem Dh{xs:List RT}{i:Nat}{t:RT}(hi:xs[i]?=some t):t.nodes≤Ql xs:=by induction xs generalizing i with
 |nil=>simp at hi
 |cons x xs ih=>cases i with|zero=>simp at hi;subst hi;simp[Ql]|succ i=>simp at hi;have:=ih hi;simp only[Ql];omega
theorem rfitAll_get{xs:List RT}(h:rfitAll xs){i:Nat}{t:RT}(hi:xs[i]?=some t):t.fit:=by induction xs generalizing i with
 |nil=>simp at hi
 |cons x xs ih=>cases i with|zero=>simp at hi;subst hi;exact h.1|succ i=>simp at hi;exact ih h.2 hi
theorem Ai(xs:List RT):xs.length≤Ql xs:=by induction xs with|nil=>simp|cons x xs ih=>have:=Db x;simp only[Ql,List.length_cons];omega
theorem Zu5: ∀n(t:RT),t.nodes≤n→t.depth≤t.nodes:=by intro n;induction n with
 |zero=>intro t h;have:=Db t;omega
 |succ n ih=>
  intro t h;obtain⟨op,neg,N,D,bad,args⟩:=t;simp only[RT.nodes]at h;simp only[RT.nodes,RT.depth];have key: ∀l:List RT,Ql l≤n→Qu l≤Ql l:=by intro l;induction l with|nil=>intro _;simp[Qu]|cons x xs ihl=>intro hl;simp only[Ql]at hl;simp only[Qu,Ql];have h1:=ih x (by omega);have h2:=ihl (by omega);omega
  have:=key args (by omega);omega
theorem Zr1: ∀n(t:ET),t.nodes≤n→t.ref.nodes=t.nodes:=by intro n;induction n with
 |zero=>intro t h;have:=Je t;omega
 |succ n ih=>
  intro t h;obtain⟨op,neg,abs,den,args⟩:=t;simp only[ET.nodes]at h;simp only[ET.ref,RT.nodes,ET.nodes];have key: ∀l:List ET,Yx l≤n→Ql (Uj l)=Yx l:=by intro l;induction l with|nil=>intro _;rfl|cons x xs ihl=>intro hl;simp only[Yx]at hl;simp only[Uj,Ql,Yx];rw[ih x (by omega),ihl (by omega)]
  rw[key args (by omega)]
theorem ref_depth: ∀n(t:ET),t.nodes≤n→t.ref.depth=t.depth:=by intro n;induction n with
 |zero=>intro t h;have:=Je t;omega
 |succ n ih=>
  intro t h;obtain⟨op,neg,abs,den,args⟩:=t;simp only[ET.nodes]at h;simp only[ET.ref,RT.depth,ET.depth];have key: ∀l:List ET,Yx l≤n→(l=[]∧Qu (Uj l)=0∧Vh l=0)∨Vh l=Qu (Uj l)+1:=by intro l;induction l with
   |nil=>intro _;exact .inl ⟨rfl,rfl,rfl⟩
   |cons x xs ihl=>
    intro hl;simp only[Yx]at hl;simp only[Uj,Qu,Vh];rw[ih x (by omega)];rcases ihl (by omega)with⟨_,h1,h2⟩|h1;·right;rw[h1,h2];omega
    ·right;rw[h1];omega
  rcases key args (by omega)with⟨_,h1,h2⟩|h1;·rw[h1,h2];omega
  ·rw[h1];omega
theorem ref_right: ∀n(t:ET),t.nodes≤n→t.ref.right=t.allGood:=by intro n;induction n with
 |zero=>intro t h;have:=Je t;omega
 |succ n ih=>
  intro t h;obtain⟨op,neg,abs,den,args⟩:=t;simp only[ET.nodes]at h;simp only[ET.ref,RT.right,ET.allGood,ET.good,rgood,Zk8];have key: ∀l:List ET,Yx l≤n→Vp (Uj l)=Uf l:=by intro l;induction l with|nil=>intro _;rfl|cons x xs ihl=>intro hl;simp only[Yx]at hl;simp only[Uj,Vp,Uf];rw[ih x (by omega),ihl (by omega)]
  rw[key args (by omega)];congr 1;rw[Bool.and_comm];congr 1;unfold Ug;split
  ·split;·rename_i h;rw[h];rfl
   ·rename_i h;show true=_;exact(decide_eq_true (by omega)).symm
  ·cases neg<;>cases abs<;>cases den<;>simp
theorem refNum_le(neg:Bool)(n d:Nat)(hd:0<d):(Yl neg n d).2.1≤n∧(Yl neg n d).2.2≤d:=by
 unfold Yl;split;·exact⟨Nat.zero_le _,hd⟩
 ·exact⟨Nat.div_le_self _ _,Nat.div_le_self _ _⟩
theorem Yd{n m:Nat}(h:n≤m):Zg n≤Zg m:=by
 rcases Nat.eq_zero_or_pos n with h0|h0;·subst h0;exact Nat.zero_le _
 ·have h1:=Uu (n:=n) (by omega);have h2:=Uo m;have:=(Nat.pow_lt_pow_iff_right (a:=2) (by decide)).mp (Nat.lt_of_le_of_lt (Nat.le_trans h1 h) h2);omega
theorem ref_fit: ∀n(t:ET),t.nodes≤n→t.wide 1048576→t.ref.fit:=by intro n;induction n with
 |zero=>intro t h;have:=Je t;omega
 |succ n ih=>
  intro t h hw;obtain⟨op,neg,abs,den,args⟩:=t;simp only[ET.nodes]at h;obtain⟨la,ld,da,dd,ws⟩:=hw;simp only[ET.ref,RT.fit];have key: ∀l:List ET,Yx l≤n→Zb4 1048576 l→rfitAll (Uj l):=by intro l;induction l with|nil=>intro _ _;trivial|cons x xs ihl=>intro hl hwl;simp only[Yx]at hl;exact⟨ih x (by omega) hwl.1,ihl (by omega) hwl.2⟩
  have h1:=Za4 da la;have h2:=Za4 dd ld;have h0:Zg 0=0:=rfl;refine⟨?_,?_,key args (by omega) ws⟩
  ·unfold Ug;split
   ·split;·show Zg 0≤_;omega
    ·exact Nat.le_trans (Yd (refNum_le _ _ _ (by omega)).1) (by omega)
   ·show Zg 0≤_;omega
  ·unfold Ug;split
   ·split;·show Zg 0≤_;omega
    ·exact Nat.le_trans (Yd (refNum_le _ _ _ (by omega)).2) (by omega)
   ·show Zg 0≤_;omega
def SlQ(Q:Nat→Prop)(H:AH)(v:Value)(xs:List Nat):Prop:=Sl H v xs∧ ∀c,Qj v=some c→Q c
def Agr(Q:Nat→Prop)(H H':AH):Prop:=H.n≤H'.n∧ ∀j,Q j→j<H.n→H'.blk j=H.blk j
theorem Sl.agr{Q:Nat→Prop}{H H':AH}{v:Value}{xs:List Nat}(h:Sl H v xs)(hq: ∀c,Qj v=some c→Q c)(k:Agr Q H H'):Sl H' v xs:=by cases h with|nil=>exact .nil|emp b=>exact .emp b|mk b o cap xs h1 h2=>obtain⟨h3,cs,h4,h5,h6⟩:=h2;have e:=k.2 b (hq b rfl) h3;exact .mk b o cap xs h1 ⟨Nat.lt_of_lt_of_le h3 k.1,cs,by unfold AH.cells;rw[e];exact h4,by unfold AH.size;rw[e];exact h5,h6⟩
mutual inductive Rx(Q:Nat→Prop)(H:AH):List Value→RT→Prop|mk{op:Int}{neg bad:Bool}{vn vd vx:Value}{N D:Nat}{args:List RT} :SlQ Q H vn (ds b32 N)→SlQ Q H vd (ds b32 D)→Rxs Q H vx args→Rx Q H [.int .i64 op,.bool neg,vn,vd,.bool bad,vx] (.node op neg N D bad args) inductive Rxs(Q:Nat→Prop)(H:AH):Value→List RT→Prop|nil:Rxs Q H (.slice none 0 0) []|mk(b cap:Nat){cs:List Value}{args:List RT} :Q b→b<H.n→H.blk b= .rw 6 cs→args.length≤cap→(∀(i:Nat)(t:RT),args[i]?=some t→Rx Q H ((cs.drop (i*6)).take 6) t)→Rxs Q H (.slice (some ⟨b,0,none⟩) args.length cap) args end
theorem rx_agr{Q Q':Nat→Prop}{H H':AH}(k:Agr Q H H')(hQ: ∀j,j<H.n→Q j→Q' j): ∀n(t:RT),t.nodes≤n→ ∀vs,Rx Q H vs t→Rx Q' H' vs t:=by intro n;induction n with
 |zero=>intro t h;have:=Db t;omega
 |succ n ih=>intro t h vs hx;cases hx with
  |mk h1 h2 h3=>simp only[RT.nodes]at h;refine .mk ⟨h1.1.agr h1.2 k,fun c hc=>hQ c (h1.1.blk_lt hc) (h1.2 c hc)⟩ ⟨h2.1.agr h2.2 k,fun c hc=>hQ c (h2.1.blk_lt hc) (h2.2 c hc)⟩ ?_;cases h3 with
   |nil=>exact .nil
   |mk b cap hq hb hc hl hf=>
    rename_i cs;refine .mk b cap (cs:=cs) (hQ b hb hq) (Nat.lt_of_lt_of_le hb k.1) ?_ hl fun i t hi=>?_;·rw[k.2 b hq hb];exact hc
    ·have:=Dh hi;exact ih t (by omega) _ (hf i t hi)
theorem Rx.agr{Q Q':Nat→Prop}{H H':AH}{vs:List Value}{t:RT}(h:Rx Q H vs t)(k:Agr Q H H')(hQ: ∀j,j<H.n→Q j→Q' j):Rx Q' H' vs t:=rx_agr k hQ _ t (Nat.le_refl _) vs h
theorem Keep.agr{H H':AH}(k:Keep H H')(Q:Nat→Prop):Agr Q H H':=⟨k.n,fun j _ hj=>k.blk j hj⟩
theorem Rx.keep{Q:Nat→Prop}{H H':AH}{vs:List Value}{t:RT}(h:Rx Q H vs t)(k:Keep H H'):Rx Q H' vs t:=h.agr (k.agr Q) fun _ _ h=>h
theorem Rx.len{Q:Nat→Prop}{H:AH}{vs:List Value}{t:RT}(h:Rx Q H vs t):vs.length=6:=by cases h;rfl
theorem Sl.one1{H:AH}{v:Value}{xs:List Nat}(h:Sl H v xs):one v=true:=by cases h<;>rfl
theorem Rxs.one1{Q:Nat→Prop}{H:AH}{v:Value}{l:List RT}(h:Rxs Q H v l):one v=true:=by cases h<;>rfl
theorem Rx.ones{Q:Nat→Prop}{H:AH}{vs:List Value}{t:RT}(h:Rx Q H vs t):vs.all one=true:=by cases h with|mk h1 h2 h3=>simp only[List.all_cons,List.all_nil,h1.1.one1,h2.1.one1,h3.one1,Bool.and_true];rfl
theorem aE:Jq Tryz.prog 68=some true:=by kernel_rfl
theorem sE:Jd Tryz.prog 68=some 6:=by kernel_rfl
theorem aEs:Jq Tryz.prog 66=some false:=by kernel_rfl
theorem aNum:Jq Tryz.prog 37=some false:=by kernel_rfl
theorem zE:Ks Tryz.prog 68=some (.agg #[.int .i64 0,.bool false,.slice none 0 0,.slice none 0 0,.bool false,.slice none 0 0]):=by kernel_rfl
theorem uEs:Tryz.prog.underlying 66=some (.slice 68):=by kernel_rfl
theorem sEs:Uq Tryz.prog 66=some (68,6,96):=by kernel_rfl
theorem Rxs.len{Q:Nat→Prop}{H:AH}{v:Value}{args:List RT}(h:Rxs Q H v args):lenV Tryz.prog 66 v=some args.length:=by unfold lenV;rw[uEs];cases h<;>rfl
theorem load_e{H:AH}{b o:Nat}{cs vs:List Value}(h:H.cells b=some cs)(hk:(cs.drop o).take 6=vs)(hl:vs.length=6):Yk Tryz.prog H 68 (.pointer (some ⟨b,o,none⟩))=some (.agg vs.toArray):=by
 unfold Yk;simp only[aE,sE,AH.read_def,h];have:o+6≤cs.length:=by have:=congrArg List.length hk;rw[List.length_take,List.length_drop,hl]at this;omega
 rw[Nat.ble_eq.mpr this,cond_true,hk]
theorem Rxs.at{Q:Nat→Prop}{H:AH}{v:Value}{args:List RT}(h:Rxs Q H v args){i:Nat}{t:RT}(hi:args[i]?=some t): ∃(p:Value) (vs:List Value),Yr Tryz.prog 66 v (.int .i64 (i:Int))=some p∧(∀H',Keep H H'→Yk Tryz.prog H' 68 p=some (.agg vs.toArray))∧Rx Q H vs t:=by
 have hlt:i<args.length:=by
  rcases Nat.lt_or_ge i args.length with h'|h';·exact h'
  ·rw[List.getElem?_eq_none h']at hi;cases hi
 cases h with
  |nil=>simp at hi
  |mk b cap hq hb hc hl hf=>
   rename_i cs;have hE:=hf i t hi;have hc':H.cells b=some cs:=by unfold AH.cells;rw[hc]
   refine⟨.pointer (some ⟨b,i*6,none⟩),_,?_,fun H' k=>load_e ((Kr k hb).trans hc') rfl hE.len,hE⟩;unfold Yr;simp only[uEs,sE];rw[if_pos (by omega)];simp
theorem feOp(b o:Nat):Xa Tryz.prog 68 (.pointer (some ⟨b,o,none⟩)) 0=some (.pointer (some ⟨b,o,none⟩)):=by kernel_rfl
theorem feNum(b o:Nat):Xa Tryz.prog 68 (.pointer (some ⟨b,o,none⟩)) 1=some (.pointer (some ⟨b,o+1,none⟩)):=by kernel_rfl
theorem feBad(b o:Nat):Xa Tryz.prog 68 (.pointer (some ⟨b,o,none⟩)) 2=some (.pointer (some ⟨b,o+4,none⟩)):=by kernel_rfl
theorem Za6(b o:Nat):Xa Tryz.prog 68 (.pointer (some ⟨b,o,none⟩)) 3=some (.pointer (some ⟨b,o+5,none⟩)):=by kernel_rfl
theorem feN(b o:Nat):Xa Tryz.prog 42 (.pointer (some ⟨b,o,none⟩)) 1=some (.pointer (some ⟨b,o+1,none⟩)):=by kernel_rfl
theorem feD(b o:Nat):Xa Tryz.prog 42 (.pointer (some ⟨b,o,none⟩)) 2=some (.pointer (some ⟨b,o+2,none⟩)):=by kernel_rfl
theorem Sl.shape{H:AH}{v:Value}{xs:List Nat}(h:Sl H v xs): ∃a l c,v= .slice a l c:=by cases h<;>exact⟨_,_,_,rfl⟩
theorem Own.shape{n:Nat}{H:AH}{v:Value}{xs:List Nat}(h:Own n H v xs): ∃a l c,v= .slice a l c:=h.sl.shape
theorem buildR1(a:Option Addr)(l c:Nat):Ui Tryz.prog 42 [(2,.slice a l c)]=some (.agg #[.bool false,.slice none 0 0,.slice a l c]):=by kernel_rfl
theorem buildR3(n:Bool)(a a':Option Addr)(l c l' c':Nat):Ui Tryz.prog 42 [(0,.bool n),(1,.slice a l c),(2,.slice a' l' c')]=some (.agg #[.bool n,.slice a l c,.slice a' l' c']):=by kernel_rfl
theorem zR:Ks Tryz.prog 42=some (.agg #[.bool false,.slice none 0 0,.slice none 0 0]):=by kernel_rfl
theorem sR:Jd Tryz.prog 42=some 3:=by kernel_rfl
theorem aR:Jq Tryz.prog 42=some true:=by kernel_rfl
theorem load_r{H:AH}{b o:Nat}{cs vs:List Value}(h:H.cells b=some cs)(hk:(cs.drop o).take 3=vs)(hl:vs.length=3):Yk Tryz.prog H 42 (.pointer (some ⟨b,o,none⟩))=some (.agg vs.toArray):=by
 unfold Yk;simp only[aR,sR,AH.read_def,h];have:o+3≤cs.length:=by have:=congrArg List.length hk;rw[List.length_take,List.length_drop,hl]at this;omega
 rw[Nat.ble_eq.mpr this,cond_true,hk]
theorem Gl{H:AH}{sz:Nat}{cs ws:List Value}{t:TypeId}{n b o:Nat}(ht:Jd Tryz.prog t=some n)(hb:H.blk b= .rw sz cs){v:Value}(hv:v.cells.toList=ws)(hw:ws.length=n)(ho:o+n≤cs.length)(h1:ws.all one=true)(hz0:sz≠0:=by decide): ∃H',Xk Tryz.prog H t (.pointer (some ⟨b,o,none⟩)) v=some H'∧H'.blk b= .rw sz (cs.take o++ws++cs.drop (o+n))∧H'.n=H.n∧(∀j,j≠b→H'.blk j=H.blk j)∧KAt b H H'∧H'.lw=min H.lw b:=by
 obtain⟨sz,rfl⟩: ∃k,sz=k+1:=⟨sz-1,by omega⟩;have hs:v.cells.size=n:=by rw[←hw,←hv];simp
 have hle:Nat.ble (o+n) cs.length=true:=Nat.ble_eq.mpr ho;refine⟨{ n:=H.n,lw:=min H.lw b,t:=H.t.set b (.rw (sz+1) (cs.take o++ws++cs.drop (o+n))) },?_,?_,rfl,fun j hj=>?_,fun H0 k hn=>⟨k.n,?_,fun j hj=>?_⟩,rfl⟩;·unfold Xk;simp only[ht,hs,hv];rw[show Nat.beq n n=true from by simp,cond_true,AH.write_def,hb];simp only[hw,hle,h1,Bool.and_self,cond_true]
 ·unfold AH.blk;simp only[Tr.get_set,if_true]
 ·unfold AH.blk;simp only[Tr.get_set];rw[if_neg hj]
 ·have:=k.lw;show min H0.lw H0.n≤min H.lw b;omega
 ·unfold AH.blk;simp only[Tr.get_set];rw[if_neg (by omega)];exact k.blk j hj
def Zk5(op:Int):Int:=if 0≤op∧op<16 then(arity op.toNat:Int)else-1
theorem arity_in(H:AH): ∀n:Nat,n<16→Zo Tryz.prog Zl 101 [.int .i64 (n:Int)] H=some (.int .i64 (arity n:Int),H):=by intro n hn;match n,hn with|0,_=>exact Vt 20 _ _ _ _ (by kernel_rfl)|1,_=>exact Vt 20 _ _ _ _ (by kernel_rfl)|2,_=>exact Vt 20 _ _ _ _ (by kernel_rfl)|3,_=>exact Vt 20 _ _ _ _ (by kernel_rfl)|4,_=>exact Vt 20 _ _ _ _ (by kernel_rfl)|5,_=>exact Vt 20 _ _ _ _ (by kernel_rfl)|6,_=>exact Vt 20 _ _ _ _ (by kernel_rfl)|7,_=>exact Vt 20 _ _ _ _ (by kernel_rfl)|8,_=>exact Vt 20 _ _ _ _ (by kernel_rfl)|9,_=>exact Vt 20 _ _ _ _ (by kernel_rfl)|10,_=>exact Vt 20 _ _ _ _ (by kernel_rfl)|11,_=>exact Vt 20 _ _ _ _ (by kernel_rfl)|12,_=>exact Vt 20 _ _ _ _ (by kernel_rfl)|13,_=>exact Vt 20 _ _ _ _ (by kernel_rfl)|14,_=>exact Vt 20 _ _ _ _ (by kernel_rfl)|15,_=>exact Vt 20 _ _ _ _ (by kernel_rfl)|n+16,h=>omega
section
attribute [-simp] Int.natCast_add Int.natCast_mul Int.natCast_ediv Int.natCast_emod Int.natCast_pow
attribute [local simp] strip Yj LW' LR gW Yo Xi Ye Xj Yt Xh Zv Zw Zn Yv Xd Yp Xo Zz Yu Zm Zj Xm Xn Jl Yi Xe opd Qi Ys plain Yn Tr.get_set Qg Zu Xv Yg sameKind undef Zx Yw Xc Zs Yf parts unV DW Xp Yc LX Yb
section
variable {H : AH} {va vb vm : Value}
theorem arity_call(op:Int):Zo Tryz.prog Zl 101 [.int .i64 op] H=some (.int .i64 (Zk5 op),H):=by
 unfold Zk5;split;·rename_i h;have:=arity_in H op.toNat (by omega);rwa[Int.toNat_of_nonneg h.1]at this
 ·rename_i h;suffices hs:CW Tryz.prog Zl 101 [.int .i64 op] H fun v H'=>v= .int .i64 (-1)∧H'=H by obtain⟨_,_,hc,rfl,rfl⟩:=hs;exact hc
  refine Zf 36 (by decide) (by decide) Tryz.func101 rfl rfl ?_;have f1:Zd .lss .i64 op 0=some (.bool (decide (op<0))):=rfl;have f2:Zd .gtr .i64 op 15=some (.bool (decide (op>15))):=rfl;apply Zb;intro b1 hb1;apply Za;simp;subst hb1;apply Zb;intro b1 hb1;apply Zp;apply Zb;intro b2 hb2;apply Za;by_cases h0:op<0;·rw[decide_eq_true h0]at f1;simp[f1];subst hb2;refine Zc (t:=true) (by simp) ?_;apply Zb;intro b1 hb1;apply Za;simp;subst hb1;apply Zi;simp[Xb,Yq]
  ·rw[decide_eq_false h0]at f1;rw[decide_eq_true (show op>15 by omega)]at f2;simp[f1,f2];subst hb2;refine Zc (t:=true) (by simp) ?_;apply Zb;intro b1 hb1;apply Za;simp;subst hb1;apply Zi;simp[Xb,Yq]
theorem Bw(x:Nat)(hx:x<B64): ∃v H',Zo Tryz.prog Zl 62 [.int .i64 (x:Int)] H=some (v,H')∧Keep H H'∧Own H.n H' v (ds b32 x)∧(ds b32 x).length≤2*Lim:=by
 obtain⟨v1,H1,c1,k1,o1⟩:=Zg3 H Jw x;obtain⟨v2,H2,c2,k2,o2,l2⟩:=of_call o1.sl (dig1 hx) (show 1≤2000000000000 by decide);rw[dv1]at o2 l2;suffices hs:CW Tryz.prog Zl 62 [.int .i64 (x:Int)] H fun v H'=>v=v2∧H'=H2 by obtain⟨_,_,hc,rfl,rfl⟩:=hs;exact⟨_,_,hc,k1.trans k2,o2.mono k1.n (.refl _),l2⟩
 refine Zf 7 (by decide) (by decide) Tryz.func62 rfl rfl ?_;apply Zb;intro b1 hb1;apply Za;simp;subst hb1;apply Zb;intro b1 hb1;apply Za;simp[Zi7 hx,c1,c2];subst hb1;apply Zi;simp
def OwnR(n:Nat)(H:AH)(us:List Value)(r:Bool×Nat×Nat):Prop:= ∃a b,us=[.bool r.1,a,b]∧Own n H a (ds b32 r.2.1)∧Own n H b (ds b32 r.2.2)
theorem Zi0{vn vd:Value}{N D:Nat}(neg:Bool)(hn:Sl H vn (ds b32 N))(hd:Sl H vd (ds b32 D))(lN:(ds b32 N).length≤2*Lim)(lD:(ds b32 D).length≤2*Lim)(h0:0<D): ∃us H',Zo Tryz.prog Zl 22 [.bool neg,vn,vd] H=some (.agg us.toArray,H')∧Keep H H'∧OwnR H.n H' us (Yl neg N D):=by
 suffices hs:CW Tryz.prog Zl 22 [.bool neg,vn,vd] H fun v H'=> ∃us:List Value,v= .agg us.toArray∧Keep H H'∧OwnR H.n H' us (Yl neg N D) by obtain⟨_,H',hc,us,rfl,h⟩:=hs;exact⟨us,H',hc,h⟩
 obtain⟨r,hr⟩: ∃r,r=Yl neg N D:=⟨_,rfl⟩;rw[←hr];unfold Yl at hr;refine Zf 31 (by decide) (by decide) Tryz.func22 rfl rfl ?_;have kB:=Keep.new H 1 [.bool false,.slice none 0 0,.slice none 0 0];have bB:(H.new 1 [.bool false,.slice none 0 0,.slice none 0 0]).blk H.n= .rw 1 [.bool false,.slice none 0 0,.slice none 0 0]:=by rw[AH.blk_new,if_pos rfl]
 have nB:(H.new 1 [.bool false,.slice none 0 0,.slice none 0 0]).n=H.n+1:=rfl;obtain⟨HB,hHB⟩: ∃HB,HB=H.new 1 [.bool false,.slice none 0 0,.slice none 0 0]:=⟨_,rfl⟩;rw[←hHB]at kB bB nB;have z:=Zh4 (hn.keep kB);apply Zb;intro b1 hb1;apply Za;simp[zR,Value.cells,←hHB];subst hb1;apply Zb;intro b1 hb1;apply Zb;intro b2 hb2;apply Za;simp[z];subst hb2;by_cases hN:N=0;·refine Zc (t:=true) (by simp[hN]) ?_;rw[if_pos hN]at hr;obtain⟨v1,H1,c1,k1,o1,_⟩:=Bw (H:=HB) 1 (by decide);obtain⟨x,l,c,rfl⟩:=o1.shape;obtain⟨H2,st,blk,n2,oth,ka,_⟩:=Gl (H:=H1) (b:=H.n) (cs:=[.bool false,.slice none 0 0,.slice none 0 0]) (sz:=1) (o:=0) sR (by rw[k1.blk _ (by omega)];exact bB) (v:= .agg #[.bool false,.slice none 0 0,.slice x l c]) (ws:=[.bool false,.slice none 0 0,.slice x l c]) rfl rfl (by simp) rfl;have c1:Zo Tryz.prog Zl 62 [.int .i64 1] HB=some (.slice x l c,H1):=c1;apply Zb;intro b1 hb1;apply Za;simp[c1,buildR1,st];subst hb1;apply Zi;have ld:Yk Tryz.prog H2 42 (.pointer (some ⟨H.n,0,none⟩))=some (.agg #[.bool false,.slice none 0 0,.slice x l c]):=load_r (vs:=[.bool false,.slice none 0 0,.slice x l c]) (by unfold AH.cells;rw[blk]) rfl rfl;simp[Xb,ld];refine⟨ka H (kB.trans k1) (Nat.le_refl _),_,_,by rw[hr],by rw[hr,Jm];exact .nil,?_⟩;rw[hr];exact(o1.mono (m:=H.n) (by omega) (.refl _)).but (b:=some H.n) ⟨n2,fun j _ hj=>oth j (fun e=>hj (by rw[e]))⟩ fun c' e h=>by cases e;have:=o1.blk_lo h;omega
 ·refine Zc (t:=false) (by simp[hN]) ?_;rw[if_neg hN]at hr;apply Zh;subst hb1;obtain⟨_,H1,c1,k1,s1⟩:=refGcd_spec (hn.keep kB) (hd.keep kB) lN lD;obtain⟨g,hg⟩: ∃g,g=Nat.gcd N D:=⟨_,rfl⟩;rw[←hg]at s1 hr;have g0:0<g:=by rw[hg];exact Nat.gcd_pos_of_pos_right _ h0
  have gl:(ds b32 g).length≤2*Lim:=Nat.le_trans (Fv two32 (by rw[hg];exact Nat.le_of_dvd h0 (Nat.gcd_dvd_right N D))) lD;obtain⟨q1,r1,H2,c2,k2,o2,_⟩:=Ze3 (hn.keep (kB.trans k1)) s1 lN gl g0;obtain⟨q2,r2,H3,c3,k3,o3,_⟩:=Ze3 (hd.keep ((kB.trans k1).trans k2)) (s1.keep k2) lD gl g0;have n1:=k1.n;have n2:=k2.n;obtain⟨x,l,c,rfl⟩:=o2.shape;obtain⟨x',l',c',rfl⟩:=o3.shape;obtain⟨H4,st,blk,n4,oth,ka,_⟩:=Gl (H:=H3) (b:=H.n) (cs:=[.bool false,.slice none 0 0,.slice none 0 0]) (sz:=1) (o:=0) sR (by rw[k3.blk _ (by omega),k2.blk _ (by omega),k1.blk _ (by omega)];exact bB) (v:= .agg #[.bool neg,.slice x l c,.slice x' l' c']) (ws:=[.bool neg,.slice x l c,.slice x' l' c']) rfl rfl (by simp) rfl;apply Zb;intro b1 hb1;apply Za;simp[c1];subst hb1;apply Zb;intro b1 hb1;apply Za;simp[c2];subst hb1;apply Zb;intro b1 hb1;apply Za;simp[c3];subst hb1;apply Zb;intro b1 hb1;apply Za;simp[buildR3,st];subst hb1;apply Zi;have ld:Yk Tryz.prog H4 42 (.pointer (some ⟨H.n,0,none⟩))=some (.agg #[.bool neg,.slice x l c,.slice x' l' c']):=load_r (vs:=[.bool neg,.slice x l c,.slice x' l' c']) (by unfold AH.cells;rw[blk]) rfl rfl;simp[ld];have bt:But (some H.n) H3 H4:=⟨n4,fun j _ hj=>oth j (fun e=>hj (by rw[e]))⟩;refine⟨ka H (((kB.trans k1).trans k2).trans k3) (Nat.le_refl _),_,_,by rw[hr],?_,?_⟩;·rw[hr];exact(o2.mono (m:=H.n) (by omega) k3).but bt fun c' e h=>by cases e;have:=o2.blk_lo h;omega
  ·rw[hr];exact(o3.mono (m:=H.n) (by omega) (.refl _)).but bt fun c' e h=>by cases e;have:=o3.blk_lo h;omega
end
end
theorem Zr7{Q:Nat→Prop}{H0 H:AH}{vx:Value}{args:List RT}(h3:Rxs Q H0 vx args)(k:Keep H0 H){i:Nat}{x:RT}(hx:args[i]?=some x): ∃(p:Value) (us:List Value) (H5:AH),Yr Tryz.prog 66 vx (.int .i64 (i:Int))=some p∧Yk Tryz.prog H 68 p=some (.agg us.toArray)∧Xk Tryz.prog (H.new 1 [.int .i64 0,.bool false,.slice none 0 0,.slice none 0 0,.bool false,.slice none 0 0]) 68 (.pointer (some ⟨H.n,0,none⟩)) (.agg us.toArray)=some H5∧Keep H H5∧Yk Tryz.prog H5 68 (.pointer (some ⟨H.n,0,none⟩))=some (.agg us.toArray)∧Rx Q H5 us x:=by obtain⟨p,us,e1,e2,e3⟩:=h3.at hx;obtain⟨H5,st5,k5,blk5,n5⟩:=Qv (H:=H) (sz:=1) (zs:=[.int .i64 0,.bool false,.slice none 0 0,.slice none 0 0,.bool false,.slice none 0 0]) sE rfl (v:= .agg us.toArray) (ws:=us) (by simp[Value.cells]) e3.len e3.ones;refine⟨p,us,H5,e1,e2 _ k,st5,k5,load_e (o:=0) (cs:=us) (by unfold AH.cells;rw[blk5]) (by rw[List.drop_zero,List.take_of_length_le (by rw[e3.len];omega)]) e3.len,e3.keep (k.trans k5)⟩
theorem Zb1{α:Type}{l:List α}{i:Nat}{x:α}(hx:l[i]?=some x):l.take (i+1)=l.take i++[x]:=by rw[List.take_add_one,hx];rfl
theorem gtrN{k:IntKind}{x y:Nat} :Zd .gtr k (x:Int) (y:Int)=some (.bool (decide (y<x))):=gtrC rfl
theorem Bh{x y:Int} :Zd .neq .i64 x y=some (.bool (decide (x≠y))):=by
 show some (Value.bool (x !=y))=_;congr 2;by_cases h:x=y;·subst h;simp
 ·rw[decide_eq_true h];simp[bne];omega
section
attribute [-simp] Int.natCast_add Int.natCast_mul Int.natCast_ediv Int.natCast_emod Int.natCast_pow
attribute [local simp] strip Yj LW' LR gW Yo Xi Ye Xj Yt Xh Zv Zw Zn Yv Xd Yp Xo Zz Yu Zm Zj Xm Xn Jl Yi Xe opd Qi Ys plain Yn Tr.get_set Qg Zu Xv Yg sameKind undef Zx Yw Xc Zs Yf parts unV DW Xp Yc LX Yb
section
variable {Q : Nat → Prop}
theorem rnodes_ok: ∀n(t:RT),t.nodes≤n→ ∀(H:AH)(vs:List Value),Rx Q H vs t→t.nodes≤1000000000→CW Tryz.prog Zl 102 [.agg vs.toArray] H (fun v H'=>v= .int .i64 (t.nodes:Int)∧Keep H H'):=by intro n;induction n with
 |zero=>intro t h;have:=Db t;omega
 |succ n ih=>intro t ht H vs hE hb;obtain⟨op,neg,N,D,bad,args⟩:=t;cases hE with
  |@mk _ _ _ vn vd vx _ _ _ h1 h2 h3=>
   simp only[RT.nodes]at ht hb⊢;refine Zf 19 (by decide) (by decide) Tryz.func102 rfl rfl ?_;have kB:=Keep.new H 1 [.int .i64 op,.bool neg,vn,vd,.bool bad,vx];have cB:=Kt H 1 [.int .i64 op,.bool neg,vn,vd,.bool bad,vx];obtain⟨HB,hHB⟩: ∃HB,HB=H.new 1 [.int .i64 op,.bool neg,vn,vd,.bool bad,vx]:=⟨_,rfl⟩;rw[←hHB]at kB cB;have l5:=Yh aEs (o:=5) cB rfl;have lx:=h3.len;obtain⟨m0,hm0⟩: ∃m0,m0=args.length:=⟨_,rfl⟩;have la:=Ai args;rw[←hm0]at lx la;apply Zb;intro b1 hb1;apply Za;simp[Value.cells,←hHB];subst hb1;apply Zb;intro b1 hb1;apply Za;simp;subst hb1;apply Zb;intro b1 hb1;apply Zb;intro b2 hb2;apply Za;simp[Za6,l5,lx];subst hb2;apply Zp;refine Xt (fun m s'=>s'.k=19∧Keep HB s'.H∧ ∃i:Nat,m+i=m0∧s'.tm.get 3=some (.int .i64 ((1+Ql (args.take i):Nat):Int))∧s'.tm.get 7=some vx∧s'.tm.get 8=some (.int .i64 (m0:Int))∧s'.tm.get 9=some (.int .i64 (i:Int))) ?_ m0 _ ⟨rfl,.refl HB,0,by omega,by simp[Ql],by simp,by simp,by simp⟩;rintro m ⟨k,tm,H4⟩ ⟨hk,kH,i,hmi,t3,t7,t8,t9⟩ Q' hQ';simp only at hk kH t3 t7 t8 t9;subst hk;apply Zb;intro b3 hb3;apply Za;simp[t8,t9,lssN];subst hb3;apply Zb;intro b3 hb3;by_cases hi:i<m0
   ·refine Zc (t:=true) (by simp[hi]) ?_;apply Zh;subst hb3;obtain⟨x,hx⟩: ∃x,args[i]?=some x:=⟨_,List.getElem?_eq_getElem (by omega)⟩;have hsum:Ql (args.take (i+1))=Ql (args.take i)+x.nodes:=by rw[Zb1 hx,Aq];simp[Ql]
    have hle:Ql (args.take (i+1))≤Ql args:=by have:=Aq (args.take (i+1)) (args.drop (i+1));rw[List.take_append_drop]at this;omega
    obtain⟨p,us,H5,e1,e2,e3,k5,e5,r5⟩:=Zr7 h3 (kB.trans kH) hx;have hxn:=Dh hx;obtain⟨_,H6,c6,rfl,k6⟩:=ih x (by omega) H5 us r5 (by omega);apply Zb;intro b3 hb3;apply Zp;apply Zb;intro b4 hb4;apply Za;simp[t7,t9,e1,e2,zE,Value.cells,e3];subst hb4;apply Za;simp[t3,e5,c6,addN (x:=1+Ql (args.take i)) (y:=x.nodes) (by omega)];subst hb3;apply Za;simp[t9,Eg (x:=i) (by omega)];apply hQ';refine⟨m-1,by omega,rfl,(kH.trans k5).trans k6,i+1,by omega,?_,by simp[t7],by simp[t8],by simp⟩;simp;rw[hsum,Nat.add_assoc]
   ·refine Zc (t:=false) (by simp[hi]) ?_;apply Xu;apply hQ';left;refine⟨rfl,?_⟩;obtain rfl:i=m0:=by omega
    rw[List.take_of_length_le (by omega)]at t3;subst hb1;apply Zb;intro b1 hb1;apply Za;simp[t3];subst hb1;apply Zi;simp;exact kB.trans kH
theorem rdepth_ok: ∀n(t:RT),t.nodes≤n→ ∀(H:AH)(vs:List Value),Rx Q H vs t→t.nodes≤1000000000→CW Tryz.prog Zl 103 [.agg vs.toArray] H (fun v H'=>v= .int .i64 (t.depth:Int)∧Keep H H'):=by intro n;induction n with
 |zero=>intro t h;have:=Db t;omega
 |succ n ih=>intro t ht H vs hE hb;have hdn:=Zu5 _ t (Nat.le_refl _);obtain⟨op,neg,N,D,bad,args⟩:=t;cases hE with
  |@mk _ _ _ vn vd vx _ _ _ h1 h2 h3=>
   simp only[RT.nodes,RT.depth]at ht hb hdn⊢;refine Zf 23 (by decide) (by decide) Tryz.func103 rfl rfl ?_;have kB:=Keep.new H 1 [.int .i64 op,.bool neg,vn,vd,.bool bad,vx];have cB:=Kt H 1 [.int .i64 op,.bool neg,vn,vd,.bool bad,vx];obtain⟨HB,hHB⟩: ∃HB,HB=H.new 1 [.int .i64 op,.bool neg,vn,vd,.bool bad,vx]:=⟨_,rfl⟩;rw[←hHB]at kB cB;have l5:=Yh aEs (o:=5) cB rfl;have lx:=h3.len;obtain⟨m0,hm0⟩: ∃m0,m0=args.length:=⟨_,rfl⟩;have la:=Ai args;rw[←hm0]at lx la;apply Zb;intro b1 hb1;apply Za;simp[Value.cells,←hHB];subst hb1;apply Zb;intro b1 hb1;apply Za;simp;subst hb1;apply Zb;intro b1 hb1;apply Zb;intro b2 hb2;apply Za;simp[Za6,l5,lx];subst hb2;apply Zp;refine Xt (fun m s'=>s'.k=23∧Keep HB s'.H∧ ∃i:Nat,m+i=m0∧s'.tm.get 3=some (.int .i64 ((Qu (args.take i):Nat):Int))∧s'.tm.get 8=some vx∧s'.tm.get 9=some (.int .i64 (m0:Int))∧s'.tm.get 10=some (.int .i64 (i:Int))) ?_ m0 _ ⟨rfl,.refl HB,0,by omega,by simp[Qu],by simp,by simp,by simp⟩;rintro m ⟨k,tm,H4⟩ ⟨hk,kH,i,hmi,t3,t8,t9,t10⟩ Q' hQ';simp only at hk kH t3 t8 t9 t10;subst hk;apply Zb;intro b3 hb3;apply Za;simp[t9,t10,lssN];subst hb3;apply Zb;intro b3 hb3;by_cases hi:i<m0
   ·refine Zc (t:=true) (by simp[hi]) ?_;apply Zh;subst hb3;obtain⟨x,hx⟩: ∃x,args[i]?=some x:=⟨_,List.getElem?_eq_getElem (by omega)⟩;have hmax:Qu (args.take (i+1))=max (Qu (args.take i)) x.depth:=by rw[Zb1 hx,Zr9];simp[Qu]
    obtain⟨p,us,H5,e1,e2,e3,k5,e5,r5⟩:=Zr7 h3 (kB.trans kH) hx;have hxn:=Dh hx;obtain⟨_,H6,c6,rfl,k6⟩:=ih x (by omega) H5 us r5 (by omega);apply Zb;intro b3 hb3;apply Zp;apply Zb;intro b4 hb4;apply Za;simp[t8,t10,e1,e2,zE,Value.cells,e3];subst hb4;apply Zb;intro b4 hb4;apply Za;simp[e5,c6];subst hb4;apply Zb;intro b4 hb4;apply Za;simp[t3,gtrN (x:=x.depth) (y:=Qu (args.take i))];subst hb4;by_cases hg:Qu (args.take i)<x.depth;·refine Zc (t:=true) (by simp[hg]) ?_;apply Za;simp;subst hb3;apply Za;simp[t10,Eg (x:=i) (by omega)];apply hQ';refine⟨m-1,by omega,rfl,(kH.trans k5).trans k6,i+1,by omega,?_,by simp[t8],by simp[t9],by simp⟩;simp;rw[hmax];omega
    ·refine Zc (t:=false) (by simp[hg]) ?_;apply Zh;subst hb3;apply Za;simp[t10,Eg (x:=i) (by omega)];apply hQ';refine⟨m-1,by omega,rfl,(kH.trans k5).trans k6,i+1,by omega,?_,by simp[t8],by simp[t9],by simp⟩;simp;rw[hmax,Nat.max_eq_left (by omega)];exact t3
   ·refine Zc (t:=false) (by simp[hi]) ?_;apply Xu;apply hQ';left;refine⟨rfl,?_⟩;obtain rfl:i=m0:=by omega
    rw[List.take_of_length_le (by omega)]at t3;subst hb1;apply Zb;intro b1 hb1;apply Za;simp[t3,Eg (x:=Qu args) (by omega)];subst hb1;apply Zi;simp;exact kB.trans kH
end
end
theorem len_lim{N:Nat}(h:Zg N≤67108864):(ds b32 N).length≤2*Lim:=by
 obtain⟨k,hk⟩: ∃k,k=(ds b32 N).length:=⟨_,rfl⟩;rcases Nat.eq_zero_or_pos k with h0|h0;·omega
 ·have:=(blen32 (N:=N) (by omega)).1;show _≤2*2000000000000;omega
section
attribute [-simp] Int.natCast_add Int.natCast_mul Int.natCast_ediv Int.natCast_emod Int.natCast_pow
attribute [local simp] strip Yj LW' LR gW Yo Xi Ye Xj Yt Xh Zv Zw Zn Yv Xd Yp Xo Zz Yu Zm Zj Xm Xn Jl Yi Xe opd Qi Ys plain Yn Tr.get_set Qg Zu Xv Yg sameKind undef Zx Yw Xc Zs Yf parts unV DW Xp Yc LX Yb
section
variable {Q : Nat → Prop}
theorem gtrBig{x:Nat}(h:x≤67108864):Zd .gtr .i64 (x:Int) 67108864=some (.bool false):=by rw[gtrB,decide_eq_false (by omega)]
set_option maxHeartbeats 1000000 in theorem rright_ok: ∀n(t:RT),t.nodes≤n→ ∀(H:AH)(vs:List Value),Rx Q H vs t→t.fit→t.nodes≤1000000000→CW Tryz.prog Zl 71 [.agg vs.toArray] H (fun v H'=>v= .bool t.right∧Keep H H'):=by intro n;induction n with
 |zero=>intro t h;have:=Db t;omega
 |succ n ih=>intro t ht H vs hE hf hb;obtain⟨op,neg,N,D,bad,args⟩:=t;obtain⟨fN,fD,fA⟩:=hf;cases hE with
  |@mk _ _ _ vn vd vx _ _ _ h1 h2 h3=>
   simp only[RT.nodes]at ht hb;obtain⟨R,hR⟩: ∃R,R=(RT.node op neg N D bad args).right:=⟨_,rfl⟩;rw[←hR];simp only[RT.right]at hR;obtain⟨g,hg⟩: ∃g,g=rgood op bad args.length:=⟨_,rfl⟩;rw[←hg]at hR;unfold rgood at hg;refine Zf 41 (by decide) (by decide) Tryz.func71 rfl rfl ?_;have kB:=Keep.new H 1 [.int .i64 op,.bool neg,vn,vd,.bool bad,vx];have cB:=Kt H 1 [.int .i64 op,.bool neg,vn,vd,.bool bad,vx];obtain⟨HB,hHB⟩: ∃HB,HB=H.new 1 [.int .i64 op,.bool neg,vn,vd,.bool bad,vx]:=⟨_,rfl⟩;rw[←hHB]at kB cB;have cT:HB.top.cells H.n=some _:=cB;have l0:=Yh aInt (o:=0) cT rfl;have l2:=Yh aNum (o:=2) cT rfl;have l3:=Yh aNum (o:=3) cT rfl;have l4:=Yh aBool (o:=4) cT rfl;have l5:=Yh aEs (o:=5) cT rfl;have l5':=Yh aEs (o:=5) cB rfl;have lx:=h3.len;have c1:=arity_call (H:=HB.top) op;have c2:=Dr ((h1.1.keep kB).keep (Ez _)) (len_lim fN);have c3:=Dr ((h2.1.keep kB).keep (Ez _)) (len_lim fD);have e1:=gtrBig fN;have e2:=gtrBig fD;obtain⟨m0,hm0⟩: ∃m0,m0=args.length:=⟨_,rfl⟩;have la:=Ai args;rw[←hm0]at lx la hg;have e0:Zd .neq .i64 (Zk5 op) (m0:Int)=some (.bool (decide (Zk5 op≠(m0:Int)))):=Bh;apply Zb;intro b1 hb1;apply Za;simp[Value.cells,←hHB];subst hb1;apply Zb;intro b1 hb1;apply Zb;intro b2 hb2;have no: ∀tm:Tr Value,tm.get 29=some (.bool true)→R=false→W Tryz.prog Zl b2 ⟨41,tm,HB⟩ (Xb Tryz.prog Zl b1 fun ex s=>(ex= .norm∨ex= .ret)∧ ∃vs,Zx Tryz.prog s [.tmp 2]=some vs∧Xc vs= .bool R∧Keep H s.H):=fun tm ht hno=>by rw[hno];subst hb2;refine Zc (t:=true) (by simp[ht]) ?_;apply Zb;intro b2 hb2;apply Za;simp;subst hb2;apply Zi;simp[Xb];exact kB
   apply Zn8 (by kernel_rfl);by_cases hbad:bad=true;·subst hbad;simp[feBad,l4];show W _ _ b2 _ _;exact no _ (by simp) (by rw[hR,hg];rfl)
   have hbad:bad=false:=by simpa using hbad
   subst hbad;by_cases ha:Zk5 op=(m0:Int)
   ·rw[decide_eq_false (by omega)]at e0;simp[feOp,feBad,Za6,feNum,feN,feD,l0,l2,l3,l4,l5,lx,c1,c2,c3,e0,e1,e2];subst hb2;refine Zc (t:=false) (by simp) ?_;apply Zh;subst hb1;clear no;have hgt:g=true:=by
     rw[hg];unfold Zk5 at ha;split at ha;·rename_i h;rw[decide_eq_true ⟨h.1,h.2,by omega⟩];rfl
     ·omega
    rw[hgt,Bool.true_and]at hR;apply Zb;intro b1 hb1;apply Zb;intro b2 hb2;apply Za;simp[Za6,l5',lx];subst hb2;apply Zp;refine Xt (fun m s'=>s'.k=41∧Keep HB s'.H∧ ∃i:Nat,m+i=m0∧Vp (args.take i)=true∧s'.tm.get 31=some vx∧s'.tm.get 32=some (.int .i64 (m0:Int))∧s'.tm.get 33=some (.int .i64 (i:Int))) ?_ m0 _ ⟨rfl,.refl HB,0,by omega,by simp[Vp],by simp,by simp,by simp⟩;rintro m ⟨k,tm,H4⟩ ⟨hk,kH,i,hmi,hok,t31,t32,t33⟩ Q' hQ';simp only at hk kH t31 t32 t33;subst hk;apply Zb;intro b3 hb3;apply Za;simp[t32,t33,lssN];subst hb3;apply Zb;intro b3 hb3;by_cases hi:i<m0
    ·refine Zc (t:=true) (by simp[hi]) ?_;apply Zh;subst hb3;obtain⟨x,hx⟩: ∃x,args[i]?=some x:=⟨_,List.getElem?_eq_getElem (by omega)⟩;have hnext:Vp (args.take (i+1))=x.right:=by rw[Zb1 hx,As,hok];simp[Vp]
     obtain⟨p,us,H5,e1,e2,e3,k5,e5,r5⟩:=Zr7 h3 (kB.trans kH) hx;have hxn:=Dh hx;obtain⟨_,H6,c6,rfl,k6⟩:=ih x (by omega) H5 us r5 (rfitAll_get fA hx) (by omega);obtain⟨r,hr⟩: ∃r,r=x.right:=⟨_,rfl⟩;rw[←hr]at c6 hnext;apply Zb;intro b3 hb3;apply Zp;apply Zb;intro b4 hb4;apply Za;simp[t31,t33,e1,e2,zE,Value.cells,e3];subst hb4;apply Zb;intro b4 hb4;apply Za;simp[e5,c6];subst hb4;cases r with
      |true=>refine Zc (t:=false) (by simp) ?_;apply Zh;subst hb3;apply Za;simp[t33,Eg (x:=i) (by omega)];apply hQ';exact⟨m-1,by omega,rfl,(kH.trans k5).trans k6,i+1,by omega,hnext,by simp[t31],by simp[t32],by simp⟩
      |false=>
       refine Zc (t:=true) (by simp) ?_;apply Zb;intro b1 hb1;apply Za;simp;subst hb1;apply Zi;apply hQ';have:Vp args=false:=by have h:=As (args.take (i+1)) (args.drop (i+1));rw[List.take_append_drop,hnext,Bool.false_and]at h;exact h
       rw[this]at hR;simp[Dq,Yq,Xb,hR];exact((kB.trans kH).trans k5).trans k6
    ·refine Zc (t:=false) (by simp[hi]) ?_;apply Xu;apply hQ';left;refine⟨rfl,?_⟩;obtain rfl:i=m0:=by omega
     rw[List.take_of_length_le (by omega)]at hok;rw[hok]at hR;subst hb1;apply Zb;intro b1 hb1;apply Za;simp;subst hb1;apply Zi;simp[hR];exact kB.trans kH
   ·rw[decide_eq_true ha]at e0;simp[feOp,feBad,Za6,feNum,feN,feD,l0,l2,l3,l4,l5,lx,c1,c2,c3,e0,e1,e2];show W _ _ b2 _ _;refine no _ (by simp) ?_;rw[hR,hg];have:decide (0≤op∧op<16∧m0=arity op.toNat)=false:=decide_eq_false fun h=>by unfold Zk5 at ha;rw[if_pos ⟨h.1,h.2.1⟩]at ha;omega
    rw[this];rfl
section
variable {H : AH} {vs : List Value} {t : RT}
theorem load_box{Q:Nat→Prop}{H H':AH}{vs:List Value}{t:RT}(h:Rx Q H vs t)(k:Keep (H.new 1 vs) H'):Yk Tryz.prog H' 68 (.pointer (some ⟨H.n,0,none⟩))=some (.agg vs.toArray):=load_e (o:=0) (cs:=vs) ((Kr k (Nat.lt_succ_self _)).trans (Kt H 1 vs)) (by rw[List.drop_zero,List.take_of_length_le (by rw[h.len];omega)]) h.len
theorem rnodes_call(h:Rx Q H vs t)(hb:t.nodes≤1000000000): ∃H',Zo Tryz.prog Zl 102 [.agg vs.toArray] H=some (.int .i64 (t.nodes:Int),H')∧Keep H H':=by obtain⟨_,H',hc,rfl,k⟩:=rnodes_ok _ t (Nat.le_refl _) H vs h hb;exact⟨H',hc,k⟩
theorem rdepth_call(h:Rx Q H vs t)(hb:t.nodes≤1000000000): ∃H',Zo Tryz.prog Zl 103 [.agg vs.toArray] H=some (.int .i64 (t.depth:Int),H')∧Keep H H':=by obtain⟨_,H',hc,rfl,k⟩:=rdepth_ok _ t (Nat.le_refl _) H vs h hb;exact⟨H',hc,k⟩
theorem rright_call(h:Rx Q H vs t)(hf:t.fit)(hb:t.nodes≤1000000000): ∃H',Zo Tryz.prog Zl 71 [.agg vs.toArray] H=some (.bool t.right,H')∧Keep H H':=by obtain⟨_,H',hc,rfl,k⟩:=rright_ok _ t (Nat.le_refl _) H vs h hf hb;exact⟨H',hc,k⟩
theorem rlarge_call(h:Rx Q H vs t)(hb:t.nodes≤1000000000): ∃H',Zo Tryz.prog Zl 72 [.agg vs.toArray] H=some (.bool (decide (4000<t.nodes∨200<t.depth)),H')∧Keep H H':=by
 suffices hs:CW Tryz.prog Zl 72 [.agg vs.toArray] H fun v H'=>v= .bool (decide (4000<t.nodes∨200<t.depth))∧Keep H H' by obtain⟨_,H',hc,rfl,k⟩:=hs;exact⟨H',hc,k⟩
 obtain⟨R,hR⟩: ∃R,R=decide (4000<t.nodes∨200<t.depth):=⟨_,rfl⟩;rw[←hR];refine Zf 11 (by decide) (by decide) Tryz.func72 rfl rfl ?_;have kB:=Keep.new H 1 vs;have lb:=fun{H'} (k:Keep (H.new 1 vs) H')=>load_box h k;obtain⟨HB,hHB⟩: ∃HB,HB=H.new 1 vs:=⟨_,rfl⟩;rw[←hHB]at kB lb;obtain⟨H2,c2,k2⟩:=rnodes_call (h.keep kB) hb;obtain⟨H3,c3,k3⟩:=rdepth_call ((h.keep kB).keep k2) hb;have l1:=lb (.refl HB);have l2:=lb k2;have g1:Zd .gtr .i64 (t.nodes:Int) 4000=some (.bool (decide (4000<t.nodes))):=gtrC (y:=4000) rfl;have g2:Zd .gtr .i64 (t.depth:Int) 200=some (.bool (decide (200<t.depth))):=gtrC (y:=200) rfl;apply Zb;intro b1 hb1;apply Za;simp[Value.cells,←hHB];subst hb1;apply Zb;intro b1 hb1;apply Za;by_cases h1:4000<t.nodes;·rw[decide_eq_true h1]at g1;simp[l1,c2,g1];subst hb1;apply Zi;simp;exact⟨by rw[hR];simp[h1],kB.trans k2⟩
 ·rw[decide_eq_false h1]at g1;simp[l1,c2,g1,l2,c3,g2];subst hb1;apply Zi;simp;exact⟨by rw[hR];simp[h1],(kB.trans k2).trans k3⟩
def Zg7(t:RT):Nat:=if t.right=false then 152 else if 4000<t.nodes∨200<t.depth then 151 else 0
theorem Zf6(h:Rx Q H vs t)(hf:t.fit)(hb:t.nodes≤1000000000): ∃H',Zo Tryz.prog Zl 35 [.agg vs.toArray] H=some (.int .i64 (Zg7 t:Int),H')∧Keep H H':=by
 suffices hs:CW Tryz.prog Zl 35 [.agg vs.toArray] H fun v H'=>v= .int .i64 (Zg7 t:Int)∧Keep H H' by obtain⟨_,H',hc,rfl,k⟩:=hs;exact⟨H',hc,k⟩
 obtain⟨R,hR⟩: ∃R,R=Zg7 t:=⟨_,rfl⟩;rw[←hR];unfold Zg7 at hR;refine Zf 8 (by decide) (by decide) Tryz.func35 rfl rfl ?_;have kB:=Keep.new H 1 vs;have lb:=fun{H'} (k:Keep (H.new 1 vs) H')=>load_box h k;obtain⟨HB,hHB⟩: ∃HB,HB=H.new 1 vs:=⟨_,rfl⟩;rw[←hHB]at kB lb;obtain⟨H2,c2,k2⟩:=rright_call (h.keep kB) hf hb;obtain⟨H3,c3,k3⟩:=rlarge_call ((h.keep kB).keep k2) hb;have l1:=lb (.refl HB);have l2:=lb k2;obtain⟨g,hg⟩: ∃g,g=t.right:=⟨_,rfl⟩;rw[←hg]at c2 hR;obtain⟨p,hp⟩: ∃p,p=decide (4000<t.nodes∨200<t.depth):=⟨_,rfl⟩;rw[←hp]at c3;apply Zb;intro b1 hb1;apply Za;simp[Value.cells,←hHB];subst hb1;apply Zb;intro b1 hb1;apply Zb;intro b2 hb2;apply Za;simp[l1,c2];subst hb2;cases g with
  |false=>rw[if_pos rfl]at hR;subst hR;refine Zc (t:=true) (by simp) ?_;apply Zb;intro b1 hb1;apply Za;simp;subst hb1;apply Zi;simp[Xb];exact kB.trans k2
  |true=>rw[if_neg (by decide)]at hR;refine Zc (t:=false) (by simp) ?_;apply Zh;subst hb1;apply Zb;intro b1 hb1;apply Zb;intro b2 hb2;apply Za;simp[l2,c3];subst hb2;cases p with|true=>rw[if_pos (of_decide_eq_true hp.symm)]at hR;subst hR;refine Zc (t:=true) (by simp) ?_;apply Zb;intro b1 hb1;apply Za;simp;subst hb1;apply Zi;simp[Xb];exact(kB.trans k2).trans k3|false=>rw[if_neg (of_decide_eq_false hp.symm)]at hR;subst hR;refine Zc (t:=false) (by simp) ?_;apply Zh;subst hb1;apply Zb;intro b1 hb1;apply Za;simp;subst hb1;apply Zi;simp;exact(kB.trans k2).trans k3
end
end
end
theorem Zk0(t:ET):Zg7 t.ref=Us t:=by unfold Zg7 Us;rw[ref_right _ t (Nat.le_refl _),Zr1 _ t (Nat.le_refl _),ref_depth _ t (Nat.le_refl _)]
theorem bE(op:Int):Ui Tryz.prog 68 [(0,.int .i64 op)]=some (.agg #[.int .i64 op,.bool false,.slice none 0 0,.slice none 0 0,.bool false,.slice none 0 0]):=by kernel_rfl
theorem sB:Jd Tryz.prog 4=some 1:=by kernel_rfl
theorem sEsl:Jd Tryz.prog 66=some 1:=by kernel_rfl
theorem bEs(H:AH)(v0 v1 v2 v3 v4 v5:Value):Xx Tryz.prog H 66 1 [(0,.agg #[v0,v1,v2,v3,v4,v5])]=some (.slice (some ⟨H.n,0,none⟩) 1 1,H.new 6 [v0,v1,v2,v3,v4,v5]):=by unfold Xx;simp only[sEs,zE];kernel_rfl
theorem kill_ka{n0 b:Nat}{H:AH}{sz:Nat}{cs:List Value}(h:n0≤b):KAt n0 H ((H.kill b).new sz cs):=fun H0 k hn0=>by
 have:=k.n;have eH:(H.kill b).n=H.n:=rfl;refine⟨by show H0.n≤H.n+1;omega,?_,fun j hj=>?_⟩;·have:=k.lw;show min H0.lw H0.n≤min H.lw b;omega
 ·rw[AH.blk_new,if_neg (by rw[eH];omega),AH.blk_kill,if_neg (by omega)];exact k.blk j hj
theorem Zo6{n0:Nat}{H H2:AH}(h:KAt n0 H.top H2):KAt n0 H (low H H2):=low_ka h
theorem Cd{x y:Int} :Zd .eql .i64 x y=some (.bool (decide (x=y))):=by show some (Value.bool (x==y))=_;rfl
def OwnE(nh:Nat)(H:AH)(xv:Value)(l:List RT):Prop:=(xv= .slice none 0 0∧l=[])∨ ∃b cs,xv= .slice (some ⟨b,0,none⟩) l.length l.length∧nh≤b∧b<H.n∧H.blk b= .rw 6 cs∧cs.length=l.length*6∧ ∀(j:Nat)(u:RT),l[j]?=some u→Rx (fun j=>nh≤j∧j≠b) H ((cs.drop (j*6)).take 6) u
theorem OwnE.one1{nh:Nat}{H:AH}{xv:Value}{l:List RT}(h:OwnE nh H xv l):one xv=true∧xv.cells.toList=[xv]:=by rcases h with⟨rfl,_⟩|⟨b,cs,rfl,_⟩<;>exact⟨rfl,rfl⟩
theorem OwnE.append{nh:Nat}{H:AH}{xv:Value}{l:List RT}(h:OwnE nh H xv l)(hn:nh≤H.n){w:Nat}(hw:nh≤w)(hwn:w<H.n){us:List Value}{x:RT}(hb:H.blk w= .rw 6 us)(hx:Rx (fun j=>nh≤j) H us x)(hl:l.length<1000000000)(hxb: ∀b,Qj xv=some b→Rx (fun j=>nh≤j∧j≠b) H us x∧b≠w): ∃H',Jz Tryz.prog H 66 66 xv (.slice (some ⟨w,0,none⟩) 1 1)=some (.slice (some ⟨H.n,0,none⟩) (l.length+1) (l.length+1),H')∧H'.n=H.n+1∧KAt nh H H'∧(∀j,j<H.n→Qj xv≠some j→H'.blk j=H.blk j)∧OwnE nh H' (.slice (some ⟨H.n,0,none⟩) (l.length+1) (l.length+1)) (l++[x])∧(Qj xv=none→H'.lw=H.lw)∧(∀b,Qj xv=some b→H'.lw≤b∧b<H.n):=by
 have hul:=hx.len;have huo:=hx.ones;have hc:H.read w 0 6=some us:=by
  rw[AH.read_def];have:H.cells w=some us:=by unfold AH.cells;rw[hb]
  simp only[this,Nat.zero_add];rw[Nat.ble_eq.mpr (by omega),cond_true,List.drop_zero,List.take_of_length_le (by omega)]
 rcases h with⟨rfl,rfl⟩|⟨b,cs,rfl,hb1,hb2,hb3,hb4,hb5⟩
 ·refine⟨H.new 6 us,?_,rfl,(Keep.new H 6 us).kat nh,fun j hj _=>?_,.inr ⟨H.n,us,rfl,hn,Nat.lt_succ_self _,by rw[AH.blk_new,if_pos rfl],by simp[hul],fun j u hu=>?_⟩,fun _=>rfl,fun b hb=>by cases hb⟩;·unfold Jz;simp only[sEs,zE,Js,hc];rfl
  ·rw[AH.blk_new,if_neg (by omega)]
  ·match j,hu with|0,hu=>cases hu;rw[Nat.zero_mul,List.drop_zero,List.take_of_length_le (by omega)];exact hx.agr ⟨Nat.le_succ _,fun j _ hj=>by rw[AH.blk_new,if_neg (by omega)]⟩ fun j hj hq=>⟨hq,by omega⟩
 ·obtain⟨hxq,hbw⟩:=hxb b rfl;have eH:(H.kill b).n=H.n:=rfl;have e1:Nat.ble ((l.length+1)*96) 140737488355328=true:=Nat.ble_eq.mpr (by omega);have e2:Nat.ble (l.length+1) 281474976710656=true:=Nat.ble_eq.mpr (by omega);have e3:Nat.ble (0+l.length*6) cs.length=true:=Nat.ble_eq.mpr (by omega);have oth: ∀j,j<H.n→j≠b→((H.kill b).new 6 (cs++us)).blk j=H.blk j:=fun j hj hjb=>by rw[AH.blk_new,if_neg (by rw[eH];omega),AH.blk_kill,if_neg hjb]
  refine⟨(H.kill b).new 6 (cs++us),?_,rfl,kill_ka hb1,fun j hj hjb=>oth j hj (fun e=>hjb (by rw[e];rfl)),.inr ⟨H.n,cs++us,by simp,hn,Nat.lt_succ_self _,by rw[AH.blk_new,if_pos eH.symm],by simp[hul,hb4];omega,fun j u hu=>?_⟩,(fun h=>by cases h),(fun b' hb'=>by cases hb';exact⟨Nat.min_le_right _ _,hb2⟩)⟩;·unfold Jz;simp only[sEs,zE,Js,hc,hb3,e1,e2,e3,huo];rw[List.drop_zero,List.take_of_length_le (by omega)];rfl
  ·rw[List.getElem?_append]at hu;split at hu
   ·rename_i hj;have:((cs++us).drop (j*6)).take 6=(cs.drop (j*6)).take 6:=by rw[List.drop_append_of_le_length (by omega),List.take_append_of_le_length (by rw[List.length_drop];omega)]
    rw[this];exact(hb5 j u hu).agr ⟨Nat.le_succ _,fun i hi hin=>oth i hin hi.2⟩ fun i hin hi=>⟨hi.1,by omega⟩
   ·rename_i hj;obtain rfl:j=l.length:=by have:=List.getElem?_eq_some_iff.mp hu;obtain⟨h,_⟩:=this;simp at h;omega
    simp at hu;subst hu;have:((cs++us).drop (l.length*6)).take 6=us:=by rw[←hb4,List.drop_left,List.take_of_length_le (by omega)]
    rw[this];exact hxq.agr ⟨Nat.le_succ _,fun i hi hin=>oth i hin hi.2⟩ fun i hin hi=>⟨hi.1,by omega⟩
theorem OwnE.agr{nh:Nat}{H H':AH}{xv:Value}{l:List RT}(h:OwnE nh H xv l)(hn:H.n≤H'.n)(k: ∀j,nh≤j→j<H.n→H'.blk j=H.blk j):OwnE nh H' xv l:=by
 rcases h with h|⟨b,cs,h1,h2,h3,h4,h5,h6⟩;·exact .inl h
 ·exact .inr ⟨b,cs,h1,h2,by omega,by rw[k b h2 h3];exact h4,h5,fun j u hu=>(h6 j u hu).agr ⟨hn,fun i hi hin=>k i hi.1 hin⟩ fun _ _ h=>h⟩
theorem OwnE.blk{nh:Nat}{H:AH}{xv:Value}{l:List RT}(h:OwnE nh H xv l){b:Nat}(hb:Qj xv=some b):nh≤b∧b<H.n:=by
 rcases h with⟨rfl,_⟩|⟨b',cs,rfl,h2,h3,_⟩;·cases hb
 ·cases hb;exact⟨h2,h3⟩
theorem OwnE.rxs{nh n0:Nat}(h0:n0≤nh){H:AH}{xv:Value}{l:List RT}(h:OwnE nh H xv l):Rxs (fun j=>n0≤j) H xv l:=by
 rcases h with⟨rfl,rfl⟩|⟨b,cs,rfl,h2,h3,h4,h5,h6⟩;·exact .nil
 ·exact .mk b l.length (cs:=cs) (by omega) h3 h4 (Nat.le_refl _) fun j u hu=>(h6 j u hu).agr ⟨Nat.le_refl _,fun _ _ _=>rfl⟩ fun i _ hi=>by have:=hi.1;omega
def TreeIs(H:AH)(t:ET)(v:Value)(H':AH):Prop:=Keep H H'∧ ∃us:List Value,v= .agg us.toArray∧Rx (fun j=>H.n≤j) H' us t.ref
theorem aBs:Jq Tryz.prog 4=some false:=by kernel_rfl
structure HeadIs (H : AH) (vs : List Value) (op : Int) (r : (Bool × Nat × Nat) × Bool) (c nh : Nat) (vn vd : Value) (s : St) : Prop where
  k : s.k = 70
  keep : Keep H s.H
  hc : H.n + 2 ≤ c
  hcn : c < nh
  hn : nh = s.H.n
  blk : s.H.blk c = .rw 1 [.int .i64 op, .bool r.1.1, vn, vd, .bool r.2, .slice none 0 0]
  box : s.H.blk H.n = .rw 1 vs
  res : s.H.blk (H.n + 1) = .rw 1 [.int .i64 0, .bool false, .slice none 0 0, .slice none 0 0, .bool false, .slice none 0 0]
  sn : SlQ (fun j => H.n + 2 ≤ j ∧ j ≠ c) s.H vn (ds b32 r.1.2.1)
  sd : SlQ (fun j => H.n + 2 ≤ j ∧ j ≠ c) s.H vd (ds b32 r.1.2.2)
  t1 : s.tm.get 1 = some (.pointer (some ⟨H.n, 0, none⟩))
  t2 : s.tm.get 2 = some (.pointer (some ⟨H.n + 1, 0, none⟩))
  t5 : s.tm.get 5 = some (.pointer (some ⟨c, 0, none⟩))
section
attribute [-simp] Int.natCast_add Int.natCast_mul Int.natCast_ediv Int.natCast_emod Int.natCast_pow
attribute [local simp] strip Yj LW' LR gW Yo Xi Ye Xj Yt Xh Zv Zw Zn Yv Xd Yp Xo Zz Yu Zm Zj Xm Xn Jl Yi Xe opd Qi Ys plain Yn Tr.get_set Qg Zu Xv Yg sameKind undef Zx Yw Xc Zs Yf parts unV DW Xp Yc LX Yb
theorem or3(a b c:Bool):(a||b||c)=(a||(b||c)):=Bool.or_assoc ..
set_option maxHeartbeats 2000000 in theorem tree_ok: ∀n(t:ET),t.nodes≤n→ ∀(H:AH)(vs:List Value),Ex H vs t→t.wide 1048576→t.nodes≤100000000→CW Tryz.prog Zl 30 [.agg vs.toArray] H (TreeIs H t):=by intro n;induction n with
 |zero=>intro t h;have:=Je t;omega
 |succ n ih=>intro t ht H vs hE hw hb;obtain⟨op,neg,abs,den,args⟩:=t;have hEk:=hE;obtain⟨la,ld,da,dd,ws⟩:=hw;simp only[ET.nodes]at ht hb;cases hEk with
  |@mk _ _ va vd vx _ _ _ h1 h2 h3=>
   unfold TreeIs;simp only[ET.ref];obtain⟨r,hr⟩: ∃r,r=Ug op neg abs den:=⟨_,rfl⟩;rw[←hr];unfold Ug at hr;refine Zf 70 (by decide) (by decide) Tryz.func30 rfl rfl ?_;obtain⟨vs,hvs⟩: ∃vs,vs=[Value.int .i64 op,.bool neg,va,vd,vx]:=⟨_,rfl⟩;obtain⟨zs,hzs⟩: ∃zs,zs=[Value.int .i64 0,.bool false,.slice none 0 0,.slice none 0 0,.bool false,.slice none 0 0]:=⟨_,rfl⟩;have kB:=Keep.new H 1 vs;have cB:=Kt H 1 vs;have bB:(H.new 1 vs).blk H.n= .rw 1 vs:=by rw[AH.blk_new,if_pos rfl]
   have nB:(H.new 1 vs).n=H.n+1:=rfl;obtain⟨HB,hHB⟩: ∃HB,HB=H.new 1 vs:=⟨_,rfl⟩;rw[←hHB]at kB cB bB nB;have kC:=Keep.new HB 1 zs;have bC:(HB.new 1 zs).blk HB.n= .rw 1 zs:=by rw[AH.blk_new,if_pos rfl]
   have nC:(HB.new 1 zs).n=H.n+2:=by show HB.n+1=_;omega
   obtain⟨H1,hH1⟩: ∃H1,H1=HB.new 1 zs:=⟨_,rfl⟩;rw[←hH1]at kC bC nC;rw[nB]at bC;have bB1:H1.blk H.n= .rw 1 vs:=by rw[kC.blk _ (by omega)];exact bB
   have k1:=kB.trans kC;obtain⟨v1,H2,c1,k2,o1,l1⟩:=of_call (H:=H1.top) ((h1.keep k1).top) da (by show _≤2000000000000;omega);obtain⟨G1,hG1⟩: ∃G1,G1=grown H1 H2:=⟨_,rfl⟩;have kG1:Keep H1 G1:=by rw[hG1];exact Zk (.refl H1) k2
   have o1':Own H1.n G1 v1 (ds b32 (dv B64 abs)):=by rw[hG1];exact o1.same (Zt k2)
   have n2:H1.n≤H2.n:=k2.n;have nG1:G1.n=H2.n:=by rw[hG1];rfl
   obtain⟨v2,H3,c2,k3,o2,l2⟩:=of_call (H:=G1.top) ((h2.keep (k1.trans kG1)).top) dd (by show _≤2000000000000;omega);obtain⟨G2,hG2⟩: ∃G2,G2=grown G1 H3:=⟨_,rfl⟩;have kG2:Keep G1 G2:=by rw[hG2];exact Zk (.refl G1) k3
   have o2':Own G1.n G2 v2 (ds b32 (dv B64 den)):=by rw[hG2];exact o2.same (Zt k3)
   have n3:G1.n≤H3.n:=k3.n;have nG2:G2.n=H3.n:=by rw[hG2];rfl
   have box: ∀{H':AH}(k:Keep H1 H'),H'.cells H.n=some vs:=fun k=>by unfold AH.cells;rw[k.blk _ (by omega),bB1]
   have a2:Yk Tryz.prog H1.top 30 (.pointer (some ⟨H.n,2,none⟩))=some va:=Yh aNat (box (Ez H1)) (by rw[hvs];rfl);have a3: ∀bits ms,(∀x∈ms,H1.n≤x.2.1)→Yk Tryz.prog (vis G1 bits ms) 30 (.pointer (some ⟨H.n,3,none⟩))=some vd:=fun bits ms h=>Yh aNat (box (Qe kG1 h)) (by rw[hvs];rfl);apply Zb;intro b1 hb1;apply Za;simp[Value.cells,zE,←hvs,←hzs,←hHB,←hH1];subst hb1;apply Zb;intro b1 hb1;apply Qd (by kernel_rfl);simp[Zf8,faN,faAbs];refine Zr (v:=va) rfl rfl rfl (by rw[Ze rfl];simp[a2]) ?_;simp;refine Zy (v:=v1) (H2:=H2) rfl rfl rfl (by rw[Ze rfl];simp[c1]) n2 (Ya k2) ?_;rw[←hG1];generalize hms:cond (Nat.blt H1.n H2.n) _ _=ms;have hms1:=Fb hms;simp[Zf8,faD];refine Zr (v:=vd) rfl rfl rfl (by simp[a3 _ ms fun x hx=>(hms1 x hx).2]) ?_;simp;refine Zy (v:=v2) (H2:=H3) rfl rfl rfl ?_ n3 (Ya k3) ?_;·rw[Ze (Yy fun x hx=>by rw[(hms1 x hx).1];kernel_rfl)];simp[c2]
   rw[←hG2];simp;rw[nB];subst hb1;have kH2:=k1.trans (kG1.trans kG2);have kH12:=kG1.trans kG2;have nH:=kH12.n;obtain⟨H4,st4,k4,blk4,n4⟩:=Qv (H:=G2) (sz:=1) (zs:=zs) sE (by rw[hzs];rfl) (v:= .agg #[.int .i64 op,.bool false,.slice none 0 0,.slice none 0 0,.bool false,.slice none 0 0]) (ws:=[.int .i64 op,.bool false,.slice none 0 0,.slice none 0 0,.bool false,.slice none 0 0]) rfl rfl rfl;have ld0:Yk Tryz.prog G2 50 (.pointer (some ⟨H.n,0,none⟩))=some (.int .i64 op):=Yh aOp (box kH12) (by rw[hvs];rfl);apply Zb;intro b1 hb1;apply Za;simp[faOp,ld0,bE,zE,Value.cells,←hzs,st4];subst hb1;have k14:=kH12.trans k4;have k04:=k1.trans k14;have o14:Own H1.n H4 v1 (ds b32 (dv B64 abs)):=o1'.mono (Nat.le_refl _) (kG2.trans k4);have o24:Own H1.n H4 v2 (ds b32 (dv B64 den)):=o2'.mono (by have:=kG1.n;omega) k4;have b14: ∀c,Qj v1=some c→c<G2.n:=fun c hc=>(o1'.mono (Nat.le_refl _) kG2).blk_lo hc|>.2;have b24: ∀c,Qj v2=some c→c<G2.n:=fun c hc=>(o2'.blk_lo hc).2;have ld4:Yk Tryz.prog H4 50 (.pointer (some ⟨H.n,0,none⟩))=some (.int .i64 op):=Yh aOp (box k14) (by rw[hvs];rfl);have lneg:Yk Tryz.prog H4 4 (.pointer (some ⟨H.n,1,none⟩))=some (.bool neg):=Yh aBs (box k14) (by rw[hvs];rfl);have lab:Yk Tryz.prog H4 30 (.pointer (some ⟨H.n,2,none⟩))=some va:=Yh aNat (box k14) (by rw[hvs];rfl);have lde:Yk Tryz.prog H4 30 (.pointer (some ⟨H.n,3,none⟩))=some vd:=Yh aNat (box k14) (by rw[hvs];rfl);have blkR:H4.blk (H.n+1)= .rw 1 zs:=by rw[k14.blk _ (by omega)];exact bC
   have blkX:H4.blk H.n= .rw 1 vs:=by rw[k14.blk _ (by omega)];exact bB1
   obtain⟨c,hc⟩: ∃c,c=G2.n:=⟨_,rfl⟩;rw[←hc]at blk4 n4 b14 b24⊢;have hcn:H.n+2≤c:=by omega
   have e0:Zd .eql .i64 op 0=some (.bool (decide (op=0))):=Cd;refine Ja (fun s'=> ∃nh vn vd',HeadIs H vs op r c nh vn vd' s') ?_ ?_
   ·intro Q' hQ';have fin: ∀(H5 H6:AH)(tm:Tr Value)(vn vd':Value),Keep H4 H5→(∀j,j≠c→H6.blk j=H5.blk j)→H6.n=H5.n→KAt c H5 H6→H6.blk c= .rw 1 [.int .i64 op,.bool r.1.1,vn,vd',.bool r.2,.slice none 0 0]→SlQ (fun j=>H.n+2≤j∧j≠c) H5 vn (ds b32 r.1.2.1)→SlQ (fun j=>H.n+2≤j∧j≠c) H5 vd' (ds b32 r.1.2.2)→tm.get 1=some (.pointer (some ⟨H.n,0,none⟩))→tm.get 2=some (.pointer (some ⟨H.n+1,0,none⟩))→tm.get 5=some (.pointer (some ⟨c,0,none⟩))→Q' .norm ⟨70,tm,H6⟩:=fun H5 H6 tm vn vd' k5 oth n6 ka bl sn sd t1 t2 t5=>by
     have n5:=k5.n;have ag:Agr (fun j=>H.n+2≤j∧j≠c) H5 H6:=⟨Nat.le_of_eq n6.symm,fun j hj _=>oth j hj.2⟩;refine hQ' _ ⟨H6.n,vn,vd',rfl,ka H (k04.trans k5) (by omega),hcn,by show c<H6.n;omega,rfl,bl,?_,?_,⟨sn.1.agr sn.2 ag,sn.2⟩,⟨sd.1.agr sd.2 ag,sd.2⟩,t1,t2,t5⟩;·show H6.blk H.n=_;rw[oth _ (by omega),k5.blk _ (by omega)];exact blkX
     ·show H6.blk (H.n+1)=_;rw[oth _ (by omega),k5.blk _ (by omega),blkR,hzs]
    have nil0:SlQ (fun j=>H.n+2≤j∧j≠c) H4 (.slice none 0 0) (ds b32 0):=⟨by rw[Jm];exact .nil,fun b hb=>by cases hb⟩;apply Zb;intro b2 hb2;apply Za;simp[faOp,ld4,e0];subst hb2;by_cases h0:op=0
    ·refine Zc (t:=true) (by simp[h0]) ?_;rw[if_pos h0]at hr;have z:=Zh4 o24.sl;apply Zb;intro b2 hb2;apply Za;simp[z];subst hb2;by_cases hd0:dv B64 den=0;·refine Zc (t:=true) (by simp[hd0]) ?_;rw[if_pos hd0]at hr;obtain⟨H5,st5,blk5,n5,oth5,ka5,_⟩:=Gl (b:=c) (o:=4) (v:= .bool true) (ws:=[.bool true]) sB blk4 rfl rfl (by simp) rfl;apply Za;simp[feBad,st5];exact fin H4 H5 _ (.slice none 0 0) (.slice none 0 0) (.refl H4) oth5 n5 ka5 (by rw[blk5,hr];rfl) (by rw[hr];exact nil0) (by rw[hr];exact nil0) (by simp) (by simp) (by simp)
     ·refine Zc (t:=false) (by simp[hd0]) ?_;rw[if_neg hd0]at hr;obtain⟨us,H5,c5,k5,own5⟩:=Zi0 (H:=H4) neg o14.sl o24.sl l1 l2 (by omega);obtain⟨x,y,rfl,ox,oy⟩:=own5;have n5:=k5.n;obtain⟨H6,st6,blk6,n6,oth6,ka6,_⟩:=Gl (H:=H5) (b:=c) (o:=1) (cs:=[.int .i64 op,.bool false,.slice none 0 0,.slice none 0 0,.bool false,.slice none 0 0]) (sz:=1) (v:= .agg #[.bool (Yl neg (dv B64 abs) (dv B64 den)).1,x,y]) (ws:=[.bool (Yl neg (dv B64 abs) (dv B64 den)).1,x,y]) sR (by rw[k5.blk _ (by omega)];exact blk4) rfl rfl (by simp) (by obtain⟨_,_,_,rfl⟩:=ox.shape;obtain⟨_,_,_,rfl⟩:=oy.shape;rfl);have c5:Zo Tryz.prog Zl 22 [.bool neg,v1,v2] H4=some (.agg #[.bool (Yl neg (dv B64 abs) (dv B64 den)).1,x,y],H5):=c5;apply Za;simp[Zf8,faN,Kz,lneg,c5,feNum,st6];exact fin H5 H6 _ x y k5 oth6 n6 ka6 (by rw[blk6,hr];rfl) (by rw[hr];exact⟨ox.sl,fun b hb=>by have:=(ox.blk_lo hb).1;exact⟨by omega,by omega⟩⟩) (by rw[hr];exact⟨oy.sl,fun b hb=>by have:=(oy.blk_lo hb).1;exact⟨by omega,by omega⟩⟩) (by simp) (by simp) (by simp)
    ·refine Zc (t:=false) (by simp[h0]) ?_;rw[if_neg h0]at hr;have f1:Zd .gtr .i64 (abs.length:Int) 0=some (.bool (decide (0<abs.length))):=gtrZ;have f2:Zd .gtr .i64 (den.length:Int) 0=some (.bool (decide (0<den.length))):=gtrZ;have la1:=(h1.keep k04).len Zs;have ld1:=(h2.keep k04).len Zs;obtain⟨R,hR⟩: ∃R:Bool,R=(neg||decide (0<abs.length)||decide (0<den.length)):=⟨_,rfl⟩;rw[←hR]at hr;obtain⟨H5,st5,blk5,n5,oth5,ka5,_⟩:=Gl (b:=c) (o:=4) (v:= .bool R) (ws:=[.bool R]) sB blk4 rfl rfl (by simp) rfl;have done: ∀tm:Tr Value,tm.get 1=some (.pointer (some ⟨H.n,0,none⟩))→tm.get 2=some (.pointer (some ⟨H.n+1,0,none⟩))→tm.get 5=some (.pointer (some ⟨c,0,none⟩))→Q' .norm ⟨70,tm,H5⟩:=fun tm t1 t2 t5=>fin H4 H5 tm (.slice none 0 0) (.slice none 0 0) (.refl H4) oth5 n5 ka5 (by rw[blk5,hr];rfl) (by rw[hr];exact nil0) (by rw[hr];exact nil0) t1 t2 t5;apply Za;cases neg with
     |true=>rw[show R=true by rw[hR];simp]at st5;simp[Zf8,faN,Kz,lneg,feBad,st5];exact done _ (by simp) (by simp) (by simp)
     |false=>
      by_cases g1:0<abs.length;·rw[decide_eq_true g1]at f1;rw[show R=true by rw[hR,decide_eq_true g1];simp]at st5;simp[Zf8,faN,Kz,faAbs,lneg,lab,la1,f1,feBad,st5];exact done _ (by simp) (by simp) (by simp)
      ·rw[decide_eq_false g1]at f1 hR;rw[Bool.false_or,Bool.false_or]at hR;rw[←hR]at f2;simp[Zf8,faN,Kz,faAbs,faD,lneg,lab,la1,f1,lde,ld1,f2,feBad,st5];exact done _ (by simp) (by simp) (by simp)
   rintro⟨k,tm,HH⟩ ⟨nh,vn,vd',hh⟩;obtain⟨hk,keep,hc2,hcn,hn,blk,bx,res,sn,sd,t1,t2,t5⟩:=hh;simp only at hk keep hn blk bx res sn sd t1 t2 t5;subst hk;clear st4 k4 blk4 ld0 k14 k04 o14 o24 b14 b24 ld4 lneg lab lde blkR blkX n4 kG1 kG2 kH2 kH12 o1' o2' a2 a3 box;have lx:Yk Tryz.prog HH 51 (.pointer (some ⟨H.n,4,none⟩))=some vx:=Yh aExprs (o:=4) (cs:=vs) (by unfold AH.cells;rw[bx]) (by rw[hvs];rfl);have ln:=h3.len;obtain⟨m0,hm0⟩: ∃m0,m0=args.length:=⟨_,rfl⟩;have la:=Eh args;rw[←hm0]at ln la;have hH2n:H.n≤H.n+2:=by omega
   apply Zb;intro b1 hb1;apply Zb;intro b2 hb2;apply Za;simp[t1,faArgs,lx,ln];subst hb2;apply Zp;refine Xt (fun m s'=>s'.k=70∧Keep H s'.H∧nh≤s'.H.n∧(∀j,j<nh→j≠c→s'.H.blk j=HH.blk j)∧ ∃(i:Nat) (xv:Value),m+i=m0∧s'.H.blk c= .rw 1 [.int .i64 op,.bool r.1.1,vn,vd',.bool r.2,xv]∧OwnE nh s'.H xv (Uj (args.take i))∧s'.tm.get 2=some (.pointer (some ⟨H.n+1,0,none⟩))∧s'.tm.get 5=some (.pointer (some ⟨c,0,none⟩))∧s'.tm.get 55=some vx∧s'.tm.get 56=some (.int .i64 (m0:Int))∧s'.tm.get 57=some (.int .i64 (i:Int))) ?_ m0 _ ⟨rfl,keep,Nat.le_of_eq hn,fun _ _ _=>rfl,0,.slice none 0 0,by omega,blk,.inl ⟨rfl,by simp[Uj]⟩,by simp[t2],by simp[t5],by simp,by simp,by simp⟩;rintro m ⟨k,tm',Ha⟩ ⟨hk,kH,hna,oth,i,xv,hmi,blkc,own,t2,t5,t55,t56,t57⟩ Q' hQ';simp only at hk kH hna oth blkc own t2 t5 t55 t56 t57;subst hk;apply Zb;intro b3 hb3;apply Za;simp[t56,t57,lssN];subst hb3;by_cases hi:i<m0
   ·refine Ja (fun s'=>s'=⟨70,tm'.set 58 (.bool (decide (i<m0))),Ha⟩) ?_ ?_;·intro Q'' hQ'';refine Zc (t:=true) (by simp[hi]) ?_;apply Zh;exact hQ'' _ rfl
    rintro _ rfl;obtain⟨x,hx⟩: ∃x,args[i]?=some x:=⟨_,List.getElem?_eq_getElem (by omega)⟩;have hxn:=Cn hx;obtain⟨p,us,ha5,hl5,hE5⟩: ∃(p:Value) (us:List Value),Yr Tryz.prog 51 vx (.int .i64 (i:Int))=some p∧Yk Tryz.prog Ha 53 p=some (.agg us.toArray)∧Ex Ha us x:=by obtain⟨p,us,e1,e2,e3⟩:=h3.at hx;exact⟨p,us,e1,e2 _ kH,e3.keep kH⟩
    obtain⟨Hb,st5,k5,blk5,n5⟩:=Qv (H:=Ha) (sz:=1) (zs:=[.int .i64 0,.bool false,.slice none 0 0,.slice none 0 0,.slice none 0 0]) sExpr rfl (v:= .agg us.toArray) (ws:=us) (by simp[Value.cells]) hE5.len hE5.ones;have l5:Yk Tryz.prog Hb.top 53 (.pointer (some ⟨Ha.n,0,none⟩))=some (.agg us.toArray):=Ay (o:=0) (cs:=us) (show Hb.cells Ha.n=_ by unfold AH.cells;rw[blk5]) (by rw[List.drop_zero,List.take_of_length_le (by rw[hE5.len];omega)]) hE5.len;have blkcb:Hb.blk c= .rw 1 [.int .i64 op,.bool r.1.1,vn,vd',.bool r.2,xv]:=by rw[k5.blk _ (by omega)];exact blkc
    have lX:Yk Tryz.prog Hb.top 66 (.pointer (some ⟨c,5,none⟩))=some xv:=Yh aEs (o:=5) (show Hb.cells c=some _ by unfold AH.cells;rw[blkcb]) rfl;obtain⟨_,H6,c6,k6,us',rfl,rx6⟩:=ih x (by omega) Hb.top us ((hE5.keep k5).keep (Ez Hb)) (Fp ws hx) (by omega);have rlen:=rx6.len;obtain⟨u0,u1,u2,u3,u4,u5,rfl⟩: ∃u0 u1 u2 u3 u4 u5,us'=[u0,u1,u2,u3,u4,u5]:=by match us',rlen with|[u0,u1,u2,u3,u4,u5],_=>exact⟨u0,u1,u2,u3,u4,u5,rfl⟩
    have c6:Zo Tryz.prog Zl 30 [.agg us.toArray] Hb.top=some (.agg #[u0,u1,u2,u3,u4,u5],H6):=c6;have n6:Hb.n≤H6.n:=k6.n;obtain⟨Gb,hGb⟩: ∃Gb,Gb=grown Hb H6:=⟨_,rfl⟩;have kGb:Keep Hb Gb:=by rw[hGb];exact Zk (.refl Hb) k6
    have nGb:Gb.n=H6.n:=by rw[hGb];rfl
    have rxb:Rx (fun j=>Hb.n≤j) Gb [u0,u1,u2,u3,u4,u5] x.ref:=by rw[hGb];exact rx6.agr ⟨Nat.le_refl _,fun j _ hj=>(Zt k6).blk j hj (fun e=>by cases e)⟩ fun j _ h=>h
    have bs:=bEs Gb.top u0 u1 u2 u3 u4 u5;obtain⟨Gc,hGc⟩: ∃Gc,Gc=grown Gb (Gb.top.new 6 [u0,u1,u2,u3,u4,u5]):=⟨_,rfl⟩;have kGc:Keep Gb Gc:=by rw[hGc];exact Zk (.refl Gb) (Keep.new _ _ _)
    have nGc:Gc.n=Gb.n+1:=by rw[hGc];rfl
    have blkw:Gc.blk Gb.n= .rw 6 [u0,u1,u2,u3,u4,u5]:=by have:=(Zt (Keep.new Gb.top 6 [u0,u1,u2,u3,u4,u5])).blk Gb.n (Nat.lt_succ_self _) (fun e=>by cases e);rw[hGc,this,AH.blk_new,if_pos (show Gb.n=Gb.top.n from rfl)]
    have kac:Keep Ha Gc:=(k5.trans kGb).trans kGc;have n5':Ha.n≤Hb.n:=k5.n;have ownT:OwnE nh Gc.top xv (Uj (args.take i)):=own.agr (by have:=kac.n;exact this) fun j _ hj=>kac.blk j hj;have rxT:Rx (fun j=>Hb.n≤j) Gc.top [u0,u1,u2,u3,u4,u5] x.ref:=(rxb.keep kGc).keep (Ez Gc);have hlen:(Uj (args.take i)).length=i:=by rw[Zk8,List.length_take];omega
    obtain⟨Hd,hap,nd,kad,othd,ownd,hlw0,hlw1⟩:=ownT.append (H:=Gc.top) (nh:=nh) (us:=[u0,u1,u2,u3,u4,u5]) (x:=x.ref) (w:=Gb.n) (by show nh≤Gc.n;omega) (by omega) (by show Gb.n<Gc.n;omega) blkw (rxT.agr ⟨Nat.le_refl _,fun _ _ _=>rfl⟩ fun j _ hj=>by omega) (by omega) fun b hb=>by have:=own.blk hb;exact⟨rxT.agr ⟨Nat.le_refl _,fun _ _ _=>rfl⟩ fun j _ hj=>⟨by omega,by omega⟩,by omega⟩
    have hsnoc:Uj (args.take i)++[x.ref]=Uj (args.take (i+1)):=by rw[Zb1 hx,Zc3,Zc3];simp
    rw[hsnoc]at ownd;rw[hlen]at hap ownd;have nd':Hd.n=Gc.n+1:=nd;have blkd:Hd.blk c= .rw 1 [.int .i64 op,.bool r.1.1,vn,vd',.bool r.2,xv]:=by rw[othd c (by show c<Gc.n;omega) (fun e=>by have:=own.blk e;omega)];show Gc.blk c=_;rw[kac.blk _ (by omega)];exact blkc
    have fin: ∀(G3:AH),But none Hd G3→KAt nh Gc G3→ ∃H8,Xk Tryz.prog G3.top 66 (.pointer (some ⟨c,5,none⟩)) (.slice (some ⟨Gc.n,0,none⟩) (i+1) (i+1))=some H8∧G3.n≤H8.n∧H8.lw<G3.n∧Keep H (low G3 H8)∧nh≤H8.n∧(∀j,j<nh→j≠c→(low G3 H8).blk j=HH.blk j)∧(low G3 H8).blk c= .rw 1 [.int .i64 op,.bool r.1.1,vn,vd',.bool r.2,.slice (some ⟨Gc.n,0,none⟩) (i+1) (i+1)]∧OwnE nh (low G3 H8) (.slice (some ⟨Gc.n,0,none⟩) (i+1) (i+1)) (Uj (args.take (i+1))):=fun G3 bt ka=>by
     have b3:G3.blk c= .rw 1 [.int .i64 op,.bool r.1.1,vn,vd',.bool r.2,xv]:=by rw[bt.blk c (by omega) (fun e=>by cases e)];exact blkd
     obtain⟨H8,st8,blk8,n8,oth8,ka8,lw8⟩:=Gl (H:=G3.top) (b:=c) (o:=5) (v:= .slice (some ⟨Gc.n,0,none⟩) (i+1) (i+1)) (ws:=[.slice (some ⟨Gc.n,0,none⟩) (i+1) (i+1)]) sEsl b3 rfl rfl (by simp) rfl;have n8':H8.n=G3.n:=n8;have e3:=bt.n;refine⟨H8,st8,by omega,?_,?_,by omega,fun j hj hjc=>?_,?_,?_⟩;·rw[lw8];show min G3.n c<G3.n;omega
     ·have:Keep H G3:=ka H (kH.trans kac) (by omega);exact Zo6 ka8 H this (by omega)
     ·show H8.blk j=_;rw[oth8 j hjc];show G3.blk j=_;have e1:=(bt.blk j (by omega) (fun e=>by cases e)).trans (othd j (by show j<Gc.n;omega) (fun e=>by have:=own.blk e;omega));rw[e1];show Gc.blk j=_;rw[kac.blk _ (by omega)];exact oth j hj hjc
     ·show H8.blk c=_;rw[blk8];rfl
     ·refine ownd.agr (by show Hd.n≤H8.n;omega) fun j hj1 hj2=>?_;show H8.blk j=_;rw[oth8 j (by omega)];exact bt.blk j hj2 (fun e=>by cases e)
    refine Ja (fun s'=>s'.k=70∧ ∃G3 H8,Xk Tryz.prog G3.top 66 (.pointer (some ⟨c,5,none⟩)) (.slice (some ⟨Gc.n,0,none⟩) (i+1) (i+1))=some H8∧But none Hd G3∧KAt nh Gc G3∧s'.H=low G3 H8∧s'.tm.get 2=some (.pointer (some ⟨H.n+1,0,none⟩))∧s'.tm.get 5=some (.pointer (some ⟨c,0,none⟩))∧s'.tm.get 55=some vx∧s'.tm.get 56=some (.int .i64 (m0:Int))∧s'.tm.get 57=some (.int .i64 (i:Int))) ?_ ?_
    ·intro Q'' hQ'';apply Zp;apply Zb;intro b4 hb4;apply Za;simp[t55,t57,ha5,hl5,zExpr,Value.cells,st5];subst hb4;apply Qd (by kernel_rfl);simp[t5,Za6];refine Zr (v:=xv) rfl rfl rfl (by rw[Ze rfl];simp[lX]) ?_;simp;refine Zr (v:= .agg us.toArray) rfl rfl rfl (by rw[Ze rfl];simp[l5]) ?_;simp;refine Zy (v:= .agg #[u0,u1,u2,u3,u4,u5]) (H2:=H6) rfl rfl rfl (by rw[Ze rfl];simp[c6]) n6 (Ya k6) ?_;rw[←hGb];generalize hms:cond (Nat.blt Hb.n H6.n) _ _=ms;have hms1:=Fb hms;simp;refine Zy (v:= .slice (some ⟨Gb.n,0,none⟩) 1 1) (H2:=Gb.top.new 6 [u0,u1,u2,u3,u4,u5]) rfl rfl rfl ?_ (Nat.le_succ _) (Nat.le_refl _) ?_;·rw[Ze (Yy fun x hx=>by rw[(hms1 x hx).1];kernel_rfl)];simp[bs];rfl
     rw[←hGc];have hbt:Nat.blt Gb.n (Gb.top.new 6 [u0,u1,u2,u3,u4,u5]).n=true:=by rw[Nat.blt_eq];exact Nat.lt_succ_self _
     rw[hbt,cond_true];have hid: ∀bits:Nat,bits.testBit 3=true→bits.testBit 4=true→ ∀x∈((4,Gb.n,(Gb.top.new 6 [u0,u1,u2,u3,u4,u5]).n)::ms),bits.testBit x.1=true:=fun bits b3 b4 x hx=>by
      rcases List.mem_cons.mp hx with e|e;·rw[e];exact b4
      ·rw[(hms1 x e).1];exact b3
     simp;cases hxb:Qj xv with
      |none=>
       refine Zy (v:= .slice (some ⟨Gc.n,0,none⟩) (i+1) (i+1)) (H2:=Hd) rfl rfl rfl ?_ (by omega) (by rw[hlw0 hxb];exact Nat.le_refl _) ?_;·rw[Ze (Yy (hid _ (by kernel_rfl) (by kernel_rfl)))];simp[hap]
       have bt:But none Hd (grown Gc Hd):=⟨rfl,fun j hj _=>by
        unfold AH.blk grown;simp only[Ze0];by_cases cj:Gc.n≤j;·rw[if_pos (by omega)];rfl
        ·rw[if_neg (by omega)];exact(othd j (by show j<Gc.n;omega) (by rw[hxb];intro e;cases e)).symm⟩;have kag:KAt nh Gc (grown Gc Hd):=(show Keep Gc (grown Gc Hd)from⟨by show Gc.n≤Hd.n;omega,Nat.min_le_left _ _,fun j hj=>by rw[bt.blk j (by omega) (fun e=>by cases e)];exact othd j hj (by rw[hxb];intro e;cases e)⟩).kat nh;obtain⟨H8,st8,n8,lw8,_⟩:=fin _ bt kag;have hbt2:Nat.blt Gc.n Hd.n=true:=by rw[Nat.blt_eq];omega
       rw[hbt2,cond_true];simp[t5,Za6];refine Xf (v:= .tuple #[]) (H2:=H8) rfl rfl (by kernel_rfl) (Yy fun x hx=>?_) ?_ n8 lw8 ?_
       ·rcases List.mem_cons.mp hx with e|e;·rw[e];kernel_rfl
        ·exact hid _ (by kernel_rfl) (by kernel_rfl) x e
       ·show Yo _ _ _ _ (grown Gc Hd).top _=_;simp[st8]
       simp;exact hQ'' _ ⟨rfl,_,H8,st8,bt,kag,rfl,by simp[t2],by simp[t5],by simp[t55],by simp[t56],by simp[t57]⟩
      |some b=>
       have hb1:=hlw1 b hxb;refine Xf (v:= .slice (some ⟨Gc.n,0,none⟩) (i+1) (i+1)) (H2:=Hd) rfl rfl (by kernel_rfl) (Yy (hid _ (by kernel_rfl) (by kernel_rfl))) ?_ (by omega) (by have h2:b<Gc.n:=hb1.2;omega) ?_;·show Yo _ _ _ _ Gc.top _=_;simp[hap]
       have bt:But none Hd (low Gc Hd):=low_but Gc Hd;have kag:KAt nh Gc (low Gc Hd):=Zo6 kad;obtain⟨H8,st8,n8,lw8,_⟩:=fin _ bt kag;have hbt2:Nat.blt Gc.n Hd.n=true:=by rw[Nat.blt_eq];omega
       rw[hbt2,cond_true];simp[t5,Za6];refine Xf (v:= .tuple #[]) (H2:=H8) rfl rfl (by kernel_rfl) (Yy fun x hx=>?_) ?_ n8 lw8 ?_
       ·rcases List.mem_cons.mp hx with e|e;·rw[e];kernel_rfl
        ·exact hid _ (by kernel_rfl) (by kernel_rfl) x e
       ·show Yo _ _ _ _ (low Gc Hd).top _=_;simp[st8]
       simp;exact hQ'' _ ⟨rfl,_,H8,st8,bt,kag,by simp[low,Nat.min_assoc],by simp[t2],by simp[t5],by simp[t55],by simp[t56],by simp[t57]⟩
    rintro⟨k,tm2,HX⟩ ⟨hk,G3,H8,st8,bt,ka,hX,u2',u5',u55,u56,u57⟩;simp only at hk hX u2' u5' u55 u56 u57;subst hk;subst hX;obtain⟨H8',st8',q1,q2,q3,q4,q5,q6,q7⟩:=fin G3 bt ka;obtain rfl:H8'=H8:=Option.some.inj (st8'.symm.trans st8);apply Za;simp[u57,Eg (x:=i) (by omega)];apply hQ';exact⟨m-1,by omega,rfl,q3,q4,q5,i+1,.slice (some ⟨Gc.n,0,none⟩) (i+1) (i+1),by omega,q6,q7,by simp[u2'],by simp[u5'],by simp[u55],by simp[u56],by simp⟩
   ·refine Zb fun b3 hb3=>?_;refine Zc (t:=false) (by simp[hi]) ?_;apply Xu;apply hQ';left;refine⟨rfl,?_⟩;obtain rfl:i=m0:=by omega
    rw[List.take_of_length_le (by omega)]at own;have lF:Yk Tryz.prog Ha 68 (.pointer (some ⟨c,0,none⟩))=some (.agg #[.int .i64 op,.bool r.1.1,vn,vd',.bool r.2,xv]):=load_e (o:=0) (vs:=[.int .i64 op,.bool r.1.1,vn,vd',.bool r.2,xv]) (by unfold AH.cells;rw[blkc]) rfl rfl;have on1:=own.one1.1;have resb:Ha.blk (H.n+1)= .rw 1 [.int .i64 0,.bool false,.slice none 0 0,.slice none 0 0,.bool false,.slice none 0 0]:=by rw[oth _ (by omega) (by omega)];exact res
    obtain⟨H9,st9,blk9,n9,oth9,ka9,_⟩:=Gl (H:=Ha) (b:=H.n+1) (o:=0) (v:= .agg #[.int .i64 op,.bool r.1.1,vn,vd',.bool r.2,xv]) (ws:=[.int .i64 op,.bool r.1.1,vn,vd',.bool r.2,xv]) sE resb rfl rfl (by simp) (by simp only[List.all_cons,List.all_nil,sn.1.one1,sd.1.one1,on1,Bool.and_true];rfl);have lR:Yk Tryz.prog H9 68 (.pointer (some ⟨H.n+1,0,none⟩))=some (.agg #[.int .i64 op,.bool r.1.1,vn,vd',.bool r.2,xv]):=load_e (o:=0) (vs:=[.int .i64 op,.bool r.1.1,vn,vd',.bool r.2,xv]) (by unfold AH.cells;rw[blk9]) rfl rfl;subst hb1;apply Zb;intro b1 hb1;apply Za;simp[t5,lF,t2,st9];subst hb1;apply Zi;simp[t2,lR];have ag:Agr (fun j=>H.n+2≤j∧j≠c) HH H9:=by refine⟨by omega,fun j hj hjn=>?_⟩;rw[oth9 j (by omega)];exact oth j (by omega) hj.2
    refine⟨ka9 H kH (by omega),.mk ⟨sn.1.agr sn.2 ag,fun b hb=>by have:=(sn.2 b hb).1;omega⟩ ⟨sd.1.agr sd.2 ag,fun b hb=>by have:=(sd.2 b hb).1;omega⟩ ?_⟩;exact(own.agr (H':=H9) (by omega) fun j hj _=>oth9 j (by omega)).rxs (by omega)
end
theorem Zn5{H:AH}{va vb:Value}{xs ys:List Nat}(ha:Sl H va xs)(hb:Sl H vb ys)(dx:Dig B64 xs)(dy:Dig B64 ys)(lx:xs.length≤Lim)(ly:ys.length≤Lim): ∃v1 v2 H1 H2,Zo Tryz.prog Zl 120 [va] H=some (v1,H1)∧Zo Tryz.prog Zl 120 [vb] H1=some (v2,H2)∧Keep H H2∧Own H.n H2 v1 (ds B64 (dv B64 xs))∧Own H.n H2 v2 (ds B64 (dv B64 ys))∧Cy v1 v2:=by obtain⟨v1,H1,h1,k1,o1⟩:=Ku ha (Nat.le_trans lx (by decide));obtain⟨v2,H2,h2,k2,o2⟩:=Ku (hb.keep k1) (Nat.le_trans ly (by decide));rw[Jb Ym dx]at o1;rw[Jb Ym dy]at o2;exact⟨v1,v2,H1,H2,h1,h2,k1.trans k2,o1.mono (Nat.le_refl _) k2,o2.mono k1.n (.refl _),Fq o1 o2 (Nat.le_refl _)⟩
theorem Zf1{n0:Nat}{H:AH}{va vb:Value}{A B:Nat}(ha:Own n0 H va (ds B64 A))(hb:Sl H vb (ds B64 B))(hn0:n0≤H.n)(lA:(ds B64 A).length≤Lim)(lB:(ds B64 B).length≤Lim)(hB:0<B): ∃q r H',Zo Tryz.prog Zl 193 [va,vb] H=some (.tuple #[q,r],H')∧Keep H H'∧Own H.n H' q (ds B64 (A/B))∧Own n0 H' r (ds B64 (A%B))∧Cy q r:=by obtain⟨v,H',hc,k,q,r,e,o1,o2,ap⟩:=divide_spec ha hb hn0 (Xg Ym A) (Xg Ym B) (Dc Ym A) (Dc Ym B) (Nat.le_trans lA (by decide)) (Nat.le_trans lB (by decide)) ((Ko Ym).mpr hB);subst e;rw[Xy Ym,Xy Ym]at o1 o2;exact⟨q,r,H',hc,k,o1,o2,ap⟩
theorem Vk{H:AH}{v:Value}{A:Nat}(h:Sl H v (ds B64 A))(lA:(ds B64 A).length≤Lim):Zo Tryz.prog Zl 123 [v] H=some (.int .i64 (Zg A:Int),H):=by obtain⟨_,_,hc,rfl,rfl⟩:=Kh h (Xg Ym A) (Nat.le_trans lA (by decide));rw[Xy Ym]at hc;exact hc
theorem Zg5{x:Nat} :Zd .gtr .i64 (x:Int) 67108864=some (.bool (decide (67108864<x))):=Kl (y:=67108864)
section
attribute [-simp] Int.natCast_add Int.natCast_mul Int.natCast_ediv Int.natCast_emod Int.natCast_pow
attribute [local simp] strip Yj LW' LR gW Yo Xi Ye Xj Yt Xh Zv Zw Zn Yv Xd Yp Yu Zm Xe Zj opd Qi Ys plain Yn Tr.get_set Qg Zu Xv Yg sameKind undef Zx Yw Xc Zs Qb Jw Yf parts Jp unV DW Xp Yc LX Yb
section
variable {H : AH} {va vb : Value} {xs ys : List Nat}
def BothIs(n0:Nat)(A B:Nat)(v:Value)(H':AH):Prop:=(B=0∧v= .tuple #[.slice none 0 0,.slice none 0 0,.int .i64 30])∨(0<B∧(67108864<Zg (A/B)∨67108864<Zg (A%B))∧v= .tuple #[.slice none 0 0,.slice none 0 0,.int .i64 3])∨(0<B∧Zg (A/B)≤67108864∧Zg (A%B)≤67108864∧ ∃q r,v= .tuple #[q,r,.int .i64 0]∧Own n0 H' q (ds B64 (A/B))∧Own n0 H' r (ds B64 (A%B))∧Cy q r)
theorem both_spec(ha:Sl H va xs)(hb:Sl H vb ys)(dx:Dig B64 xs)(dy:Dig B64 ys)(lx:xs.length≤Lim)(ly:ys.length≤Lim):CW Tryz.prog Zl 200 [va,vb] H fun v H'=>Keep H H'∧BothIs H.n (dv B64 xs) (dv B64 ys) v H':=by
 refine Zf 32 (by decide) (by decide) Tryz.func200 rfl rfl ?_;obtain⟨v1,v2,H1,H2,c1,c2,k2,o1,o2,ap⟩:=Zn5 ha hb dx dy lx ly;have lA:=Nat.le_trans (Gn dx) lx;have lB:=Nat.le_trans (Gn dy) ly;generalize dv B64 xs=A at*;generalize dv B64 ys=B at*;have l2:=o2.sl.len Zs;apply Zb;intro b1 hb1;apply Za;simp;subst hb1;apply Zb;intro b1 hb1;apply Za;simp[c1,c2];subst hb1;apply Zb;intro b1 hb1;apply Zb;intro b2 hb2;apply Za;simp[l2,Vw,Ub Ym];subst hb2;by_cases hB:B=0;·refine Zc (t:=true) (by simp[hB]) ?_;apply Zb;intro b2 hb2;apply Za;simp;subst hb2;apply Zi;simp[Xb];exact⟨k2,.inl ⟨hB,rfl⟩⟩
 ·refine Zc (t:=false) (by simp[hB]) ?_;apply Zh;subst hb1;have hB0:0<B:=by omega
  obtain⟨q,r,H3,c3,k3,oq,orr,apq⟩:=Zf1 o1 o2.sl k2.n lA lB hB0;have lq:(ds B64 (A/B)).length≤Lim:=Nat.le_trans (Fv Ym (Nat.div_le_self A B)) lA;have lr:(ds B64 (A%B)).length≤Lim:=Nat.le_trans (Fv Ym (Nat.mod_le A B)) lA;have c4:=Vk oq.sl lq;have c5:=Vk orr.sl lr;apply Zb;intro b1 hb1;apply Za;simp[c3];subst hb1;apply Zb;intro b1 hb1;apply Zb;intro b2 hb2;apply Za;by_cases h1:67108864<Zg (A/B);·simp[c4,Zg5,h1];subst hb2;refine Zc (t:=true) (by simp) ?_;apply Zb;intro b2 hb2;apply Za;simp;subst hb2;apply Zi;simp[Xb];exact⟨k2.trans k3,.inr (.inl ⟨hB0,.inl h1,rfl⟩)⟩
  ·by_cases h2:67108864<Zg (A%B);·simp[c4,c5,Zg5,h1,h2];subst hb2;refine Zc (t:=true) (by simp) ?_;apply Zb;intro b2 hb2;apply Za;simp;subst hb2;apply Zi;simp[Xb];exact⟨k2.trans k3,.inr (.inl ⟨hB0,.inr h2,rfl⟩)⟩
   ·simp[c4,c5,Zg5,h1,h2];subst hb2;refine Zc (t:=false) (by simp) ?_;apply Zh;subst hb1;apply Zb;intro b2 hb2;apply Za;simp;subst hb2;apply Zi;simp;exact⟨k2.trans k3,.inr (.inr ⟨hB0,by omega,by omega,q,r,rfl,oq.mono k2.n (.refl _),orr,apq⟩)⟩
def OneIs(n0:Nat)(B Z:Nat)(v:Value)(H':AH):Prop:=(B=0∧v= .tuple #[.slice none 0 0,.int .i64 30])∨(0<B∧67108864<Zg Z∧v= .tuple #[.slice none 0 0,.int .i64 3])∨(0<B∧Zg Z≤67108864∧ ∃q,v= .tuple #[q,.int .i64 0]∧Own n0 H' q (ds B64 Z))
theorem quo_spec(ha:Sl H va xs)(hb:Sl H vb ys)(dx:Dig B64 xs)(dy:Dig B64 ys)(lx:xs.length≤Lim)(ly:ys.length≤Lim):CW Tryz.prog Zl 141 [va,vb] H fun v H'=>Keep H H'∧OneIs H.n (dv B64 ys) (dv B64 xs/dv B64 ys) v H':=by
 refine Zf 25 (by decide) (by decide) Tryz.func141 rfl rfl ?_;obtain⟨v1,v2,H1,H2,c1,c2,k2,o1,o2,ap⟩:=Zn5 ha hb dx dy lx ly;have lA:=Nat.le_trans (Gn dx) lx;have lB:=Nat.le_trans (Gn dy) ly;generalize dv B64 xs=A at*;generalize dv B64 ys=B at*;have l2:=o2.sl.len Zs;apply Zb;intro b1 hb1;apply Za;simp;subst hb1;apply Zb;intro b1 hb1;apply Za;simp[c1,c2];subst hb1;apply Zb;intro b1 hb1;apply Zb;intro b2 hb2;apply Za;simp[l2,Vw,Ub Ym];subst hb2;by_cases hB:B=0;·refine Zc (t:=true) (by simp[hB]) ?_;apply Zb;intro b2 hb2;apply Za;simp;subst hb2;apply Zi;simp[Xb];exact⟨k2,.inl ⟨hB,rfl⟩⟩
 ·refine Zc (t:=false) (by simp[hB]) ?_;apply Zh;subst hb1;have hB0:0<B:=by omega
  obtain⟨q,r,H3,c3,k3,oq,orr,apq⟩:=Zf1 o1 o2.sl k2.n lA lB hB0;have lq:(ds B64 (A/B)).length≤Lim:=Nat.le_trans (Fv Ym (Nat.div_le_self A B)) lA;have c4:=Vk oq.sl lq;apply Zb;intro b1 hb1;apply Za;simp[c3];subst hb1;apply Zb;intro b1 hb1;apply Zb;intro b2 hb2;apply Za;simp[c4,Zg5];subst hb2;by_cases h1:67108864<Zg (A/B);·refine Zc (t:=true) (by simp[h1]) ?_;apply Zb;intro b2 hb2;apply Za;simp;subst hb2;apply Zi;simp[Xb];exact⟨k2.trans k3,.inr (.inl ⟨hB0,h1,rfl⟩)⟩
  ·refine Zc (t:=false) (by simp[h1]) ?_;apply Zh;subst hb1;apply Zb;intro b2 hb2;apply Za;simp;subst hb2;apply Zi;simp;exact⟨k2.trans k3,.inr (.inr ⟨hB0,by omega,q,rfl,oq.mono k2.n (.refl _)⟩)⟩
theorem gcd_spec(ha:Sl H va xs)(hb:Sl H vb ys)(dx:Dig B64 xs)(dy:Dig B64 ys)(lx:xs.length≤Lim)(ly:ys.length≤Lim):CW Tryz.prog Zl 139 [va,vb] H fun v H'=>Keep H H'∧Own H.n H' v (ds B64 (Nat.gcd (dv B64 xs) (dv B64 ys))):=by
 refine Zf 23 (by decide) (by decide) Tryz.func139 rfl rfl ?_;obtain⟨v1,v2,H1,H2,c1,c2,k2,o1,o2,ap⟩:=Zn5 ha hb dx dy lx ly;have lA:=Nat.le_trans (Gn dx) lx;have lB:=Nat.le_trans (Gn dy) ly;generalize dv B64 xs=A at*;generalize dv B64 ys=B at*;apply Zb;intro b1 hb1;apply Za;simp;subst hb1;apply Zb;intro b1 hb1;apply Za;simp[c1,c2];subst hb1;apply Zb;intro b1 hb1;apply Zp;refine Xt (fun m s'=>s'.k=23∧Keep H s'.H∧ ∃(a:Nat) (av bv:Value),Nat.gcd a m=Nat.gcd A B∧(ds B64 a).length≤Lim∧(ds B64 m).length≤Lim∧Own H.n s'.H av (ds B64 a)∧Own H.n s'.H bv (ds B64 m)∧s'.tm.get 0=some av∧s'.tm.get 1=some bv) ?_ B _ ⟨rfl,k2,A,v1,v2,rfl,lA,lB,o1,o2,by simp,by simp⟩;rintro m ⟨k,tm,H3⟩ ⟨hk,k3,a,av,bv,hg,la,lm,oa,ob,t0,t1⟩ Q' hQ';simp only at hk k3 oa ob t0 t1;subst hk;have lb:=ob.sl.len Zs;apply Zb;intro b3 hb3;apply Zb;intro b4 hb4;apply Za;simp[t1,lb,gtr0,Ko Ym];subst hb4;by_cases hm:0<m;·refine Zc (t:=true) (by simp[hm]) ?_;apply Zh;subst hb3;obtain⟨q,r,H4,c4,k4,oq,orr,apq⟩:=Zf1 oa ob.sl k3.n la lm hm;apply Zp;apply Zb;intro b3 hb3;apply Za;simp[t0,t1,c4];subst hb3;apply Za;simp[t1];apply hQ';refine⟨a%m,Nat.mod_lt _ hm,rfl,k3.trans k4,m,bv,r,?_,lm,Nat.le_trans (Fv Ym (Nat.mod_le a m)) la,ob.mono (Nat.le_refl _) k4,orr,by simp,by simp⟩;show Nat.gcd m (a%m)=_;rw[←hg,Nat.gcd_comm a m,Nat.gcd_rec m a,Nat.gcd_comm]
 ·refine Zc (t:=false) (by simp[hm]) ?_;apply Xu;apply hQ';left;refine⟨rfl,?_⟩;obtain rfl:m=0:=by omega
  rw[Nat.gcd_zero_right]at hg;subst hb1;apply Zb;intro b4 hb4;apply Za;simp[t0];subst hb4;apply Zi;simp;rw[←hg];exact⟨k3,oa⟩
end
end
theorem Sl.part'{H:AH}{v:Value}{xs:List Nat}(h:Sl H v xs){t:TypeId}(ht:LT t){j m:Nat}(hm:j+m≤xs.length)(h0:j<xs.length): ∃w,Kq Tryz.prog H t v (some (.int .i64 (j:Int))) (some (.int .i64 ((j+m:Nat):Int))) none=some w∧Sl H w ((xs.drop j).take m)∧Qj w=Qj v:=by cases h with
 |nil=>simp at h0
 |emp b=>simp at h0
 |mk b o cap xs h1 h2=>
  have hl:((xs.drop j).take m).length=m:=by rw[List.length_take,List.length_drop];omega
  obtain⟨h2a,cs,h3,h4,h5⟩:=h2;refine⟨.slice (some ⟨b,o+j,none⟩) ((xs.drop j).take m).length (cap-j),?_,.mk b (o+j) (cap-j) _ (by omega) ⟨h2a,cs,h3,h4,fun i x hx=>?_,by have:=(List.getElem?_eq_some_iff.mp (h5.1 j _ (List.getElem?_eq_getElem h0))).1;omega⟩,rfl⟩
  ·unfold Kq;simp only[ht.1,sU64];unfold cutV Jc;simp only[h4,Option.isSome_some,Option.isNone_none,Bool.true_or];rw[if_pos (by omega)];have e1:Nat.ble (j+m) cap=true:=Nat.ble_eq.mpr (by omega);have e2:Nat.blt j cap=true:=by rw[Nat.blt_eq];omega
   simp only[Jc,Int.toNat_natCast];rw[if_pos (by omega)];simp[e1,e2,hl]
  ·rw[List.getElem?_take]at hx;split at hx;·rw[List.getElem?_drop]at hx;have:=h5.1 (j+i) x hx;rwa[←Nat.add_assoc]at this
   ·cases hx
section
attribute [-simp] Int.natCast_add Int.natCast_mul Int.natCast_ediv Int.natCast_emod Int.natCast_pow
attribute [local simp] strip Yj LW' LR gW Yo Xi Ye Xj Yt Xh Zv Zw Zn Yv Xd Yp Yu Zm Xe Zj opd Qi Ys plain Yn Tr.get_set Qg Zu Xv Yg sameKind undef Zx Yw Xc Zs Qb Jw Yf parts Jp unV DW Xp Yc LX Yb
end
theorem dv_set(B:Nat): ∀(xs:List Nat)(i y:Nat)(h:i<xs.length),dv B (xs.set i y)+B^i*xs[i]=dv B xs+B^i*y
 |x::xs,0,y,_=>by simp[dv];omega
 |x::xs,i+1,y,h=>by
  have h':i<xs.length:=by simpa using h
  have ih:=dv_set B xs i y h';simp only[List.set_cons_succ,dv,List.getElem_cons_succ,Nat.pow_succ];have e:B*(dv B (xs.set i y)+B^i*xs[i])=B*(dv B xs+B^i*y):=by rw[ih]
  rw[Nat.mul_add,Nat.mul_add]at e;rw[Nat.mul_comm (B^i) B,Nat.mul_assoc,Nat.mul_assoc];omega
theorem Dig.set{B:Nat}{xs:List Nat}(h:Dig B xs){i y:Nat}(hy:y<B):Dig B (xs.set i y):=fun x hx=>by
 rcases List.mem_or_eq_of_mem_set hx with h'|h';·exact h x h'
 ·rw[h'];exact hy
theorem dv_zero_of{B:Nat} : ∀{xs:List Nat},(∀x∈xs,x=0)→dv B xs=0|[],_=>rfl|x::xs,h=>by simp only[dv];rw[h x (List.mem_cons_self ..),dv_zero_of fun y hy=>h y (List.mem_cons_of_mem _ hy)];simp
theorem nth_set{xs:List Nat}{i j y:Nat}(h:i≠j):nth (xs.set i y) j=nth xs j:=by unfold nth;rw[List.getElem?_set,if_neg h]
theorem Sl.partAny{H:AH}{v:Value}{xs:List Nat}(h:Sl H v xs){t:TypeId}(ht:LT t){f m:Nat}(hm:f+m≤xs.length)(h0:0<xs.length): ∃w,Kq Tryz.prog H t v (some (.int .i64 (f:Int))) (some (.int .i64 ((f+m:Nat):Int))) none=some w∧Sl H w ((xs.drop f).take m):=by
 by_cases hf:f<xs.length;·obtain⟨w,h1,h2,_⟩:=h.part' ht hm hf;exact⟨w,h1,h2⟩
 ·have hfe:f=xs.length:=by omega
  have hm0:m=0:=by omega
  subst hm0;rw[List.take_zero];cases h with
   |nil=>simp at h0
   |emp b=>simp at h0
   |mk b o cap xs h1 h2=>
    obtain⟨h2a,cs,h3,h4,h5⟩:=h2;by_cases hc:f<cap
    ·refine⟨.slice (some ⟨b,o+f,none⟩) 0 (cap-f),?_,.mk b (o+f) (cap-f) [] (Nat.zero_le _) ⟨h2a,cs,h3,h4,fun i x hx=>by simp at hx,by have:=(list_of h0 h5.1).1;omega⟩⟩;unfold Kq;simp only[ht.1,sU64];unfold cutV Jc;simp only[h4,Option.isSome_some,Option.isNone_none,Bool.true_or];rw[if_pos (by omega)];have e1:Nat.ble f cap=true:=Nat.ble_eq.mpr (by omega);have e2:Nat.blt f cap=true:=by rw[Nat.blt_eq];omega
     simp only[Jc,Int.toNat_natCast];rw[if_pos (by omega)];simp[e1,e2]
    ·refine⟨.slice (some ⟨b,0,some 0⟩) 0 0,?_,.emp b⟩;unfold Kq;simp only[ht.1,sU64];unfold cutV Jc;simp only[h4,Option.isSome_some,Option.isNone_none,Bool.true_or];rw[if_pos (by omega)];have e1:Nat.ble f cap=true:=Nat.ble_eq.mpr (by omega);have e2:Nat.blt f cap=false:=by cases hb:Nat.blt f cap with|false=>rfl|true=>rw[Nat.blt_eq]at hb;omega
     have e3:Nat.beq f 0=false:=Qw (by omega);simp only[Jc,Int.toNat_natCast];rw[if_pos (by omega)];simp[e1,e2,e3]
theorem Own.copy{n:Nat}{H:AH}{v w:Value}{zs xs:List Nat}(h:Own n H v zs)(hw:Sl H w xs)(hl:xs.length≤zs.length){t t2:TypeId}(ht:LT t)(ht2:LT t2): ∃u H',copyV Tryz.prog H t t2 v w=some (u,H')∧Own n H' v (xs++zs.drop xs.length)∧But (Qj v) H H'∧KA n H H':=by
 have hc:Js H 1 w xs.length=some (xs.map Ff):=by
  rcases Nat.eq_zero_or_pos xs.length with h0|h0;·obtain rfl:xs=[]:=List.length_eq_zero_iff.mp h0;generalize hz:([]:List Nat)=ys at hw;cases hw with|nil=>rfl|emp b=>rfl|mk b o cap xs h1 h2=>subst hz;obtain⟨_,cs,h3,h4,h5⟩:=h2;have:Nat.ble o cs.length=true:=Nat.ble_eq.mpr h5.2;simp[Js,AH.read_def,h3,this]
  ·exact hw.cells h0
 obtain⟨a2,cap2,rfl⟩: ∃a cap,w= .slice a xs.length cap:=by cases hw<;>exact⟨_,_,rfl⟩
 cases h with
  |nil=>obtain rfl:xs=[]:=List.length_eq_zero_iff.mp (by simpa using hl);refine⟨.int .i64 0,H,?_,by simpa using Own.nil,.refl _ _,.refl _ _⟩;simp[copyV,ht.2,ht2.2]
  |mk b o cap zs cs h1 h2 h3 h4 h5 h6=>
   have hmin:Nat.min xs.length zs.length=xs.length:=Nat.min_eq_left hl;have hle:Nat.ble (o+xs.length) cs.length=true:=Nat.ble_eq.mpr (by omega);have hw2:H.write b o (xs.map Ff)=some { n:=H.n,lw:=min H.lw b,t:=H.t.set b (.rw 1 (cs.take o++xs.map Ff++cs.drop (o+xs.length))) } :=by rw[AH.write_def,h4];simp only[List.length_map,hle,one_limbs,Bool.and_self,cond_true]
   obtain⟨H',hH'⟩: ∃H':AH,H'= { n:=H.n,lw:=min H.lw b,t:=H.t.set b (.rw 1 (cs.take o++xs.map Ff++cs.drop (o+xs.length))) } :=⟨_,rfl⟩;rw[←hH']at hw2;have hblk: ∀j,H'.blk j=if j=b then .rw 1 (cs.take o++xs.map Ff++cs.drop (o+xs.length))else H.blk j:=fun j=>by
    rw[hH'];show(match(H.t.set b _).get j with|some b=>b|none=>Blk.dead)=_;rw[Tr.get_set];by_cases e:j=b;·rw[if_pos e,if_pos e]
    ·rw[if_neg e,if_neg e];rfl
   have hn:H'.n=H.n:=by rw[hH']
   refine⟨.int .i64 (Nat.min xs.length zs.length),H',?_,?_,⟨hn,fun j _ hj=>?_⟩,?_⟩;·unfold copyV;simp only[ht.2,ht2.2,hmin,hc,hw2]
   ·have hlen:(xs++zs.drop xs.length).length=zs.length:=by simp;omega
    rw[←hlen];refine .mk b o cap _ (cs.take o++xs.map Ff++cs.drop (o+xs.length)) (by omega) h2 (by rw[hn];exact h3) (by rw[hblk,if_pos rfl]) ?_ ?_;·simp only[List.length_append,List.length_take,List.length_drop,List.length_map];omega
    ·intro i x hi;rw[List.append_assoc,List.getElem?_append_right (by rw[List.length_take];omega),List.length_take,show o+i-min o cs.length=i by omega];rw[List.getElem?_append]at hi;rw[List.getElem?_append,List.length_map];by_cases hix:i<xs.length;·rw[if_pos hix]at hi⊢;rw[List.getElem?_map,hi];rfl
     ·rw[if_neg hix]at hi⊢;rw[List.getElem?_drop]at hi⊢;have:=h6 _ x hi;rw[show o+xs.length+(i-xs.length)=o+(xs.length+(i-xs.length)) by omega];exact this
   ·rw[hblk,if_neg (fun e=>hj (by rw[e];rfl))]
   ·intro H0 k hn0;have:=k.lw;refine⟨by rw[hn];exact k.n,by rw[hH'];show min H0.lw H0.n≤min H.lw b;omega,fun j hj=>?_⟩;rw[hblk,if_neg (by omega)];exact k.blk j hj
theorem min_nat(a b:Nat):Dd false [.int .i64 (a:Int),.int .i64 (b:Int)]=some (.int .i64 ((min a b:Nat):Int)):=by
 unfold Dd;simp only[sameKind];show some (Value.int .i64 (if(b:Int)<(a:Int)then(b:Int)else(a:Int)))=_;by_cases h:b<a;·rw[if_pos (by omega),Nat.min_eq_right (by omega)]
 ·rw[if_neg (by omega),Nat.min_eq_left (by omega)]
theorem max_nat(a b:Nat):Dd true [.int .i64 (a:Int),.int .i64 (b:Int)]=some (.int .i64 ((max a b:Nat):Int)):=by
 unfold Dd;simp only[sameKind];show some (Value.int .i64 (if(a:Int)<(b:Int)then(b:Int)else(a:Int)))=_;by_cases h:a<b;·rw[if_pos (by omega),Nat.max_eq_right (by omega)]
 ·rw[if_neg (by omega),Nat.max_eq_left (by omega)]
theorem Own.fillAt{n:Nat}{H:AH}{v:Value}{L zs:List Nat}{i:Nat}(h:Own n H v (L++zs.drop i))(hL:L.length=i)(hi:i<zs.length)(y:Nat): ∃H',Xk Tryz.prog H 101 (adr v i) (.int .u64 (y:Int))=some H'∧Own n H' v ((L++[y])++zs.drop (i+1))∧But (Qj v) H H'∧KA n H H':=by obtain⟨H',h1,h2,h3,h4,h5⟩:=h.put (i:=i) (by simp;omega) y;refine⟨H',h1,?_,⟨h3,fun j _ hj=>h4 j hj⟩,h5⟩;rw[List.drop_eq_getElem_cons hi,Ux _ _ _ _ hL]at h2;simpa using h2
theorem Own.loadAt{n:Nat}{H:AH}{v:Value}{L zs:List Nat}{i:Nat}(h:Own n H v (L++zs.drop i))(hL:L.length=i)(hi:i<zs.length):Yk Tryz.prog H 101 (adr v i)=some (.int .u64 (nth zs i:Int)):=by have:=h.sl.load (i:=i) (by simp;omega);rw[this,Jy hi];congr 3;rw[List.getElem_append_right (by omega)];simp[hL]
section
attribute [-simp] Int.natCast_add Int.natCast_mul Int.natCast_ediv Int.natCast_emod Int.natCast_pow
attribute [local simp] strip Yj LW' LR gW Yo Xi Ye Xj Yt Xh Zv Zw Zn Yv Xd Yp Yu Zm Xe Zj opd Qi Ys plain Yn Tr.get_set Qg Zu Xv Yg sameKind undef Zx Yw Xc Zs Qb Jw Yf parts Jp unV DW Xp Yc LX Yb
def segL(xs:List Nat)(f t:Nat):List Nat:=Xl ((xs.drop (min f xs.length)).take (min t xs.length-min f xs.length))
theorem part_spec{H:AH}{v:Value}{xs:List Nat}(hv:Sl H v xs)(h0:0<xs.length)(lx:xs.length≤17592186044416){f t:Nat}(hft:f≤t):CW Tryz.prog Zl 225 [v,.int .i64 (f:Int),.int .i64 (t:Int)] H fun v' H'=>H'=H∧Sl H v' (segL xs f t):=by
 refine Zf 32 (by decide) (by decide) Tryz.func225 rfl rfl ?_;have l1:=hv.len Zs;obtain⟨f',hf'⟩: ∃f',f'=min f xs.length:=⟨_,rfl⟩;obtain⟨t',ht'⟩: ∃t',t'=min t xs.length:=⟨_,rfl⟩;have m1:=min_nat f xs.length;have m2:=min_nat t xs.length;rw[←hf']at m1;rw[←ht']at m2;have hle:f'≤t':=by omega
 have htl:t'≤xs.length:=by omega
 unfold segL;rw[←hf',←ht'];apply Zb;intro b1 hb1;apply Za;simp;subst hb1;apply Zb;intro b1 hb1;apply Za;simp[l1,m1,m2];subst hb1;apply Zb;intro b1 hb1;apply Zp;refine Xt (fun m s=>s.k=32∧s.H=H∧f'+m≤t'∧Xl ((xs.drop f').take m)=Xl ((xs.drop f').take (t'-f'))∧s.tm.get 0=some v∧s.tm.get 1=some (.int .i64 (f':Int))∧s.tm.get 2=some (.int .i64 ((f'+m:Nat):Int))) ?_ (t'-f') _ ⟨rfl,rfl,by omega,rfl,by simp,by simp,by simp;omega⟩;rintro m ⟨k,tm,H'⟩ ⟨hk,hH,hm,ht,t0,t1,t2⟩ Q' hQ';simp only at hk hH t0 t1 t2;subst hk;subst hH;apply Zb;intro b2 hb2;apply Zb;intro b3 hb3;apply Za;have fin: ∀tm':Tr Value,tm'.get 0=some v→tm'.get 1=some (.int .i64 (f':Int))→tm'.get 2=some (.int .i64 ((f'+m:Nat):Int))→Xl ((xs.drop f').take m)=(xs.drop f').take m→Q' (.exit 0) ⟨32,tm',H'⟩:=fun tm' t0 t1 t2 he=>by apply hQ';left;refine⟨rfl,?_⟩;subst hb1;obtain⟨w,c1,c2⟩:=hv.partAny Zs (f:=f') (m:=m) (by omega) h0;apply Zb;intro b4 hb4;apply Za;simp[t0,t1,t2,c1];subst hb4;apply Zi;simp;rw[←ht,he];exact c2
 by_cases hz:m=0
 ·have g0:Zd .gtr .i64 ((f'+m:Nat):Int) (f':Int)=some (.bool false):=by rw[Kl,decide_eq_false];omega
  simp[t1,t2,g0];subst hb3;refine Zc (t:=false) (by simp) ?_;apply Xu;exact fin _ (by simp[t0]) (by simp[t1]) (by simp[t2]) (by rw[hz];rfl)
 ·have g0:Zd .gtr .i64 ((f'+m:Nat):Int) (f':Int)=some (.bool true):=by rw[Kl,decide_eq_true];omega
  have hi:f'+m-1<xs.length:=by omega
  have a1:=hv.adr Zs (k:= .i64) hi;have d1:=hv.load hi;have htake:(xs.drop f').take m=(xs.drop f').take (m-1)++[xs[f'+m-1]]:=by have:=Qy (xs:=xs.drop f') (i:=m-1) (by rw[List.length_drop];omega);rw[show m-1+1=m by omega]at this;rw[this,List.getElem_drop];congr 3;omega
  have s1:Zd .sub .i64 ((f'+m:Nat):Int) 1=some (.int .i64 ((f'+m-1:Nat):Int)):=Fe (by omega) (by omega);simp[t0,t1,t2,g0,s1,a1,d1,Vw];subst hb3;by_cases h0:xs[f'+m-1]=0;·refine Zc (t:=true) (by simp[h0]) ?_;apply Zh;subst hb2;apply Zp;apply Za;simp[t2,s1];apply hQ';refine⟨m-1,by omega,rfl,rfl,by show f'+(m-1)≤t';omega,?_,by simp[t0],by simp[t1],by simp;omega⟩;rw[←ht,htake,h0,Gg]
  ·refine Zc (t:=false) (by simp[h0]) ?_;apply Xu;exact fin _ (by simp[t0]) (by simp[t1]) (by simp[t2]) (by rw[htake];exact Bn _ _ h0)
theorem Es{n0:Nat}{H:AH}{va vb:Value}{zs ys:List Nat}{a:Nat}(ha:Own n0 H va zs)(hb:Sl H vb ys)(ap:Cy va vb)(dz:Dig B64 zs)(dy:Dig B64 ys)(lz:zs.length≤17592186044416)(ly:ys.length≤17592186044416)(haz:a≤zs.length)(room:dv B64 zs+B64^a*dv B64 ys<B64^zs.length):CW Tryz.prog Zl 224 [va,vb,.int .i64 (a:Int)] H fun v' H'=>But (Qj va) H H'∧KA n0 H H'∧ ∃zs',zs'.length=zs.length∧Dig B64 zs'∧dv B64 zs'=dv B64 zs+B64^a*dv B64 ys∧Own n0 H' va zs':=by
 refine Zf 53 (by decide) (by decide) Tryz.func224 rfl rfl ?_;have l2:=hb.len Zs;apply Zb;intro b1 hb1;apply Za;simp;subst hb1;apply Zb;intro b1 hb1;apply Za;simp;subst hb1;apply Zp;refine Xt (fun m s=>s.k=53∧But (Qj va) H s.H∧KA n0 H s.H∧ ∃(i c:Nat) (L:List Nat),m+i=zs.length∧a≤i∧L.length=i∧c≤1∧Dig B64 L∧dv B64 L+B64^i*c=dv B64 (zs.take i)+B64^a*dv B64 (ys.take (i-a))∧Own n0 s.H va (L++zs.drop i)∧s.tm.get 0=some va∧s.tm.get 1=some vb∧s.tm.get 2=some (.int .i64 (a:Int))∧s.tm.get 6=some (.int .u64 (c:Int))∧s.tm.get 7=some (.int .i64 (i:Int))) ?_ (zs.length-a) _ ⟨rfl,.refl _ _,.refl _ _,a,0,zs.take a,by omega,Nat.le_refl _,by rw[List.length_take];omega,by omega,dz.take a,by simp[dv],by rw[List.take_append_drop];exact ha,by simp,by simp,by simp,by simp,by simp⟩;rintro m ⟨k,tm,H2⟩ ⟨hk,bt,ka,i,c,L,hmi,hai,hL,hc,dL,heq,own,t0,t1,t2,t6,t7⟩ Q' hQ';simp only at hk bt ka own t0 t1 t2 t6 t7;subst hk;have sb:=hb.but bt ap;have l1:=own.sl.len Zs;rw[show(L++zs.drop i).length=zs.length by simp;omega]at l1;have s1:Zd .sub .i64 (i:Int) (a:Int)=some (.int .i64 ((i-a:Nat):Int)):=sub_i64 (by omega) hai;apply Zb;intro b2 hb2;apply Zb;intro b3 hb3;apply Za;have on: ∀tm':Tr Value,i<zs.length→tm'.get 25=some (.bool true)→tm'.get 0=some va→tm'.get 1=some vb→tm'.get 2=some (.int .i64 (a:Int))→tm'.get 6=some (.int .u64 (c:Int))→tm'.get 7=some (.int .i64 (i:Int))→W Tryz.prog Zl b3 ⟨53,tm',H2⟩ (Xb Tryz.prog Zl b2 Q'):=fun tm' hi t25 t0 t1 t2 t6 t7=>by
  subst hb3;refine Zc (t:=true) (by simp[t25]) ?_;apply Zh;subst hb2;obtain⟨y,hy⟩: ∃y,y=nth ys (i-a):=⟨_,rfl⟩;have hyB:y<B64:=by rw[hy];exact Ej dy (by decide) _
  obtain⟨x,hx⟩: ∃x,x=nth zs i:=⟨_,rfl⟩;have hxB:x<B64:=by rw[hx];exact Ej dz (by decide) _
  have d0:=own.loadAt hL hi;rw[←hx]at d0;have a0:=own.sl.adr Zs (k:= .i64) (i:=i) (by simp;omega);obtain⟨z,hz⟩: ∃z,z=(x+y+c)%B64:=⟨_,rfl⟩;obtain⟨c',hc'⟩: ∃c',c'=(x+y+c)/B64:=⟨_,rfl⟩;have hzc:B64*c'+z=x+y+c:=by rw[hz,hc'];exact Nat.div_add_mod _ _
  have hzB:z<B64:=by rw[hz];exact Nat.mod_lt _ (by decide)
  have hc1:c'≤1:=by
   have:c'<2:=by rw[hc',Nat.div_lt_iff_lt_mul (by decide)];omega
   omega
  have ac:Zo Tryz.prog Zl 203 [.int .u64 (x:Int),.int .u64 (y:Int),.int .u64 (c:Int)] H2=some (.tuple #[.int .u64 (z:Int),.int .u64 (c':Int)],H2):=by rw[hz,hc'];exact Zb7 x y c H2 hc
  obtain⟨H3,st3,own3,bt3,ka3⟩:=own.fillAt hL hi z;apply Zb;intro b2 hb2;apply Zp;apply Zb;intro b3 hb3;apply Za;simp;subst hb3;refine Ja (fun s'=>s'.k=53∧s'.H=H2∧s'.tm.get 0=some va∧s'.tm.get 1=some vb∧s'.tm.get 2=some (.int .i64 (a:Int))∧s'.tm.get 6=some (.int .u64 (c:Int))∧s'.tm.get 7=some (.int .i64 (i:Int))∧s'.tm.get 8=some (.int .u64 (y:Int))) ?_ ?_
  ·intro Q'' hQ'';apply Zb;intro b3 hb3;apply Za;simp[t1,t2,t7,s1,l2];subst hb3;by_cases hb':i-a<ys.length;·refine Zc (t:=true) (by simp[hb']) ?_;have a1:=sb.adr Zs (k:= .i64) hb';have d1:=sb.load hb';rw[←Jy hb',←hy]at d1;apply Za;simp[t1,t2,t7,s1,a1,d1];apply hQ'';exact⟨rfl,rfl,by simp[t0],by simp[t1],by simp[t2],by simp[t6],by simp[t7],by simp⟩
   ·refine Zc (t:=false) (by simp[hb']) ?_;apply Zh;apply hQ'';rw[Gy (by omega)]at hy;subst hy;exact⟨rfl,rfl,by simp[t0],by simp[t1],by simp[t2],by simp[t6],by simp[t7],by simp⟩
  clear t0 t1 t2 t6 t7;rintro⟨k,tm,H4⟩ ⟨hk,hH,t0,t1,t2,t6,t7,t8⟩;simp only at hk hH t0 t1 t2 t6 t7 t8;subst hk;subst hH;apply Za;simp[t0,t6,t7,t8,a0,d0,ac,st3];subst hb2;apply Za;simp[t7,Xq (x:=i) (by omega)];apply hQ';refine⟨m-1,by omega,rfl,bt.trans bt3,ka.trans ka3,i+1,c',L++[z],by omega,by omega,by simp[hL],hc1,dL.append (.cons hzB (.nil _)),?_,own3,by simp[t0],by simp[t1],by simp[t2],by simp,by simp⟩;rw[Yz,hL,Jk,show i+1-a=(i-a)+1 by omega,Jk,←hx,←hy];simp only[dv,Nat.mul_zero,Nat.add_zero];have e1:B64^i*(B64*c'+z)=B64^i*(x+y+c):=by rw[hzc]
  rw[Nat.mul_add,←Nat.mul_assoc,show B64^i*B64=B64^(i+1)from rfl,Nat.mul_add,Nat.mul_add]at e1;have e2:B64^a*(B64^(i-a)*y)=B64^i*y:=by rw[←Nat.mul_assoc,←Nat.pow_add,show a+(i-a)=i by omega]
  rw[Nat.mul_add (B64^a),e2];omega
 have stop: ∀tm':Tr Value,(i=zs.length∨(ys.length≤i-a∧c=0))→tm'.get 25=some (.bool false)→W Tryz.prog Zl b3 ⟨53,tm',H2⟩ (Xb Tryz.prog Zl b2 Q'):=fun tm' he t25=>by
  subst hb3;refine Zc (t:=false) (by simp[t25]) ?_;apply Xu;apply hQ';left;refine⟨rfl,.inl rfl,bt,ka,L++zs.drop i,by simp;omega,dL.append (dz.drop _),?_,own⟩;have e1:=Cr B64 zs i (by omega);rw[Yz,hL];rcases he with rfl|⟨hy,rfl⟩
  ·rw[List.drop_length,List.take_length]at*;simp only[dv,Nat.mul_zero,Nat.add_zero]at*;have hys:dv B64 ys<B64^(zs.length-a):=by
    have h1:B64^a*dv B64 ys<B64^a*B64^(zs.length-a):=by rw[←Nat.pow_add,show a+(zs.length-a)=zs.length by omega];omega
    exact Nat.lt_of_mul_lt_mul_left h1
   rw[Zf5 (by decide) hys]at heq;rcases Nat.lt_or_ge c 1 with h0|h0
   ·obtain rfl:c=0:=by omega
    rw[Nat.mul_zero]at heq;omega
   ·obtain rfl:c=1:=by omega
    rw[Nat.mul_one]at heq;omega
  ·rw[List.take_of_length_le hy]at heq;rw[Nat.mul_zero]at heq;omega
 by_cases hi:i<zs.length
 ·by_cases hy:i-a<ys.length;·simp[t0,t1,t2,t6,t7,l1,l2,hi,s1,hy];show W _ _ b3 _ _;exact on _ hi (by simp) (by simp[t0]) (by simp[t1]) (by simp[t2]) (by simp[t6]) (by simp[t7])
  ·by_cases hc0:0<c;·simp[t0,t1,t2,t6,t7,l1,l2,hi,s1,hy,gtr0,hc0];show W _ _ b3 _ _;exact on _ hi (by simp) (by simp[t0]) (by simp[t1]) (by simp[t2]) (by simp[t6]) (by simp[t7])
   ·simp[t0,t1,t2,t6,t7,l1,l2,hi,s1,hy,gtr0,hc0];show W _ _ b3 _ _;exact stop _ (.inr ⟨by omega,by omega⟩) (by simp)
 ·simp[t0,t1,t2,t6,t7,l1,l2,hi];show W _ _ b3 _ _;exact stop _ (.inl (by omega)) (by simp)
def NewL(n0:Nat)(H':AH)(v:Value)(len N:Nat):Prop:= ∃zs,zs.length=len∧Dig B64 zs∧dv B64 zs=N∧Own n0 H' v zs
section
variable {H : AH} {va vb : Value} {xs ys : List Nat}
theorem Zd4(xs:List Nat)(n:Nat):dv B64 (xs++List.replicate n 0)=dv B64 xs:=by rw[Yz,Ec,Nat.mul_zero,Nat.add_zero]
theorem Cq{B:Nat}(hB:0<B)(n:Nat):Dig B (List.replicate n 0):=fun x hx=>by rw[List.eq_of_mem_replicate hx];exact hB
theorem sum_spec(ha:Sl H va xs)(hb:Sl H vb ys)(dx:Dig B64 xs)(dy:Dig B64 ys)(lx:xs.length≤17592186000000)(ly:ys.length≤17592186000000):CW Tryz.prog Zl 227 [va,vb] H fun v H'=>Keep H H'∧NewL H.n H' v (max xs.length ys.length+1) (dv B64 xs+dv B64 ys):=by
 refine Zf 20 (by decide) (by decide) Tryz.func227 rfl rfl ?_;have l1:=ha.len Zs;have l2:=hb.len Zs;obtain⟨n,hn⟩: ∃n,n=max xs.length ys.length:=⟨_,rfl⟩;have mx:=max_nat xs.length ys.length;rw[←hn]at mx⊢;obtain⟨c0,H1,hmk,k1,o1,n1⟩:=Qa (H:=H) Zs (n:=n+1) (by omega);obtain⟨u,H2,hcp,o2,bt2,ka2⟩:=o1.copy (ha.keep k1) (by simp;omega) Zs Zs;have k2:Keep H H2:=ka2 H k1 (Nat.le_refl _);rw[List.drop_replicate]at o2;have apc:Cy c0 vb:=fun c hc hc'=>by have a:=(o1.blk_lo hc).1;have b:=hb.blk_lt hc';omega
 have hlen:(xs++List.replicate (n+1-xs.length) 0).length=n+1:=by simp;omega
 obtain⟨w,H3,hc3,bt3,ka3,zs,lz,dz,vz,oz⟩:=Es (a:=0) o2 ((hb.keep k1).but bt2 apc) apc (dx.append (Cq (by decide) _)) dy (by omega) (by omega) (Nat.zero_le _) (by rw[hlen,Zd4,Nat.pow_zero,Nat.one_mul];have h1:=Vz dx;have h2:=Vz dy;have h3:B64^xs.length≤B64^n:=Nat.pow_le_pow_right (by decide) (by omega);have h4:B64^ys.length≤B64^n:=Nat.pow_le_pow_right (by decide) (by omega);have h5:B64^(n+1)=B64^n*18446744073709551616:=rfl;omega);rw[hlen]at lz;rw[Zd4,Nat.pow_zero,Nat.one_mul]at vz;have hc3:Zo Tryz.prog Zl 224 [c0,vb,.int .i64 0] H2=some (w,H3):=hc3;apply Zb;intro b1 hb1;apply Za;simp;subst hb1;apply Zb;intro b1 hb1;apply Za;simp[l1,l2,mx,Xq (x:=n) (by omega),hmk];subst hb1;apply Zb;intro b1 hb1;apply Za;simp[hcp];subst hb1;apply Zb;intro b1 hb1;apply Za;simp[hc3];subst hb1;apply Zb;intro b1 hb1;apply Za;simp;subst hb1;apply Zi;simp;exact⟨ka3 H k2 (Nat.le_refl _),zs,lz,dz,vz,oz⟩
theorem less_spec(ha:Sl H va xs)(hb:Sl H vb ys)(dx:Dig B64 xs)(dy:Dig B64 ys)(lx:xs.length≤17592186000000)(ly:ys.length≤17592186000000)(hle:dv B64 ys≤dv B64 xs):CW Tryz.prog Zl 226 [va,vb] H fun v H'=>Keep H H'∧NewL H.n H' v xs.length (dv B64 xs-dv B64 ys):=by
 refine Zf 43 (by decide) (by decide) Tryz.func226 rfl rfl ?_;have l1:=ha.len Zs;have l2:=hb.len Zs;obtain⟨n,hn⟩: ∃n,n=xs.length:=⟨_,rfl⟩;rw[←hn]at l1⊢;obtain⟨c0,H1,hmk,k1,o1,n1⟩:=Qa (H:=H) Zs (n:=n) (by omega);obtain⟨u,H2,hcp,o2,bt2,ka2⟩:=o1.copy (ha.keep k1) (by simp;omega) Zs Zs;have k2:Keep H H2:=ka2 H k1 (Nat.le_refl _);rw[List.drop_replicate,hn,Nat.sub_self,List.replicate_zero,List.append_nil]at o2;have l0:=o2.sl.len Zs;rw[←hn]at l0;apply Zb;intro b1 hb1;apply Za;simp;subst hb1;apply Zb;intro b1 hb1;apply Za;simp[l1,hmk];subst hb1;apply Zb;intro b1 hb1;apply Za;simp[hcp];subst hb1;apply Zb;intro b1 hb1;apply Za;simp;subst hb1;apply Zb;intro b1 hb1;apply Zb;intro b2 hb2;apply Za;simp[l0];subst hb2;apply Zp;refine Xt (fun m s'=>s'.k=43∧Keep H s'.H∧ ∃(i bor:Nat) (L:List Nat),m+i=n∧L.length=i∧bor≤1∧Dig B64 L∧dv B64 L+dv B64 (ys.take i)=dv B64 (xs.take i)+B64^i*bor∧Own H.n s'.H c0 (L++xs.drop i)∧s'.tm.get 1=some vb∧s'.tm.get 5=some c0∧s'.tm.get 6=some (.int .u64 (bor:Int))∧s'.tm.get 16=some (.int .i64 (n:Int))∧s'.tm.get 17=some (.int .i64 (i:Int))) ?_ n _ ⟨rfl,k2,0,0,[],by omega,rfl,by omega,.nil _,by simp[dv],by simpa using o2,by simp,by simp,by simp,by simp,by simp⟩;rintro m ⟨k,tm,H3⟩ ⟨hk,kH,i,bor,L,hmi,hL,hbr,dL,heq,own,t1,t5,t6,t16,t17⟩ Q' hQ';simp only at hk kH own t1 t5 t6 t16 t17;subst hk;apply Zb;intro b3 hb3;apply Za;simp[t16,t17];subst hb3;apply Zb;intro b3 hb3;by_cases hi:i<n
 ·refine Zc (t:=true) (by simp[hi]) ?_;apply Zh;subst hb3;have hi':i<xs.length:=by omega
  have sb:=hb.keep kH;obtain⟨y,hy⟩: ∃y,y=nth ys i:=⟨_,rfl⟩;have hyB:y<B64:=by rw[hy];exact Ej dy (by decide) _
  obtain⟨x,hx⟩: ∃x,x=nth xs i:=⟨_,rfl⟩;have hxB:x<B64:=by rw[hx];exact Ej dx (by decide) _
  have d0:=own.loadAt hL hi';rw[←hx]at d0;have a0:=own.sl.adr Zs (k:= .i64) (i:=i) (by simp;omega);obtain⟨z,hz⟩: ∃z,z=(x+B64-y-bor)%B64:=⟨_,rfl⟩;obtain⟨b',hb'⟩: ∃b',b'=(if x<y+bor then 1 else 0):=⟨_,rfl⟩;have hzB:z<B64:=by rw[hz];exact Nat.mod_lt _ (by decide)
  have hb1':b'≤1:=by rw[hb'];split<;>omega
  have hst:z+y+bor=x+B64*b':=by
   by_cases h:x<y+bor;·rw[hz,hb',if_pos h,Nat.mod_eq_of_lt (by omega)];omega
   ·rw[hz,hb',if_neg h];have:x+B64-y-bor=(x-y-bor)+B64:=by omega
    rw[this,Nat.add_mod_right,Nat.mod_eq_of_lt (by omega)];omega
  have sc:Zo Tryz.prog Zl 206 [.int .u64 (x:Int),.int .u64 (y:Int),.int .u64 (bor:Int)] H3=some (.tuple #[.int .u64 (z:Int),.int .u64 (b':Int)],H3):=by rw[hz,hb'];exact Zb3 x y bor H3 hbr
  obtain⟨H4,st4,own4,bt4,ka4⟩:=own.fillAt hL hi' z;apply Zb;intro b3 hb3;apply Zp;apply Zb;intro b4 hb4;apply Za;simp[t17];subst hb4;apply Zb;intro b4 hb4;apply Za;simp;subst hb4;refine Ja (fun s'=>s'.k=43∧s'.H=H3∧s'.tm.get 1=some vb∧s'.tm.get 5=some c0∧s'.tm.get 6=some (.int .u64 (bor:Int))∧s'.tm.get 7=some (.int .i64 (i:Int))∧s'.tm.get 8=some (.int .u64 (y:Int))∧s'.tm.get 16=some (.int .i64 (n:Int))∧s'.tm.get 17=some (.int .i64 (i:Int))) ?_ ?_
  ·intro Q'' hQ'';apply Zb;intro b4 hb4;apply Za;simp[t1,l2];subst hb4;by_cases hby:i<ys.length;·refine Zc (t:=true) (by simp[hby]) ?_;have a1:=sb.adr Zs (k:= .i64) hby;have d1:=sb.load hby;rw[←Jy hby,←hy]at d1;apply Za;simp[t1,a1,d1];apply hQ'';exact⟨rfl,rfl,by simp[t1],by simp[t5],by simp[t6],by simp,by simp,by simp[t16],by simp[t17]⟩
   ·refine Zc (t:=false) (by simp[hby]) ?_;apply Zh;apply hQ'';rw[Gy (by omega)]at hy;subst hy;exact⟨rfl,rfl,by simp[t1],by simp[t5],by simp[t6],by simp,by simp,by simp[t16],by simp[t17]⟩
  clear t1 t5 t6 t16 t17;rintro⟨k,tm,H5⟩ ⟨hk,hH,t1,t5,t6,t7,t8,t16,t17⟩;simp only at hk hH t1 t5 t6 t7 t8 t16 t17;subst hk;subst hH;apply Za;simp[t5,t6,t7,t8,a0,d0,sc,st4];subst hb3;apply Za;simp[t17,Xq (x:=i) (by omega)];apply hQ';refine⟨m-1,by omega,rfl,ka4 H kH (Nat.le_refl _),i+1,b',L++[z],by omega,by simp[hL],hb1',dL.append (.cons hzB (.nil _)),?_,own4,by simp[t1],by simp[t5],by simp,by simp[t16],by simp⟩;rw[Yz,hL,Jk,Jk,←hx,←hy];simp only[dv,Nat.mul_zero,Nat.add_zero];have e1:B64^i*(z+y+bor)=B64^i*(x+B64*b'):=by rw[hst]
  rw[Nat.mul_add (B64^i) x,←Nat.mul_assoc,show B64^i*B64=B64^(i+1)from rfl,Nat.mul_add,Nat.mul_add]at e1;omega
 ·refine Zc (t:=false) (by simp[hi]) ?_;apply Xu;apply hQ';left;refine⟨rfl,?_⟩;obtain rfl:i=n:=by omega
  have hxl:=Vz dx;rw[←hn]at hxl;rw[List.take_of_length_le (l:=xs) (by omega),Zf5 (by decide) (Nat.lt_of_le_of_lt hle hxl)]at heq;have hLl:=Vz dL;rw[hL]at hLl;have hval:dv B64 L=dv B64 xs-dv B64 ys:=by
   rcases Nat.lt_or_ge bor 1 with h0|h0
   ·obtain rfl:bor=0:=by omega
    rw[Nat.mul_zero]at heq;omega
   ·obtain rfl:bor=1:=by omega
    rw[Nat.mul_one]at heq;omega
  rw[List.drop_of_length_le (by omega),List.append_nil]at own;subst hb1;apply Zb;intro b4 hb4;apply Za;simp[t5];subst hb4;apply Zi;simp;exact⟨kH,L,hL,dL,hval,own⟩
theorem mul_step {x y o c : Nat} (hx : x < B64) (hy : y < B64) (ho : o < B64) (hc : c < B64) :
    let p := x * y; let l := (p % B64 + c) % B64; let h := p / B64 + (p % B64 + c) / B64
    h < B64 ∧ h + (o + l) / B64 < B64 ∧ (o + l) % B64 + B64 * (h + (o + l) / B64) = o + x * y + c := by
  intro p l h
  have hx : x < 18446744073709551616 := hx
  have hy : y < 18446744073709551616 := hy
  have ho : o < 18446744073709551616 := ho
  have hc : c < 18446744073709551616 := hc
  have hp : p ≤ 18446744073709551615 * 18446744073709551615 := Nat.mul_le_mul (by omega) (by omega)
  show p / 18446744073709551616 + (p % 18446744073709551616 + c) / 18446744073709551616 < 18446744073709551616 ∧ p / 18446744073709551616 + (p % 18446744073709551616 + c) / 18446744073709551616 + (o + (p % 18446744073709551616 + c) % 18446744073709551616) / 18446744073709551616 < 18446744073709551616 ∧
    (o + (p % 18446744073709551616 + c) % 18446744073709551616) % 18446744073709551616 + 18446744073709551616 * (p / 18446744073709551616 + (p % 18446744073709551616 + c) / 18446744073709551616 + (o + (p % 18446744073709551616 + c) % 18446744073709551616) / 18446744073709551616) = o + p + c
  clear_value p
  omega
set_option maxHeartbeats 1000000 in theorem school_spec(ha:Sl H va xs)(hb:Sl H vb ys)(dx:Dig B64 xs)(dy:Dig B64 ys)(lx:xs.length≤8000000000000)(ly:ys.length≤8000000000000):CW Tryz.prog Zl 223 [va,vb] H fun v H'=>Keep H H'∧NewL H.n H' v (xs.length+ys.length) (dv B64 xs*dv B64 ys):=by
 refine Zf 78 (by decide) (by decide) Tryz.func223 rfl rfl ?_;have l1:=ha.len Zs;have l2:=hb.len Zs;obtain⟨la,hla⟩: ∃la,la=xs.length:=⟨_,rfl⟩;obtain⟨lb,hlb⟩: ∃lb,lb=ys.length:=⟨_,rfl⟩;rw[←hla]at l1⊢;rw[←hlb]at l2⊢;obtain⟨c0,H1,hmk,k1,o1,n1⟩:=Qa (H:=H) Zs (n:=la+lb) (by omega);have ad:Zd .add .i64 (la:Int) (lb:Int)=some (.int .i64 ((la+lb:Nat):Int)):=Uw (by omega);apply Zb;intro b1 hb1;apply Za;simp;subst hb1;apply Zb;intro b1 hb1;apply Za;simp[l1,l2,ad,hmk];subst hb1;apply Zb;intro b1 hb1;apply Zb;intro b2 hb2;apply Za;simp[l1];subst hb2;apply Zp;refine Xt (fun m s'=>s'.k=78∧Keep H s'.H∧ ∃(i:Nat) (O:List Nat),m+i=la∧O.length=la+lb∧Dig B64 O∧(∀j,i+lb≤j→nth O j=0)∧dv B64 O=dv B64 (xs.take i)*dv B64 ys∧Own H.n s'.H c0 O∧s'.tm.get 1=some vb∧s'.tm.get 5=some c0∧s'.tm.get 20=some va∧s'.tm.get 21=some (.int .i64 (la:Int))∧s'.tm.get 22=some (.int .i64 (i:Int))) ?_ la _ ⟨rfl,k1,0,List.replicate (la+lb) 0,by omega,by simp,Cq (by decide) _,fun j _=>by
  by_cases hj:j<(List.replicate (la+lb) 0).length;·rw[Jy hj];simp
  ·exact Gy (by omega),by simp[dv,Ec],o1,by simp,by simp,by simp,by simp,by simp⟩;rintro m ⟨k,tm,H2⟩ ⟨hk,kH,i,O,hmi,hO,dO,hz,heq,own,t1,t5,t20,t21,t22⟩ Q' hQ';simp only at hk kH own t1 t5 t20 t21 t22;subst hk;apply Zb;intro b3 hb3;apply Za;simp[t21,t22];subst hb3;apply Zb;intro b3 hb3;by_cases hi:i<la
 ·refine Zc (t:=true) (by simp[hi]) ?_;apply Zh;subst hb3;have hi':i<xs.length:=by omega
  have sa:=ha.keep kH;have sb:=hb.keep kH;have a1:=sa.adr Zs (k:= .i64) hi';have d1:=sa.load hi';obtain⟨x,hx⟩: ∃x,x=xs[i]:=⟨_,rfl⟩;have hxB:x<B64:=by rw[hx];exact dx.get (List.getElem?_eq_getElem hi')
  rw[←hx]at d1;apply Zb;intro b3 hb3;apply Zp;apply Zb;intro b4 hb4;apply Za;simp[t20,t22,a1,d1];subst hb4;apply Zb;intro b4 hb4;apply Za;simp;subst hb4;refine Ja (fun s'=>s'.k=78∧Keep H s'.H∧ ∃(c:Nat) (O2:List Nat),c<B64∧O2.length=la+lb∧Dig B64 O2∧(∀j,i+lb≤j→nth O2 j=0)∧dv B64 O2+B64^(i+lb)*c=dv B64 O+B64^i*(x*dv B64 ys)∧Own H.n s'.H c0 O2∧s'.tm.get 1=some vb∧s'.tm.get 5=some c0∧s'.tm.get 6=some (.int .i64 (i:Int))∧s'.tm.get 8=some (.int .u64 (c:Int))∧s'.tm.get 20=some va∧s'.tm.get 21=some (.int .i64 (la:Int))∧s'.tm.get 22=some (.int .i64 (i:Int))) ?_ ?_
  ·intro Q'' hQ'';apply Zb;intro b4 hb4;apply Za;simp[t1,l2];subst hb4;apply Zp;refine Xt (fun m s'=>s'.k=78∧Keep H s'.H∧ ∃(j c:Nat) (O2:List Nat),m+j=lb∧c<B64∧O2.length=la+lb∧Dig B64 O2∧(∀j,i+lb≤j→nth O2 j=0)∧dv B64 O2+B64^(i+j)*c=dv B64 O+B64^i*(x*dv B64 (ys.take j))∧Own H.n s'.H c0 O2∧s'.tm.get 1=some vb∧s'.tm.get 5=some c0∧s'.tm.get 6=some (.int .i64 (i:Int))∧s'.tm.get 7=some (.int .u64 (x:Int))∧s'.tm.get 8=some (.int .u64 (c:Int))∧s'.tm.get 20=some va∧s'.tm.get 21=some (.int .i64 (la:Int))∧s'.tm.get 22=some (.int .i64 (i:Int))∧s'.tm.get 27=some vb∧s'.tm.get 28=some (.int .i64 (lb:Int))∧s'.tm.get 29=some (.int .i64 (j:Int))) ?_ lb _ ⟨rfl,kH,0,0,O,by omega,by decide,hO,dO,hz,by simp[dv],own,by simp[t1],by simp[t5],by simp,by simp,by simp,by simp[t20],by simp[t21],by simp[t22],by simp[t1],by simp,by simp⟩;clear t1 t5 t20 t21 t22;rintro m2 ⟨k,tm,H3⟩ ⟨hk,kH3,j,c,O2,hmj,hc,hO2,dO2,hz2,heq2,own2,t1,t5,t6,t7,t8,t20,t21,t22,t27,t28,t29⟩ Q5 hQ5;simp only at hk kH3 own2 t1 t5 t6 t7 t8 t20 t21 t22 t27 t28 t29;subst hk;apply Zb;intro b5 hb5;apply Za;simp[t28,t29];subst hb5;apply Zb;intro b5 hb5;by_cases hj:j<lb
   ·refine Zc (t:=true) (by simp[hj]) ?_;apply Zh;subst hb5;have hj':j<ys.length:=by omega
    have sb3:=hb.keep kH3;have a2:=sb3.adr Zs (k:= .i64) hj';have d2:=sb3.load hj';obtain⟨y,hy⟩: ∃y,y=ys[j]:=⟨_,rfl⟩;have hyB:y<B64:=by rw[hy];exact dy.get (List.getElem?_eq_getElem hj')
    rw[←hy]at d2;have hij:i+j<O2.length:=by omega
    have a3:=own2.sl.adr Zs (k:= .i64) hij;have d3:=own2.sl.load hij;obtain⟨o,ho⟩: ∃o,o=O2[i+j]:=⟨_,rfl⟩;have hoB:o<B64:=by rw[ho];exact dO2.get (List.getElem?_eq_getElem hij)
    rw[←ho]at d3;have step:=mul_step hxB hyB hoB hc;simp only at step;obtain⟨ph,hph⟩: ∃ph,ph=x*y/B64:=⟨_,rfl⟩;obtain⟨pl,hpl⟩: ∃pl,pl=x*y%B64:=⟨_,rfl⟩;rw[←hph,←hpl]at step;obtain⟨l,hl⟩: ∃l,l=(pl+c)%B64:=⟨_,rfl⟩;obtain⟨c1,hc1⟩: ∃c1,c1=(pl+c)/B64:=⟨_,rfl⟩;rw[←hl,←hc1]at step;obtain⟨o',ho'⟩: ∃o',o'=(o+l)%B64:=⟨_,rfl⟩;obtain⟨c2,hc2⟩: ∃c2,c2=(o+l)/B64:=⟨_,rfl⟩;rw[←ho',←hc2]at step;obtain⟨st1,st2,st3⟩:=step;have ho'B:o'<B64:=by rw[ho'];exact Nat.mod_lt _ (by decide)
    have e1:Zo Tryz.prog Zl 202 [.int .u64 (x:Int),.int .u64 (y:Int)] H3=some (.tuple #[.int .u64 (ph:Int),.int .u64 (pl:Int)],H3):=by rw[hph,hpl];exact Zc6 hxB hyB H3
    have e2:Zo Tryz.prog Zl 203 [.int .u64 (pl:Int),.int .u64 (c:Int),.int .u64 0] H3=some (.tuple #[.int .u64 (l:Int),.int .u64 (c1:Int)],H3):=by rw[hl,hc1];exact Fw pl c H3
    have e3:Zd .add .u64 (ph:Int) (c1:Int)=some (.int .u64 ((ph+c1:Nat):Int)):=Vq st1;have e4:Zo Tryz.prog Zl 203 [.int .u64 (o:Int),.int .u64 (l:Int),.int .u64 0] H3=some (.tuple #[.int .u64 (o':Int),.int .u64 (c2:Int)],H3):=by rw[ho',hc2];exact Fw o l H3
    have e5:Zd .add .u64 ((ph+c1:Nat):Int) (c2:Int)=some (.int .u64 ((ph+c1+c2:Nat):Int)):=Vq st2;have e6:Zd .add .i64 (i:Int) (j:Int)=some (.int .i64 ((i+j:Nat):Int)):=Uw (by omega);obtain⟨H4,st4,own4,n4,bt4,ka4⟩:=own2.put (i:=i+j) hij o';apply Zb;intro b5 hb5;apply Zp;apply Zb;intro b6 hb6;apply Za;simp[t27,t29,a2,d2];subst hb6;apply Zb;intro b6 hb6;apply Za;simp[t7,e1];subst hb6;apply Zb;intro b6 hb6;apply Za;simp;subst hb6;apply Zb;intro b6 hb6;apply Za;simp[t8,e2];subst hb6;apply Zb;intro b6 hb6;apply Za;simp[e3];subst hb6;apply Zb;intro b6 hb6;apply Za;simp[t5,t6,e6,a3,d3,e4,st4];subst hb6;apply Za;simp[e5];subst hb5;apply Za;simp[t29,Xq (x:=j) (by omega)];apply hQ5;refine⟨m2-1,by omega,rfl,ka4 H kH3 (Nat.le_refl _),j+1,ph+c1+c2,O2.set (i+j) o',by omega,st2,by simp[hO2],dO2.set ho'B,fun q hq=>by rw[nth_set (by omega)];exact hz2 q hq,?_,own4,by simp[t1],by simp[t5],by simp[t6],by simp[t7],by simp,by simp[t20],by simp[t21],by simp[t22],by simp[t27],by simp[t28],by simp⟩;have ds:=dv_set B64 O2 (i+j) o' hij;rw[←ho]at ds;rw[Qy hj',Yz,List.length_take,Nat.min_eq_left (by omega),←hy];simp only[dv,Nat.mul_zero,Nat.add_zero];generalize ph+c1+c2=cc at*;have f1:B64^(i+j)*(o'+B64*cc)=B64^(i+j)*(o+x*y+c):=by rw[st3]
    rw[Nat.mul_add,←Nat.mul_assoc (B64^(i+j)) B64,show B64^(i+j)*B64=B64^(i+(j+1))from rfl,Nat.mul_add,Nat.mul_add]at f1;have f2:B64^i*(x*(dv B64 (ys.take j)+B64^j*y))=B64^i*(x*dv B64 (ys.take j))+B64^(i+j)*(x*y):=by rw[Nat.mul_add x,Nat.mul_add (B64^i),Nat.pow_add,Nat.mul_left_comm x (B64^j) y,Nat.mul_assoc (B64^i)]
    rw[f2];omega
   ·refine Zc (t:=false) (by simp[hj]) ?_;apply Xu;apply hQ5;left;obtain rfl:j=lb:=by omega
    rw[List.take_of_length_le (by omega)]at heq2;exact⟨rfl,hQ'' _ ⟨rfl,kH3,c,O2,hc,hO2,dO2,hz2,heq2,own2,by simp[t1],by simp[t5],by simp[t6],by simp[t8],by simp[t20],by simp[t21],by simp[t22]⟩⟩
  clear t1 t5 t20 t21 t22;rintro⟨k,tm,H3⟩ ⟨hk,kH3,c,O2,hc,hO2,dO2,hz2,heq2,own2,t1,t5,t6,t8,t20,t21,t22⟩;simp only at hk kH3 own2 t1 t5 t6 t8 t20 t21 t22;subst hk;have hij:i+lb<O2.length:=by omega
  have a3:=own2.sl.adr Zs (k:= .i64) hij;have e6:Zd .add .i64 (i:Int) (lb:Int)=some (.int .i64 ((i+lb:Nat):Int)):=Uw (by omega);obtain⟨H4,st4,own4,n4,bt4,ka4⟩:=own2.put (i:=i+lb) hij c;apply Za;simp[t1,t5,t6,t8,l2,e6,a3,st4];subst hb3;apply Za;simp[t22,Xq (x:=i) (by omega)];apply hQ';refine⟨m-1,by omega,rfl,ka4 H kH3 (Nat.le_refl _),i+1,O2.set (i+lb) c,by omega,by simp[hO2],dO2.set hc,fun q hq=>by rw[nth_set (by omega)];exact hz2 q (by omega),?_,own4,by simp[t1],by simp[t5],by simp[t20],by simp[t21],by simp⟩;have ds:=dv_set B64 O2 (i+lb) c hij;have h0:=hz2 (i+lb) (Nat.le_refl _);rw[Jy hij]at h0;rw[h0,Nat.mul_zero,Nat.add_zero]at ds;rw[ds,heq2,heq,Qy hi',Yz,List.length_take,Nat.min_eq_left (by omega),←hx,Nat.add_mul];simp only[dv,Nat.mul_zero,Nat.add_zero];rw[Nat.mul_assoc (B64^i)]
 ·refine Zc (t:=false) (by simp[hi]) ?_;apply Xu;apply hQ';left;refine⟨rfl,?_⟩;obtain rfl:i=la:=by omega
  rw[List.take_of_length_le (by omega)]at heq;subst hb1;apply Zb;intro b4 hb4;apply Za;simp[t5];subst hb4;apply Zi;simp;exact⟨kH,O,hO,dO,heq,own⟩
end
end
theorem segL_low{xs:List Nat}(dx:Dig B64 xs)(k:Nat):dv B64 (segL xs 0 k)=dv B64 (xs.take k)∧(segL xs 0 k).length≤min k xs.length∧Dig B64 (segL xs 0 k):=by
 unfold segL;have e:(xs.drop (min 0 xs.length)).take (min k xs.length-min 0 xs.length)=xs.take k:=by
  rw[Nat.zero_min,List.drop_zero,Nat.sub_zero];rcases Nat.le_total k xs.length with h|h;·rw[Nat.min_eq_left h]
  ·rw[Nat.min_eq_right h,List.take_length,List.take_of_length_le h]
 rw[e];refine⟨Ud _ _,?_,Jt (dx.take k)⟩;have:=Ju (xs.take k);rwa[List.length_take]at this
theorem segL_high{xs:List Nat}(dx:Dig B64 xs){k:Nat}(hk:k≤xs.length):dv B64 (segL xs k xs.length)=dv B64 (xs.drop k)∧(segL xs k xs.length).length≤xs.length-k∧Dig B64 (segL xs k xs.length):=by unfold segL;rw[Nat.min_eq_left hk,Nat.min_self,List.take_of_length_le (l:=xs.drop k) (by rw[List.length_drop];omega)];refine⟨Ud _ _,?_,Jt (dx.drop k)⟩;have:=Ju (xs.drop k);rwa[List.length_drop]at this
theorem Zm1{xs:List Nat}(dx:Dig B64 xs)(k:Nat):dv B64 (segL xs k xs.length)=dv B64 (xs.drop k)∧(segL xs k xs.length).length≤xs.length-k∧Dig B64 (segL xs k xs.length):=by
 rcases Nat.lt_or_ge xs.length k with h|h;·unfold segL;rw[Nat.min_eq_right (a:=k) (by omega),Nat.min_self,Nat.sub_self,List.take_zero,List.drop_eq_nil_of_le (by omega)];exact⟨rfl,Nat.zero_le _,.nil _⟩
 ·exact segL_high dx h
theorem kara{al ah bl bh:Nat} :(al+ah)*(bl+bh)-al*bl-ah*bh=al*bh+ah*bl∧al*bl≤(al+ah)*(bl+bh)∧ah*bh≤(al+ah)*(bl+bh)-al*bl:=by
 have e:(al+ah)*(bl+bh)=al*bl+al*bh+(ah*bl+ah*bh):=by rw[Nat.add_mul,Nat.mul_add,Nat.mul_add]
 omega
theorem quo2_i64{x:Nat}(h:x<9223372036854775808):Zd .quo .i64 (x:Int) 2=some (.int .i64 ((x/2:Nat):Int)):=quo_i64 (y:=2) h (by decide)
section
attribute [-simp] Int.natCast_add Int.natCast_mul Int.natCast_ediv Int.natCast_emod Int.natCast_pow
attribute [local simp] strip Yj LW' LR gW Yo Xi Ye Xj Yt Xh Zv Zw Zn Yv Xd Yp Yu Zm Xe Zj opd Qi Ys plain Yn Tr.get_set Qg Zu Xv Yg sameKind undef Zx Yw Xc Zs Qb Jw Yf parts Jp unV DW Xp Yc LX Yb
def HalvedIs(n0:Nat)(lab N:Nat)(v:Value)(H':AH):Prop:= ∃len,len≤lab+1∧NewL n0 H' v len N
def HalvedOK(N:Nat):Prop:= ∀(H:AH)(va vb:Value)(xs ys:List Nat),Sl H va xs→Sl H vb ys→Dig B64 xs→Dig B64 ys→xs.length+ys.length≤N→ ∃v H',Zo Tryz.prog Zl 199 [va,vb,.int .i64 40] H=some (v,H')∧Keep H H'∧HalvedIs H.n (xs.length+ys.length) (dv B64 xs*dv B64 ys) v H'
theorem dv_mul_lt{xs ys:List Nat}(dx:Dig B64 xs)(dy:Dig B64 ys):dv B64 xs*dv B64 ys<B64^(xs.length+ys.length+1):=by have h1:=Vz dx;have h2:=Vz dy;have h3:dv B64 xs*dv B64 ys≤B64^xs.length*B64^ys.length:=Nat.mul_le_mul (Nat.le_of_lt h1) (Nat.le_of_lt h2);rw[←Nat.pow_add]at h3;have h4:B64^(xs.length+ys.length)<B64^(xs.length+ys.length+1):=Nat.pow_lt_pow_right (by decide) (Nat.lt_succ_self _);omega
set_option maxHeartbeats 4000000 in theorem halved_ok: ∀N,N≤4000000000000→HalvedOK N:=by intro N;induction N using Nat.strongRecOn with
 |_ N ih=>
  intro hN H va vb xs ys ha hb dx dy hl;suffices h:CW Tryz.prog Zl 199 [va,vb,.int .i64 40] H fun v H'=>Keep H H'∧HalvedIs H.n (xs.length+ys.length) (dv B64 xs*dv B64 ys) v H' by obtain⟨v,H',h1,h2,h3⟩:=h;exact⟨v,H',h1,h2,h3⟩
  refine Zf 124 (by decide) (by decide) Tryz.func199 rfl rfl ?_;apply Zb;intro b1 hb1;apply Za;simp;subst hb1;refine Ja (fun s'=>s'.k=124∧s'.H=H∧ ∃(a b:Value) (xa xb:List Nat),Sl H a xa∧Sl H b xb∧Dig B64 xa∧Dig B64 xb∧xb.length≤xa.length∧xa.length+xb.length=xs.length+ys.length∧dv B64 xa*dv B64 xb=dv B64 xs*dv B64 ys∧s'.tm.get 0=some a∧s'.tm.get 1=some b∧s'.tm.get 2=some (.int .i64 40)) ?_ ?_
  ·intro Q' hQ';have l1:=ha.len Zs;have l2:=hb.len Zs;apply Zb;intro b1 hb1;apply Za;simp[l1,l2];subst hb1;by_cases h:xs.length<ys.length;·refine Zc (t:=true) (by simp[h]) ?_;apply Za;simp;apply hQ';exact⟨rfl,rfl,vb,va,ys,xs,hb,ha,dy,dx,by omega,by omega,Nat.mul_comm _ _,by simp,by simp,by simp⟩
   ·refine Zc (t:=false) (by simp[h]) ?_;apply Zh;apply hQ';exact⟨rfl,rfl,va,vb,xs,ys,ha,hb,dx,dy,by omega,rfl,rfl,by simp,by simp,by simp⟩
  clear ha hb dx dy;rintro⟨k,tm,H0⟩ ⟨hk,hH,a,b,xa,xb,ha,hb,dx,dy,hba,hab,hprod,t0,t1,t2⟩;simp only at hk hH t0 t1 t2;subst hk;subst hH;rw[←hprod,←hab];rw[←hab]at hl;clear hprod hab;have l1:=ha.len Zs;have l2:=hb.len Zs;obtain⟨la,hla⟩: ∃la,la=xa.length:=⟨_,rfl⟩;obtain⟨lb,hlb⟩: ∃lb,lb=xb.length:=⟨_,rfl⟩;rw[←hla]at l1 hl hba⊢;rw[←hlb]at l2 hl hba⊢;have lt40:Zd .lss .i64 (lb:Int) 40=some (.bool (decide (lb<40))):=Jp (y:=40);have hpl:=dv_mul_lt dx dy;rw[←hla,←hlb]at hpl;apply Zb;intro b1 hb1;apply Zb;intro b2 hb2;apply Za;simp[t1,t2,l2,lt40];subst hb2;by_cases h40:lb<40;·obtain⟨v,H',hc,k,hn⟩:=school_spec ha hb dx dy (by omega) (by omega);rw[←hla,←hlb]at hn;refine Zc (t:=true) (by simp[h40]) ?_;apply Zb;intro b2 hb2;apply Za;simp[t0,t1,hc];subst hb2;apply Zi;simp[Xb];exact⟨k,_,Nat.le_succ _,hn⟩
  ·refine Zc (t:=false) (by simp[h40]) ?_;apply Zh;subst hb1;obtain⟨k,hk⟩: ∃k,k=(la+1)/2:=⟨_,rfl⟩;have q2:=quo2_i64 (x:=la+1) (by omega);rw[←hk]at q2;have ps: ∀{Hx:AH}{f t:Nat}{c:Value}{cs:List Nat},Sl Hx c cs→40≤cs.length→cs.length≤4000000000000→f≤t→ ∃w,Zo Tryz.prog Zl 225 [c,.int .i64 (f:Int),.int .i64 (t:Int)] Hx=some (w,Hx)∧Sl Hx w (segL cs f t):=fun{Hx f t c cs} hs h1 h2 h3=>by obtain⟨w,H',hc,e,hw⟩:=part_spec hs (by omega) (by omega) h3;subst e;exact⟨w,hc,hw⟩
   have adlab:Zd .add .i64 (la:Int) (lb:Int)=some (.int .i64 ((la+lb:Nat):Int)):=Uw (by omega);apply Zb;intro b1 hb1;apply Za;simp[t0,l1,Xq (x:=la) (by omega),q2];subst hb1;apply Zb;intro b1 hb1;apply Zb;intro b2 hb2;apply Za;simp[t1,l2,Zi4];subst hb2;by_cases hbk:lb≤k
   ·obtain⟨c0,H1,hmk,k1,o1,n1⟩:=Qa (H:=H0) Zs (n:=la+lb+1) (by omega);have a1:=ha.keep k1;have b1':=hb.keep k1;obtain⟨w1,e1,s1⟩:=ps (f:=0) (t:=k) a1 (by omega) (by omega) (Nat.zero_le _);have e1:Zo Tryz.prog Zl 225 [a,.int .i64 0,.int .i64 (k:Int)] H1=some (w1,H1):=e1;obtain⟨v1,z1,d1⟩:=segL_low dx k;obtain⟨p1,H2,e2,k2,len1,hlen1,zs1,lz1,dz1,vz1,oz1⟩:=ih (k+lb) (by omega) (by omega) H1 w1 b (segL xa 0 k) xb s1 b1' d1 dy (by omega);rw[v1]at vz1;have o2:=o1.mono (Nat.le_refl _) k2;have prod:dv B64 (xa.take k)*dv B64 xb+B64^k*(dv B64 (xa.drop k)*dv B64 xb)=dv B64 xa*dv B64 xb:=by rw[Cr B64 xa k (by omega),Nat.add_mul,Nat.mul_assoc]
    obtain⟨u3,H3,e3,bt3,ka3,zs3,lz3,dz3,vz3,oz3⟩:=Es (a:=0) o2 oz1.sl (Fq o1 oz1 (Nat.le_refl _)) (Cq (by decide) _) dz1 (by simp;omega) (by omega) (Nat.zero_le _) (by rw[Ec,List.length_replicate,Nat.pow_zero,Nat.one_mul,vz1];omega);have e3:Zo Tryz.prog Zl 224 [c0,p1,.int .i64 0] H2=some (u3,H3):=e3;rw[List.length_replicate]at lz3;rw[Ec,Nat.pow_zero,Nat.one_mul,Nat.zero_add,vz1]at vz3;have k3:Keep H0 H3:=ka3 H0 (k1.trans k2) (Nat.le_refl _);have a3:=ha.keep k3;have b3':=hb.keep k3;obtain⟨w4,e4,s4⟩:=ps (f:=k) (t:=la) a3 (by omega) (by omega) (by omega);obtain⟨v4,z4,d4⟩:=Zm1 dx k;rw[←hla]at v4 z4 d4;obtain⟨p5,H5,e5,k5,len5,hlen5,zs5,lz5,dz5,vz5,oz5⟩:=ih (la-k+lb) (by omega) (by omega) H3 w4 b (segL xa k la) xb s4 b3' d4 dy (by omega);rw[v4]at vz5;have o5:=oz3.mono (Nat.le_refl _) k5;obtain⟨u6,H6,e6,bt6,ka6,zs6,lz6,dz6,vz6,oz6⟩:=Es (a:=k) o5 oz5.sl (Fq oz3 oz5 (Nat.le_refl _)) dz3 dz5 (by omega) (by omega) (by omega) (by rw[vz3,vz5,lz3,prod];exact hpl);have k6:Keep H0 H6:=ka6 H0 (k3.trans k5) (Nat.le_refl _);refine Zc (t:=true) (by simp[hbk]) ?_;apply Zb;intro b2 hb2;apply Za;simp[t0,t1,l1,l2,adlab,Xq (x:=la+lb) (by omega),hmk];subst hb2;apply Zb;intro b2 hb2;apply Za;simp[t0,t1,t2,e1,e2,e3];subst hb2;apply Zb;intro b2 hb2;apply Za;simp[t0,t1,t2,l1,e4,e5,e6];subst hb2;apply Zb;intro b2 hb2;apply Za;simp;subst hb2;apply Zi;simp[Xb];exact⟨k6,la+lb+1,Nat.le_refl _,zs6,by omega,dz6,by rw[vz6,vz3,vz5,prod],oz6⟩
   ·refine Zc (t:=false) (by simp[hbk]) ?_;apply Zh;subst hb1;obtain⟨wal,eal,sal⟩:=ps (f:=0) (t:=k) ha (by omega) (by omega) (Nat.zero_le _);have eal:Zo Tryz.prog Zl 225 [a,.int .i64 0,.int .i64 (k:Int)] H0=some (wal,H0):=eal;obtain⟨wah,eah,sah⟩:=ps (f:=k) (t:=la) ha (by omega) (by omega) (by omega);obtain⟨wbl,ebl,sbl⟩:=ps (f:=0) (t:=k) hb (by omega) (by omega) (Nat.zero_le _);have ebl:Zo Tryz.prog Zl 225 [b,.int .i64 0,.int .i64 (k:Int)] H0=some (wbl,H0):=ebl;obtain⟨wbh,ebh,sbh⟩:=ps (f:=k) (t:=lb) hb (by omega) (by omega) (by omega);obtain⟨val,zal,dal⟩:=segL_low dx k;obtain⟨vah,zah,dah⟩:=Zm1 dx k;obtain⟨vbl,zbl,dbl⟩:=segL_low dy k;obtain⟨vbh,zbh,dbh⟩:=Zm1 dy k;rw[←hla]at vah zah dah zal;rw[←hlb]at vbh zbh dbh zbl;have ea:=Cr B64 xa k (by omega);have eb:=Cr B64 xb k (by omega);rw[←val,←vah]at ea;rw[←vbl,←vbh]at eb;generalize hAL:segL xa 0 k=AL at*;generalize hAH:segL xa k la=AHh at*;generalize hBL:segL xb 0 k=BL at*;generalize hBH:segL xb k lb=BH at*;have hlal:AL.length≤k:=by omega
    have hlah:AHh.length≤la-k:=by omega
    have hlbl:BL.length≤k:=by omega
    have hlbh:BH.length≤lb-k:=by omega
    clear zal zah zbl zbh val vah vbl vbh hAL hAH hBL hBH;obtain⟨p1,H1,e1,k1,len1,hlen1,zs1,lz1,dz1,vz1,oz1⟩:=ih (k+k) (by omega) (by omega) H0 wal wbl AL BL sal sbl dal dbl (by omega);obtain⟨p2,H2,e2,k2,len2,hlen2,zs2,lz2,dz2,vz2,oz2⟩:=ih (la-k+(lb-k)) (by omega) (by omega) H1 wah wbh AHh BH (sah.keep k1) (sbh.keep k1) dah dbh (by omega);have k12:=k1.trans k2;obtain⟨s3,H3,e3,k3,zs3,lz3,dz3,vz3,oz3⟩:=sum_spec (sal.keep k12) (sah.keep k12) dal dah (by omega) (by omega);have k13:=k12.trans k3;obtain⟨n4,H4,e4,k4,o4⟩:=Ku oz3.sl (by omega);rw[Jb Ym dz3,vz3]at o4;have k14:=k13.trans k4;obtain⟨s5,H5,e5,k5,zs5,lz5,dz5,vz5,oz5⟩:=sum_spec (sbl.keep k14) (sbh.keep k14) dbl dbh (by omega) (by omega);obtain⟨n6,H6,e6,k6,o6⟩:=Ku oz5.sl (by omega);rw[Jb Ym dz5,vz5]at o6;have l4:(ds B64 (dv B64 AL+dv B64 AHh)).length≤k+1:=by rw[←vz3];exact Nat.le_trans (Gn dz3) (by omega)
    have l6:(ds B64 (dv B64 BL+dv B64 BH)).length≤k+1:=by rw[←vz5];exact Nat.le_trans (Gn dz5) (by omega)
    obtain⟨p7,H7,e7,k7,len7,hlen7,zs7,lz7,dz7,vz7,oz7⟩:=ih (k+1+(k+1)) (by omega) (by omega) H6 n4 n6 _ _ ((o4.sl.keep k5).keep k6) o6.sl (Xg Ym _) (Xg Ym _) (by omega);rw[Xy Ym,Xy Ym]at vz7;obtain⟨kr1,kr2,kr3⟩:=kara (al:=dv B64 AL) (ah:=dv B64 AHh) (bl:=dv B64 BL) (bh:=dv B64 BH);have k27:=(((k3.trans k4).trans k5).trans k6).trans k7;have k17:=k2.trans k27;obtain⟨p8,H8,e8,k8,zs8,lz8,dz8,vz8,oz8⟩:=less_spec oz7.sl (oz1.sl.keep k17) dz7 dz1 (by omega) (by omega) (by rw[vz7,vz1];exact kr2);rw[vz7,vz1]at vz8;have k28:=k27.trans k8;obtain⟨p9,H9,e9,k9,zs9,lz9,dz9,vz9,oz9⟩:=less_spec oz8.sl (oz2.sl.keep k28) dz8 dz2 (by omega) (by omega) (by rw[vz8,vz2];exact kr3);rw[vz8,vz2,kr1]at vz9;have k29:=k28.trans k9;obtain⟨c0,H10,hmk,k10,o10,n10⟩:=Qa (H:=H9) Zs (n:=la+lb+1) (by omega);have k210:=k29.trans k10;have k110:=k2.trans k210;have K10:=k1.trans k110;have apart': ∀{n0:Nat}{Hx:AH}{p:Value}{zs:List Nat},Own n0 Hx p zs→Hx.n≤H9.n→Cy c0 p:=fun{n0 Hx p zs} o hn c hc hc'=>by have x1:=(o10.blk_lo hc).1;have x2:=(o.blk_lo hc').2;omega
    have n1':=k2.n;have n2':=k29.n;have prod:dv B64 AL*dv B64 BL+B64^k*(dv B64 AL*dv B64 BH+dv B64 AHh*dv B64 BL)+B64^(2*k)*(dv B64 AHh*dv B64 BH)=dv B64 xa*dv B64 xb:=by
     rw[ea,eb,Nat.add_mul,Nat.mul_add,Nat.mul_add,Nat.mul_add,Nat.two_mul,Nat.pow_add];generalize dv B64 AL=x at*;generalize dv B64 AHh=y at*;generalize dv B64 BL=z at*;generalize dv B64 BH=w at*;generalize B64^k=q at*;have f1:x*(q*w)=q*(x*w):=by rw[Nat.mul_left_comm]
     have f2:q*y*z=q*(y*z):=by rw[Nat.mul_assoc]
     have f3:q*y*(q*w)=q*q*(y*w):=by rw[Nat.mul_mul_mul_comm]
     rw[f1,f2,f3];omega
    have p1le:dv B64 AL*dv B64 BL<B64^(la+lb+1):=by omega
    have p2le:dv B64 AL*dv B64 BL+B64^k*(dv B64 AL*dv B64 BH+dv B64 AHh*dv B64 BL)<B64^(la+lb+1):=by omega
    obtain⟨u11,H11,e11,bt11,ka11,zs11,lz11,dz11,vz11,oz11⟩:=Es (a:=0) o10 (oz1.sl.keep k110) (apart' oz1 (by omega)) (Cq (by decide) _) dz1 (by simp;omega) (by omega) (Nat.zero_le _) (by rw[Ec,List.length_replicate,Nat.pow_zero,Nat.one_mul,vz1];omega);have e11:Zo Tryz.prog Zl 224 [c0,p1,.int .i64 0] H10=some (u11,H11):=e11;rw[List.length_replicate]at lz11;rw[Ec,Nat.pow_zero,Nat.one_mul,Nat.zero_add,vz1]at vz11;have sp9:=(oz9.sl.keep k10).but bt11 (apart' oz9 (Nat.le_refl _));obtain⟨u12,H12,e12,bt12,ka12,zs12,lz12,dz12,vz12,oz12⟩:=Es (a:=k) oz11 sp9 (apart' oz9 (Nat.le_refl _)) dz11 dz9 (by omega) (by omega) (by omega) (by rw[vz11,vz9,lz11];exact p2le);have sp2:=((oz2.sl.keep k210).but bt11 (apart' oz2 n2')).but bt12 (apart' oz2 n2');obtain⟨u13,H13,e13,bt13,ka13,zs13,lz13,dz13,vz13,oz13⟩:=Es (a:=2*k) oz12 sp2 (apart' oz2 n2') dz12 dz2 (by omega) (by omega) (by omega) (by rw[vz12,vz11,vz9,vz2,lz12,lz11,prod];exact hpl);have K13:Keep H0 H13:=by
     have n9:H0.n≤H9.n:=by have:=(k1.trans (k2.trans k29)).n;exact this
     exact ka13 H0 (ka12 H0 (ka11 H0 K10 n9) n9) n9
    apply Zb;intro b1 hb1;apply Za;simp[t0,t1,l1,l2,eal,eah,ebl,ebh];subst hb1;apply Zb;intro b1 hb1;apply Za;simp[t2,e1,e2];subst hb1;apply Zb;intro b1 hb1;apply Za;simp[t2,e3,e4,e5,e6,e7,e8,e9];subst hb1;apply Zb;intro b1 hb1;apply Za;simp[t0,t1,l1,l2,adlab,Xq (x:=la+lb) (by omega),hmk];subst hb1;apply Zb;intro b1 hb1;apply Za;simp[e11];subst hb1;apply Zb;intro b1 hb1;apply Za;simp[e12];subst hb1;apply Zb;intro b1 hb1;apply Za;simp[dbl_i64 (x:=k) (by omega),e13];subst hb1;apply Zb;intro b1 hb1;apply Za;simp;subst hb1;apply Zi;simp;refine⟨K13,la+lb+1,Nat.le_refl _,zs13,by omega,dz13,by rw[vz13,vz12,vz11,vz9,vz2,prod],oz13.mono ?_ (.refl _)⟩;exact(k1.trans (k2.trans k29)).n
end
theorem Au{n:Nat} :0<Zg n↔0<n:=by
 unfold Zg;by_cases h:n=0;·rw[if_pos h];omega
 ·rw[if_neg h];omega
theorem blen_mul{A B:Nat}(hA:0<A)(hB:0<B):Zg A+Zg B-1≤Zg (A*B):=by have h1:=Uu (n:=A) (by omega);have h2:=Uu (n:=B) (by omega);have h3:=Uo (A*B);have h4:2^(Zg A-1)*2^(Zg B-1)≤A*B:=Nat.mul_le_mul h1 h2;rw[←Nat.pow_add]at h4;have h5:=(Nat.pow_lt_pow_iff_right (a:=2) (by decide)).mp (Nat.lt_of_le_of_lt h4 h3);have:=Au.mpr hA;have:=Au.mpr hB;omega
theorem blen_bound{A:Nat}{L:Nat}(h:(ds B64 A).length≤L):Zg A≤64*L:=by
 rcases Nat.eq_zero_or_pos A with h0|h0;·subst h0;exact Nat.zero_le _
 ·have h1:=ds_lt Ym A;have h2:B64^(ds B64 A).length≤B64^L:=Nat.pow_le_pow_right (by decide) h;have h4:B64^L=2^(64*L):=by rw[Nat.pow_mul]
  have h3:=Uu (n:=A) (by omega);have h5:2^(Zg A-1)<2^(64*L):=by rw[←h4];omega
  have:=(Nat.pow_lt_pow_iff_right (a:=2) (by decide)).mp h5;omega
section
attribute [-simp] Int.natCast_add Int.natCast_mul Int.natCast_ediv Int.natCast_emod Int.natCast_pow
attribute [local simp] strip Yj LW' LR gW Yo Xi Ye Xj Yt Xh Zv Zw Zn Yv Xd Yp Yu Zm Xe Zj opd Qi Ys plain Yn Tr.get_set Qg Zu Xv Yg sameKind undef Zx Yw Xc Zs Qb Jw Yf parts Jp unV DW Xp Yc LX Yb
section
variable {H : AH} {va vb : Value} {xs ys : List Nat}
def MulIs(n0:Nat)(N:Nat)(v:Value)(H':AH):Prop:=(67108864<Zg N∧v= .tuple #[.slice none 0 0,.int .i64 3])∨(Zg N≤67108864∧ ∃u,v= .tuple #[u,.int .i64 0]∧Own n0 H' u (ds B64 N))
theorem great_spec{A B:Nat}(ha:Sl H va (ds B64 A))(hb:Sl H vb (ds B64 B))(lA:(ds B64 A).length≤Lim)(lB:(ds B64 B).length≤Lim):CW Tryz.prog Zl 221 [va,vb] H fun v H'=>H'=H∧v= .bool (decide (0<A∧0<B∧67108864<Zg A+Zg B-1)):=by
 refine Zf 24 (by decide) (by decide) Tryz.func221 rfl rfl ?_;have c1:=Vk ha lA;have c2:=Vk hb lB;have bA:Zg A≤64*2000000000000:=blen_bound lA;have bB:Zg B≤64*2000000000000:=blen_bound lB;apply Zb;intro b1 hb1;apply Za;simp;subst hb1;apply Zb;intro b1 hb1;apply Za;simp[c1,c2];subst hb1;apply Zb;intro b1 hb1;apply Za;by_cases hA:0<Zg A
 ·by_cases hB:0<Zg B;·have s1:Zd .add .i64 (Zg A:Int) (Zg B:Int)=some (.int .i64 ((Zg A+Zg B:Nat):Int)):=Uw (by omega);have s2:Zd .sub .i64 ((Zg A+Zg B:Nat):Int) 1=some (.int .i64 ((Zg A+Zg B-1:Nat):Int)):=Fe (by omega) (by omega);simp[gtr0,hA,hB,s1,s2,Zg5];subst hb1;apply Zi;have hA':=Au.mp hA;have hB':=Au.mp hB;simp[hA',hB']
  ·have hB': ¬0<B:=fun h=>hB (Au.mpr h);simp[gtr0,hA,hB];subst hb1;apply Zi;simp;omega
 ·have hA': ¬0<A:=fun h=>hA (Au.mpr h);simp[gtr0,hA];subst hb1;apply Zi;simp;omega
theorem fits_spec(ha:Sl H va xs)(dx:Dig B64 xs)(lx:xs.length≤2*Lim+1):CW Tryz.prog Zl 222 [va] H fun v H'=>Keep H H'∧MulIs H.n (dv B64 xs) v H':=by
 refine Zf 10 (by decide) (by decide) Tryz.func222 rfl rfl ?_;obtain⟨v1,H1,c1,k1,o1⟩:=Ku ha (Nat.le_trans lx (by decide));rw[Jb Ym dx]at o1;have lN:=Gn dx;have c2:Zo Tryz.prog Zl 123 [v1] H1=some (.int .i64 (Zg (dv B64 xs):Int),H1):=by obtain⟨_,_,hc,rfl,rfl⟩:=Kh o1.sl (Xg Ym _) (Nat.le_trans (Nat.le_trans lN lx) (by decide));rw[Xy Ym]at hc;exact hc
 generalize dv B64 xs=N at*;apply Zb;intro b1 hb1;apply Za;simp;subst hb1;apply Zb;intro b1 hb1;apply Za;simp[c1];subst hb1;apply Zb;intro b1 hb1;apply Zb;intro b2 hb2;apply Za;simp[c2,Zg5];subst hb2;by_cases h:67108864<Zg N;·refine Zc (t:=true) (by simp[h]) ?_;apply Zb;intro b2 hb2;apply Za;simp;subst hb2;apply Zi;simp[Xb];exact⟨k1,.inl ⟨h,rfl⟩⟩
 ·refine Zc (t:=false) (by simp[h]) ?_;apply Zh;subst hb1;apply Zb;intro b2 hb2;apply Za;simp;subst hb2;apply Zi;simp;exact⟨k1,.inr ⟨by omega,v1,rfl,o1⟩⟩
theorem mulWay_call{A B:Nat}(ha:Sl H va (ds B64 A))(hb:Sl H vb (ds B64 B))(lA:(ds B64 A).length≤Lim)(lB:(ds B64 B).length≤Lim): ∃v H',Zo Tryz.prog Zl 198 [va,vb] H=some (v,H')∧Keep H H'∧HalvedIs H.n ((ds B64 A).length+(ds B64 B).length) (A*B) v H':=by
 obtain⟨v,H',hc,k,h⟩:=halved_ok ((ds B64 A).length+(ds B64 B).length) (by have:Lim=2000000000000:=rfl;omega) H va vb _ _ ha hb (Xg Ym A) (Xg Ym B) (Nat.le_refl _);rw[Xy Ym,Xy Ym]at h;suffices hs:CW Tryz.prog Zl 198 [va,vb] H fun v' H''=>v'=v∧H''=H' by obtain⟨_,_,hc2,rfl,rfl⟩:=hs;exact⟨_,_,hc2,k,h⟩
 refine Zf 8 (by decide) (by decide) Tryz.func198 rfl rfl ?_;apply Zb;intro b1 hb1;apply Za;simp;subst hb1;apply Zb;intro b1 hb1;apply Za;simp[hc];subst hb1;apply Zi;simp
theorem mul_spec(ha:Sl H va xs)(hb:Sl H vb ys)(dx:Dig B64 xs)(dy:Dig B64 ys)(lx:xs.length≤Lim)(ly:ys.length≤Lim):CW Tryz.prog Zl 146 [va,vb] H fun v H'=>Keep H H'∧MulIs H.n (dv B64 xs*dv B64 ys) v H':=by
 suffices hp:CW Tryz.prog Zl 197 [va,vb,.func (.func 198) #[] #[]] H fun v H'=>Keep H H'∧MulIs H.n (dv B64 xs*dv B64 ys) v H'∧ ∃a b,v= .tuple #[a,b] by obtain⟨_,H1,hc,k1,h1,a,b,rfl⟩:=hp;refine Zf 11 (by decide) (by decide) Tryz.func146 rfl rfl ?_;apply Zb;intro b1 hb1;apply Za;simp;subst hb1;apply Zb;intro b1 hb1;apply Za;simp[hc];subst hb1;apply Zi;simp;exact⟨k1,h1⟩
 refine Zf 22 (by decide) (by decide) Tryz.func197 rfl rfl ?_;obtain⟨v1,v2,H1,H2,c1,c2,k2,o1,o2,ap⟩:=Zn5 ha hb dx dy lx ly;have lA:=Nat.le_trans (Gn dx) lx;have lB:=Nat.le_trans (Gn dy) ly;generalize dv B64 xs=A at*;generalize dv B64 ys=B at*;have c3:Zo Tryz.prog Zl 221 [v1,v2] H2=some (.bool (decide (0<A∧0<B∧67108864<Zg A+Zg B-1)),H2):=by obtain⟨_,_,hc,rfl,rfl⟩:=great_spec o1.sl o2.sl lA lB;exact hc
 apply Zb;intro b1 hb1;apply Za;simp;subst hb1;apply Zb;intro b1 hb1;apply Za;simp[c1,c2];subst hb1;apply Zb;intro b1 hb1;apply Zb;intro b2 hb2;by_cases hg:0<A∧0<B∧67108864<Zg A+Zg B-1;·rw[decide_eq_true hg]at c3;apply Za;simp[c3];subst hb2;refine Zc (t:=true) (by simp) ?_;apply Zb;intro b2 hb2;apply Za;simp;subst hb2;apply Zi;simp[Xb];have:=blen_mul hg.1 hg.2.1;exact⟨k2,.inl ⟨by omega,rfl⟩⟩
 ·rw[decide_eq_false hg]at c3;obtain⟨v3,H3,c4,k3,len,hlen,zs,lz,dz,vz,oz⟩:=mulWay_call o1.sl o2.sl lA lB;obtain⟨v5,H5,c5,k5,h5⟩:=fits_spec oz.sl dz (by have:Lim=2000000000000:=rfl;omega);rw[vz]at h5;have hn:H.n≤H3.n:=(k2.trans k3).n;have h6:MulIs H.n (A*B) v5 H5∧ ∃a b,v5= .tuple #[a,b]:=by
   rcases h5 with⟨h,rfl⟩|⟨h,u,rfl,o⟩;·exact⟨.inl ⟨h,rfl⟩,_,_,rfl⟩
   ·exact⟨.inr ⟨h,u,rfl,o.mono hn (.refl _)⟩,_,_,rfl⟩
  obtain⟨h6,a,b,rfl⟩:=h6;apply Za;simp[c3];subst hb2;refine Zc (t:=false) (by simp) ?_;apply Zh;subst hb1;apply Zb;intro b2 hb2;apply Za;simp[c4,c5];subst hb2;apply Zi;simp;exact⟨(k2.trans k3).trans k5,h6⟩
end
section
variable {H : AH} {va vb : Value} {xs ys : List Nat}
theorem natAdd_spec(ha:Sl H va xs)(hb:Sl H vb ys)(dx:Dig B64 xs)(dy:Dig B64 ys)(lx:xs.length≤2*Lim)(ly:ys.length≤2*Lim):CW Tryz.prog Zl 167 [va,vb] H fun v H'=>Keep H H'∧MulIs H.n (dv B64 xs+dv B64 ys) v H':=by
 have hLim:Lim=2000000000000:=rfl;refine Zf 61 (by decide) (by decide) Tryz.func167 rfl rfl ?_;obtain⟨v1,H1,c1,e1,s1⟩:=Ka ha (by omega);obtain⟨v2,H2,c2,e2,s2⟩:=Ka hb (by omega);rw[e1]at c1;rw[e2]at c2;rw[←Ud B64 xs,←Ud B64 ys];have dx:=Jt dx;have dy:=Jt dy;have lx:(Xl xs).length≤2*Lim:=Nat.le_trans (Ju xs) lx;have ly:(Xl ys).length≤2*Lim:=Nat.le_trans (Ju ys) ly;generalize Xl xs=xs at*;generalize Xl ys=ys at*;apply Zb;intro b1 hb1;apply Za;simp;subst hb1;apply Zb;intro b1 hb1;apply Za;simp[c1,c2];subst hb1;refine Ja (fun s'=>s'.k=61∧s'.H=H∧ ∃(a b:Value) (xa xb:List Nat),Sl H a xa∧Sl H b xb∧Dig B64 xa∧Dig B64 xb∧xb.length≤xa.length∧xa.length≤2*Lim∧dv B64 xa+dv B64 xb=dv B64 xs+dv B64 ys∧s'.tm.get 0=some a∧s'.tm.get 1=some b) ?_ ?_
 ·intro Q' hQ';have l1:=s1.len Zs;have l2:=s2.len Zs;apply Zb;intro b1 hb1;apply Za;simp[l1,l2];subst hb1;by_cases h:xs.length<ys.length;·refine Zc (t:=true) (by simp[h]) ?_;apply Za;simp;apply hQ';exact⟨rfl,rfl,v2,v1,ys,xs,s2,s1,dy,dx,by omega,by omega,Nat.add_comm _ _,by simp,by simp⟩
  ·refine Zc (t:=false) (by simp[h]) ?_;apply Zh;apply hQ';exact⟨rfl,rfl,v1,v2,xs,ys,s1,s2,dx,dy,by omega,by omega,rfl,by simp,by simp⟩
 clear ha hb s1 s2 dx dy c1 c2;rintro⟨k,tm,H0⟩ ⟨hk,hH,a,b,xa,xb,ha,hb,dx,dy,hba,hla,hsum,t0,t1⟩;simp only at hk hH t0 t1;subst hk;subst hH;rw[←hsum];clear hsum lx ly;have l1:=ha.len Zs;have l2:=hb.len Zs;obtain⟨n,hn⟩: ∃n,n=xa.length:=⟨_,rfl⟩;rw[←hn]at l1;obtain⟨c0,H3,hmk,k3,o3,n3⟩:=Qa (H:=H0) Zs (n:=n+1) (by omega);apply Zb;intro b1 hb1;apply Za;simp[t0,l1,Xq (x:=n) (by omega),hmk];subst hb1;apply Zb;intro b1 hb1;apply Za;simp;subst hb1;apply Zb;intro b1 hb1;apply Zb;intro b2 hb2;apply Za;simp[t0,l1];subst hb2;apply Zp;refine Xt (fun m s'=>s'.k=61∧Keep H0 s'.H∧ ∃(i c:Nat) (L:List Nat),m+i=n∧L.length=i∧c≤1∧Dig B64 L∧dv B64 L+B64^i*c=dv B64 (xa.take i)+dv B64 (xb.take i)∧Own H0.n s'.H c0 (L++List.replicate (m+1) 0)∧s'.tm.get 0=some a∧s'.tm.get 1=some b∧s'.tm.get 6=some c0∧s'.tm.get 7=some (.int .u64 (c:Int))∧s'.tm.get 26=some (.int .i64 (n:Int))∧s'.tm.get 27=some (.int .i64 (i:Int))) ?_ n _ ⟨rfl,k3,0,0,[],by omega,rfl,by omega,.nil _,by simp[dv],by simpa using o3,by simp[t0],by simp[t1],by simp,by simp,by simp,by simp⟩;clear t0 t1;rintro m ⟨k,tm,H4⟩ ⟨hk,kH,i,c,L,hmi,hL,hc,dL,heq,own,t0,t1,t6,t7,t26,t27⟩ Q' hQ';simp only at hk kH own t0 t1 t6 t7 t26 t27;subst hk;apply Zb;intro b3 hb3;apply Za;simp[t26,t27];subst hb3;apply Zb;intro b3 hb3;by_cases hi:i<n
 ·refine Zc (t:=true) (by simp[hi]) ?_;apply Zh;subst hb3;obtain⟨m',rfl⟩: ∃m',m=m'+1:=⟨m-1,by omega⟩;have hi':i<xa.length:=by omega
  have sa:=ha.keep kH;have sb:=hb.keep kH;obtain⟨y,hy⟩: ∃y,y=nth xb i:=⟨_,rfl⟩;have hyB:y<B64:=by rw[hy];exact Ej dy (by decide) _
  obtain⟨x,hx⟩: ∃x,x=nth xa i:=⟨_,rfl⟩;have hxB:x<B64:=by rw[hx];exact Ej dx (by decide) _
  have a0:=sa.adr Zs (k:= .i64) hi';have d0:=sa.load hi';rw[←Jy hi',←hx]at d0;obtain⟨z,hz⟩: ∃z,z=(x+y+c)%B64:=⟨_,rfl⟩;obtain⟨c',hc'⟩: ∃c',c'=(x+y+c)/B64:=⟨_,rfl⟩;have hzc:B64*c'+z=x+y+c:=by rw[hz,hc'];exact Nat.div_add_mod _ _
  have hzB:z<B64:=by rw[hz];exact Nat.mod_lt _ (by decide)
  have hc1:c'≤1:=by
   have:c'<2:=by rw[hc',Nat.div_lt_iff_lt_mul (by decide)];omega
   omega
  have ac:Zo Tryz.prog Zl 203 [.int .u64 (x:Int),.int .u64 (y:Int),.int .u64 (c:Int)] H4=some (.tuple #[.int .u64 (z:Int),.int .u64 (c':Int)],H4):=by rw[hz,hc'];exact Zb7 x y c H4 hc
  obtain⟨H5,st5,own5,bt5,ka5⟩:=own.fill hL z;have a3:=own.sl.adr Zs (k:= .i64) (i:=i) (by simp;omega);apply Zb;intro b3 hb3;apply Zp;apply Zb;intro b4 hb4;apply Za;simp[t27];subst hb4;apply Zb;intro b4 hb4;apply Za;simp;subst hb4;refine Ja (fun s'=>s'.k=61∧s'.H=H4∧s'.tm.get 0=some a∧s'.tm.get 1=some b∧s'.tm.get 6=some c0∧s'.tm.get 7=some (.int .u64 (c:Int))∧s'.tm.get 8=some (.int .i64 (i:Int))∧s'.tm.get 9=some (.int .u64 (y:Int))∧s'.tm.get 26=some (.int .i64 (n:Int))∧s'.tm.get 27=some (.int .i64 (i:Int))) ?_ ?_
  ·intro Q'' hQ'';apply Zb;intro b4 hb4;apply Za;simp[t1,l2];subst hb4;by_cases hby:i<xb.length;·refine Zc (t:=true) (by simp[hby]) ?_;have a1:=sb.adr Zs (k:= .i64) hby;have d1:=sb.load hby;rw[←Jy hby,←hy]at d1;apply Za;simp[t1,a1,d1];apply hQ'';exact⟨rfl,rfl,by simp[t0],by simp[t1],by simp[t6],by simp[t7],by simp,by simp,by simp[t26],by simp[t27]⟩
   ·refine Zc (t:=false) (by simp[hby]) ?_;apply Zh;apply hQ'';rw[Gy (by omega)]at hy;subst hy;exact⟨rfl,rfl,by simp[t0],by simp[t1],by simp[t6],by simp[t7],by simp,by simp,by simp[t26],by simp[t27]⟩
  clear t0 t1 t6 t7 t26 t27;rintro⟨k,tm,H6⟩ ⟨hk,hH,t0,t1,t6,t7,t8,t9,t26,t27⟩;simp only at hk hH t0 t1 t6 t7 t8 t9 t26 t27;subst hk;subst hH;apply Za;simp[t0,t6,t7,t8,t9,a0,d0,ac,a3,st5];subst hb3;apply Za;simp[t27,Xq (x:=i) (by omega)];apply hQ';refine⟨m',by omega,rfl,ka5 H0 kH (Nat.le_refl _),i+1,c',L++[z],by omega,by simp[hL],hc1,dL.append (.cons hzB (.nil _)),?_,own5,by simp[t0],by simp[t1],by simp[t6],by simp,by simp[t26],by simp⟩;rw[Yz,hL,Jk,Jk,←hx,←hy];simp only[dv,Nat.mul_zero,Nat.add_zero];have e1:B64^i*(B64*c'+z)=B64^i*(x+y+c):=by rw[hzc]
  rw[Nat.mul_add,←Nat.mul_assoc,show B64^i*B64=B64^(i+1)from rfl,Nat.mul_add,Nat.mul_add]at e1;omega
 ·refine Zc (t:=false) (by simp[hi]) ?_;apply Xu;apply hQ';left;refine⟨rfl,?_⟩;obtain rfl:i=n:=by omega
  obtain rfl:m=0:=by omega
  rw[List.take_of_length_le (by omega),List.take_of_length_le (by omega)]at heq;have a3:=own.sl.adr Zs (k:= .i64) (i:=i) (by simp;omega);obtain⟨H5,st5,own5,bt5,ka5⟩:=own.fill hL c;rw[List.replicate_zero,List.append_nil]at own5;have dLc:Dig B64 (L++[c]):=dL.append (.cons (by show c<18446744073709551616;omega) (.nil _));have hval:dv B64 (L++[c])=dv B64 xa+dv B64 xb:=by rw[Yz,hL];simp only[dv,Nat.mul_zero,Nat.add_zero];exact heq
  obtain⟨v6,H6,c6,e6,h6⟩:=Zg6 own5 dLc (by simp;omega);subst e6;rw[hval]at h6;have k5:Keep H0 H6:=ka5 H0 kH (Nat.le_refl _);have h7:MulIs H0.n (dv B64 xa+dv B64 xb) v6 H6∧ ∃a b,v6= .tuple #[a,b]:=by
   rcases h6 with⟨h,rfl⟩|⟨h,u,rfl,o⟩;·exact⟨.inl ⟨h,rfl⟩,_,_,rfl⟩
   ·exact⟨.inr ⟨h,u,rfl,o⟩,_,_,rfl⟩
  obtain⟨h7,p,q,rfl⟩:=h7;subst hb1;apply Zb;intro b4 hb4;apply Za;simp[t0,t6,t7,l1,a3,st5];subst hb4;apply Zb;intro b4 hb4;apply Za;simp[t6,c6];subst hb4;apply Zi;simp;exact⟨k5,h7⟩
end
end
theorem gcd_pos{A B:Nat}(hA:0<A):0<Nat.gcd A B:=Nat.gcd_pos_of_pos_left B hA
theorem mul_step32{x y o c:Nat}(hx:x<b32)(hy:y<b32)(ho:o<b32)(hc:c<b32):x*y<B64∧x*y+o<B64∧x*y+o+c<B64∧(x*y+o+c)/4294967296<b32∧(x*y+o+c)%4294967296+b32*((x*y+o+c)/4294967296)=o+x*y+c:=by have hx:x<4294967296:=hx;have hy:y<4294967296:=hy;have ho:o<4294967296:=ho;have hc:c<4294967296:=hc;have hp:x*y≤4294967295*4294967295:=Nat.mul_le_mul (by omega) (by omega);show x*y<18446744073709551616∧x*y+o<18446744073709551616∧x*y+o+c<18446744073709551616∧(x*y+o+c)/4294967296<4294967296∧(x*y+o+c)%4294967296+4294967296*((x*y+o+c)/4294967296)=o+x*y+c;generalize x*y=p at*;omega
section
attribute [-simp] Int.natCast_add Int.natCast_mul Int.natCast_ediv Int.natCast_emod Int.natCast_pow
attribute [local simp] strip Yj LW' LR gW Yo Xi Ye Xj Yt Xh Zv Zw Zn Yv Xd Yp Yu Zm Xe Zj opd Qi Ys plain Yn Tr.get_set Qg Zu Xv Yg sameKind undef Zx Yw Xc Zs Qb Jw Yf parts Jp unV DW Xp Yc LX Yb
section
variable {H : AH} {va vb : Value}
set_option maxHeartbeats 1000000 in theorem refMul_spec{xs ys:List Nat}(ha:Sl H va xs)(hb:Sl H vb ys)(dx:Dig b32 xs)(dy:Dig b32 ys)(lx:xs.length≤8000000000000)(ly:ys.length≤8000000000000):CW Tryz.prog Zl 61 [va,vb] H fun v H'=>Keep H H'∧Own H.n H' v (ds b32 (dv b32 xs*dv b32 ys)):=by
 refine Zf 65 (by decide) (by decide) Tryz.func61 rfl rfl ?_;have l1:=ha.len Qb;have l2:=hb.len Qb;obtain⟨la,hla⟩: ∃la,la=xs.length:=⟨_,rfl⟩;obtain⟨lb,hlb⟩: ∃lb,lb=ys.length:=⟨_,rfl⟩;rw[←hla]at l1;rw[←hlb]at l2;obtain⟨c0,H1,hmk,k1,o1,n1⟩:=Qa (H:=H) Qb (n:=la+lb+1) (by omega);have ad:Zd .add .i64 (la:Int) (lb:Int)=some (.int .i64 ((la+lb:Nat):Int)):=Uw (by omega);apply Zb;intro b1 hb1;apply Za;simp;subst hb1;apply Zb;intro b1 hb1;apply Za;simp[l1,l2,ad,Xq (x:=la+lb) (by omega),hmk];subst hb1;apply Zb;intro b1 hb1;apply Zb;intro b2 hb2;apply Za;simp[l1];subst hb2;apply Zp;refine Xt (fun m s'=>s'.k=65∧Keep H s'.H∧ ∃(i:Nat) (O:List Nat),m+i=la∧O.length=la+lb+1∧Dig b32 O∧(∀j,i+lb≤j→nth O j=0)∧dv b32 O=dv b32 (xs.take i)*dv b32 ys∧Own H.n s'.H c0 O∧s'.tm.get 1=some vb∧s'.tm.get 5=some c0∧s'.tm.get 19=some va∧s'.tm.get 20=some (.int .i64 (la:Int))∧s'.tm.get 21=some (.int .i64 (i:Int))) ?_ la _ ⟨rfl,k1,0,List.replicate (la+lb+1) 0,by omega,by simp,Cq (by decide) _,fun j _=>by
  by_cases hj:j<(List.replicate (la+lb+1) 0).length;·rw[Jy hj];simp
  ·exact Gy (by omega),by simp[dv,Ec],o1,by simp,by simp,by simp,by simp,by simp⟩;rintro m ⟨k,tm,H2⟩ ⟨hk,kH,i,O,hmi,hO,dO,hz,heq,own,t1,t5,t19,t20,t21⟩ Q' hQ';simp only at hk kH own t1 t5 t19 t20 t21;subst hk;apply Zb;intro b3 hb3;apply Za;simp[t20,t21];subst hb3;apply Zb;intro b3 hb3;by_cases hi:i<la
 ·refine Zc (t:=true) (by simp[hi]) ?_;apply Zh;subst hb3;have hi':i<xs.length:=by omega
  have sa:=ha.keep kH;have sb:=hb.keep kH;have a1:=sa.adr Qb (k:= .i64) hi';have d1:=sa.load hi';obtain⟨x,hx⟩: ∃x,x=xs[i]:=⟨_,rfl⟩;have hxB:x<b32:=by rw[hx];exact dx.get (List.getElem?_eq_getElem hi')
  rw[←hx]at d1;apply Zb;intro b3 hb3;apply Zp;apply Zb;intro b4 hb4;apply Za;simp[t19,t21,a1,d1];subst hb4;apply Zb;intro b4 hb4;apply Za;simp;subst hb4;refine Ja (fun s'=>s'.k=65∧Keep H s'.H∧ ∃(c:Nat) (O2:List Nat),c<b32∧O2.length=la+lb+1∧Dig b32 O2∧(∀j,i+lb≤j→nth O2 j=0)∧dv b32 O2+b32^(i+lb)*c=dv b32 O+b32^i*(x*dv b32 ys)∧Own H.n s'.H c0 O2∧s'.tm.get 1=some vb∧s'.tm.get 5=some c0∧s'.tm.get 6=some (.int .i64 (i:Int))∧s'.tm.get 8=some (.int .u64 (c:Int))∧s'.tm.get 19=some va∧s'.tm.get 20=some (.int .i64 (la:Int))∧s'.tm.get 21=some (.int .i64 (i:Int))) ?_ ?_
  ·intro Q'' hQ'';apply Zb;intro b4 hb4;apply Za;simp[t1,l2];subst hb4;apply Zp;refine Xt (fun m s'=>s'.k=65∧Keep H s'.H∧ ∃(j c:Nat) (O2:List Nat),m+j=lb∧c<b32∧O2.length=la+lb+1∧Dig b32 O2∧(∀j,i+lb≤j→nth O2 j=0)∧dv b32 O2+b32^(i+j)*c=dv b32 O+b32^i*(x*dv b32 (ys.take j))∧Own H.n s'.H c0 O2∧s'.tm.get 1=some vb∧s'.tm.get 5=some c0∧s'.tm.get 6=some (.int .i64 (i:Int))∧s'.tm.get 7=some (.int .u64 (x:Int))∧s'.tm.get 8=some (.int .u64 (c:Int))∧s'.tm.get 19=some va∧s'.tm.get 20=some (.int .i64 (la:Int))∧s'.tm.get 21=some (.int .i64 (i:Int))∧s'.tm.get 26=some vb∧s'.tm.get 27=some (.int .i64 (lb:Int))∧s'.tm.get 28=some (.int .i64 (j:Int))) ?_ lb _ ⟨rfl,kH,0,0,O,by omega,by decide,hO,dO,hz,by simp[dv],own,by simp[t1],by simp[t5],by simp,by simp,by simp,by simp[t19],by simp[t20],by simp[t21],by simp[t1],by simp,by simp⟩;clear t1 t5 t19 t20 t21;rintro m2 ⟨k,tm,H3⟩ ⟨hk,kH3,j,c,O2,hmj,hc,hO2,dO2,hz2,heq2,own2,t1,t5,t6,t7,t8,t19,t20,t21,t26,t27,t28⟩ Q5 hQ5;simp only at hk kH3 own2 t1 t5 t6 t7 t8 t19 t20 t21 t26 t27 t28;subst hk;apply Zb;intro b5 hb5;apply Za;simp[t27,t28];subst hb5;apply Zb;intro b5 hb5;by_cases hj:j<lb
   ·refine Zc (t:=true) (by simp[hj]) ?_;apply Zh;subst hb5;have hj':j<ys.length:=by omega
    have sb3:=hb.keep kH3;have a2:=sb3.adr Qb (k:= .i64) hj';have d2:=sb3.load hj';obtain⟨y,hy⟩: ∃y,y=ys[j]:=⟨_,rfl⟩;have hyB:y<b32:=by rw[hy];exact dy.get (List.getElem?_eq_getElem hj')
    rw[←hy]at d2;have hij:i+j<O2.length:=by omega
    have a3:=own2.sl.adr Qb (k:= .i64) hij;have d3:=own2.sl.load hij;obtain⟨o,ho⟩: ∃o,o=O2[i+j]:=⟨_,rfl⟩;have hoB:o<b32:=by rw[ho];exact dO2.get (List.getElem?_eq_getElem hij)
    rw[←ho]at d3;obtain⟨st0,st1,st2,st3,st4'⟩:=mul_step32 hxB hyB hoB hc;have e1:Zd .mul .u64 (x:Int) (y:Int)=some (.int .u64 ((x*y:Nat):Int)):=by rw[Cm,Nat.mod_eq_of_lt st0]
    have e2:Zd .add .u64 ((x*y:Nat):Int) (o:Int)=some (.int .u64 ((x*y+o:Nat):Int)):=Vq st1;have e3:Zd .add .u64 ((x*y+o:Nat):Int) (c:Int)=some (.int .u64 ((x*y+o+c:Nat):Int)):=Vq st2;obtain⟨v,hv⟩: ∃v,v=x*y+o+c:=⟨_,rfl⟩;rw[←hv]at e3 st2 st3 st4';have e6:Zd .add .i64 (i:Int) (j:Int)=some (.int .i64 ((i+j:Nat):Int)):=Uw (by omega);obtain⟨H4,st4,own4,n4,bt4,ka4⟩:=own2.put (i:=i+j) hij (v%4294967296);apply Zb;intro b5 hb5;apply Zp;apply Zb;intro b6 hb6;apply Za;simp[t26,t28,a2,d2];subst hb6;apply Zb;intro b6 hb6;apply Za;simp[t5,t6,t7,t8,e6,a3,d3,e1,e2,e3];subst hb6;apply Zb;intro b6 hb6;apply Za;simp[t5,t6,e6,a3,rem32,st4];subst hb6;apply Za;simp[quo32 st2];subst hb5;apply Za;simp[t28,Xq (x:=j) (by omega)];apply hQ5;refine⟨m2-1,by omega,rfl,ka4 H kH3 (Nat.le_refl _),j+1,v/4294967296,O2.set (i+j) (v%4294967296),by omega,st3,by simp[hO2],dO2.set (Nat.mod_lt _ (by decide)),fun q hq=>by rw[nth_set (by omega)];exact hz2 q hq,?_,own4,by simp[t1],by simp[t5],by simp[t6],by simp[t7],by simp,by simp[t19],by simp[t20],by simp[t21],by simp[t26],by simp[t27],by simp⟩;have ds:=dv_set b32 O2 (i+j) (v%4294967296) hij;rw[←ho]at ds;rw[Qy hj',Yz,List.length_take,Nat.min_eq_left (by omega),←hy];simp only[dv,Nat.mul_zero,Nat.add_zero];generalize v/4294967296=cc at*;generalize v%4294967296=o' at*;have f1:b32^(i+j)*(o'+b32*cc)=b32^(i+j)*(o+x*y+c):=by rw[st4']
    rw[Nat.mul_add,←Nat.mul_assoc (b32^(i+j)) b32,show b32^(i+j)*b32=b32^(i+(j+1))from rfl,Nat.mul_add,Nat.mul_add]at f1;have f2:b32^i*(x*(dv b32 (ys.take j)+b32^j*y))=b32^i*(x*dv b32 (ys.take j))+b32^(i+j)*(x*y):=by rw[Nat.mul_add x,Nat.mul_add (b32^i),Nat.pow_add,Nat.mul_left_comm x (b32^j) y,Nat.mul_assoc (b32^i)]
    rw[f2];omega
   ·refine Zc (t:=false) (by simp[hj]) ?_;apply Xu;apply hQ5;left;obtain rfl:j=lb:=by omega
    rw[List.take_of_length_le (by omega)]at heq2;exact⟨rfl,hQ'' _ ⟨rfl,kH3,c,O2,hc,hO2,dO2,hz2,heq2,own2,by simp[t1],by simp[t5],by simp[t6],by simp[t8],by simp[t19],by simp[t20],by simp[t21]⟩⟩
  clear t1 t5 t19 t20 t21;rintro⟨k,tm,H3⟩ ⟨hk,kH3,c,O2,hc,hO2,dO2,hz2,heq2,own2,t1,t5,t6,t8,t19,t20,t21⟩;simp only at hk kH3 own2 t1 t5 t6 t8 t19 t20 t21;subst hk;have hij:i+lb<O2.length:=by omega
  have a3:=own2.sl.adr Qb (k:= .i64) hij;have e6:Zd .add .i64 (i:Int) (lb:Int)=some (.int .i64 ((i+lb:Nat):Int)):=Uw (by omega);obtain⟨H4,st4,own4,n4,bt4,ka4⟩:=own2.put (i:=i+lb) hij c;apply Za;simp[t1,t5,t6,t8,l2,e6,a3,st4];subst hb3;apply Za;simp[t21,Xq (x:=i) (by omega)];apply hQ';refine⟨m-1,by omega,rfl,ka4 H kH3 (Nat.le_refl _),i+1,O2.set (i+lb) c,by omega,by simp[hO2],dO2.set hc,fun q hq=>by rw[nth_set (by omega)];exact hz2 q (by omega),?_,own4,by simp[t1],by simp[t5],by simp[t19],by simp[t20],by simp⟩;have ds:=dv_set b32 O2 (i+lb) c hij;have h0:=hz2 (i+lb) (Nat.le_refl _);rw[Jy hij]at h0;rw[h0,Nat.mul_zero,Nat.add_zero]at ds;rw[ds,heq2,heq,Qy hi',Yz,List.length_take,Nat.min_eq_left (by omega),←hx,Nat.add_mul];simp only[dv,Nat.mul_zero,Nat.add_zero];rw[Nat.mul_assoc (b32^i)]
 ·refine Zc (t:=false) (by simp[hi]) ?_;apply Xu;apply hQ';left;refine⟨rfl,?_⟩;obtain rfl:i=la:=by omega
  rw[List.take_of_length_le (by omega)]at heq;obtain⟨v5,H5,hc5,e5,o5,_⟩:=Gf own (by omega);subst e5;rw[Jb two32 dO,heq]at o5;subst hb1;apply Zb;intro b4 hb4;apply Za;simp[t5,hc5];subst hb4;apply Zi;simp;exact⟨kH,o5⟩
theorem Gv{A B:Nat} :(ds b32 (A*B)).length≤(ds b32 A).length+(ds b32 B).length:=by have h1:=ds_lt two32 A;have h2:=ds_lt two32 B;refine Vm two32 ?_;rw[Nat.pow_add];exact Nat.mul_lt_mul'' h1 h2
theorem Gk{A B:Nat}(ha:Sl H va (ds b32 A))(hb:Sl H vb (ds b32 B))(lA:(ds b32 A).length≤2*Lim)(lB:(ds b32 B).length≤2*Lim): ∃v H',Zo Tryz.prog Zl 61 [va,vb] H=some (v,H')∧Keep H H'∧Own H.n H' v (ds b32 (A*B)):=by obtain⟨v,H',hc,k,o⟩:=refMul_spec ha hb (Xg two32 A) (Xg two32 B) (Nat.le_trans lA (by decide)) (Nat.le_trans lB (by decide));rw[Xy two32,Xy two32]at o;exact⟨v,H',hc,k,o⟩
end
end
section
attribute [-simp] Int.natCast_add Int.natCast_mul Int.natCast_ediv Int.natCast_emod Int.natCast_pow
attribute [local simp] strip Yj LW' LR gW Yo Xi Ye Xj Yt Xh Zv Zw Zn Yv Xd Yp Xo Zz Yu Zm Zj Xm Xn Jl Yi Xe opd Qi Ys plain Yn Tr.get_set Qg Zu Xv Yg sameKind undef Zx Yw Xc Zs Yf parts unV DW Xp Yc LX Yb
section
variable {H : AH} {va vb : Value} {xs ys : List Nat}
theorem natSub_spec(ha:Sl H va xs)(hb:Sl H vb ys)(dx:Dig B64 xs)(dy:Dig B64 ys)(lx:xs.length≤2*Lim)(ly:ys.length≤2*Lim)(hle:dv B64 ys≤dv B64 xs):CW Tryz.prog Zl 170 [va,vb] H fun v H'=>Keep H H'∧MulIs H.n (dv B64 xs-dv B64 ys) v H':=by
 have hLim:Lim=2000000000000:=rfl;refine Zf 52 (by decide) (by decide) Tryz.func170 rfl rfl ?_;obtain⟨v0,H0,cc,e0,ec⟩:=Ea ha hb dx dy (by omega) (by omega);rw[e0,ec]at cc;obtain⟨v1,H1,c1,e1,s1⟩:=Ka ha (by omega);obtain⟨v2,H2,c2,e2,s2⟩:=Ka hb (by omega);rw[e1]at c1;rw[e2]at c2;have hc0: ¬ (Jo (dv B64 xs) (dv B64 ys)<0):=by rw[cmpN_lt];omega
 have hlt:Zd .lss .i64 (Jo (dv B64 xs) (dv B64 ys)) 0=some (.bool false):=by rw[lss0,decide_eq_false hc0]
 generalize Jo (dv B64 xs) (dv B64 ys)=cm at cc hlt;clear hc0 ec;rw[←Ud B64 xs,←Ud B64 ys]at hle⊢;have hyx:(Xl ys).length≤(Xl xs).length:=by
  rcases Nat.lt_or_ge (Xl xs).length (Xl ys).length with h|h;·have:=Zc8 Ym (Bi ys) (Jt dx) (Jt dy) h;omega
  ·exact h
 have dx:=Jt dx;have dy:=Jt dy;have lx:(Xl xs).length≤2*Lim:=Nat.le_trans (Ju xs) lx;have ly:(Xl ys).length≤2*Lim:=Nat.le_trans (Ju ys) ly;generalize Xl xs=xs at*;generalize Xl ys=ys at*;have l1:=s1.len Zs;have l2:=s2.len Zs;obtain⟨n,hn⟩: ∃n,n=xs.length:=⟨_,rfl⟩;rw[←hn]at l1;obtain⟨c0,H3,hmk,k3,o3,n3⟩:=Qa (H:=H) Zs (n:=n) (by omega);apply Zb;intro b1 hb1;apply Za;simp;subst hb1;apply Zb;intro b1 hb1;apply Zb;intro b2 hb2;apply Za;simp[cc,hlt];subst hb2;refine Zc (t:=false) (by simp) ?_;apply Zh;subst hb1;apply Zb;intro b1 hb1;apply Za;simp[c1,c2];subst hb1;apply Zb;intro b1 hb1;apply Za;simp[l1,hmk];subst hb1;apply Zb;intro b1 hb1;apply Za;simp;subst hb1;apply Zb;intro b1 hb1;apply Zb;intro b2 hb2;apply Za;simp[l1];subst hb2;apply Zp;refine Xt (fun m s'=>s'.k=52∧Keep H s'.H∧ ∃(i bor:Nat) (L:List Nat),m+i=n∧L.length=i∧bor≤1∧Dig B64 L∧dv B64 L+dv B64 (ys.take i)=dv B64 (xs.take i)+B64^i*bor∧Own H.n s'.H c0 (L++List.replicate m 0)∧s'.tm.get 0=some v1∧s'.tm.get 1=some v2∧s'.tm.get 6=some c0∧s'.tm.get 7=some (.int .u64 (bor:Int))∧s'.tm.get 22=some (.int .i64 (n:Int))∧s'.tm.get 23=some (.int .i64 (i:Int))) ?_ n _ ⟨rfl,k3,0,0,[],by omega,rfl,by omega,.nil _,by simp[dv],by simpa using o3,by simp,by simp,by simp,by simp,by simp,by simp⟩;rintro m ⟨k,tm,H4⟩ ⟨hk,kH,i,bor,L,hmi,hL,hbr,dL,heq,own,t0,t1,t6,t7,t22,t23⟩ Q' hQ';simp only at hk kH own t0 t1 t6 t7 t22 t23;subst hk;apply Zb;intro b3 hb3;apply Za;simp[t22,t23];subst hb3;apply Zb;intro b3 hb3;by_cases hi:i<n
 ·refine Zc (t:=true) (by simp[hi]) ?_;apply Zh;subst hb3;obtain⟨m',rfl⟩: ∃m',m=m'+1:=⟨m-1,by omega⟩;have hi':i<xs.length:=by omega
  have sa:=s1.keep kH;have sb:=s2.keep kH;obtain⟨y,hy⟩: ∃y,y=nth ys i:=⟨_,rfl⟩;have hyB:y<B64:=by rw[hy];exact Ej dy (by decide) _
  obtain⟨x,hx⟩: ∃x,x=nth xs i:=⟨_,rfl⟩;have hxB:x<B64:=by rw[hx];exact Ej dx (by decide) _
  have a0:=sa.adr Zs (k:= .i64) hi';have d0:=sa.load hi';rw[←Jy hi',←hx]at d0;have a3:=own.sl.adr Zs (k:= .i64) (i:=i) (by simp;omega);obtain⟨z,hz⟩: ∃z,z=(x+B64-y-bor)%B64:=⟨_,rfl⟩;obtain⟨b',hb'⟩: ∃b',b'=(if x<y+bor then 1 else 0):=⟨_,rfl⟩;have hzB:z<B64:=by rw[hz];exact Nat.mod_lt _ (by decide)
  have hb1':b'≤1:=by rw[hb'];split<;>omega
  have hst:z+y+bor=x+B64*b':=by
   by_cases h:x<y+bor;·rw[hz,hb',if_pos h,Nat.mod_eq_of_lt (by omega)];omega
   ·rw[hz,hb',if_neg h];have:x+B64-y-bor=(x-y-bor)+B64:=by omega
    rw[this,Nat.add_mod_right,Nat.mod_eq_of_lt (by omega)];omega
  have sc:Zo Tryz.prog Zl 206 [.int .u64 (x:Int),.int .u64 (y:Int),.int .u64 (bor:Int)] H4=some (.tuple #[.int .u64 (z:Int),.int .u64 (b':Int)],H4):=by rw[hz,hb'];exact Zb3 x y bor H4 hbr
  obtain⟨H5,st5,own5,bt5,ka5⟩:=own.fill hL z;apply Zb;intro b3 hb3;apply Zp;apply Zb;intro b4 hb4;apply Za;simp[t23];subst hb4;apply Zb;intro b4 hb4;apply Za;simp;subst hb4;refine Ja (fun s'=>s'.k=52∧s'.H=H4∧s'.tm.get 0=some v1∧s'.tm.get 1=some v2∧s'.tm.get 6=some c0∧s'.tm.get 7=some (.int .u64 (bor:Int))∧s'.tm.get 8=some (.int .i64 (i:Int))∧s'.tm.get 9=some (.int .u64 (y:Int))∧s'.tm.get 22=some (.int .i64 (n:Int))∧s'.tm.get 23=some (.int .i64 (i:Int))) ?_ ?_
  ·intro Q'' hQ'';apply Zb;intro b5 hb5;apply Za;simp[t1,l2];subst hb5;by_cases hby:i<ys.length;·refine Zc (t:=true) (by simp[hby]) ?_;have a1:=sb.adr Zs (k:= .i64) hby;have d1:=sb.load hby;rw[←Jy hby,←hy]at d1;apply Za;simp[t1,a1,d1];apply hQ'';exact⟨rfl,rfl,by simp[t0],by simp[t1],by simp[t6],by simp[t7],by simp,by simp,by simp[t22],by simp[t23]⟩
   ·refine Zc (t:=false) (by simp[hby]) ?_;apply Zh;apply hQ'';rw[Gy (by omega)]at hy;subst hy;exact⟨rfl,rfl,by simp[t0],by simp[t1],by simp[t6],by simp[t7],by simp,by simp,by simp[t22],by simp[t23]⟩
  clear t0 t1 t6 t7 t22 t23;rintro⟨k,tm,H6⟩ ⟨hk,hH,t0,t1,t6,t7,t8,t9,t22,t23⟩;simp only at hk hH t0 t1 t6 t7 t8 t9 t22 t23;subst hk;subst hH;apply Za;simp[t0,t6,t7,t8,t9,a0,d0,sc,a3,st5];subst hb3;apply Za;simp[t23,Xq (x:=i) (by omega)];apply hQ';refine⟨m',by omega,rfl,ka5 H kH (Nat.le_refl _),i+1,b',L++[z],by omega,by simp[hL],hb1',dL.append (.cons hzB (.nil _)),?_,own5,by simp[t0],by simp[t1],by simp[t6],by simp,by simp[t22],by simp⟩;rw[Yz,hL,Jk,Jk,←hx,←hy];simp only[dv,Nat.mul_zero,Nat.add_zero];have e1:B64^i*(z+y+bor)=B64^i*(x+B64*b'):=by rw[hst]
  rw[Nat.mul_add,Nat.mul_add,Nat.mul_add,←Nat.mul_assoc,show B64^i*B64=B64^(i+1)from rfl]at e1;omega
 ·refine Zc (t:=false) (by simp[hi]) ?_;apply Xu;apply hQ';left;refine⟨rfl,?_⟩;obtain rfl:i=n:=by omega
  obtain rfl:m=0:=by omega
  rw[List.take_of_length_le (by omega),List.take_of_length_le (by omega)]at heq;rw[List.replicate_zero,List.append_nil]at own;have hlt:=Vz dL;rw[hL]at hlt;have hval:dv B64 L=dv B64 xs-dv B64 ys:=by
   generalize B64^i=P at heq hlt;have:bor=0∨bor=1:=by omega
   rcases this with rfl|rfl<;>omega
  obtain⟨v6,H6,c6,e6,h6⟩:=Zg6 own dL (by omega);subst e6;rw[hval]at h6;have h7:MulIs H.n (dv B64 xs-dv B64 ys) v6 H6∧ ∃a b,v6= .tuple #[a,b]:=by
   rcases h6 with⟨h,rfl⟩|⟨h,u,rfl,o⟩;·exact⟨.inl ⟨h,rfl⟩,_,_,rfl⟩
   ·exact⟨.inr ⟨h,u,rfl,o⟩,_,_,rfl⟩
  obtain⟨h7,p,q,rfl⟩:=h7;subst hb1;apply Zb;intro b4 hb4;apply Za;simp[t6,c6];subst hb4;apply Zi;simp;exact⟨kH,h7⟩
end
end
end
end Go.Proofs.YtmkfecoeghokfaaGreatDoor
