/-
  The engine and the walks that the claim's last text leans on, part 5 of 8: Pb, Pc, Pd, Pe, Pf, Pg, Sa, Sb, Sc, Sd, Se, Sf, Sg, Sh, Si, Sj, Sk, Sl, Sm.
-/
import Derived.Test.YtmkfecoeghokfaaGreatDoorM4
namespace Go.Proofs.YtmkfecoeghokfaaGreatDoor
open Go Ev
set_option linter.unusedVariables false
set_option linter.unusedSimpArgs false
noncomputable section
set_option maxRecDepth 20000
set_option maxHeartbeats 1000000
theorem min_nat(a b:Nat):Fp false [.int .i64 (a:Int),.int .i64 (b:Int)]=some (.int .i64 ((min a b:Nat):Int)):=by
 unfold Fp;simp only[sameKind];show some (Value.int .i64 (if(b:Int)<(a:Int)then(b:Int)else(a:Int)))=_;by_cases h:b<a;·rw[if_pos (by omega),Nat.min_eq_right (by omega)]
 ·rw[if_neg (by omega),Nat.min_eq_left (by omega)]
theorem max_nat(a b:Nat):Fp true [.int .i64 (a:Int),.int .i64 (b:Int)]=some (.int .i64 ((max a b:Nat):Int)):=by
 unfold Fp;simp only[sameKind];show some (Value.int .i64 (if(a:Int)<(b:Int)then(b:Int)else(a:Int)))=_;by_cases h:a<b;·rw[if_pos (by omega),Nat.max_eq_right (by omega)]
 ·rw[if_neg (by omega),Nat.max_eq_left (by omega)]
theorem Own.fillAt{n:Nat}{H:AH}{v:Value}{L zs:List Nat}{i:Nat}(h:Own n H v (L++zs.drop i))(hL:L.length=i)(hi:i<zs.length)(y:Nat): ∃H',Xm Tryz.prog H 101 (adr v i) (.int .u64 (y:Int))=some H'∧Own n H' v ((L++[y])++zs.drop (i+1))∧But (Qd v) H H'∧KA n H H':=by obtain⟨H',h1,h2,h3,h4,h5⟩:=h.put (i:=i) (by simp;omega) y;refine⟨H',h1,?_,⟨h3,fun j _ hj=>h4 j hj⟩,h5⟩;rw[List.drop_eq_getElem_cons hi,Kp _ _ _ _ hL]at h2;simpa using h2
theorem Own.loadAt{n:Nat}{H:AH}{v:Value}{L zs:List Nat}{i:Nat}(h:Own n H v (L++zs.drop i))(hL:L.length=i)(hi:i<zs.length):Yr Tryz.prog H 101 (adr v i)=some (.int .u64 (nth zs i:Int)):=by have:=h.sl.load (i:=i) (by simp;omega);rw[this,Vg hi];congr 3;rw[List.getElem_append_right (by omega)];simp[hL]
section
attribute [-simp] Int.natCast_add Int.natCast_mul Int.natCast_ediv Int.natCast_emod Int.natCast_pow
attribute [local simp] strip Yf LW' LR gW Yk Xd Ya Xe Yo Xf Zr Zs Zg Yp Yy Yl Yq Zh Yz Ze opd Xz Ym plain Yi Tr.get_set Xx Zp Xu Yd sameKind undef Zt Ys Yw Zl Jb Ja Yc parts Qx unV DW Xo Zy LX Zw
def segL(xs:List Nat)(f t:Nat):List Nat:=Xh ((xs.drop (min f xs.length)).take (min t xs.length-min f xs.length))
theorem part_spec{H:AH}{v:Value}{xs:List Nat}(hv:Sl H v xs)(h0:0<xs.length)(lx:xs.length≤17592186044416){f t:Nat}(hft:f≤t):CW Tryz.prog Zo 225 [v,.int .i64 (f:Int),.int .i64 (t:Int)] H fun v' H'=>H'=H∧Sl H v' (segL xs f t):=by
 refine Zk 32 (by decide) (by decide) Tryz.func225 rfl rfl ?_;have l1:=hv.len Zl;obtain⟨f',hf'⟩: ∃f',f'=min f xs.length:=⟨_,rfl⟩;obtain⟨t',ht'⟩: ∃t',t'=min t xs.length:=⟨_,rfl⟩;have m1:=min_nat f xs.length;have m2:=min_nat t xs.length;rw[←hf']at m1;rw[←ht']at m2;have hle:f'≤t':=by omega
 have htl:t'≤xs.length:=by omega
 unfold segL;rw[←hf',←ht'];apply Zb;intro b1 hb1;apply Za;simp;subst hb1;apply Zb;intro b1 hb1;apply Za;simp[l1,m1,m2];subst hb1;apply Zb;intro b1 hb1;apply Zx;refine Qf (fun m s=>s.k=32∧s.H=H∧f'+m≤t'∧Xh ((xs.drop f').take m)=Xh ((xs.drop f').take (t'-f'))∧s.tm.get 0=some v∧s.tm.get 1=some (.int .i64 (f':Int))∧s.tm.get 2=some (.int .i64 ((f'+m:Nat):Int))) ?_ (t'-f') _ ⟨rfl,rfl,by omega,rfl,by simp,by simp,by simp;omega⟩;rintro m ⟨k,tm,H'⟩ ⟨hk,hH,hm,ht,t0,t1,t2⟩ Q' hQ';simp only at hk hH t0 t1 t2;subst hk;subst hH;apply Zb;intro b2 hb2;apply Zb;intro b3 hb3;apply Za;have fin: ∀tm':Tr Value,tm'.get 0=some v→tm'.get 1=some (.int .i64 (f':Int))→tm'.get 2=some (.int .i64 ((f'+m:Nat):Int))→Xh ((xs.drop f').take m)=(xs.drop f').take m→Q' (.exit 0) ⟨32,tm',H'⟩:=fun tm' t0 t1 t2 he=>by apply hQ';left;refine⟨rfl,?_⟩;subst hb1;obtain⟨w,c1,c2⟩:=hv.partAny Zl (f:=f') (m:=m) (by omega) h0;apply Zb;intro b4 hb4;apply Za;simp[t0,t1,t2,c1];subst hb4;apply Zn;simp;rw[←ht,he];exact c2
 by_cases hz:m=0
 ·have g0:Zd .gtr .i64 ((f'+m:Nat):Int) (f':Int)=some (.bool false):=by rw[Km,decide_eq_false];omega
  simp[t1,t2,g0];subst hb3;refine Zc (t:=false) (by simp) ?_;apply Qe;exact fin _ (by simp[t0]) (by simp[t1]) (by simp[t2]) (by rw[hz];rfl)
 ·have g0:Zd .gtr .i64 ((f'+m:Nat):Int) (f':Int)=some (.bool true):=by rw[Km,decide_eq_true];omega
  have hi:f'+m-1<xs.length:=by omega
  have a1:=hv.adr Zl (k:= .i64) hi;have d1:=hv.load hi;have htake:(xs.drop f').take m=(xs.drop f').take (m-1)++[xs[f'+m-1]]:=by have:=Qs (xs:=xs.drop f') (i:=m-1) (by rw[List.length_drop];omega);rw[show m-1+1=m by omega]at this;rw[this,List.getElem_drop];congr 3;omega
  have s1:Zd .sub .i64 ((f'+m:Nat):Int) 1=some (.int .i64 ((f'+m-1:Nat):Int)):=Gw (by omega) (by omega);simp[t0,t1,t2,g0,s1,a1,d1,Vu];subst hb3;by_cases h0:xs[f'+m-1]=0;·refine Zc (t:=true) (by simp[h0]) ?_;apply Zj;subst hb2;apply Zx;apply Za;simp[t2,s1];apply hQ';refine⟨m-1,by omega,rfl,rfl,by show f'+(m-1)≤t';omega,?_,by simp[t0],by simp[t1],by simp;omega⟩;rw[←ht,htake,h0,Ki]
  ·refine Zc (t:=false) (by simp[h0]) ?_;apply Qe;exact fin _ (by simp[t0]) (by simp[t1]) (by simp[t2]) (by rw[htake];exact Dx _ _ h0)
theorem Fa{n0:Nat}{H:AH}{va vb:Value}{zs ys:List Nat}{a:Nat}(ha:Own n0 H va zs)(hb:Sl H vb ys)(ap:Kr va vb)(dz:Dig B64 zs)(dy:Dig B64 ys)(lz:zs.length≤17592186044416)(ly:ys.length≤17592186044416)(haz:a≤zs.length)(room:dv B64 zs+B64^a*dv B64 ys<B64^zs.length):CW Tryz.prog Zo 224 [va,vb,.int .i64 (a:Int)] H fun v' H'=>But (Qd va) H H'∧KA n0 H H'∧ ∃zs',zs'.length=zs.length∧Dig B64 zs'∧dv B64 zs'=dv B64 zs+B64^a*dv B64 ys∧Own n0 H' va zs':=by
 refine Zk 53 (by decide) (by decide) Tryz.func224 rfl rfl ?_;have l2:=hb.len Zl;apply Zb;intro b1 hb1;apply Za;simp;subst hb1;apply Zb;intro b1 hb1;apply Za;simp;subst hb1;apply Zx;refine Qf (fun m s=>s.k=53∧But (Qd va) H s.H∧KA n0 H s.H∧ ∃(i c:Nat) (L:List Nat),m+i=zs.length∧a≤i∧L.length=i∧c≤1∧Dig B64 L∧dv B64 L+B64^i*c=dv B64 (zs.take i)+B64^a*dv B64 (ys.take (i-a))∧Own n0 s.H va (L++zs.drop i)∧s.tm.get 0=some va∧s.tm.get 1=some vb∧s.tm.get 2=some (.int .i64 (a:Int))∧s.tm.get 6=some (.int .u64 (c:Int))∧s.tm.get 7=some (.int .i64 (i:Int))) ?_ (zs.length-a) _ ⟨rfl,.refl _ _,.refl _ _,a,0,zs.take a,by omega,Nat.le_refl _,by rw[List.length_take];omega,by omega,dz.take a,by simp[dv],by rw[List.take_append_drop];exact ha,by simp,by simp,by simp,by simp,by simp⟩;rintro m ⟨k,tm,H2⟩ ⟨hk,bt,ka,i,c,L,hmi,hai,hL,hc,dL,heq,own,t0,t1,t2,t6,t7⟩ Q' hQ';simp only at hk bt ka own t0 t1 t2 t6 t7;subst hk;have sb:=hb.but bt ap;have l1:=own.sl.len Zl;rw[show(L++zs.drop i).length=zs.length by simp;omega]at l1;have s1:Zd .sub .i64 (i:Int) (a:Int)=some (.int .i64 ((i-a:Nat):Int)):=sub_i64 (by omega) hai;apply Zb;intro b2 hb2;apply Zb;intro b3 hb3;apply Za;have on: ∀tm':Tr Value,i<zs.length→tm'.get 25=some (.bool true)→tm'.get 0=some va→tm'.get 1=some vb→tm'.get 2=some (.int .i64 (a:Int))→tm'.get 6=some (.int .u64 (c:Int))→tm'.get 7=some (.int .i64 (i:Int))→W Tryz.prog Zo b3 ⟨53,tm',H2⟩ (Xr Tryz.prog Zo b2 Q'):=fun tm' hi t25 t0 t1 t2 t6 t7=>by
  subst hb3;refine Zc (t:=true) (by simp[t25]) ?_;apply Zj;subst hb2;obtain⟨y,hy⟩: ∃y,y=nth ys (i-a):=⟨_,rfl⟩;have hyB:y<B64:=by rw[hy];exact Co dy (by decide) _
  obtain⟨x,hx⟩: ∃x,x=nth zs i:=⟨_,rfl⟩;have hxB:x<B64:=by rw[hx];exact Co dz (by decide) _
  have d0:=own.loadAt hL hi;rw[←hx]at d0;have a0:=own.sl.adr Zl (k:= .i64) (i:=i) (by simp;omega);obtain⟨z,hz⟩: ∃z,z=(x+y+c)%B64:=⟨_,rfl⟩;obtain⟨c',hc'⟩: ∃c',c'=(x+y+c)/B64:=⟨_,rfl⟩;have hzc:B64*c'+z=x+y+c:=by rw[hz,hc'];exact Nat.div_add_mod _ _
  have hzB:z<B64:=by rw[hz];exact Nat.mod_lt _ (by decide)
  have hc1:c'≤1:=by
   have:c'<2:=by rw[hc',Nat.div_lt_iff_lt_mul (by decide)];omega
   omega
  have ac:Zq Tryz.prog Zo 203 [.int .u64 (x:Int),.int .u64 (y:Int),.int .u64 (c:Int)] H2=some (.tuple #[.int .u64 (z:Int),.int .u64 (c':Int)],H2):=by rw[hz,hc'];exact Bj x y c H2 hc
  obtain⟨H3,st3,own3,bt3,ka3⟩:=own.fillAt hL hi z;apply Zb;intro b2 hb2;apply Zx;apply Zb;intro b3 hb3;apply Za;simp;subst hb3;refine Qu (fun s'=>s'.k=53∧s'.H=H2∧s'.tm.get 0=some va∧s'.tm.get 1=some vb∧s'.tm.get 2=some (.int .i64 (a:Int))∧s'.tm.get 6=some (.int .u64 (c:Int))∧s'.tm.get 7=some (.int .i64 (i:Int))∧s'.tm.get 8=some (.int .u64 (y:Int))) ?_ ?_
  ·intro Q'' hQ'';apply Zb;intro b3 hb3;apply Za;simp[t1,t2,t7,s1,l2];subst hb3;by_cases hb':i-a<ys.length;·refine Zc (t:=true) (by simp[hb']) ?_;have a1:=sb.adr Zl (k:= .i64) hb';have d1:=sb.load hb';rw[←Vg hb',←hy]at d1;apply Za;simp[t1,t2,t7,s1,a1,d1];apply hQ'';exact⟨rfl,rfl,by simp[t0],by simp[t1],by simp[t2],by simp[t6],by simp[t7],by simp⟩
   ·refine Zc (t:=false) (by simp[hb']) ?_;apply Zj;apply hQ'';rw[Gs (by omega)]at hy;subst hy;exact⟨rfl,rfl,by simp[t0],by simp[t1],by simp[t2],by simp[t6],by simp[t7],by simp⟩
  clear t0 t1 t2 t6 t7;rintro⟨k,tm,H4⟩ ⟨hk,hH,t0,t1,t2,t6,t7,t8⟩;simp only at hk hH t0 t1 t2 t6 t7 t8;subst hk;subst hH;apply Za;simp[t0,t6,t7,t8,a0,d0,ac,st3];subst hb2;apply Za;simp[t7,Qa (x:=i) (by omega)];apply hQ';refine⟨m-1,by omega,rfl,bt.trans bt3,ka.trans ka3,i+1,c',L++[z],by omega,by omega,by simp[hL],hc1,dL.append (.cons hzB (.nil _)),?_,own3,by simp[t0],by simp[t1],by simp[t2],by simp,by simp⟩;rw[Xb,hL,Vp,show i+1-a=(i-a)+1 by omega,Vp,←hx,←hy];simp only[dv,Nat.mul_zero,Nat.add_zero];have e1:B64^i*(B64*c'+z)=B64^i*(x+y+c):=by rw[hzc]
  rw[Nat.mul_add,←Nat.mul_assoc,show B64^i*B64=B64^(i+1)from rfl,Nat.mul_add,Nat.mul_add]at e1;have e2:B64^a*(B64^(i-a)*y)=B64^i*y:=by rw[←Nat.mul_assoc,←Nat.pow_add,show a+(i-a)=i by omega]
  rw[Nat.mul_add (B64^a),e2];omega
 have stop: ∀tm':Tr Value,(i=zs.length∨(ys.length≤i-a∧c=0))→tm'.get 25=some (.bool false)→W Tryz.prog Zo b3 ⟨53,tm',H2⟩ (Xr Tryz.prog Zo b2 Q'):=fun tm' he t25=>by
  subst hb3;refine Zc (t:=false) (by simp[t25]) ?_;apply Qe;apply hQ';left;refine⟨rfl,.inl rfl,bt,ka,L++zs.drop i,by simp;omega,dL.append (dz.drop _),?_,own⟩;have e1:=Cw B64 zs i (by omega);rw[Xb,hL];rcases he with rfl|⟨hy,rfl⟩
  ·rw[List.drop_length,List.take_length]at*;simp only[dv,Nat.mul_zero,Nat.add_zero]at*;have hys:dv B64 ys<B64^(zs.length-a):=by
    have h1:B64^a*dv B64 ys<B64^a*B64^(zs.length-a):=by rw[←Nat.pow_add,show a+(zs.length-a)=zs.length by omega];omega
    exact Nat.lt_of_mul_lt_mul_left h1
   rw[Zm0 (by decide) hys]at heq;rcases Nat.lt_or_ge c 1 with h0|h0
   ·obtain rfl:c=0:=by omega
    rw[Nat.mul_zero]at heq;omega
   ·obtain rfl:c=1:=by omega
    rw[Nat.mul_one]at heq;omega
  ·rw[List.take_of_length_le hy]at heq;rw[Nat.mul_zero]at heq;omega
 by_cases hi:i<zs.length
 ·by_cases hy:i-a<ys.length;·simp[t0,t1,t2,t6,t7,l1,l2,hi,s1,hy];show W _ _ b3 _ _;exact on _ hi (by simp) (by simp[t0]) (by simp[t1]) (by simp[t2]) (by simp[t6]) (by simp[t7])
  ·by_cases hc0:0<c;·simp[t0,t1,t2,t6,t7,l1,l2,hi,s1,hy,gtr0,hc0];show W _ _ b3 _ _;exact on _ hi (by simp) (by simp[t0]) (by simp[t1]) (by simp[t2]) (by simp[t6]) (by simp[t7])
   ·simp[t0,t1,t2,t6,t7,l1,l2,hi,s1,hy,gtr0,hc0];show W _ _ b3 _ _;exact stop _ (.inr ⟨by omega,by omega⟩) (by simp)
 ·simp[t0,t1,t2,t6,t7,l1,l2,hi];show W _ _ b3 _ _;exact stop _ (.inl (by omega)) (by simp)
def NewL(n0:Nat)(H':AH)(v:Value)(len N:Nat):Prop:= ∃zs,zs.length=len∧Dig B64 zs∧dv B64 zs=N∧Own n0 H' v zs
section
variable {H : AH} {va vb : Value} {xs ys : List Nat}
theorem Aq(xs:List Nat)(n:Nat):dv B64 (xs++List.replicate n 0)=dv B64 xs:=by rw[Xb,Dk,Nat.mul_zero,Nat.add_zero]
theorem Cv{B:Nat}(hB:0<B)(n:Nat):Dig B (List.replicate n 0):=fun x hx=>by rw[List.eq_of_mem_replicate hx];exact hB
theorem sum_spec(ha:Sl H va xs)(hb:Sl H vb ys)(dx:Dig B64 xs)(dy:Dig B64 ys)(lx:xs.length≤17592186000000)(ly:ys.length≤17592186000000):CW Tryz.prog Zo 227 [va,vb] H fun v H'=>Keep H H'∧NewL H.n H' v (max xs.length ys.length+1) (dv B64 xs+dv B64 ys):=by
 refine Zk 20 (by decide) (by decide) Tryz.func227 rfl rfl ?_;have l1:=ha.len Zl;have l2:=hb.len Zl;obtain⟨n,hn⟩: ∃n,n=max xs.length ys.length:=⟨_,rfl⟩;have mx:=max_nat xs.length ys.length;rw[←hn]at mx⊢;obtain⟨c0,H1,hmk,k1,o1,n1⟩:=Qi (H:=H) Zl (n:=n+1) (by omega);obtain⟨u,H2,hcp,o2,bt2,ka2⟩:=o1.copy (ha.keep k1) (by simp;omega) Zl Zl;have k2:Keep H H2:=ka2 H k1 (Nat.le_refl _);rw[List.drop_replicate]at o2;have apc:Kr c0 vb:=fun c hc hc'=>by have a:=(o1.blk_lo hc).1;have b:=hb.blk_lt hc';omega
 have hlen:(xs++List.replicate (n+1-xs.length) 0).length=n+1:=by simp;omega
 obtain⟨w,H3,hc3,bt3,ka3,zs,lz,dz,vz,oz⟩:=Fa (a:=0) o2 ((hb.keep k1).but bt2 apc) apc (dx.append (Cv (by decide) _)) dy (by omega) (by omega) (Nat.zero_le _) (by rw[hlen,Aq,Nat.pow_zero,Nat.one_mul];have h1:=Ud dx;have h2:=Ud dy;have h3:B64^xs.length≤B64^n:=Nat.pow_le_pow_right (by decide) (by omega);have h4:B64^ys.length≤B64^n:=Nat.pow_le_pow_right (by decide) (by omega);have h5:B64^(n+1)=B64^n*18446744073709551616:=rfl;omega);rw[hlen]at lz;rw[Aq,Nat.pow_zero,Nat.one_mul]at vz;have hc3:Zq Tryz.prog Zo 224 [c0,vb,.int .i64 0] H2=some (w,H3):=hc3;apply Zb;intro b1 hb1;apply Za;simp;subst hb1;apply Zb;intro b1 hb1;apply Za;simp[l1,l2,mx,Qa (x:=n) (by omega),hmk];subst hb1;apply Zb;intro b1 hb1;apply Za;simp[hcp];subst hb1;apply Zb;intro b1 hb1;apply Za;simp[hc3];subst hb1;apply Zb;intro b1 hb1;apply Za;simp;subst hb1;apply Zn;simp;exact⟨ka3 H k2 (Nat.le_refl _),zs,lz,dz,vz,oz⟩
theorem less_spec(ha:Sl H va xs)(hb:Sl H vb ys)(dx:Dig B64 xs)(dy:Dig B64 ys)(lx:xs.length≤17592186000000)(ly:ys.length≤17592186000000)(hle:dv B64 ys≤dv B64 xs):CW Tryz.prog Zo 226 [va,vb] H fun v H'=>Keep H H'∧NewL H.n H' v xs.length (dv B64 xs-dv B64 ys):=by
 refine Zk 43 (by decide) (by decide) Tryz.func226 rfl rfl ?_;have l1:=ha.len Zl;have l2:=hb.len Zl;obtain⟨n,hn⟩: ∃n,n=xs.length:=⟨_,rfl⟩;rw[←hn]at l1⊢;obtain⟨c0,H1,hmk,k1,o1,n1⟩:=Qi (H:=H) Zl (n:=n) (by omega);obtain⟨u,H2,hcp,o2,bt2,ka2⟩:=o1.copy (ha.keep k1) (by simp;omega) Zl Zl;have k2:Keep H H2:=ka2 H k1 (Nat.le_refl _);rw[List.drop_replicate,hn,Nat.sub_self,List.replicate_zero,List.append_nil]at o2;have l0:=o2.sl.len Zl;rw[←hn]at l0;apply Zb;intro b1 hb1;apply Za;simp;subst hb1;apply Zb;intro b1 hb1;apply Za;simp[l1,hmk];subst hb1;apply Zb;intro b1 hb1;apply Za;simp[hcp];subst hb1;apply Zb;intro b1 hb1;apply Za;simp;subst hb1;apply Zb;intro b1 hb1;apply Zb;intro b2 hb2;apply Za;simp[l0];subst hb2;apply Zx;refine Qf (fun m s'=>s'.k=43∧Keep H s'.H∧ ∃(i bor:Nat) (L:List Nat),m+i=n∧L.length=i∧bor≤1∧Dig B64 L∧dv B64 L+dv B64 (ys.take i)=dv B64 (xs.take i)+B64^i*bor∧Own H.n s'.H c0 (L++xs.drop i)∧s'.tm.get 1=some vb∧s'.tm.get 5=some c0∧s'.tm.get 6=some (.int .u64 (bor:Int))∧s'.tm.get 16=some (.int .i64 (n:Int))∧s'.tm.get 17=some (.int .i64 (i:Int))) ?_ n _ ⟨rfl,k2,0,0,[],by omega,rfl,by omega,.nil _,by simp[dv],by simpa using o2,by simp,by simp,by simp,by simp,by simp⟩;rintro m ⟨k,tm,H3⟩ ⟨hk,kH,i,bor,L,hmi,hL,hbr,dL,heq,own,t1,t5,t6,t16,t17⟩ Q' hQ';simp only at hk kH own t1 t5 t6 t16 t17;subst hk;apply Zb;intro b3 hb3;apply Za;simp[t16,t17];subst hb3;apply Zb;intro b3 hb3;by_cases hi:i<n
 ·refine Zc (t:=true) (by simp[hi]) ?_;apply Zj;subst hb3;have hi':i<xs.length:=by omega
  have sb:=hb.keep kH;obtain⟨y,hy⟩: ∃y,y=nth ys i:=⟨_,rfl⟩;have hyB:y<B64:=by rw[hy];exact Co dy (by decide) _
  obtain⟨x,hx⟩: ∃x,x=nth xs i:=⟨_,rfl⟩;have hxB:x<B64:=by rw[hx];exact Co dx (by decide) _
  have d0:=own.loadAt hL hi';rw[←hx]at d0;have a0:=own.sl.adr Zl (k:= .i64) (i:=i) (by simp;omega);obtain⟨z,hz⟩: ∃z,z=(x+B64-y-bor)%B64:=⟨_,rfl⟩;obtain⟨b',hb'⟩: ∃b',b'=(if x<y+bor then 1 else 0):=⟨_,rfl⟩;have hzB:z<B64:=by rw[hz];exact Nat.mod_lt _ (by decide)
  have hb1':b'≤1:=by rw[hb'];split<;>omega
  have hst:z+y+bor=x+B64*b':=by
   by_cases h:x<y+bor;·rw[hz,hb',if_pos h,Nat.mod_eq_of_lt (by omega)];omega
   ·rw[hz,hb',if_neg h];have:x+B64-y-bor=(x-y-bor)+B64:=by omega
    rw[this,Nat.add_mod_right,Nat.mod_eq_of_lt (by omega)];omega
  have sc:Zq Tryz.prog Zo 206 [.int .u64 (x:Int),.int .u64 (y:Int),.int .u64 (bor:Int)] H3=some (.tuple #[.int .u64 (z:Int),.int .u64 (b':Int)],H3):=by rw[hz,hb'];exact Al x y bor H3 hbr
  obtain⟨H4,st4,own4,bt4,ka4⟩:=own.fillAt hL hi' z;apply Zb;intro b3 hb3;apply Zx;apply Zb;intro b4 hb4;apply Za;simp[t17];subst hb4;apply Zb;intro b4 hb4;apply Za;simp;subst hb4;refine Qu (fun s'=>s'.k=43∧s'.H=H3∧s'.tm.get 1=some vb∧s'.tm.get 5=some c0∧s'.tm.get 6=some (.int .u64 (bor:Int))∧s'.tm.get 7=some (.int .i64 (i:Int))∧s'.tm.get 8=some (.int .u64 (y:Int))∧s'.tm.get 16=some (.int .i64 (n:Int))∧s'.tm.get 17=some (.int .i64 (i:Int))) ?_ ?_
  ·intro Q'' hQ'';apply Zb;intro b4 hb4;apply Za;simp[t1,l2];subst hb4;by_cases hby:i<ys.length;·refine Zc (t:=true) (by simp[hby]) ?_;have a1:=sb.adr Zl (k:= .i64) hby;have d1:=sb.load hby;rw[←Vg hby,←hy]at d1;apply Za;simp[t1,a1,d1];apply hQ'';exact⟨rfl,rfl,by simp[t1],by simp[t5],by simp[t6],by simp,by simp,by simp[t16],by simp[t17]⟩
   ·refine Zc (t:=false) (by simp[hby]) ?_;apply Zj;apply hQ'';rw[Gs (by omega)]at hy;subst hy;exact⟨rfl,rfl,by simp[t1],by simp[t5],by simp[t6],by simp,by simp,by simp[t16],by simp[t17]⟩
  clear t1 t5 t6 t16 t17;rintro⟨k,tm,H5⟩ ⟨hk,hH,t1,t5,t6,t7,t8,t16,t17⟩;simp only at hk hH t1 t5 t6 t7 t8 t16 t17;subst hk;subst hH;apply Za;simp[t5,t6,t7,t8,a0,d0,sc,st4];subst hb3;apply Za;simp[t17,Qa (x:=i) (by omega)];apply hQ';refine⟨m-1,by omega,rfl,ka4 H kH (Nat.le_refl _),i+1,b',L++[z],by omega,by simp[hL],hb1',dL.append (.cons hzB (.nil _)),?_,own4,by simp[t1],by simp[t5],by simp,by simp[t16],by simp⟩;rw[Xb,hL,Vp,Vp,←hx,←hy];simp only[dv,Nat.mul_zero,Nat.add_zero];have e1:B64^i*(z+y+bor)=B64^i*(x+B64*b'):=by rw[hst]
  rw[Nat.mul_add (B64^i) x,←Nat.mul_assoc,show B64^i*B64=B64^(i+1)from rfl,Nat.mul_add,Nat.mul_add]at e1;omega
 ·refine Zc (t:=false) (by simp[hi]) ?_;apply Qe;apply hQ';left;refine⟨rfl,?_⟩;obtain rfl:i=n:=by omega
  have hxl:=Ud dx;rw[←hn]at hxl;rw[List.take_of_length_le (l:=xs) (by omega),Zm0 (by decide) (Nat.lt_of_le_of_lt hle hxl)]at heq;have hLl:=Ud dL;rw[hL]at hLl;have hval:dv B64 L=dv B64 xs-dv B64 ys:=by
   rcases Nat.lt_or_ge bor 1 with h0|h0
   ·obtain rfl:bor=0:=by omega
    rw[Nat.mul_zero]at heq;omega
   ·obtain rfl:bor=1:=by omega
    rw[Nat.mul_one]at heq;omega
  rw[List.drop_of_length_le (by omega),List.append_nil]at own;subst hb1;apply Zb;intro b4 hb4;apply Za;simp[t5];subst hb4;apply Zn;simp;exact⟨kH,L,hL,dL,hval,own⟩
theorem mul_step {x y o c : Nat} (hx : x < B64) (hy : y < B64) (ho : o < B64) (hc : c < B64) :
    let p := x * y; let l := (p % B64 + c) % B64; let h := p / B64 + (p % B64 + c) / B64
    h < B64 ∧ h + (o + l) / B64 < B64 ∧ (o + l) % B64 + B64 * (h + (o + l) / B64) = o + x * y + c := by
  intro p l h
  have hx : x < 18446744073709551616 := hx
  have hy : y < 18446744073709551616 := hy
  have ho : o < 18446744073709551616 := ho
  have hc : c < 18446744073709551616 := hc
  have hp : p ≤ 18446744073709551615 * 18446744073709551615 := Nat.mul_le_mul (by omega) (by omega)
  show p / 18446744073709551616 + (p % 18446744073709551616 + c) / 18446744073709551616 < 18446744073709551616 ∧ p / 18446744073709551616 + (p % 18446744073709551616 + c) / 18446744073709551616 + (o + (p % 18446744073709551616 + c) % 18446744073709551616) / 18446744073709551616 < 18446744073709551616 ∧
    (o + (p % 18446744073709551616 + c) % 18446744073709551616) % 18446744073709551616 + 18446744073709551616 * (p / 18446744073709551616 + (p % 18446744073709551616 + c) / 18446744073709551616 + (o + (p % 18446744073709551616 + c) % 18446744073709551616) / 18446744073709551616) = o + p + c
  clear_value p
  omega
set_option maxHeartbeats 1000000 in theorem school_spec(ha:Sl H va xs)(hb:Sl H vb ys)(dx:Dig B64 xs)(dy:Dig B64 ys)(lx:xs.length≤8000000000000)(ly:ys.length≤8000000000000):CW Tryz.prog Zo 223 [va,vb] H fun v H'=>Keep H H'∧NewL H.n H' v (xs.length+ys.length) (dv B64 xs*dv B64 ys):=by
 refine Zk 78 (by decide) (by decide) Tryz.func223 rfl rfl ?_;have l1:=ha.len Zl;have l2:=hb.len Zl;obtain⟨la,hla⟩: ∃la,la=xs.length:=⟨_,rfl⟩;obtain⟨lb,hlb⟩: ∃lb,lb=ys.length:=⟨_,rfl⟩;rw[←hla]at l1⊢;rw[←hlb]at l2⊢;obtain⟨c0,H1,hmk,k1,o1,n1⟩:=Qi (H:=H) Zl (n:=la+lb) (by omega);have ad:Zd .add .i64 (la:Int) (lb:Int)=some (.int .i64 ((la+lb:Nat):Int)):=Gl (by omega);apply Zb;intro b1 hb1;apply Za;simp;subst hb1;apply Zb;intro b1 hb1;apply Za;simp[l1,l2,ad,hmk];subst hb1;apply Zb;intro b1 hb1;apply Zb;intro b2 hb2;apply Za;simp[l1];subst hb2;apply Zx;refine Qf (fun m s'=>s'.k=78∧Keep H s'.H∧ ∃(i:Nat) (O:List Nat),m+i=la∧O.length=la+lb∧Dig B64 O∧(∀j,i+lb≤j→nth O j=0)∧dv B64 O=dv B64 (xs.take i)*dv B64 ys∧Own H.n s'.H c0 O∧s'.tm.get 1=some vb∧s'.tm.get 5=some c0∧s'.tm.get 20=some va∧s'.tm.get 21=some (.int .i64 (la:Int))∧s'.tm.get 22=some (.int .i64 (i:Int))) ?_ la _ ⟨rfl,k1,0,List.replicate (la+lb) 0,by omega,by simp,Cv (by decide) _,fun j _=>by
  by_cases hj:j<(List.replicate (la+lb) 0).length;·rw[Vg hj];simp
  ·exact Gs (by omega),by simp[dv,Dk],o1,by simp,by simp,by simp,by simp,by simp⟩;rintro m ⟨k,tm,H2⟩ ⟨hk,kH,i,O,hmi,hO,dO,hz,heq,own,t1,t5,t20,t21,t22⟩ Q' hQ';simp only at hk kH own t1 t5 t20 t21 t22;subst hk;apply Zb;intro b3 hb3;apply Za;simp[t21,t22];subst hb3;apply Zb;intro b3 hb3;by_cases hi:i<la
 ·refine Zc (t:=true) (by simp[hi]) ?_;apply Zj;subst hb3;have hi':i<xs.length:=by omega
  have sa:=ha.keep kH;have sb:=hb.keep kH;have a1:=sa.adr Zl (k:= .i64) hi';have d1:=sa.load hi';obtain⟨x,hx⟩: ∃x,x=xs[i]:=⟨_,rfl⟩;have hxB:x<B64:=by rw[hx];exact dx.get (List.getElem?_eq_getElem hi')
  rw[←hx]at d1;apply Zb;intro b3 hb3;apply Zx;apply Zb;intro b4 hb4;apply Za;simp[t20,t22,a1,d1];subst hb4;apply Zb;intro b4 hb4;apply Za;simp;subst hb4;refine Qu (fun s'=>s'.k=78∧Keep H s'.H∧ ∃(c:Nat) (O2:List Nat),c<B64∧O2.length=la+lb∧Dig B64 O2∧(∀j,i+lb≤j→nth O2 j=0)∧dv B64 O2+B64^(i+lb)*c=dv B64 O+B64^i*(x*dv B64 ys)∧Own H.n s'.H c0 O2∧s'.tm.get 1=some vb∧s'.tm.get 5=some c0∧s'.tm.get 6=some (.int .i64 (i:Int))∧s'.tm.get 8=some (.int .u64 (c:Int))∧s'.tm.get 20=some va∧s'.tm.get 21=some (.int .i64 (la:Int))∧s'.tm.get 22=some (.int .i64 (i:Int))) ?_ ?_
  ·intro Q'' hQ'';apply Zb;intro b4 hb4;apply Za;simp[t1,l2];subst hb4;apply Zx;refine Qf (fun m s'=>s'.k=78∧Keep H s'.H∧ ∃(j c:Nat) (O2:List Nat),m+j=lb∧c<B64∧O2.length=la+lb∧Dig B64 O2∧(∀j,i+lb≤j→nth O2 j=0)∧dv B64 O2+B64^(i+j)*c=dv B64 O+B64^i*(x*dv B64 (ys.take j))∧Own H.n s'.H c0 O2∧s'.tm.get 1=some vb∧s'.tm.get 5=some c0∧s'.tm.get 6=some (.int .i64 (i:Int))∧s'.tm.get 7=some (.int .u64 (x:Int))∧s'.tm.get 8=some (.int .u64 (c:Int))∧s'.tm.get 20=some va∧s'.tm.get 21=some (.int .i64 (la:Int))∧s'.tm.get 22=some (.int .i64 (i:Int))∧s'.tm.get 27=some vb∧s'.tm.get 28=some (.int .i64 (lb:Int))∧s'.tm.get 29=some (.int .i64 (j:Int))) ?_ lb _ ⟨rfl,kH,0,0,O,by omega,by decide,hO,dO,hz,by simp[dv],own,by simp[t1],by simp[t5],by simp,by simp,by simp,by simp[t20],by simp[t21],by simp[t22],by simp[t1],by simp,by simp⟩;clear t1 t5 t20 t21 t22;rintro m2 ⟨k,tm,H3⟩ ⟨hk,kH3,j,c,O2,hmj,hc,hO2,dO2,hz2,heq2,own2,t1,t5,t6,t7,t8,t20,t21,t22,t27,t28,t29⟩ Q5 hQ5;simp only at hk kH3 own2 t1 t5 t6 t7 t8 t20 t21 t22 t27 t28 t29;subst hk;apply Zb;intro b5 hb5;apply Za;simp[t28,t29];subst hb5;apply Zb;intro b5 hb5;by_cases hj:j<lb
   ·refine Zc (t:=true) (by simp[hj]) ?_;apply Zj;subst hb5;have hj':j<ys.length:=by omega
    have sb3:=hb.keep kH3;have a2:=sb3.adr Zl (k:= .i64) hj';have d2:=sb3.load hj';obtain⟨y,hy⟩: ∃y,y=ys[j]:=⟨_,rfl⟩;have hyB:y<B64:=by rw[hy];exact dy.get (List.getElem?_eq_getElem hj')
    rw[←hy]at d2;have hij:i+j<O2.length:=by omega
    have a3:=own2.sl.adr Zl (k:= .i64) hij;have d3:=own2.sl.load hij;obtain⟨o,ho⟩: ∃o,o=O2[i+j]:=⟨_,rfl⟩;have hoB:o<B64:=by rw[ho];exact dO2.get (List.getElem?_eq_getElem hij)
    rw[←ho]at d3;have step:=mul_step hxB hyB hoB hc;simp only at step;obtain⟨ph,hph⟩: ∃ph,ph=x*y/B64:=⟨_,rfl⟩;obtain⟨pl,hpl⟩: ∃pl,pl=x*y%B64:=⟨_,rfl⟩;rw[←hph,←hpl]at step;obtain⟨l,hl⟩: ∃l,l=(pl+c)%B64:=⟨_,rfl⟩;obtain⟨c1,hc1⟩: ∃c1,c1=(pl+c)/B64:=⟨_,rfl⟩;rw[←hl,←hc1]at step;obtain⟨o',ho'⟩: ∃o',o'=(o+l)%B64:=⟨_,rfl⟩;obtain⟨c2,hc2⟩: ∃c2,c2=(o+l)/B64:=⟨_,rfl⟩;rw[←ho',←hc2]at step;obtain⟨st1,st2,st3⟩:=step;have ho'B:o'<B64:=by rw[ho'];exact Nat.mod_lt _ (by decide)
    have e1:Zq Tryz.prog Zo 202 [.int .u64 (x:Int),.int .u64 (y:Int)] H3=some (.tuple #[.int .u64 (ph:Int),.int .u64 (pl:Int)],H3):=by rw[hph,hpl];exact Ac hxB hyB H3
    have e2:Zq Tryz.prog Zo 203 [.int .u64 (pl:Int),.int .u64 (c:Int),.int .u64 0] H3=some (.tuple #[.int .u64 (l:Int),.int .u64 (c1:Int)],H3):=by rw[hl,hc1];exact Gb pl c H3
    have e3:Zd .add .u64 (ph:Int) (c1:Int)=some (.int .u64 ((ph+c1:Nat):Int)):=De st1;have e4:Zq Tryz.prog Zo 203 [.int .u64 (o:Int),.int .u64 (l:Int),.int .u64 0] H3=some (.tuple #[.int .u64 (o':Int),.int .u64 (c2:Int)],H3):=by rw[ho',hc2];exact Gb o l H3
    have e5:Zd .add .u64 ((ph+c1:Nat):Int) (c2:Int)=some (.int .u64 ((ph+c1+c2:Nat):Int)):=De st2;have e6:Zd .add .i64 (i:Int) (j:Int)=some (.int .i64 ((i+j:Nat):Int)):=Gl (by omega);obtain⟨H4,st4,own4,n4,bt4,ka4⟩:=own2.put (i:=i+j) hij o';apply Zb;intro b5 hb5;apply Zx;apply Zb;intro b6 hb6;apply Za;simp[t27,t29,a2,d2];subst hb6;apply Zb;intro b6 hb6;apply Za;simp[t7,e1];subst hb6;apply Zb;intro b6 hb6;apply Za;simp;subst hb6;apply Zb;intro b6 hb6;apply Za;simp[t8,e2];subst hb6;apply Zb;intro b6 hb6;apply Za;simp[e3];subst hb6;apply Zb;intro b6 hb6;apply Za;simp[t5,t6,e6,a3,d3,e4,st4];subst hb6;apply Za;simp[e5];subst hb5;apply Za;simp[t29,Qa (x:=j) (by omega)];apply hQ5;refine⟨m2-1,by omega,rfl,ka4 H kH3 (Nat.le_refl _),j+1,ph+c1+c2,O2.set (i+j) o',by omega,st2,by simp[hO2],dO2.set ho'B,fun q hq=>by rw[nth_set (by omega)];exact hz2 q hq,?_,own4,by simp[t1],by simp[t5],by simp[t6],by simp[t7],by simp,by simp[t20],by simp[t21],by simp[t22],by simp[t27],by simp[t28],by simp⟩;have ds:=dv_set B64 O2 (i+j) o' hij;rw[←ho]at ds;rw[Qs hj',Xb,List.length_take,Nat.min_eq_left (by omega),←hy];simp only[dv,Nat.mul_zero,Nat.add_zero];generalize ph+c1+c2=cc at*;have f1:B64^(i+j)*(o'+B64*cc)=B64^(i+j)*(o+x*y+c):=by rw[st3]
    rw[Nat.mul_add,←Nat.mul_assoc (B64^(i+j)) B64,show B64^(i+j)*B64=B64^(i+(j+1))from rfl,Nat.mul_add,Nat.mul_add]at f1;have f2:B64^i*(x*(dv B64 (ys.take j)+B64^j*y))=B64^i*(x*dv B64 (ys.take j))+B64^(i+j)*(x*y):=by rw[Nat.mul_add x,Nat.mul_add (B64^i),Nat.pow_add,Nat.mul_left_comm x (B64^j) y,Nat.mul_assoc (B64^i)]
    rw[f2];omega
   ·refine Zc (t:=false) (by simp[hj]) ?_;apply Qe;apply hQ5;left;obtain rfl:j=lb:=by omega
    rw[List.take_of_length_le (by omega)]at heq2;exact⟨rfl,hQ'' _ ⟨rfl,kH3,c,O2,hc,hO2,dO2,hz2,heq2,own2,by simp[t1],by simp[t5],by simp[t6],by simp[t8],by simp[t20],by simp[t21],by simp[t22]⟩⟩
  clear t1 t5 t20 t21 t22;rintro⟨k,tm,H3⟩ ⟨hk,kH3,c,O2,hc,hO2,dO2,hz2,heq2,own2,t1,t5,t6,t8,t20,t21,t22⟩;simp only at hk kH3 own2 t1 t5 t6 t8 t20 t21 t22;subst hk;have hij:i+lb<O2.length:=by omega
  have a3:=own2.sl.adr Zl (k:= .i64) hij;have e6:Zd .add .i64 (i:Int) (lb:Int)=some (.int .i64 ((i+lb:Nat):Int)):=Gl (by omega);obtain⟨H4,st4,own4,n4,bt4,ka4⟩:=own2.put (i:=i+lb) hij c;apply Za;simp[t1,t5,t6,t8,l2,e6,a3,st4];subst hb3;apply Za;simp[t22,Qa (x:=i) (by omega)];apply hQ';refine⟨m-1,by omega,rfl,ka4 H kH3 (Nat.le_refl _),i+1,O2.set (i+lb) c,by omega,by simp[hO2],dO2.set hc,fun q hq=>by rw[nth_set (by omega)];exact hz2 q (by omega),?_,own4,by simp[t1],by simp[t5],by simp[t20],by simp[t21],by simp⟩;have ds:=dv_set B64 O2 (i+lb) c hij;have h0:=hz2 (i+lb) (Nat.le_refl _);rw[Vg hij]at h0;rw[h0,Nat.mul_zero,Nat.add_zero]at ds;rw[ds,heq2,heq,Qs hi',Xb,List.length_take,Nat.min_eq_left (by omega),←hx,Nat.add_mul];simp only[dv,Nat.mul_zero,Nat.add_zero];rw[Nat.mul_assoc (B64^i)]
 ·refine Zc (t:=false) (by simp[hi]) ?_;apply Qe;apply hQ';left;refine⟨rfl,?_⟩;obtain rfl:i=la:=by omega
  rw[List.take_of_length_le (by omega)]at heq;subst hb1;apply Zb;intro b4 hb4;apply Za;simp[t5];subst hb4;apply Zn;simp;exact⟨kH,O,hO,dO,heq,own⟩
end
end
theorem segL_low{xs:List Nat}(dx:Dig B64 xs)(k:Nat):dv B64 (segL xs 0 k)=dv B64 (xs.take k)∧(segL xs 0 k).length≤min k xs.length∧Dig B64 (segL xs 0 k):=by
 unfold segL;have e:(xs.drop (min 0 xs.length)).take (min k xs.length-min 0 xs.length)=xs.take k:=by
  rw[Nat.zero_min,List.drop_zero,Nat.sub_zero];rcases Nat.le_total k xs.length with h|h;·rw[Nat.min_eq_left h]
  ·rw[Nat.min_eq_right h,List.take_length,List.take_of_length_le h]
 rw[e];refine⟨Vq _ _,?_,Jj (dx.take k)⟩;have:=Jk (xs.take k);rwa[List.length_take]at this
theorem segL_high{xs:List Nat}(dx:Dig B64 xs){k:Nat}(hk:k≤xs.length):dv B64 (segL xs k xs.length)=dv B64 (xs.drop k)∧(segL xs k xs.length).length≤xs.length-k∧Dig B64 (segL xs k xs.length):=by unfold segL;rw[Nat.min_eq_left hk,Nat.min_self,List.take_of_length_le (l:=xs.drop k) (by rw[List.length_drop];omega)];refine⟨Vq _ _,?_,Jj (dx.drop k)⟩;have:=Jk (xs.drop k);rwa[List.length_drop]at this
theorem Zg8{xs:List Nat}(dx:Dig B64 xs)(k:Nat):dv B64 (segL xs k xs.length)=dv B64 (xs.drop k)∧(segL xs k xs.length).length≤xs.length-k∧Dig B64 (segL xs k xs.length):=by
 rcases Nat.lt_or_ge xs.length k with h|h;·unfold segL;rw[Nat.min_eq_right (a:=k) (by omega),Nat.min_self,Nat.sub_self,List.take_zero,List.drop_eq_nil_of_le (by omega)];exact⟨rfl,Nat.zero_le _,.nil _⟩
 ·exact segL_high dx h
theorem kara{al ah bl bh:Nat} :(al+ah)*(bl+bh)-al*bl-ah*bh=al*bh+ah*bl∧al*bl≤(al+ah)*(bl+bh)∧ah*bh≤(al+ah)*(bl+bh)-al*bl:=by
 have e:(al+ah)*(bl+bh)=al*bl+al*bh+(ah*bl+ah*bh):=by rw[Nat.add_mul,Nat.mul_add,Nat.mul_add]
 omega
theorem quo2_i64{x:Nat}(h:x<9223372036854775808):Zd .quo .i64 (x:Int) 2=some (.int .i64 ((x/2:Nat):Int)):=quo_i64 (y:=2) h (by decide)
section
attribute [-simp] Int.natCast_add Int.natCast_mul Int.natCast_ediv Int.natCast_emod Int.natCast_pow
attribute [local simp] strip Yf LW' LR gW Yk Xd Ya Xe Yo Xf Zr Zs Zg Yp Yy Yl Yq Zh Yz Ze opd Xz Ym plain Yi Tr.get_set Xx Zp Xu Yd sameKind undef Zt Ys Yw Zl Jb Ja Yc parts Qx unV DW Xo Zy LX Zw
def HalvedIs(n0:Nat)(lab N:Nat)(v:Value)(H':AH):Prop:= ∃len,len≤lab+1∧NewL n0 H' v len N
def HalvedOK(N:Nat):Prop:= ∀(H:AH)(va vb:Value)(xs ys:List Nat),Sl H va xs→Sl H vb ys→Dig B64 xs→Dig B64 ys→xs.length+ys.length≤N→ ∃v H',Zq Tryz.prog Zo 199 [va,vb,.int .i64 40] H=some (v,H')∧Keep H H'∧HalvedIs H.n (xs.length+ys.length) (dv B64 xs*dv B64 ys) v H'
theorem dv_mul_lt{xs ys:List Nat}(dx:Dig B64 xs)(dy:Dig B64 ys):dv B64 xs*dv B64 ys<B64^(xs.length+ys.length+1):=by have h1:=Ud dx;have h2:=Ud dy;have h3:dv B64 xs*dv B64 ys≤B64^xs.length*B64^ys.length:=Nat.mul_le_mul (Nat.le_of_lt h1) (Nat.le_of_lt h2);rw[←Nat.pow_add]at h3;have h4:B64^(xs.length+ys.length)<B64^(xs.length+ys.length+1):=Nat.pow_lt_pow_right (by decide) (Nat.lt_succ_self _);omega
set_option maxHeartbeats 4000000 in theorem halved_ok: ∀N,N≤4000000000000→HalvedOK N:=by intro N;induction N using Nat.strongRecOn with
 |_ N ih=>
  intro hN H va vb xs ys ha hb dx dy hl;suffices h:CW Tryz.prog Zo 199 [va,vb,.int .i64 40] H fun v H'=>Keep H H'∧HalvedIs H.n (xs.length+ys.length) (dv B64 xs*dv B64 ys) v H' by obtain⟨v,H',h1,h2,h3⟩:=h;exact⟨v,H',h1,h2,h3⟩
  refine Zk 124 (by decide) (by decide) Tryz.func199 rfl rfl ?_;apply Zb;intro b1 hb1;apply Za;simp;subst hb1;refine Qu (fun s'=>s'.k=124∧s'.H=H∧ ∃(a b:Value) (xa xb:List Nat),Sl H a xa∧Sl H b xb∧Dig B64 xa∧Dig B64 xb∧xb.length≤xa.length∧xa.length+xb.length=xs.length+ys.length∧dv B64 xa*dv B64 xb=dv B64 xs*dv B64 ys∧s'.tm.get 0=some a∧s'.tm.get 1=some b∧s'.tm.get 2=some (.int .i64 40)) ?_ ?_
  ·intro Q' hQ';have l1:=ha.len Zl;have l2:=hb.len Zl;apply Zb;intro b1 hb1;apply Za;simp[l1,l2];subst hb1;by_cases h:xs.length<ys.length;·refine Zc (t:=true) (by simp[h]) ?_;apply Za;simp;apply hQ';exact⟨rfl,rfl,vb,va,ys,xs,hb,ha,dy,dx,by omega,by omega,Nat.mul_comm _ _,by simp,by simp,by simp⟩
   ·refine Zc (t:=false) (by simp[h]) ?_;apply Zj;apply hQ';exact⟨rfl,rfl,va,vb,xs,ys,ha,hb,dx,dy,by omega,rfl,rfl,by simp,by simp,by simp⟩
  clear ha hb dx dy;rintro⟨k,tm,H0⟩ ⟨hk,hH,a,b,xa,xb,ha,hb,dx,dy,hba,hab,hprod,t0,t1,t2⟩;simp only at hk hH t0 t1 t2;subst hk;subst hH;rw[←hprod,←hab];rw[←hab]at hl;clear hprod hab;have l1:=ha.len Zl;have l2:=hb.len Zl;obtain⟨la,hla⟩: ∃la,la=xa.length:=⟨_,rfl⟩;obtain⟨lb,hlb⟩: ∃lb,lb=xb.length:=⟨_,rfl⟩;rw[←hla]at l1 hl hba⊢;rw[←hlb]at l2 hl hba⊢;have lt40:Zd .lss .i64 (lb:Int) 40=some (.bool (decide (lb<40))):=Qx (y:=40);have hpl:=dv_mul_lt dx dy;rw[←hla,←hlb]at hpl;apply Zb;intro b1 hb1;apply Zb;intro b2 hb2;apply Za;simp[t1,t2,l2,lt40];subst hb2;by_cases h40:lb<40;·obtain⟨v,H',hc,k,hn⟩:=school_spec ha hb dx dy (by omega) (by omega);rw[←hla,←hlb]at hn;refine Zc (t:=true) (by simp[h40]) ?_;apply Zb;intro b2 hb2;apply Za;simp[t0,t1,hc];subst hb2;apply Zn;simp[Xr];exact⟨k,_,Nat.le_succ _,hn⟩
  ·refine Zc (t:=false) (by simp[h40]) ?_;apply Zj;subst hb1;obtain⟨k,hk⟩: ∃k,k=(la+1)/2:=⟨_,rfl⟩;have q2:=quo2_i64 (x:=la+1) (by omega);rw[←hk]at q2;have ps: ∀{Hx:AH}{f t:Nat}{c:Value}{cs:List Nat},Sl Hx c cs→40≤cs.length→cs.length≤4000000000000→f≤t→ ∃w,Zq Tryz.prog Zo 225 [c,.int .i64 (f:Int),.int .i64 (t:Int)] Hx=some (w,Hx)∧Sl Hx w (segL cs f t):=fun{Hx f t c cs} hs h1 h2 h3=>by obtain⟨w,H',hc,e,hw⟩:=part_spec hs (by omega) (by omega) h3;subst e;exact⟨w,hc,hw⟩
   have adlab:Zd .add .i64 (la:Int) (lb:Int)=some (.int .i64 ((la+lb:Nat):Int)):=Gl (by omega);apply Zb;intro b1 hb1;apply Za;simp[t0,l1,Qa (x:=la) (by omega),q2];subst hb1;apply Zb;intro b1 hb1;apply Zb;intro b2 hb2;apply Za;simp[t1,l2,Zi8];subst hb2;by_cases hbk:lb≤k
   ·obtain⟨c0,H1,hmk,k1,o1,n1⟩:=Qi (H:=H0) Zl (n:=la+lb+1) (by omega);have a1:=ha.keep k1;have b1':=hb.keep k1;obtain⟨w1,e1,s1⟩:=ps (f:=0) (t:=k) a1 (by omega) (by omega) (Nat.zero_le _);have e1:Zq Tryz.prog Zo 225 [a,.int .i64 0,.int .i64 (k:Int)] H1=some (w1,H1):=e1;obtain⟨v1,z1,d1⟩:=segL_low dx k;obtain⟨p1,H2,e2,k2,len1,hlen1,zs1,lz1,dz1,vz1,oz1⟩:=ih (k+lb) (by omega) (by omega) H1 w1 b (segL xa 0 k) xb s1 b1' d1 dy (by omega);rw[v1]at vz1;have o2:=o1.mono (Nat.le_refl _) k2;have prod:dv B64 (xa.take k)*dv B64 xb+B64^k*(dv B64 (xa.drop k)*dv B64 xb)=dv B64 xa*dv B64 xb:=by rw[Cw B64 xa k (by omega),Nat.add_mul,Nat.mul_assoc]
    obtain⟨u3,H3,e3,bt3,ka3,zs3,lz3,dz3,vz3,oz3⟩:=Fa (a:=0) o2 oz1.sl (Fb o1 oz1 (Nat.le_refl _)) (Cv (by decide) _) dz1 (by simp;omega) (by omega) (Nat.zero_le _) (by rw[Dk,List.length_replicate,Nat.pow_zero,Nat.one_mul,vz1];omega);have e3:Zq Tryz.prog Zo 224 [c0,p1,.int .i64 0] H2=some (u3,H3):=e3;rw[List.length_replicate]at lz3;rw[Dk,Nat.pow_zero,Nat.one_mul,Nat.zero_add,vz1]at vz3;have k3:Keep H0 H3:=ka3 H0 (k1.trans k2) (Nat.le_refl _);have a3:=ha.keep k3;have b3':=hb.keep k3;obtain⟨w4,e4,s4⟩:=ps (f:=k) (t:=la) a3 (by omega) (by omega) (by omega);obtain⟨v4,z4,d4⟩:=Zg8 dx k;rw[←hla]at v4 z4 d4;obtain⟨p5,H5,e5,k5,len5,hlen5,zs5,lz5,dz5,vz5,oz5⟩:=ih (la-k+lb) (by omega) (by omega) H3 w4 b (segL xa k la) xb s4 b3' d4 dy (by omega);rw[v4]at vz5;have o5:=oz3.mono (Nat.le_refl _) k5;obtain⟨u6,H6,e6,bt6,ka6,zs6,lz6,dz6,vz6,oz6⟩:=Fa (a:=k) o5 oz5.sl (Fb oz3 oz5 (Nat.le_refl _)) dz3 dz5 (by omega) (by omega) (by omega) (by rw[vz3,vz5,lz3,prod];exact hpl);have k6:Keep H0 H6:=ka6 H0 (k3.trans k5) (Nat.le_refl _);refine Zc (t:=true) (by simp[hbk]) ?_;apply Zb;intro b2 hb2;apply Za;simp[t0,t1,l1,l2,adlab,Qa (x:=la+lb) (by omega),hmk];subst hb2;apply Zb;intro b2 hb2;apply Za;simp[t0,t1,t2,e1,e2,e3];subst hb2;apply Zb;intro b2 hb2;apply Za;simp[t0,t1,t2,l1,e4,e5,e6];subst hb2;apply Zb;intro b2 hb2;apply Za;simp;subst hb2;apply Zn;simp[Xr];exact⟨k6,la+lb+1,Nat.le_refl _,zs6,by omega,dz6,by rw[vz6,vz3,vz5,prod],oz6⟩
   ·refine Zc (t:=false) (by simp[hbk]) ?_;apply Zj;subst hb1;obtain⟨wal,eal,sal⟩:=ps (f:=0) (t:=k) ha (by omega) (by omega) (Nat.zero_le _);have eal:Zq Tryz.prog Zo 225 [a,.int .i64 0,.int .i64 (k:Int)] H0=some (wal,H0):=eal;obtain⟨wah,eah,sah⟩:=ps (f:=k) (t:=la) ha (by omega) (by omega) (by omega);obtain⟨wbl,ebl,sbl⟩:=ps (f:=0) (t:=k) hb (by omega) (by omega) (Nat.zero_le _);have ebl:Zq Tryz.prog Zo 225 [b,.int .i64 0,.int .i64 (k:Int)] H0=some (wbl,H0):=ebl;obtain⟨wbh,ebh,sbh⟩:=ps (f:=k) (t:=lb) hb (by omega) (by omega) (by omega);obtain⟨val,zal,dal⟩:=segL_low dx k;obtain⟨vah,zah,dah⟩:=Zg8 dx k;obtain⟨vbl,zbl,dbl⟩:=segL_low dy k;obtain⟨vbh,zbh,dbh⟩:=Zg8 dy k;rw[←hla]at vah zah dah zal;rw[←hlb]at vbh zbh dbh zbl;have ea:=Cw B64 xa k (by omega);have eb:=Cw B64 xb k (by omega);rw[←val,←vah]at ea;rw[←vbl,←vbh]at eb;generalize hAL:segL xa 0 k=AL at*;generalize hAH:segL xa k la=AHh at*;generalize hBL:segL xb 0 k=BL at*;generalize hBH:segL xb k lb=BH at*;have hlal:AL.length≤k:=by omega
    have hlah:AHh.length≤la-k:=by omega
    have hlbl:BL.length≤k:=by omega
    have hlbh:BH.length≤lb-k:=by omega
    clear zal zah zbl zbh val vah vbl vbh hAL hAH hBL hBH;obtain⟨p1,H1,e1,k1,len1,hlen1,zs1,lz1,dz1,vz1,oz1⟩:=ih (k+k) (by omega) (by omega) H0 wal wbl AL BL sal sbl dal dbl (by omega);obtain⟨p2,H2,e2,k2,len2,hlen2,zs2,lz2,dz2,vz2,oz2⟩:=ih (la-k+(lb-k)) (by omega) (by omega) H1 wah wbh AHh BH (sah.keep k1) (sbh.keep k1) dah dbh (by omega);have k12:=k1.trans k2;obtain⟨s3,H3,e3,k3,zs3,lz3,dz3,vz3,oz3⟩:=sum_spec (sal.keep k12) (sah.keep k12) dal dah (by omega) (by omega);have k13:=k12.trans k3;obtain⟨n4,H4,e4,k4,o4⟩:=Uv oz3.sl (by omega);rw[Jf Zz dz3,vz3]at o4;have k14:=k13.trans k4;obtain⟨s5,H5,e5,k5,zs5,lz5,dz5,vz5,oz5⟩:=sum_spec (sbl.keep k14) (sbh.keep k14) dbl dbh (by omega) (by omega);obtain⟨n6,H6,e6,k6,o6⟩:=Uv oz5.sl (by omega);rw[Jf Zz dz5,vz5]at o6;have l4:(ds B64 (dv B64 AL+dv B64 AHh)).length≤k+1:=by rw[←vz3];exact Nat.le_trans (Vx dz3) (by omega)
    have l6:(ds B64 (dv B64 BL+dv B64 BH)).length≤k+1:=by rw[←vz5];exact Nat.le_trans (Vx dz5) (by omega)
    obtain⟨p7,H7,e7,k7,len7,hlen7,zs7,lz7,dz7,vz7,oz7⟩:=ih (k+1+(k+1)) (by omega) (by omega) H6 n4 n6 _ _ ((o4.sl.keep k5).keep k6) o6.sl (Xt Zz _) (Xt Zz _) (by omega);rw[Qh Zz,Qh Zz]at vz7;obtain⟨kr1,kr2,kr3⟩:=kara (al:=dv B64 AL) (ah:=dv B64 AHh) (bl:=dv B64 BL) (bh:=dv B64 BH);have k27:=(((k3.trans k4).trans k5).trans k6).trans k7;have k17:=k2.trans k27;obtain⟨p8,H8,e8,k8,zs8,lz8,dz8,vz8,oz8⟩:=less_spec oz7.sl (oz1.sl.keep k17) dz7 dz1 (by omega) (by omega) (by rw[vz7,vz1];exact kr2);rw[vz7,vz1]at vz8;have k28:=k27.trans k8;obtain⟨p9,H9,e9,k9,zs9,lz9,dz9,vz9,oz9⟩:=less_spec oz8.sl (oz2.sl.keep k28) dz8 dz2 (by omega) (by omega) (by rw[vz8,vz2];exact kr3);rw[vz8,vz2,kr1]at vz9;have k29:=k28.trans k9;obtain⟨c0,H10,hmk,k10,o10,n10⟩:=Qi (H:=H9) Zl (n:=la+lb+1) (by omega);have k210:=k29.trans k10;have k110:=k2.trans k210;have K10:=k1.trans k110;have apart': ∀{n0:Nat}{Hx:AH}{p:Value}{zs:List Nat},Own n0 Hx p zs→Hx.n≤H9.n→Kr c0 p:=fun{n0 Hx p zs} o hn c hc hc'=>by have x1:=(o10.blk_lo hc).1;have x2:=(o.blk_lo hc').2;omega
    have n1':=k2.n;have n2':=k29.n;have prod:dv B64 AL*dv B64 BL+B64^k*(dv B64 AL*dv B64 BH+dv B64 AHh*dv B64 BL)+B64^(2*k)*(dv B64 AHh*dv B64 BH)=dv B64 xa*dv B64 xb:=by
     rw[ea,eb,Nat.add_mul,Nat.mul_add,Nat.mul_add,Nat.mul_add,Nat.two_mul,Nat.pow_add];generalize dv B64 AL=x at*;generalize dv B64 AHh=y at*;generalize dv B64 BL=z at*;generalize dv B64 BH=w at*;generalize B64^k=q at*;have f1:x*(q*w)=q*(x*w):=by rw[Nat.mul_left_comm]
     have f2:q*y*z=q*(y*z):=by rw[Nat.mul_assoc]
     have f3:q*y*(q*w)=q*q*(y*w):=by rw[Nat.mul_mul_mul_comm]
     rw[f1,f2,f3];omega
    have p1le:dv B64 AL*dv B64 BL<B64^(la+lb+1):=by omega
    have p2le:dv B64 AL*dv B64 BL+B64^k*(dv B64 AL*dv B64 BH+dv B64 AHh*dv B64 BL)<B64^(la+lb+1):=by omega
    obtain⟨u11,H11,e11,bt11,ka11,zs11,lz11,dz11,vz11,oz11⟩:=Fa (a:=0) o10 (oz1.sl.keep k110) (apart' oz1 (by omega)) (Cv (by decide) _) dz1 (by simp;omega) (by omega) (Nat.zero_le _) (by rw[Dk,List.length_replicate,Nat.pow_zero,Nat.one_mul,vz1];omega);have e11:Zq Tryz.prog Zo 224 [c0,p1,.int .i64 0] H10=some (u11,H11):=e11;rw[List.length_replicate]at lz11;rw[Dk,Nat.pow_zero,Nat.one_mul,Nat.zero_add,vz1]at vz11;have sp9:=(oz9.sl.keep k10).but bt11 (apart' oz9 (Nat.le_refl _));obtain⟨u12,H12,e12,bt12,ka12,zs12,lz12,dz12,vz12,oz12⟩:=Fa (a:=k) oz11 sp9 (apart' oz9 (Nat.le_refl _)) dz11 dz9 (by omega) (by omega) (by omega) (by rw[vz11,vz9,lz11];exact p2le);have sp2:=((oz2.sl.keep k210).but bt11 (apart' oz2 n2')).but bt12 (apart' oz2 n2');obtain⟨u13,H13,e13,bt13,ka13,zs13,lz13,dz13,vz13,oz13⟩:=Fa (a:=2*k) oz12 sp2 (apart' oz2 n2') dz12 dz2 (by omega) (by omega) (by omega) (by rw[vz12,vz11,vz9,vz2,lz12,lz11,prod];exact hpl);have K13:Keep H0 H13:=by
     have n9:H0.n≤H9.n:=by have:=(k1.trans (k2.trans k29)).n;exact this
     exact ka13 H0 (ka12 H0 (ka11 H0 K10 n9) n9) n9
    apply Zb;intro b1 hb1;apply Za;simp[t0,t1,l1,l2,eal,eah,ebl,ebh];subst hb1;apply Zb;intro b1 hb1;apply Za;simp[t2,e1,e2];subst hb1;apply Zb;intro b1 hb1;apply Za;simp[t2,e3,e4,e5,e6,e7,e8,e9];subst hb1;apply Zb;intro b1 hb1;apply Za;simp[t0,t1,l1,l2,adlab,Qa (x:=la+lb) (by omega),hmk];subst hb1;apply Zb;intro b1 hb1;apply Za;simp[e11];subst hb1;apply Zb;intro b1 hb1;apply Za;simp[e12];subst hb1;apply Zb;intro b1 hb1;apply Za;simp[dbl_i64 (x:=k) (by omega),e13];subst hb1;apply Zb;intro b1 hb1;apply Za;simp;subst hb1;apply Zn;simp;refine⟨K13,la+lb+1,Nat.le_refl _,zs13,by omega,dz13,by rw[vz13,vz12,vz11,vz9,vz2,prod],oz13.mono ?_ (.refl _)⟩;exact(k1.trans (k2.trans k29)).n
end
theorem Ct{n:Nat} :0<Zf n↔0<n:=by
 unfold Zf;by_cases h:n=0;·rw[if_pos h];omega
 ·rw[if_neg h];omega
theorem blen_mul{A B:Nat}(hA:0<A)(hB:0<B):Zf A+Zf B-1≤Zf (A*B):=by have h1:=Ug (n:=A) (by omega);have h2:=Ug (n:=B) (by omega);have h3:=Uh (A*B);have h4:2^(Zf A-1)*2^(Zf B-1)≤A*B:=Nat.mul_le_mul h1 h2;rw[←Nat.pow_add]at h4;have h5:=(Nat.pow_lt_pow_iff_right (a:=2) (by decide)).mp (Nat.lt_of_le_of_lt h4 h3);have:=Ct.mpr hA;have:=Ct.mpr hB;omega
theorem blen_bound{A:Nat}{L:Nat}(h:(ds B64 A).length≤L):Zf A≤64*L:=by
 rcases Nat.eq_zero_or_pos A with h0|h0;·subst h0;exact Nat.zero_le _
 ·have h1:=ds_lt Zz A;have h2:B64^(ds B64 A).length≤B64^L:=Nat.pow_le_pow_right (by decide) h;have h4:B64^L=2^(64*L):=by rw[Nat.pow_mul]
  have h3:=Ug (n:=A) (by omega);have h5:2^(Zf A-1)<2^(64*L):=by rw[←h4];omega
  have:=(Nat.pow_lt_pow_iff_right (a:=2) (by decide)).mp h5;omega
section
attribute [-simp] Int.natCast_add Int.natCast_mul Int.natCast_ediv Int.natCast_emod Int.natCast_pow
attribute [local simp] strip Yf LW' LR gW Yk Xd Ya Xe Yo Xf Zr Zs Zg Yp Yy Yl Yq Zh Yz Ze opd Xz Ym plain Yi Tr.get_set Xx Zp Xu Yd sameKind undef Zt Ys Yw Zl Jb Ja Yc parts Qx unV DW Xo Zy LX Zw
section
variable {H : AH} {va vb : Value} {xs ys : List Nat}
def MulIs(n0:Nat)(N:Nat)(v:Value)(H':AH):Prop:=(67108864<Zf N∧v= .tuple #[.slice none 0 0,.int .i64 3])∨(Zf N≤67108864∧ ∃u,v= .tuple #[u,.int .i64 0]∧Own n0 H' u (ds B64 N))
theorem great_spec{A B:Nat}(ha:Sl H va (ds B64 A))(hb:Sl H vb (ds B64 B))(lA:(ds B64 A).length≤Lim)(lB:(ds B64 B).length≤Lim):CW Tryz.prog Zo 221 [va,vb] H fun v H'=>H'=H∧v= .bool (decide (0<A∧0<B∧67108864<Zf A+Zf B-1)):=by
 refine Zk 24 (by decide) (by decide) Tryz.func221 rfl rfl ?_;have c1:=Jp ha lA;have c2:=Jp hb lB;have bA:Zf A≤64*2000000000000:=blen_bound lA;have bB:Zf B≤64*2000000000000:=blen_bound lB;apply Zb;intro b1 hb1;apply Za;simp;subst hb1;apply Zb;intro b1 hb1;apply Za;simp[c1,c2];subst hb1;apply Zb;intro b1 hb1;apply Za;by_cases hA:0<Zf A
 ·by_cases hB:0<Zf B;·have s1:Zd .add .i64 (Zf A:Int) (Zf B:Int)=some (.int .i64 ((Zf A+Zf B:Nat):Int)):=Gl (by omega);have s2:Zd .sub .i64 ((Zf A+Zf B:Nat):Int) 1=some (.int .i64 ((Zf A+Zf B-1:Nat):Int)):=Gw (by omega) (by omega);simp[gtr0,hA,hB,s1,s2,gtrMax];subst hb1;apply Zn;have hA':=Ct.mp hA;have hB':=Ct.mp hB;simp[hA',hB']
  ·have hB': ¬0<B:=fun h=>hB (Ct.mpr h);simp[gtr0,hA,hB];subst hb1;apply Zn;simp;omega
 ·have hA': ¬0<A:=fun h=>hA (Ct.mpr h);simp[gtr0,hA];subst hb1;apply Zn;simp;omega
theorem fits_spec(ha:Sl H va xs)(dx:Dig B64 xs)(lx:xs.length≤2*Lim+1):CW Tryz.prog Zo 222 [va] H fun v H'=>Keep H H'∧MulIs H.n (dv B64 xs) v H':=by
 refine Zk 10 (by decide) (by decide) Tryz.func222 rfl rfl ?_;obtain⟨v1,H1,c1,k1,o1⟩:=Uv ha (Nat.le_trans lx (by decide));rw[Jf Zz dx]at o1;have lN:=Vx dx;have c2:Zq Tryz.prog Zo 123 [v1] H1=some (.int .i64 (Zf (dv B64 xs):Int),H1):=by obtain⟨_,_,hc,rfl,rfl⟩:=Uf o1.sl (Xt Zz _) (Nat.le_trans (Nat.le_trans lN lx) (by decide));rw[Qh Zz]at hc;exact hc
 generalize dv B64 xs=N at*;apply Zb;intro b1 hb1;apply Za;simp;subst hb1;apply Zb;intro b1 hb1;apply Za;simp[c1];subst hb1;apply Zb;intro b1 hb1;apply Zb;intro b2 hb2;apply Za;simp[c2,gtrMax];subst hb2;by_cases h:67108864<Zf N;·refine Zc (t:=true) (by simp[h]) ?_;apply Zb;intro b2 hb2;apply Za;simp;subst hb2;apply Zn;simp[Xr];exact⟨k1,.inl ⟨h,rfl⟩⟩
 ·refine Zc (t:=false) (by simp[h]) ?_;apply Zj;subst hb1;apply Zb;intro b2 hb2;apply Za;simp;subst hb2;apply Zn;simp;exact⟨k1,.inr ⟨by omega,v1,rfl,o1⟩⟩
theorem mulWay_call{A B:Nat}(ha:Sl H va (ds B64 A))(hb:Sl H vb (ds B64 B))(lA:(ds B64 A).length≤Lim)(lB:(ds B64 B).length≤Lim): ∃v H',Zq Tryz.prog Zo 198 [va,vb] H=some (v,H')∧Keep H H'∧HalvedIs H.n ((ds B64 A).length+(ds B64 B).length) (A*B) v H':=by
 obtain⟨v,H',hc,k,h⟩:=halved_ok ((ds B64 A).length+(ds B64 B).length) (by have:Lim=2000000000000:=rfl;omega) H va vb _ _ ha hb (Xt Zz A) (Xt Zz B) (Nat.le_refl _);rw[Qh Zz,Qh Zz]at h;suffices hs:CW Tryz.prog Zo 198 [va,vb] H fun v' H''=>v'=v∧H''=H' by obtain⟨_,_,hc2,rfl,rfl⟩:=hs;exact⟨_,_,hc2,k,h⟩
 refine Zk 8 (by decide) (by decide) Tryz.func198 rfl rfl ?_;apply Zb;intro b1 hb1;apply Za;simp;subst hb1;apply Zb;intro b1 hb1;apply Za;simp[hc];subst hb1;apply Zn;simp
theorem mul_spec(ha:Sl H va xs)(hb:Sl H vb ys)(dx:Dig B64 xs)(dy:Dig B64 ys)(lx:xs.length≤Lim)(ly:ys.length≤Lim):CW Tryz.prog Zo 146 [va,vb] H fun v H'=>Keep H H'∧MulIs H.n (dv B64 xs*dv B64 ys) v H':=by
 suffices hp:CW Tryz.prog Zo 197 [va,vb,.func (.func 198) #[] #[]] H fun v H'=>Keep H H'∧MulIs H.n (dv B64 xs*dv B64 ys) v H'∧ ∃a b,v= .tuple #[a,b] by obtain⟨_,H1,hc,k1,h1,a,b,rfl⟩:=hp;refine Zk 11 (by decide) (by decide) Tryz.func146 rfl rfl ?_;apply Zb;intro b1 hb1;apply Za;simp;subst hb1;apply Zb;intro b1 hb1;apply Za;simp[hc];subst hb1;apply Zn;simp;exact⟨k1,h1⟩
 refine Zk 22 (by decide) (by decide) Tryz.func197 rfl rfl ?_;obtain⟨v1,v2,H1,H2,c1,c2,k2,o1,o2,ap⟩:=Zj6 ha hb dx dy lx ly;have lA:=Nat.le_trans (Vx dx) lx;have lB:=Nat.le_trans (Vx dy) ly;generalize dv B64 xs=A at*;generalize dv B64 ys=B at*;have c3:Zq Tryz.prog Zo 221 [v1,v2] H2=some (.bool (decide (0<A∧0<B∧67108864<Zf A+Zf B-1)),H2):=by obtain⟨_,_,hc,rfl,rfl⟩:=great_spec o1.sl o2.sl lA lB;exact hc
 apply Zb;intro b1 hb1;apply Za;simp;subst hb1;apply Zb;intro b1 hb1;apply Za;simp[c1,c2];subst hb1;apply Zb;intro b1 hb1;apply Zb;intro b2 hb2;by_cases hg:0<A∧0<B∧67108864<Zf A+Zf B-1;·rw[decide_eq_true hg]at c3;apply Za;simp[c3];subst hb2;refine Zc (t:=true) (by simp) ?_;apply Zb;intro b2 hb2;apply Za;simp;subst hb2;apply Zn;simp[Xr];have:=blen_mul hg.1 hg.2.1;exact⟨k2,.inl ⟨by omega,rfl⟩⟩
 ·rw[decide_eq_false hg]at c3;obtain⟨v3,H3,c4,k3,len,hlen,zs,lz,dz,vz,oz⟩:=mulWay_call o1.sl o2.sl lA lB;obtain⟨v5,H5,c5,k5,h5⟩:=fits_spec oz.sl dz (by have:Lim=2000000000000:=rfl;omega);rw[vz]at h5;have hn:H.n≤H3.n:=(k2.trans k3).n;have h6:MulIs H.n (A*B) v5 H5∧ ∃a b,v5= .tuple #[a,b]:=by
   rcases h5 with⟨h,rfl⟩|⟨h,u,rfl,o⟩;·exact⟨.inl ⟨h,rfl⟩,_,_,rfl⟩
   ·exact⟨.inr ⟨h,u,rfl,o.mono hn (.refl _)⟩,_,_,rfl⟩
  obtain⟨h6,a,b,rfl⟩:=h6;apply Za;simp[c3];subst hb2;refine Zc (t:=false) (by simp) ?_;apply Zj;subst hb1;apply Zb;intro b2 hb2;apply Za;simp[c4,c5];subst hb2;apply Zn;simp;exact⟨(k2.trans k3).trans k5,h6⟩
end
section
variable {H : AH} {va vb : Value} {xs ys : List Nat}
theorem natAdd_spec(ha:Sl H va xs)(hb:Sl H vb ys)(dx:Dig B64 xs)(dy:Dig B64 ys)(lx:xs.length≤2*Lim)(ly:ys.length≤2*Lim):CW Tryz.prog Zo 167 [va,vb] H fun v H'=>Keep H H'∧MulIs H.n (dv B64 xs+dv B64 ys) v H':=by
 have hLim:Lim=2000000000000:=rfl;refine Zk 61 (by decide) (by decide) Tryz.func167 rfl rfl ?_;obtain⟨v1,H1,c1,e1,s1⟩:=Ub ha (by omega);obtain⟨v2,H2,c2,e2,s2⟩:=Ub hb (by omega);rw[e1]at c1;rw[e2]at c2;rw[←Vq B64 xs,←Vq B64 ys];have dx:=Jj dx;have dy:=Jj dy;have lx:(Xh xs).length≤2*Lim:=Nat.le_trans (Jk xs) lx;have ly:(Xh ys).length≤2*Lim:=Nat.le_trans (Jk ys) ly;generalize Xh xs=xs at*;generalize Xh ys=ys at*;apply Zb;intro b1 hb1;apply Za;simp;subst hb1;apply Zb;intro b1 hb1;apply Za;simp[c1,c2];subst hb1;refine Qu (fun s'=>s'.k=61∧s'.H=H∧ ∃(a b:Value) (xa xb:List Nat),Sl H a xa∧Sl H b xb∧Dig B64 xa∧Dig B64 xb∧xb.length≤xa.length∧xa.length≤2*Lim∧dv B64 xa+dv B64 xb=dv B64 xs+dv B64 ys∧s'.tm.get 0=some a∧s'.tm.get 1=some b) ?_ ?_
 ·intro Q' hQ';have l1:=s1.len Zl;have l2:=s2.len Zl;apply Zb;intro b1 hb1;apply Za;simp[l1,l2];subst hb1;by_cases h:xs.length<ys.length;·refine Zc (t:=true) (by simp[h]) ?_;apply Za;simp;apply hQ';exact⟨rfl,rfl,v2,v1,ys,xs,s2,s1,dy,dx,by omega,by omega,Nat.add_comm _ _,by simp,by simp⟩
  ·refine Zc (t:=false) (by simp[h]) ?_;apply Zj;apply hQ';exact⟨rfl,rfl,v1,v2,xs,ys,s1,s2,dx,dy,by omega,by omega,rfl,by simp,by simp⟩
 clear ha hb s1 s2 dx dy c1 c2;rintro⟨k,tm,H0⟩ ⟨hk,hH,a,b,xa,xb,ha,hb,dx,dy,hba,hla,hsum,t0,t1⟩;simp only at hk hH t0 t1;subst hk;subst hH;rw[←hsum];clear hsum lx ly;have l1:=ha.len Zl;have l2:=hb.len Zl;obtain⟨n,hn⟩: ∃n,n=xa.length:=⟨_,rfl⟩;rw[←hn]at l1;obtain⟨c0,H3,hmk,k3,o3,n3⟩:=Qi (H:=H0) Zl (n:=n+1) (by omega);apply Zb;intro b1 hb1;apply Za;simp[t0,l1,Qa (x:=n) (by omega),hmk];subst hb1;apply Zb;intro b1 hb1;apply Za;simp;subst hb1;apply Zb;intro b1 hb1;apply Zb;intro b2 hb2;apply Za;simp[t0,l1];subst hb2;apply Zx;refine Qf (fun m s'=>s'.k=61∧Keep H0 s'.H∧ ∃(i c:Nat) (L:List Nat),m+i=n∧L.length=i∧c≤1∧Dig B64 L∧dv B64 L+B64^i*c=dv B64 (xa.take i)+dv B64 (xb.take i)∧Own H0.n s'.H c0 (L++List.replicate (m+1) 0)∧s'.tm.get 0=some a∧s'.tm.get 1=some b∧s'.tm.get 6=some c0∧s'.tm.get 7=some (.int .u64 (c:Int))∧s'.tm.get 26=some (.int .i64 (n:Int))∧s'.tm.get 27=some (.int .i64 (i:Int))) ?_ n _ ⟨rfl,k3,0,0,[],by omega,rfl,by omega,.nil _,by simp[dv],by simpa using o3,by simp[t0],by simp[t1],by simp,by simp,by simp,by simp⟩;clear t0 t1;rintro m ⟨k,tm,H4⟩ ⟨hk,kH,i,c,L,hmi,hL,hc,dL,heq,own,t0,t1,t6,t7,t26,t27⟩ Q' hQ';simp only at hk kH own t0 t1 t6 t7 t26 t27;subst hk;apply Zb;intro b3 hb3;apply Za;simp[t26,t27];subst hb3;apply Zb;intro b3 hb3;by_cases hi:i<n
 ·refine Zc (t:=true) (by simp[hi]) ?_;apply Zj;subst hb3;obtain⟨m',rfl⟩: ∃m',m=m'+1:=⟨m-1,by omega⟩;have hi':i<xa.length:=by omega
  have sa:=ha.keep kH;have sb:=hb.keep kH;obtain⟨y,hy⟩: ∃y,y=nth xb i:=⟨_,rfl⟩;have hyB:y<B64:=by rw[hy];exact Co dy (by decide) _
  obtain⟨x,hx⟩: ∃x,x=nth xa i:=⟨_,rfl⟩;have hxB:x<B64:=by rw[hx];exact Co dx (by decide) _
  have a0:=sa.adr Zl (k:= .i64) hi';have d0:=sa.load hi';rw[←Vg hi',←hx]at d0;obtain⟨z,hz⟩: ∃z,z=(x+y+c)%B64:=⟨_,rfl⟩;obtain⟨c',hc'⟩: ∃c',c'=(x+y+c)/B64:=⟨_,rfl⟩;have hzc:B64*c'+z=x+y+c:=by rw[hz,hc'];exact Nat.div_add_mod _ _
  have hzB:z<B64:=by rw[hz];exact Nat.mod_lt _ (by decide)
  have hc1:c'≤1:=by
   have:c'<2:=by rw[hc',Nat.div_lt_iff_lt_mul (by decide)];omega
   omega
  have ac:Zq Tryz.prog Zo 203 [.int .u64 (x:Int),.int .u64 (y:Int),.int .u64 (c:Int)] H4=some (.tuple #[.int .u64 (z:Int),.int .u64 (c':Int)],H4):=by rw[hz,hc'];exact Bj x y c H4 hc
  obtain⟨H5,st5,own5,bt5,ka5⟩:=own.fill hL z;have a3:=own.sl.adr Zl (k:= .i64) (i:=i) (by simp;omega);apply Zb;intro b3 hb3;apply Zx;apply Zb;intro b4 hb4;apply Za;simp[t27];subst hb4;apply Zb;intro b4 hb4;apply Za;simp;subst hb4;refine Qu (fun s'=>s'.k=61∧s'.H=H4∧s'.tm.get 0=some a∧s'.tm.get 1=some b∧s'.tm.get 6=some c0∧s'.tm.get 7=some (.int .u64 (c:Int))∧s'.tm.get 8=some (.int .i64 (i:Int))∧s'.tm.get 9=some (.int .u64 (y:Int))∧s'.tm.get 26=some (.int .i64 (n:Int))∧s'.tm.get 27=some (.int .i64 (i:Int))) ?_ ?_
  ·intro Q'' hQ'';apply Zb;intro b4 hb4;apply Za;simp[t1,l2];subst hb4;by_cases hby:i<xb.length;·refine Zc (t:=true) (by simp[hby]) ?_;have a1:=sb.adr Zl (k:= .i64) hby;have d1:=sb.load hby;rw[←Vg hby,←hy]at d1;apply Za;simp[t1,a1,d1];apply hQ'';exact⟨rfl,rfl,by simp[t0],by simp[t1],by simp[t6],by simp[t7],by simp,by simp,by simp[t26],by simp[t27]⟩
   ·refine Zc (t:=false) (by simp[hby]) ?_;apply Zj;apply hQ'';rw[Gs (by omega)]at hy;subst hy;exact⟨rfl,rfl,by simp[t0],by simp[t1],by simp[t6],by simp[t7],by simp,by simp,by simp[t26],by simp[t27]⟩
  clear t0 t1 t6 t7 t26 t27;rintro⟨k,tm,H6⟩ ⟨hk,hH,t0,t1,t6,t7,t8,t9,t26,t27⟩;simp only at hk hH t0 t1 t6 t7 t8 t9 t26 t27;subst hk;subst hH;apply Za;simp[t0,t6,t7,t8,t9,a0,d0,ac,a3,st5];subst hb3;apply Za;simp[t27,Qa (x:=i) (by omega)];apply hQ';refine⟨m',by omega,rfl,ka5 H0 kH (Nat.le_refl _),i+1,c',L++[z],by omega,by simp[hL],hc1,dL.append (.cons hzB (.nil _)),?_,own5,by simp[t0],by simp[t1],by simp[t6],by simp,by simp[t26],by simp⟩;rw[Xb,hL,Vp,Vp,←hx,←hy];simp only[dv,Nat.mul_zero,Nat.add_zero];have e1:B64^i*(B64*c'+z)=B64^i*(x+y+c):=by rw[hzc]
  rw[Nat.mul_add,←Nat.mul_assoc,show B64^i*B64=B64^(i+1)from rfl,Nat.mul_add,Nat.mul_add]at e1;omega
 ·refine Zc (t:=false) (by simp[hi]) ?_;apply Qe;apply hQ';left;refine⟨rfl,?_⟩;obtain rfl:i=n:=by omega
  obtain rfl:m=0:=by omega
  rw[List.take_of_length_le (by omega),List.take_of_length_le (by omega)]at heq;have a3:=own.sl.adr Zl (k:= .i64) (i:=i) (by simp;omega);obtain⟨H5,st5,own5,bt5,ka5⟩:=own.fill hL c;rw[List.replicate_zero,List.append_nil]at own5;have dLc:Dig B64 (L++[c]):=dL.append (.cons (by show c<18446744073709551616;omega) (.nil _));have hval:dv B64 (L++[c])=dv B64 xa+dv B64 xb:=by rw[Xb,hL];simp only[dv,Nat.mul_zero,Nat.add_zero];exact heq
  obtain⟨v6,H6,c6,e6,h6⟩:=Ze3 own5 dLc (by simp;omega);subst e6;rw[hval]at h6;have k5:Keep H0 H6:=ka5 H0 kH (Nat.le_refl _);have h7:MulIs H0.n (dv B64 xa+dv B64 xb) v6 H6∧ ∃a b,v6= .tuple #[a,b]:=by
   rcases h6 with⟨h,rfl⟩|⟨h,u,rfl,o⟩;·exact⟨.inl ⟨h,rfl⟩,_,_,rfl⟩
   ·exact⟨.inr ⟨h,u,rfl,o⟩,_,_,rfl⟩
  obtain⟨h7,p,q,rfl⟩:=h7;subst hb1;apply Zb;intro b4 hb4;apply Za;simp[t0,t6,t7,l1,a3,st5];subst hb4;apply Zb;intro b4 hb4;apply Za;simp[t6,c6];subst hb4;apply Zn;simp;exact⟨k5,h7⟩
end
end
theorem gcd_pos{A B:Nat}(hA:0<A):0<Nat.gcd A B:=Nat.gcd_pos_of_pos_left B hA
section
attribute [-simp] Int.natCast_add Int.natCast_mul Int.natCast_ediv Int.natCast_emod Int.natCast_pow
attribute [local simp] strip Yf LW' LR gW Yk Xd Ya Xe Yo Xf Zr Zs Zg Yp Yy Yl Yq Zh Yz Ze opd Xz Ym plain Yi Tr.get_set Xx Zp Xu Yd sameKind undef Zt Ys Yw Zl Jb Ja Yc parts Qx unV DW Xo Zy LX Zw
section
variable {H : AH} {va vb : Value}
end
end
section
attribute [-simp] Int.natCast_add Int.natCast_mul Int.natCast_ediv Int.natCast_emod Int.natCast_pow
attribute [local simp] strip Yf LW' LR gW Yk Xd Ya Xe Yo Xf Zr Zs Zg Yp Yy Yl Xl Zv Yq Zh Ze Xk Xj Qy Yg Yz opd Xz Ym plain Yi Tr.get_set Xx Zp Xu Yd sameKind undef Zt Ys Yw Zl Yc parts unV DW Xo Zy LX Zw
section
variable {H : AH} {va vb : Value} {xs ys : List Nat}
theorem natSub_spec(ha:Sl H va xs)(hb:Sl H vb ys)(dx:Dig B64 xs)(dy:Dig B64 ys)(lx:xs.length≤2*Lim)(ly:ys.length≤2*Lim)(hle:dv B64 ys≤dv B64 xs):CW Tryz.prog Zo 170 [va,vb] H fun v H'=>Keep H H'∧MulIs H.n (dv B64 xs-dv B64 ys) v H':=by
 have hLim:Lim=2000000000000:=rfl;refine Zk 52 (by decide) (by decide) Tryz.func170 rfl rfl ?_;obtain⟨v0,H0,cc,e0,ec⟩:=Gn ha hb dx dy (by omega) (by omega);rw[e0,ec]at cc;obtain⟨v1,H1,c1,e1,s1⟩:=Ub ha (by omega);obtain⟨v2,H2,c2,e2,s2⟩:=Ub hb (by omega);rw[e1]at c1;rw[e2]at c2;have hc0: ¬ (Uj (dv B64 xs) (dv B64 ys)<0):=by rw[cmpN_lt];omega
 have hlt:Zd .lss .i64 (Uj (dv B64 xs) (dv B64 ys)) 0=some (.bool false):=by rw[lss0,decide_eq_false hc0]
 generalize Uj (dv B64 xs) (dv B64 ys)=cm at cc hlt;clear hc0 ec;rw[←Vq B64 xs,←Vq B64 ys]at hle⊢;have hyx:(Xh ys).length≤(Xh xs).length:=by
  rcases Nat.lt_or_ge (Xh xs).length (Xh ys).length with h|h;·have:=normal_lenlt Zz (Dw ys) (Jj dx) (Jj dy) h;omega
  ·exact h
 have dx:=Jj dx;have dy:=Jj dy;have lx:(Xh xs).length≤2*Lim:=Nat.le_trans (Jk xs) lx;have ly:(Xh ys).length≤2*Lim:=Nat.le_trans (Jk ys) ly;generalize Xh xs=xs at*;generalize Xh ys=ys at*;have l1:=s1.len Zl;have l2:=s2.len Zl;obtain⟨n,hn⟩: ∃n,n=xs.length:=⟨_,rfl⟩;rw[←hn]at l1;obtain⟨c0,H3,hmk,k3,o3,n3⟩:=Qi (H:=H) Zl (n:=n) (by omega);apply Zb;intro b1 hb1;apply Za;simp;subst hb1;apply Zb;intro b1 hb1;apply Zb;intro b2 hb2;apply Za;simp[cc,hlt];subst hb2;refine Zc (t:=false) (by simp) ?_;apply Zj;subst hb1;apply Zb;intro b1 hb1;apply Za;simp[c1,c2];subst hb1;apply Zb;intro b1 hb1;apply Za;simp[l1,hmk];subst hb1;apply Zb;intro b1 hb1;apply Za;simp;subst hb1;apply Zb;intro b1 hb1;apply Zb;intro b2 hb2;apply Za;simp[l1];subst hb2;apply Zx;refine Qf (fun m s'=>s'.k=52∧Keep H s'.H∧ ∃(i bor:Nat) (L:List Nat),m+i=n∧L.length=i∧bor≤1∧Dig B64 L∧dv B64 L+dv B64 (ys.take i)=dv B64 (xs.take i)+B64^i*bor∧Own H.n s'.H c0 (L++List.replicate m 0)∧s'.tm.get 0=some v1∧s'.tm.get 1=some v2∧s'.tm.get 6=some c0∧s'.tm.get 7=some (.int .u64 (bor:Int))∧s'.tm.get 22=some (.int .i64 (n:Int))∧s'.tm.get 23=some (.int .i64 (i:Int))) ?_ n _ ⟨rfl,k3,0,0,[],by omega,rfl,by omega,.nil _,by simp[dv],by simpa using o3,by simp,by simp,by simp,by simp,by simp,by simp⟩;rintro m ⟨k,tm,H4⟩ ⟨hk,kH,i,bor,L,hmi,hL,hbr,dL,heq,own,t0,t1,t6,t7,t22,t23⟩ Q' hQ';simp only at hk kH own t0 t1 t6 t7 t22 t23;subst hk;apply Zb;intro b3 hb3;apply Za;simp[t22,t23];subst hb3;apply Zb;intro b3 hb3;by_cases hi:i<n
 ·refine Zc (t:=true) (by simp[hi]) ?_;apply Zj;subst hb3;obtain⟨m',rfl⟩: ∃m',m=m'+1:=⟨m-1,by omega⟩;have hi':i<xs.length:=by omega
  have sa:=s1.keep kH;have sb:=s2.keep kH;obtain⟨y,hy⟩: ∃y,y=nth ys i:=⟨_,rfl⟩;have hyB:y<B64:=by rw[hy];exact Co dy (by decide) _
  obtain⟨x,hx⟩: ∃x,x=nth xs i:=⟨_,rfl⟩;have hxB:x<B64:=by rw[hx];exact Co dx (by decide) _
  have a0:=sa.adr Zl (k:= .i64) hi';have d0:=sa.load hi';rw[←Vg hi',←hx]at d0;have a3:=own.sl.adr Zl (k:= .i64) (i:=i) (by simp;omega);obtain⟨z,hz⟩: ∃z,z=(x+B64-y-bor)%B64:=⟨_,rfl⟩;obtain⟨b',hb'⟩: ∃b',b'=(if x<y+bor then 1 else 0):=⟨_,rfl⟩;have hzB:z<B64:=by rw[hz];exact Nat.mod_lt _ (by decide)
  have hb1':b'≤1:=by rw[hb'];split<;>omega
  have hst:z+y+bor=x+B64*b':=by
   by_cases h:x<y+bor;·rw[hz,hb',if_pos h,Nat.mod_eq_of_lt (by omega)];omega
   ·rw[hz,hb',if_neg h];have:x+B64-y-bor=(x-y-bor)+B64:=by omega
    rw[this,Nat.add_mod_right,Nat.mod_eq_of_lt (by omega)];omega
  have sc:Zq Tryz.prog Zo 206 [.int .u64 (x:Int),.int .u64 (y:Int),.int .u64 (bor:Int)] H4=some (.tuple #[.int .u64 (z:Int),.int .u64 (b':Int)],H4):=by rw[hz,hb'];exact Al x y bor H4 hbr
  obtain⟨H5,st5,own5,bt5,ka5⟩:=own.fill hL z;apply Zb;intro b3 hb3;apply Zx;apply Zb;intro b4 hb4;apply Za;simp[t23];subst hb4;apply Zb;intro b4 hb4;apply Za;simp;subst hb4;refine Qu (fun s'=>s'.k=52∧s'.H=H4∧s'.tm.get 0=some v1∧s'.tm.get 1=some v2∧s'.tm.get 6=some c0∧s'.tm.get 7=some (.int .u64 (bor:Int))∧s'.tm.get 8=some (.int .i64 (i:Int))∧s'.tm.get 9=some (.int .u64 (y:Int))∧s'.tm.get 22=some (.int .i64 (n:Int))∧s'.tm.get 23=some (.int .i64 (i:Int))) ?_ ?_
  ·intro Q'' hQ'';apply Zb;intro b5 hb5;apply Za;simp[t1,l2];subst hb5;by_cases hby:i<ys.length;·refine Zc (t:=true) (by simp[hby]) ?_;have a1:=sb.adr Zl (k:= .i64) hby;have d1:=sb.load hby;rw[←Vg hby,←hy]at d1;apply Za;simp[t1,a1,d1];apply hQ'';exact⟨rfl,rfl,by simp[t0],by simp[t1],by simp[t6],by simp[t7],by simp,by simp,by simp[t22],by simp[t23]⟩
   ·refine Zc (t:=false) (by simp[hby]) ?_;apply Zj;apply hQ'';rw[Gs (by omega)]at hy;subst hy;exact⟨rfl,rfl,by simp[t0],by simp[t1],by simp[t6],by simp[t7],by simp,by simp,by simp[t22],by simp[t23]⟩
  clear t0 t1 t6 t7 t22 t23;rintro⟨k,tm,H6⟩ ⟨hk,hH,t0,t1,t6,t7,t8,t9,t22,t23⟩;simp only at hk hH t0 t1 t6 t7 t8 t9 t22 t23;subst hk;subst hH;apply Za;simp[t0,t6,t7,t8,t9,a0,d0,sc,a3,st5];subst hb3;apply Za;simp[t23,Qa (x:=i) (by omega)];apply hQ';refine⟨m',by omega,rfl,ka5 H kH (Nat.le_refl _),i+1,b',L++[z],by omega,by simp[hL],hb1',dL.append (.cons hzB (.nil _)),?_,own5,by simp[t0],by simp[t1],by simp[t6],by simp,by simp[t22],by simp⟩;rw[Xb,hL,Vp,Vp,←hx,←hy];simp only[dv,Nat.mul_zero,Nat.add_zero];have e1:B64^i*(z+y+bor)=B64^i*(x+B64*b'):=by rw[hst]
  rw[Nat.mul_add,Nat.mul_add,Nat.mul_add,←Nat.mul_assoc,show B64^i*B64=B64^(i+1)from rfl]at e1;omega
 ·refine Zc (t:=false) (by simp[hi]) ?_;apply Qe;apply hQ';left;refine⟨rfl,?_⟩;obtain rfl:i=n:=by omega
  obtain rfl:m=0:=by omega
  rw[List.take_of_length_le (by omega),List.take_of_length_le (by omega)]at heq;rw[List.replicate_zero,List.append_nil]at own;have hlt:=Ud dL;rw[hL]at hlt;have hval:dv B64 L=dv B64 xs-dv B64 ys:=by
   generalize B64^i=P at heq hlt;have:bor=0∨bor=1:=by omega
   rcases this with rfl|rfl<;>omega
  obtain⟨v6,H6,c6,e6,h6⟩:=Ze3 own dL (by omega);subst e6;rw[hval]at h6;have h7:MulIs H.n (dv B64 xs-dv B64 ys) v6 H6∧ ∃a b,v6= .tuple #[a,b]:=by
   rcases h6 with⟨h,rfl⟩|⟨h,u,rfl,o⟩;·exact⟨.inl ⟨h,rfl⟩,_,_,rfl⟩
   ·exact⟨.inr ⟨h,u,rfl,o⟩,_,_,rfl⟩
  obtain⟨h7,p,q,rfl⟩:=h7;subst hb1;apply Zb;intro b4 hb4;apply Za;simp[t6,c6];subst hb4;apply Zn;simp;exact⟨kH,h7⟩
end
end
theorem neq30:Zd .neq .i64 3 0=some (.bool true):=rfl
theorem Ep:Zd .neq .i64 0 0=some (.bool false):=rfl
theorem limb_step{x y c:Nat}(hx:x<B64)(hy:y<B64)(hc:c<B64):x*y/B64+(x*y%B64+c)/B64<B64∧(x*y%B64+c)%B64+B64*(x*y/B64+(x*y%B64+c)/B64)=x*y+c:=by have hx:x<18446744073709551616:=hx;have hy:y<18446744073709551616:=hy;have hc:c<18446744073709551616:=hc;have hp:x*y≤18446744073709551615*18446744073709551615:=Nat.mul_le_mul (by omega) (by omega);show x*y/18446744073709551616+(x*y%18446744073709551616+c)/18446744073709551616<18446744073709551616∧(x*y%18446744073709551616+c)%18446744073709551616+18446744073709551616*(x*y/18446744073709551616+(x*y%18446744073709551616+c)/18446744073709551616)=x*y+c;generalize x*y=p at*;omega
section
attribute [-simp] Int.natCast_add Int.natCast_mul Int.natCast_ediv Int.natCast_emod Int.natCast_pow
attribute [local simp] strip Yf LW' LR gW Yk Xd Ya Xe Yo Xf Zr Zs Zg Yp Yy Yl Xl Zv Yq Zh Ze Xk Xj Qy Yg Yz opd Xz Ym plain Yi Tr.get_set Xx Zp Xu Yd sameKind undef Zt Ys Yw Zl Yc parts unV DW Xo Zy LX Zw
section
variable {H : AH} {va vb : Value} {xs ys : List Nat}
theorem times_spec{y:Nat}(ha:Sl H va xs)(dx:Dig B64 xs)(hy:y<B64)(lx:xs.length≤2*Lim):CW Tryz.prog Zo 166 [va,.int .u64 (y:Int)] H fun v H'=>Keep H H'∧MulIs H.n (dv B64 xs*y) v H':=by
 have hLim:Lim=2000000000000:=rfl;refine Zk 56 (by decide) (by decide) Tryz.func166 rfl rfl ?_;obtain⟨v1,H1,c1,e1,s1⟩:=Ub ha (by omega);rw[e1]at c1;rw[←Vq B64 xs];have dx:=Jj dx;have lx:(Xh xs).length≤2*Lim:=Nat.le_trans (Jk xs) lx;generalize Xh xs=xs at*;have l1:=s1.len Zl;obtain⟨n,hn⟩: ∃n,n=xs.length:=⟨_,rfl⟩;rw[←hn]at l1;obtain⟨c0,H3,hmk,k3,o3,n3⟩:=Qi (H:=H) Zl (n:=n+1) (by omega);apply Zb;intro b1 hb1;apply Za;simp;subst hb1;apply Zb;intro b1 hb1;apply Za;simp[c1];subst hb1;apply Zb;intro b1 hb1;apply Za;simp[l1,Qa (x:=n) (by omega),hmk];subst hb1;apply Zb;intro b1 hb1;apply Za;simp;subst hb1;apply Zb;intro b1 hb1;apply Zb;intro b2 hb2;apply Za;simp[l1];subst hb2;apply Zx;refine Qf (fun m s'=>s'.k=56∧Keep H s'.H∧ ∃(i c:Nat) (L:List Nat),m+i=n∧L.length=i∧c<B64∧Dig B64 L∧dv B64 L+B64^i*c=dv B64 (xs.take i)*y∧Own H.n s'.H c0 (L++List.replicate (m+1) 0)∧s'.tm.get 0=some v1∧s'.tm.get 1=some (.int .u64 (y:Int))∧s'.tm.get 6=some c0∧s'.tm.get 7=some (.int .u64 (c:Int))∧s'.tm.get 20=some v1∧s'.tm.get 21=some (.int .i64 (n:Int))∧s'.tm.get 22=some (.int .i64 (i:Int))) ?_ n _ ⟨rfl,k3,0,0,[],by omega,rfl,by decide,.nil _,by simp[dv],by simpa using o3,by simp,by simp,by simp,by simp,by simp,by simp,by simp⟩;rintro m ⟨k,tm,H4⟩ ⟨hk,kH,i,c,L,hmi,hL,hc,dL,heq,own,t0,t1,t6,t7,t20,t21,t22⟩ Q' hQ';simp only at hk kH own t0 t1 t6 t7 t20 t21 t22;subst hk;apply Zb;intro b3 hb3;apply Za;simp[t21,t22];subst hb3;apply Zb;intro b3 hb3;by_cases hi:i<n
 ·refine Zc (t:=true) (by simp[hi]) ?_;apply Zj;subst hb3;obtain⟨m',rfl⟩: ∃m',m=m'+1:=⟨m-1,by omega⟩;have hi':i<xs.length:=by omega
  have sa:=s1.keep kH;obtain⟨x,hx⟩: ∃x,x=nth xs i:=⟨_,rfl⟩;have hxB:x<B64:=by rw[hx];exact Co dx (by decide) _
  have a0:=sa.adr Zl (k:= .i64) hi';have d0:=sa.load hi';rw[←Vg hi',←hx]at d0;have a3:=own.sl.adr Zl (k:= .i64) (i:=i) (by simp;omega);obtain⟨g1,g2⟩:=limb_step hxB hy hc;obtain⟨z,hz⟩: ∃z,z=(x*y%B64+c)%B64:=⟨_,rfl⟩;obtain⟨h1,hh1⟩: ∃h1,h1=x*y/B64:=⟨_,rfl⟩;obtain⟨h2,hh2⟩: ∃h2,h2=(x*y%B64+c)/B64:=⟨_,rfl⟩;have mc:=Ac hxB hy H4;have ac:=Gb (x*y%B64) c H4;have hzB:z<B64:=by rw[hz];exact Nat.mod_lt _ (by decide)
  rw[←hh1]at mc;rw[←hz,←hh2]at ac;rw[←hz,←hh1,←hh2]at g2;rw[←hh1,←hh2]at g1;obtain⟨H5,st5,own5,bt5,ka5⟩:=own.fill hL z;apply Zb;intro b3 hb3;apply Zx;apply Zb;intro b4 hb4;apply Za;simp[t20,t22,a0,d0];subst hb4;apply Zb;intro b4 hb4;apply Za;simp[t1,mc];subst hb4;apply Zb;intro b4 hb4;apply Za;simp[t7,ac];subst hb4;apply Zb;intro b4 hb4;apply Za;simp[t6,a3,st5];subst hb4;apply Za;simp[addu (x:=h1) (y:=h2) g1];subst hb3;apply Za;simp[t22,Qa (x:=i) (by omega)];apply hQ';refine⟨m',by omega,rfl,ka5 H kH (Nat.le_refl _),i+1,h1+h2,L++[z],by omega,by simp[hL],g1,dL.append (.cons hzB (.nil _)),?_,own5,by simp[t0],by simp[t1],by simp[t6],by simp,by simp[t20],by simp[t21],by simp⟩;rw[Xb,hL,Vp,←hx];simp only[dv,Nat.mul_zero,Nat.add_zero];have e1:B64^i*(z+B64*(h1+h2))=B64^i*(x*y+c):=by rw[g2]
  rw[Nat.mul_add (B64^i) z,←Nat.mul_assoc (B64^i) B64,show B64^i*B64=B64^(i+1)from rfl,Nat.mul_add (B64^i) (x*y) c,←Nat.mul_assoc (B64^i) x y]at e1;rw[Nat.add_mul];omega
 ·refine Zc (t:=false) (by simp[hi]) ?_;apply Qe;apply hQ';left;refine⟨rfl,?_⟩;obtain rfl:i=n:=by omega
  obtain rfl:m=0:=by omega
  rw[List.take_of_length_le (by omega)]at heq;have a3:=own.sl.adr Zl (k:= .i64) (i:=i) (by simp;omega);obtain⟨H5,st5,own5,bt5,ka5⟩:=own.fill hL c;rw[List.replicate_zero,List.append_nil]at own5;have dLc:Dig B64 (L++[c]):=dL.append (.cons hc (.nil _));have hval:dv B64 (L++[c])=dv B64 xs*y:=by rw[Xb,hL];simp only[dv,Nat.mul_zero,Nat.add_zero];exact heq
  obtain⟨v6,H6,c6,e6,h6⟩:=Ze3 own5 dLc (by simp;omega);subst e6;rw[hval]at h6;have k5:Keep H H6:=ka5 H kH (Nat.le_refl _);have h7:MulIs H.n (dv B64 xs*y) v6 H6∧ ∃a b,v6= .tuple #[a,b]:=by
   rcases h6 with⟨h,rfl⟩|⟨h,u,rfl,o⟩;·exact⟨.inl ⟨h,rfl⟩,_,_,rfl⟩
   ·exact⟨.inr ⟨h,u,rfl,o⟩,_,_,rfl⟩
  obtain⟨h7,p,q,rfl⟩:=h7;subst hb1;apply Zb;intro b4 hb4;apply Za;simp[t0,t6,t7,l1,a3,st5];subst hb4;apply Zb;intro b4 hb4;apply Za;simp[t6,c6];subst hb4;apply Zn;simp;exact⟨k5,h7⟩
def Zk7(n0:Nat)(N y:Nat)(v:Value)(H':AH):Prop:=(67108864<Zf (N/y)∧v= .tuple #[.slice none 0 0,.int .u64 0,.int .i64 3])∨(Zf (N/y)≤67108864∧ ∃u,v= .tuple #[u,.int .u64 ((N%y:Nat):Int),.int .i64 0]∧Own n0 H' u (ds B64 (N/y)))
theorem through_spec{y:Nat}(ha:Sl H va xs)(dx:Dig B64 xs)(hy:y<B64)(hy0:0<y)(lx:xs.length≤2*Lim):CW Tryz.prog Zo 168 [va,.int .u64 (y:Int)] H fun v H'=>Keep H H'∧Zk7 H.n (dv B64 xs) y v H':=by
 have hLim:Lim=2000000000000:=rfl;refine Zk 48 (by decide) (by decide) Tryz.func168 rfl rfl ?_;obtain⟨v1,H1,c1,e1,s1⟩:=Ub ha (by omega);rw[e1]at c1;rw[←Vq B64 xs];have dx:=Jj dx;have lx:(Xh xs).length≤2*Lim:=Nat.le_trans (Jk xs) lx;generalize Xh xs=xs at*;have l1:=s1.len Zl;obtain⟨n,hn⟩: ∃n,n=xs.length:=⟨_,rfl⟩;rw[←hn]at l1;have ey:Zd .eql .u64 (y:Int) 0=some (.bool false):=by rw[eql0,decide_eq_false (by omega)]
 obtain⟨c0,H3,hmk,k3,o3,n3⟩:=Qi (H:=H) Zl (n:=n) (by omega);apply Zb;intro b1 hb1;apply Za;simp;subst hb1;apply Zb;intro b1 hb1;apply Zb;intro b2 hb2;apply Za;simp[ey];subst hb2;refine Zc (t:=false) (by simp) ?_;apply Zj;subst hb1;apply Zb;intro b1 hb1;apply Za;simp[c1];subst hb1;apply Zb;intro b1 hb1;apply Za;simp[l1,hmk];subst hb1;apply Zb;intro b1 hb1;apply Za;simp;subst hb1;apply Zb;intro b1 hb1;apply Zb;intro b2 hb2;apply Za;simp[l1,Zk0 (m:=n) (by omega)];subst hb2;apply Zx;refine Qf (fun m s'=>s'.k=48∧Keep H s'.H∧ ∃(r:Nat) (R:List Nat),m+R.length=n∧r<y∧Dig B64 R∧dv B64 R*y+r=dv B64 (xs.drop m)∧Own H.n s'.H c0 (List.replicate m 0++R)∧s'.tm.get 0=some v1∧s'.tm.get 1=some (.int .u64 (y:Int))∧s'.tm.get 7=some c0∧s'.tm.get 8=some (.int .u64 (r:Int))∧s'.tm.get 9=some (.int .i64 ((m:Int)-1))) ?_ n _ ⟨rfl,k3,0,[],by simp,hy0,.nil _,by rw[List.drop_of_length_le (by omega)];simp[dv],by simpa using o3,by simp,by simp,by simp,by simp,by simp⟩;rintro m ⟨k,tm,H4⟩ ⟨hk,kH,r,R,hmR,hr,dR,heq,own,t0,t1,t7,t8,t9⟩ Q' hQ';simp only at hk kH own t0 t1 t7 t8 t9;subst hk;apply Zb;intro b3 hb3;apply Zb;intro b4 hb4;apply Za;simp[t9,geq_pred (m:=m)];subst hb4;by_cases hm:0<m
 ·refine Zc (t:=true) (by simp[hm]) ?_;apply Zj;subst hb3;obtain⟨m',rfl⟩: ∃m',m=m'+1:=⟨m-1,by omega⟩;have em:((m'+1:Nat):Int)-1=(m':Int):=by omega
  rw[em]at t9;have hi':m'<xs.length:=by omega
  have sa:=s1.keep kH;obtain⟨x,hx⟩: ∃x,x=nth xs m':=⟨_,rfl⟩;have hxB:x<B64:=by rw[hx];exact Co dx (by decide) _
  have a0:=sa.adr Zl (k:= .i64) hi';have d0:=sa.load hi';rw[←Vg hi',←hx]at d0;have a3:=own.sl.adr Zl (k:= .i64) (i:=m') (by simp;omega);have dc:=Zf4 (h:=r) (l:=x) (y:=y) hr hxB hy H4;obtain⟨q,hq⟩: ∃q,q=(r*B64+x)/y:=⟨_,rfl⟩;obtain⟨r',hr'⟩: ∃r',r'=(r*B64+x)%y:=⟨_,rfl⟩;rw[←hq,←hr']at dc;have hqr:y*q+r'=r*B64+x:=by rw[hq,hr'];exact Nat.div_add_mod _ _
  have hqB:q<B64:=by rw[hq,Nat.div_lt_iff_lt_mul hy0];have:(r+1)*B64≤y*B64:=Nat.mul_le_mul_right _ hr;rw[Nat.add_mul,Nat.one_mul]at this;rw[Nat.mul_comm B64 y];omega
  have hr2:r'<y:=by rw[hr'];exact Nat.mod_lt _ hy0
  obtain⟨H5,st5,own5,n5,bt5,ka5⟩:=own.put (i:=m') (by simp;omega) q;have eset:(List.replicate (m'+1) 0++R).set m' q=List.replicate m' 0++(q::R):=by rw[List.replicate_succ',List.append_assoc];exact Kp _ _ _ _ (by simp)
  rw[eset]at own5;apply Zb;intro b3 hb3;apply Zx;apply Za;simp[t0,t1,t7,t8,t9,a0,d0,dc,a3,st5];subst hb3;apply Za;simp[t9,Zk0 (m:=m') (by omega)];apply hQ';refine⟨m',by omega,rfl,ka5 H kH (Nat.le_refl _),r',q::R,by simp at hmR⊢;omega,hr2,.cons hqB dR,?_,own5,by simp[t0],by simp[t1],by simp[t7],by simp,by simp⟩;have ed:xs.drop m'=x::xs.drop (m'+1):=by rw[List.drop_eq_getElem_cons hi',hx,Vg hi']
  rw[ed];simp only[dv];rw[←heq,Nat.mul_add,Nat.add_mul,Nat.mul_comm q y,Nat.mul_assoc];have:B64*r=r*B64:=Nat.mul_comm _ _;omega
 ·refine Zc (t:=false) (by simp[hm]) ?_;apply Qe;apply hQ';left;refine⟨rfl,?_⟩;obtain rfl:m=0:=by omega
  rw[List.drop_zero]at heq;rw[List.replicate_zero,List.nil_append]at own;have hdiv:dv B64 xs/y=dv B64 R∧dv B64 xs%y=r:=by rw[←heq,Nat.mul_comm];exact⟨by rw[Nat.mul_add_div hy0,Nat.div_eq_of_lt hr,Nat.add_zero],by rw[Nat.mul_add_mod,Nat.mod_eq_of_lt hr]⟩
  obtain⟨v6,H6,c6,e6,h6⟩:=Ze3 own dR (by omega);subst e6;rw[←hdiv.1]at h6;have h7: ∃a b,v6= .tuple #[a,.int .i64 b]∧((b=3∧Zk7 H.n (dv B64 xs) y (.tuple #[.slice none 0 0,.int .u64 0,.int .i64 3]) H6)∨(b=0∧Zk7 H.n (dv B64 xs) y (.tuple #[a,.int .u64 (r:Int),.int .i64 0]) H6)):=by
   rcases h6 with⟨h,rfl⟩|⟨h,u,rfl,o⟩;·exact⟨_,_,rfl,.inl ⟨rfl,.inl ⟨h,rfl⟩⟩⟩
   ·exact⟨_,_,rfl,.inr ⟨rfl,.inr ⟨h,u,by rw[hdiv.2],o⟩⟩⟩
  obtain⟨p,b,rfl,⟨rfl,h7⟩|⟨rfl,h7⟩⟩:=h7;·subst hb1;apply Zb;intro b1 hb1;apply Za;simp[t7,c6];subst hb1;apply Zb;intro b1 hb1;apply Zb;intro b2 hb2;apply Za;simp[neq30];subst hb2;refine Zc (t:=true) (by simp) ?_;apply Zb;intro b2 hb2;apply Za;simp;subst hb2;apply Zn;simp[Xr];exact⟨kH,h7⟩
  ·subst hb1;apply Zb;intro b1 hb1;apply Za;simp[t7,c6];subst hb1;apply Zb;intro b1 hb1;apply Zb;intro b2 hb2;apply Za;simp[Ep];subst hb2;refine Zc (t:=false) (by simp) ?_;apply Zj;subst hb1;apply Zb;intro b2 hb2;apply Za;simp[t8];subst hb2;apply Zn;simp;exact⟨kH,h7⟩
end
end
theorem quo64{x:Nat}(h:x<9223372036854775808):Zd .quo .i64 (x:Int) 64=some (.int .i64 ((x/64:Nat):Int)):=quo_i64 (y:=64) h (by decide)
theorem rem64{x:Nat} :Zd .rem .i64 (x:Int) 64=some (.int .i64 ((x%64:Nat):Int)):=rem_i64 (y:=64) (by decide)
theorem lss_neg{x:Nat} :Zd .lss .i64 (x:Int) 0=some (.bool false):=by rw[lss0,decide_eq_false (by omega)]
theorem pow_limbs{n:Nat}{q s:Nat}(hq:q=n/64)(hs:s=n%64):Dig B64 ((List.replicate (q+2) 0).set q (2^s))∧dv B64 ((List.replicate (q+2) 0).set q (2^s))=2^n:=by
 have hs64:s<64:=by omega
 have hlt:2^s<B64:=by show 2^s<2^64;exact Nat.pow_lt_pow_right (by decide) hs64
 refine⟨(Cv (by decide) _).set hlt,?_⟩;have h:=dv_set B64 (List.replicate (q+2) 0) q (2^s) (by simp);rw[List.getElem_replicate,Nat.mul_zero,Nat.add_zero]at h;rw[h];have h0:dv B64 (List.replicate (q+2) 0)=0:=dv_zero_of fun x hx=>(List.mem_replicate.mp hx).2;rw[h0,Nat.zero_add];have:B64^q=2^(64*q):=(Nat.pow_mul 2 64 q).symm;rw[this,←Nat.pow_add];congr 1;omega
section
attribute [-simp] Int.natCast_add Int.natCast_mul Int.natCast_ediv Int.natCast_emod Int.natCast_pow
attribute [local simp] strip Yf LW' LR gW Yk Xd Ya Xe Yo Xf Zr Zs Zg Yp Yy Yl Xl Zv Yq Zh Ze Xk Xj Qy Yg Yz opd Xz Ym plain Yi Tr.get_set Xx Zp Xu Yd sameKind undef Zt Ys Yw Zl Yc parts unV DW Xo Zy LX Zw
section
variable {H : AH} {va vb : Value} {xs ys : List Nat}
theorem leftOne_spec{n:Nat}(ha:Sl H va [1])(hn:n≤60000000):CW Tryz.prog Zo 201 [va,.int .i64 (n:Int)] H fun v H'=>Keep H H'∧ ∃u,v= .tuple #[u,.int .i64 0]∧Own H.n H' u (ds B64 (2^n)):=by
 refine Zk 73 (by decide) (by decide) Tryz.func201 rfl rfl ?_;obtain⟨v1,H1,c1,e1,s1⟩:=Ub ha (by simp);rw[e1]at c1;have e3:Xh [1]=[1]:=rfl;rw[e3]at s1;have d1:Dig B64 [1]:= .cons (by decide) (.nil _);obtain⟨v2,H2,c2,e2,e2'⟩:=Uf s1 d1 (by simp);rw[e2,e2']at c2;have hbl:Zf (dv B64 [1])=1:=by decide
 rw[hbl]at c2;have c2:Zq Tryz.prog Zo 123 [v1] H=some (.int .i64 1,H):=c2;have l1:lenV Tryz.prog 30 v1=some 1:=s1.len Zl;have a0:Yu Tryz.prog 30 v1 (.int .i64 0)=some (adr v1 0):=s1.adr Zl (k:= .i64) (i:=0) (by simp);obtain⟨q,hq⟩: ∃q,q=n/64:=⟨_,rfl⟩;obtain⟨s,hs⟩: ∃s,s=n%64:=⟨_,rfl⟩;obtain⟨c0,H3,hmk,k3,o3,n3⟩:=Qi (H:=H) Zl (n:=q+2) (by omega);have d0:Yr Tryz.prog H3 101 (adr v1 0)=some (.int .u64 1):=(s1.keep k3).load (i:=0) (by simp);have g1:Zd .gtr .i64 (n:Int) 1099511627776=some (.bool false):=by have h:=Km (k:= .i64) (x:=n) (y:=1099511627776);rw[decide_eq_false (by omega)]at h;exact h
 have g2:Zd .add .i64 1 (n:Int)=some (.int .i64 ((1+n:Nat):Int)):=Gl (x:=1) (y:=n) (by omega);have g3:Zd .gtr .i64 ((1+n:Nat):Int) 67108864=some (.bool false):=by have h:=Km (k:= .i64) (x:=1+n) (y:=67108864);rw[decide_eq_false (by omega)]at h;exact h
 have g4:Zd .quo .i64 (n:Int) 64=some (.int .i64 (q:Int)):=by rw[hq];exact quo64 (by omega)
 have g5:Zd .rem .i64 (n:Int) 64=some (.int .i64 (s:Int)):=by rw[hs];exact rem64
 have g6:=conv_uint (n:=s) (by omega);have g7:Zd .add .i64 (q:Int) 1=some (.int .i64 ((q+1:Nat):Int)):=Qa (x:=q) (by omega);have g8:Zd .add .i64 ((q+1:Nat):Int) 1=some (.int .i64 ((q+2:Nat):Int)):=Qa (x:=q+1) (by omega);have g9:Zd .add .i64 (q:Int) 0=some (.int .i64 (q:Int)):=Gl (x:=q) (y:=0) (by omega);have hs64:s<64:=by omega
 have hlt:2^s<B64:=by show 2^s<2^64;exact Nat.pow_lt_pow_right (by decide) hs64
 obtain⟨P,hP⟩: ∃P,P=2^s:=⟨_,rfl⟩;have g10:Qj .shl .u64 1 (s:Int)=some (.int .u64 (P:Int)):=by have h:=Ai (x:=1) (s:=s) (by omega);rw[Nat.one_mul,Nat.mod_eq_of_lt hlt,←hP]at h;exact h
 have g11:Zd .or .u64 0 (P:Int)=some (.int .u64 (P:Int)):=by have h:=or_u64 (x:=0) (y:=P) (by decide) (by omega);rw[Nat.zero_or]at h;exact h
 have g12:Qj .shr .u64 1 1=some (.int .u64 0):=Ci (x:=1) (s:=1) (by omega);have g13:Zd .sub .u64 63 (s:Int)=some (.int .u64 ((63-s:Nat):Int)):=Ze2 (x:=63) (y:=s) (by decide) (by omega);have g14:Qj .shr .u64 0 ((63-s:Nat):Int)=some (.int .u64 0):=by have h:=Ci (x:=0) (s:=63-s) (by omega);rw[Nat.zero_div]at h;exact h
 have g15:Zd .or .u64 0 0=some (.int .u64 0):=or_u64 (x:=0) (y:=0) (by decide) (by decide);have i1:=o3.sl.adr Zl (k:= .i64) (i:=q) (by simp);have w1:=o3.sl.load (i:=q) (by simp);rw[List.getElem_replicate]at w1;have w1:Yr Tryz.prog H3 101 (adr c0 q)=some (.int .u64 0):=w1;obtain⟨H4,st4,o4,n4,bt4,ka4⟩:=o3.put (i:=q) (by simp) P;have i2:=o4.sl.adr Zl (k:= .i64) (i:=q+1) (by simp);have w2:=o4.sl.load (i:=q+1) (by simp);rw[List.getElem_set_ne (by omega),List.getElem_replicate]at w2;have w2:Yr Tryz.prog H4 101 (adr c0 (q+1))=some (.int .u64 0):=w2;obtain⟨H5,st5,o5,n5,bt5,ka5⟩:=o4.put (i:=q+1) (by simp) 0;have st5:Xm Tryz.prog H4 101 (adr c0 (q+1)) (.int .u64 0)=some H5:=st5;have eset:((List.replicate (q+2) 0).set q P).set (q+1) 0=(List.replicate (q+2) 0).set q P:=by
  apply List.ext_getElem;·simp
  ·intro i h1 h2;by_cases hi:q+1=i;·subst hi;rw[List.getElem_set_self,List.getElem_set_ne (by omega),List.getElem_replicate]
   ·rw[List.getElem_set_ne hi]
 rw[eset]at o5;obtain⟨p1,p2⟩:=pow_limbs hq hs;rw[←hP]at p1 p2;obtain⟨v6,H6,c6,e6,o6⟩:=trim_own o5 (by simp;omega);subst e6;rw[Jf Zz p1,p2]at o6;have k5:Keep H H6:=ka5 H (ka4 H k3 (Nat.le_refl _)) (Nat.le_refl _);apply Zb;intro b1 hb1;apply Za;simp;subst hb1;apply Zb;intro b1 hb1;apply Zb;intro b2 hb2;apply Za;simp[lss_neg,g1];subst hb2;refine Zc (t:=false) (by simp) ?_;apply Zj;subst hb1;apply Zb;intro b1 hb1;apply Za;simp[c1];subst hb1;apply Zb;intro b1 hb1;apply Zb;intro b2 hb2;apply Za;simp[l1,show Zd .eql .i64 1 0=some (.bool false)from rfl];subst hb2;refine Zc (t:=false) (by simp) ?_;apply Zj;subst hb1;apply Zb;intro b1 hb1;apply Zb;intro b2 hb2;apply Za;simp[c2,g2,g3];subst hb2;refine Zc (t:=false) (by simp) ?_;apply Zj;subst hb1;apply Zb;intro b1 hb1;apply Za;simp[g4,g5,g6];subst hb1;apply Zb;intro b1 hb1;apply Za;simp[l1,g7,g8,hmk];subst hb1;apply Zb;intro b1 hb1;apply Zb;intro b2 hb2;apply Za;simp[l1];subst hb2;apply Zx;apply W_loop1;apply Zb;intro b3 hb3;apply Za;simp[show Zd .lss .i64 0 1=some (.bool true)from rfl];subst hb3;apply Zb;intro b3 hb3;refine Zc (t:=true) (by simp) ?_;apply Zj;subst hb3;apply Zb;intro b3 hb3;apply Zx;apply Zb;intro b4 hb4;apply Za;simp[a0,d0];subst hb4;apply Zb;intro b4 hb4;apply Za;simp[g9,i1,w1,g10,g11,st4];subst hb4;apply Za;simp[g9,g7,i2,w2,g12,g13,g14,g15,st5];subst hb3;apply Za;simp[show Zd .add .i64 0 1=some (.int .i64 1)from rfl];apply W_loop1;apply Zb;intro b3 hb3;apply Za;simp[show Zd .lss .i64 1 1=some (.bool false)from rfl];subst hb3;apply Zb;intro b3 hb3;refine Zc (t:=false) (by simp) ?_;apply Qe;left;refine⟨rfl,?_⟩;subst hb1;apply Zb;intro b4 hb4;apply Za;simp[c6];subst hb4;apply Zn;simp;exact⟨k5,o6⟩
end
section
variable {H : AH} {va vb : Value} {xs ys : List Nat} {A B : Nat}
theorem power_call{n:Nat}(hn:n≤60000000): ∃u H',Zq Tryz.prog Zo 165 [.int .i64 (n:Int)] H=some (u,H')∧Keep H H'∧Own H.n H' u (ds B64 (2^n)):=by suffices h:CW Tryz.prog Zo 165 [.int .i64 (n:Int)] H fun v H'=>Keep H H'∧Own H.n H' v (ds B64 (2^n))from h;obtain⟨v1,H1,c1,k1,o1⟩:=Fh (H:=H) (x:=1) (by decide);rw[ds1 (by decide) (by decide)]at o1;have c1:Zq Tryz.prog Zo 164 [.int .u64 1] H=some (v1,H1):=c1;obtain⟨v2,H2,c2,k2,u,rfl,o2⟩:=leftOne_spec o1.sl hn;refine Zk 12 (by decide) (by decide) Tryz.func165 rfl rfl ?_;apply Zb;intro b1 hb1;apply Za;simp;subst hb1;apply Zb;intro b1 hb1;apply Za;simp[c1,c2];subst hb1;apply Zb;intro b1 hb1;apply Za;simp;subst hb1;apply Zn;simp;exact⟨k1.trans k2,o2.mono k1.n (.refl _)⟩
theorem rootsFits_call(ha:Sl H va xs)(dx:Dig B64 xs)(lx:xs.length≤17592186044416)(hb:Zf (dv B64 xs)≤67108864): ∃u H',Zq Tryz.prog Zo 126 [va] H=some (.tuple #[u,.int .i64 0],H')∧Keep H H'∧Own H.n H' u (ds B64 (dv B64 xs)):=by
 suffices h:CW Tryz.prog Zo 126 [va] H fun v H'=> ∃u,v= .tuple #[u,.int .i64 0]∧Keep H H'∧Own H.n H' u (ds B64 (dv B64 xs)) by obtain⟨v,H',hc,u,rfl,k,o⟩:=h;exact⟨u,H',hc,k,o⟩
 obtain⟨v1,H1,c1,e1,e1'⟩:=Uf ha dx lx;rw[e1,e1']at c1;obtain⟨v2,H2,c2,k2,o2⟩:=Uv ha lx;rw[Jf Zz dx]at o2;obtain⟨L,hL⟩: ∃L,L=Zf (dv B64 xs):=⟨_,rfl⟩;rw[←hL]at c1 hb;have g1:Zd .gtr .i64 (L:Int) 67108864=some (.bool false):=by have h:=Km (k:= .i64) (x:=L) (y:=67108864);rw[decide_eq_false (by omega)]at h;exact h
 refine Zk 9 (by decide) (by decide) Tryz.func126 rfl rfl ?_;apply Zb;intro b1 hb1;apply Za;simp;subst hb1;apply Zb;intro b1 hb1;apply Zb;intro b2 hb2;apply Za;simp[c1,g1];subst hb2;refine Zc (t:=false) (by simp) ?_;apply Zj;subst hb1;apply Zb;intro b1 hb1;apply Za;simp[c2];subst hb1;apply Zn;simp;exact⟨k2,o2⟩
theorem Zm9(ha:Sl H va (ds B64 A))(hb:Sl H vb (ds B64 B))(lA:(ds B64 A).length≤Lim)(lB:(ds B64 B).length≤Lim)(hle:B≤A)(h:Zf A≤67108864): ∃u H',Zq Tryz.prog Zo 170 [va,vb] H=some (.tuple #[u,.int .i64 0],H')∧Keep H H'∧Own H.n H' u (ds B64 (A-B)):=by
 obtain⟨v,H',hc,k,hm⟩:=natSub_spec ha hb (Xt Zz A) (Xt Zz B) (by omega) (by omega) (by rw[Qh Zz,Qh Zz];exact hle);rw[Qh Zz,Qh Zz]at hm;have hmono:=Yh (n:=A-B) (m:=A) (by omega);rcases hm with⟨h1,_⟩|⟨h1,u,rfl,o⟩;·omega
 ·exact⟨u,H',hc,k,o⟩
theorem Zm8(ha:Sl H va (ds B64 A))(hb:Sl H vb (ds B64 B))(lA:(ds B64 A).length≤Lim)(lB:(ds B64 B).length≤Lim)(h:Zf (A+B)≤67108864): ∃u H',Zq Tryz.prog Zo 167 [va,vb] H=some (.tuple #[u,.int .i64 0],H')∧Keep H H'∧Own H.n H' u (ds B64 (A+B)):=by
 obtain⟨v,H',hc,k,hm⟩:=natAdd_spec ha hb (Xt Zz A) (Xt Zz B) (by omega) (by omega);rw[Qh Zz,Qh Zz]at hm;rcases hm with⟨h1,_⟩|⟨h1,u,rfl,o⟩;·omega
 ·exact⟨u,H',hc,k,o⟩
theorem Bb(ha:Sl H va (ds B64 A))(hb:Sl H vb (ds B64 B))(lA:(ds B64 A).length≤Lim)(lB:(ds B64 B).length≤Lim)(h:Zf (A*B)≤67108864): ∃u H',Zq Tryz.prog Zo 146 [va,vb] H=some (.tuple #[u,.int .i64 0],H')∧Keep H H'∧Own H.n H' u (ds B64 (A*B)):=by
 obtain⟨v,H',hc,k,hm⟩:=mul_spec ha hb (Xt Zz A) (Xt Zz B) (by omega) (by omega);rw[Qh Zz,Qh Zz]at hm;rcases hm with⟨h1,_⟩|⟨h1,u,rfl,o⟩;·omega
 ·exact⟨u,H',hc,k,o⟩
theorem Kf(ha:Sl H va (ds B64 A))(hb:Sl H vb (ds B64 B))(lA:(ds B64 A).length≤Lim)(lB:(ds B64 B).length≤Lim)(h0:0<B)(h:Zf A≤67108864): ∃u H',Zq Tryz.prog Zo 141 [va,vb] H=some (.tuple #[u,.int .i64 0],H')∧Keep H H'∧Own H.n H' u (ds B64 (A/B)):=by
 obtain⟨v,H',hc,k,hm⟩:=quo_spec ha hb (Xt Zz A) (Xt Zz B) lA lB;rw[Qh Zz,Qh Zz]at hm;have hmono:=Yh (n:=A/B) (m:=A) (Nat.div_le_self _ _);rcases hm with⟨h1,_⟩|⟨_,h1,_⟩|⟨_,h1,u,rfl,o⟩;·omega
 ·omega
 ·exact⟨u,H',hc,k,o⟩
theorem Za9(ha:Sl H va (ds B64 A))(hb:Sl H vb (ds B64 B))(lA:(ds B64 A).length≤Lim)(lB:(ds B64 B).length≤Lim): ∃u H',Zq Tryz.prog Zo 139 [va,vb] H=some (u,H')∧Keep H H'∧Own H.n H' u (ds B64 (Nat.gcd A B)):=by obtain⟨v,H',hc,k,o⟩:=gcd_spec ha hb (Xt Zz A) (Xt Zz B) lA lB;rw[Qh Zz,Qh Zz]at o;exact⟨v,H',hc,k,o⟩
theorem Uu(ha:Sl H va xs)(dx:Dig B64 xs)(lx:xs.length≤17592186044416): ∃u H',Zq Tryz.prog Zo 120 [va] H=some (u,H')∧Keep H H'∧Own H.n H' u (ds B64 (dv B64 xs)):=by obtain⟨v,H',hc,k,o⟩:=Uv ha lx;rw[Jf Zz dx]at o;exact⟨v,H',hc,k,o⟩
theorem less_call(ha:Sl H va (ds B64 A))(hb:Sl H vb (ds B64 B))(lA:(ds B64 A).length≤Lim)(lB:(ds B64 B).length≤Lim)(hle:B≤A)(h:Zf A≤67108864): ∃u H',Zq Tryz.prog Zo 129 [va,vb] H=some (u,H')∧Keep H H'∧Own H.n H' u (ds B64 (A-B)):=by suffices hs:CW Tryz.prog Zo 129 [va,vb] H fun v H'=>Keep H H'∧Own H.n H' v (ds B64 (A-B))from hs;obtain⟨u,H1,c1,k1,o1⟩:=Zm9 ha hb lA lB hle h;refine Zk 14 (by decide) (by decide) Tryz.func129 rfl rfl ?_;apply Zb;intro b1 hb1;apply Za;simp;subst hb1;apply Zb;intro b1 hb1;apply Za;simp[c1];subst hb1;apply Zb;intro b1 hb1;apply Za;simp;subst hb1;apply Zn;simp;exact⟨k1,o1⟩
theorem square_call(ha:Sl H va (ds B64 A))(lA:(ds B64 A).length≤Lim)(h:Zf (A*A)≤67108864): ∃u H',Zq Tryz.prog Zo 169 [va] H=some (.tuple #[u,.int .i64 0],H')∧Keep H H'∧Own H.n H' u (ds B64 (A*A)):=by
 suffices hs:CW Tryz.prog Zo 169 [va] H fun v H'=> ∃u,v= .tuple #[u,.int .i64 0]∧Keep H H'∧Own H.n H' u (ds B64 (A*A)) by obtain⟨v,H',hc,u,rfl,k,o⟩:=hs;exact⟨u,H',hc,k,o⟩
 obtain⟨u,H1,c1,k1,o1⟩:=Bb ha ha lA lA h;refine Zk 9 (by decide) (by decide) Tryz.func169 rfl rfl ?_;apply Zb;intro b1 hb1;apply Za;simp;subst hb1;apply Zb;intro b1 hb1;apply Za;simp[c1];subst hb1;apply Zn;simp;exact⟨k1,o1⟩
end
end
theorem shr_i64{x s:Nat}(hs:s≤64):Qj .shr .i64 (x:Int) (s:Int)=some (.int .i64 ((x/2^s:Nat):Int)):=by unfold Qj;rw[if_neg (by omega)];simp only[show IntKind.i64.bits=64 from rfl,Int.toNat_natCast,Nat.min_eq_left hs];rw[Za8]
theorem and1_i64{x:Nat}(hx:x<9223372036854775808):Zd .and .i64 (x:Int) 1=some (.int .i64 ((x%2:Nat):Int)):=by
 have hx':x<B64:=Nat.lt_trans hx (by decide);have e:(BitVec.ofInt 64 (x:Int)&&&BitVec.ofInt 64 ((1:Nat):Int)).toNat=x&&&1:=by rw[BitVec.toNat_and,bv_nat hx',bv_nat (by decide)]
 show some (Value.int .i64 (IntKind.i64.wrap ((BitVec.ofInt 64 (x:Int)&&&BitVec.ofInt 64 ((1:Nat):Int)).toNat:Nat)))=_;rw[e,Nat.and_one_is_mod,Zk6 (by omega)]
theorem blen_pow{A k:Nat}(hA:0<A):(Zf A-1)*k+1≤Zf (A^k):=by
 have h1:=Ug (n:=A) (by omega);have h2:2^((Zf A-1)*k)≤A^k:=by rw[Nat.pow_mul];exact Nat.pow_le_pow_left h1 k
 have h3:=Uh (A^k);have:=(Nat.pow_lt_pow_iff_right (a:=2) (by decide)).mp (Nat.lt_of_le_of_lt h2 h3);omega
theorem eql1N{x:Nat} :Zd .eql .i64 (x:Int) 1=some (.bool (decide (x=1))):=Zc8 (y:=1)
theorem leq1N{x:Nat} :Zd .leq .i64 (x:Int) 1=some (.bool (decide (x≤1))):=Zi8 (y:=1)
theorem pow_shift{A k i:Nat} :A^(k/2^i)=A^(k/2^(i+1))*A^(k/2^(i+1))*(if k/2^i%2=1 then A else 1):=by
 have h:k/2^i=k/2^(i+1)+k/2^(i+1)+k/2^i%2:=by
  have:k/2^(i+1)=k/2^i/2:=by rw[Nat.pow_succ,Nat.div_div_eq_div_mul]
  omega
 rw[←Nat.pow_add];conv=>lhs;rw[h,Nat.pow_add]
 congr 1;split;·rename_i h1;rw[h1,Nat.pow_one]
 ·rw[show k/2^i%2=0 by omega,Nat.pow_zero]
section
attribute [-simp] Int.natCast_add Int.natCast_mul Int.natCast_ediv Int.natCast_emod Int.natCast_pow
attribute [local simp] strip Yf LW' LR gW Yk Xd Ya Xe Yo Xf Zr Zs Zg Yp Yy Yl Xl Zv Yq Zh Ze Xk Xj Qy Yg Yz opd Xz Ym plain Yi Tr.get_set Xx Zp Xu Yd sameKind undef Zt Ys Yw Zl Yc parts unV DW Xo Zy LX Zw
section
variable {H : AH} {va vb : Value} {xs ys : List Nat} {A B : Nat}
theorem Zi{A:Nat}(h:Zf A≤67108864):(ds B64 A).length≤Lim:=by have h1:A<2^Zf A:=Uh A;have h2:2^Zf A≤B64^(Zf A):=Nat.pow_le_pow_left (by decide) _;have:=Ff Zz (Nat.lt_of_lt_of_le h1 h2);show(ds B64 A).length≤2000000000000;omega
theorem pow_call{k:Nat}(ha:Sl H va (ds B64 A))(hk0:0<k)(hk:k≤67108864)(hb:Zf (A^k)≤67108864): ∃u H',Zq Tryz.prog Zo 128 [va,.int .i64 (k:Int)] H=some (.tuple #[u,.int .i64 0],H')∧Keep H H'∧Own H.n H' u (ds B64 (A^k)):=by
 suffices hs:CW Tryz.prog Zo 128 [va,.int .i64 (k:Int)] H fun v H'=> ∃u,v= .tuple #[u,.int .i64 0]∧Keep H H'∧Own H.n H' u (ds B64 (A^k)) by obtain⟨v,H',hc,u,rfl,k,o⟩:=hs;exact⟨u,H',hc,k,o⟩
 have hbA:Zf A≤67108864:=by
  rcases Nat.eq_zero_or_pos A with h|h;·subst h;decide
  ·exact Nat.le_trans (Yh (Nat.le_self_pow (by omega) A)) hb
 have lA:=Zi hbA;obtain⟨v1,H1,c1,k1,o1⟩:=Uu ha (Xt Zz A) (Nat.le_trans lA (by decide));rw[Qh Zz]at o1;have c2:=Jp o1.sl lA;have e0:Zd .eql .i64 (k:Int) 0=some (.bool false):=by rw[Vu,decide_eq_false (by omega)]
 obtain⟨L,hL⟩: ∃L,L=Zf A:=⟨_,rfl⟩;rw[←hL]at c2;refine Zk 63 (by decide) (by decide) Tryz.func128 rfl rfl ?_;apply Zb;intro b1 hb1;apply Za;simp;subst hb1;apply Zb;intro b1 hb1;apply Zb;intro b2 hb2;apply Za;simp[lss_neg];subst hb2;refine Zc (t:=false) (by simp) ?_;apply Zj;subst hb1;apply Zb;intro b1 hb1;apply Za;simp[c1];subst hb1;apply Zb;intro b1 hb1;apply Zb;intro b2 hb2;apply Za;simp[e0];subst hb2;refine Zc (t:=false) (by simp) ?_;apply Zj;subst hb1;apply Zb;intro b1 hb1;apply Za;simp[c2];subst hb1;apply Zb;intro b1 hb1;apply Zb;intro b2 hb2;apply Za;simp[leq1N (x:=L)];subst hb2;by_cases hL1:L≤1
 ·refine Zc (t:=true) (by simp[hL1]) ?_;apply Zb;intro b2 hb2;apply Za;simp;subst hb2;apply Zn;simp[Xr];refine⟨k1,?_⟩;have:A^k=A:=by
   have h1:=Uh A;rw[←hL]at h1;have:A<2:=Nat.lt_of_lt_of_le h1 (Nat.pow_le_pow_right (n:=2) (by decide) hL1);have:A=0∨A=1:=by omega
   rcases this with rfl|rfl;·exact Nat.zero_pow hk0
   ·exact Nat.one_pow _
  rw[this];exact o1
 ·refine Zc (t:=false) (by simp[hL1]) ?_;apply Zj;subst hb1;have hA0:0<A:=by
   rcases Nat.eq_zero_or_pos A with h|h;·subst h;rw[hL]at hL1;exact absurd (by decide) hL1
   ·exact h
  have hpw:=blen_pow (k:=k) hA0;rw[←hL]at hpw;have gk:Zd .gtr .i64 (k:Int) 67108864=some (.bool false):=by have h:=Km (k:= .i64) (x:=k) (y:=67108864);rw[decide_eq_false (by omega)]at h;exact h
  have hLk:(L-1)*k+1≤67108864:=Nat.le_trans hpw hb;have g1:=Gw (x:=L) (by omega) (by omega);have g2:=mulN (x:=L-1) (y:=k) (by omega);have g3:=Qa (x:=(L-1)*k) (by omega);have g4:Zd .gtr .i64 (((L-1)*k+1:Nat):Int) 67108864=some (.bool false):=by have h:=Km (k:= .i64) (x:=(L-1)*k+1) (y:=67108864);rw[decide_eq_false (by omega)]at h;exact h
  obtain⟨v3,H3,c3,k3,o3⟩:=Fh (H:=H1) (x:=1) (by decide);have c3:Zq Tryz.prog Zo 164 [.int .u64 1] H1=some (v3,H3):=c3;apply Zb;intro b1 hb1;apply Zb;intro b2 hb2;apply Za;simp[gk,g1,g2,g3,g4];subst hb2;refine Zc (t:=false) (by simp) ?_;apply Zj;subst hb1;apply Zb;intro b1 hb1;apply Za;simp[c3];subst hb1;apply Zb;intro b1 hb1;apply Zb;intro b2 hb2;apply Za;simp;subst hb2;apply Zx;have k13:=k1.trans k3;have o1':=o1.mono (Nat.le_refl _) k3;have e62:k/2^63=0:=Nat.div_eq_of_lt (Nat.lt_of_le_of_lt hk (by decide));refine Qf (fun m s'=>s'.k=63∧Keep H3 s'.H∧m≤63∧ ∃w,Own H.n s'.H w (ds B64 (A^(k/2^m)))∧s'.tm.get 0=some v1∧s'.tm.get 1=some (.int .i64 (k:Int))∧s'.tm.get 7=some w∧s'.tm.get 8=some (.int .i64 ((m:Int)-1))) ?_ 63 _ ⟨rfl,.refl H3,by omega,v3,by rw[e62,Nat.pow_zero];exact o3.mono k1.n (.refl _),by simp,by simp,by simp,by simp⟩;rintro m ⟨kk,tm,H4⟩ ⟨hkk,kH,hm63,w,ow,t0,t1,t7,t8⟩ Q' hQ';simp only at hkk kH ow t0 t1 t7 t8;subst hkk;apply Zb;intro b3 hb3;apply Zb;intro b4 hb4;apply Za;simp[t8,geq_pred (m:=m)];subst hb4;by_cases hm:0<m
  ·refine Zc (t:=true) (by simp[hm]) ?_;apply Zj;subst hb3;obtain⟨i,rfl⟩: ∃i,m=i+1:=⟨m-1,by omega⟩;have em:((i+1:Nat):Int)-1=(i:Int):=by omega
   rw[em]at t8;have hps:=pow_shift (A:=A) (k:=k) (i:=i);have hle:A^(k/2^i)≤A^k:=Nat.pow_le_pow_right hA0 (Nat.div_le_self _ _);have hbi:Zf (A^(k/2^i))≤67108864:=Nat.le_trans (Yh hle) hb;obtain⟨C,hC⟩: ∃C,C=A^(k/2^(i+1)):=⟨_,rfl⟩;rw[←hC]at ow hps;have hC0:0<C:=by rw[hC];exact Nat.pow_pos hA0
   have hCC:C*C≤A^(k/2^i):=by
    rw[hps];split;·exact Nat.le_mul_of_pos_right _ hA0
    ·rw[Nat.mul_one];exact Nat.le_refl _
   have hbC:Zf (C*C)≤67108864:=Nat.le_trans (Yh hCC) hbi;have hbC1:Zf C≤67108864:=Nat.le_trans (Yh (Nat.le_mul_of_pos_right C hC0)) hbC;obtain⟨u5,H5,c5,k5,o5⟩:=square_call ow.sl (Zi hbC1) hbC;have lw:=ow.sl.len Zl;obtain⟨nw,hnw⟩: ∃nw,nw=(ds B64 C).length:=⟨_,rfl⟩;rw[←hnw]at lw;have hnw0:0<nw:=by rw[hnw];exact(Ka Zz).mpr hC0
   have gl:Zd .gtr .i64 (nw:Int) 0=some (.bool true):=by rw[gtr0,decide_eq_true hnw0]
   have hki:k/2^i<9223372036854775808:=Nat.lt_of_le_of_lt (Nat.div_le_self _ _) (by omega);have gs:=shr_i64 (x:=k) (s:=i) (by omega);have ga:=and1_i64 hki;have ge:=eql1N (x:=k/2^i%2);apply Zb;intro b3 hb3;apply Zx;apply Zb;intro b4 hb4;apply Za;simp;subst hb4;refine Qu (fun s'=>s'.k=63∧s'.H=H5∧s'.tm.get 0=some v1∧s'.tm.get 1=some (.int .i64 (k:Int))∧s'.tm.get 7=some u5∧s'.tm.get 8=some (.int .i64 (i:Int))) ?_ ?_;·intro Q'' hQ'';apply Zb;intro b5 hb5;apply Za;simp[t7,lw,gl];subst hb5;refine Zc (t:=true) (by simp) ?_;apply Zb;intro b5 hb5;apply Za;simp[t7,c5];subst hb5;apply Zb;intro b5 hb5;apply Za;simp[Ep];subst hb5;refine Zc (t:=false) (by simp) ?_;apply Zj;apply hQ'';exact⟨rfl,rfl,by simp[t0],by simp[t1],by simp,by simp[t8]⟩
   clear t0 t1 t7 t8;rintro⟨kk,tm,H6⟩ ⟨hkk,hH,t0,t1,t7,t8⟩;simp only at hkk hH t0 t1 t7 t8;subst hkk;subst hH;apply Zb;intro b4 hb4;apply Za;simp[t1,t8,gs,ga,ge];subst hb4;have kH6:Keep H3 H6:=kH.trans k5;have o1'':=o1'.mono (Nat.le_refl _) kH6;by_cases hbit:k/2^i%2=1
   ·rw[if_pos hbit]at hps;have hbM:Zf (C*C*A)≤67108864:=by rw[←hps];exact hbi
    obtain⟨u7,H7,c7,k7,o7⟩:=Bb o5.sl o1''.sl (Zi hbC) lA hbM;refine Zc (t:=true) (by simp[hbit]) ?_;apply Zb;intro b4 hb4;apply Za;simp[t0,t7,c7];subst hb4;apply Zb;intro b4 hb4;apply Za;simp[Ep];subst hb4;refine Zc (t:=false) (by simp) ?_;apply Zj;subst hb3;apply Za;simp[t8,Zk0 (m:=i) (by omega)];apply hQ';refine⟨i,by omega,rfl,kH6.trans k7,by omega,u7,?_,by simp[t0],by simp[t1],by simp,by simp⟩;rw[hps];exact o7.mono (Nat.le_trans k13.n kH6.n) (.refl _)
   ·rw[if_neg hbit,Nat.mul_one]at hps;refine Zc (t:=false) (by simp[hbit]) ?_;apply Zj;subst hb3;apply Za;simp[t8,Zk0 (m:=i) (by omega)];apply hQ';refine⟨i,by omega,rfl,kH6,by omega,u5,?_,by simp[t0],by simp[t1],by simp[t7],by simp⟩;rw[hps];exact o5.mono (Nat.le_trans k13.n kH.n) (.refl _)
  ·refine Zc (t:=false) (by simp[hm]) ?_;apply Qe;apply hQ';left;refine⟨rfl,?_⟩;obtain rfl:m=0:=by omega
   rw[Nat.pow_zero,Nat.div_one]at ow;subst hb1;apply Zb;intro b1 hb1;apply Za;simp[t7];subst hb1;apply Zn;simp;exact⟨k13.trans kH,ow⟩
end
end
def IsRt(A r:Nat):Prop:=r*r≤A∧A<(r+1)*(r+1)
theorem four_mul_le(a b:Nat):4*(a*b)≤(a+b)*(a+b):=by
 rcases Nat.le_total a b with h|h
 ·obtain⟨d,rfl⟩:=Nat.le.dest h;have:(a+(a+d))*(a+(a+d))=4*(a*(a+d))+d*d:=by grind
  omega
 ·obtain⟨d,rfl⟩:=Nat.le.dest h;have:(b+d+b)*(b+d+b)=4*((b+d)*b)+d*d:=by grind
  omega
theorem sq_le{a b:Nat}(h:a≤b):a*a≤b*b:=Nat.mul_le_mul h h
theorem sq_lt{a b:Nat}(h:a<b):a*a<b*b:=Nat.mul_lt_mul'' h h
theorem newton_up{A x:Nat}(hx:0<x):A<((x+A/x)/2+1)*((x+A/x)/2+1):=by
 have h1:A<x*(A/x+1):=by have:=Nat.div_add_mod A x;have:=Nat.mod_lt A hx;rw[Nat.mul_add,Nat.mul_one];omega
 have h2:=four_mul_le x (A/x+1);obtain⟨y,hy⟩: ∃y,y=(x+A/x)/2:=⟨_,rfl⟩;rw[←hy];have h3:x+(A/x+1)≤2*(y+1):=by omega
 have h4:=sq_le h3;have h5:2*(y+1)*(2*(y+1))=4*((y+1)*(y+1)):=by grind
 omega
theorem newton_stop{A x:Nat}(hx:0<x)(hA:A<(x+1)*(x+1))(h:x≤(x+A/x)/2):IsRt A x:=by
 refine⟨?_,hA⟩;have h1:x≤A/x:=by omega
 have h2:x*x≤A/x*x:=Nat.mul_le_mul_right _ h1;exact Nat.le_trans h2 (Nat.div_mul_le_self A x)
theorem div_le_two{A x:Nat}(hx:0<x)(hA:A<(x+1)*(x+1)):A/x≤x+2:=by
 have:A<(x+3)*x:=by
  have:(x+1)*(x+1)=(x+2)*x+1:=by grind
  have:(x+3)*x=(x+2)*x+x:=by grind
  omega
 have:=(Nat.div_lt_iff_lt_mul hx).mpr this;omega
theorem isRt_uniq{A r s:Nat}(h:IsRt A r)(h':IsRt A s):r=s:=by
 obtain⟨a,b⟩:=h;obtain⟨c,d⟩:=h';rcases Nat.lt_trichotomy r s with h|h|h;·have:=sq_le (show r+1≤s from h);omega
 ·exact h
 ·have:=sq_le (show s+1≤r from h);omega
theorem Kv{n k:Nat}(h:n<2^k):Zf n≤k:=by
 rcases Nat.eq_zero_or_pos n with h0|h0;·subst h0;exact Nat.zero_le _
 ·have h1:=Ug (n:=n) (by omega);have:=(Nat.pow_lt_pow_iff_right (a:=2) (by decide)).mp (Nat.lt_of_le_of_lt h1 h);omega
section
attribute [-simp] Int.natCast_add Int.natCast_mul Int.natCast_ediv Int.natCast_emod Int.natCast_pow
attribute [local simp] strip Yf LW' LR gW Yk Xd Ya Xe Yo Xf Zr Zs Zg Yp Yy Yl Xl Zv Yq Zh Ze Xk Xj Qy Yg Yz opd Xz Ym plain Yi Tr.get_set Xx Zp Xu Yd sameKind undef Zt Ys Yw Zl Yc parts unV DW Xo Zy LX Zw
section
variable {H : AH} {va vb : Value} {xs ys : List Nat} {A B : Nat}
theorem newton_call(ha:Sl H va (ds B64 A))(hA:0<A)(hb:Zf A≤67108864): ∃u H',Zq Tryz.prog Zo 127 [va,.int .i64 2] H=some (u,H')∧Keep H H'∧ ∃r,IsRt A r∧Own H.n H' u (ds B64 r):=by
 suffices hs:CW Tryz.prog Zo 127 [va,.int .i64 2] H fun v H'=>Keep H H'∧ ∃r,IsRt A r∧Own H.n H' v (ds B64 r)from hs;have lA:=Zi hb;have c1:=Jp ha lA;obtain⟨L,hL⟩: ∃L,L=Zf A:=⟨_,rfl⟩;rw[←hL]at c1 hb;have hAL:A<2^L:=by rw[hL];exact Uh A
 have g1:Zd .geq .i64 2 (L:Int)=some (.bool (decide (L≤2))):=geq_nat (k:= .i64) (x:=2) (y:=L);refine Zk 72 (by decide) (by decide) Tryz.func127 rfl rfl ?_;apply Zb;intro b1 hb1;apply Za;simp;subst hb1;apply Zb;intro b1 hb1;apply Za;simp[c1];subst hb1;apply Zb;intro b1 hb1;apply Zb;intro b2 hb2;apply Za;simp[g1];subst hb2;by_cases hL2:L≤2;·obtain⟨v2,H2,c2,k2,o2⟩:=Fh (H:=H) (x:=1) (by decide);have c2:Zq Tryz.prog Zo 164 [.int .u64 1] H=some (v2,H2):=c2;refine Zc (t:=true) (by simp[hL2]) ?_;apply Zb;intro b2 hb2;apply Za;simp[c2];subst hb2;apply Zn;simp[Xr];refine⟨k2,1,⟨by omega,?_⟩,o2⟩;have:A<2^2:=Nat.lt_of_lt_of_le hAL (Nat.pow_le_pow_right (by decide) hL2);omega
 ·refine Zc (t:=false) (by simp[hL2]) ?_;apply Zj;subst hb1;obtain⟨h,hh⟩: ∃h,h=(L+1)/2:=⟨_,rfl⟩;have g2:Zd .add .i64 (L:Int) 2=some (.int .i64 ((L+2:Nat):Int)):=Gl (x:=L) (y:=2) (by omega);have g3:Zd .sub .i64 ((L+2:Nat):Int) 1=some (.int .i64 ((L+1:Nat):Int)):=Gw (x:=L+2) (by omega) (by omega);have g4:Zd .quo .i64 ((L+1:Nat):Int) 2=some (.int .i64 (h:Int)):=by rw[hh];exact quo_i64 (x:=L+1) (y:=2) (by omega) (by decide)
  obtain⟨v2,H2,c2,k2,o2⟩:=power_call (H:=H) (n:=h) (by omega);apply Zb;intro b1 hb1;apply Za;simp[g2,g3,g4,c2];subst hb1;apply Zx;have hX0:A<(2^h+1)*(2^h+1):=by have h1:2^L≤2^(h+h):=Nat.pow_le_pow_right (by decide) (by omega);rw[Nat.pow_add]at h1;have h2:=sq_lt (show 2^h<2^h+1 by omega);omega
  refine Qf (fun m s'=>s'.k=72∧Keep H s'.H∧0<m∧m≤2^h∧A<(m+1)*(m+1)∧ ∃w,Own H.n s'.H w (ds B64 m)∧s'.tm.get 0=some va∧s'.tm.get 1=some (.int .i64 2)∧s'.tm.get 6=some w) ?_ (2^h) _ ⟨rfl,k2,Nat.pow_pos (by decide),Nat.le_refl _,hX0,v2,o2,by simp,by simp,by simp⟩;rintro x ⟨kk,tm,H4⟩ ⟨hkk,kH,hx0,hxX,hAx,w,ow,t0,t1,t6⟩ Q' hQ';simp only at hkk kH ow t0 t1 t6;subst hkk;have hbx:Zf x≤60000000:=by
   have:x<2^(h+1):=by rw[Nat.pow_succ];omega
   have:=Kv this;omega
  obtain⟨v5,H5,c5,k5,o5⟩:=pow_call (k:=1) ow.sl (by decide) (by decide) (by rw[Nat.pow_one];omega);rw[Nat.pow_one]at o5;have c5:Zq Tryz.prog Zo 128 [w,.int .i64 1] H4=some (.tuple #[v5,.int .i64 0],H5):=c5;have k45:=kH.trans k5;obtain⟨v6,H6,c6,k6,o6⟩:=Kf (ha.keep k45) o5.sl lA (Zi (by omega)) hx0 (by omega);have ow5:=(ow.mono (Nat.le_refl _) k5).mono (Nat.le_refl _) k6;obtain⟨v7,H7,c7,k7,m7⟩:=times_spec (y:=1) ow5.sl (Xt Zz x) (by decide) (Nat.le_trans (Zi (A:=x) (by omega)) (by decide));rw[Qh Zz,Nat.mul_one]at m7;have c7:Zq Tryz.prog Zo 166 [w,.int .u64 1] H6=some (v7,H7):=c7;rcases m7 with⟨m7,_⟩|⟨_,u7,rfl,o7⟩;·omega
  have hq2:=div_le_two hx0 hAx;have hs:x+A/x<2^(h+3):=by
   have:2^(h+3)=8*2^h:=by rw[Nat.pow_add];omega
   omega
  have hbs:=Kv hs;obtain⟨v8,H8,c8,k8,o8⟩:=Zm8 o7.sl (o6.sl.keep k7) (Zi (by omega)) (Zi (Nat.le_trans (Yh (Nat.div_le_self A x)) (by omega))) (by omega);obtain⟨v9,H9,c9,k9,m9⟩:=through_spec (y:=2) o8.sl (Xt Zz _) (by decide) (by decide) (Nat.le_trans (Zi (A:=x+A/x) (by omega)) (by decide));rw[Qh Zz]at m9;have hby:Zf ((x+A/x)/2)≤67108864:=Nat.le_trans (Yh (Nat.div_le_self _ 2)) (by omega);rcases m9 with⟨m9,_⟩|⟨_,u9,rfl,o9⟩;·omega
  obtain⟨rr,hrr⟩: ∃rr,rr=(x+A/x)%2:=⟨_,rfl⟩;rw[←hrr]at c9;have c9:Zq Tryz.prog Zo 168 [v8,.int .u64 2] H8=some (.tuple #[u9,.int .u64 (rr:Int),.int .i64 0],H9):=c9;have hup:=newton_up (A:=A) hx0;have hstop:=newton_stop hx0 hAx;obtain⟨y,hy⟩: ∃y,y=(x+A/x)/2:=⟨_,rfl⟩;rw[←hy]at hup hstop hby o9;have ow9:=((ow5.mono (Nat.le_refl _) k7).mono (Nat.le_refl _) k8).mono (Nat.le_refl _) k9;obtain⟨vc,Hc,cc,ec,ec'⟩:=Gn o9.sl ow9.sl (Xt Zz y) (Xt Zz x) (Nat.le_trans (Zi hby) (by decide)) (Nat.le_trans (Zi (A:=x) (by omega)) (by decide));rw[Qh Zz,Qh Zz]at ec';rw[ec,ec']at cc;have gc:=geq_cmp (a:=y) (b:=x);have k49:=(((k45.trans k6).trans k7).trans k8).trans k9;have s1:Zd .sub .i64 2 1=some (.int .i64 1):=rfl;have cv1:Dj Tryz.prog 3 101 (.int .i64 1)=some (.int .u64 1):=Zc5 (n:=1) (by decide);have cv2:Dj Tryz.prog 3 101 (.int .i64 2)=some (.int .u64 2):=Zc5 (n:=2) (by decide);apply Zx;apply Zb;intro b3 hb3;apply Za;simp[t1,t6,s1,c5];subst hb3;apply Zb;intro b3 hb3;apply Za;simp[t0,c6];subst hb3;apply Zb;intro b3 hb3;apply Za;simp[t1,t6,s1,cv1,c7];subst hb3;apply Zb;intro b3 hb3;apply Za;simp[c8];subst hb3;apply Zb;intro b3 hb3;apply Za;simp[t1,cv2,c9];subst hb3;apply Zb;intro b3 hb3;apply Zb;intro b4 hb4;apply Za;simp[t6,cc,gc];subst hb4;by_cases hyx:x≤y;·refine Zc (t:=true) (by simp[hyx]) ?_;apply Zb;intro b4 hb4;apply Za;simp[t6];subst hb4;apply Zn;simp[Xr,Xn];apply hQ';simp[Ba,Xn,Xr];exact⟨k49,x,hstop hyx,ow9⟩
  ·refine Zc (t:=false) (by simp[hyx]) ?_;apply Zj;subst hb3;apply Za;simp;apply hQ';refine⟨y,by omega,rfl,k49,?_,by omega,hup,u9,o9.mono (Nat.le_trans (((((kH.trans k5).trans k6).trans k7).trans k8).n) (Nat.le_refl _)) (.refl _),by simp[t0],by simp[t1],by simp⟩;rcases Nat.eq_zero_or_pos y with h0|h0;·subst h0;omega
   ·exact h0
theorem root_call(ha:Sl H va xs)(dx:Dig B64 xs)(lx:xs.length≤17592186044416)(hb:Zf (dv B64 xs)≤67108864): ∃u w H',Zq Tryz.prog Zo 89 [va,.int .i64 2] H=some (.tuple #[u,w,.int .i64 0],H')∧Keep H H'∧ ∃r,IsRt (dv B64 xs) r∧Own H.n H' u (ds B64 r)∧Sl H' w (ds B64 (dv B64 xs-r*r)):=by
 suffices hs:CW Tryz.prog Zo 89 [va,.int .i64 2] H fun v H'=> ∃u w,v= .tuple #[u,w,.int .i64 0]∧Keep H H'∧ ∃r,IsRt (dv B64 xs) r∧Own H.n H' u (ds B64 r)∧Sl H' w (ds B64 (dv B64 xs-r*r)) by obtain⟨v,H',hc,u,w,rfl,k,o⟩:=hs;exact⟨u,w,H',hc,k,o⟩
 obtain⟨v1,H1,c1,k1,o1⟩:=rootsFits_call ha dx lx hb;obtain⟨A,hA⟩: ∃A,A=dv B64 xs:=⟨_,rfl⟩;rw[←hA]at o1 hb⊢;have lA:=Zi hb;have c2:=Jp o1.sl lA;obtain⟨L,hL⟩: ∃L,L=Zf A:=⟨_,rfl⟩;rw[←hL]at c2;have g1:=Vu (k:= .i64) (x:=L);refine Zk 42 (by decide) (by decide) Tryz.func89 rfl rfl ?_;apply Zb;intro b1 hb1;apply Za;simp;subst hb1;apply Zb;intro b1 hb1;apply Zb;intro b2 hb2;apply Za;simp[show Zd .lss .i64 2 1=some (.bool false)from rfl];subst hb2;refine Zc (t:=false) (by simp) ?_;apply Zj;subst hb1;apply Zb;intro b1 hb1;apply Za;simp[c1];subst hb1;apply Zb;intro b1 hb1;apply Zb;intro b2 hb2;apply Za;simp[Ep];subst hb2;refine Zc (t:=false) (by simp) ?_;apply Zj;subst hb1;apply Zb;intro b1 hb1;apply Zb;intro b2 hb2;apply Za;simp[show Zd .eql .i64 2 1=some (.bool false)from rfl,c2,g1];subst hb2;by_cases h0:L=0;·refine Zc (t:=true) (by simp[h0]) ?_;apply Zb;intro b2 hb2;apply Za;simp;subst hb2;apply Zn;simp[Xr];have:A=0:=Fc.mp (by omega);subst this;exact⟨_,_,⟨rfl,rfl⟩,k1,0,⟨by decide,by decide⟩,o1,by rw[show ds B64 (0-0*0)=[]from Jy _];exact .nil⟩
 ·refine Zc (t:=false) (by simp[h0]) ?_;apply Zj;subst hb1;have hA0:0<A:=by
   rcases Nat.eq_zero_or_pos A with h|h;·subst h;exact absurd hL h0
   ·exact h
  obtain⟨v3,H3,c3,k3,r,hr,o3⟩:=newton_call o1.sl hA0 hb;have hrr:Zf (r^2)≤67108864:=by rw[Nat.pow_two];exact Nat.le_trans (Yh hr.1) hb
  obtain⟨v4,H4,c4,k4,o4⟩:=pow_call (k:=2) o3.sl (by decide) (by decide) hrr;rw[Nat.pow_two]at o4 hrr;have c4:Zq Tryz.prog Zo 128 [v3,.int .i64 2] H3=some (.tuple #[v4,.int .i64 0],H4):=c4;obtain⟨v5,H5,c5,k5,o5⟩:=less_call ((o1.sl.keep k3).keep k4) o4.sl lA (Zi hrr) hr.1 hb;apply Zb;intro b1 hb1;apply Za;simp[c3];subst hb1;apply Zb;intro b1 hb1;apply Za;simp[c4];subst hb1;apply Zb;intro b1 hb1;apply Za;simp[c5];subst hb1;apply Zn;simp;exact⟨_,_,⟨rfl,rfl⟩,((k1.trans k3).trans k4).trans k5,r,hr,((o3.mono k1.n k4).mono (Nat.le_refl _) k5),o5.sl⟩
theorem sqrt_call(ha:Sl H va xs)(dx:Dig B64 xs)(lx:xs.length≤17592186044416)(hb:Zf (dv B64 xs)≤67108864): ∃u w H',Zq Tryz.prog Zo 55 [va] H=some (.tuple #[u,w,.int .i64 0],H')∧Keep H H'∧ ∃r,IsRt (dv B64 xs) r∧Own H.n H' u (ds B64 r)∧Sl H' w (ds B64 (dv B64 xs-r*r)):=by
 suffices hs:CW Tryz.prog Zo 55 [va] H fun v H'=> ∃u w,v= .tuple #[u,w,.int .i64 0]∧Keep H H'∧ ∃r,IsRt (dv B64 xs) r∧Own H.n H' u (ds B64 r)∧Sl H' w (ds B64 (dv B64 xs-r*r)) by obtain⟨v,H',hc,u,w,rfl,k,o⟩:=hs;exact⟨u,w,H',hc,k,o⟩
 obtain⟨u,w,H1,c1,k1,o1⟩:=root_call ha dx lx hb;refine Zk 10 (by decide) (by decide) Tryz.func55 rfl rfl ?_;apply Zb;intro b1 hb1;apply Za;simp;subst hb1;apply Zb;intro b1 hb1;apply Za;simp[c1];subst hb1;apply Zn;simp;exact⟨_,_,⟨rfl,rfl⟩,k1,o1⟩
end
end
theorem Jw(H:AH)(sz:Nat)(cs:List Value):(H.new sz cs).n=H.n+1:=rfl
theorem Vr(H:AH)(a:List Value): ∃H',H.new 1 a=H'∧Keep H H'∧H'.n=H.n+1∧H'.blk H.n= .rw 1 a:=⟨_,rfl,.new _ _ _,rfl,by rw[AH.blk_new,if_pos rfl]⟩
theorem Qv(H:AH)(a b:List Value): ∃H',(H.new 1 a).new 1 b=H'∧Keep H H'∧H'.n=H.n+2∧H'.blk H.n= .rw 1 a∧H'.blk (H.n+1)= .rw 1 b:=by obtain⟨H1,e1,k1,n1,q1⟩:=Vr H a;obtain⟨H2,e2,k2,n2,q2⟩:=Vr H1 b;exact⟨H2,by rw[e1,e2],k1.trans k2,by omega,by rw[k2.blk _ (by omega)];exact q1,by rw[←n1];exact q2⟩
theorem Az(H:AH)(a b c:List Value): ∃H',((H.new 1 a).new 1 b).new 1 c=H'∧Keep H H'∧H'.n=H.n+3∧H'.blk H.n= .rw 1 a∧H'.blk (H.n+1)= .rw 1 b∧H'.blk (H.n+2)= .rw 1 c:=by obtain⟨H1,e1,k1,n1,q1,r1⟩:=Qv H a b;obtain⟨H2,e2,k2,n2,q2⟩:=Vr H1 c;exact⟨H2,by rw[e1,e2],k1.trans k2,by omega,by rw[k2.blk _ (by omega)];exact q1,by rw[k2.blk _ (by omega)];exact r1,by rw[←n1];exact q2⟩
theorem Zf3(H:AH)(a b c d:List Value): ∃H',(((H.new 1 a).new 1 b).new 1 c).new 1 d=H'∧Keep H H'∧H'.n=H.n+4∧H'.blk H.n= .rw 1 a∧H'.blk (H.n+1)= .rw 1 b∧H'.blk (H.n+2)= .rw 1 c∧H'.blk (H.n+3)= .rw 1 d:=by obtain⟨H1,e1,k1,n1,q1,r1⟩:=Qv H a b;obtain⟨H2,e2,k2,n2,q2,r2⟩:=Qv H1 c d;exact⟨H2,by rw[e1,e2],k1.trans k2,by omega,by rw[k2.blk _ (by omega)];exact q1,by rw[k2.blk _ (by omega)];exact r1,by rw[←n1];exact q2,by rw[show H.n+3=H1.n+1 by omega];exact r2⟩
theorem Ek{H:AH}{t:TypeId}{n b:Nat}{cs ws:List Value}(ht:Qp Tryz.prog t=some n)(hb:H.blk b= .rw 1 cs)(hc:cs.length=n){v:Value}(hv:v.cells.toList=ws)(hw:ws.length=n)(h1:ws.all one=true): ∃H',Xm Tryz.prog H t (.pointer (some ⟨b,0,none⟩)) v=some H'∧H'.n=H.n∧H'.blk b= .rw 1 ws∧(∀j,j≠b→H'.blk j=H.blk j)∧KAt b H H':=by obtain⟨H',st,q,n1,o,ka,_⟩:=Ed (o:=0) ht hb hv hw (by omega) h1;refine⟨H',st,n1,?_,o,ka⟩;rw[q,List.take_zero,List.nil_append,List.drop_of_length_le (by omega),List.append_nil]
theorem aWhole:Jh Tryz.prog 32=some true:=by kernel_rfl
theorem sWhole:Qp Tryz.prog 32=some 2:=by kernel_rfl
theorem Cp:Uy Tryz.prog 32=some (.agg #[.bool false,.slice none 0 0]):=by kernel_rfl
theorem putW{H:AH}{b:Nat}{p' q' p q:Value}(hb:H.blk b= .rw 1 [p',q'])(h0:p.cells=#[p])(h1:q.cells=#[q])(h2:one p=true)(h3:one q=true): ∃H',Xm Tryz.prog H 32 (.pointer (some ⟨b,0,none⟩)) (.agg #[p,q])=some H'∧H'.n=H.n∧H'.blk b= .rw 1 [p,q]∧(∀j,j≠b→H'.blk j=H.blk j)∧KAt b H H':=Ek sWhole hb rfl (by simp[Value.cells]) rfl (by simp[h2,h3])
theorem Eo{H:AH}{b:Nat}{p q:Value}(hb:H.blk b= .rw 1 [p,q]):Yr Tryz.prog H 32 (.pointer (some ⟨b,0,none⟩))=some (.agg #[p,q]):=by unfold Yr;simp only[aWhole,sWhole,AH.read_def,hb];simp[AH.cells_rw' hb,show Nat.ble 2 2=true from rfl]
theorem Ej{H:AH}{b:Nat}{p q:Value}(hb:H.blk b= .rw 1 [p,q]):Yr Tryz.prog H 4 (.pointer (some ⟨b,0,none⟩))=some p:=Yt aBool (AH.cells_rw' hb (by decide)) rfl
theorem Kt{H:AH}{b:Nat}{p q:Value}(hb:H.blk b= .rw 1 [p,q]):Yr Tryz.prog H 30 (.pointer (some ⟨b,1,none⟩))=some q:=Yt aNat (AH.cells_rw' hb (by decide)) rfl
theorem Fg(b:Nat):Xa Tryz.prog 32 (.pointer (some ⟨b,0,none⟩)) 1=some (.pointer (some ⟨b,1,none⟩)):=faAbs b 0
theorem Ay{b:Bool}{v:Value}(hv: ∃a l c,v= .slice a l c):Ui Tryz.prog 32 [(0,.bool b),(1,v)]=some (.agg #[.bool b,v]):=by obtain⟨a,l,c,rfl⟩:=hv;rfl
theorem Zc4{v:Value}(hv: ∃a l c,v= .slice a l c):Ui Tryz.prog 32 [(1,v)]=some (.agg #[.bool false,v]):=by obtain⟨a,l,c,rfl⟩:=hv;rfl
theorem Own.cells1{n:Nat}{H:AH}{v:Value}{xs:List Nat}(h:Own n H v xs):v.cells=#[v]∧one v=true:=h.isSlice
section
attribute [-simp] Int.natCast_add Int.natCast_mul Int.natCast_ediv Int.natCast_emod Int.natCast_pow
attribute [local simp] strip Yf LW' LR gW Yk Xd Ya Xe Yo Xf Zr Zs Zg Yp Yy Yl Xl Zv Yq Zh Ze Xk Xj Qy Yg Yz opd Xz Ym plain Yi Tr.get_set Xx Zp Xu Yd sameKind undef Zt Ys Yw Zl Yc parts unV DW Xo Zy LX Zw
section
variable {H : AH} {u va vb : Value} {xs ys : List Nat} {A B : Nat}
def sg(neg:Bool)(N:Nat):Bool:=neg&&decide (0<N)
theorem Zh2(neg:Bool)(hs:Sl H u xs)(dx:Dig B64 xs)(lx:xs.length≤17592186044416): ∃a H',Zq Tryz.prog Zo 195 [.agg #[.bool neg,u]] H=some (.agg #[.bool (sg neg (dv B64 xs)),a],H')∧Keep H H'∧Own H.n H' a (ds B64 (dv B64 xs)):=by
 obtain⟨N,hN⟩: ∃N,N=dv B64 xs:=⟨_,rfl⟩;rw[←hN];suffices h:CW Tryz.prog Zo 195 [.agg #[.bool neg,u]] H fun v H'=> ∃a,v= .agg #[.bool (sg neg N),a]∧Keep H H'∧Own H.n H' a (ds B64 N) by obtain⟨v,H',hc,a,rfl,k,o⟩:=h;exact⟨a,H',hc,k,o⟩
 obtain⟨H2,e2,k2,n2,q1,q2⟩:=Qv H [.bool neg,u] [.bool false,.slice none 0 0];obtain⟨w,H3,c3,k3,o3⟩:=Uu (hs.keep k2) dx lx;rw[←hN]at o3;have q1':=k3.blk _ (show H.n<H2.n by omega);rw[q1]at q1';have q2':=k3.blk _ (show H.n+1<H2.n by omega);rw[q2]at q2';obtain⟨i1,i2⟩:=o3.cells1;obtain⟨H4,st4,n4,q4,b4,ka4⟩:=putW (p:= .bool (sg neg N)) (q:=w) q2' rfl i1 rfl i2;have k04:Keep H H4:=ka4 H (k2.trans k3) (by omega);have o4:Own H.n H4 w (ds B64 N):=by have hb:But (some (H.n+1)) H3 H4:=⟨n4,fun j _ hj=>b4 j (fun e=>hj (by rw[e]))⟩;exact(o3.but hb (fun c hc hv=>by cases hc;have:=(o3.blk_lo hv).1;omega)).mono (by omega) (.refl _)
 have l3:=o3.sl.len Zl;obtain⟨m,hm⟩: ∃m,m=(ds B64 N).length:=⟨_,rfl⟩;rw[←hm]at l3;have hmN:(0<m)↔0<N:=by rw[hm];exact Ka Zz
 have hbd:=Ay (b:=sg neg N) o3.shape;have hld:=Eo q4;obtain⟨S,hS⟩: ∃S,S=sg neg N:=⟨_,rfl⟩;rw[←hS]at st4 hbd hld⊢;refine Zk 16 (by decide) (by decide) Tryz.func195 rfl rfl ?_;apply Zb;intro b1 hb1;apply Za;simp[Value.cells,Cp,Jw,e2];subst hb1;apply Zb;intro b1 hb1;apply Za;simp[Fg,Kt q1,c3];subst hb1;cases neg with
  |false=>
   have:S=false:=by rw[hS];rfl
   subst this;apply Zb;intro b1 hb1;apply Za;simp[Kw,Ej q1',hbd,st4];subst hb1;apply Zn;simp[hld];exact⟨k04,o4⟩
  |true=>
   have hg:Zd .gtr .i64 (m:Int) 0=some (.bool S):=by rw[gtr0,hS];unfold sg;rw[Bool.true_and,decide_eq_decide.mpr hmN]
   apply Zb;intro b1 hb1;apply Za;simp[Kw,Ej q1',l3,hg,hbd,st4];subst hb1;apply Zn;simp[hld];exact⟨k04,o4⟩
end
end
theorem Own.off{n b:Nat}{H H':AH}{w:Value}{xs:List Nat}(o:Own n H w xs)(hb:b<n)(hn:H'.n=H.n)(h: ∀j,j≠b→H'.blk j=H.blk j):Own n H' w xs:=o.but (b:=some b) ⟨hn,fun j _ hj=>h j (fun e=>hj (by rw[e]))⟩ (fun c hc hv=>by cases hc;have:=(o.blk_lo hv).1;omega)
section
attribute [-simp] Int.natCast_add Int.natCast_mul Int.natCast_ediv Int.natCast_emod Int.natCast_pow
attribute [local simp] strip Yf LW' LR gW Yk Xd Ya Xe Yo Xf Zr Zs Zg Yp Yy Yl Xl Zv Yq Zh Ze Xk Xj Qy Yg Yz opd Xz Ym plain Yi Tr.get_set Xx Zp Xu Yd sameKind undef Zt Ys Yw Zl Yc parts unV DW Xo Zy LX Zw
section
variable {H : AH} {u v va vb : Value} {xs ys : List Nat} {A B : Nat}
theorem wfits_call(neg:Bool)(hs:Sl H u xs)(dx:Dig B64 xs)(lx:xs.length≤17592186044416)(hb:Zf (dv B64 xs)≤67108864): ∃a H',Zq Tryz.prog Zo 220 [.agg #[.bool neg,u]] H=some (.tuple #[.agg #[.bool (sg neg (dv B64 xs)),a],.int .i64 0],H')∧Keep H H'∧Own H.n H' a (ds B64 (dv B64 xs)):=by
 obtain⟨N,hN⟩: ∃N,N=dv B64 xs:=⟨_,rfl⟩;suffices h:CW Tryz.prog Zo 220 [.agg #[.bool neg,u]] H fun v H'=> ∃a,v= .tuple #[.agg #[.bool (sg neg N),a],.int .i64 0]∧Keep H H'∧Own H.n H' a (ds B64 N) by obtain⟨v,H',hc,a,rfl,k,o⟩:=h;rw[←hN];exact⟨a,H',hc,k,o⟩
 obtain⟨i1,i2⟩:=Sl.one1 hs|>fun h=>(⟨by obtain⟨a,l,c,rfl⟩:=hs.shape;rfl,h⟩:u.cells=#[u]∧one u=true);obtain⟨H2,e2,k2,n2,q1,q2⟩:=Qv H [.bool neg,u] [.bool false,.slice none 0 0];obtain⟨v0,H0,c0,e0,e0'⟩:=Uf (hs.keep k2) dx lx;rw[e0,e0',←hN]at c0;rw[←hN]at hb;obtain⟨w,H3,c3,k3,o3⟩:=Zh2 neg (hs.keep k2) dx lx;rw[←hN]at c3 o3;have q2':=k3.blk _ (show H.n+1<H2.n by omega);rw[q2]at q2';obtain⟨j1,j2⟩:=o3.cells1;obtain⟨S,hS⟩: ∃S,S=sg neg N:=⟨_,rfl⟩;rw[←hS]at c3⊢;obtain⟨H4,st4,n4,q4,b4,ka4⟩:=putW (p:= .bool S) (q:=w) q2' rfl j1 rfl j2;have k04:Keep H H4:=ka4 H (k2.trans k3) (by omega);have o4:=(o3.off (b:=H.n+1) (by omega) n4 b4).mono (show H.n≤H2.n by omega) (.refl _);have hld:=Eo q4;obtain⟨L,hL⟩: ∃L,L=Zf N:=⟨_,rfl⟩;rw[←hL]at c0 hb;have g1:Zd .gtr .i64 (L:Int) 67108864=some (.bool false):=by have h:=Km (k:= .i64) (x:=L) (y:=67108864);rw[decide_eq_false (by omega)]at h;exact h
 refine Zk 11 (by decide) (by decide) Tryz.func220 rfl rfl ?_;apply Zb;intro b1 hb1;apply Za;simp[Value.cells,Cp,Jw,e2];subst hb1;apply Zb;intro b1 hb1;apply Zb;intro b2 hb2;apply Za;simp[Fg,Kt q1,c0,g1];subst hb2;refine Zc (t:=false) (by simp) ?_;apply Zj;subst hb1;apply Zb;intro b1 hb1;apply Za;simp[Eo q1,c3,st4];subst hb1;apply Zn;simp[hld];exact⟨k04,o4⟩
theorem An(neg:Bool)(hs:Sl H u xs)(dx:Dig B64 xs)(lx:xs.length≤17592186044416)(hb:Zf (dv B64 xs)≤67108864): ∃a H',Zq Tryz.prog Zo 194 [.bool neg,u,.int .i64 0] H=some (.tuple #[.agg #[.bool (sg neg (dv B64 xs)),a],.int .i64 0],H')∧Keep H H'∧Own H.n H' a (ds B64 (dv B64 xs)):=by
 obtain⟨N,hN⟩: ∃N,N=dv B64 xs:=⟨_,rfl⟩;suffices h:CW Tryz.prog Zo 194 [.bool neg,u,.int .i64 0] H fun v H'=> ∃a,v= .tuple #[.agg #[.bool (sg neg N),a],.int .i64 0]∧Keep H H'∧Own H.n H' a (ds B64 N) by obtain⟨v,H',hc,a,rfl,k,o⟩:=h;rw[←hN];exact⟨a,H',hc,k,o⟩
 obtain⟨H2,e2,k2,n2,q2⟩:=Vr H [.bool false,.slice none 0 0];obtain⟨w,H3,c3,k3,o3⟩:=wfits_call neg (hs.keep k2) dx lx hb;rw[←hN]at c3 o3;have q2':=k3.blk _ (show H.n<H2.n by omega);rw[q2]at q2';obtain⟨j1,j2⟩:=o3.cells1;obtain⟨S,hS⟩: ∃S,S=sg neg N:=⟨_,rfl⟩;rw[←hS]at c3⊢;obtain⟨H4,st4,n4,q4,b4,ka4⟩:=putW (p:= .bool S) (q:=w) q2' rfl j1 rfl j2;have k04:Keep H H4:=ka4 H (k2.trans k3) (by omega);have o4:=(o3.off (b:=H.n) (by omega) n4 b4).mono (show H.n≤H2.n by omega) (.refl _);have hld:=Eo q4;have hbd:=Ay (b:=neg) (v:=u) hs.shape;refine Zk 18 (by decide) (by decide) Tryz.func194 rfl rfl ?_;apply Zb;intro b1 hb1;apply Za;simp[Value.cells,Cp,Jw,e2];subst hb1;apply Zb;intro b1 hb1;apply Zb;intro b2 hb2;apply Za;simp[Ep];subst hb2;refine Zc (t:=false) (by simp) ?_;apply Zj;subst hb1;apply Zb;intro b1 hb1;apply Za;simp[hbd,c3,st4];subst hb1;apply Zn;simp[hld];exact⟨k04,o4⟩
theorem wOf_call{n:Nat}(hn:n<9223372036854775808): ∃a H',Zq Tryz.prog Zo 196 [.int .i64 (n:Int)] H=some (.agg #[.bool false,a],H')∧Keep H H'∧Own H.n H' a (ds B64 n):=by
 suffices h:CW Tryz.prog Zo 196 [.int .i64 (n:Int)] H fun v H'=> ∃a,v= .agg #[.bool false,a]∧Keep H H'∧Own H.n H' a (ds B64 n) by obtain⟨v,H',hc,a,rfl,k,o⟩:=h;exact⟨a,H',hc,k,o⟩
 have hnB:n<B64:=Nat.lt_trans hn (by decide);obtain⟨H2,e2,k2,n2,q2⟩:=Vr H [.bool false,.slice none 0 0];obtain⟨w,H3,c3,k3,o3⟩:=Fh (H:=H2) hnB;have q2':=k3.blk _ (show H.n<H2.n by omega);rw[q2]at q2';obtain⟨j1,j2⟩:=o3.cells1;obtain⟨H4,st4,n4,q4,b4,ka4⟩:=putW (p:= .bool false) (q:=w) q2' rfl j1 rfl j2;have k04:Keep H H4:=ka4 H (k2.trans k3) (by omega);have o4:=(o3.off (b:=H.n) (by omega) n4 b4).mono (show H.n≤H2.n by omega) (.refl _);have hld:=Eo q4;have hbd:=Zc4 (v:=w) o3.shape;have cv:=Zc5 hnB;refine Zk 14 (by decide) (by decide) Tryz.func196 rfl rfl ?_;apply Zb;intro b1 hb1;apply Za;simp[Value.cells,Cp,Jw,e2];subst hb1;apply Zb;intro b1 hb1;apply Zb;intro b2 hb2;apply Za;simp[lss_neg];subst hb2;refine Zc (t:=false) (by simp) ?_;apply Zj;subst hb1;apply Zb;intro b1 hb1;apply Za;simp[cv,c3,hbd,st4];subst hb1;apply Zn;simp[hld];exact⟨k04,o4⟩
def Uo(neg:Bool)(N:Nat):Int:=if N=0 then 0 else if neg then-1 else 1
theorem wSign_call(neg:Bool)(hs:Sl H u xs)(dx:Dig B64 xs)(lx:xs.length≤17592186044416): ∃H',Zq Tryz.prog Zo 125 [.agg #[.bool neg,u]] H=some (.int .i64 (Uo neg (dv B64 xs)),H')∧Keep H H':=by
 obtain⟨N,hN⟩: ∃N,N=dv B64 xs:=⟨_,rfl⟩;suffices h:CW Tryz.prog Zo 125 [.agg #[.bool neg,u]] H fun v H'=>v= .int .i64 (Uo neg N)∧Keep H H' by obtain⟨v,H',hc,rfl,k⟩:=h;rw[←hN];exact⟨H',hc,k⟩
 obtain⟨S,hS⟩: ∃S,S=Uo neg N:=⟨_,rfl⟩;rw[←hS];unfold Uo at hS;obtain⟨H2,e2,k2,n2,q1⟩:=Vr H [.bool neg,u];obtain⟨v0,H0,c0,e0,e0'⟩:=Uf (hs.keep k2) dx lx;rw[e0,e0',←hN]at c0;obtain⟨L,hL⟩: ∃L,L=Zf N:=⟨_,rfl⟩;rw[←hL]at c0;have g1:=Vu (k:= .i64) (x:=L);have hLN:L=0↔N=0:=by rw[hL];exact Fc
 refine Zk 11 (by decide) (by decide) Tryz.func125 rfl rfl ?_;apply Zb;intro b1 hb1;apply Za;simp[Value.cells,Jw,e2];subst hb1;apply Zb;intro b1 hb1;apply Zx;apply Zb;intro b2 hb2;apply Za;simp[Fg,Kt q1,c0,g1];subst hb2;by_cases h0:L=0;·rw[if_pos (hLN.mp h0)]at hS;subst hS;refine Zc (t:=true) (by simp[h0]) ?_;apply Zb;intro b1 hb1;apply Za;simp;subst hb1;apply Zn;simp[Xr,Xn];exact k2
 ·rw[if_neg (fun h=>h0 (hLN.mpr h))]at hS;refine Zc (t:=false) (by simp[h0]) ?_;apply Zb;intro b2 hb2;apply Za;simp[Kw,Ej q1];subst hb2;cases neg with|true=>rw[if_pos rfl]at hS;subst hS;refine Zc (t:=true) (by simp) ?_;apply Zb;intro b1 hb1;apply Za;simp;subst hb1;apply Zn;simp[Xr,Xn];exact k2|false=>rw[if_neg (by decide)]at hS;subst hS;refine Zc (t:=false) (by simp) ?_;apply Zj;subst hb1;apply Zb;intro b1 hb1;apply Za;simp;subst hb1;apply Zn;simp;exact k2
theorem wMul_call(s t:Bool)(ha:Sl H u (ds B64 A))(hb:Sl H v (ds B64 B))(lA:(ds B64 A).length≤Lim)(lB:(ds B64 B).length≤Lim)(h:Zf (A*B)≤67108864): ∃a H',Zq Tryz.prog Zo 143 [.agg #[.bool s,u],.agg #[.bool t,v]] H=some (.tuple #[.agg #[.bool (sg (s !=t) (A*B)),a],.int .i64 0],H')∧Keep H H'∧Own H.n H' a (ds B64 (A*B)):=by
 suffices h:CW Tryz.prog Zo 143 [.agg #[.bool s,u],.agg #[.bool t,v]] H fun v H'=> ∃a,v= .tuple #[.agg #[.bool (sg (s !=t) (A*B)),a],.int .i64 0]∧Keep H H'∧Own H.n H' a (ds B64 (A*B)) by obtain⟨v,H',hc,a,rfl,k,o⟩:=h;exact⟨a,H',hc,k,o⟩
 obtain⟨H2,e2,k2,n2,q1,q2,q3⟩:=Az H [.bool s,u] [.bool t,v] [.bool false,.slice none 0 0];obtain⟨w,H3,c3,k3,o3⟩:=Bb (ha.keep k2) (hb.keep k2) lA lB h;have q1':=k3.blk _ (show H.n<H2.n by omega);rw[q1]at q1';have q2':=k3.blk _ (show H.n+1<H2.n by omega);rw[q2]at q2';obtain⟨z,H4,c4,k4,o4⟩:=An (s !=t) o3.sl (Xt Zz _) (Nat.le_trans (Zi h) (by decide)) (by rw[Qh Zz];exact h);rw[Qh Zz]at c4 o4;have q3':=(k3.trans k4).blk _ (show H.n+2<H2.n by omega);rw[q3]at q3';obtain⟨j1,j2⟩:=o4.cells1;obtain⟨S,hS⟩: ∃S,S=sg (s !=t) (A*B):=⟨_,rfl⟩;rw[←hS]at c4⊢;obtain⟨H5,st5,n5,q5,b5,ka5⟩:=putW (p:= .bool S) (q:=z) q3' rfl j1 rfl j2;have n3:=k3.n;have k05:Keep H H5:=ka5 H ((k2.trans k3).trans k4) (by omega);have o5:=(o4.off (b:=H.n+2) (by omega) n5 b5).mono (show H.n≤H3.n by omega) (.refl _);have hld:=Eo q5;have gne:Xu Tryz.prog .neq 4 (.bool s) (.bool t)=some (.bool (s !=t)):=by cases s<;>cases t<;>rfl
 obtain⟨x,hx⟩: ∃x,x=(s !=t):=⟨_,rfl⟩;rw[←hx]at c4 gne;refine Zk 26 (by decide) (by decide) Tryz.func143 rfl rfl ?_;apply Zb;intro b1 hb1;apply Za;simp[Value.cells,Cp,Jw,e2];subst hb1;apply Zb;intro b1 hb1;apply Za;simp[Fg,Kt q1,Kt q2,c3];subst hb1;apply Zb;intro b1 hb1;apply Za;simp[Kw,Ej q1',Ej q2',-Xu,gne,c4,st5];subst hb1;apply Zn;simp[hld];exact⟨k05,o5⟩
end
end
theorem putL{H:AH}{t:TypeId}{n b:Nat}{cs ws:List Value}(ht:Qp Tryz.prog t=some n)(hb:H.blk b= .rw 1 cs)(hc:cs.length=n){v:Value}(hv:v.cells.toList=ws)(hw:ws.length=n)(h1:ws.all one=true): ∃H',Xm Tryz.prog H t (.pointer (some ⟨b,0,none⟩)) v=some H'∧H'.n=H.n∧H'.blk b= .rw 1 ws∧(∀j,j≠b→H'.blk j=H.blk j)∧KAt b H H'∧H'.lw=min H.lw b:=by obtain⟨H',st,q,n1,o,ka,lw⟩:=Ed (o:=0) ht hb hv hw (by omega) h1;refine⟨H',st,n1,?_,o,ka,lw⟩;rw[q,List.take_zero,List.nil_append,List.drop_of_length_le (by omega),List.append_nil]
theorem Fk{H:AH}{t:TypeId}{n b:Nat}{cs ws:List Value}(ht:Qp Tryz.prog t=some n)(hb:H.blk b= .rw 1 cs)(hbn:b<H.n)(hc:cs.length=n){v:Value}(hv:v.cells.toList=ws)(hw:ws.length=n)(h1:ws.all one=true): ∃H2,Xm Tryz.prog H.top t (.pointer (some ⟨b,0,none⟩)) v=some H2∧H2.n=H.n∧H2.lw<H.n∧(low H H2).n=H.n∧(low H H2).blk b= .rw 1 ws∧(∀j,j≠b→(low H H2).blk j=H.blk j)∧KAt b H (low H H2):=by obtain⟨H2,st,n1,q,o,ka,lw⟩:=putL (H:=H.top) ht hb hc hv hw h1;exact⟨H2,st,n1,by rw[lw];show min H.n b<H.n;omega,n1,q,o,Aa ka⟩
def sumW(s:Bool)(A:Nat)(t:Bool)(B:Nat):Bool×Nat:=if sg s A=sg t B then(sg s A,A+B)else if A<B then(sg t B,B-A)else(sg s A,A-B)
section
attribute [-simp] Int.natCast_add Int.natCast_mul Int.natCast_ediv Int.natCast_emod Int.natCast_pow
attribute [local simp] strip Yf LW' LR gW Yk Xd Ya Xe Yo Xf Zr Zs Zg Yp Yy Yl Xl Zv Yq Zh Ze Xk Xj Qy Yg Yz opd Xz Ym plain Yi Tr.get_set Xx Zp Xu Yd sameKind undef Zt Ys Yw Zl Yc parts unV DW Xo Zy LX Zw
section
variable {H : AH} {u v va vb : Value} {xs ys : List Nat} {A B : Nat}
theorem wAdd_call(s t:Bool)(ha:Sl H u (ds B64 A))(hb:Sl H v (ds B64 B))(lA:(ds B64 A).length≤Lim)(lB:(ds B64 B).length≤Lim)(h:Zf (A+B)≤67108864): ∃a H',Zq Tryz.prog Zo 144 [.agg #[.bool s,u],.agg #[.bool t,v]] H=some (.tuple #[.agg #[.bool (sg (sumW s A t B).1 (sumW s A t B).2),a],.int .i64 0],H')∧Keep H H'∧Own H.n H' a (ds B64 (sumW s A t B).2):=by
 suffices hs:CW Tryz.prog Zo 144 [.agg #[.bool s,u],.agg #[.bool t,v]] H fun v H'=> ∃a,v= .tuple #[.agg #[.bool (sg (sumW s A t B).1 (sumW s A t B).2),a],.int .i64 0]∧Keep H H'∧Own H.n H' a (ds B64 (sumW s A t B).2) by obtain⟨v,H',hc,a,rfl,k,o⟩:=hs;exact⟨a,H',hc,k,o⟩
 obtain⟨H2,e2,k2,n2,q1,q2,q3⟩:=Az H [.bool s,u] [.bool t,v] [.bool false,.slice none 0 0];have cA:u.cells=#[u]∧one u=true:=⟨by obtain⟨a,l,c,rfl⟩:=ha.shape;rfl,ha.one1⟩;have cB:v.cells=#[v]∧one v=true:=⟨by obtain⟨a,l,c,rfl⟩:=hb.shape;rfl,hb.one1⟩;obtain⟨w1,E1,c1,kE1,o1⟩:=Zh2 s ((ha.keep k2).top) (Xt Zz A) (Nat.le_trans lA (by decide));rw[Qh Zz]at c1 o1;obtain⟨G1,hG1⟩: ∃G1,G1=grown H2 E1:=⟨_,rfl⟩;have kG1:Keep H2 G1:=by rw[hG1];exact Zu (.refl H2) kE1
 have o1':Own H2.n G1 w1 (ds B64 A):=by rw[hG1];exact o1.same (Yj kE1)
 have nE1:H2.n≤E1.n:=kE1.n;obtain⟨w2,E2,c2,kE2,o2⟩:=Zh2 t ((hb.keep (k2.trans kG1)).top) (Xt Zz B) (Nat.le_trans lB (by decide));rw[Qh Zz]at c2 o2;obtain⟨G2,hG2⟩: ∃G2,G2=grown G1 E2:=⟨_,rfl⟩;have kG2:Keep G1 G2:=by rw[hG2];exact Zu (.refl G1) kE2
 have o2':Own G1.n G2 w2 (ds B64 B):=by rw[hG2];exact o2.same (Yj kE2)
 have nE2:G1.n≤E2.n:=kE2.n;have kH2:=kG1.trans kG2;have ng:=kH2.n;have ng1:=kG1.n;have o1'':=o1'.mono (Nat.le_refl _) kG2;have o2'':=o2'.mono ng1 (.refl _);obtain⟨x,hx⟩: ∃x,x=sg s A:=⟨_,rfl⟩;obtain⟨y,hy⟩: ∃y,y=sg t B:=⟨_,rfl⟩;rw[←hx]at c1;rw[←hy]at c2;have r1:G2.blk H.n= .rw 1 [.bool s,u]:=by rw[kH2.blk _ (by omega)];exact q1
 have r2:G2.blk (H.n+1)= .rw 1 [.bool t,v]:=by rw[kH2.blk _ (by omega)];exact q2
 have r3:G2.blk (H.n+2)= .rw 1 [.bool false,.slice none 0 0]:=by rw[kH2.blk _ (by omega)];exact q3
 obtain⟨i1,i2⟩:=o1''.cells1;obtain⟨i3,i4⟩:=o2''.cells1;obtain⟨S1,st1,sn1,slw1,fn1,fb1,fo1,fk1⟩:=Fk (v:= .agg #[.bool x,w1]) (ws:=[.bool x,w1]) sWhole r1 (by omega) rfl (by simp[Value.cells]) rfl (by simp[i2,show one (Value.bool x)=true from rfl]);obtain⟨F1,hF1⟩: ∃F1,F1=low G2 S1:=⟨_,rfl⟩;rw[←hF1]at fn1 fb1 fo1 fk1;have r2':F1.blk (H.n+1)= .rw 1 [.bool t,v]:=by rw[fo1 _ (by omega)];exact r2
 obtain⟨S2,st2,sn2,slw2,fn2,fb2,fo2,fk2⟩:=Fk (v:= .agg #[.bool y,w2]) (ws:=[.bool y,w2]) sWhole r2' (by omega) rfl (by simp[Value.cells]) rfl (by simp[i4,show one (Value.bool y)=true from rfl]);obtain⟨F,hF⟩: ∃F,F=low F1 S2:=⟨_,rfl⟩;rw[←hF]at fn2 fb2 fo2 fk2;have f1:F.blk H.n= .rw 1 [.bool x,w1]:=by rw[fo2 _ (by omega)];exact fb1
 have f3:F.blk (H.n+2)= .rw 1 [.bool false,.slice none 0 0]:=by rw[fo2 _ (by omega),fo1 _ (by omega)];exact r3
 have kF:Keep H F:=fk2 H (fk1 H (k2.trans kH2) (by omega)) (by omega);have p1:Own H2.n F w1 (ds B64 A):=(o1''.off (b:=H.n) (by omega) fn1 fo1).off (b:=H.n+1) (by omega) fn2 fo2;have p2:Own H2.n F w2 (ds B64 B):=(o2''.off (b:=H.n) (by omega) fn1 fo1).off (b:=H.n+1) (by omega) fn2 fo2;have nF:F.n=G2.n:=by rw[fn2,fn1]
 have l2: ∀bits ms,(∀x∈ms,H2.n≤x.2.1)→Yr Tryz.prog (vis G1 bits ms) 32 (.pointer (some ⟨H.n+1,0,none⟩))=some (.agg #[.bool t,v]):=fun bits ms h=>Eo (by rw[(Qt kG1 h).blk _ (by omega)];exact q2);refine Zk 57 (by decide) (by decide) Tryz.func144 rfl rfl ?_;apply Zb;intro b1 hb1;apply Za;simp[Value.cells,Cp,Jw,e2];subst hb1;apply Zb;intro b1 hb1;apply Qm (by kernel_rfl);simp;refine Ye (v:= .agg #[.bool s,u]) rfl rfl rfl (by rw[Zm rfl];simp[Eo (H:=H2.top) q1]) ?_;simp;refine Yv (v:= .agg #[.bool x,w1]) (H2:=E1) rfl rfl rfl (by rw[Zm rfl];simp[c1]) nE1 (Yx kE1) ?_;rw[←hG1];generalize hms:cond (Nat.blt H2.n E1.n) _ _=ms;have hms1:=Fi hms;simp;refine Ye (v:= .agg #[.bool t,v]) rfl rfl rfl (by simp[l2 _ ms fun x hx=>(hms1 x hx).2]) ?_;simp;refine Yv (v:= .agg #[.bool y,w2]) (H2:=E2) rfl rfl rfl ?_ nE2 (Yx kE2) ?_;·rw[Zm (Xc fun x hx=>by rw[(hms1 x hx).1];kernel_rfl)];simp[c2]
 rw[←hG2];generalize hms2:cond (Nat.blt G1.n E2.n) _ _=ms2;have hms3: ∀bits:Nat,bits.testBit 1=true→bits.testBit 3=true→ ∀x∈ms2,bits.testBit x.1=true:=fun bits b1 b3 x hx=>by rw[←hms2]at hx;cases hb:Nat.blt G1.n E2.n with
  |false=>rw[hb,cond_false]at hx;rw[(hms1 x hx).1];exact b1
  |true=>
   rw[hb,cond_true]at hx;rcases List.mem_cons.mp hx with e|e;·rw[e];exact b3
   ·rw[(hms1 x e).1];exact b1
 simp;refine Xg (v:= .tuple #[]) (H2:=S1) rfl rfl (by kernel_rfl) (Xc (hms3 _ (by kernel_rfl) (by kernel_rfl))) ?_ (by omega) slw1 ?_;·show Yk _ _ _ _ G2.top _=_;simp[st1]
 rw[show({ n:=S1.n,lw:=min G2.lw S1.lw,t:=S1.t } :AH)=F1 from hF1.symm];rw[show Nat.blt G2.n S1.n=false from by rw[sn1];exact Qg _,cond_false];simp;refine Xg (v:= .tuple #[]) (H2:=S2) rfl rfl (by kernel_rfl) (Xc (hms3 _ (by kernel_rfl) (by kernel_rfl))) ?_ (by omega) slw2 ?_;·show Yk _ _ _ _ F1.top _=_;simp[st2]
 rw[show({ n:=S2.n,lw:=min F1.lw S2.lw,t:=S2.t } :AH)=F from hF.symm];simp;subst hb1;clear hms hms1 hms2 hms3;have hsum:sumW s A t B=if x=y then(x,A+B)else if A<B then(y,B-A)else(x,A-B):=by rw[hx,hy];rfl
 obtain⟨Z,hZ⟩: ∃Z,Z=sumW s A t B:=⟨_,rfl⟩;rw[←hZ]at hsum⊢;clear c1 c2 o1 o2 st1 st2;have geq:Xu Tryz.prog .eql 4 (.bool x) (.bool y)=some (.bool (decide (x=y))):=by cases x<;>cases y<;>rfl
 have hbA:Zf A≤67108864:=Nat.le_trans (Yh (by omega)) h;have hbB:Zf B≤67108864:=Nat.le_trans (Yh (by omega)) h;apply Zb;intro b1 hb1;apply Zb;intro b2 hb2;apply Za;simp[Kw,Ej f1,Ej fb2,-Xu,geq];subst hb2;by_cases hxy:x=y
 ·rw[if_pos hxy]at hsum;subst hsum;obtain⟨w,H3,c3,k3,o3⟩:=Zm8 p1.sl p2.sl lA lB h;obtain⟨z,H4,c4,k4,o4⟩:=An x o3.sl (Xt Zz _) (Nat.le_trans (Zi h) (by decide)) (by rw[Qh Zz];exact h);rw[Qh Zz]at c4 o4;have g1:H3.blk H.n= .rw 1 [.bool x,w1]:=by rw[k3.blk _ (by omega)];exact f1
  have g3:H4.blk (H.n+2)= .rw 1 [.bool false,.slice none 0 0]:=by rw[(k3.trans k4).blk _ (by omega)];exact f3
  obtain⟨j1,j2⟩:=o4.cells1;obtain⟨S,hS⟩: ∃S,S=sg x (A+B):=⟨_,rfl⟩;rw[←hS]at c4⊢;obtain⟨H5,st5,n5,q5,b5,ka5⟩:=putW (p:= .bool S) (q:=z) g3 rfl j1 rfl j2;have n3:=k3.n;have k05:Keep H H5:=ka5 H ((kF.trans k3).trans k4) (by omega);have o5:=(o4.off (b:=H.n+2) (by omega) n5 b5).mono (show H.n≤H3.n by omega) (.refl _);have hld:=Eo q5;refine Zc (t:=true) (by simp[hxy]) ?_;apply Zb;intro b1 hb1;apply Za;simp[Fg,Kt f1,Kt fb2,c3];subst hb1;apply Zb;intro b2 hb2;apply Za;simp[Kw,Ej g1,c4,st5];subst hb2;apply Zn;simp[Xr,hld];exact⟨k05,o5⟩
 ·rw[if_neg hxy]at hsum;refine Zc (t:=false) (by simp[hxy]) ?_;apply Zj;subst hb1;obtain⟨vc,Hc,cc,ec,ec'⟩:=Gn p1.sl p2.sl (Xt Zz A) (Xt Zz B) (Nat.le_trans lA (by decide)) (Nat.le_trans lB (by decide));rw[Qh Zz,Qh Zz]at ec';rw[ec,ec']at cc;have gc:Zd .lss .i64 (Uj A B) 0=some (.bool (decide (A<B))):=by rw[lss0,decide_eq_decide.mpr cmpN_lt]
  refine Qu (fun s'=>s'.k=57∧ ∃(x':Bool) (A' B':Nat) (w w':Value) (y':Value),Z=(x',A'-B')∧B'≤A'∧A'≤A+B∧F.n=s'.H.n∧Keep H s'.H∧s'.H.blk H.n= .rw 1 [.bool x',w]∧s'.H.blk (H.n+1)= .rw 1 [y',w']∧s'.H.blk (H.n+2)= .rw 1 [.bool false,.slice none 0 0]∧Own H2.n s'.H w (ds B64 A')∧Own H2.n s'.H w' (ds B64 B')∧s'.tm.get 2=some (.pointer (some ⟨H.n,0,none⟩))∧s'.tm.get 3=some (.pointer (some ⟨H.n+1,0,none⟩))∧s'.tm.get 4=some (.pointer (some ⟨H.n+2,0,none⟩))) ?_ ?_
  ·intro Q' hQ';apply Zb;intro b2 hb2;apply Za;simp[Fg,Kt f1,Kt fb2,cc,gc];subst hb2;by_cases hAB:A<B
   ·rw[if_pos hAB]at hsum;obtain⟨H3,st3,n3,g1,b3,ka3⟩:=putW (p:= .bool y) (q:=w2) f1 rfl i3 rfl i4;have g2:H3.blk (H.n+1)= .rw 1 [.bool y,w2]:=by rw[b3 _ (by omega)];exact fb2
    obtain⟨H4,st4,n4,g4,b4,ka4⟩:=putW (p:= .bool x) (q:=w1) g2 rfl i1 rfl i2;refine Zc (t:=true) (by simp[hAB]) ?_;apply Za;simp[Eo f1,Eo fb2,st3,st4];apply hQ';refine⟨rfl,y,B,A,w2,w1,_,hsum,by omega,by omega,by show F.n=H4.n;omega,ka4 H (ka3 H kF (by omega)) (by omega),?_,g4,?_,?_,?_,by simp,by simp,by simp⟩;·show H4.blk H.n=_;rw[b4 _ (by omega)];exact g1
    ·show H4.blk (H.n+2)=_;rw[b4 _ (by omega),b3 _ (by omega)];exact f3
    ·exact(p2.off (b:=H.n) (by omega) n3 b3).off (b:=H.n+1) (by omega) n4 b4
    ·exact(p1.off (b:=H.n) (by omega) n3 b3).off (b:=H.n+1) (by omega) n4 b4
   ·rw[if_neg hAB]at hsum;refine Zc (t:=false) (by simp[hAB]) ?_;apply Zj;apply hQ';exact⟨rfl,x,A,B,w1,w2,_,hsum,by omega,by omega,rfl,kF,f1,fb2,f3,p1,p2,by simp,by simp,by simp⟩
  clear p1 p2 f1 fb2 f3 cc gc hsum;rintro⟨kk,tm,F'⟩ ⟨hkk,x',A',B',w,w',y',hZ',hle,hlA,hnF,kF',f1,f2,f3,p1,p2,t2,t3,t4⟩;simp only at hkk hnF kF' f1 f2 f3 p1 p2 t2 t3 t4;subst hkk;subst hZ';have hbA':Zf A'≤67108864:=Nat.le_trans (Yh hlA) h;have hbB':Zf B'≤67108864:=Nat.le_trans (Yh hle) hbA';have hbD:Zf (A'-B')≤67108864:=Nat.le_trans (Yh (Nat.sub_le _ _)) hbA';obtain⟨w5,H3,c3,k3,o3⟩:=Zm9 p1.sl p2.sl (Zi hbA') (Zi hbB') hle hbA';obtain⟨z,H4,c4,k4,o4⟩:=An x' o3.sl (Xt Zz _) (Nat.le_trans (Zi hbD) (by decide)) (by rw[Qh Zz];exact hbD);rw[Qh Zz]at c4 o4;have g1:H3.blk H.n= .rw 1 [.bool x',w]:=by rw[k3.blk _ (by omega)];exact f1
  have g3:H4.blk (H.n+2)= .rw 1 [.bool false,.slice none 0 0]:=by rw[(k3.trans k4).blk _ (by omega)];exact f3
  obtain⟨j1,j2⟩:=o4.cells1;obtain⟨S,hS⟩: ∃S,S=sg x' (A'-B'):=⟨_,rfl⟩;rw[←hS]at c4;obtain⟨H5,st5,n5,q5,b5,ka5⟩:=putW (p:= .bool S) (q:=z) g3 rfl j1 rfl j2;have n3:=k3.n;have k05:Keep H H5:=ka5 H ((kF'.trans k3).trans k4) (by omega);have o5:=(o4.off (b:=H.n+2) (by omega) n5 b5).mono (show H.n≤H3.n by omega) (.refl _);have hld:=Eo q5;apply Zb;intro b1 hb1;apply Za;simp[t2,t3,Fg,Kt f1,Kt f2,c3];subst hb1;apply Zb;intro b1 hb1;apply Za;simp[t2,t4,Kw,Ej g1,c4,st5];subst hb1;apply Zn;simp[t4,hld,hS];exact⟨k05,o5⟩
end
end
theorem aRatio:Jh Tryz.prog 34=some true:=by kernel_rfl
theorem Un:Qp Tryz.prog 34=some 3:=by kernel_rfl
theorem Jv:Uy Tryz.prog 34=some (.agg #[.bool false,.slice none 0 0,.slice none 0 0]):=by kernel_rfl
theorem Dp(b:Nat):Xa Tryz.prog 34 (.pointer (some ⟨b,0,none⟩)) 0=some (.pointer (some ⟨b,0,none⟩)):=faN b 0
theorem faQ1(b:Nat):Xa Tryz.prog 34 (.pointer (some ⟨b,0,none⟩)) 1=some (.pointer (some ⟨b,2,none⟩)):=faD b 0
theorem Xp{H:AH}{b:Nat}{p q r:Value}(hb:H.blk b= .rw 1 [p,q,r]):Yr Tryz.prog H 34 (.pointer (some ⟨b,0,none⟩))=some (.agg #[p,q,r]):=by unfold Yr;simp only[aRatio,Un,AH.read_def,hb];simp[AH.cells_rw' hb,show Nat.ble 3 3=true from rfl]
theorem loadQW{H:AH}{b:Nat}{p q r:Value}(hb:H.blk b= .rw 1 [p,q,r]):Yr Tryz.prog H 32 (.pointer (some ⟨b,0,none⟩))=some (.agg #[p,q]):=by unfold Yr;simp only[aWhole,sWhole,AH.read_def,hb];simp[AH.cells_rw' hb,show Nat.ble 2 3=true from rfl]
theorem Zb2{H:AH}{b:Nat}{p q r:Value}(hb:H.blk b= .rw 1 [p,q,r]):Yr Tryz.prog H 4 (.pointer (some ⟨b,0,none⟩))=some p:=Yt aBool (AH.cells_rw' hb (by decide)) rfl
theorem Uw{H:AH}{b:Nat}{p q r:Value}(hb:H.blk b= .rw 1 [p,q,r]):Yr Tryz.prog H 30 (.pointer (some ⟨b,1,none⟩))=some q:=Yt aNat (AH.cells_rw' hb (by decide)) rfl
theorem Kc{H:AH}{b:Nat}{p q r:Value}(hb:H.blk b= .rw 1 [p,q,r]):Yr Tryz.prog H 30 (.pointer (some ⟨b,2,none⟩))=some r:=Yt aNat (AH.cells_rw' hb (by decide)) rfl
theorem gcd_le_l{A B:Nat}(hA:0<A):Nat.gcd A B≤A:=Nat.le_of_dvd hA (Nat.gcd_dvd_left A B)
section
attribute [-simp] Int.natCast_add Int.natCast_mul Int.natCast_ediv Int.natCast_emod Int.natCast_pow
attribute [local simp] strip Yf LW' LR gW Yk Xd Ya Xe Yo Xf Zr Zs Zg Yp Yy Yl Xl Zv Yq Zh Ze Xk Xj Qy Yg Yz opd Xz Ym plain Yi Tr.get_set Xx Zp Xu Yd sameKind undef Zt Ys Yw Zl Yc parts unV DW Xo Zy LX Zw
section
variable {H : AH} {u v va vb : Value} {xs ys : List Nat} {A B : Nat}
theorem Jt(u:Value)(H:AH):Zq Tryz.prog Zo 140 [u,.int .i64 0] H=some (u,H):=by
 suffices h:CW Tryz.prog Zo 140 [u,.int .i64 0] H fun v H'=>v=u∧H'=H by obtain⟨v,H',hc,rfl,rfl⟩:=h;exact hc
 refine Zk 11 (by decide) (by decide) Tryz.func140 rfl rfl ?_;apply Zb;intro b1 hb1;apply Za;simp;subst hb1;apply Zb;intro b1 hb1;apply Zb;intro b2 hb2;apply Za;simp[Ep];subst hb2;refine Zc (t:=false) (by simp) ?_;apply Zj;subst hb1;apply Zb;intro b1 hb1;apply Za;simp;subst hb1;apply Zn;simp
theorem parts_callA(neg:Bool)(ha:Sl H u xs)(hb:Sl H v ys)(dx:Dig B64 xs)(dy:Dig B64 ys)(lx:xs.length≤17592186044416)(ly:ys.length≤17592186044416)(eA:dv B64 xs=A)(eB:dv B64 ys=B)(hA:Zf A≤67108864)(hB:Zf B≤67108864)(hB0:0<B): ∃p q H',Zq Tryz.prog Zo 124 [.agg #[.bool neg,u,v]] H=some (.tuple #[.bool (Yn neg A B).1,p,q],H')∧Keep H H'∧Own H.n H' p (ds B64 (Yn neg A B).2.1)∧Own H.n H' q (ds B64 (Yn neg A B).2.2)∧Kr p q:=by
 obtain⟨r,hr⟩: ∃r,r=Yn neg A B:=⟨_,rfl⟩;rw[←hr];unfold Yn at hr;suffices hs:CW Tryz.prog Zo 124 [.agg #[.bool neg,u,v]] H fun v H'=> ∃p q,v= .tuple #[.bool r.1,p,q]∧Keep H H'∧Own H.n H' p (ds B64 r.2.1)∧Own H.n H' q (ds B64 r.2.2)∧Kr p q by obtain⟨v,H',hc,p,q,rfl,k,o⟩:=hs;exact⟨p,q,H',hc,k,o⟩
 have lA:=Zi hA;have lB:=Zi hB;obtain⟨H2,e2,k2,n2,q1⟩:=Vr H [.bool neg,u,v];obtain⟨w1,E1,c1,kE1,o1⟩:=Uu ((ha.keep k2).top) dx lx;rw[eA]at o1;obtain⟨G1,hG1⟩: ∃G1,G1=grown H2 E1:=⟨_,rfl⟩;have kG1:Keep H2 G1:=by rw[hG1];exact Zu (.refl H2) kE1
 have o1':Own H2.n G1 w1 (ds B64 A):=by rw[hG1];exact o1.same (Yj kE1)
 have nE1:H2.n≤E1.n:=kE1.n;obtain⟨w2,E2,c2,kE2,o2⟩:=Uu ((hb.keep (k2.trans kG1)).top) dy ly;rw[eB]at o2;obtain⟨G2,hG2⟩: ∃G2,G2=grown G1 E2:=⟨_,rfl⟩;have kG2:Keep G1 G2:=by rw[hG2];exact Zu (.refl G1) kE2
 have o2':Own G1.n G2 w2 (ds B64 B):=by rw[hG2];exact o2.same (Yj kE2)
 have nE2:G1.n≤E2.n:=kE2.n;have kH2:=kG1.trans kG2;have ng:=kH2.n;have ng1:=kG1.n;have o1'':=o1'.mono (Nat.le_refl _) kG2;have o2'':=o2'.mono ng1 (.refl _);have l2: ∀bits ms,(∀x∈ms,H2.n≤x.2.1)→Yr Tryz.prog (vis G1 bits ms) 30 (.pointer (some ⟨H.n,2,none⟩))=some v:=fun bits ms h=>Kc (by rw[(Qt kG1 h).blk _ (by omega)];exact q1);have q1':G2.blk H.n= .rw 1 [.bool neg,u,v]:=by rw[kH2.blk _ (by omega)];exact q1
 have kF:=k2.trans kH2;refine Zk 42 (by decide) (by decide) Tryz.func124 rfl rfl ?_;apply Zb;intro b1 hb1;apply Za;simp[Value.cells,Jw,e2];subst hb1;apply Zb;intro b1 hb1;apply Qm (by kernel_rfl);simp[Dp,Fg];refine Ye (v:=u) rfl rfl rfl (by rw[Zm rfl];simp[Uw (H:=H2.top) q1]) ?_;simp;refine Yv (v:=w1) (H2:=E1) rfl rfl rfl (by rw[Zm rfl];simp[c1]) nE1 (Yx kE1) ?_;rw[←hG1];generalize hms:cond (Nat.blt H2.n E1.n) _ _=ms;have hms1:=Fi hms;simp[faQ1];refine Ye (v:=v) rfl rfl rfl (by simp[l2 _ ms fun x hx=>(hms1 x hx).2]) ?_;simp;refine Yv (v:=w2) (H2:=E2) rfl rfl rfl ?_ nE2 (Yx kE2) ?_;·rw[Zm (Xc fun x hx=>by rw[(hms1 x hx).1];kernel_rfl)];simp[c2]
 rw[←hG2];simp;subst hb1;clear hms hms1;have l1:=o1''.sl.len Zl;have l2':=o2''.sl.len Zl;obtain⟨m1,hm1⟩: ∃m,m=(ds B64 A).length:=⟨_,rfl⟩;obtain⟨m2,hm2⟩: ∃m,m=(ds B64 B).length:=⟨_,rfl⟩;rw[←hm1]at l1;rw[←hm2]at l2';have z1:m1=0↔A=0:=by rw[hm1];exact Uc Zz
 have z2:m2=0↔B=0:=by rw[hm2];exact Uc Zz
 have g1:=Vu (k:= .i64) (x:=m1);have g2:Zd .eql .i64 (m2:Int) 0=some (.bool false):=by rw[Vu,decide_eq_false (by omega)]
 apply Zb;intro b1 hb1;apply Zb;intro b2 hb2;apply Za;simp[l2',g2];subst hb2;refine Zc (t:=false) (by simp) ?_;apply Zj;subst hb1;apply Zb;intro b1 hb1;apply Zb;intro b2 hb2;apply Za;simp[l1,g1];subst hb2;by_cases h0:m1=0;·rw[if_pos (z1.mp h0)]at hr;subst hr;obtain⟨w3,H3,c3,k3,o3⟩:=Fh (H:=G2) (x:=1) (by decide);have c3:Zq Tryz.prog Zo 164 [.int .u64 1] G2=some (w3,H3):=c3;refine Zc (t:=true) (by simp[h0]) ?_;apply Zb;intro b2 hb2;apply Za;simp[c3];subst hb2;apply Zn;simp[Xr];exact⟨_,_,⟨rfl,rfl⟩,kF.trans k3,by rw[Jy];exact .nil,o3.mono kF.n (.refl _),fun b hb=>by cases hb⟩
 ·have hA0:0<A:=by have: ¬A=0:=fun h=>h0 (z1.mpr h);omega
  rw[if_neg (by omega)]at hr;subst hr;refine Zc (t:=false) (by simp[h0]) ?_;apply Zj;subst hb1;obtain⟨w3,H3,c3,k3,o3⟩:=Za9 o1''.sl o2''.sl lA lB;have hg0:0<Nat.gcd A B:=gcd_pos hA0;have hgA:=gcd_le_l (B:=B) hA0;have lg:=Zi (Nat.le_trans (Yh hgA) hA);apply Zb;intro b1 hb1;apply Za;simp[c3];subst hb1;obtain⟨w4,E4,c4,kE4,o4⟩:=Kf ((o1''.sl.keep k3).top) (o3.sl.top) lA lg hg0 hA;obtain⟨G4,hG4⟩: ∃G4,G4=grown H3 E4:=⟨_,rfl⟩;have kG4:Keep H3 G4:=by rw[hG4];exact Zu (.refl H3) kE4
  have o4':Own H3.n G4 w4 (ds B64 (A/Nat.gcd A B)):=by rw[hG4];exact o4.same (Yj kE4)
  have nE4:H3.n≤E4.n:=kE4.n;obtain⟨w5,E5,c5,kE5,o5⟩:=Kf (((o2''.sl.keep k3).keep kG4).top) ((o3.sl.keep kG4).top) lB lg hg0 hB;obtain⟨G5,hG5⟩: ∃G5,G5=grown G4 E5:=⟨_,rfl⟩;have kG5:Keep G4 G5:=by rw[hG5];exact Zu (.refl G4) kE5
  have o5':Own G4.n G5 w5 (ds B64 (B/Nat.gcd A B)):=by rw[hG5];exact o5.same (Yj kE5)
  have nE5:G4.n≤E5.n:=kE5.n;have r1:H3.blk H.n= .rw 1 [.bool neg,u,v]:=by rw[k3.blk _ (by omega)];exact q1'
  have k35:=kG4.trans kG5;apply Zb;intro b1 hb1;apply Qm (by kernel_rfl);simp[Dp,Kw];refine Ye (v:= .bool neg) rfl rfl rfl (by rw[Zm rfl];simp[Zb2 (H:=H3.top) r1]) ?_;simp;refine Yv (v:= .tuple #[w4,.int .i64 0]) (H2:=E4) rfl rfl rfl (by rw[Zm rfl];simp[c4]) nE4 (Yx kE4) ?_;rw[←hG4];generalize hms:cond (Nat.blt H3.n E4.n) _ _=ms;have hms1:=Fi hms;simp;refine Ye (v:=w4) rfl rfl rfl (by simp[Jt]) ?_;simp;refine Yv (v:= .tuple #[w5,.int .i64 0]) (H2:=E5) rfl rfl rfl ?_ nE5 (Yx kE5) ?_;·rw[Zm (Xc fun x hx=>by rw[(hms1 x hx).1];kernel_rfl)];simp[c5]
  rw[←hG5];simp;refine Ye (v:=w5) rfl rfl rfl (by simp[Jt]) ?_;simp;subst hb1;apply Zn;simp;exact⟨_,_,⟨rfl,rfl⟩,(kF.trans k3).trans k35,(o4'.mono (by have:=k3.n;omega) kG5),o5'.mono (by have:=k3.n;have:=kG4.n;omega) (.refl _),fun b hb e=>by have h1:=(o4'.blk_lo hb).2;have h2:=(o5'.blk_lo e).1;omega⟩
end
end
theorem Ax{x:Bool}{p q:Value}(hp: ∃a l c,p= .slice a l c)(hq: ∃a l c,q= .slice a l c):Ui Tryz.prog 34 [(0,.agg #[.bool x,p]),(1,q)]=some (.agg #[.bool x,p,q]):=by obtain⟨a,l,c,rfl⟩:=hp;obtain⟨a',l',c',rfl⟩:=hq;rfl
theorem Du{H:AH}{b:Nat}{p' q' r' p q r:Value}(hb:H.blk b= .rw 1 [p',q',r'])(h0:p.cells=#[p])(h1:q.cells=#[q])(h1':r.cells=#[r])(h2:one p=true)(h3:one q=true)(h3':one r=true): ∃H',Xm Tryz.prog H 34 (.pointer (some ⟨b,0,none⟩)) (.agg #[p,q,r])=some H'∧H'.n=H.n∧H'.blk b= .rw 1 [p,q,r]∧(∀j,j≠b→H'.blk j=H.blk j)∧KAt b H H':=Ek Un hb rfl (by simp[Value.cells]) rfl (by simp[h2,h3,h3'])
theorem Own.trio{n:Nat}{H:AH}{v:Value}{xs:List Nat}(h:Own n H v xs):v.cells=#[v]∧one v=true∧ ∃a l c,v= .slice a l c:=⟨h.cells1.1,h.cells1.2,h.shape⟩
theorem sErr:Qp Tryz.prog 23=some 1:=by kernel_rfl
theorem aErr:Jh Tryz.prog 23=some false:=by kernel_rfl
theorem zErr:Uy Tryz.prog 23=some (.int .i64 0):=by kernel_rfl
theorem nilEq:Xu Tryz.prog .eql 20 .nilIface .nilIface=some (.bool true):=by kernel_rfl
section
attribute [-simp] Int.natCast_add Int.natCast_mul Int.natCast_ediv Int.natCast_emod Int.natCast_pow
attribute [local simp] strip Yf LW' LR gW Yk Xd Ya Xe Yo Xf Zr Zs Zg Yp Yy Yl Xl Zv Yq Zh Ze Xk Xj Qy Yg Yz opd Xz Ym plain Yi Tr.get_set Xx Zp Xu Yd sameKind undef Zt Ys Yw Zl Yc parts unV DW Xo Zy LX Zw
section
variable {H : AH} {u v va vb : Value} {xs ys : List Nat} {A B : Nat}
theorem Zn7(neg:Bool)(ha:Sl H u xs)(hb:Sl H v ys)(dx:Dig B64 xs)(dy:Dig B64 ys)(lx:xs.length≤17592186044416)(ly:ys.length≤17592186044416)(eA:dv B64 xs=A)(eB:dv B64 ys=B)(hA:Zf A≤67108864)(hB:Zf B≤67108864)(hB0:0<B): ∃p q H',Zq Tryz.prog Zo 84 [.agg #[.bool neg,u,v]] H=some (.agg #[.bool (Yn neg A B).1,p,q],H')∧Keep H H'∧Own H.n H' p (ds B64 (Yn neg A B).2.1)∧Own H.n H' q (ds B64 (Yn neg A B).2.2)∧Kr p q:=by
 obtain⟨r,hr⟩: ∃r,r=Yn neg A B:=⟨_,rfl⟩;suffices hs:CW Tryz.prog Zo 84 [.agg #[.bool neg,u,v]] H fun v H'=> ∃p q,v= .agg #[.bool r.1,p,q]∧Keep H H'∧Own H.n H' p (ds B64 r.2.1)∧Own H.n H' q (ds B64 r.2.2)∧Kr p q by obtain⟨v,H',hc,p,q,rfl,k,o⟩:=hs;rw[←hr];exact⟨p,q,H',hc,k,o⟩
 obtain⟨H2,e2,k2,n2,q1,q2⟩:=Qv H [.bool neg,u,v] [.bool false,.slice none 0 0,.slice none 0 0];obtain⟨p,q,H3,c3,k3,o3,o4,ap⟩:=parts_callA neg (ha.keep k2) (hb.keep k2) dx dy lx ly eA eB hA hB hB0;rw[←hr]at c3 o3 o4;have q2':=k3.blk _ (show H.n+1<H2.n by omega);rw[q2]at q2';obtain⟨i1,i2,i3⟩:=o3.trio;obtain⟨j1,j2,j3⟩:=o4.trio;obtain⟨S,N,D⟩:=r;simp only at c3 o3 o4⊢;obtain⟨H4,st4,n4,q4,b4,ka4⟩:=Du (p:= .bool S) (q:=p) (r:=q) q2' rfl i1 j1 rfl i2 j2;have k04:Keep H H4:=ka4 H (k2.trans k3) (by omega);have o5:=(o3.off (b:=H.n+1) (by omega) n4 b4).mono (show H.n≤H2.n by omega) (.refl _);have o6:=(o4.off (b:=H.n+1) (by omega) n4 b4).mono (show H.n≤H2.n by omega) (.refl _);have hld:=Xp q4;refine Zk 17 (by decide) (by decide) Tryz.func84 rfl rfl ?_;apply Zb;intro b1 hb1;apply Za;simp[Value.cells,Jv,Jw,e2];subst hb1;apply Zb;intro b1 hb1;apply Za;simp[Xp q1,c3];subst hb1;apply Zb;intro b1 hb1;apply Za;simp[Ay (b:=S) i3,Ax (x:=S) i3 j3,st4];subst hb1;apply Zn;simp[hld];exact⟨_,_,⟨rfl,rfl⟩,k04,o5,o6,ap⟩
theorem Zn8(neg:Bool)(ha:Sl H u xs)(hb:Sl H v ys)(dx:Dig B64 xs)(dy:Dig B64 ys)(lx:xs.length≤17592186044416)(ly:ys.length≤17592186044416)(eA:dv B64 xs=A)(eB:dv B64 ys=B)(hA:Zf A≤67108864)(hB:Zf B≤67108864)(hB0:0<B): ∃p q H',Zq Tryz.prog Zo 84 [.agg #[.bool neg,u,v]] H=some (.agg #[.bool (Yn neg A B).1,p,q],H')∧Keep H H'∧Own H.n H' p (ds B64 (Yn neg A B).2.1)∧Own H.n H' q (ds B64 (Yn neg A B).2.2):=by obtain⟨p,q,H',h1,h2,h3,h4,_⟩:=Zn7 neg ha hb dx dy lx ly eA eB hA hB hB0;exact⟨p,q,H',h1,h2,h3,h4⟩
theorem Zg5(neg:Bool)(ha:Sl H u (ds B64 A))(hb:Sl H v (ds B64 B))(hA:Zf A≤67108864)(hB:Zf B≤67108864)(hB0:0<B): ∃p q H',Zq Tryz.prog Zo 84 [.agg #[.bool neg,u,v]] H=some (.agg #[.bool (Yn neg A B).1,p,q],H')∧Keep H H'∧Own H.n H' p (ds B64 (Yn neg A B).2.1)∧Own H.n H' q (ds B64 (Yn neg A B).2.2):=Zn8 neg ha hb (Xt Zz A) (Xt Zz B) (Nat.le_trans (Zi hA) (by decide)) (Nat.le_trans (Zi hB) (by decide)) (Qh Zz A) (Qh Zz B) hA hB hB0
def Fv(p q r:Value):Prop:=(∃b,p= .bool b)∧(∃a l c,q= .slice a l c)∧ ∃a l c,r= .slice a l c
theorem Vn{p q r:Value}(ht:Fv p q r)(e:Int)(H:AH): ∃H',Zq Tryz.prog Zo 83 [.nilIface,.agg #[p,q,r],.int .i64 e] H=some (.tuple #[.agg #[p,q,r],.int .i64 e],H')∧Keep H H':=by
 obtain⟨⟨b,rfl⟩,⟨a1,l1,c1,rfl⟩,⟨a2,l2,c2,rfl⟩⟩:=ht;suffices h:CW Tryz.prog Zo 83 [.nilIface,.agg #[.bool b,.slice a1 l1 c1,.slice a2 l2 c2],.int .i64 e] H fun v H'=>v= .tuple #[.agg #[.bool b,.slice a1 l1 c1,.slice a2 l2 c2],.int .i64 e]∧Keep H H' by obtain⟨v,H',hc,rfl,k⟩:=h;exact⟨H',hc,k⟩
 obtain⟨H2,e2,k2,n2,q1,q2⟩:=Qv H [.bool b,.slice a1 l1 c1,.slice a2 l2 c2] [.bool false,.slice none 0 0,.slice none 0 0];obtain⟨H4,st4,n4,q4,b4,ka4⟩:=Du (p:= .bool b) (q:= .slice a1 l1 c1) (r:= .slice a2 l2 c2) q2 rfl rfl rfl rfl rfl rfl;have k04:Keep H H4:=ka4 H k2 (by omega);have hld:=Xp q4;refine Zk 26 (by decide) (by decide) Tryz.func83 rfl rfl ?_;apply Zb;intro b1 hb1;apply Za;simp[Value.cells,Jv,Jw,e2];subst hb1;apply Zb;intro b1 hb1;apply Zb;intro b2 hb2;apply Za;simp[-Xu,nilEq];subst hb2;refine Zc (t:=true) (by simp) ?_;apply Zb;intro b2 hb2;apply Za;simp[Xp q1,st4];subst hb2;apply Zn;simp[Xr,hld];exact k04
end
section
variable {H : AH} {u v va vb : Value} {xs ys : List Nat} {A B : Nat}
def Es(m:Nat)(H H':AH):Prop:=H.n≤H'.n∧(∀j,j<H.n→H'.blk j=H.blk j)∧KAt m H H'
theorem norm1_cwd{b2 b3:Nat}{p q r:Value}{e:Int}{K:AH→Prop}(ht:Fv p q r)(hq:H.blk b2= .rw 1 [p,q,r])(he:H.blk b3= .rw 1 [.int .i64 e])(h2:b2<H.n)(h3:b3<H.n)(hlt:b2<b3)(hK: ∀H',Es b2 H H'→K H'):CWD Tryz.prog Zo 82 [.pointer (some ⟨b2,0,none⟩),.pointer (some ⟨b3,0,none⟩)] .nilIface H K:=by
 obtain⟨E1,c1,kE1⟩:=Vn ht e H.top;obtain⟨G1,hG1⟩: ∃G1,G1=grown H E1:=⟨_,rfl⟩;have kG1:Keep H G1:=by rw[hG1];exact Zu (.refl H) kE1
 have nE1:H.n≤E1.n:=kE1.n;have nG1:=kG1.n;have r2:G1.blk b2= .rw 1 [p,q,r]:=by rw[kG1.blk _ h2];exact hq
 have r3:G1.blk b3= .rw 1 [.int .i64 e]:=by rw[kG1.blk _ h3];exact he
 have hcells:(Value.agg #[p,q,r]).cells.toList=[p,q,r]∧[p,q,r].all one=true:=by obtain⟨⟨b,rfl⟩,⟨a1,l1,c1,rfl⟩,⟨a2,l2,c2,rfl⟩⟩:=ht;exact⟨rfl,rfl⟩
 obtain⟨S1,st1,sn1,slw1,fn1,fb1,fo1,fk1⟩:=Fk (v:= .agg #[p,q,r]) (ws:=[p,q,r]) Un r2 (by omega) rfl hcells.1 rfl hcells.2;obtain⟨F1,hF1⟩: ∃F1,F1=low G1 S1:=⟨_,rfl⟩;rw[←hF1]at fn1 fb1 fo1 fk1;have r3':F1.blk b3= .rw 1 [.int .i64 e]:=by rw[fo1 _ (by omega)];exact r3
 obtain⟨S2,st2,sn2,slw2,fn2,fb2,fo2,fk2⟩:=Fk (v:= .int .i64 e) (ws:=[.int .i64 e]) sErr r3' (by omega) rfl rfl rfl rfl;obtain⟨F,hF⟩: ∃F,F=low F1 S2:=⟨_,rfl⟩;rw[←hF]at fn2 fb2 fo2 fk2;have hS:Es b2 H F:=by
  refine⟨by omega,fun j hj=>?_,fun H0 k hn=>fk2 H0 (fk1 H0 (k.trans kG1) hn) (by omega)⟩;by_cases j3:j=b3;·subst j3;rw[fb2];exact he.symm
  ·rw[fo2 _ j3];by_cases j2:j=b2;·subst j2;rw[fb1];exact hq.symm
   ·rw[fo1 _ j2];exact kG1.blk _ hj
 have l1:=Xp (H:=H.top) hq;have l2:Yr Tryz.prog H.top 23 (.pointer (some ⟨b3,0,none⟩))=some (.int .i64 e):=Yt aErr (AH.cells_rw' (H:=H.top) he (by decide)) rfl;refine Vj 9 Tryz.func82 rfl rfl ?_;apply Vk (by kernel_rfl);apply Qm (by kernel_rfl);simp[Vh,isRec];refine Ye (v:= .agg #[p,q,r]) rfl rfl rfl (by rw[Zm rfl];simp[l1]) ?_;simp;refine Ye (v:= .int .i64 e) rfl rfl rfl (by rw[Zm rfl];simp[l2]) ?_;simp;refine Yv (v:= .tuple #[.agg #[p,q,r],.int .i64 e]) (H2:=E1) rfl rfl rfl (by rw[Zm rfl];simp[c1]) nE1 (Yx kE1) ?_;rw[←hG1];generalize hms:cond (Nat.blt H.n E1.n) _ _=ms;have hms1:=Fi hms;simp;refine Xg (v:= .tuple #[]) (H2:=S1) rfl rfl (by kernel_rfl) (Xc fun x hx=>by rw[(hms1 x hx).1];kernel_rfl) ?_ (by omega) slw1 ?_;·show Yk _ _ _ _ G1.top _=_;simp[st1]
 rw[show({ n:=S1.n,lw:=min G1.lw S1.lw,t:=S1.t } :AH)=F1 from hF1.symm];rw[show Nat.blt G1.n S1.n=false from by rw[sn1];exact Qg _,cond_false];simp;refine Xg (v:= .tuple #[]) (H2:=S2) rfl rfl (by kernel_rfl) (Xc fun x hx=>by rw[(hms1 x hx).1];kernel_rfl) ?_ (by omega) slw2 ?_;·show Yk _ _ _ _ F1.top _=_;simp[st2]
 rw[show({ n:=S2.n,lw:=min F1.lw S2.lw,t:=S2.t } :AH)=F from hF.symm];simp;exact hK F hS
end
end
theorem Vw(k:Nat){P:Program}{C:Cfg}{f:FuncId}{fn:Func}{c a:Code}{ops:Array Oper}{o1:Oper}{dc:Call}{rest:Code}{args:List Value}{H:AH}{R:Value→AH→Prop}(ha:Nat.beq f C.add=false)(hs:Nat.beq f C.sub=false)(hf:P.funcs[f]?=some fn)(hb:fn.body=some c)(hk:args.length+(fn.ntmps-args.length)=k)(hd:Bp c=some (a,ops,o1,dc,rest))(h: ∀b,b=rest→W P C a { k:=k,tm:=Xx 0 args .nil,H:=H } fun ex s=>ex= .norm∧LW' P C s.k (Yf ops [o1]) s.tm s.H fun tm2 H2=> ∃g dargs,Qo C tm2 dc=some (g,dargs)∧W P C b ⟨s.k,tm2,H2⟩ fun ex3 s3=> ∃rv,Kg ex3=some rv∧CWD P C g dargs rv s3.H fun H4=> ∃vs,Zt P ⟨s3.k,s3.tm,H4⟩ fn.results.toList=some vs∧R (Yw vs) H4):CW P C f args H R:=CW_defer k ha hs hf hb hk hd (h rest rfl)
theorem putE{H:AH}{b:Nat}{x e:Int}(hb:H.blk b= .rw 1 [.int .i64 x]): ∃H',Xm Tryz.prog H 23 (.pointer (some ⟨b,0,none⟩)) (.int .i64 e)=some H'∧H'.n=H.n∧H'.blk b= .rw 1 [.int .i64 e]∧(∀j,j≠b→H'.blk j=H.blk j)∧KAt b H H':=Ek sErr hb rfl rfl rfl rfl
theorem En{H:AH}{b:Nat}{e:Int}(hb:H.blk b= .rw 1 [.int .i64 e]):Yr Tryz.prog H 23 (.pointer (some ⟨b,0,none⟩))=some (.int .i64 e):=Yt aErr (AH.cells_rw' hb (by decide)) rfl
theorem Es.own{m n:Nat}{H H':AH}(h:Es m H H'){v:Value}{xs:List Nat}(o:Own n H v xs):Own n H' v xs:=o.mod (b:=none) ⟨h.1,fun j hj _=>h.2.1 j hj⟩ (fun c hc=>by cases hc)
theorem Es.keep{m:Nat}{H0 H H':AH}(h:Es m H H')(k:Keep H0 H)(hn:H0.n≤m):Keep H0 H':=h.2.2 H0 k hn
section
attribute [-simp] Int.natCast_add Int.natCast_mul Int.natCast_ediv Int.natCast_emod Int.natCast_pow
attribute [local simp] strip Yf LW' LR gW Yk Xd Ya Xe Yo Xf Zr Zs Zg Yp Yy Yl Xl Zv Yq Zh Ze Xk Xj Qy Yg Yz opd Xz Ym plain Yi Tr.get_set Xx Zp Xu Yd sameKind undef Zt Ys Yw Zl Yc parts unV DW Xo Zy LX Zw
attribute [local simp] Qc Qo
section
variable {H : AH} {u v va vb : Value} {xs ys : List Nat} {A B : Nat}
theorem El(neg:Bool)(ha:Sl H u xs)(hb:Sl H v ys)(dx:Dig B64 xs)(dy:Dig B64 ys)(lx:xs.length≤17592186044416)(ly:ys.length≤17592186044416)(eA:dv B64 xs=A)(eB:dv B64 ys=B)(hA:Zf A≤67108864)(hB:Zf B≤67108864)(hB0:0<B): ∃p q H',Zq Tryz.prog Zo 53 [.agg #[.bool neg,u,v]] H=some (.tuple #[.agg #[.bool (Yn neg A B).1,p,q],.int .i64 0],H')∧Keep H H'∧Own H.n H' p (ds B64 (Yn neg A B).2.1)∧Own H.n H' q (ds B64 (Yn neg A B).2.2):=by
 obtain⟨r,hr⟩: ∃r,r=Yn neg A B:=⟨_,rfl⟩;suffices hs:CW Tryz.prog Zo 53 [.agg #[.bool neg,u,v]] H fun v H'=> ∃p q,v= .tuple #[.agg #[.bool r.1,p,q],.int .i64 0]∧Keep H H'∧Own H.n H' p (ds B64 r.2.1)∧Own H.n H' q (ds B64 r.2.2) by obtain⟨v,H',hc,p,q,rfl,k,o⟩:=hs;rw[←hr];exact⟨p,q,H',hc,k,o⟩
 obtain⟨H2,e2,k2,n2,q1,q2,q3⟩:=Az H [.bool neg,u,v] [.bool false,.slice none 0 0,.slice none 0 0] [.int .i64 0];obtain⟨p,q,H3,c3,k3,o3,o4⟩:=Zn8 neg (ha.keep k2) (hb.keep k2) dx dy lx ly eA eB hA hB hB0;rw[←hr]at c3 o3 o4;have n3:=k3.n;have q2':=k3.blk _ (show H.n+1<H2.n by omega);rw[q2]at q2';have q3':=k3.blk _ (show H.n+2<H2.n by omega);rw[q3]at q3';obtain⟨i1,i2,i3⟩:=o3.trio;obtain⟨j1,j2,j3⟩:=o4.trio;obtain⟨S,N,D⟩:=r;simp only at c3 o3 o4⊢;obtain⟨H4,st4,n4,q4,b4,ka4⟩:=Du (p:= .bool S) (q:=p) (r:=q) q2' rfl i1 j1 rfl i2 j2;have q3'':H4.blk (H.n+2)= .rw 1 [.int .i64 0]:=by rw[b4 _ (by omega)];exact q3'
 obtain⟨H5,st5,n5,q5,b5,ka5⟩:=putE (e:=0) q3'';have q4':H5.blk (H.n+1)= .rw 1 [.bool S,p,q]:=by rw[b5 _ (by omega)];exact q4
 have k05:Keep H H5:=ka5 H (ka4 H (k2.trans k3) (by omega)) (by omega);have o5:=((o3.off (b:=H.n+1) (by omega) n4 b4).off (b:=H.n+2) (by omega) n5 b5).mono (show H.n≤H2.n by omega) (.refl _);have o6:=((o4.off (b:=H.n+1) (by omega) n4 b4).off (b:=H.n+2) (by omega) n5 b5).mono (show H.n≤H2.n by omega) (.refl _);refine Vw 7 (by decide) (by decide) Tryz.func53 rfl rfl rfl ?_;intro b1 hb1;apply Za;simp[Value.cells,Jv,zErr,Jw,e2];refine⟨_,_,⟨rfl,rfl⟩,?_⟩;subst hb1;apply Zb;intro b1 hb1;apply Za;simp[Xp q1,c3,st4,st5];subst hb1;apply Zn;simp[Kg];refine norm1_cwd ⟨⟨_,rfl⟩,i3,j3⟩ q4' q5 (by omega) (by omega) (by omega) fun H6 hS=>?_;have r4:H6.blk (H.n+1)= .rw 1 [.bool S,p,q]:=by rw[hS.2.1 _ (by omega)];exact q4'
 have r5:H6.blk (H.n+2)= .rw 1 [.int .i64 0]:=by rw[hS.2.1 _ (by omega)];exact q5
 simp[Xp r4,En r5];exact⟨_,_,⟨rfl,rfl⟩,hS.keep k05 (by omega),hS.own o5,hS.own o6⟩
end
end
end
end Go.Proofs.YtmkfecoeghokfaaGreatDoor
