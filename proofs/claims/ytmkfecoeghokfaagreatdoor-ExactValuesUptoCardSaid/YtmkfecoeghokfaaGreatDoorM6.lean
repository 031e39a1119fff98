/-
  The engine and the walks that the claim's last text leans on, part 6 of 9: Pf, Pg, Sa, Sb, Sc, Sd, Se, Sf, Sg, Sh, Si, Sj, Sk, Sl, Sm, Sn, So, Sp, Sq, Sr, Ss.
-/
import Derived.Test.YtmkfecoeghokfaaGreatDoorM5
namespace Go.Proofs.YtmkfecoeghokfaaGreatDoor
open Go Ev
set_option linter.unusedVariables false
set_option linter.unusedSimpArgs false
noncomputable section
set_option maxHeartbeats 2000000
set_option maxRecDepth 20000
section
attribute [-simp] Int.natCast_add Int.natCast_mul Int.natCast_ediv Int.natCast_emod Int.natCast_pow
attribute [local simp] strip ZR Xm LR gW Z2 Ye ZW Yf ZK Yg Zs Zt Zi ZJ Ya ZP ZA Zl ZI Zj Zf ZB ZC YV Zo Yd YE Yy ZL plain ZO Tr.get_set Yw Zp Ys ZT sameKind undef Zw ZH Z5 Zv Z1 Yl ZU parts Z3 XZ DW Yh Zz LX ZZ Zq ZD ZQ XM Yk Zn ZN ZV ZM
section
variable {H : AH} {va vb : Value} {xs ys : List Nat}
theorem ED(ha:Sl H va xs)(hb:Sl H vb ys)(dx:YG Zc xs)(dy:YG Zc ys)(lx:xs.length<=2*WU)(ly:ys.length<=2*WU):CW Tryz.prog Zy 167 [va,vb] H fun v H'=>Zg H H'/\Ov H.n (dv Zc xs+dv Zc ys) v H':=by
 have bk:WU=2000000000000:=rfl;refine Z8 61 Tryz.func167 ?_;obtain⟨v1,H1,c1,e1,s1⟩:=Vf ha (by omega);obtain⟨v2,H2,c2,e2,s2⟩:=Vf hb (by omega);rw[e1]at c1;rw[e2]at c2;rw[<-WX Zc xs,<-WX Zc ys];have dx:=XH dx;have dy:=XH dy;have lx:(YS xs).length<=2*WU:=Nat.le_trans (XG xs) lx;have ly:(YS ys).length<=2*WU:=Nat.le_trans (XG ys) ly;generalize YS xs=xs at*;generalize YS ys=ys at*;apply Zb;intro b1 Ze;simp;subst Ze;apply Zb;intro b1 Ze;simp[c1,c2];subst Ze;refine Y8 (fun s'=>s'.k=61/\s'.H=H/\ ∃(a b:Value) (xa xb:List Nat),Sl H a xa/\Sl H b xb/\YG Zc xa/\YG Zc xb/\xb.length<=xa.length/\xa.length<=2*WU/\dv Zc xa+dv Zc xb=dv Zc xs+dv Zc ys/\s'.tm.get 0=some a/\s'.tm.get 1=some b) ?_ ?_
 ·intro Q' Y4;have l1:=s1.len Zv;have l2:=s2.len Zv;apply Zb;intro b1 Ze;simp[l1,l2];subst Ze;by_cases h:xs.length<ys.length;·refine Za (t:=true) (by simp[h]) ?_;apply Zk;simp;apply Y4;exact⟨rfl,rfl,v2,v1,ys,xs,s2,s1,dy,dx,by omega,by omega,Nat.add_comm _ _,by simp,by simp⟩
  ·refine Za (t:=false) (by simp[h]) ?_;apply Zr;apply Y4;exact⟨rfl,rfl,v1,v2,xs,ys,s1,s2,dx,dy,by omega,by omega,rfl,by simp,by simp⟩
 clear ha hb s1 s2 dx dy c1 c2;rintro⟨k,tm,H0⟩ ⟨hk,hH,a,b,xa,xb,ha,hb,dx,dy,hba,kS,Qn,t0,t1⟩;simp only at hk hH t0 t1;subst hk;subst hH;rw[<-Qn];clear Qn lx ly;have l1:=ha.len Zv;have l2:=hb.len Zv;obtain⟨n,hn⟩:=hid (xa.length);rw[<-hn]at l1;obtain⟨c0,H3,RC,k3,o3,n3⟩:=YL (H:=H0) Zv (n:=n+1) (by omega);apply Zb;intro b1 Ze;simp[t0,l1,YR (x:=n) (by omega),RC];subst Ze;apply Zb;intro b1 Ze;simp;subst Ze;apply Zh;intro b1 Ze;apply Zb;intro b2 Zx;simp[t0,l1];subst Zx;apply ZS;refine YQ (fun m s'=>s'.k=61/\Zg H0 s'.H/\ ∃(i c:Nat) (L:List Nat),m+i=n/\L.length=i/\c<=1/\YG Zc L/\dv Zc L+Zc^i*c=dv Zc (xa.take i)+dv Zc (xb.take i)/\Ym H0.n s'.H c0 (L++List.replicate (m+1) 0)/\s'.tm.get 0=some a/\s'.tm.get 1=some b/\s'.tm.get 6=some c0/\s'.tm.get 7=some (.int .u64 (c:Int))/\s'.tm.get 26=some (.int .i64 (n:Int))/\s'.tm.get 27=some (.int .i64 (i:Int))) ?_ n _ ⟨rfl,k3,0,0,[],by omega,rfl,by omega,.nil _,by simp[dv],by simpa using o3,by simp[t0],by simp[t1],by simp,by simp,by simp,by simp⟩;clear t0 t1;rintro m ⟨k,tm,H4⟩ ⟨hk,kH,i,c,L,Kk,hL,hc,dL,heq,own,t0,t1,t6,t7,t26,t27⟩ Q' Y4;simp only at hk kH own t0 t1 t6 t7 t26 t27;subst hk;apply Zb;intro b3 Z9;simp[t26,t27];subst Z9;apply Zh;intro b3 Z9;by_cases hi:i<n
 ·refine Za (t:=true) (by simp[hi]) ?_;apply Zr;subst Z9;obtain⟨m',rfl⟩: ∃m',m=m'+1:=⟨m-1,by omega⟩;have UN:i<xa.length:=by omega
  have sa:=ha.keep kH;have sb:=hb.keep kH;obtain⟨y,hy⟩:=hid (nth xb i);have CF:y<Zc:=by rw[hy];exact V9 dy (by decide) _
  obtain⟨x,hx⟩:=hid (nth xa i);have Fu:x<Zc:=by rw[hx];exact V9 dx (by decide) _
  have a0:=sa.adr Zv (k:= .i64) UN;have d0:=sa.load UN;rw[<-XQ UN,<-hx]at d0;obtain⟨z,hz⟩:=hid ((x+y+c)%Zc);obtain⟨c',Mn⟩: ∃c',c'=(x+y+c)/Zc:=⟨_,rfl⟩;have hzc:Zc*c'+z=x+y+c:=by rw[hz,Mn];exact Nat.div_add_mod _ _
  have CE:z<Zc:=by rw[hz];exact Nat.mod_lt _ (by decide)
  have NR:c'<=1:=by
   have:c'<2:=by rw[Mn,Nat.div_lt_iff_lt_mul (by decide)];omega
   omega
  have ac:ZY Tryz.prog Zy 203 [.int .u64 (x:Int),.int .u64 (y:Int),.int .u64 (c:Int)] H4=some (.tuple #[.int .u64 (z:Int),.int .u64 (c':Int)],H4):=by rw[hz,Mn];exact Qa x y c H4 hc
  obtain⟨H5,Wo,Qw,pT,WH⟩:=own.fill hL z;have a3:=own.sl.adr Zv (k:= .i64) (i:=i) (by simp;omega);apply Zh;intro b3 Z9;apply ZS;apply Zb;intro b4 Yz;simp[t27];subst Yz;apply Zb;intro b4 Yz;simp;subst Yz;refine Y8 (fun s'=>s'.k=61/\s'.H=H4/\s'.tm.get 0=some a/\s'.tm.get 1=some b/\s'.tm.get 6=some c0/\s'.tm.get 7=some (.int .u64 (c:Int))/\s'.tm.get 8=some (.int .i64 (i:Int))/\s'.tm.get 9=some (.int .u64 (y:Int))/\s'.tm.get 26=some (.int .i64 (n:Int))/\s'.tm.get 27=some (.int .i64 (i:Int))) ?_ ?_
  ·intro Gd We;apply Zb;intro b4 Yz;simp[t1,l2];subst Yz;by_cases JA:i<xb.length;·refine Za (t:=true) (by simp[JA]) ?_;have a1:=sb.adr Zv (k:= .i64) JA;have d1:=sb.load JA;rw[<-XQ JA,<-hy]at d1;apply Zk;simp[t1,a1,d1];apply We;exact⟨rfl,rfl,by simp[t0],by simp[t1],by simp[t6],by simp[t7],by simp,by simp,by simp[t26],by simp[t27]⟩
   ·refine Za (t:=false) (by simp[JA]) ?_;apply Zr;apply We;rw[Vn (by omega)]at hy;subst hy;exact⟨rfl,rfl,by simp[t0],by simp[t1],by simp[t6],by simp[t7],by simp,by simp,by simp[t26],by simp[t27]⟩
  clear t0 t1 t6 t7 t26 t27;rintro⟨k,tm,H6⟩ ⟨hk,hH,t0,t1,t6,t7,t8,t9,t26,t27⟩;simp only at hk hH t0 t1 t6 t7 t8 t9 t26 t27;subst hk;subst hH;apply Zk;simp[t0,t6,t7,t8,t9,a0,d0,ac,a3,Wo];subst Z9;apply Zk;simp[t27,YR (x:=i) (by omega)];apply Y4;refine⟨m',by omega,rfl,WH H0 kH (Nat.le_refl _),i+1,c',L++[z],by omega,by simp[hL],NR,dL.append (.cons CE (.nil _)),?_,Qw,by simp[t0],by simp[t1],by simp[t6],by simp,by simp[t26],by simp⟩;rw[Yt,hL,XS,XS,<-hx,<-hy];simp only[dv,Nat.mul_zero,Nat.add_zero];have e1:Zc^i*(Zc*c'+z)=Zc^i*(x+y+c):=by rw[hzc]
  rw[Nat.mul_add,<-Nat.mul_assoc,show Zc^i*Zc=Zc^(i+1)from rfl,Nat.mul_add,Nat.mul_add]at e1;omega
 ·refine Za (t:=false) (by simp[hi]) ?_;apply YP;apply Y4;left;refine⟨rfl,?_⟩;obtain rfl:i=n:=by omega
  obtain rfl:m=0:=by omega
  rw[List.take_of_length_le (by omega),List.take_of_length_le (by omega)]at heq;have a3:=own.sl.adr Zv (k:= .i64) (i:=i) (by simp;omega);obtain⟨H5,Wo,Qw,pT,WH⟩:=own.fill hL c;rw[List.replicate_zero,List.append_nil]at Qw;have dLc:YG Zc (L++[c]):=dL.append (.cons (by show c<18446744073709551616;omega) (.nil _));have hval:dv Zc (L++[c])=dv Zc xa+dv Zc xb:=by rw[Yt,hL];simp only[dv,Nat.mul_zero,Nat.add_zero];exact heq
  obtain⟨v6,H6,c6,e6,h6⟩:=Of Qw dLc (by simp;omega);subst e6;rw[hval]at h6;have k5:Zg H0 H6:=WH H0 kH (Nat.le_refl _);have h7:Ov H0.n (dv Zc xa+dv Zc xb) v6 H6/\ ∃a b,v6= .tuple #[a,b]:=by
   rcases h6 with⟨h,rfl⟩|⟨h,u,rfl,o⟩;·exact⟨.inl ⟨h,rfl⟩,_,_,rfl⟩
   ·exact⟨.inr ⟨h,u,rfl,o⟩,_,_,rfl⟩
  obtain⟨h7,p,q,rfl⟩:=h7;subst Ze;apply Zb;intro b4 Yz;simp[t0,t6,t7,l1,a3,Wo];subst Yz;apply Zb;intro b4 Yz;simp[t6,c6];subst Yz;apply Zu;simp;exact⟨k5,h7⟩
end
theorem ml{A B:Nat}(hA:0<A):0<Nat.gcd A B:=Nat.gcd_pos_of_pos_left B hA
theorem Bi{x y o c:Nat}(hx:x<ZF)(hy:y<ZF)(ho:o<ZF)(hc:c<ZF):x*y<Zc/\x*y+o<Zc/\x*y+o+c<Zc/\(x*y+o+c)/4294967296<ZF/\(x*y+o+c)%4294967296+ZF*((x*y+o+c)/4294967296)=o+x*y+c:=by have hx:x<4294967296:=hx;have hy:y<4294967296:=hy;have ho:o<4294967296:=ho;have hc:c<4294967296:=hc;have hp:x*y<=4294967295*4294967295:=Nat.mul_le_mul (by omega) (by omega);show x*y<18446744073709551616/\x*y+o<18446744073709551616/\x*y+o+c<18446744073709551616/\(x*y+o+c)/4294967296<4294967296/\(x*y+o+c)%4294967296+4294967296*((x*y+o+c)/4294967296)=o+x*y+c;generalize x*y=p at*;omega
section
variable {H : AH} {va vb : Value}
theorem Ds{xs ys:List Nat}(ha:Sl H va xs)(hb:Sl H vb ys)(dx:YG ZF xs)(dy:YG ZF ys)(lx:xs.length<=8000000000000)(ly:ys.length<=8000000000000):CW Tryz.prog Zy 61 [va,vb] H fun v H'=>Zg H H'/\Ym H.n H' v (ds ZF (dv ZF xs*dv ZF ys)):=by
 refine Z8 65 Tryz.func61 ?_;have l1:=ha.len Z1;have l2:=hb.len Z1;obtain⟨la,kS⟩:=hid (xs.length);obtain⟨lb,AW⟩:=hid (ys.length);rw[<-kS]at l1;rw[<-AW]at l2;obtain⟨c0,H1,RC,k1,o1,n1⟩:=YL (H:=H) Z1 (n:=la+lb+1) (by omega);have ad:Zd .add .i64 (la:Int) (lb:Int)=some (.int .i64 ((la+lb:Nat):Int)):=WK (by omega);apply Zb;intro b1 Ze;simp;subst Ze;apply Zb;intro b1 Ze;simp[l1,l2,ad,YR (x:=la+lb) (by omega),RC];subst Ze;apply Zh;intro b1 Ze;apply Zb;intro b2 Zx;simp[l1];subst Zx;apply ZS;refine YQ (fun m s'=>s'.k=65/\Zg H s'.H/\ ∃(i:Nat) (O:List Nat),m+i=la/\O.length=la+lb+1/\YG ZF O/\(∀j,i+lb<=j->nth O j=0)/\dv ZF O=dv ZF (xs.take i)*dv ZF ys/\Ym H.n s'.H c0 O/\s'.tm.get 1=some vb/\s'.tm.get 5=some c0/\s'.tm.get 19=some va/\s'.tm.get 20=some (.int .i64 (la:Int))/\s'.tm.get 21=some (.int .i64 (i:Int))) ?_ la _ ⟨rfl,k1,0,List.replicate (la+lb+1) 0,by omega,by simp,Sr (by decide) _,fun j _=>by
  by_cases hj:j<(List.replicate (la+lb+1) 0).length;·rw[XQ hj];simp
  ·exact Vn (by omega),by simp[dv,UF],o1,by simp,by simp,by simp,by simp,by simp⟩;rintro m ⟨k,tm,H2⟩ ⟨hk,kH,i,O,Kk,hO,dO,hz,heq,own,t1,t5,t19,t20,t21⟩ Q' Y4;simp only at hk kH own t1 t5 t19 t20 t21;subst hk;apply Zb;intro b3 Z9;simp[t20,t21];subst Z9;apply Zh;intro b3 Z9;by_cases hi:i<la
 ·refine Za (t:=true) (by simp[hi]) ?_;apply Zr;subst Z9;have UN:i<xs.length:=by omega
  have sa:=ha.keep kH;have a1:=sa.adr Z1 (k:= .i64) UN;have d1:=sa.load UN;obtain⟨x,hx⟩:=hid (xs[i]);have Fu:x<ZF:=by rw[hx];exact dx.get (List.getElem?_eq_getElem UN)
  rw[<-hx]at d1;apply Zh;intro b3 Z9;apply ZS;apply Zb;intro b4 Yz;simp[t19,t21,a1,d1];subst Yz;apply Zb;intro b4 Yz;simp;subst Yz;refine Y8 (fun s'=>s'.k=65/\Zg H s'.H/\ ∃(c:Nat) (O2:List Nat),c<ZF/\O2.length=la+lb+1/\YG ZF O2/\(∀j,i+lb<=j->nth O2 j=0)/\dv ZF O2+ZF^(i+lb)*c=dv ZF O+ZF^i*(x*dv ZF ys)/\Ym H.n s'.H c0 O2/\s'.tm.get 1=some vb/\s'.tm.get 5=some c0/\s'.tm.get 6=some (.int .i64 (i:Int))/\s'.tm.get 8=some (.int .u64 (c:Int))/\s'.tm.get 19=some va/\s'.tm.get 20=some (.int .i64 (la:Int))/\s'.tm.get 21=some (.int .i64 (i:Int))) ?_ ?_
  ·intro Gd We;apply Zb;intro b4 Yz;simp[t1,l2];subst Yz;apply ZS;refine YQ (fun m s'=>s'.k=65/\Zg H s'.H/\ ∃(j c:Nat) (O2:List Nat),m+j=lb/\c<ZF/\O2.length=la+lb+1/\YG ZF O2/\(∀j,i+lb<=j->nth O2 j=0)/\dv ZF O2+ZF^(i+j)*c=dv ZF O+ZF^i*(x*dv ZF (ys.take j))/\Ym H.n s'.H c0 O2/\s'.tm.get 1=some vb/\s'.tm.get 5=some c0/\s'.tm.get 6=some (.int .i64 (i:Int))/\s'.tm.get 7=some (.int .u64 (x:Int))/\s'.tm.get 8=some (.int .u64 (c:Int))/\s'.tm.get 19=some va/\s'.tm.get 20=some (.int .i64 (la:Int))/\s'.tm.get 21=some (.int .i64 (i:Int))/\s'.tm.get 26=some vb/\s'.tm.get 27=some (.int .i64 (lb:Int))/\s'.tm.get 28=some (.int .i64 (j:Int))) ?_ lb _ ⟨rfl,kH,0,0,O,by omega,by decide,hO,dO,hz,by simp[dv],own,by simp[t1],by simp[t5],by simp,by simp,by simp,by simp[t19],by simp[t20],by simp[t21],by simp[t1],by simp,by simp⟩;clear t1 t5 t19 t20 t21;rintro m2 ⟨k,tm,H3⟩ ⟨hk,J8,j,c,O2,hmj,hc,mv,fq,EP,MP,Qv,t1,t5,t6,t7,t8,t19,t20,t21,t26,t27,t28⟩ Q5 mw;simp only at hk J8 Qv t1 t5 t6 t7 t8 t19 t20 t21 t26 t27 t28;subst hk;apply Zb;intro b5 SP;simp[t27,t28];subst SP;apply Zh;intro b5 SP;by_cases hj:j<lb
   ·refine Za (t:=true) (by simp[hj]) ?_;apply Zr;subst SP;have AX:j<ys.length:=by omega
    have sb3:=hb.keep J8;have a2:=sb3.adr Z1 (k:= .i64) AX;have d2:=sb3.load AX;obtain⟨y,hy⟩:=hid (ys[j]);have CF:y<ZF:=by rw[hy];exact dy.get (List.getElem?_eq_getElem AX)
    rw[<-hy]at d2;have Jj:i+j<O2.length:=by omega
    have a3:=Qv.sl.adr Z1 (k:= .i64) Jj;have d3:=Qv.sl.load Jj;obtain⟨o,ho⟩:=hid (O2[i+j]);have hoB:o<ZF:=by rw[ho];exact fq.get (List.getElem?_eq_getElem Jj)
    rw[<-ho]at d3;obtain⟨st0,SB,TK,TJ,Zak⟩:=Bi Fu CF hoB hc;have e1:Zd .mul .u64 (x:Int) (y:Int)=some (.int .u64 ((x*y:Nat):Int)):=by rw[Tu,Nat.mod_eq_of_lt st0]
    have e2:Zd .add .u64 ((x*y:Nat):Int) (o:Int)=some (.int .u64 ((x*y+o:Nat):Int)):=XD SB;have e3:Zd .add .u64 ((x*y+o:Nat):Int) (c:Int)=some (.int .u64 ((x*y+o+c:Nat):Int)):=XD TK;obtain⟨v,hv⟩:=hid (x*y+o+c);rw[<-hv]at e3 TK TJ Zak;have e6:Zd .add .i64 (i:Int) (j:Int)=some (.int .i64 ((i+j:Nat):Int)):=WK (by omega);obtain⟨H4,Wx,Vz,n4,ru,VX⟩:=Qv.put (i:=i+j) Jj (v%4294967296);apply Zh;intro b5 SP;apply ZS;apply Zb;intro b6 Px;simp[t26,t28,a2,d2];subst Px;apply Zb;intro b6 Px;simp[t5,t6,t7,t8,e6,a3,d3,e1,e2,e3];subst Px;apply Zb;intro b6 Px;simp[t5,t6,e6,a3,HQ,Wx];subst Px;apply Zk;simp[Dk TK];subst SP;apply Zk;simp[t28,YR (x:=j) (by omega)];apply mw;refine⟨m2-1,by omega,rfl,VX H J8 (Nat.le_refl _),j+1,v/4294967296,O2.set (i+j) (v%4294967296),by omega,TJ,by simp[mv],fq.set (Nat.mod_lt _ (by decide)),fun q hq=>by rw[Kq (by omega)];exact EP q hq,?_,Vz,by simp[t1],by simp[t5],by simp[t6],by simp[t7],by simp,by simp[t19],by simp[t20],by simp[t21],by simp[t26],by simp[t27],by simp⟩;have ds:=MY ZF O2 (i+j) (v%4294967296) Jj;rw[<-ho]at ds;rw[Xo AX,Yt,List.length_take,Nat.min_eq_left (by omega),<-hy];simp only[dv,Nat.mul_zero,Nat.add_zero];generalize v/4294967296=cc at*;generalize v%4294967296=o' at*;have f1:ZF^(i+j)*(o'+ZF*cc)=ZF^(i+j)*(o+x*y+c):=by rw[Zak]
    rw[Nat.mul_add,<-Nat.mul_assoc (ZF^(i+j)) ZF,show ZF^(i+j)*ZF=ZF^(i+(j+1))from rfl,Nat.mul_add,Nat.mul_add]at f1;have f2:ZF^i*(x*(dv ZF (ys.take j)+ZF^j*y))=ZF^i*(x*dv ZF (ys.take j))+ZF^(i+j)*(x*y):=by rw[Nat.mul_add x,Nat.mul_add (ZF^i),Nat.pow_add,Nat.mul_left_comm x (ZF^j) y,Nat.mul_assoc (ZF^i)]
    rw[f2];omega
   ·refine Za (t:=false) (by simp[hj]) ?_;apply YP;apply mw;left;obtain rfl:j=lb:=by omega
    rw[List.take_of_length_le (by omega)]at MP;exact⟨rfl,We _ ⟨rfl,J8,c,O2,hc,mv,fq,EP,MP,Qv,by simp[t1],by simp[t5],by simp[t6],by simp[t8],by simp[t19],by simp[t20],by simp[t21]⟩⟩
  clear t1 t5 t19 t20 t21;rintro⟨k,tm,H3⟩ ⟨hk,J8,c,O2,hc,mv,fq,EP,MP,Qv,t1,t5,t6,t8,t19,t20,t21⟩;simp only at hk J8 Qv t1 t5 t6 t8 t19 t20 t21;subst hk;have Jj:i+lb<O2.length:=by omega
  have a3:=Qv.sl.adr Z1 (k:= .i64) Jj;have e6:Zd .add .i64 (i:Int) (lb:Int)=some (.int .i64 ((i+lb:Nat):Int)):=WK (by omega);obtain⟨H4,Wx,Vz,n4,ru,VX⟩:=Qv.put (i:=i+lb) Jj c;apply Zk;simp[t1,t5,t6,t8,l2,e6,a3,Wx];subst Z9;apply Zk;simp[t21,YR (x:=i) (by omega)];apply Y4;refine⟨m-1,by omega,rfl,VX H J8 (Nat.le_refl _),i+1,O2.set (i+lb) c,by omega,by simp[mv],fq.set hc,fun q hq=>by rw[Kq (by omega)];exact EP q (by omega),?_,Vz,by simp[t1],by simp[t5],by simp[t19],by simp[t20],by simp⟩;have ds:=MY ZF O2 (i+lb) c Jj;have h0:=EP (i+lb) (Nat.le_refl _);rw[XQ Jj]at h0;rw[h0,Nat.mul_zero,Nat.add_zero]at ds;rw[ds,MP,heq,Xo UN,Yt,List.length_take,Nat.min_eq_left (by omega),<-hx,Nat.add_mul];simp only[dv,Nat.mul_zero,Nat.add_zero];rw[Nat.mul_assoc (ZF^i)]
 ·refine Za (t:=false) (by simp[hi]) ?_;apply YP;apply Y4;left;refine⟨rfl,?_⟩;obtain rfl:i=la:=by omega
  rw[List.take_of_length_le (by omega)]at heq;obtain⟨v5,H5,MR,e5,o5,_⟩:=Vi own (by omega);subst e5;rw[Xl two32 dO,heq]at o5;subst Ze;apply Zb;intro b4 Yz;simp[t5,MR];subst Yz;apply Zu;simp;exact⟨kH,o5⟩
theorem VA{A B:Nat} :(ds ZF (A*B)).length<=(ds ZF A).length+(ds ZF B).length:=by have h1:=F3 two32 A;have h2:=F3 two32 B;refine XB two32 ?_;rw[Nat.pow_add];exact Nat.mul_lt_mul'' h1 h2
theorem VH{A B:Nat}(ha:Sl H va (ds ZF A))(hb:Sl H vb (ds ZF B))(lA:(ds ZF A).length<=2*WU)(lB:(ds ZF B).length<=2*WU): ∃v H',ZY Tryz.prog Zy 61 [va,vb] H=some (v,H')/\Zg H H'/\Ym H.n H' v (ds ZF (A*B)):=by obtain⟨v,H',hc,k,o⟩:=Ds ha hb (Yv two32 A) (Yv two32 B) (Nat.le_trans lA (by decide)) (Nat.le_trans lB (by decide));rw[YT two32,YT two32]at o;exact⟨v,H',hc,k,o⟩
end
section
variable {H : AH} {va vb : Value} {xs ys : List Nat}
theorem EC(ha:Sl H va xs)(hb:Sl H vb ys)(dx:YG Zc xs)(dy:YG Zc ys)(lx:xs.length<=2*WU)(ly:ys.length<=2*WU)(hle:dv Zc ys<=dv Zc xs):CW Tryz.prog Zy 170 [va,vb] H fun v H'=>Zg H H'/\Ov H.n (dv Zc xs-dv Zc ys) v H':=by
 have bk:WU=2000000000000:=rfl;refine Z8 52 Tryz.func170 ?_;obtain⟨v0,H0,cc,e0,ec⟩:=UH ha hb dx dy (by omega) (by omega);rw[e0,ec]at cc;obtain⟨v1,H1,c1,e1,s1⟩:=Vf ha (by omega);obtain⟨v2,H2,c2,e2,s2⟩:=Vf hb (by omega);rw[e1]at c1;rw[e2]at c2;have J0: ¬ (XL (dv Zc xs) (dv Zc ys)<0):=by rw[Ke];omega
 have YW:Zd .lss .i64 (XL (dv Zc xs) (dv Zc ys)) 0=some (.bool false):=by rw[nY,decide_eq_false J0]
 generalize XL (dv Zc xs) (dv Zc ys)=cm at cc YW;clear J0 ec;rw[<-WX Zc xs,<-WX Zc ys]at hle⊢;have hyx:(YS ys).length<=(YS xs).length:=by
  rcases Nat.lt_or_ge (YS xs).length (YS ys).length with h|h;·have:=Qu Z7 (S5 ys) (XH dx) (XH dy) h;omega
  ·exact h
 have dx:=XH dx;have dy:=XH dy;have lx:(YS xs).length<=2*WU:=Nat.le_trans (XG xs) lx;have ly:(YS ys).length<=2*WU:=Nat.le_trans (XG ys) ly;generalize YS xs=xs at*;generalize YS ys=ys at*;have l1:=s1.len Zv;have l2:=s2.len Zv;obtain⟨n,hn⟩:=hid (xs.length);rw[<-hn]at l1;obtain⟨c0,H3,RC,k3,o3,n3⟩:=YL (H:=H) Zv (n:=n) (by omega);apply Zb;intro b1 Ze;simp;subst Ze;apply Zh;intro b1 Ze;apply Zb;intro b2 Zx;simp[cc,YW];subst Zx;refine Za (t:=false) (by simp) ?_;apply Zr;subst Ze;apply Zb;intro b1 Ze;simp[c1,c2];subst Ze;apply Zb;intro b1 Ze;simp[l1,RC];subst Ze;apply Zb;intro b1 Ze;simp;subst Ze;apply Zh;intro b1 Ze;apply Zb;intro b2 Zx;simp[l1];subst Zx;apply ZS;refine YQ (fun m s'=>s'.k=52/\Zg H s'.H/\ ∃(i SY:Nat) (L:List Nat),m+i=n/\L.length=i/\SY<=1/\YG Zc L/\dv Zc L+dv Zc (ys.take i)=dv Zc (xs.take i)+Zc^i*SY/\Ym H.n s'.H c0 (L++List.replicate m 0)/\s'.tm.get 0=some v1/\s'.tm.get 1=some v2/\s'.tm.get 6=some c0/\s'.tm.get 7=some (.int .u64 (SY:Int))/\s'.tm.get 22=some (.int .i64 (n:Int))/\s'.tm.get 23=some (.int .i64 (i:Int))) ?_ n _ ⟨rfl,k3,0,0,[],by omega,rfl,by omega,.nil _,by simp[dv],by simpa using o3,by simp,by simp,by simp,by simp,by simp,by simp⟩;rintro m ⟨k,tm,H4⟩ ⟨hk,kH,i,SY,L,Kk,hL,hbr,dL,heq,own,t0,t1,t6,t7,t22,t23⟩ Q' Y4;simp only at hk kH own t0 t1 t6 t7 t22 t23;subst hk;apply Zb;intro b3 Z9;simp[t22,t23];subst Z9;apply Zh;intro b3 Z9;by_cases hi:i<n
 ·refine Za (t:=true) (by simp[hi]) ?_;apply Zr;subst Z9;obtain⟨m',rfl⟩: ∃m',m=m'+1:=⟨m-1,by omega⟩;have UN:i<xs.length:=by omega
  have sa:=s1.keep kH;have sb:=s2.keep kH;obtain⟨y,hy⟩:=hid (nth ys i);have CF:y<Zc:=by rw[hy];exact V9 dy (by decide) _
  obtain⟨x,hx⟩:=hid (nth xs i);have Fu:x<Zc:=by rw[hx];exact V9 dx (by decide) _
  have a0:=sa.adr Zv (k:= .i64) UN;have d0:=sa.load UN;rw[<-XQ UN,<-hx]at d0;have a3:=own.sl.adr Zv (k:= .i64) (i:=i) (by simp;omega);obtain⟨z,hz⟩:=hid ((x+Zc-y-SY)%Zc);obtain⟨b',Wk⟩: ∃b',b'=(if x<y+SY then 1 else 0):=⟨_,rfl⟩;have CE:z<Zc:=by rw[hz];exact Nat.mod_lt _ (by decide)
  have MS:b'<=1:=by rw[Wk];split<;>omega
  have Re:z+y+SY=x+Zc*b':=by
   by_cases h:x<y+SY;·rw[hz,Wk,if_pos h,Nat.mod_eq_of_lt (by omega)];omega
   ·rw[hz,Wk,if_neg h];have:x+Zc-y-SY=(x-y-SY)+Zc:=by omega
    rw[this,Nat.add_mod_right,Nat.mod_eq_of_lt (by omega)];omega
  have sc:ZY Tryz.prog Zy 206 [.int .u64 (x:Int),.int .u64 (y:Int),.int .u64 (SY:Int)] H4=some (.tuple #[.int .u64 (z:Int),.int .u64 (b':Int)],H4):=by rw[hz,Wk];exact QW x y SY H4 hbr
  obtain⟨H5,Wo,Qw,pT,WH⟩:=own.fill hL z;apply Zh;intro b3 Z9;apply ZS;apply Zb;intro b4 Yz;simp[t23];subst Yz;apply Zb;intro b4 Yz;simp;subst Yz;refine Y8 (fun s'=>s'.k=52/\s'.H=H4/\s'.tm.get 0=some v1/\s'.tm.get 1=some v2/\s'.tm.get 6=some c0/\s'.tm.get 7=some (.int .u64 (SY:Int))/\s'.tm.get 8=some (.int .i64 (i:Int))/\s'.tm.get 9=some (.int .u64 (y:Int))/\s'.tm.get 22=some (.int .i64 (n:Int))/\s'.tm.get 23=some (.int .i64 (i:Int))) ?_ ?_
  ·intro Gd We;apply Zb;intro b5 SP;simp[t1,l2];subst SP;by_cases JA:i<ys.length;·refine Za (t:=true) (by simp[JA]) ?_;have a1:=sb.adr Zv (k:= .i64) JA;have d1:=sb.load JA;rw[<-XQ JA,<-hy]at d1;apply Zk;simp[t1,a1,d1];apply We;exact⟨rfl,rfl,by simp[t0],by simp[t1],by simp[t6],by simp[t7],by simp,by simp,by simp[t22],by simp[t23]⟩
   ·refine Za (t:=false) (by simp[JA]) ?_;apply Zr;apply We;rw[Vn (by omega)]at hy;subst hy;exact⟨rfl,rfl,by simp[t0],by simp[t1],by simp[t6],by simp[t7],by simp,by simp,by simp[t22],by simp[t23]⟩
  clear t0 t1 t6 t7 t22 t23;rintro⟨k,tm,H6⟩ ⟨hk,hH,t0,t1,t6,t7,t8,t9,t22,t23⟩;simp only at hk hH t0 t1 t6 t7 t8 t9 t22 t23;subst hk;subst hH;apply Zk;simp[t0,t6,t7,t8,t9,a0,d0,sc,a3,Wo];subst Z9;apply Zk;simp[t23,YR (x:=i) (by omega)];apply Y4;refine⟨m',by omega,rfl,WH H kH (Nat.le_refl _),i+1,b',L++[z],by omega,by simp[hL],MS,dL.append (.cons CE (.nil _)),?_,Qw,by simp[t0],by simp[t1],by simp[t6],by simp,by simp[t22],by simp⟩;rw[Yt,hL,XS,XS,<-hx,<-hy];simp only[dv,Nat.mul_zero,Nat.add_zero];have e1:Zc^i*(z+y+SY)=Zc^i*(x+Zc*b'):=by rw[Re]
  rw[Nat.mul_add,Nat.mul_add,Nat.mul_add,<-Nat.mul_assoc,show Zc^i*Zc=Zc^(i+1)from rfl]at e1;omega
 ·refine Za (t:=false) (by simp[hi]) ?_;apply YP;apply Y4;left;refine⟨rfl,?_⟩;obtain rfl:i=n:=by omega
  obtain rfl:m=0:=by omega
  rw[List.take_of_length_le (by omega),List.take_of_length_le (by omega)]at heq;rw[List.replicate_zero,List.append_nil]at own;have YW:=X3 dL;rw[hL]at YW;have hval:dv Zc L=dv Zc xs-dv Zc ys:=by
   generalize Zc^i=P at heq YW;have:SY=0\/SY=1:=by omega
   rcases this with rfl|rfl<;>omega
  obtain⟨v6,H6,c6,e6,h6⟩:=Of own dL (by omega);subst e6;rw[hval]at h6;have h7:Ov H.n (dv Zc xs-dv Zc ys) v6 H6/\ ∃a b,v6= .tuple #[a,b]:=by
   rcases h6 with⟨h,rfl⟩|⟨h,u,rfl,o⟩;·exact⟨.inl ⟨h,rfl⟩,_,_,rfl⟩
   ·exact⟨.inr ⟨h,u,rfl,o⟩,_,_,rfl⟩
  obtain⟨h7,p,q,rfl⟩:=h7;subst Ze;apply Zb;intro b4 Yz;simp[t6,c6];subst Yz;apply Zu;simp;exact⟨kH,h7⟩
end
theorem zB:Zd .neq .i64 3 0=some (.bool true):=rfl
theorem SH:Zd .neq .i64 0 0=some (.bool false):=rfl
theorem bD{x y c:Nat}(hx:x<Zc)(hy:y<Zc)(hc:c<Zc):x*y/Zc+(x*y%Zc+c)/Zc<Zc/\(x*y%Zc+c)%Zc+Zc*(x*y/Zc+(x*y%Zc+c)/Zc)=x*y+c:=by have hx:x<18446744073709551616:=hx;have hy:y<18446744073709551616:=hy;have hc:c<18446744073709551616:=hc;have hp:x*y<=18446744073709551615*18446744073709551615:=Nat.mul_le_mul (by omega) (by omega);show x*y/18446744073709551616+(x*y%18446744073709551616+c)/18446744073709551616<18446744073709551616/\(x*y%18446744073709551616+c)%18446744073709551616+18446744073709551616*(x*y/18446744073709551616+(x*y%18446744073709551616+c)/18446744073709551616)=x*y+c;generalize x*y=p at*;omega
section
variable {H : AH} {va vb : Value} {xs ys : List Nat}
theorem BM{y:Nat}(ha:Sl H va xs)(dx:YG Zc xs)(hy:y<Zc)(lx:xs.length<=2*WU):CW Tryz.prog Zy 166 [va,.int .u64 (y:Int)] H fun v H'=>Zg H H'/\Ov H.n (dv Zc xs*y) v H':=by
 have bk:WU=2000000000000:=rfl;refine Z8 56 Tryz.func166 ?_;obtain⟨v1,H1,c1,e1,s1⟩:=Vf ha (by omega);rw[e1]at c1;rw[<-WX Zc xs];have dx:=XH dx;have lx:(YS xs).length<=2*WU:=Nat.le_trans (XG xs) lx;generalize YS xs=xs at*;have l1:=s1.len Zv;obtain⟨n,hn⟩:=hid (xs.length);rw[<-hn]at l1;obtain⟨c0,H3,RC,k3,o3,n3⟩:=YL (H:=H) Zv (n:=n+1) (by omega);apply Zb;intro b1 Ze;simp;subst Ze;apply Zb;intro b1 Ze;simp[c1];subst Ze;apply Zb;intro b1 Ze;simp[l1,YR (x:=n) (by omega),RC];subst Ze;apply Zb;intro b1 Ze;simp;subst Ze;apply Zh;intro b1 Ze;apply Zb;intro b2 Zx;simp[l1];subst Zx;apply ZS;refine YQ (fun m s'=>s'.k=56/\Zg H s'.H/\ ∃(i c:Nat) (L:List Nat),m+i=n/\L.length=i/\c<Zc/\YG Zc L/\dv Zc L+Zc^i*c=dv Zc (xs.take i)*y/\Ym H.n s'.H c0 (L++List.replicate (m+1) 0)/\s'.tm.get 0=some v1/\s'.tm.get 1=some (.int .u64 (y:Int))/\s'.tm.get 6=some c0/\s'.tm.get 7=some (.int .u64 (c:Int))/\s'.tm.get 20=some v1/\s'.tm.get 21=some (.int .i64 (n:Int))/\s'.tm.get 22=some (.int .i64 (i:Int))) ?_ n _ ⟨rfl,k3,0,0,[],by omega,rfl,by decide,.nil _,by simp[dv],by simpa using o3,by simp,by simp,by simp,by simp,by simp,by simp,by simp⟩;rintro m ⟨k,tm,H4⟩ ⟨hk,kH,i,c,L,Kk,hL,hc,dL,heq,own,t0,t1,t6,t7,t20,t21,t22⟩ Q' Y4;simp only at hk kH own t0 t1 t6 t7 t20 t21 t22;subst hk;apply Zb;intro b3 Z9;simp[t21,t22];subst Z9;apply Zh;intro b3 Z9;by_cases hi:i<n
 ·refine Za (t:=true) (by simp[hi]) ?_;apply Zr;subst Z9;obtain⟨m',rfl⟩: ∃m',m=m'+1:=⟨m-1,by omega⟩;have UN:i<xs.length:=by omega
  have sa:=s1.keep kH;obtain⟨x,hx⟩:=hid (nth xs i);have Fu:x<Zc:=by rw[hx];exact V9 dx (by decide) _
  have a0:=sa.adr Zv (k:= .i64) UN;have d0:=sa.load UN;rw[<-XQ UN,<-hx]at d0;have a3:=own.sl.adr Zv (k:= .i64) (i:=i) (by simp;omega);obtain⟨g1,g2⟩:=bD Fu hy hc;obtain⟨z,hz⟩:=hid ((x*y%Zc+c)%Zc);obtain⟨h1,hh1⟩:=hid (x*y/Zc);obtain⟨h2,hh2⟩:=hid ((x*y%Zc+c)/Zc);have mc:=Qs Fu hy H4;have ac:=Uu (x*y%Zc) c H4;have CE:z<Zc:=by rw[hz];exact Nat.mod_lt _ (by decide)
  rw[<-hh1]at mc;rw[<-hz,<-hh2]at ac;rw[<-hz,<-hh1,<-hh2]at g2;rw[<-hh1,<-hh2]at g1;obtain⟨H5,Wo,Qw,pT,WH⟩:=own.fill hL z;apply Zh;intro b3 Z9;apply ZS;apply Zb;intro b4 Yz;simp[t20,t22,a0,d0];subst Yz;apply Zb;intro b4 Yz;simp[t1,mc];subst Yz;apply Zb;intro b4 Yz;simp[t7,ac];subst Yz;apply Zb;intro b4 Yz;simp[t6,a3,Wo];subst Yz;apply Zk;simp[addu (x:=h1) (y:=h2) g1];subst Z9;apply Zk;simp[t22,YR (x:=i) (by omega)];apply Y4;refine⟨m',by omega,rfl,WH H kH (Nat.le_refl _),i+1,h1+h2,L++[z],by omega,by simp[hL],g1,dL.append (.cons CE (.nil _)),?_,Qw,by simp[t0],by simp[t1],by simp[t6],by simp,by simp[t20],by simp[t21],by simp⟩;rw[Yt,hL,XS,<-hx];simp only[dv,Nat.mul_zero,Nat.add_zero];have e1:Zc^i*(z+Zc*(h1+h2))=Zc^i*(x*y+c):=by rw[g2]
  rw[Nat.mul_add (Zc^i) z,<-Nat.mul_assoc (Zc^i) Zc,show Zc^i*Zc=Zc^(i+1)from rfl,Nat.mul_add (Zc^i) (x*y) c,<-Nat.mul_assoc (Zc^i) x y]at e1;rw[Nat.add_mul];omega
 ·refine Za (t:=false) (by simp[hi]) ?_;apply YP;apply Y4;left;refine⟨rfl,?_⟩;obtain rfl:i=n:=by omega
  obtain rfl:m=0:=by omega
  rw[List.take_of_length_le (by omega)]at heq;have a3:=own.sl.adr Zv (k:= .i64) (i:=i) (by simp;omega);obtain⟨H5,Wo,Qw,pT,WH⟩:=own.fill hL c;rw[List.replicate_zero,List.append_nil]at Qw;have dLc:YG Zc (L++[c]):=dL.append (.cons hc (.nil _));have hval:dv Zc (L++[c])=dv Zc xs*y:=by rw[Yt,hL];simp only[dv,Nat.mul_zero,Nat.add_zero];exact heq
  obtain⟨v6,H6,c6,e6,h6⟩:=Of Qw dLc (by simp;omega);subst e6;rw[hval]at h6;have k5:Zg H H6:=WH H kH (Nat.le_refl _);have h7:Ov H.n (dv Zc xs*y) v6 H6/\ ∃a b,v6= .tuple #[a,b]:=by
   rcases h6 with⟨h,rfl⟩|⟨h,u,rfl,o⟩;·exact⟨.inl ⟨h,rfl⟩,_,_,rfl⟩
   ·exact⟨.inr ⟨h,u,rfl,o⟩,_,_,rfl⟩
  obtain⟨h7,p,q,rfl⟩:=h7;subst Ze;apply Zb;intro b4 Yz;simp[t0,t6,t7,l1,a3,Wo];subst Yz;apply Zb;intro b4 Yz;simp[t6,c6];subst Yz;apply Zu;simp;exact⟨k5,h7⟩
def Mq(n0:Nat)(N y:Nat)(v:Value)(H':AH):Prop:=(67108864<Zm (N/y)/\v= .tuple #[.slice none 0 0,.int .u64 0,.int .i64 3])\/(Zm (N/y)<=67108864/\ ∃u,v= .tuple #[u,.int .u64 ((N%y:Nat):Int),.int .i64 0]/\Ym n0 H' u (ds Zc (N/y)))
theorem Fl{y:Nat}(ha:Sl H va xs)(dx:YG Zc xs)(hy:y<Zc)(LC:0<y)(lx:xs.length<=2*WU):CW Tryz.prog Zy 168 [va,.int .u64 (y:Int)] H fun v H'=>Zg H H'/\Mq H.n (dv Zc xs) y v H':=by
 have bk:WU=2000000000000:=rfl;refine Z8 48 Tryz.func168 ?_;obtain⟨v1,H1,c1,e1,s1⟩:=Vf ha (by omega);rw[e1]at c1;rw[<-WX Zc xs];have dx:=XH dx;have lx:(YS xs).length<=2*WU:=Nat.le_trans (XG xs) lx;generalize YS xs=xs at*;have l1:=s1.len Zv;obtain⟨n,hn⟩:=hid (xs.length);rw[<-hn]at l1;have ey:Zd .eql .u64 (y:Int) 0=some (.bool false):=by rw[rW,decide_eq_false (by omega)]
 obtain⟨c0,H3,RC,k3,o3,n3⟩:=YL (H:=H) Zv (n:=n) (by omega);apply Zb;intro b1 Ze;simp;subst Ze;apply Zh;intro b1 Ze;apply Zb;intro b2 Zx;simp[ey];subst Zx;refine Za (t:=false) (by simp) ?_;apply Zr;subst Ze;apply Zb;intro b1 Ze;simp[c1];subst Ze;apply Zb;intro b1 Ze;simp[l1,RC];subst Ze;apply Zb;intro b1 Ze;simp;subst Ze;apply Zh;intro b1 Ze;apply Zb;intro b2 Zx;simp[l1,TM (m:=n) (by omega)];subst Zx;apply ZS;refine YQ (fun m s'=>s'.k=48/\Zg H s'.H/\ ∃(r:Nat) (R:List Nat),m+R.length=n/\r<y/\YG Zc R/\dv Zc R*y+r=dv Zc (xs.drop m)/\Ym H.n s'.H c0 (List.replicate m 0++R)/\s'.tm.get 0=some v1/\s'.tm.get 1=some (.int .u64 (y:Int))/\s'.tm.get 7=some c0/\s'.tm.get 8=some (.int .u64 (r:Int))/\s'.tm.get 9=some (.int .i64 ((m:Int)-1))) ?_ n _ ⟨rfl,k3,0,[],by simp,LC,.nil _,by rw[List.drop_of_length_le (by omega)];simp[dv],by simpa using o3,by simp,by simp,by simp,by simp,by simp⟩;rintro m ⟨k,tm,H4⟩ ⟨hk,kH,r,R,hmR,hr,dR,heq,own,t0,t1,t7,t8,t9⟩ Q' Y4;simp only at hk kH own t0 t1 t7 t8 t9;subst hk;apply Zh;intro b3 Z9;apply Zb;intro b4 Yz;simp[t9,NU (m:=m)];subst Yz;by_cases hm:0<m
 ·refine Za (t:=true) (by simp[hm]) ?_;apply Zr;subst Z9;obtain⟨m',rfl⟩: ∃m',m=m'+1:=⟨m-1,by omega⟩;have em:((m'+1:Nat):Int)-1=(m':Int):=by omega
  rw[em]at t9;have UN:m'<xs.length:=by omega
  have sa:=s1.keep kH;obtain⟨x,hx⟩:=hid (nth xs m');have Fu:x<Zc:=by rw[hx];exact V9 dx (by decide) _
  have a0:=sa.adr Zv (k:= .i64) UN;have d0:=sa.load UN;rw[<-XQ UN,<-hx]at d0;have a3:=own.sl.adr Zv (k:= .i64) (i:=m') (by simp;omega);have dc:=OE (h:=r) (l:=x) (y:=y) hr Fu hy H4;obtain⟨q,hq⟩:=hid ((r*Zc+x)/y);obtain⟨r',sF⟩: ∃r',r'=(r*Zc+x)%y:=⟨_,rfl⟩;rw[<-hq,<-sF]at dc;have gD:y*q+r'=r*Zc+x:=by rw[hq,sF];exact Nat.div_add_mod _ _
  have dM:q<Zc:=by rw[hq,Nat.div_lt_iff_lt_mul LC];have:(r+1)*Zc<=y*Zc:=Nat.mul_le_mul_right _ hr;rw[Nat.add_mul,Nat.one_mul]at this;rw[Nat.mul_comm Zc y];omega
  have yC:r'<y:=by rw[sF];exact Nat.mod_lt _ LC
  obtain⟨H5,Wo,Qw,n5,pT,WH⟩:=own.put (i:=m') (by simp;omega) q;have rU:(List.replicate (m'+1) 0++R).set m' q=List.replicate m' 0++(q::R):=by rw[List.replicate_succ',List.append_assoc];exact WG _ _ _ _ (by simp)
  rw[rU]at Qw;apply Zh;intro b3 Z9;apply ZS;apply Zk;simp[t0,t1,t7,t8,t9,a0,d0,dc,a3,Wo];subst Z9;apply Zk;simp[t9,TM (m:=m') (by omega)];apply Y4;refine⟨m',by omega,rfl,WH H kH (Nat.le_refl _),r',q::R,by simp at hmR⊢;omega,yC,.cons dM dR,?_,Qw,by simp[t0],by simp[t1],by simp[t7],by simp,by simp⟩;have ed:xs.drop m'=x::xs.drop (m'+1):=by rw[List.drop_eq_getElem_cons UN,hx,XQ UN]
  rw[ed];simp only[dv];rw[<-heq,Nat.mul_add,Nat.add_mul,Nat.mul_comm q y,Nat.mul_assoc];have:Zc*r=r*Zc:=Nat.mul_comm _ _;omega
 ·refine Za (t:=false) (by simp[hm]) ?_;apply YP;apply Y4;left;refine⟨rfl,?_⟩;obtain rfl:m=0:=by omega
  rw[List.drop_zero]at heq;rw[List.replicate_zero,List.nil_append]at own;have hdiv:dv Zc xs/y=dv Zc R/\dv Zc xs%y=r:=by rw[<-heq,Nat.mul_comm];exact⟨by rw[Nat.mul_add_div LC,Nat.div_eq_of_lt hr,Nat.add_zero],by rw[Nat.mul_add_mod,Nat.mod_eq_of_lt hr]⟩
  obtain⟨v6,H6,c6,e6,h6⟩:=Of own dR (by omega);subst e6;rw[<-hdiv.1]at h6;have h7: ∃a b,v6= .tuple #[a,.int .i64 b]/\((b=3/\Mq H.n (dv Zc xs) y (.tuple #[.slice none 0 0,.int .u64 0,.int .i64 3]) H6)\/(b=0/\Mq H.n (dv Zc xs) y (.tuple #[a,.int .u64 (r:Int),.int .i64 0]) H6)):=by
   rcases h6 with⟨h,rfl⟩|⟨h,u,rfl,o⟩;·exact⟨_,_,rfl,.inl ⟨rfl,.inl ⟨h,rfl⟩⟩⟩
   ·exact⟨_,_,rfl,.inr ⟨rfl,.inr ⟨h,u,by rw[hdiv.2],o⟩⟩⟩
  obtain⟨p,b,rfl,⟨rfl,h7⟩|⟨rfl,h7⟩⟩:=h7;·subst Ze;apply Zb;intro b1 Ze;simp[t7,c6];subst Ze;apply Zh;intro b1 Ze;apply Zb;intro b2 Zx;simp[zB];subst Zx;refine Za (t:=true) (by simp) ?_;apply Zb;intro b2 Zx;simp;subst Zx;apply Zu;simp[Yx];exact⟨kH,h7⟩
  ·subst Ze;apply Zb;intro b1 Ze;simp[t7,c6];subst Ze;apply Zh;intro b1 Ze;apply Zb;intro b2 Zx;simp[SH];subst Zx;refine Za (t:=false) (by simp) ?_;apply Zr;subst Ze;apply Zb;intro b2 Zx;simp[t8];subst Zx;apply Zu;simp;exact⟨kH,h7⟩
end
theorem Zad{x:Nat}(h:x<9223372036854775808):Zd .quo .i64 (x:Int) 64=some (.int .i64 ((x/64:Nat):Int)):=Ks (y:=64) h (by decide)
theorem Zag{x:Nat} :Zd .rem .i64 (x:Int) 64=some (.int .i64 ((x%64:Nat):Int)):=aa (y:=64) (by decide)
theorem Ko{x:Nat} :Zd .lss .i64 (x:Int) 0=some (.bool false):=by rw[nY,decide_eq_false (by omega)]
theorem cP{n:Nat}{q s:Nat}(hq:q=n/64)(hs:s=n%64):YG Zc ((List.replicate (q+2) 0).set q (2^s))/\dv Zc ((List.replicate (q+2) 0).set q (2^s))=2^n:=by
 have td:s<64:=by omega
 have YW:2^s<Zc:=by show 2^s<2^64;exact Nat.pow_lt_pow_right (by decide) td
 refine⟨(Sr (by decide) _).set YW,?_⟩;have h:=MY Zc (List.replicate (q+2) 0) q (2^s) (by simp);rw[List.getElem_replicate,Nat.mul_zero,Nat.add_zero]at h;rw[h];have h0:dv Zc (List.replicate (q+2) 0)=0:=KL fun x hx=>(List.mem_replicate.mp hx).2;rw[h0,Nat.zero_add];have:Zc^q=2^(64*q):=(Nat.pow_mul 2 64 q).symm;rw[this,<-Nat.pow_add];congr 1;omega
section
variable {H : AH} {va vb : Value} {xs ys : List Nat}
theorem GM{n:Nat}(ha:Sl H va [1])(hn:n<=60000000):CW Tryz.prog Zy 201 [va,.int .i64 (n:Int)] H fun v H'=>Zg H H'/\ ∃u,v= .tuple #[u,.int .i64 0]/\Ym H.n H' u (ds Zc (2^n)):=by
 refine Z8 73 Tryz.func201 ?_;obtain⟨v1,H1,c1,e1,s1⟩:=Vf ha (by simp);rw[e1]at c1;have e3:YS [1]=[1]:=rfl;rw[e3]at s1;have d1:YG Zc [1]:= .cons (by decide) (.nil _);obtain⟨v2,H2,c2,e2,Fo⟩:=Vh s1 d1 (by simp);rw[e2,Fo]at c2;have mY:Zm (dv Zc [1])=1:=by decide
 rw[mY]at c2;have c2:ZY Tryz.prog Zy 123 [v1] H=some (.int .i64 1,H):=c2;have l1:QE Tryz.prog 30 v1=some 1:=s1.len Zv;have a0:Yj Tryz.prog 30 v1 (.int .i64 0)=some (adr v1 0):=s1.adr Zv (k:= .i64) (i:=0) (by simp);obtain⟨q,hq⟩:=hid (n/64);obtain⟨s,hs⟩:=hid (n%64);obtain⟨c0,H3,RC,k3,o3,n3⟩:=YL (H:=H) Zv (n:=q+2) (by omega);have d0:Z4 Tryz.prog H3 101 (adr v1 0)=some (.int .u64 1):=(s1.keep k3).load (i:=0) (by simp);have g1:Zd .gtr .i64 (n:Int) 1099511627776=some (.bool false):=by have h:=WW (k:= .i64) (x:=n) (y:=1099511627776);rw[decide_eq_false (by omega)]at h;exact h
 have g2:Zd .add .i64 1 (n:Int)=some (.int .i64 ((1+n:Nat):Int)):=WK (x:=1) (y:=n) (by omega);have g3:Zd .gtr .i64 ((1+n:Nat):Int) 67108864=some (.bool false):=by have h:=WW (k:= .i64) (x:=1+n) (y:=67108864);rw[decide_eq_false (by omega)]at h;exact h
 have g4:Zd .quo .i64 (n:Int) 64=some (.int .i64 (q:Int)):=by rw[hq];exact Zad (by omega)
 have g5:Zd .rem .i64 (n:Int) 64=some (.int .i64 (s:Int)):=by rw[hs];exact Zag
 have g6:=aO (n:=s) (by omega);have g7:Zd .add .i64 (q:Int) 1=some (.int .i64 ((q+1:Nat):Int)):=YR (x:=q) (by omega);have g8:Zd .add .i64 ((q+1:Nat):Int) 1=some (.int .i64 ((q+2:Nat):Int)):=YR (x:=q+1) (by omega);have g9:Zd .add .i64 (q:Int) 0=some (.int .i64 (q:Int)):=WK (x:=q) (y:=0) (by omega);have td:s<64:=by omega
 have YW:2^s<Zc:=by show 2^s<2^64;exact Nat.pow_lt_pow_right (by decide) td
 obtain⟨P,hP⟩:=hid (2^s);have mj:Y0 .shl .u64 1 (s:Int)=some (.int .u64 (P:Int)):=by have h:=Sm (x:=1) (s:=s) (by omega);rw[Nat.one_mul,Nat.mod_eq_of_lt YW,<-hP]at h;exact h
 have g11:Zd .or .u64 0 (P:Int)=some (.int .u64 (P:Int)):=by have h:=JW (x:=0) (y:=P) (by decide) (by omega);rw[Nat.zero_or]at h;exact h
 have kZ:Y0 .shr .u64 1 1=some (.int .u64 0):=Tw (x:=1) (s:=1) (by omega);have g13:Zd .sub .u64 63 (s:Int)=some (.int .u64 ((63-s:Nat):Int)):=Sn (x:=63) (y:=s) (by decide) (by omega);have g14:Y0 .shr .u64 0 ((63-s:Nat):Int)=some (.int .u64 0):=by have h:=Tw (x:=0) (s:=63-s) (by omega);rw[Nat.zero_div]at h;exact h
 have g15:Zd .or .u64 0 0=some (.int .u64 0):=JW (x:=0) (y:=0) (by decide) (by decide);have i1:=o3.sl.adr Zv (k:= .i64) (i:=q) (by simp);have w1:=o3.sl.load (i:=q) (by simp);rw[List.getElem_replicate]at w1;have w1:Z4 Tryz.prog H3 101 (adr c0 q)=some (.int .u64 0):=w1;obtain⟨H4,Wx,o4,n4,ru,VX⟩:=o3.put (i:=q) (by simp) P;have i2:=o4.sl.adr Zv (k:= .i64) (i:=q+1) (by simp);have w2:=o4.sl.load (i:=q+1) (by simp);rw[List.getElem_set_ne (by omega),List.getElem_replicate]at w2;have w2:Z4 Tryz.prog H4 101 (adr c0 (q+1))=some (.int .u64 0):=w2;obtain⟨H5,Wo,o5,n5,pT,WH⟩:=o4.put (i:=q+1) (by simp) 0;have Wo:YZ Tryz.prog H4 101 (adr c0 (q+1)) (.int .u64 0)=some H5:=Wo;have rU:((List.replicate (q+2) 0).set q P).set (q+1) 0=(List.replicate (q+2) 0).set q P:=by
  apply List.ext_getElem;·simp
  ·intro i h1 h2;by_cases hi:q+1=i;·subst hi;rw[List.getElem_set_self,List.getElem_set_ne (by omega),List.getElem_replicate]
   ·rw[List.getElem_set_ne hi]
 rw[rU]at o5;obtain⟨p1,p2⟩:=cP hq hs;rw[<-hP]at p1 p2;obtain⟨v6,H6,c6,e6,o6⟩:=DE o5 (by simp;omega);subst e6;rw[Xl Z7 p1,p2]at o6;have k5:Zg H H6:=WH H (VX H k3 (Nat.le_refl _)) (Nat.le_refl _);apply Zb;intro b1 Ze;simp;subst Ze;apply Zh;intro b1 Ze;apply Zb;intro b2 Zx;simp[Ko,g1];subst Zx;refine Za (t:=false) (by simp) ?_;apply Zr;subst Ze;apply Zb;intro b1 Ze;simp[c1];subst Ze;apply Zh;intro b1 Ze;apply Zb;intro b2 Zx;simp[l1,show Zd .eql .i64 1 0=some (.bool false)from rfl];subst Zx;refine Za (t:=false) (by simp) ?_;apply Zr;subst Ze;apply Zh;intro b1 Ze;apply Zb;intro b2 Zx;simp[c2,g2,g3];subst Zx;refine Za (t:=false) (by simp) ?_;apply Zr;subst Ze;apply Zb;intro b1 Ze;simp[g4,g5,g6];subst Ze;apply Zb;intro b1 Ze;simp[l1,g7,g8,RC];subst Ze;apply Zh;intro b1 Ze;apply Zb;intro b2 Zx;simp[l1];subst Zx;apply ZS;apply Gh;apply Zb;intro b3 Z9;simp[show Zd .lss .i64 0 1=some (.bool true)from rfl];subst Z9;apply Zh;intro b3 Z9;refine Za (t:=true) (by simp) ?_;apply Zr;subst Z9;apply Zh;intro b3 Z9;apply ZS;apply Zb;intro b4 Yz;simp[a0,d0];subst Yz;apply Zb;intro b4 Yz;simp[g9,i1,w1,mj,g11,Wx];subst Yz;apply Zk;simp[g9,g7,i2,w2,kZ,g13,g14,g15,Wo];subst Z9;apply Zk;simp[show Zd .add .i64 0 1=some (.int .i64 1)from rfl];apply Gh;apply Zb;intro b3 Z9;simp[show Zd .lss .i64 1 1=some (.bool false)from rfl];subst Z9;apply Zh;intro b3 Z9;refine Za (t:=false) (by simp) ?_;apply YP;left;refine⟨rfl,?_⟩;subst Ze;apply Zb;intro b4 Yz;simp[c6];subst Yz;apply Zu;simp;exact⟨k5,o6⟩
end
section
variable {H : AH} {va vb : Value} {xs ys : List Nat} {A B : Nat}
theorem Br{n:Nat}(hn:n<=60000000): ∃u H',ZY Tryz.prog Zy 165 [.int .i64 (n:Int)] H=some (u,H')/\Zg H H'/\Ym H.n H' u (ds Zc (2^n)):=by suffices h:CW Tryz.prog Zy 165 [.int .i64 (n:Int)] H fun v H'=>Zg H H'/\Ym H.n H' v (ds Zc (2^n))from h;obtain⟨v1,H1,c1,k1,o1⟩:=Th (H:=H) (x:=1) (by decide);rw[ds1 (by decide) (by decide)]at o1;have c1:ZY Tryz.prog Zy 164 [.int .u64 1] H=some (v1,H1):=c1;obtain⟨v2,H2,c2,k2,u,rfl,o2⟩:=GM o1.sl hn;refine Z8 12 Tryz.func165 ?_;apply Zb;intro b1 Ze;simp;subst Ze;apply Zb;intro b1 Ze;simp[c1,c2];subst Ze;apply Zb;intro b1 Ze;simp;subst Ze;apply Zu;simp;exact⟨k1.trans k2,o2.mono k1.n (.refl _)⟩
theorem JL(ha:Sl H va xs)(dx:YG Zc xs)(lx:xs.length<=17592186044416)(hb:Zm (dv Zc xs)<=67108864): ∃u H',ZY Tryz.prog Zy 126 [va] H=some (.tuple #[u,.int .i64 0],H')/\Zg H H'/\Ym H.n H' u (ds Zc (dv Zc xs)):=by
 suffices h:CW Tryz.prog Zy 126 [va] H fun v H'=> ∃u,v= .tuple #[u,.int .i64 0]/\Zg H H'/\Ym H.n H' u (ds Zc (dv Zc xs)) by obtain⟨v,H',hc,u,rfl,k,o⟩:=h;exact⟨u,H',hc,k,o⟩
 obtain⟨v1,H1,c1,e1,mf⟩:=Vh ha dx lx;rw[e1,mf]at c1;obtain⟨v2,H2,c2,k2,o2⟩:=Vu ha lx;rw[Xl Z7 dx]at o2;obtain⟨L,hL⟩:=hid (Zm (dv Zc xs));rw[<-hL]at c1 hb;have g1:Zd .gtr .i64 (L:Int) 67108864=some (.bool false):=by have h:=WW (k:= .i64) (x:=L) (y:=67108864);rw[decide_eq_false (by omega)]at h;exact h
 refine Z8 9 Tryz.func126 ?_;apply Zb;intro b1 Ze;simp;subst Ze;apply Zh;intro b1 Ze;apply Zb;intro b2 Zx;simp[c1,g1];subst Zx;refine Za (t:=false) (by simp) ?_;apply Zr;subst Ze;apply Zb;intro b1 Ze;simp[c2];subst Ze;apply Zu;simp;exact⟨k2,o2⟩
theorem Lp(ha:Sl H va (ds Zc A))(hb:Sl H vb (ds Zc B))(lA:(ds Zc A).length<=WU)(lB:(ds Zc B).length<=WU)(hle:B<=A)(h:Zm A<=67108864): ∃u H',ZY Tryz.prog Zy 170 [va,vb] H=some (.tuple #[u,.int .i64 0],H')/\Zg H H'/\Ym H.n H' u (ds Zc (A-B)):=by
 obtain⟨v,H',hc,k,hm⟩:=EC ha hb (Yv Z7 A) (Yv Z7 B) (by omega) (by omega) (by rw[YT Z7,YT Z7];exact hle);rw[YT Z7,YT Z7]at hm;have Xi:=ZE (n:=A-B) (m:=A) (by omega);rcases hm with⟨h1,_⟩|⟨h1,u,rfl,o⟩;·omega
 ·exact⟨u,H',hc,k,o⟩
theorem Lo(ha:Sl H va (ds Zc A))(hb:Sl H vb (ds Zc B))(lA:(ds Zc A).length<=WU)(lB:(ds Zc B).length<=WU)(h:Zm (A+B)<=67108864): ∃u H',ZY Tryz.prog Zy 167 [va,vb] H=some (.tuple #[u,.int .i64 0],H')/\Zg H H'/\Ym H.n H' u (ds Zc (A+B)):=by
 obtain⟨v,H',hc,k,hm⟩:=ED ha hb (Yv Z7 A) (Yv Z7 B) (by omega) (by omega);rw[YT Z7,YT Z7]at hm;rcases hm with⟨h1,_⟩|⟨h1,u,rfl,o⟩;·omega
 ·exact⟨u,H',hc,k,o⟩
theorem R5(ha:Sl H va (ds Zc A))(hb:Sl H vb (ds Zc B))(lA:(ds Zc A).length<=WU)(lB:(ds Zc B).length<=WU)(h:Zm (A*B)<=67108864): ∃u H',ZY Tryz.prog Zy 146 [va,vb] H=some (.tuple #[u,.int .i64 0],H')/\Zg H H'/\Ym H.n H' u (ds Zc (A*B)):=by
 obtain⟨v,H',hc,k,hm⟩:=je ha hb (Yv Z7 A) (Yv Z7 B) (by omega) (by omega);rw[YT Z7,YT Z7]at hm;rcases hm with⟨h1,_⟩|⟨h1,u,rfl,o⟩;·omega
 ·exact⟨u,H',hc,k,o⟩
theorem VJ(ha:Sl H va (ds Zc A))(hb:Sl H vb (ds Zc B))(lA:(ds Zc A).length<=WU)(lB:(ds Zc B).length<=WU)(h0:0<B)(h:Zm A<=67108864): ∃u H',ZY Tryz.prog Zy 141 [va,vb] H=some (.tuple #[u,.int .i64 0],H')/\Zg H H'/\Ym H.n H' u (ds Zc (A/B)):=by
 obtain⟨v,H',hc,k,hm⟩:=jZ ha hb (Yv Z7 A) (Yv Z7 B) lA lB;rw[YT Z7,YT Z7]at hm;have Xi:=ZE (n:=A/B) (m:=A) (Nat.div_le_self _ _);rcases hm with⟨h1,_⟩|⟨_,h1,_⟩|⟨_,h1,u,rfl,o⟩;·omega
 ·omega
 ·exact⟨u,H',hc,k,o⟩
theorem Pn(ha:Sl H va (ds Zc A))(hb:Sl H vb (ds Zc B))(lA:(ds Zc A).length<=WU)(lB:(ds Zc B).length<=WU): ∃u H',ZY Tryz.prog Zy 139 [va,vb] H=some (u,H')/\Zg H H'/\Ym H.n H' u (ds Zc (Nat.gcd A B)):=by obtain⟨v,H',hc,k,o⟩:=fE ha hb (Yv Z7 A) (Yv Z7 B) lA lB;rw[YT Z7,YT Z7]at o;exact⟨v,H',hc,k,o⟩
theorem UX(ha:Sl H va xs)(dx:YG Zc xs)(lx:xs.length<=17592186044416): ∃u H',ZY Tryz.prog Zy 120 [va] H=some (u,H')/\Zg H H'/\Ym H.n H' u (ds Zc (dv Zc xs)):=by obtain⟨v,H',hc,k,o⟩:=Vu ha lx;rw[Xl Z7 dx]at o;exact⟨v,H',hc,k,o⟩
theorem bH(ha:Sl H va (ds Zc A))(hb:Sl H vb (ds Zc B))(lA:(ds Zc A).length<=WU)(lB:(ds Zc B).length<=WU)(hle:B<=A)(h:Zm A<=67108864): ∃u H',ZY Tryz.prog Zy 129 [va,vb] H=some (u,H')/\Zg H H'/\Ym H.n H' u (ds Zc (A-B)):=by suffices hs:CW Tryz.prog Zy 129 [va,vb] H fun v H'=>Zg H H'/\Ym H.n H' v (ds Zc (A-B))from hs;obtain⟨u,H1,c1,k1,o1⟩:=Lp ha hb lA lB hle h;refine Z8 14 Tryz.func129 ?_;apply Zb;intro b1 Ze;simp;subst Ze;apply Zb;intro b1 Ze;simp[c1];subst Ze;apply Zb;intro b1 Ze;simp;subst Ze;apply Zu;simp;exact⟨k1,o1⟩
theorem DS(ha:Sl H va (ds Zc A))(lA:(ds Zc A).length<=WU)(h:Zm (A*A)<=67108864): ∃u H',ZY Tryz.prog Zy 169 [va] H=some (.tuple #[u,.int .i64 0],H')/\Zg H H'/\Ym H.n H' u (ds Zc (A*A)):=by
 suffices hs:CW Tryz.prog Zy 169 [va] H fun v H'=> ∃u,v= .tuple #[u,.int .i64 0]/\Zg H H'/\Ym H.n H' u (ds Zc (A*A)) by obtain⟨v,H',hc,u,rfl,k,o⟩:=hs;exact⟨u,H',hc,k,o⟩
 obtain⟨u,H1,c1,k1,o1⟩:=R5 ha ha lA lA h;refine Z8 9 Tryz.func169 ?_;apply Zb;intro b1 Ze;simp;subst Ze;apply Zb;intro b1 Ze;simp[c1];subst Ze;apply Zu;simp;exact⟨k1,o1⟩
end
theorem oS{x s:Nat}(hs:s<=64):Y0 .shr .i64 (x:Int) (s:Int)=some (.int .i64 ((x/2^s:Nat):Int)):=by unfold Y0;rw[if_neg (by omega)];simp only[show IntKind.i64.bits=64 from rfl,Int.toNat_natCast,Nat.min_eq_left hs];rw[Pk]
theorem eO{x:Nat}(hx:x<9223372036854775808):Zd .and .i64 (x:Int) 1=some (.int .i64 ((x%2:Nat):Int)):=by
 have qV:x<Zc:=Nat.lt_trans hx (by decide);have e:(BitVec.ofInt 64 (x:Int)&&&BitVec.ofInt 64 ((1:Nat):Int)).toNat=x&&&1:=by rw[BitVec.toNat_and,Mx qV,Mx (by decide)]
 show some (Value.int .i64 (IntKind.i64.wrap ((BitVec.ofInt 64 (x:Int)&&&BitVec.ofInt 64 ((1:Nat):Int)).toNat:Nat)))=_;rw[e,Nat.and_one_is_mod,R7 (by omega)]
theorem eG{A k:Nat}(hA:0<A):(Zm A-1)*k+1<=Zm (A^k):=by
 have h1:=W1 (n:=A) (by omega);have h2:2^((Zm A-1)*k)<=A^k:=by rw[Nat.pow_mul];exact Nat.pow_le_pow_left h1 k
 have h3:=Wq (A^k);have:=(Nat.pow_lt_pow_iff_right (a:=2) (by decide)).mp (Nat.lt_of_le_of_lt h2 h3);omega
theorem xk{x:Nat} :Zd .eql .i64 (x:Int) 1=some (.bool (decide (x=1))):=PD (y:=1)
theorem zN{x:Nat} :Zd .leq .i64 (x:Int) 1=some (.bool (decide (x<=1))):=P0 (y:=1)
theorem cO{A k i:Nat} :A^(k/2^i)=A^(k/2^(i+1))*A^(k/2^(i+1))*(if k/2^i%2=1 then A else 1):=by
 have h:k/2^i=k/2^(i+1)+k/2^(i+1)+k/2^i%2:=by
  have:k/2^(i+1)=k/2^i/2:=by rw[Nat.pow_succ,Nat.div_div_eq_div_mul]
  omega
 rw[<-Nat.pow_add];conv=>lhs;rw[h,Nat.pow_add]
 congr 1;split;·rename_i h1;rw[h1,Nat.pow_one]
 ·rw[show k/2^i%2=0 by omega,Nat.pow_zero]
section
variable {H : AH} {va vb : Value} {xs ys : List Nat} {A B : Nat}
theorem ZX{A:Nat}(h:Zm A<=67108864):(ds Zc A).length<=WU:=by have h1:A<2^Zm A:=Wq A;have h2:2^Zm A<=Zc^(Zm A):=Nat.pow_le_pow_left (by decide) _;have:=XB Z7 (Nat.lt_of_lt_of_le h1 h2);show(ds Zc A).length<=2000000000000;omega
theorem De{k:Nat}(ha:Sl H va (ds Zc A))(Li:0<k)(hk:k<=67108864)(hb:Zm (A^k)<=67108864): ∃u H',ZY Tryz.prog Zy 128 [va,.int .i64 (k:Int)] H=some (.tuple #[u,.int .i64 0],H')/\Zg H H'/\Ym H.n H' u (ds Zc (A^k)):=by
 suffices hs:CW Tryz.prog Zy 128 [va,.int .i64 (k:Int)] H fun v H'=> ∃u,v= .tuple #[u,.int .i64 0]/\Zg H H'/\Ym H.n H' u (ds Zc (A^k)) by obtain⟨v,H',hc,u,rfl,k,o⟩:=hs;exact⟨u,H',hc,k,o⟩
 have hbA:Zm A<=67108864:=by
  rcases Nat.eq_zero_or_pos A with h|h;·subst h;decide
  ·exact Nat.le_trans (ZE (Nat.le_self_pow (by omega) A)) hb
 have lA:=ZX hbA;obtain⟨v1,H1,c1,k1,o1⟩:=UX ha (Yv Z7 A) (Nat.le_trans lA (by decide));rw[YT Z7]at o1;have c2:=Wd o1.sl lA;have e0:Zd .eql .i64 (k:Int) 0=some (.bool false):=by rw[Ws,decide_eq_false (by omega)]
 obtain⟨L,hL⟩:=hid (Zm A);rw[<-hL]at c2;refine Z8 63 Tryz.func128 ?_;apply Zb;intro b1 Ze;simp;subst Ze;apply Zh;intro b1 Ze;apply Zb;intro b2 Zx;simp[Ko];subst Zx;refine Za (t:=false) (by simp) ?_;apply Zr;subst Ze;apply Zb;intro b1 Ze;simp[c1];subst Ze;apply Zh;intro b1 Ze;apply Zb;intro b2 Zx;simp[e0];subst Zx;refine Za (t:=false) (by simp) ?_;apply Zr;subst Ze;apply Zb;intro b1 Ze;simp[c2];subst Ze;apply Zh;intro b1 Ze;apply Zb;intro b2 Zx;simp[zN (x:=L)];subst Zx;by_cases bj:L<=1
 ·refine Za (t:=true) (by simp[bj]) ?_;apply Zb;intro b2 Zx;simp;subst Zx;apply Zu;simp[Yx];refine⟨k1,?_⟩;have:A^k=A:=by
   have h1:=Wq A;rw[<-hL]at h1;have:A<2:=Nat.lt_of_lt_of_le h1 (Nat.pow_le_pow_right (n:=2) (by decide) bj);have:A=0\/A=1:=by omega
   rcases this with rfl|rfl;·exact Nat.zero_pow Li
   ·exact Nat.one_pow _
  rw[this];exact o1
 ·refine Za (t:=false) (by simp[bj]) ?_;apply Zr;subst Ze;have D5:0<A:=by
   rcases Nat.eq_zero_or_pos A with h|h;·subst h;rw[hL]at bj;exact absurd (by decide) bj
   ·exact h
  have CK:=eG (k:=k) D5;rw[<-hL]at CK;have gk:Zd .gtr .i64 (k:Int) 67108864=some (.bool false):=by have h:=WW (k:= .i64) (x:=k) (y:=67108864);rw[decide_eq_false (by omega)]at h;exact h
  have hLk:(L-1)*k+1<=67108864:=Nat.le_trans CK hb;have g1:=Uf (x:=L) (by omega) (by omega);have g2:=mulN (x:=L-1) (y:=k) (by omega);have g3:=YR (x:=(L-1)*k) (by omega);have g4:Zd .gtr .i64 (((L-1)*k+1:Nat):Int) 67108864=some (.bool false):=by have h:=WW (k:= .i64) (x:=(L-1)*k+1) (y:=67108864);rw[decide_eq_false (by omega)]at h;exact h
  obtain⟨v3,H3,c3,k3,o3⟩:=Th (H:=H1) (x:=1) (by decide);have c3:ZY Tryz.prog Zy 164 [.int .u64 1] H1=some (v3,H3):=c3;apply Zh;intro b1 Ze;apply Zb;intro b2 Zx;simp[gk,g1,g2,g3,g4];subst Zx;refine Za (t:=false) (by simp) ?_;apply Zr;subst Ze;apply Zb;intro b1 Ze;simp[c3];subst Ze;apply Zh;intro b1 Ze;apply Zb;intro b2 Zx;simp;subst Zx;apply ZS;have Sd:=k1.trans k3;have kM:=o1.m k3;have e62:k/2^63=0:=Nat.div_eq_of_lt (Nat.lt_of_le_of_lt hk (by decide));refine YQ (fun m s'=>s'.k=63/\Zg H3 s'.H/\m<=63/\ ∃w,Ym H.n s'.H w (ds Zc (A^(k/2^m)))/\s'.tm.get 0=some v1/\s'.tm.get 1=some (.int .i64 (k:Int))/\s'.tm.get 7=some w/\s'.tm.get 8=some (.int .i64 ((m:Int)-1))) ?_ 63 _ ⟨rfl,.refl H3,by omega,v3,by rw[e62,Nat.pow_zero];exact o3.mono k1.n (.refl _),by simp,by simp,by simp,by simp⟩;rintro m ⟨kk,tm,H4⟩ ⟨PA,kH,hm63,w,ow,t0,t1,t7,t8⟩ Q' Y4;simp only at PA kH ow t0 t1 t7 t8;subst PA;apply Zh;intro b3 Z9;apply Zb;intro b4 Yz;simp[t8,NU (m:=m)];subst Yz;by_cases hm:0<m
  ·refine Za (t:=true) (by simp[hm]) ?_;apply Zr;subst Z9;obtain⟨i,rfl⟩: ∃i,m=i+1:=⟨m-1,by omega⟩;have em:((i+1:Nat):Int)-1=(i:Int):=by omega
   rw[em]at t8;have AU:=cO (A:=A) (k:=k) (i:=i);have hle:A^(k/2^i)<=A^k:=Nat.pow_le_pow_right D5 (Nat.div_le_self _ _);have hbi:Zm (A^(k/2^i))<=67108864:=Nat.le_trans (ZE hle) hb;obtain⟨C,hC⟩:=hid (A^(k/2^(i+1)));rw[<-hC]at ow AU;have xP:0<C:=by rw[hC];exact Nat.pow_pos D5
   have hCC:C*C<=A^(k/2^i):=by
    rw[AU];split;·exact Nat.le_mul_of_pos_right _ D5
    ·rw[Nat.mul_one];exact Nat.le_refl _
   have hbC:Zm (C*C)<=67108864:=Nat.le_trans (ZE hCC) hbi;have hbC1:Zm C<=67108864:=Nat.le_trans (ZE (Nat.le_mul_of_pos_right C xP)) hbC;obtain⟨u5,H5,c5,k5,o5⟩:=DS ow.sl (ZX hbC1) hbC;have lw:=ow.sl.len Zv;obtain⟨nw,vP⟩:=hid ((ds Zc C).length);rw[<-vP]at lw;have hnw0:0<nw:=by rw[vP];exact(Vj Z7).mpr xP
   have gl:Zd .gtr .i64 (nw:Int) 0=some (.bool true):=by rw[K7,decide_eq_true hnw0]
   have mP:k/2^i<9223372036854775808:=Nat.lt_of_le_of_lt (Nat.div_le_self _ _) (by omega);have gs:=oS (x:=k) (s:=i) (by omega);have ga:=eO mP;have ge:=xk (x:=k/2^i%2);apply Zh;intro b3 Z9;apply ZS;apply Zb;intro b4 Yz;simp;subst Yz;refine Y8 (fun s'=>s'.k=63/\s'.H=H5/\s'.tm.get 0=some v1/\s'.tm.get 1=some (.int .i64 (k:Int))/\s'.tm.get 7=some u5/\s'.tm.get 8=some (.int .i64 (i:Int))) ?_ ?_;·intro Gd We;apply Zb;intro b5 SP;simp[t7,lw,gl];subst SP;refine Za (t:=true) (by simp) ?_;apply Zb;intro b5 SP;simp[t7,c5];subst SP;apply Zb;intro b5 SP;simp[SH];subst SP;refine Za (t:=false) (by simp) ?_;apply Zr;apply We;exact⟨rfl,rfl,by simp[t0],by simp[t1],by simp,by simp[t8]⟩
   clear t0 t1 t7 t8;rintro⟨kk,tm,H6⟩ ⟨PA,hH,t0,t1,t7,t8⟩;simp only at PA hH t0 t1 t7 t8;subst PA;subst hH;apply Zb;intro b4 Yz;simp[t1,t8,gs,ga,ge];subst Yz;have kH6:Zg H3 H6:=kH.trans k5;have E6:=kM.m kH6;by_cases Ew:k/2^i%2=1
   ·rw[if_pos Ew]at AU;have hbM:Zm (C*C*A)<=67108864:=by rw[<-AU];exact hbi
    obtain⟨u7,H7,c7,k7,o7⟩:=R5 o5.sl E6.sl (ZX hbC) lA hbM;refine Za (t:=true) (by simp[Ew]) ?_;apply Zb;intro b4 Yz;simp[t0,t7,c7];subst Yz;apply Zb;intro b4 Yz;simp[SH];subst Yz;refine Za (t:=false) (by simp) ?_;apply Zr;subst Z9;apply Zk;simp[t8,TM (m:=i) (by omega)];apply Y4;refine⟨i,by omega,rfl,kH6.trans k7,by omega,u7,?_,by simp[t0],by simp[t1],by simp,by simp⟩;rw[AU];exact o7.mono (Nat.le_trans Sd.n kH6.n) (.refl _)
   ·rw[if_neg Ew,Nat.mul_one]at AU;refine Za (t:=false) (by simp[Ew]) ?_;apply Zr;subst Z9;apply Zk;simp[t8,TM (m:=i) (by omega)];apply Y4;refine⟨i,by omega,rfl,kH6,by omega,u5,?_,by simp[t0],by simp[t1],by simp[t7],by simp⟩;rw[AU];exact o5.mono (Nat.le_trans Sd.n kH.n) (.refl _)
  ·refine Za (t:=false) (by simp[hm]) ?_;apply YP;apply Y4;left;refine⟨rfl,?_⟩;obtain rfl:m=0:=by omega
   rw[Nat.pow_zero,Nat.div_one]at ow;subst Ze;apply Zb;intro b1 Ze;simp[t7];subst Ze;apply Zu;simp;exact⟨Sd.trans kH,ow⟩
end
def LQ(A r:Nat):Prop:=r*r<=A/\A<(r+1)*(r+1)
theorem Em(a b:Nat):4*(a*b)<=(a+b)*(a+b):=by
 rcases Nat.le_total a b with h|h
 ·obtain⟨d,rfl⟩:=Nat.le.dest h;have:(a+(a+d))*(a+(a+d))=4*(a*(a+d))+d*d:=by grind
  omega
 ·obtain⟨d,rfl⟩:=Nat.le.dest h;have:(b+d+b)*(b+d+b)=4*((b+d)*b)+d*d:=by grind
  omega
theorem jO{a b:Nat}(h:a<=b):a*a<=b*b:=Nat.mul_le_mul h h
theorem Zaj{a b:Nat}(h:a<b):a*a<b*b:=Nat.mul_lt_mul'' h h
theorem cx{A x:Nat}(hx:0<x):A<((x+A/x)/2+1)*((x+A/x)/2+1):=by
 have h1:A<x*(A/x+1):=by have:=Nat.div_add_mod A x;have:=Nat.mod_lt A hx;rw[Nat.mul_add,Nat.mul_one];omega
 have h2:=Em x (A/x+1);obtain⟨y,hy⟩:=hid ((x+A/x)/2);rw[<-hy];have h3:x+(A/x+1)<=2*(y+1):=by omega
 have h4:=jO h3;have h5:2*(y+1)*(2*(y+1))=4*((y+1)*(y+1)):=by grind
 omega
theorem E0{A x:Nat}(hx:0<x)(hA:A<(x+1)*(x+1))(h:x<=(x+A/x)/2):LQ A x:=by
 refine⟨?_,hA⟩;have h1:x<=A/x:=by omega
 have h2:x*x<=A/x*x:=Nat.mul_le_mul_right _ h1;exact Nat.le_trans h2 (Nat.div_mul_le_self A x)
theorem Cq{A x:Nat}(hx:0<x)(hA:A<(x+1)*(x+1)):A/x<=x+2:=by
 have:A<(x+3)*x:=by
  have:(x+1)*(x+1)=(x+2)*x+1:=by grind
  have:(x+3)*x=(x+2)*x+x:=by grind
  omega
 have:=(Nat.div_lt_iff_lt_mul hx).mpr this;omega
theorem bO{A r s:Nat}(h:LQ A r)(h':LQ A s):r=s:=by
 obtain⟨a,b⟩:=h;obtain⟨c,d⟩:=h';rcases Nat.lt_trichotomy r s with h|h|h;·have:=jO (show r+1<=s from h);omega
 ·exact h
 ·have:=jO (show s+1<=r from h);omega
theorem Vt{n k:Nat}(h:n<2^k):Zm n<=k:=by
 rcases Nat.eq_zero_or_pos n with h0|h0;·subst h0;exact Nat.zero_le _
 ·have h1:=W1 (n:=n) (by omega);have:=(Nat.pow_lt_pow_iff_right (a:=2) (by decide)).mp (Nat.lt_of_le_of_lt h1 h);omega
section
variable {H : AH} {va vb : Value} {xs ys : List Nat} {A B : Nat}
theorem EA(ha:Sl H va (ds Zc A))(hA:0<A)(hb:Zm A<=67108864): ∃u H',ZY Tryz.prog Zy 127 [va,.int .i64 2] H=some (u,H')/\Zg H H'/\ ∃r,LQ A r/\Ym H.n H' u (ds Zc r):=by
 suffices hs:CW Tryz.prog Zy 127 [va,.int .i64 2] H fun v H'=>Zg H H'/\ ∃r,LQ A r/\Ym H.n H' v (ds Zc r)from hs;have lA:=ZX hb;have c1:=Wd ha lA;obtain⟨L,hL⟩:=hid (Zm A);rw[<-hL]at c1 hb;have hAL:A<2^L:=by rw[hL];exact Wq A
 have g1:Zd .geq .i64 2 (L:Int)=some (.bool (decide (L<=2))):=NV (k:= .i64) (x:=2) (y:=L);refine Z8 72 Tryz.func127 ?_;apply Zb;intro b1 Ze;simp;subst Ze;apply Zb;intro b1 Ze;simp[c1];subst Ze;apply Zh;intro b1 Ze;apply Zb;intro b2 Zx;simp[g1];subst Zx;by_cases O0:L<=2;·obtain⟨v2,H2,c2,k2,o2⟩:=Th (H:=H) (x:=1) (by decide);have c2:ZY Tryz.prog Zy 164 [.int .u64 1] H=some (v2,H2):=c2;refine Za (t:=true) (by simp[O0]) ?_;apply Zb;intro b2 Zx;simp[c2];subst Zx;apply Zu;simp[Yx];refine⟨k2,1,⟨by omega,?_⟩,o2⟩;have:A<2^2:=Nat.lt_of_lt_of_le hAL (Nat.pow_le_pow_right (by decide) O0);omega
 ·refine Za (t:=false) (by simp[O0]) ?_;apply Zr;subst Ze;obtain⟨h,hh⟩:=hid ((L+1)/2);have g2:Zd .add .i64 (L:Int) 2=some (.int .i64 ((L+2:Nat):Int)):=WK (x:=L) (y:=2) (by omega);have g3:Zd .sub .i64 ((L+2:Nat):Int) 1=some (.int .i64 ((L+1:Nat):Int)):=Uf (x:=L+2) (by omega) (by omega);have g4:Zd .quo .i64 ((L+1:Nat):Int) 2=some (.int .i64 (h:Int)):=by rw[hh];exact Ks (x:=L+1) (y:=2) (by omega) (by decide)
  obtain⟨v2,H2,c2,k2,o2⟩:=Br (H:=H) (n:=h) (by omega);apply Zb;intro b1 Ze;simp[g2,g3,g4,c2];subst Ze;apply ZS;have vZ:A<(2^h+1)*(2^h+1):=by have h1:2^L<=2^(h+h):=Nat.pow_le_pow_right (by decide) (by omega);rw[Nat.pow_add]at h1;have h2:=Zaj (show 2^h<2^h+1 by omega);omega
  refine YQ (fun m s'=>s'.k=72/\Zg H s'.H/\0<m/\m<=2^h/\A<(m+1)*(m+1)/\ ∃w,Ym H.n s'.H w (ds Zc m)/\s'.tm.get 0=some va/\s'.tm.get 1=some (.int .i64 2)/\s'.tm.get 6=some w) ?_ (2^h) _ ⟨rfl,k2,Nat.pow_pos (by decide),Nat.le_refl _,vZ,v2,o2,by simp,by simp,by simp⟩;rintro x ⟨kk,tm,H4⟩ ⟨PA,kH,Kl,hxX,hAx,w,ow,t0,t1,t6⟩ Q' Y4;simp only at PA kH ow t0 t1 t6;subst PA;have hbx:Zm x<=60000000:=by
   have:x<2^(h+1):=by rw[Nat.pow_succ];omega
   have:=Vt this;omega
  obtain⟨v5,H5,c5,k5,o5⟩:=De (k:=1) ow.sl (by decide) (by decide) (by rw[Nat.pow_one];omega);rw[Nat.pow_one]at o5;have c5:ZY Tryz.prog Zy 128 [w,.int .i64 1] H4=some (.tuple #[v5,.int .i64 0],H5):=c5;have k45:=kH.trans k5;obtain⟨v6,H6,c6,k6,o6⟩:=VJ (ha.keep k45) o5.sl lA (ZX (by omega)) Kl (by omega);have ow5:=(ow.m k5).mono (Nat.le_refl _) k6;obtain⟨v7,H7,c7,k7,m7⟩:=BM (y:=1) ow5.sl (Yv Z7 x) (by decide) (Nat.le_trans (ZX (A:=x) (by omega)) (by decide));rw[YT Z7,Nat.mul_one]at m7;have c7:ZY Tryz.prog Zy 166 [w,.int .u64 1] H6=some (v7,H7):=c7;rcases m7 with⟨m7,_⟩|⟨_,u7,rfl,o7⟩;·omega
  have hq2:=Cq Kl hAx;have hs:x+A/x<2^(h+3):=by
   have:2^(h+3)=8*2^h:=by rw[Nat.pow_add];omega
   omega
  have bp:=Vt hs;obtain⟨v8,H8,c8,k8,o8⟩:=Lo o7.sl (o6.sl.keep k7) (ZX (by omega)) (ZX (Nat.le_trans (ZE (Nat.div_le_self A x)) (by omega))) (by omega);obtain⟨v9,H9,c9,k9,m9⟩:=Fl (y:=2) o8.sl (Yv Z7 _) (by decide) (by decide) (Nat.le_trans (ZX (A:=x+A/x) (by omega)) (by decide));rw[YT Z7]at m9;have JA:Zm ((x+A/x)/2)<=67108864:=Nat.le_trans (ZE (Nat.div_le_self _ 2)) (by omega);rcases m9 with⟨m9,_⟩|⟨_,u9,rfl,o9⟩;·omega
  obtain⟨rr,yA⟩:=hid ((x+A/x)%2);rw[<-yA]at c9;have c9:ZY Tryz.prog Zy 168 [v8,.int .u64 2] H8=some (.tuple #[u9,.int .u64 (rr:Int),.int .i64 0],H9):=c9;have hup:=cx (A:=A) Kl;have qZ:=E0 Kl hAx;obtain⟨y,hy⟩:=hid ((x+A/x)/2);rw[<-hy]at hup qZ JA o9;have ow9:=((ow5.m k7).mono (Nat.le_refl _) k8).mono (Nat.le_refl _) k9;obtain⟨vc,Hc,cc,ec,fV⟩:=UH o9.sl ow9.sl (Yv Z7 y) (Yv Z7 x) (Nat.le_trans (ZX JA) (by decide)) (Nat.le_trans (ZX (A:=x) (by omega)) (by decide));rw[YT Z7,YT Z7]at fV;rw[ec,fV]at cc;have gc:=Gy (a:=y) (b:=x);have k49:=(((k45.trans k6).trans k7).trans k8).trans k9;have s1:Zd .sub .i64 2 1=some (.int .i64 1):=rfl;have cv1:TY Tryz.prog 3 101 (.int .i64 1)=some (.int .u64 1):=PF (n:=1) (by decide);have cv2:TY Tryz.prog 3 101 (.int .i64 2)=some (.int .u64 2):=PF (n:=2) (by decide);apply ZS;apply Zb;intro b3 Z9;simp[t1,t6,s1,c5];subst Z9;apply Zb;intro b3 Z9;simp[t0,c6];subst Z9;apply Zb;intro b3 Z9;simp[t1,t6,s1,cv1,c7];subst Z9;apply Zb;intro b3 Z9;simp[c8];subst Z9;apply Zb;intro b3 Z9;simp[t1,cv2,c9];subst Z9;apply Zh;intro b3 Z9;apply Zb;intro b4 Yz;simp[t6,cc,gc];subst Yz;by_cases hyx:x<=y;·refine Za (t:=true) (by simp[hyx]) ?_;apply Zb;intro b4 Yz;simp[t6];subst Yz;apply Zu;simp[Yx,Yn];apply Y4;simp[T5,Yn,Yx];exact⟨k49,x,qZ hyx,ow9⟩
  ·refine Za (t:=false) (by simp[hyx]) ?_;apply Zr;subst Z9;apply Zk;simp;apply Y4;refine⟨y,by omega,rfl,k49,?_,by omega,hup,u9,o9.mono (Nat.le_trans (((((kH.trans k5).trans k6).trans k7).trans k8).n) (Nat.le_refl _)) (.refl _),by simp[t0],by simp[t1],by simp⟩;rcases Nat.eq_zero_or_pos y with h0|h0;·subst h0;omega
   ·exact h0
theorem cI(ha:Sl H va xs)(dx:YG Zc xs)(lx:xs.length<=17592186044416)(hb:Zm (dv Zc xs)<=67108864): ∃u w H',ZY Tryz.prog Zy 89 [va,.int .i64 2] H=some (.tuple #[u,w,.int .i64 0],H')/\Zg H H'/\ ∃r,LQ (dv Zc xs) r/\Ym H.n H' u (ds Zc r)/\Sl H' w (ds Zc (dv Zc xs-r*r)):=by
 suffices hs:CW Tryz.prog Zy 89 [va,.int .i64 2] H fun v H'=> ∃u w,v= .tuple #[u,w,.int .i64 0]/\Zg H H'/\ ∃r,LQ (dv Zc xs) r/\Ym H.n H' u (ds Zc r)/\Sl H' w (ds Zc (dv Zc xs-r*r)) by obtain⟨v,H',hc,u,w,rfl,k,o⟩:=hs;exact⟨u,w,H',hc,k,o⟩
 obtain⟨v1,H1,c1,k1,o1⟩:=JL ha dx lx hb;obtain⟨A,hA⟩:=hid (dv Zc xs);rw[<-hA]at o1 hb⊢;have lA:=ZX hb;have c2:=Wd o1.sl lA;obtain⟨L,hL⟩:=hid (Zm A);rw[<-hL]at c2;have g1:=Ws (k:= .i64) (x:=L);refine Z8 42 Tryz.func89 ?_;apply Zb;intro b1 Ze;simp;subst Ze;apply Zh;intro b1 Ze;apply Zb;intro b2 Zx;simp[show Zd .lss .i64 2 1=some (.bool false)from rfl];subst Zx;refine Za (t:=false) (by simp) ?_;apply Zr;subst Ze;apply Zb;intro b1 Ze;simp[c1];subst Ze;apply Zh;intro b1 Ze;apply Zb;intro b2 Zx;simp[SH];subst Zx;refine Za (t:=false) (by simp) ?_;apply Zr;subst Ze;apply Zh;intro b1 Ze;apply Zb;intro b2 Zx;simp[show Zd .eql .i64 2 1=some (.bool false)from rfl,c2,g1];subst Zx;by_cases h0:L=0;·refine Za (t:=true) (by simp[h0]) ?_;apply Zb;intro b2 Zx;simp;subst Zx;apply Zu;simp[Yx];have:A=0:=Tc.mp (by omega);subst this;exact⟨_,_,⟨rfl,rfl⟩,k1,0,⟨by decide,by decide⟩,o1,by rw[show ds Zc (0-0*0)=[]from XY _];exact .nil⟩
 ·refine Za (t:=false) (by simp[h0]) ?_;apply Zr;subst Ze;have D5:0<A:=by
   rcases Nat.eq_zero_or_pos A with h|h;·subst h;exact absurd hL h0
   ·exact h
  obtain⟨v3,H3,c3,k3,r,hr,o3⟩:=EA o1.sl D5 hb;have yA:Zm (r^2)<=67108864:=by rw[Nat.pow_two];exact Nat.le_trans (ZE hr.1) hb
  obtain⟨v4,H4,c4,k4,o4⟩:=De (k:=2) o3.sl (by decide) (by decide) yA;rw[Nat.pow_two]at o4 yA;have c4:ZY Tryz.prog Zy 128 [v3,.int .i64 2] H3=some (.tuple #[v4,.int .i64 0],H4):=c4;obtain⟨v5,H5,c5,k5,o5⟩:=bH ((o1.sl.keep k3).keep k4) o4.sl lA (ZX yA) hr.1 hb;apply Zb;intro b1 Ze;simp[c3];subst Ze;apply Zb;intro b1 Ze;simp[c4];subst Ze;apply Zb;intro b1 Ze;simp[c5];subst Ze;apply Zu;simp;exact⟨_,_,⟨rfl,rfl⟩,((k1.trans k3).trans k4).trans k5,r,hr,((o3.mono k1.n k4).mono (Nat.le_refl _) k5),o5.sl⟩
theorem HL(ha:Sl H va xs)(dx:YG Zc xs)(lx:xs.length<=17592186044416)(hb:Zm (dv Zc xs)<=67108864): ∃u w H',ZY Tryz.prog Zy 55 [va] H=some (.tuple #[u,w,.int .i64 0],H')/\Zg H H'/\ ∃r,LQ (dv Zc xs) r/\Ym H.n H' u (ds Zc r)/\Sl H' w (ds Zc (dv Zc xs-r*r)):=by
 suffices hs:CW Tryz.prog Zy 55 [va] H fun v H'=> ∃u w,v= .tuple #[u,w,.int .i64 0]/\Zg H H'/\ ∃r,LQ (dv Zc xs) r/\Ym H.n H' u (ds Zc r)/\Sl H' w (ds Zc (dv Zc xs-r*r)) by obtain⟨v,H',hc,u,w,rfl,k,o⟩:=hs;exact⟨u,w,H',hc,k,o⟩
 obtain⟨u,w,H1,c1,k1,o1⟩:=cI ha dx lx hb;refine Z8 10 Tryz.func55 ?_;apply Zb;intro b1 Ze;simp;subst Ze;apply Zb;intro b1 Ze;simp[c1];subst Ze;apply Zu;simp;exact⟨_,_,⟨rfl,rfl⟩,k1,o1⟩
end
theorem XV(H:AH)(sz:Nat)(cs:List Value):(H.new sz cs).n=H.n+1:=rfl
theorem XK(H:AH)(a:List Value): ∃H',H.new 1 a=H'/\Zg H H'/\H'.n=H.n+1/\H'.blk H.n= .rw 1 a:=⟨_,rfl,.new _ _ _,rfl,by rw[AH.blk_new,if_pos rfl]⟩
theorem Y9(H:AH)(a b:List Value): ∃H',(H.new 1 a).new 1 b=H'/\Zg H H'/\H'.n=H.n+2/\H'.blk H.n= .rw 1 a/\H'.blk (H.n+1)= .rw 1 b:=by obtain⟨H1,e1,k1,n1,q1⟩:=XK H a;obtain⟨H2,e2,k2,n2,q2⟩:=XK H1 b;exact⟨H2,by rw[e1,e2],k1.trans k2,by omega,by rw[k2.blk _ (by omega)];exact q1,by rw[<-n1];exact q2⟩
theorem Te(H:AH)(a b c:List Value): ∃H',((H.new 1 a).new 1 b).new 1 c=H'/\Zg H H'/\H'.n=H.n+3/\H'.blk H.n= .rw 1 a/\H'.blk (H.n+1)= .rw 1 b/\H'.blk (H.n+2)= .rw 1 c:=by obtain⟨H1,e1,k1,n1,q1,r1⟩:=Y9 H a b;obtain⟨H2,e2,k2,n2,q2⟩:=XK H1 c;exact⟨H2,by rw[e1,e2],k1.trans k2,by omega,by rw[k2.blk _ (by omega)];exact q1,by rw[k2.blk _ (by omega)];exact r1,by rw[<-n1];exact q2⟩
theorem Mw(H:AH)(a b c d:List Value): ∃H',(((H.new 1 a).new 1 b).new 1 c).new 1 d=H'/\Zg H H'/\H'.n=H.n+4/\H'.blk H.n= .rw 1 a/\H'.blk (H.n+1)= .rw 1 b/\H'.blk (H.n+2)= .rw 1 c/\H'.blk (H.n+3)= .rw 1 d:=by obtain⟨H1,e1,k1,n1,q1,r1⟩:=Y9 H a b;obtain⟨H2,e2,k2,n2,q2,r2⟩:=Y9 H1 c d;exact⟨H2,by rw[e1,e2],k1.trans k2,by omega,by rw[k2.blk _ (by omega)];exact q1,by rw[k2.blk _ (by omega)];exact r1,by rw[<-n1];exact q2,by rw[show H.n+3=H1.n+1 by omega];exact r2⟩
theorem TB{H:AH}{t:TypeId}{n b:Nat}{cs ws:List Value}(ht:Xk Tryz.prog t=some n)(hb:H.blk b= .rw 1 cs)(hc:cs.length=n){v:Value}(hv:v.cells.toList=ws)(hw:ws.length=n)(h1:ws.all one=true): ∃H',YZ Tryz.prog H t (.pointer (some ⟨b,0,none⟩)) v=some H'/\H'.n=H.n/\H'.blk b= .rw 1 ws/\(∀j,j≠b->H'.blk j=H.blk j)/\UR b H H':=by obtain⟨H',st,q,n1,o,ka,_⟩:=WE (o:=0) ht hb hv hw (by omega) h1;refine⟨H',st,n1,?_,o,ka⟩;rw[q,List.take_zero,List.nil_append,List.drop_of_length_le (by omega),List.append_nil]
theorem eW:Xx Tryz.prog 32=some true:=by kernel_rfl
theorem M3:Xk Tryz.prog 32=some 2:=by kernel_rfl
theorem RO:WA Tryz.prog 32=some (.agg #[.bool false,.slice none 0 0]):=by kernel_rfl
theorem Iu{H:AH}{b:Nat}{p' q' p q:Value}(hb:H.blk b= .rw 1 [p',q'])(h0:p.cells=#[p])(h1:q.cells=#[q])(h2:one p=true)(h3:one q=true): ∃H',YZ Tryz.prog H 32 (.pointer (some ⟨b,0,none⟩)) (.agg #[p,q])=some H'/\H'.n=H.n/\H'.blk b= .rw 1 [p,q]/\(∀j,j≠b->H'.blk j=H.blk j)/\UR b H H':=TB M3 hb rfl (by simp[Value.cells]) rfl (by simp[h2,h3])
theorem T4{H:AH}{b:Nat}{p q:Value}(hb:H.blk b= .rw 1 [p,q]):Z4 Tryz.prog H 32 (.pointer (some ⟨b,0,none⟩))=some (.agg #[p,q]):=by unfold Z4;simp only[eW,M3,AH.read_def,hb];simp[AH.cells_rw' hb,show Nat.ble 2 2=true from rfl]
theorem TC{H:AH}{b:Nat}{p q:Value}(hb:H.blk b= .rw 1 [p,q]):Z4 Tryz.prog H 4 (.pointer (some ⟨b,0,none⟩))=some p:=Yb Kz (AH.cells_rw' hb (by decide)) rfl
theorem V7{H:AH}{b:Nat}{p q:Value}(hb:H.blk b= .rw 1 [p,q]):Z4 Tryz.prog H 30 (.pointer (some ⟨b,1,none⟩))=some q:=Yb KY (AH.cells_rw' hb (by decide)) rfl
theorem Tg(b:Nat):Yc Tryz.prog 32 (.pointer (some ⟨b,0,none⟩)) 1=some (.pointer (some ⟨b,1,none⟩)):=Ld b 0
theorem OI{b:Bool}{v:Value}(hv: ∃a l c,v= .slice a l c):Wi Tryz.prog 32 [(0,.bool b),(1,v)]=some (.agg #[.bool b,v]):=by obtain⟨a,l,c,rfl⟩:=hv;rfl
theorem PG{v:Value}(hv: ∃a l c,v= .slice a l c):Wi Tryz.prog 32 [(1,v)]=some (.agg #[.bool false,v]):=by obtain⟨a,l,c,rfl⟩:=hv;rfl
theorem Ym.cells1{n:Nat}{H:AH}{v:Value}{xs:List Nat}(h:Ym n H v xs):v.cells=#[v]/\one v=true:=h.isSlice
section
variable {H : AH} {u va vb : Value} {xs ys : List Nat} {A B : Nat}
def sg(neg:Bool)(N:Nat):Bool:=neg&&decide (0<N)
theorem Nk(neg:Bool)(hs:Sl H u xs)(dx:YG Zc xs)(lx:xs.length<=17592186044416): ∃a H',ZY Tryz.prog Zy 195 [.agg #[.bool neg,u]] H=some (.agg #[.bool (sg neg (dv Zc xs)),a],H')/\Zg H H'/\Ym H.n H' a (ds Zc (dv Zc xs)):=by
 obtain⟨N,hN⟩:=hid (dv Zc xs);rw[<-hN];suffices h:CW Tryz.prog Zy 195 [.agg #[.bool neg,u]] H fun v H'=> ∃a,v= .agg #[.bool (sg neg N),a]/\Zg H H'/\Ym H.n H' a (ds Zc N) by obtain⟨v,H',hc,a,rfl,k,o⟩:=h;exact⟨a,H',hc,k,o⟩
 obtain⟨H2,e2,k2,n2,q1,q2⟩:=Y9 H [.bool neg,u] [.bool false,.slice none 0 0];obtain⟨w,H3,c3,k3,o3⟩:=UX (hs.keep k2) dx lx;rw[<-hN]at o3;have kJ:=k3.blk _ (show H.n<H2.n by omega);rw[q1]at kJ;have QC:=k3.blk _ (show H.n+1<H2.n by omega);rw[q2]at QC;obtain⟨i1,i2⟩:=o3.cells1;obtain⟨H4,Wx,n4,q4,b4,VX⟩:=Iu (p:= .bool (sg neg N)) (q:=w) QC rfl i1 rfl i2;have Rf:Zg H H4:=VX H (k2.trans k3) (by omega);have o4:Ym H.n H4 w (ds Zc N):=by have hb:T0 (some (H.n+1)) H3 H4:=⟨n4,fun j _ hj=>b4 j (fun e=>hj (by rw[e]))⟩;exact(o3.but hb (fun c hc hv=>by cases hc;have:=(o3.blk_lo hv).1;omega)).mono (by omega) (.refl _)
 have l3:=o3.sl.len Zv;obtain⟨m,hm⟩:=hid ((ds Zc N).length);rw[<-hm]at l3;have hmN:(0<m)↔0<N:=by rw[hm];exact Vj Z7
 have D7:=OI (b:=sg neg N) o3.shape;have YD:=T4 q4;obtain⟨S,hS⟩:=hid (sg neg N);rw[<-hS]at Wx D7 YD⊢;refine Z8 16 Tryz.func195 ?_;apply Zb;intro b1 Ze;simp[Value.cells,RO,XV,e2];subst Ze;apply Zb;intro b1 Ze;simp[Tg,V7 q1,c3];subst Ze;cases neg with
  |false=>
   have:S=false:=by rw[hS];rfl
   subst this;apply Zb;intro b1 Ze;simp[VY,TC kJ,D7,Wx];subst Ze;apply Zu;simp[YD];exact⟨Rf,o4⟩
  |true=>
   have hg:Zd .gtr .i64 (m:Int) 0=some (.bool S):=by rw[K7,hS];unfold sg;rw[Bool.true_and,decide_eq_decide.mpr hmN]
   apply Zb;intro b1 Ze;simp[VY,TC kJ,l3,hg,D7,Wx];subst Ze;apply Zu;simp[YD];exact⟨Rf,o4⟩
end
theorem Ym.off{n b:Nat}{H H':AH}{w:Value}{xs:List Nat}(o:Ym n H w xs)(hb:b<n)(hn:H'.n=H.n)(h: ∀j,j≠b->H'.blk j=H.blk j):Ym n H' w xs:=o.but (b:=some b) ⟨hn,fun j _ hj=>h j (fun e=>hj (by rw[e]))⟩ (fun c hc hv=>by cases hc;have:=(o.blk_lo hv).1;omega)
section
variable {H : AH} {u v va vb : Value} {xs ys : List Nat} {A B : Nat}
theorem BG(neg:Bool)(hs:Sl H u xs)(dx:YG Zc xs)(lx:xs.length<=17592186044416)(hb:Zm (dv Zc xs)<=67108864): ∃a H',ZY Tryz.prog Zy 220 [.agg #[.bool neg,u]] H=some (.tuple #[.agg #[.bool (sg neg (dv Zc xs)),a],.int .i64 0],H')/\Zg H H'/\Ym H.n H' a (ds Zc (dv Zc xs)):=by
 obtain⟨N,hN⟩:=hid (dv Zc xs);suffices h:CW Tryz.prog Zy 220 [.agg #[.bool neg,u]] H fun v H'=> ∃a,v= .tuple #[.agg #[.bool (sg neg N),a],.int .i64 0]/\Zg H H'/\Ym H.n H' a (ds Zc N) by obtain⟨v,H',hc,a,rfl,k,o⟩:=h;rw[<-hN];exact⟨a,H',hc,k,o⟩
 obtain⟨i1,i2⟩:=Sl.one1 hs|>fun h=>(⟨by obtain⟨a,l,c,rfl⟩:=hs.shape;rfl,h⟩:u.cells=#[u]/\one u=true);obtain⟨H2,e2,k2,n2,q1,q2⟩:=Y9 H [.bool neg,u] [.bool false,.slice none 0 0];obtain⟨v0,H0,c0,e0,e0'⟩:=Vh (hs.keep k2) dx lx;rw[e0,e0',<-hN]at c0;rw[<-hN]at hb;obtain⟨w,H3,c3,k3,o3⟩:=Nk neg (hs.keep k2) dx lx;rw[<-hN]at c3 o3;have QC:=k3.blk _ (show H.n+1<H2.n by omega);rw[q2]at QC;obtain⟨j1,j2⟩:=o3.cells1;obtain⟨S,hS⟩:=hid (sg neg N);rw[<-hS]at c3⊢;obtain⟨H4,Wx,n4,q4,b4,VX⟩:=Iu (p:= .bool S) (q:=w) QC rfl j1 rfl j2;have Rf:Zg H H4:=VX H (k2.trans k3) (by omega);have o4:=(o3.off (b:=H.n+1) (by omega) n4 b4).mono (show H.n<=H2.n by omega) (.refl _);have YD:=T4 q4;obtain⟨L,hL⟩:=hid (Zm N);rw[<-hL]at c0 hb;have g1:Zd .gtr .i64 (L:Int) 67108864=some (.bool false):=by have h:=WW (k:= .i64) (x:=L) (y:=67108864);rw[decide_eq_false (by omega)]at h;exact h
 refine Z8 11 Tryz.func220 ?_;apply Zb;intro b1 Ze;simp[Value.cells,RO,XV,e2];subst Ze;apply Zh;intro b1 Ze;apply Zb;intro b2 Zx;simp[Tg,V7 q1,c0,g1];subst Zx;refine Za (t:=false) (by simp) ?_;apply Zr;subst Ze;apply Zb;intro b1 Ze;simp[T4 q1,c3,Wx];subst Ze;apply Zu;simp[YD];exact⟨Rf,o4⟩
theorem QU(neg:Bool)(hs:Sl H u xs)(dx:YG Zc xs)(lx:xs.length<=17592186044416)(hb:Zm (dv Zc xs)<=67108864): ∃a H',ZY Tryz.prog Zy 194 [.bool neg,u,.int .i64 0] H=some (.tuple #[.agg #[.bool (sg neg (dv Zc xs)),a],.int .i64 0],H')/\Zg H H'/\Ym H.n H' a (ds Zc (dv Zc xs)):=by
 obtain⟨N,hN⟩:=hid (dv Zc xs);suffices h:CW Tryz.prog Zy 194 [.bool neg,u,.int .i64 0] H fun v H'=> ∃a,v= .tuple #[.agg #[.bool (sg neg N),a],.int .i64 0]/\Zg H H'/\Ym H.n H' a (ds Zc N) by obtain⟨v,H',hc,a,rfl,k,o⟩:=h;rw[<-hN];exact⟨a,H',hc,k,o⟩
 obtain⟨H2,e2,k2,n2,q2⟩:=XK H [.bool false,.slice none 0 0];obtain⟨w,H3,c3,k3,o3⟩:=BG neg (hs.keep k2) dx lx hb;rw[<-hN]at c3 o3;have QC:=k3.blk _ (show H.n<H2.n by omega);rw[q2]at QC;obtain⟨j1,j2⟩:=o3.cells1;obtain⟨S,hS⟩:=hid (sg neg N);rw[<-hS]at c3⊢;obtain⟨H4,Wx,n4,q4,b4,VX⟩:=Iu (p:= .bool S) (q:=w) QC rfl j1 rfl j2;have Rf:Zg H H4:=VX H (k2.trans k3) (by omega);have o4:=(o3.off (b:=H.n) (by omega) n4 b4).mono (show H.n<=H2.n by omega) (.refl _);have YD:=T4 q4;have D7:=OI (b:=neg) (v:=u) hs.shape;refine Z8 18 Tryz.func194 ?_;apply Zb;intro b1 Ze;simp[Value.cells,RO,XV,e2];subst Ze;apply Zh;intro b1 Ze;apply Zb;intro b2 Zx;simp[SH];subst Zx;refine Za (t:=false) (by simp) ?_;apply Zr;subst Ze;apply Zb;intro b1 Ze;simp[D7,c3,Wx];subst Ze;apply Zu;simp[YD];exact⟨Rf,o4⟩
theorem kf{n:Nat}(hn:n<9223372036854775808): ∃a H',ZY Tryz.prog Zy 196 [.int .i64 (n:Int)] H=some (.agg #[.bool false,a],H')/\Zg H H'/\Ym H.n H' a (ds Zc n):=by
 suffices h:CW Tryz.prog Zy 196 [.int .i64 (n:Int)] H fun v H'=> ∃a,v= .agg #[.bool false,a]/\Zg H H'/\Ym H.n H' a (ds Zc n) by obtain⟨v,H',hc,a,rfl,k,o⟩:=h;exact⟨a,H',hc,k,o⟩
 have hnB:n<Zc:=Nat.lt_trans hn (by decide);obtain⟨H2,e2,k2,n2,q2⟩:=XK H [.bool false,.slice none 0 0];obtain⟨w,H3,c3,k3,o3⟩:=Th (H:=H2) hnB;have QC:=k3.blk _ (show H.n<H2.n by omega);rw[q2]at QC;obtain⟨j1,j2⟩:=o3.cells1;obtain⟨H4,Wx,n4,q4,b4,VX⟩:=Iu (p:= .bool false) (q:=w) QC rfl j1 rfl j2;have Rf:Zg H H4:=VX H (k2.trans k3) (by omega);have o4:=(o3.off (b:=H.n) (by omega) n4 b4).mono (show H.n<=H2.n by omega) (.refl _);have YD:=T4 q4;have D7:=PG (v:=w) o3.shape;have cv:=PF hnB;refine Z8 14 Tryz.func196 ?_;apply Zb;intro b1 Ze;simp[Value.cells,RO,XV,e2];subst Ze;apply Zh;intro b1 Ze;apply Zb;intro b2 Zx;simp[Ko];subst Zx;refine Za (t:=false) (by simp) ?_;apply Zr;subst Ze;apply Zb;intro b1 Ze;simp[cv,c3,D7,Wx];subst Ze;apply Zu;simp[YD];exact⟨Rf,o4⟩
def Xy(neg:Bool)(N:Nat):Int:=if N=0 then 0 else if neg then-1 else 1
theorem BI(neg:Bool)(hs:Sl H u xs)(dx:YG Zc xs)(lx:xs.length<=17592186044416): ∃H',ZY Tryz.prog Zy 125 [.agg #[.bool neg,u]] H=some (.int .i64 (Xy neg (dv Zc xs)),H')/\Zg H H':=by
 obtain⟨N,hN⟩:=hid (dv Zc xs);suffices h:CW Tryz.prog Zy 125 [.agg #[.bool neg,u]] H fun v H'=>v= .int .i64 (Xy neg N)/\Zg H H' by obtain⟨v,H',hc,rfl,k⟩:=h;rw[<-hN];exact⟨H',hc,k⟩
 obtain⟨S,hS⟩:=hid (Xy neg N);rw[<-hS];unfold Xy at hS;obtain⟨H2,e2,k2,n2,q1⟩:=XK H [.bool neg,u];obtain⟨v0,H0,c0,e0,e0'⟩:=Vh (hs.keep k2) dx lx;rw[e0,e0',<-hN]at c0;obtain⟨L,hL⟩:=hid (Zm N);rw[<-hL]at c0;have g1:=Ws (k:= .i64) (x:=L);have hLN:L=0↔N=0:=by rw[hL];exact Tc
 refine Z8 11 Tryz.func125 ?_;apply Zb;intro b1 Ze;simp[Value.cells,XV,e2];subst Ze;apply Zh;intro b1 Ze;apply ZS;apply Zb;intro b2 Zx;simp[Tg,V7 q1,c0,g1];subst Zx;by_cases h0:L=0;·rw[if_pos (hLN.mp h0)]at hS;subst hS;refine Za (t:=true) (by simp[h0]) ?_;apply Zb;intro b1 Ze;simp;subst Ze;apply Zu;simp[Yx,Yn];exact k2
 ·rw[if_neg (fun h=>h0 (hLN.mpr h))]at hS;refine Za (t:=false) (by simp[h0]) ?_;apply Zb;intro b2 Zx;simp[VY,TC q1];subst Zx;cases neg with|true=>rw[if_pos rfl]at hS;subst hS;refine Za (t:=true) (by simp) ?_;apply Zb;intro b1 Ze;simp;subst Ze;apply Zu;simp[Yx,Yn];exact k2|false=>rw[if_neg (by decide)]at hS;subst hS;refine Za (t:=false) (by simp) ?_;apply Zr;subst Ze;apply Zb;intro b1 Ze;simp;subst Ze;apply Zu;simp;exact k2
theorem HI(s t:Bool)(ha:Sl H u (ds Zc A))(hb:Sl H v (ds Zc B))(lA:(ds Zc A).length<=WU)(lB:(ds Zc B).length<=WU)(h:Zm (A*B)<=67108864): ∃a H',ZY Tryz.prog Zy 143 [.agg #[.bool s,u],.agg #[.bool t,v]] H=some (.tuple #[.agg #[.bool (sg (s !=t) (A*B)),a],.int .i64 0],H')/\Zg H H'/\Ym H.n H' a (ds Zc (A*B)):=by
 suffices h:CW Tryz.prog Zy 143 [.agg #[.bool s,u],.agg #[.bool t,v]] H fun v H'=> ∃a,v= .tuple #[.agg #[.bool (sg (s !=t) (A*B)),a],.int .i64 0]/\Zg H H'/\Ym H.n H' a (ds Zc (A*B)) by obtain⟨v,H',hc,a,rfl,k,o⟩:=h;exact⟨a,H',hc,k,o⟩
 obtain⟨H2,e2,k2,n2,q1,q2,q3⟩:=Te H [.bool s,u] [.bool t,v] [.bool false,.slice none 0 0];obtain⟨w,H3,c3,k3,o3⟩:=R5 (ha.keep k2) (hb.keep k2) lA lB h;have kJ:=k3.blk _ (show H.n<H2.n by omega);rw[q1]at kJ;have QC:=k3.blk _ (show H.n+1<H2.n by omega);rw[q2]at QC;obtain⟨z,H4,c4,k4,o4⟩:=QU (s !=t) o3.sl (Yv Z7 _) (Nat.le_trans (ZX h) (by decide)) (by rw[YT Z7];exact h);rw[YT Z7]at c4 o4;have A9:=(k3.trans k4).blk _ (show H.n+2<H2.n by omega);rw[q3]at A9;obtain⟨j1,j2⟩:=o4.cells1;obtain⟨S,hS⟩:=hid (sg (s !=t) (A*B));rw[<-hS]at c4⊢;obtain⟨H5,Wo,n5,q5,b5,WH⟩:=Iu (p:= .bool S) (q:=z) A9 rfl j1 rfl j2;have n3:=k3.n;have Fv:Zg H H5:=WH H ((k2.trans k3).trans k4) (by omega);have o5:=(o4.off (b:=H.n+2) (by omega) n5 b5).mono (show H.n<=H3.n by omega) (.refl _);have YD:=T4 q5;have kY:Ys Tryz.prog .neq 4 (.bool s) (.bool t)=some (.bool (s !=t)):=by cases s<;>cases t<;>rfl
 obtain⟨x,hx⟩:=hid ((s !=t));rw[<-hx]at c4 kY;refine Z8 26 Tryz.func143 ?_;apply Zb;intro b1 Ze;simp[Value.cells,RO,XV,e2];subst Ze;apply Zb;intro b1 Ze;simp[Tg,V7 q1,V7 q2,c3];subst Ze;apply Zb;intro b1 Ze;simp[VY,TC kJ,TC QC,-Ys,kY,c4,Wo];subst Ze;apply Zu;simp[YD];exact⟨Fv,o5⟩
end
theorem putL{H:AH}{t:TypeId}{n b:Nat}{cs ws:List Value}(ht:Xk Tryz.prog t=some n)(hb:H.blk b= .rw 1 cs)(hc:cs.length=n){v:Value}(hv:v.cells.toList=ws)(hw:ws.length=n)(h1:ws.all one=true): ∃H',YZ Tryz.prog H t (.pointer (some ⟨b,0,none⟩)) v=some H'/\H'.n=H.n/\H'.blk b= .rw 1 ws/\(∀j,j≠b->H'.blk j=H.blk j)/\UR b H H'/\H'.lw=min H.lw b:=by obtain⟨H',st,q,n1,o,ka,lw⟩:=WE (o:=0) ht hb hv hw (by omega) h1;refine⟨H',st,n1,?_,o,ka,lw⟩;rw[q,List.take_zero,List.nil_append,List.drop_of_length_le (by omega),List.append_nil]
theorem Uo{H:AH}{t:TypeId}{n b:Nat}{cs ws:List Value}(ht:Xk Tryz.prog t=some n)(hb:H.blk b= .rw 1 cs)(JB:b<H.n)(hc:cs.length=n){v:Value}(hv:v.cells.toList=ws)(hw:ws.length=n)(h1:ws.all one=true): ∃H2,YZ Tryz.prog H.top t (.pointer (some ⟨b,0,none⟩)) v=some H2/\H2.n=H.n/\H2.lw<H.n/\(low H H2).n=H.n/\(low H H2).blk b= .rw 1 ws/\(∀j,j≠b->(low H H2).blk j=H.blk j)/\UR b H (low H H2):=by obtain⟨H2,st,n1,q,o,ka,lw⟩:=putL (H:=H.top) ht hb hc hv hw h1;exact⟨H2,st,n1,by rw[lw];show min H.n b<H.n;omega,n1,q,o,NG ka⟩
def QB(s:Bool)(A:Nat)(t:Bool)(B:Nat):Bool×Nat:=if sg s A=sg t B then(sg s A,A+B)else if A<B then(sg t B,B-A)else(sg s A,A-B)
section
variable {H : AH} {u v va vb : Value} {xs ys : List Nat} {A B : Nat}
theorem dn(s t:Bool)(ha:Sl H u (ds Zc A))(hb:Sl H v (ds Zc B))(lA:(ds Zc A).length<=WU)(lB:(ds Zc B).length<=WU)(h:Zm (A+B)<=67108864): ∃a H',ZY Tryz.prog Zy 144 [.agg #[.bool s,u],.agg #[.bool t,v]] H=some (.tuple #[.agg #[.bool (sg (QB s A t B).1 (QB s A t B).2),a],.int .i64 0],H')/\Zg H H'/\Ym H.n H' a (ds Zc (QB s A t B).2):=by
 suffices hs:CW Tryz.prog Zy 144 [.agg #[.bool s,u],.agg #[.bool t,v]] H fun v H'=> ∃a,v= .tuple #[.agg #[.bool (sg (QB s A t B).1 (QB s A t B).2),a],.int .i64 0]/\Zg H H'/\Ym H.n H' a (ds Zc (QB s A t B).2) by obtain⟨v,H',hc,a,rfl,k,o⟩:=hs;exact⟨a,H',hc,k,o⟩
 obtain⟨H2,e2,k2,n2,q1,q2,q3⟩:=Te H [.bool s,u] [.bool t,v] [.bool false,.slice none 0 0];have cA:u.cells=#[u]/\one u=true:=⟨by obtain⟨a,l,c,rfl⟩:=ha.shape;rfl,ha.one1⟩;have cB:v.cells=#[v]/\one v=true:=⟨by obtain⟨a,l,c,rfl⟩:=hb.shape;rfl,hb.one1⟩;obtain⟨w1,E1,c1,U3,o1⟩:=Nk s ((ha.keep k2).top) (Yv Z7 A) (Nat.le_trans lA (by decide));rw[YT Z7]at c1 o1;obtain⟨G1,UO⟩:=hid (grown H2 E1);have WQ:Zg H2 G1:=by rw[UO];exact Yi (.refl H2) U3
 have kM:Ym H2.n G1 w1 (ds Zc A):=by rw[UO];exact o1.same (Yo U3)
 have MG:H2.n<=E1.n:=U3.n;obtain⟨w2,E2,c2,EN,o2⟩:=Nk t ((hb.keep (k2.trans WQ)).top) (Yv Z7 B) (Nat.le_trans lB (by decide));rw[YT Z7]at c2 o2;obtain⟨G2,LK⟩:=hid (grown G1 E2);have J7:Zg G1 G2:=by rw[LK];exact Yi (.refl G1) EN
 have uf:Ym G1.n G2 w2 (ds Zc B):=by rw[LK];exact o2.same (Yo EN)
 have tB:G1.n<=E2.n:=EN.n;have ir:=WQ.trans J7;have ng:=ir.n;have ng1:=WQ.n;have E6:=kM.m J7;have cY:=uf.mono ng1 (.refl _);obtain⟨x,hx⟩:=hid (sg s A);obtain⟨y,hy⟩:=hid (sg t B);rw[<-hx]at c1;rw[<-hy]at c2;have r1:G2.blk H.n= .rw 1 [.bool s,u]:=by rw[ir.blk _ (by omega)];exact q1
 have r2:G2.blk (H.n+1)= .rw 1 [.bool t,v]:=by rw[ir.blk _ (by omega)];exact q2
 have r3:G2.blk (H.n+2)= .rw 1 [.bool false,.slice none 0 0]:=by rw[ir.blk _ (by omega)];exact q3
 obtain⟨i1,i2⟩:=E6.cells1;obtain⟨i3,i4⟩:=cY.cells1;obtain⟨S1,SB,L9,To,PC,RH,U5,RE⟩:=Uo (v:= .agg #[.bool x,w1]) (ws:=[.bool x,w1]) M3 r1 (by omega) rfl (by simp[Value.cells]) rfl (by simp[i2,show one (Value.bool x)=true from rfl]);obtain⟨F1,Pu⟩:=hid (low G2 S1);rw[<-Pu]at PC RH U5 RE;have r2':F1.blk (H.n+1)= .rw 1 [.bool t,v]:=by rw[U5 _ (by omega)];exact r2
 obtain⟨S2,TK,jR,SC,Lf,RN,QP,Pm⟩:=Uo (v:= .agg #[.bool y,w2]) (ws:=[.bool y,w2]) M3 r2' (by omega) rfl (by simp[Value.cells]) rfl (by simp[i4,show one (Value.bool y)=true from rfl]);obtain⟨F,hF⟩:=hid (low F1 S2);rw[<-hF]at Lf RN QP Pm;have f1:F.blk H.n= .rw 1 [.bool x,w1]:=by rw[QP _ (by omega)];exact RH
 have f3:F.blk (H.n+2)= .rw 1 [.bool false,.slice none 0 0]:=by rw[QP _ (by omega),U5 _ (by omega)];exact r3
 have kF:Zg H F:=Pm H (RE H (k2.trans ir) (by omega)) (by omega);have p1:Ym H2.n F w1 (ds Zc A):=(E6.off (b:=H.n) (by omega) PC U5).off (b:=H.n+1) (by omega) Lf QP;have p2:Ym H2.n F w2 (ds Zc B):=(cY.off (b:=H.n) (by omega) PC U5).off (b:=H.n+1) (by omega) Lf QP;have nF:F.n=G2.n:=by rw[Lf,PC]
 have l2: ∀bits ms,(∀x∈ms,H2.n<=x.2.1)->Z4 Tryz.prog (RP G1 bits ms) 32 (.pointer (some ⟨H.n+1,0,none⟩))=some (.agg #[.bool t,v]):=fun bits ms h=>T4 (by rw[(Y1 WQ h).blk _ (by omega)];exact q2);refine Z8 57 Tryz.func144 ?_;apply Zb;intro b1 Ze;simp[Value.cells,RO,XV,e2];subst Ze;apply Zh;intro b1 Ze;apply YI (by kernel_rfl);simp;refine Z0 (v:= .agg #[.bool s,u]) rfl rfl rfl (by rw[ZG rfl];simp[T4 (H:=H2.top) q1]) ?_;simp;refine YU (v:= .agg #[.bool x,w1]) (H2:=E1) rfl rfl rfl (by rw[ZG rfl];simp[c1]) MG (YO U3) ?_;rw[<-UO];generalize Pz:cond (Nat.blt H2.n E1.n) _ _=ms;have X8:=V8 Pz;simp;refine Z0 (v:= .agg #[.bool t,v]) rfl rfl rfl (by simp[l2 _ ms fun x hx=>(X8 x hx).2]) ?_;simp;refine YU (v:= .agg #[.bool y,w2]) (H2:=E2) rfl rfl rfl ?_ tB (YO EN) ?_;·rw[ZG (Yr fun x hx=>by rw[(X8 x hx).1];kernel_rfl)];simp[c2]
 rw[<-LK];generalize yK:cond (Nat.blt G1.n E2.n) _ _=Hy;have sN: ∀bits:Nat,bits.testBit 1=true->bits.testBit 3=true-> ∀x∈Hy,bits.testBit x.1=true:=fun bits b1 b3 x hx=>by rw[<-yK]at hx;cases hb:Nat.blt G1.n E2.n with
  |false=>rw[hb,cond_false]at hx;rw[(X8 x hx).1];exact b1
  |true=>
   rw[hb,cond_true]at hx;rcases List.mem_cons.mp hx with e|e;·rw[e];exact b3
   ·rw[(X8 x e).1];exact b1
 simp;refine YH (v:= .tuple #[]) (H2:=S1) rfl rfl (by kernel_rfl) (Yr (sN _ (by kernel_rfl) (by kernel_rfl))) ?_ (by omega) To ?_;·show Z2 _ _ _ _ G2.top _=_;simp[SB]
 rw[show({ n:=S1.n,lw:=min G2.lw S1.lw,t:=S1.t } :AH)=F1 from Pu.symm];rw[show Nat.blt G2.n S1.n=false from by rw[L9];exact XE _,cond_false];simp;refine YH (v:= .tuple #[]) (H2:=S2) rfl rfl (by kernel_rfl) (Yr (sN _ (by kernel_rfl) (by kernel_rfl))) ?_ (by omega) SC ?_;·show Z2 _ _ _ _ F1.top _=_;simp[TK]
 rw[show({ n:=S2.n,lw:=min F1.lw S2.lw,t:=S2.t } :AH)=F from hF.symm];simp;subst Ze;clear Pz X8 yK sN;have Qn:QB s A t B=if x=y then(x,A+B)else if A<B then(y,B-A)else(x,A-B):=by rw[hx,hy];rfl
 obtain⟨Z,hZ⟩:=hid (QB s A t B);rw[<-hZ]at Qn⊢;clear c1 c2 o1 o2 SB TK;have geq:Ys Tryz.prog .eql 4 (.bool x) (.bool y)=some (.bool (decide (x=y))):=by cases x<;>cases y<;>rfl
 have hbA:Zm A<=67108864:=Nat.le_trans (ZE (by omega)) h;have hbB:Zm B<=67108864:=Nat.le_trans (ZE (by omega)) h;apply Zh;intro b1 Ze;apply Zb;intro b2 Zx;simp[VY,TC f1,TC RN,-Ys,geq];subst Zx;by_cases GR:x=y
 ·rw[if_pos GR]at Qn;subst Qn;obtain⟨w,H3,c3,k3,o3⟩:=Lo p1.sl p2.sl lA lB h;obtain⟨z,H4,c4,k4,o4⟩:=QU x o3.sl (Yv Z7 _) (Nat.le_trans (ZX h) (by decide)) (by rw[YT Z7];exact h);rw[YT Z7]at c4 o4;have g1:H3.blk H.n= .rw 1 [.bool x,w1]:=by rw[k3.blk _ (by omega)];exact f1
  have g3:H4.blk (H.n+2)= .rw 1 [.bool false,.slice none 0 0]:=by rw[(k3.trans k4).blk _ (by omega)];exact f3
  obtain⟨j1,j2⟩:=o4.cells1;obtain⟨S,hS⟩:=hid (sg x (A+B));rw[<-hS]at c4⊢;obtain⟨H5,Wo,n5,q5,b5,WH⟩:=Iu (p:= .bool S) (q:=z) g3 rfl j1 rfl j2;have n3:=k3.n;have Fv:Zg H H5:=WH H ((kF.trans k3).trans k4) (by omega);have o5:=(o4.off (b:=H.n+2) (by omega) n5 b5).mono (show H.n<=H3.n by omega) (.refl _);have YD:=T4 q5;refine Za (t:=true) (by simp[GR]) ?_;apply Zb;intro b1 Ze;simp[Tg,V7 f1,V7 RN,c3];subst Ze;apply Zb;intro b2 Zx;simp[VY,TC g1,c4,Wo];subst Zx;apply Zu;simp[Yx,YD];exact⟨Fv,o5⟩
 ·rw[if_neg GR]at Qn;refine Za (t:=false) (by simp[GR]) ?_;apply Zr;subst Ze;obtain⟨vc,Hc,cc,ec,fV⟩:=UH p1.sl p2.sl (Yv Z7 A) (Yv Z7 B) (Nat.le_trans lA (by decide)) (Nat.le_trans lB (by decide));rw[YT Z7,YT Z7]at fV;rw[ec,fV]at cc;have gc:Zd .lss .i64 (XL A B) 0=some (.bool (decide (A<B))):=by rw[nY,decide_eq_decide.mpr Ke]
  refine Y8 (fun s'=>s'.k=57/\ ∃(x':Bool) (A' B':Nat) (w w':Value) (y':Value),Z=(x',A'-B')/\B'<=A'/\A'<=A+B/\F.n=s'.H.n/\Zg H s'.H/\s'.H.blk H.n= .rw 1 [.bool x',w]/\s'.H.blk (H.n+1)= .rw 1 [y',w']/\s'.H.blk (H.n+2)= .rw 1 [.bool false,.slice none 0 0]/\Ym H2.n s'.H w (ds Zc A')/\Ym H2.n s'.H w' (ds Zc B')/\s'.tm.get 2=some (.pointer (some ⟨H.n,0,none⟩))/\s'.tm.get 3=some (.pointer (some ⟨H.n+1,0,none⟩))/\s'.tm.get 4=some (.pointer (some ⟨H.n+2,0,none⟩))) ?_ ?_
  ·intro Q' Y4;apply Zb;intro b2 Zx;simp[Tg,V7 f1,V7 RN,cc,gc];subst Zx;by_cases hAB:A<B
   ·rw[if_pos hAB]at Qn;obtain⟨H3,TJ,n3,g1,b3,O5⟩:=Iu (p:= .bool y) (q:=w2) f1 rfl i3 rfl i4;have g2:H3.blk (H.n+1)= .rw 1 [.bool y,w2]:=by rw[b3 _ (by omega)];exact RN
    obtain⟨H4,Wx,n4,g4,b4,VX⟩:=Iu (p:= .bool x) (q:=w1) g2 rfl i1 rfl i2;refine Za (t:=true) (by simp[hAB]) ?_;apply Zk;simp[T4 f1,T4 RN,TJ,Wx];apply Y4;refine⟨rfl,y,B,A,w2,w1,_,Qn,by omega,by omega,by show F.n=H4.n;omega,VX H (O5 H kF (by omega)) (by omega),?_,g4,?_,?_,?_,by simp,by simp,by simp⟩;·show H4.blk H.n=_;rw[b4 _ (by omega)];exact g1
    ·show H4.blk (H.n+2)=_;rw[b4 _ (by omega),b3 _ (by omega)];exact f3
    ·exact(p2.off (b:=H.n) (by omega) n3 b3).off (b:=H.n+1) (by omega) n4 b4
    ·exact(p1.off (b:=H.n) (by omega) n3 b3).off (b:=H.n+1) (by omega) n4 b4
   ·rw[if_neg hAB]at Qn;refine Za (t:=false) (by simp[hAB]) ?_;apply Zr;apply Y4;exact⟨rfl,x,A,B,w1,w2,_,Qn,by omega,by omega,rfl,kF,f1,RN,f3,p1,p2,by simp,by simp,by simp⟩
  clear p1 p2 f1 RN f3 cc gc Qn;rintro⟨kk,tm,F'⟩ ⟨PA,x',A',B',w,w',y',hZ',hle,hlA,hnF,kF',f1,f2,f3,p1,p2,t2,t3,t4⟩;simp only at PA hnF kF' f1 f2 f3 p1 p2 t2 t3 t4;subst PA;subst hZ';have mZ:Zm A'<=67108864:=Nat.le_trans (ZE hlA) h;have hbB':Zm B'<=67108864:=Nat.le_trans (ZE hle) mZ;have hbD:Zm (A'-B')<=67108864:=Nat.le_trans (ZE (Nat.sub_le _ _)) mZ;obtain⟨w5,H3,c3,k3,o3⟩:=Lp p1.sl p2.sl (ZX mZ) (ZX hbB') hle mZ;obtain⟨z,H4,c4,k4,o4⟩:=QU x' o3.sl (Yv Z7 _) (Nat.le_trans (ZX hbD) (by decide)) (by rw[YT Z7];exact hbD);rw[YT Z7]at c4 o4;have g1:H3.blk H.n= .rw 1 [.bool x',w]:=by rw[k3.blk _ (by omega)];exact f1
  have g3:H4.blk (H.n+2)= .rw 1 [.bool false,.slice none 0 0]:=by rw[(k3.trans k4).blk _ (by omega)];exact f3
  obtain⟨j1,j2⟩:=o4.cells1;obtain⟨S,hS⟩:=hid (sg x' (A'-B'));rw[<-hS]at c4;obtain⟨H5,Wo,n5,q5,b5,WH⟩:=Iu (p:= .bool S) (q:=z) g3 rfl j1 rfl j2;have n3:=k3.n;have Fv:Zg H H5:=WH H ((kF'.trans k3).trans k4) (by omega);have o5:=(o4.off (b:=H.n+2) (by omega) n5 b5).mono (show H.n<=H3.n by omega) (.refl _);have YD:=T4 q5;apply Zb;intro b1 Ze;simp[t2,t3,Tg,V7 f1,V7 f2,c3];subst Ze;apply Zb;intro b1 Ze;simp[t2,t4,VY,TC g1,c4,Wo];subst Ze;apply Zu;simp[t4,YD,hS];exact⟨Fv,o5⟩
end
theorem eX:Xx Tryz.prog 34=some true:=by kernel_rfl
theorem VF:Xk Tryz.prog 34=some 3:=by kernel_rfl
theorem Wt:WA Tryz.prog 34=some (.agg #[.bool false,.slice none 0 0,.slice none 0 0]):=by kernel_rfl
theorem SQ(b:Nat):Yc Tryz.prog 34 (.pointer (some ⟨b,0,none⟩)) 0=some (.pointer (some ⟨b,0,none⟩)):=ky b 0
theorem Oj(b:Nat):Yc Tryz.prog 34 (.pointer (some ⟨b,0,none⟩)) 1=some (.pointer (some ⟨b,2,none⟩)):=rT b 0
theorem YM{H:AH}{b:Nat}{p q r:Value}(hb:H.blk b= .rw 1 [p,q,r]):Z4 Tryz.prog H 34 (.pointer (some ⟨b,0,none⟩))=some (.agg #[p,q,r]):=by unfold Z4;simp only[eX,VF,AH.read_def,hb];simp[AH.cells_rw' hb,show Nat.ble 3 3=true from rfl]
theorem Bb{H:AH}{b:Nat}{p q r:Value}(hb:H.blk b= .rw 1 [p,q,r]):Z4 Tryz.prog H 32 (.pointer (some ⟨b,0,none⟩))=some (.agg #[p,q]):=by unfold Z4;simp only[eW,M3,AH.read_def,hb];simp[AH.cells_rw' hb,show Nat.ble 2 3=true from rfl]
theorem PY{H:AH}{b:Nat}{p q r:Value}(hb:H.blk b= .rw 1 [p,q,r]):Z4 Tryz.prog H 4 (.pointer (some ⟨b,0,none⟩))=some p:=Yb Kz (AH.cells_rw' hb (by decide)) rfl
theorem Vx{H:AH}{b:Nat}{p q r:Value}(hb:H.blk b= .rw 1 [p,q,r]):Z4 Tryz.prog H 30 (.pointer (some ⟨b,1,none⟩))=some q:=Yb KY (AH.cells_rw' hb (by decide)) rfl
theorem VN{H:AH}{b:Nat}{p q r:Value}(hb:H.blk b= .rw 1 [p,q,r]):Z4 Tryz.prog H 30 (.pointer (some ⟨b,2,none⟩))=some r:=Yb KY (AH.cells_rw' hb (by decide)) rfl
theorem fF{A B:Nat}(hA:0<A):Nat.gcd A B<=A:=Nat.le_of_dvd hA (Nat.gcd_dvd_left A B)
section
variable {H : AH} {u v va vb : Value} {xs ys : List Nat} {A B : Nat}
theorem Wl(u:Value)(H:AH):ZY Tryz.prog Zy 140 [u,.int .i64 0] H=some (u,H):=by
 suffices h:CW Tryz.prog Zy 140 [u,.int .i64 0] H fun v H'=>v=u/\H'=H by obtain⟨v,H',hc,rfl,rfl⟩:=h;exact hc
 refine Z8 11 Tryz.func140 ?_;apply Zb;intro b1 Ze;simp;subst Ze;apply Zh;intro b1 Ze;apply Zb;intro b2 Zx;simp[SH];subst Zx;refine Za (t:=false) (by simp) ?_;apply Zr;subst Ze;apply Zb;intro b1 Ze;simp;subst Ze;apply Zu;simp
theorem Dc(neg:Bool)(ha:Sl H u xs)(hb:Sl H v ys)(dx:YG Zc xs)(dy:YG Zc ys)(lx:xs.length<=17592186044416)(ly:ys.length<=17592186044416)(eA:dv Zc xs=A)(eB:dv Zc ys=B)(hA:Zm A<=67108864)(hB:Zm B<=67108864)(Ml:0<B): ∃p q H',ZY Tryz.prog Zy 124 [.agg #[.bool neg,u,v]] H=some (.tuple #[.bool (Z6 neg A B).1,p,q],H')/\Zg H H'/\Ym H.n H' p (ds Zc (Z6 neg A B).2.1)/\Ym H.n H' q (ds Zc (Z6 neg A B).2.2)/\Vq p q:=by
 obtain⟨r,hr⟩:=hid (Z6 neg A B);rw[<-hr];unfold Z6 at hr;suffices hs:CW Tryz.prog Zy 124 [.agg #[.bool neg,u,v]] H fun v H'=> ∃p q,v= .tuple #[.bool r.1,p,q]/\Zg H H'/\Ym H.n H' p (ds Zc r.2.1)/\Ym H.n H' q (ds Zc r.2.2)/\Vq p q by obtain⟨v,H',hc,p,q,rfl,k,o⟩:=hs;exact⟨p,q,H',hc,k,o⟩
 have lA:=ZX hA;have lB:=ZX hB;obtain⟨H2,e2,k2,n2,q1⟩:=XK H [.bool neg,u,v];obtain⟨w1,E1,c1,U3,o1⟩:=UX ((ha.keep k2).top) dx lx;rw[eA]at o1;obtain⟨G1,UO⟩:=hid (grown H2 E1);have WQ:Zg H2 G1:=by rw[UO];exact Yi (.refl H2) U3
 have kM:Ym H2.n G1 w1 (ds Zc A):=by rw[UO];exact o1.same (Yo U3)
 have MG:H2.n<=E1.n:=U3.n;obtain⟨w2,E2,c2,EN,o2⟩:=UX ((hb.keep (k2.trans WQ)).top) dy ly;rw[eB]at o2;obtain⟨G2,LK⟩:=hid (grown G1 E2);have J7:Zg G1 G2:=by rw[LK];exact Yi (.refl G1) EN
 have uf:Ym G1.n G2 w2 (ds Zc B):=by rw[LK];exact o2.same (Yo EN)
 have tB:G1.n<=E2.n:=EN.n;have ir:=WQ.trans J7;have ng:=ir.n;have ng1:=WQ.n;have E6:=kM.m J7;have cY:=uf.mono ng1 (.refl _);have l2: ∀bits ms,(∀x∈ms,H2.n<=x.2.1)->Z4 Tryz.prog (RP G1 bits ms) 30 (.pointer (some ⟨H.n,2,none⟩))=some v:=fun bits ms h=>VN (by rw[(Y1 WQ h).blk _ (by omega)];exact q1);have kJ:G2.blk H.n= .rw 1 [.bool neg,u,v]:=by rw[ir.blk _ (by omega)];exact q1
 have kF:=k2.trans ir;refine Z8 42 Tryz.func124 ?_;apply Zb;intro b1 Ze;simp[Value.cells,XV,e2];subst Ze;apply Zh;intro b1 Ze;apply YI (by kernel_rfl);simp[SQ,Tg];refine Z0 (v:=u) rfl rfl rfl (by rw[ZG rfl];simp[Vx (H:=H2.top) q1]) ?_;simp;refine YU (v:=w1) (H2:=E1) rfl rfl rfl (by rw[ZG rfl];simp[c1]) MG (YO U3) ?_;rw[<-UO];generalize Pz:cond (Nat.blt H2.n E1.n) _ _=ms;have X8:=V8 Pz;simp[Oj];refine Z0 (v:=v) rfl rfl rfl (by simp[l2 _ ms fun x hx=>(X8 x hx).2]) ?_;simp;refine YU (v:=w2) (H2:=E2) rfl rfl rfl ?_ tB (YO EN) ?_;·rw[ZG (Yr fun x hx=>by rw[(X8 x hx).1];kernel_rfl)];simp[c2]
 rw[<-LK];simp;subst Ze;clear Pz X8;have l1:=E6.sl.len Zv;have l2':=cY.sl.len Zv;obtain⟨m1,mN⟩:=hid ((ds Zc A).length);obtain⟨m2,bZ⟩:=hid ((ds Zc B).length);rw[<-mN]at l1;rw[<-bZ]at l2';have z1:m1=0↔A=0:=by rw[mN];exact Wu Z7
 have z2:m2=0↔B=0:=by rw[bZ];exact Wu Z7
 have g1:=Ws (k:= .i64) (x:=m1);have g2:Zd .eql .i64 (m2:Int) 0=some (.bool false):=by rw[Ws,decide_eq_false (by omega)]
 apply Zh;intro b1 Ze;apply Zb;intro b2 Zx;simp[l2',g2];subst Zx;refine Za (t:=false) (by simp) ?_;apply Zr;subst Ze;apply Zh;intro b1 Ze;apply Zb;intro b2 Zx;simp[l1,g1];subst Zx;by_cases h0:m1=0;·rw[if_pos (z1.mp h0)]at hr;subst hr;obtain⟨w3,H3,c3,k3,o3⟩:=Th (H:=G2) (x:=1) (by decide);have c3:ZY Tryz.prog Zy 164 [.int .u64 1] G2=some (w3,H3):=c3;refine Za (t:=true) (by simp[h0]) ?_;apply Zb;intro b2 Zx;simp[c3];subst Zx;apply Zu;simp[Yx];exact⟨_,_,⟨rfl,rfl⟩,kF.trans k3,by rw[XY];exact .nil,o3.mono kF.n (.refl _),fun b hb=>by cases hb⟩
 ·have D5:0<A:=by have: ¬A=0:=fun h=>h0 (z1.mpr h);omega
  rw[if_neg (by omega)]at hr;subst hr;refine Za (t:=false) (by simp[h0]) ?_;apply Zr;subst Ze;obtain⟨w3,H3,c3,k3,o3⟩:=Pn E6.sl cY.sl lA lB;have yy:0<Nat.gcd A B:=ml D5;have hgA:=fF (B:=B) D5;have lg:=ZX (Nat.le_trans (ZE hgA) hA);apply Zb;intro b1 Ze;simp[c3];subst Ze;obtain⟨w4,E4,c4,kE4,o4⟩:=VJ ((E6.sl.keep k3).top) (o3.sl.top) lA lg yy hA;obtain⟨G4,vr⟩:=hid (grown H3 E4);have kG4:Zg H3 G4:=by rw[vr];exact Yi (.refl H3) kE4
  have o4':Ym H3.n G4 w4 (ds Zc (A/Nat.gcd A B)):=by rw[vr];exact o4.same (Yo kE4)
  have nE4:H3.n<=E4.n:=kE4.n;obtain⟨w5,E5,c5,vF,o5⟩:=VJ (((cY.sl.keep k3).keep kG4).top) ((o3.sl.keep kG4).top) lB lg yy hB;obtain⟨G5,xK⟩:=hid (grown G4 E5);have kG5:Zg G4 G5:=by rw[xK];exact Yi (.refl G4) vF
  have o5':Ym G4.n G5 w5 (ds Zc (B/Nat.gcd A B)):=by rw[xK];exact o5.same (Yo vF)
  have nE5:G4.n<=E5.n:=vF.n;have r1:H3.blk H.n= .rw 1 [.bool neg,u,v]:=by rw[k3.blk _ (by omega)];exact kJ
  have vG:=kG4.trans kG5;apply Zh;intro b1 Ze;apply YI (by kernel_rfl);simp[SQ,VY];refine Z0 (v:= .bool neg) rfl rfl rfl (by rw[ZG rfl];simp[PY (H:=H3.top) r1]) ?_;simp;refine YU (v:= .tuple #[w4,.int .i64 0]) (H2:=E4) rfl rfl rfl (by rw[ZG rfl];simp[c4]) nE4 (YO kE4) ?_;rw[<-vr];generalize Pz:cond (Nat.blt H3.n E4.n) _ _=ms;have X8:=V8 Pz;simp;refine Z0 (v:=w4) rfl rfl rfl (by simp[Wl]) ?_;simp;refine YU (v:= .tuple #[w5,.int .i64 0]) (H2:=E5) rfl rfl rfl ?_ nE5 (YO vF) ?_;·rw[ZG (Yr fun x hx=>by rw[(X8 x hx).1];kernel_rfl)];simp[c5]
  rw[<-xK];simp;refine Z0 (v:=w5) rfl rfl rfl (by simp[Wl]) ?_;simp;subst Ze;apply Zu;simp;exact⟨_,_,⟨rfl,rfl⟩,(kF.trans k3).trans vG,(o4'.mono (by have:=k3.n;omega) kG5),o5'.mono (by have:=k3.n;have:=kG4.n;omega) (.refl _),fun b hb e=>by have h1:=(o4'.blk_lo hb).2;have h2:=(o5'.blk_lo e).1;omega⟩
end
theorem OJ{x:Bool}{p q:Value}(hp: ∃a l c,p= .slice a l c)(hq: ∃a l c,q= .slice a l c):Wi Tryz.prog 34 [(0,.agg #[.bool x,p]),(1,q)]=some (.agg #[.bool x,p,q]):=by obtain⟨a,l,c,rfl⟩:=hp;obtain⟨a',l',c',rfl⟩:=hq;rfl
theorem SF{H:AH}{b:Nat}{p' q' r' p q r:Value}(hb:H.blk b= .rw 1 [p',q',r'])(h0:p.cells=#[p])(h1:q.cells=#[q])(h1':r.cells=#[r])(h2:one p=true)(h3:one q=true)(bb:one r=true): ∃H',YZ Tryz.prog H 34 (.pointer (some ⟨b,0,none⟩)) (.agg #[p,q,r])=some H'/\H'.n=H.n/\H'.blk b= .rw 1 [p,q,r]/\(∀j,j≠b->H'.blk j=H.blk j)/\UR b H H':=TB VF hb rfl (by simp[Value.cells]) rfl (by simp[h2,h3,bb])
theorem Ym.trio{n:Nat}{H:AH}{v:Value}{xs:List Nat}(h:Ym n H v xs):v.cells=#[v]/\one v=true/\ ∃a l c,v= .slice a l c:=⟨h.cells1.1,h.cells1.2,h.shape⟩
theorem M1:Xk Tryz.prog 23=some 1:=by kernel_rfl
theorem KZ:Xx Tryz.prog 23=some false:=by kernel_rfl
theorem IW:WA Tryz.prog 23=some (.int .i64 0):=by kernel_rfl
theorem qO:Ys Tryz.prog .eql 20 .nilIface .nilIface=some (.bool true):=by kernel_rfl
section
variable {H : AH} {u v va vb : Value} {xs ys : List Nat} {A B : Nat}
theorem PQ(neg:Bool)(ha:Sl H u xs)(hb:Sl H v ys)(dx:YG Zc xs)(dy:YG Zc ys)(lx:xs.length<=17592186044416)(ly:ys.length<=17592186044416)(eA:dv Zc xs=A)(eB:dv Zc ys=B)(hA:Zm A<=67108864)(hB:Zm B<=67108864)(Ml:0<B): ∃p q H',ZY Tryz.prog Zy 84 [.agg #[.bool neg,u,v]] H=some (.agg #[.bool (Z6 neg A B).1,p,q],H')/\Zg H H'/\Ym H.n H' p (ds Zc (Z6 neg A B).2.1)/\Ym H.n H' q (ds Zc (Z6 neg A B).2.2)/\Vq p q:=by
 obtain⟨r,hr⟩:=hid (Z6 neg A B);suffices hs:CW Tryz.prog Zy 84 [.agg #[.bool neg,u,v]] H fun v H'=> ∃p q,v= .agg #[.bool r.1,p,q]/\Zg H H'/\Ym H.n H' p (ds Zc r.2.1)/\Ym H.n H' q (ds Zc r.2.2)/\Vq p q by obtain⟨v,H',hc,p,q,rfl,k,o⟩:=hs;rw[<-hr];exact⟨p,q,H',hc,k,o⟩
 obtain⟨H2,e2,k2,n2,q1,q2⟩:=Y9 H [.bool neg,u,v] [.bool false,.slice none 0 0,.slice none 0 0];obtain⟨p,q,H3,c3,k3,o3,o4,ap⟩:=Dc neg (ha.keep k2) (hb.keep k2) dx dy lx ly eA eB hA hB Ml;rw[<-hr]at c3 o3 o4;have QC:=k3.blk _ (show H.n+1<H2.n by omega);rw[q2]at QC;obtain⟨i1,i2,i3⟩:=o3.trio;obtain⟨j1,j2,j3⟩:=o4.trio;obtain⟨S,N,D⟩:=r;simp only at c3 o3 o4⊢;obtain⟨H4,Wx,n4,q4,b4,VX⟩:=SF (p:= .bool S) (q:=p) (r:=q) QC rfl i1 j1 rfl i2 j2;have Rf:Zg H H4:=VX H (k2.trans k3) (by omega);have o5:=(o3.off (b:=H.n+1) (by omega) n4 b4).mono (show H.n<=H2.n by omega) (.refl _);have o6:=(o4.off (b:=H.n+1) (by omega) n4 b4).mono (show H.n<=H2.n by omega) (.refl _);have YD:=YM q4;refine Z8 17 Tryz.func84 ?_;apply Zb;intro b1 Ze;simp[Value.cells,Wt,XV,e2];subst Ze;apply Zb;intro b1 Ze;simp[YM q1,c3];subst Ze;apply Zb;intro b1 Ze;simp[OI (b:=S) i3,OJ (x:=S) i3 j3,Wx];subst Ze;apply Zu;simp[YD];exact⟨_,_,⟨rfl,rfl⟩,Rf,o5,o6,ap⟩
theorem Dw(neg:Bool)(ha:Sl H u xs)(hb:Sl H v ys)(dx:YG Zc xs)(dy:YG Zc ys)(lx:xs.length<=17592186044416)(ly:ys.length<=17592186044416)(eA:dv Zc xs=A)(eB:dv Zc ys=B)(hA:Zm A<=67108864)(hB:Zm B<=67108864)(Ml:0<B): ∃p q H',ZY Tryz.prog Zy 84 [.agg #[.bool neg,u,v]] H=some (.agg #[.bool (Z6 neg A B).1,p,q],H')/\Zg H H'/\Ym H.n H' p (ds Zc (Z6 neg A B).2.1)/\Ym H.n H' q (ds Zc (Z6 neg A B).2.2):=by obtain⟨p,q,H',h1,h2,h3,h4,_⟩:=PQ neg ha hb dx dy lx ly eA eB hA hB Ml;exact⟨p,q,H',h1,h2,h3,h4⟩
theorem Nd(neg:Bool)(ha:Sl H u (ds Zc A))(hb:Sl H v (ds Zc B))(hA:Zm A<=67108864)(hB:Zm B<=67108864)(Ml:0<B): ∃p q H',ZY Tryz.prog Zy 84 [.agg #[.bool neg,u,v]] H=some (.agg #[.bool (Z6 neg A B).1,p,q],H')/\Zg H H'/\Ym H.n H' p (ds Zc (Z6 neg A B).2.1)/\Ym H.n H' q (ds Zc (Z6 neg A B).2.2):=Dw neg ha hb (Yv Z7 A) (Yv Z7 B) (Nat.le_trans (ZX hA) (by decide)) (Nat.le_trans (ZX hB) (by decide)) (YT Z7 A) (YT Z7 B) hA hB Ml
def U9(p q r:Value):Prop:=(∃b,p= .bool b)/\(∃a l c,q= .slice a l c)/\ ∃a l c,r= .slice a l c
theorem WJ{p q r:Value}(ht:U9 p q r)(e:Int)(H:AH): ∃H',ZY Tryz.prog Zy 83 [.nilIface,.agg #[p,q,r],.int .i64 e] H=some (.tuple #[.agg #[p,q,r],.int .i64 e],H')/\Zg H H':=by
 obtain⟨⟨b,rfl⟩,⟨a1,l1,c1,rfl⟩,⟨a2,l2,c2,rfl⟩⟩:=ht;suffices h:CW Tryz.prog Zy 83 [.nilIface,.agg #[.bool b,.slice a1 l1 c1,.slice a2 l2 c2],.int .i64 e] H fun v H'=>v= .tuple #[.agg #[.bool b,.slice a1 l1 c1,.slice a2 l2 c2],.int .i64 e]/\Zg H H' by obtain⟨v,H',hc,rfl,k⟩:=h;exact⟨H',hc,k⟩
 obtain⟨H2,e2,k2,n2,q1,q2⟩:=Y9 H [.bool b,.slice a1 l1 c1,.slice a2 l2 c2] [.bool false,.slice none 0 0,.slice none 0 0];obtain⟨H4,Wx,n4,q4,b4,VX⟩:=SF (p:= .bool b) (q:= .slice a1 l1 c1) (r:= .slice a2 l2 c2) q2 rfl rfl rfl rfl rfl rfl;have Rf:Zg H H4:=VX H k2 (by omega);have YD:=YM q4;refine Z8 26 Tryz.func83 ?_;apply Zb;intro b1 Ze;simp[Value.cells,Wt,XV,e2];subst Ze;apply Zh;intro b1 Ze;apply Zb;intro b2 Zx;simp[-Ys,qO];subst Zx;refine Za (t:=true) (by simp) ?_;apply Zb;intro b2 Zx;simp[YM q1,Wx];subst Zx;apply Zu;simp[Yx,YD];exact Rf
end
section
variable {H : AH} {u v va vb : Value} {xs ys : List Nat} {A B : Nat}
def T7(m:Nat)(H H':AH):Prop:=H.n<=H'.n/\(∀j,j<H.n->H'.blk j=H.blk j)/\UR m H H'
theorem cy{b2 b3:Nat}{p q r:Value}{e:Int}{K:AH->Prop}(ht:U9 p q r)(hq:H.blk b2= .rw 1 [p,q,r])(he:H.blk b3= .rw 1 [.int .i64 e])(h2:b2<H.n)(h3:b3<H.n)(YW:b2<b3)(hK: ∀H',T7 b2 H H'->K H'):Cd Tryz.prog Zy 82 [.pointer (some ⟨b2,0,none⟩),.pointer (some ⟨b3,0,none⟩)] .nilIface H K:=by
 obtain⟨E1,c1,U3⟩:=WJ ht e H.top;obtain⟨G1,UO⟩:=hid (grown H E1);have WQ:Zg H G1:=by rw[UO];exact Yi (.refl H) U3
 have MG:H.n<=E1.n:=U3.n;have dH:=WQ.n;have r2:G1.blk b2= .rw 1 [p,q,r]:=by rw[WQ.blk _ h2];exact hq
 have r3:G1.blk b3= .rw 1 [.int .i64 e]:=by rw[WQ.blk _ h3];exact he
 have XA:(Value.agg #[p,q,r]).cells.toList=[p,q,r]/\[p,q,r].all one=true:=by obtain⟨⟨b,rfl⟩,⟨a1,l1,c1,rfl⟩,⟨a2,l2,c2,rfl⟩⟩:=ht;exact⟨rfl,rfl⟩
 obtain⟨S1,SB,L9,To,PC,RH,U5,RE⟩:=Uo (v:= .agg #[p,q,r]) (ws:=[p,q,r]) VF r2 (by omega) rfl XA.1 rfl XA.2;obtain⟨F1,Pu⟩:=hid (low G1 S1);rw[<-Pu]at PC RH U5 RE;have Ix:F1.blk b3= .rw 1 [.int .i64 e]:=by rw[U5 _ (by omega)];exact r3
 obtain⟨S2,TK,jR,SC,Lf,RN,QP,Pm⟩:=Uo (v:= .int .i64 e) (ws:=[.int .i64 e]) M1 Ix (by omega) rfl rfl rfl rfl;obtain⟨F,hF⟩:=hid (low F1 S2);rw[<-hF]at Lf RN QP Pm;have hS:T7 b2 H F:=by
  refine⟨by omega,fun j hj=>?_,fun H0 k hn=>Pm H0 (RE H0 (k.trans WQ) hn) (by omega)⟩;by_cases j3:j=b3;·subst j3;rw[RN];exact he.symm
  ·rw[QP _ j3];by_cases j2:j=b2;·subst j2;rw[RH];exact hq.symm
   ·rw[U5 _ j2];exact WQ.blk _ hj
 have l1:=YM (H:=H.top) hq;have l2:Z4 Tryz.prog H.top 23 (.pointer (some ⟨b3,0,none⟩))=some (.int .i64 e):=Yb KZ (AH.cells_rw' (H:=H.top) he (by decide)) rfl;refine WN 9 Tryz.func82 rfl rfl ?_;apply WM (by kernel_rfl);apply YI (by kernel_rfl);simp[WT,isRec];refine Z0 (v:= .agg #[p,q,r]) rfl rfl rfl (by rw[ZG rfl];simp[l1]) ?_;simp;refine Z0 (v:= .int .i64 e) rfl rfl rfl (by rw[ZG rfl];simp[l2]) ?_;simp;refine YU (v:= .tuple #[.agg #[p,q,r],.int .i64 e]) (H2:=E1) rfl rfl rfl (by rw[ZG rfl];simp[c1]) MG (YO U3) ?_;rw[<-UO];generalize Pz:cond (Nat.blt H.n E1.n) _ _=ms;have X8:=V8 Pz;simp;refine YH (v:= .tuple #[]) (H2:=S1) rfl rfl (by kernel_rfl) (Yr fun x hx=>by rw[(X8 x hx).1];kernel_rfl) ?_ (by omega) To ?_;·show Z2 _ _ _ _ G1.top _=_;simp[SB]
 rw[show({ n:=S1.n,lw:=min G1.lw S1.lw,t:=S1.t } :AH)=F1 from Pu.symm];rw[show Nat.blt G1.n S1.n=false from by rw[L9];exact XE _,cond_false];simp;refine YH (v:= .tuple #[]) (H2:=S2) rfl rfl (by kernel_rfl) (Yr fun x hx=>by rw[(X8 x hx).1];kernel_rfl) ?_ (by omega) SC ?_;·show Z2 _ _ _ _ F1.top _=_;simp[TK]
 rw[show({ n:=S2.n,lw:=min F1.lw S2.lw,t:=S2.t } :AH)=F from hF.symm];simp;exact hK F hS
end
theorem W4(k:Nat){P:Program}{C:Cfg}{f:FuncId}{fn:Func}{c a:Code}{ops:Array Oper}{o1:Oper}{dc:Call}{rest:Code}{args:List Value}{H:AH}{R:Value->AH->Prop}(ha:Nat.beq f C.add=false)(hs:Nat.beq f C.sub=false)(hf:P.funcs[f]?=some fn)(hb:fn.body=some c)(hk:args.length+(fn.ntmps-args.length)=k)(hd:Rj c=some (a,ops,o1,dc,rest))(h: ∀b,b=rest->W P C a { k:=k,tm:=Yw 0 args .nil,H:=H } fun ex s=>ex= .norm/\Xm P C s.k (ZR ops [o1]) s.tm s.H fun db H2=> ∃g La,ZD C db dc=some (g,La)/\W P C b ⟨s.k,db,H2⟩ fun xu s3=> ∃rv,VI xu=some rv/\Cd P C g La rv s3.H fun H4=> ∃vs,Zw P ⟨s3.k,s3.tm,H4⟩ fn.results.toList=some vs/\R (Z5 vs) H4):CW P C f args H R:=dG k ha hs hf hb hk hd (h rest rfl)
theorem JR{H:AH}{b:Nat}{x e:Int}(hb:H.blk b= .rw 1 [.int .i64 x]): ∃H',YZ Tryz.prog H 23 (.pointer (some ⟨b,0,none⟩)) (.int .i64 e)=some H'/\H'.n=H.n/\H'.blk b= .rw 1 [.int .i64 e]/\(∀j,j≠b->H'.blk j=H.blk j)/\UR b H H':=TB M1 hb rfl rfl rfl rfl
theorem T3{H:AH}{b:Nat}{e:Int}(hb:H.blk b= .rw 1 [.int .i64 e]):Z4 Tryz.prog H 23 (.pointer (some ⟨b,0,none⟩))=some (.int .i64 e):=Yb KZ (AH.cells_rw' hb (by decide)) rfl
theorem T7.own{m n:Nat}{H H':AH}(h:T7 m H H'){v:Value}{xs:List Nat}(o:Ym n H v xs):Ym n H' v xs:=o.mod (b:=none) ⟨h.1,fun j hj _=>h.2.1 j hj⟩ (fun c hc=>by cases hc)
theorem T7.keep{m:Nat}{H0 H H':AH}(h:T7 m H H')(k:Zg H0 H)(hn:H0.n<=m):Zg H0 H':=h.2.2 H0 k hn
section
variable {H : AH} {u v va vb : Value} {xs ys : List Nat} {A B : Nat}
theorem L8(neg:Bool)(ha:Sl H u xs)(hb:Sl H v ys)(dx:YG Zc xs)(dy:YG Zc ys)(lx:xs.length<=17592186044416)(ly:ys.length<=17592186044416)(eA:dv Zc xs=A)(eB:dv Zc ys=B)(hA:Zm A<=67108864)(hB:Zm B<=67108864)(Ml:0<B): ∃p q H',ZY Tryz.prog Zy 53 [.agg #[.bool neg,u,v]] H=some (.tuple #[.agg #[.bool (Z6 neg A B).1,p,q],.int .i64 0],H')/\Zg H H'/\Ym H.n H' p (ds Zc (Z6 neg A B).2.1)/\Ym H.n H' q (ds Zc (Z6 neg A B).2.2)/\Vq p q:=by
 obtain⟨r,hr⟩:=hid (Z6 neg A B);suffices hs:CW Tryz.prog Zy 53 [.agg #[.bool neg,u,v]] H fun v H'=> ∃p q,v= .tuple #[.agg #[.bool r.1,p,q],.int .i64 0]/\Zg H H'/\Ym H.n H' p (ds Zc r.2.1)/\Ym H.n H' q (ds Zc r.2.2)/\Vq p q by obtain⟨v,H',hc,p,q,rfl,k,o⟩:=hs;rw[<-hr];exact⟨p,q,H',hc,k,o⟩
 obtain⟨H2,e2,k2,n2,q1,q2,q3⟩:=Te H [.bool neg,u,v] [.bool false,.slice none 0 0,.slice none 0 0] [.int .i64 0];obtain⟨p,q,H3,c3,k3,o3,o4,ap⟩:=PQ neg (ha.keep k2) (hb.keep k2) dx dy lx ly eA eB hA hB Ml;rw[<-hr]at c3 o3 o4;have n3:=k3.n;have QC:=k3.blk _ (show H.n+1<H2.n by omega);rw[q2]at QC;have A9:=k3.blk _ (show H.n+2<H2.n by omega);rw[q3]at A9;obtain⟨i1,i2,i3⟩:=o3.trio;obtain⟨j1,j2,j3⟩:=o4.trio;obtain⟨S,N,D⟩:=r;simp only at c3 o3 o4⊢;obtain⟨H4,Wx,n4,q4,b4,VX⟩:=SF (p:= .bool S) (q:=p) (r:=q) QC rfl i1 j1 rfl i2 j2;have Bt:H4.blk (H.n+2)= .rw 1 [.int .i64 0]:=by rw[b4 _ (by omega)];exact A9
 obtain⟨H5,Wo,n5,q5,b5,WH⟩:=JR (e:=0) Bt;have q4':H5.blk (H.n+1)= .rw 1 [.bool S,p,q]:=by rw[b5 _ (by omega)];exact q4
 have Fv:Zg H H5:=WH H (VX H (k2.trans k3) (by omega)) (by omega);have o5:=((o3.off (b:=H.n+1) (by omega) n4 b4).off (b:=H.n+2) (by omega) n5 b5).mono (show H.n<=H2.n by omega) (.refl _);have o6:=((o4.off (b:=H.n+1) (by omega) n4 b4).off (b:=H.n+2) (by omega) n5 b5).mono (show H.n<=H2.n by omega) (.refl _);refine W4 7 (by decide) (by decide) Tryz.func53 rfl rfl rfl ?_;intro b1 Ze;apply Zk;simp[Value.cells,Wt,IW,XV,e2];refine⟨_,_,⟨rfl,rfl⟩,?_⟩;subst Ze;apply Zb;intro b1 Ze;simp[YM q1,c3,Wx,Wo];subst Ze;apply Zu;simp[VI];refine cy ⟨⟨_,rfl⟩,i3,j3⟩ q4' q5 (by omega) (by omega) (by omega) fun H6 hS=>?_;have r4:H6.blk (H.n+1)= .rw 1 [.bool S,p,q]:=by rw[hS.2.1 _ (by omega)];exact q4'
 have r5:H6.blk (H.n+2)= .rw 1 [.int .i64 0]:=by rw[hS.2.1 _ (by omega)];exact q5
 simp[YM r4,T3 r5];exact⟨_,_,⟨rfl,rfl⟩,hS.keep Fv (by omega),hS.own o5,hS.own o6,ap⟩
theorem QK(neg:Bool)(ha:Sl H u xs)(hb:Sl H v ys)(dx:YG Zc xs)(dy:YG Zc ys)(lx:xs.length<=17592186044416)(ly:ys.length<=17592186044416)(eA:dv Zc xs=A)(eB:dv Zc ys=B)(hA:Zm A<=67108864)(hB:Zm B<=67108864)(Ml:0<B): ∃p q H',ZY Tryz.prog Zy 53 [.agg #[.bool neg,u,v]] H=some (.tuple #[.agg #[.bool (Z6 neg A B).1,p,q],.int .i64 0],H')/\Zg H H'/\Ym H.n H' p (ds Zc (Z6 neg A B).2.1)/\Ym H.n H' q (ds Zc (Z6 neg A B).2.2):=by obtain⟨p,q,H',h1,h2,h3,h4,_⟩:=L8 neg ha hb dx dy lx ly eA eB hA hB Ml;exact⟨p,q,H',h1,h2,h3,h4⟩
end
section
variable {H : AH} {u v va vb : Value} {xs ys : List Nat} {A B : Nat}
theorem cp{b2 b3:Nat}{p q r:Value}{e:Int}{K:AH->Prop}(ht:U9 p q r)(hq:H.blk b2= .rw 1 [p,q,r])(he:H.blk b3= .rw 1 [.int .i64 e])(h2:b2<H.n)(h3:b3<H.n)(YW:b2<b3)(hK: ∀H',T7 b2 H H'->K H'):Cd Tryz.prog Zy 90 [.pointer (some ⟨b2,0,none⟩),.pointer (some ⟨b3,0,none⟩)] .nilIface H K:=by
 obtain⟨E1,c1,U3⟩:=WJ ht e H.top;obtain⟨G1,UO⟩:=hid (grown H E1);have WQ:Zg H G1:=by rw[UO];exact Yi (.refl H) U3
 have MG:H.n<=E1.n:=U3.n;have dH:=WQ.n;have r2:G1.blk b2= .rw 1 [p,q,r]:=by rw[WQ.blk _ h2];exact hq
 have r3:G1.blk b3= .rw 1 [.int .i64 e]:=by rw[WQ.blk _ h3];exact he
 have XA:(Value.agg #[p,q,r]).cells.toList=[p,q,r]/\[p,q,r].all one=true:=by obtain⟨⟨b,rfl⟩,⟨a1,l1,c1,rfl⟩,⟨a2,l2,c2,rfl⟩⟩:=ht;exact⟨rfl,rfl⟩
 obtain⟨S1,SB,L9,To,PC,RH,U5,RE⟩:=Uo (v:= .agg #[p,q,r]) (ws:=[p,q,r]) VF r2 (by omega) rfl XA.1 rfl XA.2;obtain⟨F1,Pu⟩:=hid (low G1 S1);rw[<-Pu]at PC RH U5 RE;have Ix:F1.blk b3= .rw 1 [.int .i64 e]:=by rw[U5 _ (by omega)];exact r3
 obtain⟨S2,TK,jR,SC,Lf,RN,QP,Pm⟩:=Uo (v:= .int .i64 e) (ws:=[.int .i64 e]) M1 Ix (by omega) rfl rfl rfl rfl;obtain⟨F,hF⟩:=hid (low F1 S2);rw[<-hF]at Lf RN QP Pm;have hS:T7 b2 H F:=by
  refine⟨by omega,fun j hj=>?_,fun H0 k hn=>Pm H0 (RE H0 (k.trans WQ) hn) (by omega)⟩;by_cases j3:j=b3;·subst j3;rw[RN];exact he.symm
  ·rw[QP _ j3];by_cases j2:j=b2;·subst j2;rw[RH];exact hq.symm
   ·rw[U5 _ j2];exact WQ.blk _ hj
 have l1:=YM (H:=H.top) hq;have l2:Z4 Tryz.prog H.top 23 (.pointer (some ⟨b3,0,none⟩))=some (.int .i64 e):=Yb KZ (AH.cells_rw' (H:=H.top) he (by decide)) rfl;refine WN 9 Tryz.func90 rfl rfl ?_;apply WM (by kernel_rfl);apply YI (by kernel_rfl);simp[WT,isRec];refine Z0 (v:= .agg #[p,q,r]) rfl rfl rfl (by rw[ZG rfl];simp[l1]) ?_;simp;refine Z0 (v:= .int .i64 e) rfl rfl rfl (by rw[ZG rfl];simp[l2]) ?_;simp;refine YU (v:= .tuple #[.agg #[p,q,r],.int .i64 e]) (H2:=E1) rfl rfl rfl (by rw[ZG rfl];simp[c1]) MG (YO U3) ?_;rw[<-UO];generalize Pz:cond (Nat.blt H.n E1.n) _ _=ms;have X8:=V8 Pz;simp;refine YH (v:= .tuple #[]) (H2:=S1) rfl rfl (by kernel_rfl) (Yr fun x hx=>by rw[(X8 x hx).1];kernel_rfl) ?_ (by omega) To ?_;·show Z2 _ _ _ _ G1.top _=_;simp[SB]
 rw[show({ n:=S1.n,lw:=min G1.lw S1.lw,t:=S1.t } :AH)=F1 from Pu.symm];rw[show Nat.blt G1.n S1.n=false from by rw[L9];exact XE _,cond_false];simp;refine YH (v:= .tuple #[]) (H2:=S2) rfl rfl (by kernel_rfl) (Yr fun x hx=>by rw[(X8 x hx).1];kernel_rfl) ?_ (by omega) SC ?_;·show Z2 _ _ _ _ F1.top _=_;simp[TK]
 rw[show({ n:=S2.n,lw:=min F1.lw S2.lw,t:=S2.t } :AH)=F from hF.symm];simp;exact hK F hS
theorem EB{b2 b3:Nat}{p q r:Value}{e:Int}{K:AH->Prop}(ht:U9 p q r)(hq:H.blk b2= .rw 1 [p,q,r])(he:H.blk b3= .rw 1 [.int .i64 e])(h2:b2<H.n)(h3:b3<H.n)(YW:b2<b3)(hK: ∀H',T7 b2 H H'->K H'):Cd Tryz.prog Zy 136 [.pointer (some ⟨b2,0,none⟩),.pointer (some ⟨b3,0,none⟩)] .nilIface H K:=by
 obtain⟨E1,c1,U3⟩:=WJ ht e H.top;obtain⟨G1,UO⟩:=hid (grown H E1);have WQ:Zg H G1:=by rw[UO];exact Yi (.refl H) U3
 have MG:H.n<=E1.n:=U3.n;have dH:=WQ.n;have r2:G1.blk b2= .rw 1 [p,q,r]:=by rw[WQ.blk _ h2];exact hq
 have r3:G1.blk b3= .rw 1 [.int .i64 e]:=by rw[WQ.blk _ h3];exact he
 have XA:(Value.agg #[p,q,r]).cells.toList=[p,q,r]/\[p,q,r].all one=true:=by obtain⟨⟨b,rfl⟩,⟨a1,l1,c1,rfl⟩,⟨a2,l2,c2,rfl⟩⟩:=ht;exact⟨rfl,rfl⟩
 obtain⟨S1,SB,L9,To,PC,RH,U5,RE⟩:=Uo (v:= .agg #[p,q,r]) (ws:=[p,q,r]) VF r2 (by omega) rfl XA.1 rfl XA.2;obtain⟨F1,Pu⟩:=hid (low G1 S1);rw[<-Pu]at PC RH U5 RE;have Ix:F1.blk b3= .rw 1 [.int .i64 e]:=by rw[U5 _ (by omega)];exact r3
 obtain⟨S2,TK,jR,SC,Lf,RN,QP,Pm⟩:=Uo (v:= .int .i64 e) (ws:=[.int .i64 e]) M1 Ix (by omega) rfl rfl rfl rfl;obtain⟨F,hF⟩:=hid (low F1 S2);rw[<-hF]at Lf RN QP Pm;have hS:T7 b2 H F:=by
  refine⟨by omega,fun j hj=>?_,fun H0 k hn=>Pm H0 (RE H0 (k.trans WQ) hn) (by omega)⟩;by_cases j3:j=b3;·subst j3;rw[RN];exact he.symm
  ·rw[QP _ j3];by_cases j2:j=b2;·subst j2;rw[RH];exact hq.symm
   ·rw[U5 _ j2];exact WQ.blk _ hj
 have l1:=YM (H:=H.top) hq;have l2:Z4 Tryz.prog H.top 23 (.pointer (some ⟨b3,0,none⟩))=some (.int .i64 e):=Yb KZ (AH.cells_rw' (H:=H.top) he (by decide)) rfl;refine WN 9 Tryz.func136 rfl rfl ?_;apply WM (by kernel_rfl);apply YI (by kernel_rfl);simp[WT,isRec];refine Z0 (v:= .agg #[p,q,r]) rfl rfl rfl (by rw[ZG rfl];simp[l1]) ?_;simp;refine Z0 (v:= .int .i64 e) rfl rfl rfl (by rw[ZG rfl];simp[l2]) ?_;simp;refine YU (v:= .tuple #[.agg #[p,q,r],.int .i64 e]) (H2:=E1) rfl rfl rfl (by rw[ZG rfl];simp[c1]) MG (YO U3) ?_;rw[<-UO];generalize Pz:cond (Nat.blt H.n E1.n) _ _=ms;have X8:=V8 Pz;simp;refine YH (v:= .tuple #[]) (H2:=S1) rfl rfl (by kernel_rfl) (Yr fun x hx=>by rw[(X8 x hx).1];kernel_rfl) ?_ (by omega) To ?_;·show Z2 _ _ _ _ G1.top _=_;simp[SB]
 rw[show({ n:=S1.n,lw:=min G1.lw S1.lw,t:=S1.t } :AH)=F1 from Pu.symm];rw[show Nat.blt G1.n S1.n=false from by rw[L9];exact XE _,cond_false];simp;refine YH (v:= .tuple #[]) (H2:=S2) rfl rfl (by kernel_rfl) (Yr fun x hx=>by rw[(X8 x hx).1];kernel_rfl) ?_ (by omega) SC ?_;·show Z2 _ _ _ _ F1.top _=_;simp[TK]
 rw[show({ n:=S2.n,lw:=min F1.lw S2.lw,t:=S2.t } :AH)=F from hF.symm];simp;exact hK F hS
theorem eV{b2 b3:Nat}{p q r:Value}{e:Int}{K:AH->Prop}(ht:U9 p q r)(hq:H.blk b2= .rw 1 [p,q,r])(he:H.blk b3= .rw 1 [.int .i64 e])(h2:b2<H.n)(h3:b3<H.n)(YW:b2<b3)(hK: ∀H',T7 b2 H H'->K H'):Cd Tryz.prog Zy 137 [.pointer (some ⟨b2,0,none⟩),.pointer (some ⟨b3,0,none⟩)] .nilIface H K:=by
 obtain⟨E1,c1,U3⟩:=WJ ht e H.top;obtain⟨G1,UO⟩:=hid (grown H E1);have WQ:Zg H G1:=by rw[UO];exact Yi (.refl H) U3
 have MG:H.n<=E1.n:=U3.n;have dH:=WQ.n;have r2:G1.blk b2= .rw 1 [p,q,r]:=by rw[WQ.blk _ h2];exact hq
 have r3:G1.blk b3= .rw 1 [.int .i64 e]:=by rw[WQ.blk _ h3];exact he
 have XA:(Value.agg #[p,q,r]).cells.toList=[p,q,r]/\[p,q,r].all one=true:=by obtain⟨⟨b,rfl⟩,⟨a1,l1,c1,rfl⟩,⟨a2,l2,c2,rfl⟩⟩:=ht;exact⟨rfl,rfl⟩
 obtain⟨S1,SB,L9,To,PC,RH,U5,RE⟩:=Uo (v:= .agg #[p,q,r]) (ws:=[p,q,r]) VF r2 (by omega) rfl XA.1 rfl XA.2;obtain⟨F1,Pu⟩:=hid (low G1 S1);rw[<-Pu]at PC RH U5 RE;have Ix:F1.blk b3= .rw 1 [.int .i64 e]:=by rw[U5 _ (by omega)];exact r3
 obtain⟨S2,TK,jR,SC,Lf,RN,QP,Pm⟩:=Uo (v:= .int .i64 e) (ws:=[.int .i64 e]) M1 Ix (by omega) rfl rfl rfl rfl;obtain⟨F,hF⟩:=hid (low F1 S2);rw[<-hF]at Lf RN QP Pm;have hS:T7 b2 H F:=by
  refine⟨by omega,fun j hj=>?_,fun H0 k hn=>Pm H0 (RE H0 (k.trans WQ) hn) (by omega)⟩;by_cases j3:j=b3;·subst j3;rw[RN];exact he.symm
  ·rw[QP _ j3];by_cases j2:j=b2;·subst j2;rw[RH];exact hq.symm
   ·rw[U5 _ j2];exact WQ.blk _ hj
 have l1:=YM (H:=H.top) hq;have l2:Z4 Tryz.prog H.top 23 (.pointer (some ⟨b3,0,none⟩))=some (.int .i64 e):=Yb KZ (AH.cells_rw' (H:=H.top) he (by decide)) rfl;refine WN 9 Tryz.func137 rfl rfl ?_;apply WM (by kernel_rfl);apply YI (by kernel_rfl);simp[WT,isRec];refine Z0 (v:= .agg #[p,q,r]) rfl rfl rfl (by rw[ZG rfl];simp[l1]) ?_;simp;refine Z0 (v:= .int .i64 e) rfl rfl rfl (by rw[ZG rfl];simp[l2]) ?_;simp;refine YU (v:= .tuple #[.agg #[p,q,r],.int .i64 e]) (H2:=E1) rfl rfl rfl (by rw[ZG rfl];simp[c1]) MG (YO U3) ?_;rw[<-UO];generalize Pz:cond (Nat.blt H.n E1.n) _ _=ms;have X8:=V8 Pz;simp;refine YH (v:= .tuple #[]) (H2:=S1) rfl rfl (by kernel_rfl) (Yr fun x hx=>by rw[(X8 x hx).1];kernel_rfl) ?_ (by omega) To ?_;·show Z2 _ _ _ _ G1.top _=_;simp[SB]
 rw[show({ n:=S1.n,lw:=min G1.lw S1.lw,t:=S1.t } :AH)=F1 from Pu.symm];rw[show Nat.blt G1.n S1.n=false from by rw[L9];exact XE _,cond_false];simp;refine YH (v:= .tuple #[]) (H2:=S2) rfl rfl (by kernel_rfl) (Yr fun x hx=>by rw[(X8 x hx).1];kernel_rfl) ?_ (by omega) SC ?_;·show Z2 _ _ _ _ F1.top _=_;simp[TK]
 rw[show({ n:=S2.n,lw:=min F1.lw S2.lw,t:=S2.t } :AH)=F from hF.symm];simp;exact hK F hS
theorem FQ{b2 b3:Nat}{p q r:Value}{e:Int}{K:AH->Prop}(ht:U9 p q r)(hq:H.blk b2= .rw 1 [p,q,r])(he:H.blk b3= .rw 1 [.int .i64 e])(h2:b2<H.n)(h3:b3<H.n)(YW:b2<b3)(hK: ∀H',T7 b2 H H'->K H'):Cd Tryz.prog Zy 138 [.pointer (some ⟨b2,0,none⟩),.pointer (some ⟨b3,0,none⟩)] .nilIface H K:=by
 obtain⟨E1,c1,U3⟩:=WJ ht e H.top;obtain⟨G1,UO⟩:=hid (grown H E1);have WQ:Zg H G1:=by rw[UO];exact Yi (.refl H) U3
 have MG:H.n<=E1.n:=U3.n;have dH:=WQ.n;have r2:G1.blk b2= .rw 1 [p,q,r]:=by rw[WQ.blk _ h2];exact hq
 have r3:G1.blk b3= .rw 1 [.int .i64 e]:=by rw[WQ.blk _ h3];exact he
 have XA:(Value.agg #[p,q,r]).cells.toList=[p,q,r]/\[p,q,r].all one=true:=by obtain⟨⟨b,rfl⟩,⟨a1,l1,c1,rfl⟩,⟨a2,l2,c2,rfl⟩⟩:=ht;exact⟨rfl,rfl⟩
 obtain⟨S1,SB,L9,To,PC,RH,U5,RE⟩:=Uo (v:= .agg #[p,q,r]) (ws:=[p,q,r]) VF r2 (by omega) rfl XA.1 rfl XA.2;obtain⟨F1,Pu⟩:=hid (low G1 S1);rw[<-Pu]at PC RH U5 RE;have Ix:F1.blk b3= .rw 1 [.int .i64 e]:=by rw[U5 _ (by omega)];exact r3
 obtain⟨S2,TK,jR,SC,Lf,RN,QP,Pm⟩:=Uo (v:= .int .i64 e) (ws:=[.int .i64 e]) M1 Ix (by omega) rfl rfl rfl rfl;obtain⟨F,hF⟩:=hid (low F1 S2);rw[<-hF]at Lf RN QP Pm;have hS:T7 b2 H F:=by
  refine⟨by omega,fun j hj=>?_,fun H0 k hn=>Pm H0 (RE H0 (k.trans WQ) hn) (by omega)⟩;by_cases j3:j=b3;·subst j3;rw[RN];exact he.symm
  ·rw[QP _ j3];by_cases j2:j=b2;·subst j2;rw[RH];exact hq.symm
   ·rw[U5 _ j2];exact WQ.blk _ hj
 have l1:=YM (H:=H.top) hq;have l2:Z4 Tryz.prog H.top 23 (.pointer (some ⟨b3,0,none⟩))=some (.int .i64 e):=Yb KZ (AH.cells_rw' (H:=H.top) he (by decide)) rfl;refine WN 9 Tryz.func138 rfl rfl ?_;apply WM (by kernel_rfl);apply YI (by kernel_rfl);simp[WT,isRec];refine Z0 (v:= .agg #[p,q,r]) rfl rfl rfl (by rw[ZG rfl];simp[l1]) ?_;simp;refine Z0 (v:= .int .i64 e) rfl rfl rfl (by rw[ZG rfl];simp[l2]) ?_;simp;refine YU (v:= .tuple #[.agg #[p,q,r],.int .i64 e]) (H2:=E1) rfl rfl rfl (by rw[ZG rfl];simp[c1]) MG (YO U3) ?_;rw[<-UO];generalize Pz:cond (Nat.blt H.n E1.n) _ _=ms;have X8:=V8 Pz;simp;refine YH (v:= .tuple #[]) (H2:=S1) rfl rfl (by kernel_rfl) (Yr fun x hx=>by rw[(X8 x hx).1];kernel_rfl) ?_ (by omega) To ?_;·show Z2 _ _ _ _ G1.top _=_;simp[SB]
 rw[show({ n:=S1.n,lw:=min G1.lw S1.lw,t:=S1.t } :AH)=F1 from Pu.symm];rw[show Nat.blt G1.n S1.n=false from by rw[L9];exact XE _,cond_false];simp;refine YH (v:= .tuple #[]) (H2:=S2) rfl rfl (by kernel_rfl) (Yr fun x hx=>by rw[(X8 x hx).1];kernel_rfl) ?_ (by omega) SC ?_;·show Z2 _ _ _ _ F1.top _=_;simp[TK]
 rw[show({ n:=S2.n,lw:=min F1.lw S2.lw,t:=S2.t } :AH)=F from hF.symm];simp;exact hK F hS
theorem jH{b2 b3:Nat}{p q r:Value}{e:Int}{K:AH->Prop}(ht:U9 p q r)(hq:H.blk b2= .rw 1 [p,q,r])(he:H.blk b3= .rw 1 [.int .i64 e])(h2:b2<H.n)(h3:b3<H.n)(YW:b2<b3)(hK: ∀H',T7 b2 H H'->K H'):Cd Tryz.prog Zy 147 [.pointer (some ⟨b2,0,none⟩),.pointer (some ⟨b3,0,none⟩)] .nilIface H K:=by
 obtain⟨E1,c1,U3⟩:=WJ ht e H.top;obtain⟨G1,UO⟩:=hid (grown H E1);have WQ:Zg H G1:=by rw[UO];exact Yi (.refl H) U3
 have MG:H.n<=E1.n:=U3.n;have dH:=WQ.n;have r2:G1.blk b2= .rw 1 [p,q,r]:=by rw[WQ.blk _ h2];exact hq
 have r3:G1.blk b3= .rw 1 [.int .i64 e]:=by rw[WQ.blk _ h3];exact he
 have XA:(Value.agg #[p,q,r]).cells.toList=[p,q,r]/\[p,q,r].all one=true:=by obtain⟨⟨b,rfl⟩,⟨a1,l1,c1,rfl⟩,⟨a2,l2,c2,rfl⟩⟩:=ht;exact⟨rfl,rfl⟩
 obtain⟨S1,SB,L9,To,PC,RH,U5,RE⟩:=Uo (v:= .agg #[p,q,r]) (ws:=[p,q,r]) VF r2 (by omega) rfl XA.1 rfl XA.2;obtain⟨F1,Pu⟩:=hid (low G1 S1);rw[<-Pu]at PC RH U5 RE;have Ix:F1.blk b3= .rw 1 [.int .i64 e]:=by rw[U5 _ (by omega)];exact r3
 obtain⟨S2,TK,jR,SC,Lf,RN,QP,Pm⟩:=Uo (v:= .int .i64 e) (ws:=[.int .i64 e]) M1 Ix (by omega) rfl rfl rfl rfl;obtain⟨F,hF⟩:=hid (low F1 S2);rw[<-hF]at Lf RN QP Pm;have hS:T7 b2 H F:=by
  refine⟨by omega,fun j hj=>?_,fun H0 k hn=>Pm H0 (RE H0 (k.trans WQ) hn) (by omega)⟩;by_cases j3:j=b3;·subst j3;rw[RN];exact he.symm
  ·rw[QP _ j3];by_cases j2:j=b2;·subst j2;rw[RH];exact hq.symm
   ·rw[U5 _ j2];exact WQ.blk _ hj
 have l1:=YM (H:=H.top) hq;have l2:Z4 Tryz.prog H.top 23 (.pointer (some ⟨b3,0,none⟩))=some (.int .i64 e):=Yb KZ (AH.cells_rw' (H:=H.top) he (by decide)) rfl;refine WN 9 Tryz.func147 rfl rfl ?_;apply WM (by kernel_rfl);apply YI (by kernel_rfl);simp[WT,isRec];refine Z0 (v:= .agg #[p,q,r]) rfl rfl rfl (by rw[ZG rfl];simp[l1]) ?_;simp;refine Z0 (v:= .int .i64 e) rfl rfl rfl (by rw[ZG rfl];simp[l2]) ?_;simp;refine YU (v:= .tuple #[.agg #[p,q,r],.int .i64 e]) (H2:=E1) rfl rfl rfl (by rw[ZG rfl];simp[c1]) MG (YO U3) ?_;rw[<-UO];generalize Pz:cond (Nat.blt H.n E1.n) _ _=ms;have X8:=V8 Pz;simp;refine YH (v:= .tuple #[]) (H2:=S1) rfl rfl (by kernel_rfl) (Yr fun x hx=>by rw[(X8 x hx).1];kernel_rfl) ?_ (by omega) To ?_;·show Z2 _ _ _ _ G1.top _=_;simp[SB]
 rw[show({ n:=S1.n,lw:=min G1.lw S1.lw,t:=S1.t } :AH)=F1 from Pu.symm];rw[show Nat.blt G1.n S1.n=false from by rw[L9];exact XE _,cond_false];simp;refine YH (v:= .tuple #[]) (H2:=S2) rfl rfl (by kernel_rfl) (Yr fun x hx=>by rw[(X8 x hx).1];kernel_rfl) ?_ (by omega) SC ?_;·show Z2 _ _ _ _ F1.top _=_;simp[TK]
 rw[show({ n:=S2.n,lw:=min F1.lw S2.lw,t:=S2.t } :AH)=F from hF.symm];simp;exact hK F hS
theorem Jy{b2 b3:Nat}{p q r:Value}{e:Int}{K:AH->Prop}(ht:U9 p q r)(hq:H.blk b2= .rw 1 [p,q,r])(he:H.blk b3= .rw 1 [.int .i64 e])(h2:b2<H.n)(h3:b3<H.n)(YW:b2<b3)(hK: ∀H',T7 b2 H H'->K H'):Cd Tryz.prog Zy 149 [.pointer (some ⟨b2,0,none⟩),.pointer (some ⟨b3,0,none⟩)] .nilIface H K:=by
 obtain⟨E1,c1,U3⟩:=WJ ht e H.top;obtain⟨G1,UO⟩:=hid (grown H E1);have WQ:Zg H G1:=by rw[UO];exact Yi (.refl H) U3
 have MG:H.n<=E1.n:=U3.n;have dH:=WQ.n;have r2:G1.blk b2= .rw 1 [p,q,r]:=by rw[WQ.blk _ h2];exact hq
 have r3:G1.blk b3= .rw 1 [.int .i64 e]:=by rw[WQ.blk _ h3];exact he
 have XA:(Value.agg #[p,q,r]).cells.toList=[p,q,r]/\[p,q,r].all one=true:=by obtain⟨⟨b,rfl⟩,⟨a1,l1,c1,rfl⟩,⟨a2,l2,c2,rfl⟩⟩:=ht;exact⟨rfl,rfl⟩
 obtain⟨S1,SB,L9,To,PC,RH,U5,RE⟩:=Uo (v:= .agg #[p,q,r]) (ws:=[p,q,r]) VF r2 (by omega) rfl XA.1 rfl XA.2;obtain⟨F1,Pu⟩:=hid (low G1 S1);rw[<-Pu]at PC RH U5 RE;have Ix:F1.blk b3= .rw 1 [.int .i64 e]:=by rw[U5 _ (by omega)];exact r3
 obtain⟨S2,TK,jR,SC,Lf,RN,QP,Pm⟩:=Uo (v:= .int .i64 e) (ws:=[.int .i64 e]) M1 Ix (by omega) rfl rfl rfl rfl;obtain⟨F,hF⟩:=hid (low F1 S2);rw[<-hF]at Lf RN QP Pm;have hS:T7 b2 H F:=by
  refine⟨by omega,fun j hj=>?_,fun H0 k hn=>Pm H0 (RE H0 (k.trans WQ) hn) (by omega)⟩;by_cases j3:j=b3;·subst j3;rw[RN];exact he.symm
  ·rw[QP _ j3];by_cases j2:j=b2;·subst j2;rw[RH];exact hq.symm
   ·rw[U5 _ j2];exact WQ.blk _ hj
 have l1:=YM (H:=H.top) hq;have l2:Z4 Tryz.prog H.top 23 (.pointer (some ⟨b3,0,none⟩))=some (.int .i64 e):=Yb KZ (AH.cells_rw' (H:=H.top) he (by decide)) rfl;refine WN 9 Tryz.func149 rfl rfl ?_;apply WM (by kernel_rfl);apply YI (by kernel_rfl);simp[WT,isRec];refine Z0 (v:= .agg #[p,q,r]) rfl rfl rfl (by rw[ZG rfl];simp[l1]) ?_;simp;refine Z0 (v:= .int .i64 e) rfl rfl rfl (by rw[ZG rfl];simp[l2]) ?_;simp;refine YU (v:= .tuple #[.agg #[p,q,r],.int .i64 e]) (H2:=E1) rfl rfl rfl (by rw[ZG rfl];simp[c1]) MG (YO U3) ?_;rw[<-UO];generalize Pz:cond (Nat.blt H.n E1.n) _ _=ms;have X8:=V8 Pz;simp;refine YH (v:= .tuple #[]) (H2:=S1) rfl rfl (by kernel_rfl) (Yr fun x hx=>by rw[(X8 x hx).1];kernel_rfl) ?_ (by omega) To ?_;·show Z2 _ _ _ _ G1.top _=_;simp[SB]
 rw[show({ n:=S1.n,lw:=min G1.lw S1.lw,t:=S1.t } :AH)=F1 from Pu.symm];rw[show Nat.blt G1.n S1.n=false from by rw[L9];exact XE _,cond_false];simp;refine YH (v:= .tuple #[]) (H2:=S2) rfl rfl (by kernel_rfl) (Yr fun x hx=>by rw[(X8 x hx).1];kernel_rfl) ?_ (by omega) SC ?_;·show Z2 _ _ _ _ F1.top _=_;simp[TK]
 rw[show({ n:=S2.n,lw:=min F1.lw S2.lw,t:=S2.t } :AH)=F from hF.symm];simp;exact hK F hS
theorem jw{b2 b3:Nat}{p q r:Value}{e:Int}{K:AH->Prop}(ht:U9 p q r)(hq:H.blk b2= .rw 1 [p,q,r])(he:H.blk b3= .rw 1 [.int .i64 e])(h2:b2<H.n)(h3:b3<H.n)(YW:b2<b3)(hK: ∀H',T7 b2 H H'->K H'):Cd Tryz.prog Zy 150 [.pointer (some ⟨b2,0,none⟩),.pointer (some ⟨b3,0,none⟩)] .nilIface H K:=by
 obtain⟨E1,c1,U3⟩:=WJ ht e H.top;obtain⟨G1,UO⟩:=hid (grown H E1);have WQ:Zg H G1:=by rw[UO];exact Yi (.refl H) U3
 have MG:H.n<=E1.n:=U3.n;have dH:=WQ.n;have r2:G1.blk b2= .rw 1 [p,q,r]:=by rw[WQ.blk _ h2];exact hq
 have r3:G1.blk b3= .rw 1 [.int .i64 e]:=by rw[WQ.blk _ h3];exact he
 have XA:(Value.agg #[p,q,r]).cells.toList=[p,q,r]/\[p,q,r].all one=true:=by obtain⟨⟨b,rfl⟩,⟨a1,l1,c1,rfl⟩,⟨a2,l2,c2,rfl⟩⟩:=ht;exact⟨rfl,rfl⟩
 obtain⟨S1,SB,L9,To,PC,RH,U5,RE⟩:=Uo (v:= .agg #[p,q,r]) (ws:=[p,q,r]) VF r2 (by omega) rfl XA.1 rfl XA.2;obtain⟨F1,Pu⟩:=hid (low G1 S1);rw[<-Pu]at PC RH U5 RE;have Ix:F1.blk b3= .rw 1 [.int .i64 e]:=by rw[U5 _ (by omega)];exact r3
 obtain⟨S2,TK,jR,SC,Lf,RN,QP,Pm⟩:=Uo (v:= .int .i64 e) (ws:=[.int .i64 e]) M1 Ix (by omega) rfl rfl rfl rfl;obtain⟨F,hF⟩:=hid (low F1 S2);rw[<-hF]at Lf RN QP Pm;have hS:T7 b2 H F:=by
  refine⟨by omega,fun j hj=>?_,fun H0 k hn=>Pm H0 (RE H0 (k.trans WQ) hn) (by omega)⟩;by_cases j3:j=b3;·subst j3;rw[RN];exact he.symm
  ·rw[QP _ j3];by_cases j2:j=b2;·subst j2;rw[RH];exact hq.symm
   ·rw[U5 _ j2];exact WQ.blk _ hj
 have l1:=YM (H:=H.top) hq;have l2:Z4 Tryz.prog H.top 23 (.pointer (some ⟨b3,0,none⟩))=some (.int .i64 e):=Yb KZ (AH.cells_rw' (H:=H.top) he (by decide)) rfl;refine WN 9 Tryz.func150 rfl rfl ?_;apply WM (by kernel_rfl);apply YI (by kernel_rfl);simp[WT,isRec];refine Z0 (v:= .agg #[p,q,r]) rfl rfl rfl (by rw[ZG rfl];simp[l1]) ?_;simp;refine Z0 (v:= .int .i64 e) rfl rfl rfl (by rw[ZG rfl];simp[l2]) ?_;simp;refine YU (v:= .tuple #[.agg #[p,q,r],.int .i64 e]) (H2:=E1) rfl rfl rfl (by rw[ZG rfl];simp[c1]) MG (YO U3) ?_;rw[<-UO];generalize Pz:cond (Nat.blt H.n E1.n) _ _=ms;have X8:=V8 Pz;simp;refine YH (v:= .tuple #[]) (H2:=S1) rfl rfl (by kernel_rfl) (Yr fun x hx=>by rw[(X8 x hx).1];kernel_rfl) ?_ (by omega) To ?_;·show Z2 _ _ _ _ G1.top _=_;simp[SB]
 rw[show({ n:=S1.n,lw:=min G1.lw S1.lw,t:=S1.t } :AH)=F1 from Pu.symm];rw[show Nat.blt G1.n S1.n=false from by rw[L9];exact XE _,cond_false];simp;refine YH (v:= .tuple #[]) (H2:=S2) rfl rfl (by kernel_rfl) (Yr fun x hx=>by rw[(X8 x hx).1];kernel_rfl) ?_ (by omega) SC ?_;·show Z2 _ _ _ _ F1.top _=_;simp[TK]
 rw[show({ n:=S2.n,lw:=min F1.lw S2.lw,t:=S2.t } :AH)=F from hF.symm];simp;exact hK F hS
theorem Nw(x e:Int)(H:AH): ∃H',ZY Tryz.prog Zy 86 [.nilIface,.int .i64 x,.int .i64 e] H=some (.tuple #[.int .i64 x,.int .i64 e],H')/\Zg H H':=by
 suffices h:CW Tryz.prog Zy 86 [.nilIface,.int .i64 x,.int .i64 e] H fun v H'=>v= .tuple #[.int .i64 x,.int .i64 e]/\Zg H H' by obtain⟨v,H',hc,rfl,k⟩:=h;exact⟨H',hc,k⟩
 refine Z8 26 Tryz.func86 ?_;apply Zb;intro b1 Ze;simp;subst Ze;apply Zh;intro b1 Ze;apply Zb;intro b2 Zx;simp[-Ys,qO];subst Zx;refine Za (t:=true) (by simp) ?_;apply Zb;intro b2 Zx;simp;subst Zx;apply Zu;simp[Yx];exact .refl H
theorem cE{b2 b3:Nat}{x e:Int}{K:AH->Prop}(hq:H.blk b2= .rw 1 [.int .i64 x])(he:H.blk b3= .rw 1 [.int .i64 e])(h2:b2<H.n)(h3:b3<H.n)(YW:b2<b3)(hK: ∀H',T7 b2 H H'->K H'):Cd Tryz.prog Zy 85 [.pointer (some ⟨b2,0,none⟩),.pointer (some ⟨b3,0,none⟩)] .nilIface H K:=by
 obtain⟨E1,c1,U3⟩:=Nw x e H.top;obtain⟨G1,UO⟩:=hid (grown H E1);have WQ:Zg H G1:=by rw[UO];exact Yi (.refl H) U3
 have MG:H.n<=E1.n:=U3.n;have dH:=WQ.n;have r2:G1.blk b2= .rw 1 [.int .i64 x]:=by rw[WQ.blk _ h2];exact hq
 have r3:G1.blk b3= .rw 1 [.int .i64 e]:=by rw[WQ.blk _ h3];exact he
 obtain⟨S1,SB,L9,To,PC,RH,U5,RE⟩:=Uo (v:= .int .i64 x) (ws:=[.int .i64 x]) cH r2 (by omega) rfl rfl rfl rfl;obtain⟨F1,Pu⟩:=hid (low G1 S1);rw[<-Pu]at PC RH U5 RE;have Ix:F1.blk b3= .rw 1 [.int .i64 e]:=by rw[U5 _ (by omega)];exact r3
 obtain⟨S2,TK,jR,SC,Lf,RN,QP,Pm⟩:=Uo (v:= .int .i64 e) (ws:=[.int .i64 e]) M1 Ix (by omega) rfl rfl rfl rfl;obtain⟨F,hF⟩:=hid (low F1 S2);rw[<-hF]at Lf RN QP Pm;have hS:T7 b2 H F:=by
  refine⟨by omega,fun j hj=>?_,fun H0 k hn=>Pm H0 (RE H0 (k.trans WQ) hn) (by omega)⟩;by_cases j3:j=b3;·subst j3;rw[RN];exact he.symm
  ·rw[QP _ j3];by_cases j2:j=b2;·subst j2;rw[RH];exact hq.symm
   ·rw[U5 _ j2];exact WQ.blk _ hj
 have l1:Z4 Tryz.prog H.top 3 (.pointer (some ⟨b2,0,none⟩))=some (.int .i64 x):=Yb LN (AH.cells_rw' (H:=H.top) hq (by decide)) rfl;have l2:Z4 Tryz.prog H.top 23 (.pointer (some ⟨b3,0,none⟩))=some (.int .i64 e):=Yb KZ (AH.cells_rw' (H:=H.top) he (by decide)) rfl;refine WN 9 Tryz.func85 rfl rfl ?_;apply WM (by kernel_rfl);apply YI (by kernel_rfl);simp[WT,isRec];refine Z0 (v:= .int .i64 x) rfl rfl rfl (by rw[ZG rfl];simp[l1]) ?_;simp;refine Z0 (v:= .int .i64 e) rfl rfl rfl (by rw[ZG rfl];simp[l2]) ?_;simp;refine YU (v:= .tuple #[.int .i64 x,.int .i64 e]) (H2:=E1) rfl rfl rfl (by rw[ZG rfl];simp[c1]) MG (YO U3) ?_;rw[<-UO];generalize Pz:cond (Nat.blt H.n E1.n) _ _=ms;have X8:=V8 Pz;simp;refine YH (v:= .tuple #[]) (H2:=S1) rfl rfl (by kernel_rfl) (Yr fun x hx=>by rw[(X8 x hx).1];kernel_rfl) ?_ (by omega) To ?_;·show Z2 _ _ _ _ G1.top _=_;simp[SB]
 rw[show({ n:=S1.n,lw:=min G1.lw S1.lw,t:=S1.t } :AH)=F1 from Pu.symm];rw[show Nat.blt G1.n S1.n=false from by rw[L9];exact XE _,cond_false];simp;refine YH (v:= .tuple #[]) (H2:=S2) rfl rfl (by kernel_rfl) (Yr fun x hx=>by rw[(X8 x hx).1];kernel_rfl) ?_ (by omega) SC ?_;·show Z2 _ _ _ _ F1.top _=_;simp[TK]
 rw[show({ n:=S2.n,lw:=min F1.lw S2.lw,t:=S2.t } :AH)=F from hF.symm];simp;exact hK F hS
theorem Qf{b2 b3:Nat}{x e:Int}{K:AH->Prop}(hq:H.blk b2= .rw 1 [.int .i64 x])(he:H.blk b3= .rw 1 [.int .i64 e])(h2:b2<H.n)(h3:b3<H.n)(YW:b2<b3)(hK: ∀H',T7 b2 H H'->K H'):Cd Tryz.prog Zy 121 [.pointer (some ⟨b2,0,none⟩),.pointer (some ⟨b3,0,none⟩)] .nilIface H K:=by
 obtain⟨E1,c1,U3⟩:=Nw x e H.top;obtain⟨G1,UO⟩:=hid (grown H E1);have WQ:Zg H G1:=by rw[UO];exact Yi (.refl H) U3
 have MG:H.n<=E1.n:=U3.n;have dH:=WQ.n;have r2:G1.blk b2= .rw 1 [.int .i64 x]:=by rw[WQ.blk _ h2];exact hq
 have r3:G1.blk b3= .rw 1 [.int .i64 e]:=by rw[WQ.blk _ h3];exact he
 obtain⟨S1,SB,L9,To,PC,RH,U5,RE⟩:=Uo (v:= .int .i64 x) (ws:=[.int .i64 x]) cH r2 (by omega) rfl rfl rfl rfl;obtain⟨F1,Pu⟩:=hid (low G1 S1);rw[<-Pu]at PC RH U5 RE;have Ix:F1.blk b3= .rw 1 [.int .i64 e]:=by rw[U5 _ (by omega)];exact r3
 obtain⟨S2,TK,jR,SC,Lf,RN,QP,Pm⟩:=Uo (v:= .int .i64 e) (ws:=[.int .i64 e]) M1 Ix (by omega) rfl rfl rfl rfl;obtain⟨F,hF⟩:=hid (low F1 S2);rw[<-hF]at Lf RN QP Pm;have hS:T7 b2 H F:=by
  refine⟨by omega,fun j hj=>?_,fun H0 k hn=>Pm H0 (RE H0 (k.trans WQ) hn) (by omega)⟩;by_cases j3:j=b3;·subst j3;rw[RN];exact he.symm
  ·rw[QP _ j3];by_cases j2:j=b2;·subst j2;rw[RH];exact hq.symm
   ·rw[U5 _ j2];exact WQ.blk _ hj
 have l1:Z4 Tryz.prog H.top 3 (.pointer (some ⟨b2,0,none⟩))=some (.int .i64 x):=Yb LN (AH.cells_rw' (H:=H.top) hq (by decide)) rfl;have l2:Z4 Tryz.prog H.top 23 (.pointer (some ⟨b3,0,none⟩))=some (.int .i64 e):=Yb KZ (AH.cells_rw' (H:=H.top) he (by decide)) rfl;refine WN 9 Tryz.func121 rfl rfl ?_;apply WM (by kernel_rfl);apply YI (by kernel_rfl);simp[WT,isRec];refine Z0 (v:= .int .i64 x) rfl rfl rfl (by rw[ZG rfl];simp[l1]) ?_;simp;refine Z0 (v:= .int .i64 e) rfl rfl rfl (by rw[ZG rfl];simp[l2]) ?_;simp;refine YU (v:= .tuple #[.int .i64 x,.int .i64 e]) (H2:=E1) rfl rfl rfl (by rw[ZG rfl];simp[c1]) MG (YO U3) ?_;rw[<-UO];generalize Pz:cond (Nat.blt H.n E1.n) _ _=ms;have X8:=V8 Pz;simp;refine YH (v:= .tuple #[]) (H2:=S1) rfl rfl (by kernel_rfl) (Yr fun x hx=>by rw[(X8 x hx).1];kernel_rfl) ?_ (by omega) To ?_;·show Z2 _ _ _ _ G1.top _=_;simp[SB]
 rw[show({ n:=S1.n,lw:=min G1.lw S1.lw,t:=S1.t } :AH)=F1 from Pu.symm];rw[show Nat.blt G1.n S1.n=false from by rw[L9];exact XE _,cond_false];simp;refine YH (v:= .tuple #[]) (H2:=S2) rfl rfl (by kernel_rfl) (Yr fun x hx=>by rw[(X8 x hx).1];kernel_rfl) ?_ (by omega) SC ?_;·show Z2 _ _ _ _ F1.top _=_;simp[TK]
 rw[show({ n:=S2.n,lw:=min F1.lw S2.lw,t:=S2.t } :AH)=F from hF.symm];simp;exact hK F hS
end
theorem uQs:Tryz.prog.underlying 157=some (.slice 34):=by kernel_rfl
theorem sQs:WO Tryz.prog 157=some (34,3,56):=by kernel_rfl
theorem zO(b m:Nat):QE Tryz.prog 157 (.slice (some ⟨b,0,none⟩) m m)=some m:=by unfold QE;simp only[uQs]
theorem wL(b m:Nat){i:Nat}(hi:i<m):Yj Tryz.prog 157 (.slice (some ⟨b,0,none⟩) m m) (.int .i64 (i:Int))=some (.pointer (some ⟨b,i*3,none⟩)):=by unfold Yj;simp only[uQs,VF];rw[if_pos (by omega)];simp
theorem Ab(H:AH)(p q r:Value):YX Tryz.prog H 157 1 [(0,.agg #[p,q,r])]=some (.slice (some ⟨H.n,0,none⟩) 1 1,H.new 3 [p,q,r]):=by unfold YX;simp only[sQs,Wt];kernel_rfl
theorem Nu(H:AH)(p q r p' q' r':Value):YX Tryz.prog H 157 2 [(0,.agg #[p,q,r]),(1,.agg #[p',q',r'])]=some (.slice (some ⟨H.n,0,none⟩) 2 2,H.new 3 [p,q,r,p',q',r']):=by unfold YX;simp only[sQs,Wt];kernel_rfl
theorem O6{H:AH}{b o:Nat}{cs vs:List Value}(h:H.cells b=some cs)(hk:(cs.drop o).take 3=vs)(hl:vs.length=3):Z4 Tryz.prog H 34 (.pointer (some ⟨b,o,none⟩))=some (.agg vs.toArray):=by
 unfold Z4;simp only[eX,VF,AH.read_def,h];have:o+3<=cs.length:=by have:=congrArg List.length hk;rw[List.length_take,List.length_drop,hl]at this;omega
 rw[Nat.ble_eq.mpr this,cond_true,hk]
section
variable {H : AH} {u v va vb : Value} {xs ys : List Nat} {A B : Nat}
def Looks(H:AH)(b m:Nat):Prop:= ∀i,i<m-> ∃(p q r:Value) (D:Nat),(∀H',Zg H H'->Z4 Tryz.prog H' 34 (.pointer (some ⟨b,i*3,none⟩))=some (.agg #[p,q,r]))/\U9 p q r/\Sl H r (ds Zc D)/\Zm D<=67108864/\0<D
theorem UY{b m:Nat}(hl:Looks H b m)(hm:m<=1000): ∃H',ZY Tryz.prog Zy 87 [.slice (some ⟨b,0,none⟩) m m] H=some (.tuple #[],H')/\Zg H H':=by
 suffices h:CW Tryz.prog Zy 87 [.slice (some ⟨b,0,none⟩) m m] H fun v H'=>v= .tuple #[]/\Zg H H' by obtain⟨v,H',hc,rfl,k⟩:=h;exact⟨H',hc,k⟩
 have lq:=zO b m;refine Z8 17 Tryz.func87 ?_;apply Zb;intro b1 Ze;simp[lq];subst Ze;apply ZS;refine YQ (fun n s'=>s'.k=17/\Zg H s'.H/\ ∃i:Nat,n+i=m/\s'.tm.get 4=some (.slice (some ⟨b,0,none⟩) m m)/\s'.tm.get 5=some (.int .i64 (m:Int))/\s'.tm.get 6=some (.int .i64 (i:Int))) ?_ m _ ⟨rfl,.refl H,0,by omega,by simp,by simp,by simp⟩;rintro n ⟨k,tm,H4⟩ ⟨hk,kH,i,sM,t4,t5,t6⟩ Q' Y4;simp only at hk kH t4 t5 t6;subst hk;apply Zb;intro b3 Z9;simp[t5,t6,Iq];subst Z9;apply Zh;intro b3 Z9;by_cases hi:i<m
 ·refine Za (t:=true) (by simp[hi]) ?_;apply Zr;subst Z9;obtain⟨p,q,r,D,YD,⟨⟨s,rfl⟩,⟨a1,l1,c1,rfl⟩,⟨a2,l2,c2,rfl⟩⟩,zd,hbD,hD0⟩:=hl i hi;obtain⟨H5,Wo,k5,Gk,n5⟩:=Y6 (H:=H4) (sz:=1) (zs:=[.bool false,.slice none 0 0,.slice none 0 0]) VF rfl (v:= .agg #[.bool s,.slice a1 l1 c1,.slice a2 l2 c2]) (ws:=[.bool s,.slice a1 l1 c1,.slice a2 l2 c2]) rfl rfl rfl;have cl:=Wd ((zd.keep kH).keep k5) (ZX hbD);obtain⟨L,hL⟩:=hid (Zm D);rw[<-hL]at cl;have hL0:L≠0:=fun h=>by rw[hL]at h;have:=Tc.mp h;omega
  have ge:Zd .eql .i64 (L:Int) 0=some (.bool false):=by rw[Ws,decide_eq_false hL0]
  apply Zh;intro b3 Z9;apply ZS;apply Zb;intro b4 Yz;simp[t4,t6,wL b m hi,YD H4 kH,Wt,Value.cells,Wo];subst Yz;apply Zb;intro b4 Yz;simp[Oj,VN Gk,cl,ge];subst Yz;refine Za (t:=false) (by simp) ?_;apply Zr;subst Z9;apply Zk;simp[t6,Tx (x:=i) (by omega)];apply Y4;exact⟨n-1,by omega,rfl,kH.trans k5,i+1,by omega,by simp[t4],by simp[t5],by simp⟩
 ·refine Za (t:=false) (by simp[hi]) ?_;apply YP;apply Y4;left;refine⟨rfl,?_⟩;simp;exact kH
theorem O8{x:Bool}(hu: ∃a l c,u= .slice a l c)(H:AH): ∃H',ZY Tryz.prog Zy 142 [.agg #[.bool x,u],.int .i64 0] H=some (.agg #[.bool x,u],H')/\Zg H H':=by
 obtain⟨a,l,c,rfl⟩:=hu;suffices h:CW Tryz.prog Zy 142 [.agg #[.bool x,.slice a l c],.int .i64 0] H fun v H'=>v= .agg #[.bool x,.slice a l c]/\Zg H H' by obtain⟨v,H',hc,rfl,k⟩:=h;exact⟨H',hc,k⟩
 obtain⟨H2,e2,k2,n2,q1,q2⟩:=Y9 H [.bool x,.slice a l c] [.bool false,.slice none 0 0];obtain⟨H4,Wx,n4,q4,b4,VX⟩:=Iu (p:= .bool x) (q:= .slice a l c) q2 rfl rfl rfl rfl;have Rf:Zg H H4:=VX H k2 (by omega);have YD:=T4 q4;refine Z8 11 Tryz.func142 ?_;apply Zb;intro b1 Ze;simp[Value.cells,RO,XV,e2];subst Ze;apply Zh;intro b1 Ze;apply Zb;intro b2 Zx;simp[SH];subst Zx;refine Za (t:=false) (by simp) ?_;apply Zr;subst Ze;apply Zb;intro b1 Ze;simp[T4 q1,Wx];subst Ze;apply Zu;simp[YD];exact Rf
theorem Bj{p q r:Value}(ht:U9 p q r)(H:AH): ∃H',ZY Tryz.prog Zy 148 [.agg #[p,q,r],.int .i64 0] H=some (.agg #[p,q,r],H')/\Zg H H':=by
 obtain⟨⟨s,rfl⟩,⟨a1,l1,c1,rfl⟩,⟨a2,l2,c2,rfl⟩⟩:=ht;suffices h:CW Tryz.prog Zy 148 [.agg #[.bool s,.slice a1 l1 c1,.slice a2 l2 c2],.int .i64 0] H fun v H'=>v= .agg #[.bool s,.slice a1 l1 c1,.slice a2 l2 c2]/\Zg H H' by obtain⟨v,H',hc,rfl,k⟩:=h;exact⟨H',hc,k⟩
 obtain⟨H2,e2,k2,n2,q1,q2⟩:=Y9 H [.bool s,.slice a1 l1 c1,.slice a2 l2 c2] [.bool false,.slice none 0 0,.slice none 0 0];obtain⟨H4,Wx,n4,q4,b4,VX⟩:=SF (p:= .bool s) (q:= .slice a1 l1 c1) (r:= .slice a2 l2 c2) q2 rfl rfl rfl rfl rfl rfl;have Rf:Zg H H4:=VX H k2 (by omega);have YD:=YM q4;refine Z8 11 Tryz.func148 ?_;apply Zb;intro b1 Ze;simp[Value.cells,Wt,XV,e2];subst Ze;apply Zh;intro b1 Ze;apply Zb;intro b2 Zx;simp[SH];subst Zx;refine Za (t:=false) (by simp) ?_;apply Zr;subst Ze;apply Zb;intro b1 Ze;simp[YM q1,Wx];subst Ze;apply Zu;simp[YD];exact Rf
theorem Ww{n:Nat}(hn:n<9223372036854775808): ∃p q H',ZY Tryz.prog Zy 145 [.int .i64 (n:Int)] H=some (.agg #[.bool false,p,q],H')/\Zg H H'/\Ym H.n H' p (ds Zc n)/\Ym H.n H' q (ds Zc 1):=by
 suffices h:CW Tryz.prog Zy 145 [.int .i64 (n:Int)] H fun v H'=> ∃p q,v= .agg #[.bool false,p,q]/\Zg H H'/\Ym H.n H' p (ds Zc n)/\Ym H.n H' q (ds Zc 1) by obtain⟨v,H',hc,p,q,rfl,k,o⟩:=h;exact⟨p,q,H',hc,k,o⟩
 obtain⟨H2,e2,k2,n2,q2⟩:=XK H [.bool false,.slice none 0 0,.slice none 0 0];obtain⟨p,H3,c3,k3,o3⟩:=kf (H:=H2) hn;obtain⟨q,H4,c4,k4,o4⟩:=Th (H:=H3) (x:=1) (by decide);have c4:ZY Tryz.prog Zy 164 [.int .u64 1] H3=some (q,H4):=c4;have n3:=k3.n;have QC:=(k3.trans k4).blk _ (show H.n<H2.n by omega);rw[q2]at QC;have kL:=o3.m k4;obtain⟨i1,i2,i3⟩:=kL.trio;obtain⟨j1,j2,j3⟩:=o4.trio;obtain⟨H5,Wo,n5,q5,b5,WH⟩:=SF (p:= .bool false) (q:=p) (r:=q) QC rfl i1 j1 rfl i2 j2;have Fv:Zg H H5:=WH H ((k2.trans k3).trans k4) (by omega);have o5:=(kL.off (b:=H.n) (by omega) n5 b5).mono (show H.n<=H2.n by omega) (.refl _);have o6:=(o4.off (b:=H.n) (by omega) n5 b5).mono (show H.n<=H3.n by omega) (.refl _);have YD:=YM q5;refine Z8 7 Tryz.func145 ?_;apply Zb;intro b1 Ze;simp[Value.cells,Wt,XV,e2];subst Ze;apply Zb;intro b1 Ze;simp[c3,c4,OJ (x:=false) i3 j3,Wo];subst Ze;apply Zu;simp[YD];exact⟨_,_,⟨rfl,rfl⟩,Fv,o5,o6⟩
theorem Ng(s:Bool)(ha:Sl H u (ds Zc A))(hv: ∃a l c,v= .slice a l c)(hA:Zm A<=67108864): ∃H',ZY Tryz.prog Zy 88 [.agg #[.bool s,u,v]] H=some (.int .i64 (Xy s A),H')/\Zg H H':=by
 suffices h:CW Tryz.prog Zy 88 [.agg #[.bool s,u,v]] H fun w H'=>w= .int .i64 (Xy s A)/\Zg H H' by obtain⟨v,H',hc,rfl,k⟩:=h;exact⟨H',hc,k⟩
 obtain⟨H2,e2,k2,n2,q2⟩:=XK H [.bool s,u,v];obtain⟨H3,c3,k3⟩:=BI s (ha.keep k2) (Yv Z7 A) (Nat.le_trans (ZX hA) (by decide));rw[YT Z7]at c3;obtain⟨S,hS⟩:=hid (Xy s A);rw[<-hS]at c3⊢;refine Z8 6 Tryz.func88 ?_;apply Zb;intro b1 Ze;simp[Value.cells,XV,e2];subst Ze;apply Zb;intro b1 Ze;simp[SQ,Bb q2,c3];subst Ze;apply Zu;simp;exact k2.trans k3
end
theorem Zaa{H:AH}{b:Nat}{x e:Int}(hb:H.blk b= .rw 1 [.int .i64 x]): ∃H',YZ Tryz.prog H 3 (.pointer (some ⟨b,0,none⟩)) (.int .i64 e)=some H'/\H'.n=H.n/\H'.blk b= .rw 1 [.int .i64 e]/\(∀j,j≠b->H'.blk j=H.blk j)/\UR b H H':=TB cH hb rfl rfl rfl rfl
theorem AJ{H:AH}{b:Nat}{e:Int}(hb:H.blk b= .rw 1 [.int .i64 e]):Z4 Tryz.prog H 3 (.pointer (some ⟨b,0,none⟩))=some (.int .i64 e):=Yb LN (AH.cells_rw' hb (by decide)) rfl
section
variable {H : AH} {u v va vb : Value} {xs ys : List Nat} {A B : Nat}
theorem tH{H:AH}{p q r:Value}{D:Nat}(ht:U9 p q r)(hs:Sl (H.new 3 [p,q,r]) r (ds Zc D))(hb:Zm D<=67108864)(h0:0<D):Looks (H.new 3 [p,q,r]) H.n 1:=fun i hi=>by
 obtain rfl:i=0:=by omega
 exact⟨p,q,r,D,fun H' k=>O6 (cs:=[p,q,r]) ((VS k (Nat.lt_succ_self _)).trans (Sx H 3 [p,q,r])) rfl rfl,ht,hs,hb,h0⟩
theorem Ju{H:AH}{p q r p' q' r':Value}{D D':Nat}(ht:U9 p q r)(hs:Sl (H.new 3 [p,q,r,p',q',r']) r (ds Zc D))(hb:Zm D<=67108864)(h0:0<D)(bT:U9 p' q' r')(za:Sl (H.new 3 [p,q,r,p',q',r']) r' (ds Zc D'))(Wk:Zm D'<=67108864)(h0':0<D'):Looks (H.new 3 [p,q,r,p',q',r']) H.n 2:=fun i hi=>by
 have hc:=fun{H'} (k:Zg (H.new 3 [p,q,r,p',q',r']) H')=>(VS k (Nat.lt_succ_self _)).trans (Sx H 3 [p,q,r,p',q',r']);have:i=0\/i=1:=by omega
 rcases this with rfl|rfl;·exact⟨p,q,r,D,fun H' k=>O6 (hc k) rfl rfl,ht,hs,hb,h0⟩
 ·exact⟨p',q',r',D',fun H' k=>O6 (hc k) rfl rfl,bT,za,Wk,h0'⟩
theorem Sl.trio{H:AH}{s:Bool}{xs ys:List Nat}(ha:Sl H u xs)(hb:Sl H v ys):U9 (.bool s) u v:=⟨⟨s,rfl⟩,ha.shape,hb.shape⟩
theorem PS(s:Bool)(ha:Sl H u (ds Zc A))(hb:Sl H v (ds Zc B))(hA:Zm A<=67108864)(hB:Zm B<=67108864)(Ml:0<B): ∃H',ZY Tryz.prog Zy 54 [.agg #[.bool s,u,v]] H=some (.tuple #[.int .i64 (Xy s A),.int .i64 0],H')/\Zg H H':=by
 suffices h:CW Tryz.prog Zy 54 [.agg #[.bool s,u,v]] H fun w H'=>w= .tuple #[.int .i64 (Xy s A),.int .i64 0]/\Zg H H' by obtain⟨v,H',hc,rfl,k⟩:=h;exact⟨H',hc,k⟩
 obtain⟨H2,e2,k2,n2,q1,q2,q3⟩:=Te H [.bool s,u,v] [.int .i64 0] [.int .i64 0];have k3:=Zg.new H2 3 [.bool s,u,v];obtain⟨H4,c4,k4⟩:=UY (tH (ha.trio hb (s:=s)) ((hb.keep k2).keep k3) hB Ml) (by decide);obtain⟨H3,Es⟩:=hid (H2.new 3 [.bool s,u,v]);rw[<-Es]at k3 c4 k4;have O4:=k3.trans k4;have r1:H4.blk H.n= .rw 1 [.bool s,u,v]:=by rw[O4.blk _ (by omega)];exact q1
 obtain⟨H5,c5,k5⟩:=Ng s ((ha.keep k2).keep O4) hb.shape hA;have vG:=O4.trans k5;have r2:H5.blk (H.n+1)= .rw 1 [.int .i64 0]:=by rw[vG.blk _ (by omega)];exact q2
 have r3:H5.blk (H.n+2)= .rw 1 [.int .i64 0]:=by rw[vG.blk _ (by omega)];exact q3
 obtain⟨S,hS⟩:=hid (Xy s A);rw[<-hS]at c5⊢;have n5:=vG.n;obtain⟨H6,Vp,n6,p6,b6,V1⟩:=Zaa (e:=S) r2;have Ix:H6.blk (H.n+2)= .rw 1 [.int .i64 0]:=by rw[b6 _ (by omega)];exact r3
 obtain⟨H7,Od,n7,p7,b7,LA⟩:=JR (e:=0) Ix;have p6':H7.blk (H.n+1)= .rw 1 [.int .i64 S]:=by rw[b7 _ (by omega)];exact p6
 have vJ:Zg H H7:=LA H (V1 H (k2.trans vG) (by omega)) (by omega);refine W4 10 (by decide) (by decide) Tryz.func54 rfl rfl rfl ?_;intro b1 Ze;apply Zk;simp[Value.cells,uF,IW,XV,e2];refine⟨_,_,⟨rfl,rfl⟩,?_⟩;subst Ze;apply Zb;intro b1 Ze;simp[YM q1,Ab,<-Es,c4];subst Ze;apply Zb;intro b1 Ze;simp[YM r1,c5,Vp,Od];subst Ze;apply Zu;simp[VI];refine cE p6' p7 (by omega) (by omega) (by omega) fun H8 hS=>?_;have z4:H8.blk (H.n+1)= .rw 1 [.int .i64 S]:=by rw[hS.2.1 _ (by omega)];exact p6'
 have z5:H8.blk (H.n+2)= .rw 1 [.int .i64 0]:=by rw[hS.2.1 _ (by omega)];exact p7
 simp[AJ z4,T3 z5];exact hS.keep vJ (by omega)
theorem L7(s t:Bool)(ha:Sl H u (ds Zc A))(hb:Sl H v (ds Zc B))(hA:Zm A<=67108864)(hB:Zm B<=67108864)(Ml:0<B): ∃p q H',ZY Tryz.prog Zy 56 [.agg #[.bool s,u],.agg #[.bool t,v]] H=some (.tuple #[.agg #[.bool (Z6 (s !=t) A B).1,p,q],.int .i64 0],H')/\Zg H H'/\Ym H.n H' p (ds Zc (Z6 (s !=t) A B).2.1)/\Ym H.n H' q (ds Zc (Z6 (s !=t) A B).2.2)/\Vq p q:=by
 obtain⟨neg,QF⟩:=hid ((s !=t));rw[<-QF];obtain⟨r,hr⟩:=hid (Z6 neg A B);suffices hs:CW Tryz.prog Zy 56 [.agg #[.bool s,u],.agg #[.bool t,v]] H fun v H'=> ∃p q,v= .tuple #[.agg #[.bool r.1,p,q],.int .i64 0]/\Zg H H'/\Ym H.n H' p (ds Zc r.2.1)/\Ym H.n H' q (ds Zc r.2.2)/\Vq p q by obtain⟨v,H',hc,p,q,rfl,k,o⟩:=hs;rw[<-hr];exact⟨p,q,H',hc,k,o⟩
 obtain⟨H2,e2,k2,n2,q0,q1,q2,q3⟩:=Mw H [.bool s,u] [.bool t,v] [.bool false,.slice none 0 0,.slice none 0 0] [.int .i64 0];obtain⟨p,q,H3,c3,k3,o3,o4,ap⟩:=PQ neg (ha.keep k2) (hb.keep k2) (Yv Z7 A) (Yv Z7 B) (Nat.le_trans (ZX hA) (by decide)) (Nat.le_trans (ZX hB) (by decide)) (YT Z7 A) (YT Z7 B) hA hB Ml;rw[<-hr]at c3 o3 o4;have n3:=k3.n;have QC:=k3.blk _ (show H.n+2<H2.n by omega);rw[q2]at QC;have A9:=k3.blk _ (show H.n+3<H2.n by omega);rw[q3]at A9;obtain⟨i1,i2,i3⟩:=o3.trio;obtain⟨j1,j2,j3⟩:=o4.trio;obtain⟨S,N,D⟩:=r;simp only at c3 o3 o4⊢;obtain⟨H4,Wx,n4,q4,b4,VX⟩:=SF (p:= .bool S) (q:=p) (r:=q) QC rfl i1 j1 rfl i2 j2;have Bt:H4.blk (H.n+3)= .rw 1 [.int .i64 0]:=by rw[b4 _ (by omega)];exact A9
 obtain⟨H5,Wo,n5,q5,b5,WH⟩:=JR (e:=0) Bt;have q4':H5.blk (H.n+2)= .rw 1 [.bool S,p,q]:=by rw[b5 _ (by omega)];exact q4
 have Fv:Zg H H5:=WH H (VX H (k2.trans k3) (by omega)) (by omega);have o5:=((o3.off (b:=H.n+2) (by omega) n4 b4).off (b:=H.n+3) (by omega) n5 b5).mono (show H.n<=H2.n by omega) (.refl _);have o6:=((o4.off (b:=H.n+2) (by omega) n4 b4).off (b:=H.n+3) (by omega) n5 b5).mono (show H.n<=H2.n by omega) (.refl _);have kY:Ys Tryz.prog .neq 4 (.bool s) (.bool t)=some (.bool neg):=by rw[QF];cases s<;>cases t<;>rfl
 refine W4 21 (by decide) (by decide) Tryz.func56 rfl rfl rfl ?_;intro b1 Ze;apply Zk;simp[Value.cells,Wt,IW,XV,e2];refine⟨_,_,⟨rfl,rfl⟩,?_⟩;subst Ze;apply Zb;intro b1 Ze;simp[VY,TC q0,TC q1,-Ys,kY];subst Ze;apply Zb;intro b1 Ze;simp[Tg,V7 q0,V7 q1,OI (b:=neg) ha.shape,OJ (x:=neg) ha.shape hb.shape,c3,Wx,Wo];subst Ze;apply Zu;simp[VI];refine cp ⟨⟨_,rfl⟩,i3,j3⟩ q4' q5 (by omega) (by omega) (by omega) fun H6 hS=>?_;have r4:H6.blk (H.n+2)= .rw 1 [.bool S,p,q]:=by rw[hS.2.1 _ (by omega)];exact q4'
 have r5:H6.blk (H.n+3)= .rw 1 [.int .i64 0]:=by rw[hS.2.1 _ (by omega)];exact q5
 simp[YM r4,T3 r5];exact⟨_,_,⟨rfl,rfl⟩,hS.keep Fv (by omega),hS.own o5,hS.own o6,ap⟩
end
theorem Zai:Xk Tryz.prog 4=some 1:=by kernel_rfl
theorem nI{H:AH}{b:Nat}{p q r:Value}{x:Bool}(hb:H.blk b= .rw 1 [p,q,r]): ∃H',YZ Tryz.prog H 4 (.pointer (some ⟨b,0,none⟩)) (.bool x)=some H'/\H'.n=H.n/\H'.blk b= .rw 1 [.bool x,q,r]/\(∀j,j≠b->H'.blk j=H.blk j)/\UR b H H':=by obtain⟨H',st,q1,n1,o,ka,_⟩:=WE (o:=0) Zai hb (v:= .bool x) (ws:=[.bool x]) rfl rfl (by simp) rfl;exact⟨H',st,n1,q1,o,ka⟩
section
variable {H : AH} {u v va vb : Value} {xs ys : List Nat} {A B : Nat}
theorem Iy(neg:Bool)(ha:Sl H u (ds Zc A))(hb:Sl H v (ds Zc B))(hA:Zm A<=67108864)(hB:Zm B<=67108864)(Ml:0<B): ∃p q H',ZY Tryz.prog Zy 109 [.agg #[.bool neg,u,v]] H=some (.tuple #[.agg #[.bool false,p,q],.int .i64 0],H')/\Zg H H'/\Ym H.n H' p (ds Zc (Z6 neg A B).2.1)/\Ym H.n H' q (ds Zc (Z6 neg A B).2.2):=by
 obtain⟨r,hr⟩:=hid (Z6 neg A B);suffices hs:CW Tryz.prog Zy 109 [.agg #[.bool neg,u,v]] H fun v H'=> ∃p q,v= .tuple #[.agg #[.bool false,p,q],.int .i64 0]/\Zg H H'/\Ym H.n H' p (ds Zc r.2.1)/\Ym H.n H' q (ds Zc r.2.2) by obtain⟨v,H',hc,p,q,rfl,k,o⟩:=hs;rw[<-hr];exact⟨p,q,H',hc,k,o⟩
 obtain⟨H2,e2,k2,n2,q1,q2,q3⟩:=Te H [.bool neg,u,v] [.bool false,.slice none 0 0,.slice none 0 0] [.int .i64 0];obtain⟨p,q,H3,c3,k3,o3,o4⟩:=Nd neg (ha.keep k2) (hb.keep k2) hA hB Ml;rw[<-hr]at c3 o3 o4;have n3:=k3.n;have QC:=k3.blk _ (show H.n+1<H2.n by omega);rw[q2]at QC;have A9:=k3.blk _ (show H.n+2<H2.n by omega);rw[q3]at A9;obtain⟨i1,i2,i3⟩:=o3.trio;obtain⟨j1,j2,j3⟩:=o4.trio;obtain⟨S,N,D⟩:=r;simp only at c3 o3 o4⊢;obtain⟨H4,Wx,n4,q4,b4,VX⟩:=SF (p:= .bool S) (q:=p) (r:=q) QC rfl i1 j1 rfl i2 j2;obtain⟨H5,Wo,n5,q5,b5,WH⟩:=nI (x:=false) q4;obtain⟨H6,Vp,n6,q6,b6,V1⟩:=SF (p:= .bool false) (q:=p) (r:=q) q5 rfl i1 j1 rfl i2 j2;have Bt:H6.blk (H.n+2)= .rw 1 [.int .i64 0]:=by rw[b6 _ (by omega),b5 _ (by omega),b4 _ (by omega)];exact A9
 obtain⟨H7,Od,n7,q7,b7,LA⟩:=JR (e:=0) Bt;have lf:H7.blk (H.n+1)= .rw 1 [.bool false,p,q]:=by rw[b7 _ (by omega)];exact q6
 have vJ:Zg H H7:=LA H (V1 H (WH H (VX H (k2.trans k3) (by omega)) (by omega)) (by omega)) (by omega);have o5:=((((o3.off (b:=H.n+1) (by omega) n4 b4).off (b:=H.n+1) (by omega) n5 b5).off (b:=H.n+1) (by omega) n6 b6).off (b:=H.n+2) (by omega) n7 b7).mono (show H.n<=H2.n by omega) (.refl _);have o6:=((((o4.off (b:=H.n+1) (by omega) n4 b4).off (b:=H.n+1) (by omega) n5 b5).off (b:=H.n+1) (by omega) n6 b6).off (b:=H.n+2) (by omega) n7 b7).mono (show H.n<=H2.n by omega) (.refl _);refine W4 10 (by decide) (by decide) Tryz.func109 rfl rfl rfl ?_;intro b1 Ze;apply Zk;simp[Value.cells,Wt,IW,XV,e2];refine⟨_,_,⟨rfl,rfl⟩,?_⟩;subst Ze;apply Zb;intro b1 Ze;simp[YM q1,c3,Wx];subst Ze;apply Zb;intro b1 Ze;simp[SQ,VY,Wo];subst Ze;apply Zb;intro b1 Ze;simp[YM q5,Vp,Od];subst Ze;apply Zu;simp[VI];refine eV ⟨⟨_,rfl⟩,i3,j3⟩ lf q7 (by omega) (by omega) (by omega) fun H8 hS=>?_;have r4:H8.blk (H.n+1)= .rw 1 [.bool false,p,q]:=by rw[hS.2.1 _ (by omega)];exact lf
 have r5:H8.blk (H.n+2)= .rw 1 [.int .i64 0]:=by rw[hS.2.1 _ (by omega)];exact q7
 simp[YM r4,T3 r5];exact⟨_,_,⟨rfl,rfl⟩,hS.keep vJ (by omega),hS.own o5,hS.own o6⟩
theorem OP(neg:Bool)(ha:Sl H u (ds Zc A))(hb:Sl H v (ds Zc B))(hA:Zm A<=67108864)(hB:Zm B<=67108864)(Ml:0<B): ∃p q H',ZY Tryz.prog Zy 108 [.agg #[.bool neg,u,v]] H=some (.tuple #[.agg #[.bool (sg (!(Z6 neg A B).1) (Z6 neg A B).2.1),p,q],.int .i64 0],H')/\Zg H H'/\Ym H.n H' p (ds Zc (Z6 neg A B).2.1)/\Ym H.n H' q (ds Zc (Z6 neg A B).2.2):=by
 obtain⟨r,hr⟩:=hid (Z6 neg A B);suffices hs:CW Tryz.prog Zy 108 [.agg #[.bool neg,u,v]] H fun v H'=> ∃p q,v= .tuple #[.agg #[.bool (sg (!r.1) r.2.1),p,q],.int .i64 0]/\Zg H H'/\Ym H.n H' p (ds Zc r.2.1)/\Ym H.n H' q (ds Zc r.2.2) by obtain⟨v,H',hc,p,q,rfl,k,o⟩:=hs;rw[<-hr];exact⟨p,q,H',hc,k,o⟩
 obtain⟨H2,e2,k2,n2,q1,q2,q3⟩:=Te H [.bool neg,u,v] [.bool false,.slice none 0 0,.slice none 0 0] [.int .i64 0];obtain⟨p,q,H3,c3,k3,o3,o4⟩:=Nd neg (ha.keep k2) (hb.keep k2) hA hB Ml;rw[<-hr]at c3 o3 o4;have n3:=k3.n;have QC:=k3.blk _ (show H.n+1<H2.n by omega);rw[q2]at QC;have A9:=k3.blk _ (show H.n+2<H2.n by omega);rw[q3]at A9;obtain⟨i1,i2,i3⟩:=o3.trio;obtain⟨j1,j2,j3⟩:=o4.trio;obtain⟨S,N,D⟩:=r;simp only at c3 o3 o4⊢;obtain⟨T,hT⟩:=hid (sg (!S) N);rw[<-hT];obtain⟨H4,Wx,n4,q4,b4,VX⟩:=SF (p:= .bool S) (q:=p) (r:=q) QC rfl i1 j1 rfl i2 j2;obtain⟨H5,Wo,n5,q5,b5,WH⟩:=nI (x:=T) q4;obtain⟨H6,Vp,n6,q6,b6,V1⟩:=SF (p:= .bool T) (q:=p) (r:=q) q5 rfl i1 j1 rfl i2 j2;have Bt:H6.blk (H.n+2)= .rw 1 [.int .i64 0]:=by rw[b6 _ (by omega),b5 _ (by omega),b4 _ (by omega)];exact A9
 obtain⟨H7,Od,n7,q7,b7,LA⟩:=JR (e:=0) Bt;have lf:H7.blk (H.n+1)= .rw 1 [.bool T,p,q]:=by rw[b7 _ (by omega)];exact q6
 have vJ:Zg H H7:=LA H (V1 H (WH H (VX H (k2.trans k3) (by omega)) (by omega)) (by omega)) (by omega);have l3:=o3.sl.len Zv;obtain⟨m,hm⟩:=hid ((ds Zc N).length);rw[<-hm]at l3;have hmN:(0<m)↔0<N:=by rw[hm];exact Vj Z7
 have o5:=((((o3.off (b:=H.n+1) (by omega) n4 b4).off (b:=H.n+1) (by omega) n5 b5).off (b:=H.n+1) (by omega) n6 b6).off (b:=H.n+2) (by omega) n7 b7).mono (show H.n<=H2.n by omega) (.refl _);have o6:=((((o4.off (b:=H.n+1) (by omega) n4 b4).off (b:=H.n+1) (by omega) n5 b5).off (b:=H.n+1) (by omega) n6 b6).off (b:=H.n+2) (by omega) n7 b7).mono (show H.n<=H2.n by omega) (.refl _);refine W4 21 (by decide) (by decide) Tryz.func108 rfl rfl rfl ?_;intro b1 Ze;apply Zk;simp[Value.cells,Wt,IW,XV,e2];refine⟨_,_,⟨rfl,rfl⟩,?_⟩;subst Ze;apply Zb;intro b1 Ze;simp[YM q1,c3,Wx];subst Ze;cases S with
  |true=>
   have:T=false:=by rw[hT];rfl
   subst this;apply Zb;intro b1 Ze;simp[SQ,VY,PY q4,Wo];subst Ze;apply Zb;intro b1 Ze;simp[YM q5,Vp,Od];subst Ze;apply Zu;simp[VI];refine EB ⟨⟨_,rfl⟩,i3,j3⟩ lf q7 (by omega) (by omega) (by omega) fun H8 hS=>?_;have r4:H8.blk (H.n+1)= .rw 1 [.bool false,p,q]:=by rw[hS.2.1 _ (by omega)];exact lf
   have r5:H8.blk (H.n+2)= .rw 1 [.int .i64 0]:=by rw[hS.2.1 _ (by omega)];exact q7
   simp[YM r4,T3 r5];exact⟨_,_,⟨rfl,rfl⟩,hS.keep vJ (by omega),hS.own o5,hS.own o6⟩
  |false=>
   have hg:Zd .gtr .i64 (m:Int) 0=some (.bool T):=by rw[K7,hT];unfold sg;rw[Bool.not_false,Bool.true_and,decide_eq_decide.mpr hmN]
   apply Zb;intro b1 Ze;simp[SQ,VY,Tg,PY q4,Vx q4,l3,hg,Wo];subst Ze;apply Zb;intro b1 Ze;simp[YM q5,Vp,Od];subst Ze;apply Zu;simp[VI];refine EB ⟨⟨_,rfl⟩,i3,j3⟩ lf q7 (by omega) (by omega) (by omega) fun H8 hS=>?_;have r4:H8.blk (H.n+1)= .rw 1 [.bool T,p,q]:=by rw[hS.2.1 _ (by omega)];exact lf
   have r5:H8.blk (H.n+2)= .rw 1 [.int .i64 0]:=by rw[hS.2.1 _ (by omega)];exact q7
   simp[YM r4,T3 r5];exact⟨_,_,⟨rfl,rfl⟩,hS.keep vJ (by omega),hS.own o5,hS.own o6⟩
end
theorem KN(a b:Nat):XL a b= -1\/XL a b=0\/XL a b=1:=by
 unfold XL;split;·exact .inl rfl
 ·split;·exact .inr (.inr rfl)
  ·exact .inr (.inl rfl)
theorem TZ{a b:Nat}(h:a<b):XL a b= -1:=by unfold XL;rw[if_pos h]
theorem Tz{a b:Nat}(h:b<a):XL a b=1:=by unfold XL;rw[if_neg (by omega),if_pos h]
theorem Pa(a:Nat):XL a a=0:=by unfold XL;rw[if_neg (by omega),if_neg (by omega)]
theorem aQ(a b:Nat):XL a b= -XL b a:=by
 rcases Nat.lt_trichotomy a b with h|h|h;·rw[TZ h,Tz h]
 ·subst h;rw[Pa];rfl
 ·rw[Tz h,TZ h];rfl
theorem fi(a b c:Nat):XL (a+c) (b+c)=XL a b:=by
 rcases Nat.lt_trichotomy a b with h|h|h;·rw[TZ h,TZ (by omega)]
 ·subst h;rw[Pa,Pa]
 ·rw[Tz h,Tz (by omega)]
theorem IH{A B C D:Nat}(hB:0<B)(hD:0<D)(h:A/B<C/D):A*D<C*B:=by
 have h1:A<(A/B+1)*B:=by have:=Nat.div_add_mod A B;have:=Nat.mod_lt A hB;rw[Nat.add_mul,Nat.one_mul,Nat.mul_comm];omega
 have h2:C/D*D<=C:=Nat.div_mul_le_self C D;have h3:(A/B+1)*B<=C/D*B:=Nat.mul_le_mul_right _ h;have h4:A<C/D*B:=Nat.lt_of_lt_of_le h1 h3;have h5:A*D<C/D*B*D:=Nat.mul_lt_mul_of_pos_right h4 hD;have h6:C/D*B*D=C/D*D*B:=by rw[Nat.mul_right_comm]
 have h7:C/D*D*B<=C*B:=Nat.mul_le_mul_right _ h2;omega
theorem fm{A B C D:Nat}(hB:0<B)(hD:0<D):XL (A*D) (C*B)=if A/B=C/D then XL (A%B*D) (C%D*B)else XL (A/B) (C/D):=by
 split
 ·rename_i h;have h1:A*D=A%B*D+A/B*(B*D):=by
   conv=>lhs;rw[<-Nat.div_add_mod A B]
   rw[Nat.add_mul,Nat.add_comm,Nat.mul_comm B (A/B),Nat.mul_assoc]
  have h2:C*B=C%D*B+A/B*(B*D):=by
   conv=>lhs;rw[<-Nat.div_add_mod C D]
   rw[h,Nat.add_mul,Nat.add_comm,Nat.mul_comm D (C/D),Nat.mul_assoc,Nat.mul_comm D B]
  rw[h1,h2,fi]
 ·rename_i h;rcases Nat.lt_or_ge (A/B) (C/D)with h1|h1;·rw[TZ h1,TZ (IH hB hD h1)]
  ·have h1:C/D<A/B:=by omega
   rw[Tz h1,Tz (IH hD hB h1)]
section
variable {H : AH} {u v va vb : Value} {xs ys : List Nat} {A B : Nat}
theorem Lg(ha:Sl H u (ds Zc A))(hb:Sl H v (ds Zc B))(hA:Zm A<=67108864)(hB:Zm B<=67108864)(Ml:0<B): ∃p q H',ZY Tryz.prog Zy 161 [u,v] H=some (.tuple #[p,q],H')/\Zg H H'/\Ym H.n H' p (ds Zc (A/B))/\Ym H.n H' q (ds Zc (A%B)):=by
 suffices hs:CW Tryz.prog Zy 161 [u,v] H fun w H'=> ∃p q,w= .tuple #[p,q]/\Zg H H'/\Ym H.n H' p (ds Zc (A/B))/\Ym H.n H' q (ds Zc (A%B)) by obtain⟨v,H',hc,p,q,rfl,k,o⟩:=hs;exact⟨p,q,H',hc,k,o⟩
 obtain⟨w,H3,c3,k3,hm⟩:=aT ha hb (Yv Z7 A) (Yv Z7 B) (ZX hA) (ZX hB);rw[YT Z7,YT Z7]at hm;have h1:=ZE (Nat.div_le_self A B);have h2:=ZE (Nat.mod_le A B);rcases hm with⟨h,_⟩|⟨_,h,_⟩|⟨_,_,_,p,q,rfl,o1,o2,_⟩;·omega
 ·omega
 refine Z8 23 Tryz.func161 ?_;apply Zb;intro b1 Ze;simp;subst Ze;apply Zb;intro b1 Ze;simp[c3];subst Ze;apply Zh;intro b1 Ze;apply Zb;intro b2 Zx;simp[SH];subst Zx;refine Za (t:=false) (by simp) ?_;apply Zr;subst Ze;apply Zb;intro b1 Ze;simp;subst Ze;apply Zu;simp;exact⟨_,_,⟨rfl,rfl⟩,k3,o1,o2⟩
end
def sI(b:Bool):Int:=if b then-1 else 1
theorem mulS(b:Bool){c:Int}(hc:c= -1\/c=0\/c=1):Zd .mul .i64 (sI b) c=some (.int .i64 (sI b*c)):=by rcases hc with rfl|rfl|rfl<;>cases b<;>rfl
theorem zC(b:Bool):IntKind.i64.wrap (0-sI b)=sI (!b):=by cases b<;>rfl
theorem jT(b:Bool):sI (!b)= -sI b:=by cases b<;>rfl
theorem qQ(b:Bool):IntKind.i64.wrap (-sI b)=sI (!b):=by cases b<;>rfl
section
variable {H : AH} {u v va vb : Value} {xs ys : List Nat}
theorem Dl{A0 B0 C0 D0:Nat}{v0 v1 v2 v3:Value}(h0:Sl H v0 (ds Zc A0))(h1:Sl H v1 (ds Zc B0))(h2:Sl H v2 (ds Zc C0))(h3:Sl H v3 (ds Zc D0))(lA:Zm A0<=67108864)(lB:Zm B0<=67108864)(lC:Zm C0<=67108864)(lD:Zm D0<=67108864)(hB:0<B0)(hD:0<D0): ∃H',ZY Tryz.prog Zy 122 [v0,v1,v2,v3] H=some (.int .i64 (XL (A0*D0) (C0*B0)),H')/\Zg H H':=by
 obtain⟨R,hR⟩:=hid (XL (A0*D0) (C0*B0));suffices h:CW Tryz.prog Zy 122 [v0,v1,v2,v3] H fun v H'=>v= .int .i64 R/\Zg H H' by obtain⟨v,H',hc,rfl,k⟩:=h;rw[<-hR];exact⟨H',hc,k⟩
 refine Z8 61 Tryz.func122 ?_;apply Zb;intro b1 Ze;simp;subst Ze;apply Zb;intro b1 Ze;simp;subst Ze;apply ZS;refine YQ (fun n s'=>s'.k=61/\Zg H s'.H/\ ∃(A B C D:Nat) (g:Bool) (a b c d:Value),B+D=n/\0<B/\0<D/\Zm A<=67108864/\Zm B<=67108864/\Zm C<=67108864/\Zm D<=67108864/\R=sI g*XL (A*D) (C*B)/\Sl s'.H a (ds Zc A)/\Sl s'.H b (ds Zc B)/\Sl s'.H c (ds Zc C)/\Sl s'.H d (ds Zc D)/\s'.tm.get 0=some a/\s'.tm.get 1=some b/\s'.tm.get 2=some c/\s'.tm.get 3=some d/\s'.tm.get 9=some (.int .i64 (sI g))) ?_ (B0+D0) _ ⟨rfl,.refl H,A0,B0,C0,D0,false,v0,v1,v2,v3,rfl,hB,hD,lA,lB,lC,lD,by rw[hR];simp[sI],h0,h1,h2,h3,by simp,by simp,by simp,by simp,by simp[sI]⟩;rintro n ⟨k,tm,H1⟩ ⟨hk,kH,A,B,C,D,g,a,b,c,d,hn,hB,hD,lA,lB,lC,lD,NS,ha,hb,hc,hd,t0,t1,t2,t3,t9⟩ Q' Y4;simp only at hk kH ha hb hc hd t0 t1 t2 t3 t9;subst hk;obtain⟨p,x,H2,c2,k2,op,ox⟩:=Lg ha hb lA lB hB;obtain⟨q,y,H3,c3,k3,oq,oy⟩:=Lg (hc.keep k2) (hd.keep k2) lC lD hD;have op':=op.sl.keep k3;have ox':=ox.sl.keep k3;have Hq:=fm (A:=A) (C:=C) hB hD;have lx:A%B<B:=Nat.mod_lt _ hB;have ly:C%D<D:=Nat.mod_lt _ hD;have bP:=Nat.le_trans (ZE (Nat.div_le_self A B)) lA;have bQ:=Nat.le_trans (ZE (Nat.div_le_self C D)) lC;have bX:=Nat.le_trans (ZE (Nat.le_of_lt lx)) lB;have bY:=Nat.le_trans (ZE (Nat.le_of_lt ly)) lD;obtain⟨vc,Hc,cc,ec,fV⟩:=UH op' oq.sl (Yv Z7 _) (Yv Z7 _) (Nat.le_trans (ZX bP) (by decide)) (Nat.le_trans (ZX bQ) (by decide));rw[YT Z7,YT Z7]at fV;rw[ec,fV]at cc;obtain⟨P,hP⟩:=hid (A/B);obtain⟨X,hX⟩:=hid (A%B);obtain⟨Q,hQ⟩:=hid (C/D);obtain⟨Y,hY⟩:=hid (C%D);rw[<-hP,<-hQ,<-hX,<-hY]at Hq;rw[<-hP,<-hQ]at cc;rw[<-hX]at ox' lx bX;rw[<-hY]at oy ly bY;have Fs:=KN P Q;obtain⟨cm,mW⟩:=hid (XL P Q);rw[<-mW]at cc Fs Hq;have gn:Zd .neq .i64 cm 0=some (.bool (decide (cm≠0))):=Rq;have im:=kH.trans (k2.trans k3);apply Zh;intro b1 Ze;apply ZS;apply Zb;intro b2 Zx;simp[t0,t1,c2];subst Zx;apply Zb;intro b2 Zx;simp[t2,t3,c3];subst Zx;apply Zh;intro b2 Zx;apply Zb;intro b3 Z9;simp[cc];subst Z9;apply Zb;intro b3 Z9;simp[gn];subst Z9;by_cases hz:cm≠0;·have Ug:P≠Q:=fun e=>hz (by rw[mW,e,Pa]);rw[if_neg Ug]at Hq;rw[Hq]at NS;refine Za (t:=true) (by simp[hz]) ?_;apply Zb;intro b3 Z9;simp[t9,mulS g Fs];subst Z9;apply Zu;simp[Yx,Yn];apply Y4;simp[T5,Yn,Yx];exact⟨NS.symm,im⟩
 ·have zp:cm=0:=by omega
  have heq:P=Q:=by
   rcases Nat.lt_trichotomy P Q with h|h|h;·rw[TZ h]at mW;omega
   ·exact h
   ·rw[Tz h]at mW;omega
  rw[if_pos heq]at Hq;rw[Hq]at NS;refine Za (t:=false) (by simp[zp]) ?_;apply Zr;subst Zx;have qS:=ox'.len Zv;have zH:=oy.sl.len Zv;obtain⟨m1,mN⟩:=hid ((ds Zc X).length);obtain⟨m2,bZ⟩:=hid ((ds Zc Y).length);rw[<-mN]at qS;rw[<-bZ]at zH;have z1:m1=0↔X=0:=by rw[mN];exact Wu Z7
  have z2:m2=0↔Y=0:=by rw[bZ];exact Wu Z7
  have e1:=Ws (k:= .i64) (x:=m1);have e2:=Ws (k:= .i64) (x:=m2);apply Zh;intro b2 Zx;apply ZS;by_cases Kl:m1=0
  ·have vZ:=z1.mp Kl;rw[decide_eq_true Kl]at e1;rw[vZ,Nat.zero_mul]at NS;by_cases LC:m2=0;·have r8:=z2.mp LC;rw[decide_eq_true LC]at e2;rw[r8,Nat.zero_mul,Pa,Int.mul_zero]at NS;apply Zb;intro b3 Z9;simp[qS,e1,zH,e2];subst Z9;refine Za (t:=true) (by simp) ?_;apply Zb;intro b3 Z9;simp;subst Z9;apply Zu;simp[Yx,Yn];apply Y4;simp[T5,Yn,Yx];exact⟨NS.symm,im⟩
   ·have r8:0<Y:=by have: ¬Y=0:=fun h=>LC (z2.mpr h);omega
    rw[decide_eq_false LC]at e2;rw[TZ (Nat.mul_pos r8 hB)]at NS;have NS:R=sI (!g):=by rw[NS,jT];omega
    apply Zb;intro b3 Z9;simp[qS,e1,zH,e2];subst Z9;refine Za (t:=false) (by simp) ?_;apply Zb;intro b3 Z9;simp[qS,e1];subst Z9;refine Za (t:=true) (by simp) ?_;apply Zb;intro b3 Z9;simp[t9,zC,qQ];subst Z9;apply Zu;simp[Yx,Yn];apply Y4;simp[T5,Yn,Yx];exact⟨NS.symm,im⟩
  ·have vZ:0<X:=by have: ¬X=0:=fun h=>Kl (z1.mpr h);omega
   rw[decide_eq_false Kl]at e1;by_cases LC:m2=0;·have r8:=z2.mp LC;rw[decide_eq_true LC]at e2;rw[r8,Nat.zero_mul,Tz (Nat.mul_pos vZ hD),Int.mul_one]at NS;apply Zb;intro b3 Z9;simp[qS,e1];subst Z9;refine Za (t:=false) (by simp) ?_;apply Zb;intro b3 Z9;simp[qS,e1];subst Z9;refine Za (t:=false) (by simp) ?_;apply Zb;intro b3 Z9;simp[zH,e2];subst Z9;refine Za (t:=true) (by simp) ?_;apply Zb;intro b3 Z9;simp[t9];subst Z9;apply Zu;simp[Yx,Yn];apply Y4;simp[T5,Yn,Yx];exact⟨NS.symm,im⟩
   ·have r8:0<Y:=by have: ¬Y=0:=fun h=>LC (z2.mpr h);omega
    rw[decide_eq_false LC]at e2;have NS:R=sI (!g)*XL (B*Y) (D*X):=by rw[NS,jT,aQ,Nat.mul_comm Y B,Nat.mul_comm X D,Int.neg_mul,Int.mul_neg]
    apply Zb;intro b3 Z9;simp[qS,e1];subst Z9;refine Za (t:=false) (by simp) ?_;apply Zb;intro b3 Z9;simp[qS,e1];subst Z9;refine Za (t:=false) (by simp) ?_;apply Zb;intro b3 Z9;simp[zH,e2];subst Z9;refine Za (t:=false) (by simp) ?_;apply Zr;subst Zx;apply Zk;simp[t1,t3];subst Ze;apply Zk;simp[t9,zC,qQ];apply Y4;exact⟨X+Y,by omega,rfl,im,B,X,D,Y,!g,b,x,d,y,rfl,vZ,r8,lB,bX,lD,bY,NS,(hb.keep k2).keep k3,ox',(hd.keep k2).keep k3,oy.sl,by simp,by simp,by simp,by simp,by simp⟩
end
end
end
end Go.Proofs.YtmkfecoeghokfaaGreatDoor
