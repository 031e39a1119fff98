/-
  The engine and the walks that the claim's last text leans on, part 4 of 10: Nk, Nq, Nl, Nm, Nr, EvS, Ns, Nt, Nu, Nv, Nw, Nx, Oa, Ob, Oc, Od, Oe.
-/
import Derived.Test.YtmkfecoeghokfaaGreatDoorM3
namespace Go.Proofs.YtmkfecoeghokfaaGreatDoor
open Go Ev
set_option linter.unusedVariables false
set_option linter.unusedSimpArgs false
noncomputable section
set_option maxHeartbeats 2000000
set_option maxRecDepth 20000
section
attribute [-simp] Int.natCast_add Int.natCast_mul Int.natCast_ediv Int.natCast_emod Int.natCast_pow
attribute [local simp] strip ZQ Xt gW Z6 Yh ZU Yi ZG Yj Zy Zz Zj ZF Yd ZL Z3 Zm ZE Zk Zi Z2 Z1 YK Zr Yg Y1 YT ZJ plain ZM Tr.get_set YU Zt Yw ZS sameKind undef ZZ ZD Yb Zv ZA Yf ZT parts ZB XH DW Ym ZX ZV Zs ZI ZR XL Yk Zo ZP ZW ZO
def nth(xs:List Nat)(i:Nat):Nat:=xs[i]?.getD 0
theorem XF{xs:List Nat}{i:Nat}(h:i<xs.length):nth xs i=xs[i]:=by unfold nth;rw[List.getElem?_eq_getElem h];rfl
theorem V8{xs:List Nat}{i:Nat}(h:xs.length<=i):nth xs i=0:=by unfold nth;rw[List.getElem?_eq_none h];rfl
theorem aO{v:Value}{xs:List Nat}{H:AH}(hs:Sl H v xs)(dx:YD Zd xs)(hlen:xs.length<=17592186044000){s:Nat}(gh:s<64):CW Tryz.prog Zw 219 [v,.int .u64 (s:Int)] H fun v' H'=>Zh H H'/\Yl H.n H' v' (ds Zd (dv Zd xs/2^s)):=by
 refine Z8 47 Tryz.func219 ?_;obtain⟨c0,H1,Qt,k1,o1,n1⟩:=YH (H:=H) Zv (n:=xs.length) (by omega);have l0:=hs.len Zv;apply Zb;intro b1 Ze;simp;subst Ze;apply Zb;intro b1 Ze;simp[l0,Qt];subst Ze;apply Zf;intro b1 Ze;apply Zb;intro b2 Zp;simp[l0];subst Zp;apply Zu;refine Yv (fun m s'=>s'.k=47/\ ∃(i:Nat) (L:List Nat),m+i=xs.length/\L.length=i/\YD Zd L/\dv Zd L*2^s+nth xs 0%2^s=dv Zd (xs.take i)+Zd^i*(nth xs i%2^s)/\Zh H s'.H/\Yl H.n s'.H c0 (L++List.replicate m 0)/\s'.tm.get 0=some v/\s'.tm.get 1=some (.int .u64 (s:Int))/\s'.tm.get 5=some c0/\s'.tm.get 11=some v/\s'.tm.get 12=some (.int .i64 (xs.length:Int))/\s'.tm.get 13=some (.int .i64 (i:Int))) ?_ xs.length _ ⟨rfl,0,[],by omega,rfl,.nil _,by simp[dv],k1,o1,by simp,by simp,by simp,by simp,by simp,by simp⟩;rintro m ⟨k,tm,H2⟩ ⟨hk,i,L,NR,hL,dL,hv,kH,own,t0,t1,t5,t11,t12,t13⟩ Q' YF;simp only at hk t0 t1 t5 t11 t12 t13 kH own;subst hk;apply Zb;intro b3 ZH;simp[t12,t13];subst ZH;apply Zf;intro b3 ZH;by_cases hi:i<xs.length
 ·refine Za (t:=true) (by simp[hi]) ?_;apply Zl;subst ZH;have s2:=hs.keep kH;have a1:=s2.adr Zv (k:= .i64) hi;have d1:=s2.load hi;have hx:xs[i]<Zd:=dx.get (List.getElem?_eq_getElem hi);obtain⟨m',rfl⟩: ∃m',m=m'+1:=⟨m-1,by omega⟩;have Zaf:Yl H.n H2 c0 (L++0::List.replicate m' 0):=by rw[List.replicate_succ]at own;exact own
  have a2:=Zaf.sl.adr Zv (k:= .i64) (i:=i) (by simp;omega);have hq:xs[i]/2^s<2^(64-s):=by rw[Nat.div_lt_iff_lt_mul (Nat.two_pow_pos _),<-Nat.pow_add,show 64-s+s=64 by omega];exact hx
  have dV:xs[i]/2^s<Zd:=Nat.lt_of_lt_of_le hq (by show _<=2^64;exact Nat.pow_le_pow_right (by decide) (by omega));obtain⟨H3,SF,RS,n3,kp3⟩:=Zaf.store (i:=i) (by simp;omega) (xs[i]/2^s);rw[WC L 0 _ _ hL]at RS;have Ii:=kp3 H kH (Nat.le_refl _);apply Zf;intro b3 ZH;have low:nth xs (i+1)%2^s<2^s:=Nat.mod_lt _ (Nat.two_pow_pos _);have e64:2^s*2^(64-s)=Zd:=by rw[<-Nat.pow_add,show s+(64-s)=64 by omega]
  have fin: ∀(oo:Tr Value)(H4:AH),Zh H H4->Yl H.n H4 c0 (L++(nth xs (i+1)%2^s*2^(64-s)+xs[i]/2^s)::List.replicate m' 0)->oo.get 0=some v->oo.get 1=some (.int .u64 (s:Int))->oo.get 5=some c0->oo.get 11=some v->oo.get 12=some (.int .i64 (xs.length:Int))->oo.get 13=some (.int .i64 (i:Int))->W Tryz.prog Zw b3 ⟨47,oo,H4⟩ Q':=fun oo H4 k4 o4 q0 q1 q5 q11 uc q13=>by
   subst ZH;apply Zg;simp[q13,Yy (x:=i) (by omega)];apply YF;refine⟨m',by omega,rfl,i+1,L++[nth xs (i+1)%2^s*2^(64-s)+xs[i]/2^s],by omega,by simp[hL],?_,?_,k4,by simpa using o4,by simp[q0],by simp[q1],by simp[q5],by simp[q11],by simp[uc],by simp⟩;·refine dL.append (.cons ?_ (.nil _));have:(nth xs (i+1)%2^s+1)*2^(64-s)<=2^s*2^(64-s):=Nat.mul_le_mul_right _ low;rw[e64,Nat.succ_mul]at this;omega
   ·rw[Yr,hL,Xk hi,Yr,List.length_take,Nat.min_eq_left (by omega)];simp only[dv,Nat.mul_zero,Nat.add_zero];rw[XF hi]at hv;have e1:2^s*(xs[i]/2^s)+xs[i]%2^s=xs[i]:=Nat.div_add_mod _ _;generalize nth xs (i+1)%2^s=u at*;generalize hr:xs[i]%2^s=r at*;generalize hqq:xs[i]/2^s=q at*;have e2:(u*2^(64-s)+q)*2^s=Zd*u+2^s*q:=by rw[Nat.add_mul,Nat.mul_assoc,Nat.mul_comm (2^(64-s)),e64,Nat.mul_comm u,Nat.mul_comm q]
    have e3:Zd^i*xs[i]=Zd^i*(2^s*q)+Zd^i*r:=by rw[<-Nat.mul_add,e1]
    rw[Nat.add_mul,Nat.mul_assoc (Zd^i),e2,Nat.mul_add,e3,Nat.pow_succ,Nat.mul_assoc (Zd^i) Zd u];omega
  apply Zu;apply Zb;intro b4 Yt;simp[t11,t13,a1,d1];subst Yt;apply Zb;intro b4 Yt;simp[t1,t5,t13,Rt (x:=xs[i]) (s:=s) (by omega),a2,SF];subst Yt;apply Zb;intro b4 Yt;simp[t0,l0,Yy (x:=i) (by omega)];subst Yt;by_cases GF:i+1<xs.length
  ·refine Za (t:=true) (by simp[GF]) ?_;have s3:=hs.keep Ii;have a4:=s3.adr Zv (k:= .i64) GF;have d4:=s3.load GF;have a5:=RS.sl.adr Zv (k:= .i64) (i:=i) (by simp;omega);have d5:=RS.sl.load (i:=i) (by simp;omega);rw[N4 L _ _ hL]at d5;have vU:xs[i+1]<Zd:=dx.get (List.getElem?_eq_getElem GF);have n1:nth xs (i+1)=xs[i+1]:=XF GF;have sb:Zc .sub .u64 63 (s:Int)=some (.int .u64 ((63-s:Nat):Int)):=Sr (x:=63) (by decide) (by omega);have sh1:Y3 .shl .u64 (xs[i+1]:Int) 1=some (.int .u64 ((xs[i+1]*2%Zd:Nat):Int)):=Sq (s:=1) (by omega);have em:xs[i+1]*2%Zd*2^(63-s)%Zd=nth xs (i+1)%2^s*2^(64-s):=by rw[n1,Nat.mod_mul_mod,Nat.mul_assoc,show 2*2^(63-s)=2^(64-s) by rw[<-Nat.pow_succ',show(63-s).succ=64-s by omega],<-e64,Nat.mul_mod_mul_right]
   have sh2:Y3 .shl .u64 ((xs[i+1]*2%Zd:Nat):Int) ((63-s:Nat):Int)=some (.int .u64 ((nth xs (i+1)%2^s*2^(64-s):Nat):Int)):=by rw[Sq (by omega),em]
   have hwB:nth xs (i+1)%2^s*2^(64-s)<Zd:=by rw[<-em];exact Nat.mod_lt _ (by decide)
   have hor:xs[i]/2^s|||nth xs (i+1)%2^s*2^(64-s)=nth xs (i+1)%2^s*2^(64-s)+xs[i]/2^s:=by rw[Nat.or_comm,BU hq]
   obtain⟨H4,W4,VV,n4,zJ⟩:=RS.store (i:=i) (by simp;omega) (nth xs (i+1)%2^s*2^(64-s)+xs[i]/2^s);rw[WC L _ _ _ hL]at VV;apply pn (by kernel_rfl);simp[t0,t1,t5,a4,d4,a5,d5,Yy (x:=i) (by omega),sb,sh1,sh2,JL dV hwB,hor,W4];exact fin _ _ (zJ H Ii (Nat.le_refl _)) VV (by simp[t0]) (by simp[t1]) (by simp[t5]) (by simp[t11]) (by simp[t12]) (by simp[t13])
  ·refine Za (t:=false) (by simp[GF]) ?_;apply Zl;have n0:nth xs (i+1)=0:=V8 (by omega);exact fin _ _ Ii (by rw[n0];simpa using RS) (by simp[t0]) (by simp[t1]) (by simp[t5]) (by simp[t11]) (by simp[t12]) (by simp[t13])
 ·refine Za (t:=false) (by simp[hi]) ?_;apply YZ;apply YF;left;refine⟨rfl,?_⟩;obtain rfl:m=0:=by omega
  have V5:i=xs.length:=by omega
  obtain⟨v5,H5,Kg,k5,o5⟩:=Vz own.sl (by simp;omega);subst Ze;apply Zb;intro b4 Yt;simp[t5,Kg];subst Yt;apply Zq;simp;refine⟨kH.trans k5,?_⟩;have e:dv Zd xs/2^s=dv Zd L:=by rw[V5,V8 (Nat.le_refl _),List.take_length,Nat.zero_mod,Nat.mul_zero,Nat.add_zero]at hv;rw[<-hv,Nat.add_comm,Nat.add_mul_div_right _ _ (Nat.two_pow_pos _),Nat.div_eq_of_lt (Nat.mod_lt _ (Nat.two_pow_pos _)),Nat.zero_add]
  rw[e,<-Xl Z9 dL];have o5':Yl H2.n H5 v5 (YS L):=by simpa using o5
  exact o5'.mono kH.n (.refl H5)
end
end
end Go.Proofs.YtmkfecoeghokfaaGreatDoor
namespace Go.Proofs.YtmkfecoeghokfaaGreatDoor
set_option linter.unusedVariables false
set_option maxHeartbeats 2000000
set_option maxRecDepth 20000
theorem An{b y1 y0 u d q r:Nat}(hq:q*y1+r=u):u*b+d=q*(y1*b)+(b*r+d):=by rw[<-hq,Nat.add_mul,Nat.mul_assoc,Nat.mul_comm r b];omega
theorem fP{b y1 y0 u d q r:Nat}(hq:q*y1+r=u)(hu:u<y1*b+y0)(hd:d<b)(ht:b<=q\/b*r+d<q*y0):(u*b+d)/(y1*b+y0)<q:=by
 have hy:0<y1*b+y0:=by omega
 rw[Nat.div_lt_iff_lt_mul hy];rcases ht with ht|ht;·have h1:(u+1)*b<=(y1*b+y0)*b:=Nat.mul_le_mul_right _ hu;have h2:b*(y1*b+y0)<=q*(y1*b+y0):=Nat.mul_le_mul_right _ ht;rw[Nat.succ_mul]at h1;rw[Nat.mul_comm b]at h2;omega
 ·rw[An (y0:=y0) (d:=d) (b:=b) hq,Nat.mul_add];omega
theorem Hh{b y1 y0 u d q r:Nat}(hq:q*y1+r=u)(hy:0<y1*b+y0)(ht:q*y0<=b*r+d):q<=(u*b+d)/(y1*b+y0):=by rw[Nat.le_div_iff_mul_le hy,An (y0:=y0) (d:=d) (b:=b) hq,Nat.mul_add];omega
theorem aL{b y1 y0 u d:Nat}(h1:0<y1)(hd:d<b):(u*b+d)/(y1*b+y0)<=u/y1:=by
 have hb:0<b:=by omega
 have hy:0<y1*b+y0:=by have:=Nat.mul_pos h1 hb;omega
 have h2:(u*b+d)/(y1*b+y0)<=(u*b+d)/(y1*b):=by rw[Nat.le_div_iff_mul_le (Nat.mul_pos h1 hb)];have:=Nat.div_mul_le_self (u*b+d) (y1*b+y0);rw[Nat.mul_add]at this;omega
 have h3:(u*b+d)/(y1*b)=u/y1:=by rw[Nat.mul_comm y1 b,<-Nat.div_div_eq_div_mul,Nat.add_comm,Nat.add_mul_div_right _ _ hb,Nat.div_eq_of_lt hd,Nat.zero_add]
 omega
theorem aK{b y1 y0 u:Nat}(h1:b<=2*y1)(h0:y0<b)(hu:u<y1*b+y0)(hp:0<y1):u/y1<=b+1:=by
 have:u/y1<b+2:=by rw[Nat.div_lt_iff_lt_mul hp,Nat.add_mul,Nat.mul_comm b y1];omega
 omega
end Go.Proofs.YtmkfecoeghokfaaGreatDoor
namespace Go.Proofs.YtmkfecoeghokfaaGreatDoor
open Go Ev
set_option linter.unusedVariables false
set_option linter.unusedSimpArgs false
noncomputable section
set_option maxHeartbeats 2000000
set_option maxRecDepth 20000
section
attribute [-simp] Int.natCast_add Int.natCast_mul Int.natCast_ediv Int.natCast_emod Int.natCast_pow
attribute [local simp] strip ZQ Xt gW Z6 Yh ZU Yi ZG Yj Zy Zz Zj ZF Yd ZL Z3 Zm ZE Zk Zi Z2 Z1 YK Zr Yg Y1 YT ZJ plain ZM Tr.get_set YU Zt Yw ZS sameKind undef ZZ ZD Yb Zv ZA Yf ZT parts ZB XH DW Ym ZX ZV Zs ZI ZR XL Yk Zo ZP ZW ZO
theorem Mv{x y:Nat}(hx:x<Zd)(hy:0<y):Zc .quo .u64 (x:Int) (y:Int)=some (.int .u64 ((x/y:Nat):Int)):=by
 have hx:x<18446744073709551616:=hx;have hle:x/y<=x:=Nat.div_le_self x y;have h0: ¬ ((y:Int)=0):=by omega
 have e:IntKind.u64.wrap ((x:Int).tdiv (y:Int))=((x/y:Nat):Int):=by rw[IntKind.wrap_u64,Int.tdiv_eq_ediv_of_nonneg (by omega),<-Int.natCast_ediv];generalize x/y=q at*;omega
 show(if(y:Int)=0 then none else some (Value.int .u64 (IntKind.u64.wrap ((x:Int).tdiv (y:Int)))))=_;rw[if_neg h0,e]
theorem aa{x y:Nat}(hy:0<y):Zc .rem .u64 (x:Int) (y:Int)=some (.int .u64 ((x%y:Nat):Int)):=by
 have h0: ¬ ((y:Int)=0):=by omega
 have e:(x:Int).tmod (y:Int)=((x%y:Nat):Int):=by rw[Int.tmod_eq_emod_of_nonneg (by omega),<-Int.natCast_emod]
 show(if(y:Int)=0 then none else some (Value.int .u64 ((x:Int).tmod (y:Int))))=_;rw[if_neg h0,e]
theorem D4{x y:Nat}(hy:y<=Zd):Zc .sub .u64 (x:Int) (y:Int)=some (.int .u64 (((x+Zd-y)%Zd:Nat):Int)):=by
 have hy:y<=18446744073709551616:=hy;have e:IntKind.u64.wrap ((x:Int)-(y:Int))=(((x+18446744073709551616-y)%18446744073709551616:Nat):Int):=by rw[IntKind.wrap_u64];omega
 show some (Value.int .u64 (IntKind.u64.wrap ((x:Int)-(y:Int))))=_;rw[e]
theorem DS{u b d q y:Nat}(hy:y<Zd)(Ki:0<y)(hq:q=(u*b+d)/y):((u*b%Zd+d)%Zd+Zd-q*y%Zd)%Zd=(u*b+d)%y:=by have e:=Nat.div_add_mod (u*b+d) y;rw[<-hq,Nat.mul_comm y q]at e;have hr:(u*b+d)%y<y:=Nat.mod_lt _ Ki;generalize(u*b+d)%y=r at*;generalize q*y=p at*;rw[Nat.mod_add_mod,<-e];have hy:y<18446744073709551616:=hy;show((p+r)%18446744073709551616+18446744073709551616-p%18446744073709551616)%18446744073709551616=r;omega
abbrev Z4:Nat:=4294967296
theorem aF{x:Nat} :Zc .geq .u64 (x:Int) 4294967296=some (.bool (decide (4294967296<=x))):=N2 (y:=4294967296)
theorem mulL{x:Nat} :Zc .mul .u64 4294967296 (x:Int)=some (.int .u64 ((4294967296*x%Zd:Nat):Int)):=Sn (x:=4294967296)
theorem mulR{x:Nat} :Zc .mul .u64 (x:Int) 4294967296=some (.int .u64 ((x*4294967296%Zd:Nat):Int)):=Sn (y:=4294967296)
theorem MZ{x:Nat}(hx:x<Zd)(h:0<x):Zc .sub .u64 (x:Int) 1=some (.int .u64 ((x-1:Nat):Int)):=Sr (y:=1) hx h
structure rb (y1 y0 u d q r : Nat) : Prop where
  y1lo : 2147483648 <= y1
  B6 : y1 < 4294967296
  oE : y0 < 4294967296
  uhi : u < y1 * 4294967296 + y0
  dhi : d < 4294967296
  eq : q * y1 + r = u
  ge : (u * 4294967296 + d) / (y1 * 4294967296 + y0) <= q
  rhi : r < 4294967296
  qhi : q <= 4294967297
def Kb(y0 d q r:Nat):Bool:=decide (4294967296<=q)||decide (4294967296*r+d<q*y0)
theorem rb.down{y1 y0 u d q r:Nat}(h:rb y1 y0 u d q r)(ht:Kb y0 d q r=true):0<q/\(q-1)*y1+(r+y1)=u/\(u*4294967296+d)/(y1*4294967296+y0)<=q-1/\q-1<=4294967296:=by
 have Bc:4294967296<=q\/4294967296*r+d<q*y0:=by simpa[Kb]using ht
 have h1:=fP h.eq h.uhi h.dhi Bc;have hq:0<q:=Nat.lt_of_le_of_lt (Nat.zero_le _) h1;refine⟨hq,?_,Nat.le_sub_one_of_lt h1,by have:=h.qhi;omega⟩;obtain⟨q',rfl⟩: ∃q',q=q'+1:=⟨q-1,by omega⟩;have:=h.eq;rw[Nat.succ_mul]at this;rw[Nat.add_sub_cancel];omega
theorem rb.stop{y1 y0 u d q r:Nat}(h:rb y1 y0 u d q r)(ht:Kb y0 d q r=false):q=(u*4294967296+d)/(y1*4294967296+y0)/\q<4294967296:=by
 have Bc:q<4294967296/\q*y0<=4294967296*r+d:=by simpa[Kb]using ht
 have:=Hh h.eq (by have:=h.y1lo;omega) Bc.2;exact⟨Nat.le_antisymm this h.ge,Bc.1⟩
theorem Hg{y1 y0 u d q r:Nat}(y1lo:2147483648<=y1)(oE:y0<4294967296)(uhi:u<y1*4294967296+y0)(dhi:d<4294967296)(eq:q*y1+r=u)(ge:(u*4294967296+d)/(y1*4294967296+y0)<=q)(hr:4294967296<=r)(hq:q<=4294967296):q=(u*4294967296+d)/(y1*4294967296+y0)/\q<4294967296:=by
 have h1:q*y0<=4294967296*r+d:=by have a:q*y0<=4294967296*y0:=Nat.mul_le_mul_right _ hq;omega
 have h2:=Hh eq (show 0<y1*4294967296+y0 by omega) h1;have h3:q=(u*4294967296+d)/(y1*4294967296+y0):=Nat.le_antisymm h2 ge;refine⟨h3,?_⟩;rw[h3,Nat.div_lt_iff_lt_mul (by omega)];have:(u+1)*4294967296<=(y1*4294967296+y0)*4294967296:=Nat.mul_le_mul_right _ uhi;rw[Nat.succ_mul,Nat.mul_comm (y1*4294967296+y0)]at this;omega
theorem Hi{y1 y0 u d:Nat}(y1lo:2147483648<=y1)(B6:y1<4294967296)(oE:y0<4294967296)(uhi:u<y1*4294967296+y0)(dhi:d<4294967296):rb y1 y0 u d (u/y1) (u%y1):=⟨y1lo,B6,oE,uhi,dhi,by rw[Nat.mul_comm];exact Nat.div_add_mod u y1,aL (by omega) dhi,Nat.lt_of_lt_of_le (Nat.mod_lt _ (by omega)) (by omega),aK (by omega) oE uhi (by omega)⟩
theorem rV{x:Nat} :Zc .eql .u64 (x:Int) 0=some (.bool (decide (x=0))):=P8 (y:=0)
theorem OS{n:Nat}(h:n<Zd):U9 Tryz.prog 3 228 (.int .i64 (n:Int))=some (.int .u64 (n:Int)):=by
 have h:n<18446744073709551616:=h;have e:IntKind.u64.wrap (n:Int)=(n:Int):=by rw[IntKind.wrap_u64];omega
 unfold U9;simp only[Tryz.underlying3,Tryz.underlying228,e]
theorem cH{U N1 N0 b B yn qh u2 ql r3:Nat}(e1:yn*qh+u2=U*b+N1)(e2:yn*ql+r3=u2*b+N0)(hB:B=b*b):U*B+(N1*b+N0)=yn*(qh*b+ql)+r3:=by
 subst hB;have e3:(yn*qh+u2)*b=(U*b+N1)*b:=by rw[e1]
 rw[Nat.add_mul,Nat.add_mul,Nat.mul_assoc,Nat.mul_assoc]at e3;rw[Nat.mul_add];omega
theorem CU{h l y:Nat}(hh:h<y)(hl:l<Zd)(hy:y<Zd){H:AH} :CW Tryz.prog Zw 205 [.int .u64 (h:Int),.int .u64 (l:Int),.int .u64 (y:Int)] H fun v H'=>H'=H/\v= .tuple #[.int .u64 (((h*Zd+l)/y:Nat):Int),.int .u64 (((h*Zd+l)%y:Nat):Int)]:=by
 refine Z8 135 Tryz.func205 ?_;have y0:0<y:=by omega
 apply Zb;intro b1 Ze;simp;subst Ze;apply Zf;intro b1 Ze;apply Zb;intro b2 Zp;simp[rV];subst Zp;refine Za (t:=false) (by simp;omega) ?_;apply Zl;subst Ze;apply Zf;intro b1 Ze;apply Zb;intro b2 Zp;simp[Ob];subst Zp;refine Za (t:=false) (by simp;omega) ?_;apply Zl;subst Ze;apply Zf;intro b1 Ze;apply Zb;intro b2 Zp;simp[rV];subst Zp;by_cases h0:h=0;·subst h0;refine Za (t:=true) (by simp) ?_;apply Zf;intro b2 Zp;apply Tq (by kernel_rfl);simp[Mv hl y0,aa (x:=l) y0];subst Zp;apply Zq;simp[Ys]
 ·refine Za (t:=false) (by simp;omega) ?_;apply Zl;subst Ze;obtain⟨v1,H1,Q9,e1,e2⟩:=A1 (H:=H) hy;subst e1;subst e2;have mw:Zn y<=64:=by
   rcases Nat.lt_or_ge 64 (Zn y)with h|h;·have a:=W7 (n:=y) (by omega);have b:2^64<=2^(Zn y-1):=Nat.pow_le_pow_right (by decide) (by omega);have hy:y<18446744073709551616:=hy;omega
   ·exact h
  have hbl0:0<Zn y:=by unfold Zn;rw[if_neg (by omega)];omega
  obtain⟨s,hs⟩:=hid (64-Zn y);have gh:s<64:=by omega
  have es:(64-(Zn y:Int))=(s:Int):=by omega
  rw[es]at Q9;have ylt:y<2^(64-s):=by have:=WG y;rwa[show Zn y=64-s by omega]at this
  have yge:2^(63-s)<=y:=by have:=W7 (n:=y) (by omega);rwa[show Zn y-1=63-s by omega]at this
  apply Zb;intro b1 Ze;simp[Q9,OS (n:=s) (Nat.lt_trans gh (by decide))];subst Ze;have eB:Zd=2^(64-s)*2^s:=by rw[<-Nat.pow_add,show 64-s+s=64 by omega]
  obtain⟨yn,vR⟩:=hid (y*2^s);have B7:yn<Zd:=by rw[vR,eB];exact Nat.mul_lt_mul_of_pos_right ylt (Nat.two_pow_pos s)
  have ynge:9223372036854775808<=yn:=by have:2^(63-s)*2^s<=y*2^s:=Nat.mul_le_mul_right _ yge;rw[<-Nat.pow_add,show 63-s+s=63 by omega,<-vR]at this;exact this
  have PQ:l/2^(64-s)<2^s:=by rw[Nat.div_lt_iff_lt_mul (Nat.two_pow_pos _),<-Nat.pow_add,show s+(64-s)=64 by omega];exact hl
  obtain⟨u,hu⟩:=hid (h*2^s+l/2^(64-s));have hhs:h*2^s+2^s<=yn:=by rw[vR,<-Nat.succ_mul];exact Nat.mul_le_mul_right _ hh
  have ult:u<yn:=by omega
  obtain⟨n,hn⟩:=hid (l*2^s%Zd);have nlt:n<Zd:=by rw[hn];exact Nat.mod_lt _ (by decide)
  have total:(h*Zd+l)*2^s=u*Zd+n:=by have:=JU (x:=l) gh;rw[<-hn]at this;rw[Nat.add_mul,this,hu,Nat.add_mul,Nat.mul_comm Zd (l/_),Nat.mul_assoc h,Nat.mul_comm Zd,<-Nat.mul_assoc];omega
  obtain⟨y1,vS⟩:=hid (yn/4294967296);obtain⟨w0,mL⟩:=hid (yn%4294967296);have eyn:yn=y1*4294967296+w0:=by omega
  have ynlt':yn<18446744073709551616:=B7;have y1lo:2147483648<=y1:=by omega
  have B6:y1<4294967296:=by omega
  have cC:w0<4294967296:=by omega
  obtain⟨n1,hn1⟩:=hid (n/4294967296);obtain⟨n0,RC⟩:=hid (n%4294967296);have nlt':n<18446744073709551616:=nlt;have en:n=n1*4294967296+n0:=by omega
  have n1hi:n1<4294967296:=by omega
  have n0hi:n0<4294967296:=by omega
  have ulB:u<Zd:=Nat.lt_trans ult B7;have zc:=Nat.two_pow_pos s;have hhB:h*2^s<Zd:=by omega
  have hlB:l/2^(64-s)<Zd:=Nat.lt_of_le_of_lt (Nat.div_le_self _ _) hl;have f8:Y3 .shl .u64 (y:Int) (s:Int)=some (.int .u64 (yn:Int)):=by rw[Sq (by omega),<-vR,Nat.mod_eq_of_lt B7]
  have f9:Y3 .shr .u64 (yn:Int) 32=some (.int .u64 (y1:Int)):=by rw[jv,<-vS]
  have f10:Zc .and .u64 (yn:Int) 4294967295=some (.int .u64 (w0:Int)):=by rw[FB B7,<-mL]
  have f11a:Y3 .shl .u64 (h:Int) (s:Int)=some (.int .u64 ((h*2^s:Nat):Int)):=by rw[Sq (by omega),Nat.mod_eq_of_lt hhB]
  have f11b:Zc .sub .u64 64 (s:Int)=some (.int .u64 ((64-s:Nat):Int)):=Sr (x:=64) (by decide) (by omega);have f11c:Y3 .shr .u64 (l:Int) ((64-s:Nat):Int)=some (.int .u64 ((l/2^(64-s):Nat):Int)):=Rt (by omega);have f11d:Zc .or .u64 ((h*2^s:Nat):Int) ((l/2^(64-s):Nat):Int)=some (.int .u64 (u:Int)):=by rw[JL hhB hlB,BU PQ,<-hu]
  have f12:Y3 .shl .u64 (l:Int) (s:Int)=some (.int .u64 (n:Int)):=by rw[Sq (by omega),<-hn]
  have f13:Y3 .shr .u64 (n:Int) 32=some (.int .u64 (n1:Int)):=by rw[jv,<-hn1]
  have f14:Zc .and .u64 (n:Int) 4294967295=some (.int .u64 (n0:Int)):=by rw[FB nlt,<-RC]
  have f15:Zc .quo .u64 (u:Int) (y1:Int)=some (.int .u64 ((u/y1:Nat):Int)):=Mv ulB (by omega);have f16: ∀z:Nat,z<Zd->(Zc .mul .u64 ((z/y1:Nat):Int) (y1:Int)=some (.int .u64 ((z/y1*y1:Nat):Int))/\Zc .sub .u64 (z:Int) ((z/y1*y1:Nat):Int)=some (.int .u64 ((z%y1:Nat):Int))):=fun z hz=>by have a:=Nat.div_mul_le_self z y1;refine⟨by rw[Sn,Nat.mod_eq_of_lt (Nat.lt_of_le_of_lt a hz)],?_⟩;rw[Sr hz a];have:=Nat.div_add_mod z y1;rw[Nat.mul_comm]at this;rw[show z-z/y1*y1=z%y1 by omega]
  iterate 9 apply Zb;intro b hb;simp[f8,f9,f10,f11a,f11b,f11c,f11d,f12,f13,f14,f15,(f16 u ulB).1,(f16 u ulB).2];subst hb
  refine MO (fun s'=>s'.k=135/\s'.H=H1/\s'.tm.get 2=some (.int .u64 (yn:Int))/\s'.tm.get 8=some (.int .u64 (s:Int))/\s'.tm.get 9=some (.int .u64 (y1:Int))/\s'.tm.get 10=some (.int .u64 (w0:Int))/\s'.tm.get 11=some (.int .u64 (u:Int))/\s'.tm.get 13=some (.int .u64 (n1:Int))/\s'.tm.get 14=some (.int .u64 (n0:Int))/\ ∃q:Nat,q=(u*4294967296+n1)/(y1*4294967296+w0)/\q<4294967296/\s'.tm.get 15=some (.int .u64 (q:Int))) ?_ ?_
  ·apply Zu;refine Yv (fun m s'=>s'.k=135/\s'.H=H1/\s'.tm.get 2=some (.int .u64 (yn:Int))/\s'.tm.get 8=some (.int .u64 (s:Int))/\s'.tm.get 9=some (.int .u64 (y1:Int))/\s'.tm.get 10=some (.int .u64 (w0:Int))/\s'.tm.get 11=some (.int .u64 (u:Int))/\s'.tm.get 13=some (.int .u64 (n1:Int))/\s'.tm.get 14=some (.int .u64 (n0:Int))/\ ∃r:Nat,rb y1 w0 u n1 m r/\s'.tm.get 15=some (.int .u64 (m:Int))/\s'.tm.get 16=some (.int .u64 (r:Int))) ?_ (u/y1) _ ⟨rfl,rfl,by simp,by simp,by simp,by simp,by simp,by simp,by simp,_,Hi y1lo B6 cC (by rw[<-eyn];exact ult) n1hi,by simp,by simp⟩;rintro q ⟨k,tm,H2⟩ ⟨hk,hH,k2,k8,k9,Sg,Sh,Si,S6,r,E,tq,tr⟩ Q' YF;simp only at hk hH k2 k8 k9 Sg Sh Si S6 tq tr;subst hk;subst hH;have dV:q<Zd:=Nat.lt_of_le_of_lt E.qhi (by decide);have hrB:=E.rhi;apply Zf;intro b3 ZH;have qle:=E.qhi;have rB:4294967296*r<Zd:=by show _<18446744073709551616;omega
   have mB:(4294967296*r+n1)%Zd=4294967296*r+n1:=Nat.mod_eq_of_lt (by show _<18446744073709551616;omega);have key: ∀Y8,W Tryz.prog Zw b3 ⟨135,Y8,H2⟩ Q'->W Tryz.prog Zw b3 ⟨135,Y8,H2⟩ Q':=fun _ h=>h;have down:Kb w0 n1 q r=true-> ∀Y8,Y8.get 2=some (.int .u64 (yn:Int))->Y8.get 8=some (.int .u64 (s:Int))->Y8.get 9=some (.int .u64 (y1:Int))->Y8.get 10=some (.int .u64 (w0:Int))->Y8.get 11=some (.int .u64 (u:Int))->Y8.get 13=some (.int .u64 (n1:Int))->Y8.get 14=some (.int .u64 (n0:Int))->Y8.get 15=some (.int .u64 (q:Int))->Y8.get 16=some (.int .u64 (r:Int))->W Tryz.prog Zw b3 ⟨135,Y8,H2⟩ Q':=fun ht Y8 k2 k8 k9 Sg Sh Si S6 tq tr=>by
    obtain⟨q0,e1,mh,q1⟩:=E.down ht;have f1:Zc .sub .u64 (q:Int) 1=some (.int .u64 ((q-1:Nat):Int)):=MZ dV q0;have f2:Zc .add .u64 (r:Int) (y1:Int)=some (.int .u64 ((r+y1:Nat):Int)):=by rw[Ts,Nat.mod_eq_of_lt (by show _<18446744073709551616;omega)]
    subst ZH;apply Zu;apply Zb;intro b4 Yt;simp[tq,f1];subst Yt;apply Zb;intro b4 Yt;simp[tr,k9,f2];subst Yt;apply Zb;intro b4 Yt;simp[aF];subst Yt;by_cases hr:4294967296<=r+y1;·refine Za (t:=true) (by simp[hr]) ?_;apply YZ;right;refine⟨by decide,?_⟩;apply YF;left;have:=Hg y1lo cC E.uhi E.dhi e1 mh hr q1;exact⟨rfl,rfl,rfl,rfl,by simp[k2],by simp[k8],by simp[k9],by simp[Sg],by simp[Sh],by simp[Si],by simp[S6],q-1,this.1,this.2,by simp⟩
    ·refine Za (t:=false) (by simp[hr]) ?_;apply Zl;apply YF;exact⟨q-1,by omega,rfl,rfl,by simp[k2],by simp[k8],by simp[k9],by simp[Sg],by simp[Sh],by simp[Si],by simp[S6],r+y1,⟨y1lo,B6,cC,E.uhi,E.dhi,e1,mh,by omega,by omega⟩,by simp,by simp⟩
   apply Zb;intro b4 Yt;by_cases hq:4294967296<=q;·simp[tq,aF,hq];subst Yt;refine Za (t:=true) (by simp) ?_;apply Zl;show W _ _ b3 _ _;exact down (by simp[Kb,hq]) _ (by simp[k2]) (by simp[k8]) (by simp[k9]) (by simp[Sg]) (by simp[Sh]) (by simp[Si]) (by simp[S6]) (by simp[tq]) (by simp[tr])
   ·have hqw:q*w0<Zd:=by have a:q*w0<=4294967295*w0:=Nat.mul_le_mul_right _ (by omega);show _<18446744073709551616;omega
    have g1:Zc .mul .u64 (q:Int) (w0:Int)=some (.int .u64 ((q*w0:Nat):Int)):=by rw[Sn,Nat.mod_eq_of_lt hqw]
    have g2:Zc .mul .u64 4294967296 (r:Int)=some (.int .u64 ((4294967296*r:Nat):Int)):=by rw[mulL,Nat.mod_eq_of_lt rB]
    have g3:Zc .add .u64 ((4294967296*r:Nat):Int) (n1:Int)=some (.int .u64 ((4294967296*r+n1:Nat):Int)):=by rw[Ts,mB]
    simp[tq,aF,hq,tr,Sg,Si,g1,g2,g3,Vp];subst Yt;by_cases ht:4294967296*r+n1<q*w0;·refine Za (t:=true) (by simp[ht]) ?_;apply Zl;show W _ _ b3 _ _;exact down (by simp[Kb,ht]) _ (by simp[k2]) (by simp[k8]) (by simp[k9]) (by simp[Sg]) (by simp[Sh]) (by simp[Si]) (by simp[S6]) (by simp[tq]) (by simp[tr])
    ·refine Za (t:=false) (by simp[ht]) ?_;apply YZ;apply YF;left;have:=E.stop (by simp[Kb,ht];omega);exact⟨rfl,rfl,rfl,rfl,by simp[k2],by simp[k8],by simp[k9],by simp[Sg],by simp[Sh],by simp[Si],by simp[S6],q,this.1,this.2,by simp[tq]⟩
  rintro⟨k,tm,H2⟩ ⟨hk,hH,k2,k8,k9,Sg,Sh,Si,S6,qh,hqh,hqlt,Pe⟩;simp only at hk hH k2 k8 k9 Sg Sh Si S6 Pe;subst hk;subst hH;have Cc:0<yn:=by omega
  obtain⟨u2,Ig⟩:=hid ((u*4294967296+n1)%yn);have Zb0:u2<yn:=by rw[Ig];exact Nat.mod_lt _ Cc
  have u2B:u2<Zd:=Nat.lt_trans Zb0 B7;rw[<-eyn]at hqh;have HU:=DS (u:=u) (b:=4294967296) (d:=n1) (q:=qh) B7 Cc hqh;rw[<-Ig]at HU;obtain⟨pa,hpa⟩:=hid (u*4294967296%Zd);obtain⟨pb,hpb⟩:=hid ((pa+n1)%Zd);obtain⟨pc,hpc⟩:=hid (qh*yn%Zd);rw[<-hpa,<-hpb,<-hpc]at HU;have g21:Zc .mul .u64 (u:Int) 4294967296=some (.int .u64 (pa:Int)):=by rw[mulR,hpa]
  have g21a:Zc .add .u64 (pa:Int) (n1:Int)=some (.int .u64 (pb:Int)):=by rw[Ts,hpb]
  have g21b:Zc .mul .u64 (qh:Int) (yn:Int)=some (.int .u64 (pc:Int)):=by rw[Sn,hpc]
  have g21c:Zc .sub .u64 (pb:Int) (pc:Int)=some (.int .u64 (u2:Int)):=by rw[D4 (by rw[hpc];exact Nat.le_of_lt (Nat.mod_lt _ (by decide))),HU]
  have g22:Zc .quo .u64 (u2:Int) (y1:Int)=some (.int .u64 ((u2/y1:Nat):Int)):=Mv u2B (by omega);apply Zb;intro b hb;simp[Sh,Si,Pe,k2,g21,g21a,g21b,g21c];subst hb;apply Zb;intro b hb;simp[k9,g22];subst hb;apply Zb;intro b hb;simp[k9,(f16 u2 u2B).1,(f16 u2 u2B).2];subst hb;refine MO (fun s'=>s'.k=135/\s'.H=H2/\s'.tm.get 2=some (.int .u64 (yn:Int))/\s'.tm.get 8=some (.int .u64 (s:Int))/\s'.tm.get 9=some (.int .u64 (y1:Int))/\s'.tm.get 10=some (.int .u64 (w0:Int))/\s'.tm.get 11=some (.int .u64 (u:Int))/\s'.tm.get 13=some (.int .u64 (n1:Int))/\s'.tm.get 14=some (.int .u64 (n0:Int))/\s'.tm.get 15=some (.int .u64 (qh:Int))/\s'.tm.get 17=some (.int .u64 (u2:Int))/\ ∃q:Nat,q=(u2*4294967296+n0)/(y1*4294967296+w0)/\q<4294967296/\s'.tm.get 18=some (.int .u64 (q:Int))) ?_ ?_
  ·apply Zu;refine Yv (fun m s'=>s'.k=135/\s'.H=H2/\s'.tm.get 2=some (.int .u64 (yn:Int))/\s'.tm.get 8=some (.int .u64 (s:Int))/\s'.tm.get 9=some (.int .u64 (y1:Int))/\s'.tm.get 10=some (.int .u64 (w0:Int))/\s'.tm.get 11=some (.int .u64 (u:Int))/\s'.tm.get 13=some (.int .u64 (n1:Int))/\s'.tm.get 14=some (.int .u64 (n0:Int))/\s'.tm.get 15=some (.int .u64 (qh:Int))/\s'.tm.get 17=some (.int .u64 (u2:Int))/\ ∃r:Nat,rb y1 w0 u2 n0 m r/\s'.tm.get 18=some (.int .u64 (m:Int))/\s'.tm.get 16=some (.int .u64 (r:Int))) ?_ (u2/y1) _ ⟨rfl,rfl,by simp[k2],by simp[k8],by simp[k9],by simp[Sg],by simp[Sh],by simp[Si],by simp[S6],by simp[Pe],by simp,_,Hi y1lo B6 cC (by rw[<-eyn];exact Zb0) n0hi,by simp,by simp⟩;clear k2 k8 k9 Sg Sh Si S6 Pe;rintro q ⟨k,tm,H3⟩ ⟨hk,hH,k2,k8,k9,Sg,Sh,Si,S6,Pe,OX,r,E,tq,tr⟩ Q' YF;simp only at hk hH k2 k8 k9 Sg Sh Si S6 Pe OX tq tr;subst hk;subst hH;have dV:q<Zd:=Nat.lt_of_le_of_lt E.qhi (by decide);have hrB:=E.rhi;apply Zf;intro b3 ZH;have qle:=E.qhi;have rB:4294967296*r<Zd:=by show _<18446744073709551616;omega
   have mB:(4294967296*r+n0)%Zd=4294967296*r+n0:=Nat.mod_eq_of_lt (by show _<18446744073709551616;omega);have key: ∀Y8,W Tryz.prog Zw b3 ⟨135,Y8,H3⟩ Q'->W Tryz.prog Zw b3 ⟨135,Y8,H3⟩ Q':=fun _ h=>h;have down:Kb w0 n0 q r=true-> ∀Y8,Y8.get 2=some (.int .u64 (yn:Int))->Y8.get 8=some (.int .u64 (s:Int))->Y8.get 9=some (.int .u64 (y1:Int))->Y8.get 10=some (.int .u64 (w0:Int))->Y8.get 11=some (.int .u64 (u:Int))->Y8.get 13=some (.int .u64 (n1:Int))->Y8.get 14=some (.int .u64 (n0:Int))->Y8.get 15=some (.int .u64 (qh:Int))->Y8.get 17=some (.int .u64 (u2:Int))->Y8.get 18=some (.int .u64 (q:Int))->Y8.get 16=some (.int .u64 (r:Int))->W Tryz.prog Zw b3 ⟨135,Y8,H3⟩ Q':=fun ht Y8 k2 k8 k9 Sg Sh Si S6 Pe OX tq tr=>by
    obtain⟨q0,e1,mh,q1⟩:=E.down ht;have f1:Zc .sub .u64 (q:Int) 1=some (.int .u64 ((q-1:Nat):Int)):=MZ dV q0;have f2:Zc .add .u64 (r:Int) (y1:Int)=some (.int .u64 ((r+y1:Nat):Int)):=by rw[Ts,Nat.mod_eq_of_lt (by show _<18446744073709551616;omega)]
    subst ZH;apply Zu;apply Zb;intro b4 Yt;simp[tq,f1];subst Yt;apply Zb;intro b4 Yt;simp[tr,k9,f2];subst Yt;apply Zb;intro b4 Yt;simp[aF];subst Yt;by_cases hr:4294967296<=r+y1;·refine Za (t:=true) (by simp[hr]) ?_;apply YZ;right;refine⟨by decide,?_⟩;apply YF;left;have:=Hg y1lo cC E.uhi E.dhi e1 mh hr q1;exact⟨rfl,rfl,rfl,rfl,by simp[k2],by simp[k8],by simp[k9],by simp[Sg],by simp[Sh],by simp[Si],by simp[S6],by simp[Pe],by simp[OX],q-1,this.1,this.2,by simp⟩
    ·refine Za (t:=false) (by simp[hr]) ?_;apply Zl;apply YF;exact⟨q-1,by omega,rfl,rfl,by simp[k2],by simp[k8],by simp[k9],by simp[Sg],by simp[Sh],by simp[Si],by simp[S6],by simp[Pe],by simp[OX],r+y1,⟨y1lo,B6,cC,E.uhi,E.dhi,e1,mh,by omega,by omega⟩,by simp,by simp⟩
   apply Zb;intro b4 Yt;by_cases hq:4294967296<=q;·simp[tq,aF,hq];subst Yt;refine Za (t:=true) (by simp) ?_;apply Zl;show W _ _ b3 _ _;exact down (by simp[Kb,hq]) _ (by simp[k2]) (by simp[k8]) (by simp[k9]) (by simp[Sg]) (by simp[Sh]) (by simp[Si]) (by simp[S6]) (by simp[Pe]) (by simp[OX]) (by simp[tq]) (by simp[tr])
   ·have hqw:q*w0<Zd:=by have a:q*w0<=4294967295*w0:=Nat.mul_le_mul_right _ (by omega);show _<18446744073709551616;omega
    have g1:Zc .mul .u64 (q:Int) (w0:Int)=some (.int .u64 ((q*w0:Nat):Int)):=by rw[Sn,Nat.mod_eq_of_lt hqw]
    have g2:Zc .mul .u64 4294967296 (r:Int)=some (.int .u64 ((4294967296*r:Nat):Int)):=by rw[mulL,Nat.mod_eq_of_lt rB]
    have g3:Zc .add .u64 ((4294967296*r:Nat):Int) (n0:Int)=some (.int .u64 ((4294967296*r+n0:Nat):Int)):=by rw[Ts,mB]
    simp[tq,aF,hq,tr,Sg,S6,g1,g2,g3,Vp];subst Yt;by_cases ht:4294967296*r+n0<q*w0;·refine Za (t:=true) (by simp[ht]) ?_;apply Zl;show W _ _ b3 _ _;exact down (by simp[Kb,ht]) _ (by simp[k2]) (by simp[k8]) (by simp[k9]) (by simp[Sg]) (by simp[Sh]) (by simp[Si]) (by simp[S6]) (by simp[Pe]) (by simp[OX]) (by simp[tq]) (by simp[tr])
    ·refine Za (t:=false) (by simp[ht]) ?_;apply YZ;apply YF;left;have:=E.stop (by simp[Kb,ht];omega);exact⟨rfl,rfl,rfl,rfl,by simp[k2],by simp[k8],by simp[k9],by simp[Sg],by simp[Sh],by simp[Si],by simp[S6],by simp[Pe],by simp[OX],q,this.1,this.2,by simp[tq]⟩
  rintro⟨k,tm,H3⟩ ⟨hk,hH,k2,k8,k9,Sg,Sh,Si,S6,Pe,OX,ql,hql,hqllt,kz⟩;simp only at hk hH k2 k8 k9 Sg Sh Si S6 Pe OX kz;subst hk;subst hH;rw[<-eyn]at hql;obtain⟨r3,hr3⟩:=hid ((u2*4294967296+n0)%yn);have Zao:r3<yn:=by rw[hr3];exact Nat.mod_lt _ Cc
  have ig:=DS (u:=u2) (b:=4294967296) (d:=n0) (q:=ql) B7 Cc hql;obtain⟨pd,yA⟩:=hid (u2*4294967296%Zd);obtain⟨pe,hpe⟩:=hid ((pd+n0)%Zd);obtain⟨pf,hpf⟩:=hid (ql*yn%Zd);rw[<-hr3,<-yA,<-hpe,<-hpf]at ig;have j1:Zc .mul .u64 (qh:Int) 4294967296=some (.int .u64 ((qh*4294967296:Nat):Int)):=by rw[mulR,Nat.mod_eq_of_lt (by show _<18446744073709551616;omega)]
  have j2:Zc .add .u64 ((qh*4294967296:Nat):Int) (ql:Int)=some (.int .u64 ((qh*4294967296+ql:Nat):Int)):=by rw[Ts,Nat.mod_eq_of_lt (by show _<18446744073709551616;omega)]
  have j3:Zc .mul .u64 (u2:Int) 4294967296=some (.int .u64 (pd:Int)):=by rw[mulR,yA]
  have j4:Zc .add .u64 (pd:Int) (n0:Int)=some (.int .u64 (pe:Int)):=by rw[Ts,hpe]
  have j5:Zc .mul .u64 (ql:Int) (yn:Int)=some (.int .u64 (pf:Int)):=by rw[Sn,hpf]
  have j6:Zc .sub .u64 (pe:Int) (pf:Int)=some (.int .u64 (r3:Int)):=by rw[D4 (by rw[hpf];exact Nat.le_of_lt (Nat.mod_lt _ (by decide))),ig]
  have j7:Y3 .shr .u64 (r3:Int) (s:Int)=some (.int .u64 ((r3/2^s:Nat):Int)):=Rt (by omega);have all:(h*Zd+l)*2^s=yn*(qh*4294967296+ql)+r3:=by have e1:=Nat.div_add_mod (u*4294967296+n1) yn;rw[<-hqh,<-Ig]at e1;have e2:=Nat.div_add_mod (u2*4294967296+n0) yn;rw[<-hql,<-hr3]at e2;rw[total,en];exact cH e1 e2 (by decide)
  have hquo:(h*Zd+l)/y=qh*4294967296+ql:=by rw[<-Nat.mul_div_mul_right _ _ (Nat.two_pow_pos s),all,<-vR,Nat.add_comm,Nat.add_mul_div_left _ _ Cc,Nat.div_eq_of_lt Zao,Nat.zero_add]
  have hrem:(h*Zd+l)%y=r3/2^s:=by
   have:(h*Zd+l)%y*2^s=r3:=by rw[<-Nat.mul_mod_mul_right,all,<-vR,Nat.add_comm,Nat.add_mul_mod_self_left,Nat.mod_eq_of_lt Zao]
   rw[<-this,Nat.mul_div_cancel _ (Nat.two_pow_pos s)]
  rw[hquo,hrem];apply Zb;intro b hb;simp[k2,k8,S6,Pe,OX,kz,j1,j2,j3,j4,j5,j6,j7];subst hb;apply Zq;simp
end
end
end Go.Proofs.YtmkfecoeghokfaaGreatDoor
namespace Go.Proofs.YtmkfecoeghokfaaGreatDoor
set_option linter.unusedVariables false
set_option maxHeartbeats 2000000
set_option maxRecDepth 20000
structure Gt (B P V U y1 y0 v' u d u' : Nat) : Prop where
  hV : V = (y1 * B + y0) * P + v'
  hU : U = (u * B + d) * P + u'
  vlt : v' < P
  ult : u' < P
  d_lt : d < B
  y0lt : y0 < B
  y1pos : 0 < y1
section
variable {B P V U y1 y0 v' u d u' q r : Nat}
theorem Gt.Ppos(T:Gt B P V U y1 y0 v' u d u'):0<P:=Nat.lt_of_le_of_lt (Nat.zero_le _) T.vlt
theorem Gt.Bpos(T:Gt B P V U y1 y0 v' u d u'):0<B:=Nat.lt_of_le_of_lt (Nat.zero_le _) T.d_lt
theorem Gt.Vge(T:Gt B P V U y1 y0 v' u d u'):B*P<=V:=by rw[T.hV];have:B*P<=(y1*B+y0)*P:=Nat.mul_le_mul_right _ (by have:1*B<=y1*B:=Nat.mul_le_mul_right _ T.y1pos;omega);omega
theorem Gt.Vpos(T:Gt B P V U y1 y0 v' u d u'):0<V:=Nat.lt_of_lt_of_le (Nat.mul_pos T.Bpos T.Ppos) T.Vge
theorem Gt.Ult(T:Gt B P V U y1 y0 v' u d u'):U<(u*B+d+1)*P:=by rw[T.hU,Nat.succ_mul];have:=T.ult;omega
theorem Gt.first(T:Gt B P V U y1 y0 v' u d u'):U/V<=u/y1:=by
 rw[Nat.le_div_iff_mul_le T.y1pos];have h1:U/V*V<=U:=Nat.div_mul_le_self U V;have h2:U/V*(y1*B*P)<=U/V*V:=Nat.mul_le_mul_left _ (by rw[T.hV,Nat.add_mul];omega);have h3:=T.Ult;have h4:(u*B+d+1)*P<=((u+1)*B)*P:=Nat.mul_le_mul_right _ (by have:=T.d_lt;rw[Nat.succ_mul];omega);have h5:(U/V*y1)*(B*P)<(u+1)*(B*P):=by rw[Nat.mul_assoc]at h2 h4;rw[Nat.mul_assoc];omega
 have:=Nat.lt_of_mul_lt_mul_right h5;omega
theorem Gt.high{un KN:Nat}(T:Gt B P V U y1 y0 v' (un*B+KN) d u')(h:U<V*B):un<=y1:=by
 rcases Nat.lt_or_ge y1 un with YR|SM
 ·exfalso;have h1:V<(y1+1)*B*P:=by rw[T.hV];have a:(y1*B+y0+1)*P<=(y1+1)*B*P:=Nat.mul_le_mul_right _ (by have:=T.y0lt;rw[Nat.succ_mul];omega);have b:=T.vlt;rw[Nat.succ_mul]at a;omega
  have h2:V*B<=((y1+1)*B*P)*B:=Nat.mul_le_mul_right _ (Nat.le_of_lt h1);have h3:((y1+1)*B*P)*B<=U:=by rw[T.hU];have a:((y1+1)*B)*B<=(un*B)*B:=Nat.mul_le_mul_right _ (Nat.mul_le_mul_right _ YR);have b:((y1+1)*B)*B*P<=((un*B+KN)*B+d)*P:=Nat.mul_le_mul_right _ (by rw[Nat.add_mul (un*B) KN B];omega);rw[Nat.mul_right_comm _ P B];omega
  omega
 ·exact SM
theorem Gt.true(T:Gt B P V U y1 y0 v' u d u')(hq:q*y1+r=u)(ht:r*B+d<q*y0):U/V<q:=by rw[Nat.div_lt_iff_lt_mul T.Vpos];have h1:q*((y1*B+y0)*P)<=q*V:=Nat.mul_le_mul_left _ (by rw[T.hV];omega);have h2:(u*B+d+1)*P<=(q*(y1*B+y0))*P:=Nat.mul_le_mul_right _ (by rw[<-hq,Nat.add_mul,Nat.mul_add,Nat.mul_assoc];omega);have h3:=T.Ult;rw[Nat.mul_assoc]at h2;omega
theorem Gt.false(T:Gt B P V U y1 y0 v' u d u')(hq:q*y1+r=u)(YR:q<B)(ht:q*y0<=r*B+d):q<=U/V+1:=by
 have h1:q*V<=q*((y1*B+y0)*P)+q*P:=by rw[<-Nat.mul_add];exact Nat.mul_le_mul_left _ (by rw[T.hV];have:=T.vlt;omega)
 have h2:(q*(y1*B+y0))*P<=(u*B+d)*P:=Nat.mul_le_mul_right _ (by rw[<-hq,Nat.add_mul,Nat.mul_add,Nat.mul_assoc];omega);rw[Nat.mul_assoc]at h2;have h3:q*P<B*P:=Nat.mul_lt_mul_of_pos_right YR T.Ppos;have h4:=T.Vge;have h5:q*V<U+V:=by have:=T.hU;omega
 have h6:q*V<(U/V+2)*V:=by have a:=Nat.div_add_mod U V;have b:=Nat.mod_lt U T.Vpos;rw[Nat.mul_comm]at a;rw[Nat.add_mul,Nat.two_mul];omega
 have:=Nat.lt_of_mul_lt_mul_right h6;omega
end
theorem cJ{N U V q R b:Nat}(hV:0<V)(SM:U/V<=q)(hle:q<=U/V+1)(hU:U<N)(hR:R<N)(hb:b<=1)(e:R+q*V=U+N*b):(b=0/\q=U/V/\R=U%V)\/(b=1/\q=U/V+1/\R+V=N+U%V):=by
 have a:=Nat.div_add_mod U V;have m:=Nat.mod_lt U hV;rw[Nat.mul_comm]at a;rcases Nat.lt_or_ge (U/V) q with h|h
 ·right;obtain rfl:q=U/V+1:=by omega
  rw[Nat.add_mul,Nat.one_mul]at e;have Ze:b=1:=by
   rcases Nat.lt_or_ge b 1 with h0|h0
   ·exfalso;obtain rfl:b=0:=by omega
    rw[Nat.mul_zero]at e;omega
   ·omega
  subst Ze;rw[Nat.mul_one]at e;exact⟨rfl,rfl,by omega⟩
 ·left;obtain rfl:q=U/V:=by omega
  have gT:b=0:=by
   rcases Nat.lt_or_ge b 1 with h0|h0;·omega
   ·exfalso;obtain rfl:b=1:=by omega
    rw[Nat.mul_one]at e;omega
  subst gT;rw[Nat.mul_zero]at e;exact⟨rfl,rfl,by omega⟩
theorem Fm {B x y q carry borrow : Nat} (hx : x < B) (hq : q < B) (hc : carry < B) (hy : y < B) (hb : borrow <= 1) :
    let p := x * q
    let sum := (p % B + carry) % B
    let Pr := p / B + (p % B + carry) / B
    let y' := (y + B - sum - borrow) % B
    let Ah := if y < sum + borrow then 1 else 0
    Pr < B /\ y' < B /\ y' + x * q + carry + borrow = y + B * (Pr + Ah) := by
  intro p sum Pr y' Ah
  have hB : 0 < B := by omega
  have hp : p <= (B - 1) * (B - 1) := Nat.mul_le_mul (by omega) (by omega)
  have e1 := Nat.div_add_mod p B
  have e2 := Nat.div_add_mod (p % B + carry) B
  have hs : sum < B := Nat.mod_lt _ hB
  have hcy : Pr * B + sum = p + carry := by
    show (p / B + (p % B + carry) / B) * B + (p % B + carry) % B = p + carry
    rw [Nat.add_mul, Nat.mul_comm (p / B), Nat.mul_comm ((p % B + carry) / B)]
    omega
  have AZ : Pr < B := by
    have : (B - 1) * (B - 1) + (B - 1) = (B - 1) * B := by
      obtain ⟨b, rfl⟩ : ∃ b, B = b + 1 := ⟨B - 1, by omega⟩
      rw [Nat.add_sub_cancel, Nat.mul_succ]
    have h3 : Pr * B <= (B - 1) * B := by omega
    have := Nat.le_of_mul_le_mul_right h3 hB
    omega
  refine ⟨AZ, Nat.mod_lt _ hB, ?_⟩
  show (y + B - sum - borrow) % B + p + carry + borrow = y + B * (Pr + if y < sum + borrow then 1 else 0)
  have key : (y + B - sum - borrow) % B + sum + borrow = y + B * (if y < sum + borrow then 1 else 0) := by
    by_cases h : y < sum + borrow
    · rw [if_pos h, Nat.mod_eq_of_lt (by omega)]; omega
    · rw [if_neg h]
      have : y + B - sum - borrow = (y - sum - borrow) + B := by omega
      rw [this, Nat.add_mod_right, Nat.mod_eq_of_lt (by omega)]; omega
  rw [Nat.mul_add, Nat.mul_comm B Pr]
  omega
end Go.Proofs.YtmkfecoeghokfaaGreatDoor
namespace Go.Proofs.YtmkfecoeghokfaaGreatDoor.Ev
open Go Go.RowKit
set_option linter.unusedVariables false
set_option linter.unusedSimpArgs false
noncomputable section
set_option maxHeartbeats 2000000
set_option maxRecDepth 20000
def AH.top(H:AH):AH:= { n:=H.n,lw:=H.n,t:=H.t }
def LR(P:Program)(C:Cfg)(k:Nat):List uK->Tr Value->AH->(Tr Value->Prop)->Prop
 |[],tm,_,K=>K tm
 |o::r,tm,H,K=>match gW tm o.grd with
  |some true=>match Z6 P C (ZY P C) tm H o.op with
   |some (v,H')=>H'=H/\match o.dst with|none=>LR P C k r tm H K|some d=>d<k/\LR P C k r (tm.set d v) H K
   |none=>False
  |some false=>match o.dst with|none=>LR P C k r tm H K|some d=>d<k/\LR P C k r (tm.set d undef) H K
  |none=>False
section
variable {P : Program} {C : Cfg} {Q : Ex -> St -> Prop} {ops : Array Oper} {k : Nat}
theorem Gp: ∀(l:List Oper)(i:Nat)(tm:Tr Value)(H:AH)(K:Tr Value->Prop),LR P C k (ZQ ops l) tm H.top K-> ∃Y8,XO (X0 ops) P C (ZY P C) ops i false [] l ⟨k,tm,H⟩=some ⟨k,Y8,H⟩/\K Y8
 |[],i,tm,H,K,h=>⟨tm,by simp only[XO],h⟩
 |o::r,i,tm,H,K,h=>by
  simp only[ZQ,LR]at h;simp only[XO];rw[EZ];split at h
  ·rename_i hg;rw[hg];split at h
   ·rename_i v H1 Xb;obtain⟨e,h⟩:=h;subst e;obtain⟨Ph,YL,hl⟩:=Tw (k:=k) (H:=H) (H1:=H) (K1:=fun tm=>LR P C k (ZQ ops r) tm H.top K) h;obtain⟨Y8,h1,h2⟩:=Gp r (i+1) Ph H K hl;refine⟨Y8,?_,h2⟩;have hd:Xv (X0 ops) P C (ZY P C) ops i false [] ⟨k,tm,H⟩ o=some (v,H,false):=by unfold Xv;cases hh:ZX o.op with|true=>rw[cond_true];simp only[X0,hidden,Tb];have It:Z6 P C (ZY P C) tm { n:=H.n,lw:=H.n,t:=H.t } o.op=some (v,{ n:=H.n,lw:=H.n,t:=H.t }):=Xb;rw[It];have:Nat.ble H.n H.n=true:=Nat.ble_eq.mpr (Nat.le_refl _);simp only[this,cond_true,Bool.not_false,Bool.and_self,Nat.sub_self,NN]|false=>rw[cond_false];rw[SZ hh Xb H]
    simp only[hd,YL,XD,cond_false];exact h1
   ·exact h.elim
  ·rename_i hg;rw[hg];obtain⟨Ph,YL,hl⟩:=Tw (k:=k) (H:=H) (H1:=H) (K1:=fun tm=>LR P C k (ZQ ops r) tm H.top K) h;obtain⟨Y8,h1,h2⟩:=Gp r (i+1) Ph H K hl;refine⟨Y8,?_,h2⟩;simp only[YL];exact h1
  ·exact h.elim
theorem NO{id:Nat}{s:St}(hd:(!Vs ops&&UX ops&&!isSplit C ops)=true)(h:LR P C s.k (strip ops) s.tm s.H.top fun Y8=>Q .norm ⟨s.k,Y8,s.H⟩):W P C (.region id ops true) s Q:=by
 obtain⟨k,tm,H⟩:=s;obtain⟨Y8,h1,h2⟩:=Gp _ 0 _ _ _ h;refine⟨.norm,⟨k,Y8,H⟩,?_,h2⟩;rw[Up];simp only[X5];rw[Wj]at h1;rw[Bool.and_eq_true,Bool.and_eq_true]at hd;have hm:Vs ops=false:=by simpa using hd.1.1
 have hs:isSplit C ops=false:=by simpa using hd.2
 have:YA P C (YC P C (Rm P C)) ops true ⟨k,tm,H⟩=some ⟨k,Y8,H⟩:=by unfold YA Va;rw[hm,hs,hd.1.2];simp only[Bool.and_false,cond_false,cond_true];exact h1
 rw[this]
def low(H H2:AH):AH:= { n:=H2.n,lw:=min H.lw H2.lw,t:=H2.t }
def LX(P:Program)(C:Cfg)(k:Nat):List uK->Tr Value->AH->(Tr Value->AH->Prop)->Prop
 |[],tm,H,K=>K tm H
 |o::r,tm,H,K=>match gW tm o.grd with
  |some true=>match ZV o.op with
   |true=>match Z6 P C (ZY P C) tm H.top o.op with
    |some (v,H2)=>(H2.n=H.n/\H2.lw<H.n)/\match o.dst with|none=>LX P C k r tm (low H H2) K|some d=>d<k/\LX P C k r (tm.set d v) (low H H2) K
    |none=>False
   |false=>match Z6 P C (ZY P C) tm H.top o.op with
    |some (v,H2)=>H2=H.top/\match o.dst with|none=>LX P C k r tm H K|some d=>d<k/\LX P C k r (tm.set d v) H K
    |none=>False
  |some false=>match o.dst with|none=>LX P C k r tm H K|some d=>d<k/\LX P C k r (tm.set d undef) H K
  |none=>False
def Uv:List Oper->Bool|[]=>true|o::r=>cond (ZV o.op) (r.all fun o=>ZV o.op||!ZX o.op) (Uv r)
def DA(ops:Array Oper):Bool:=(List.range ops.size).all fun i=>match ops[i]? with|some o=>!ZV o.op||alone ops i|none=>true
theorem Kp(Rc: ∀i o,ops[i]?=some o->ZV o.op=true->alone ops i=true): ∀(l:List Oper)(i:Nat)(q:Bool)(tm:Tr Value)(H:AH)(K:Tr Value->AH->Prop),(∀j,l[j]?=ops[i+j]?)->(q=true-> ∀o∈l,(ZV o.op||!ZX o.op)=true)->Uv l=true->LX P C k (ZQ ops l) tm H K-> ∃Y8 H',XO (X0 ops) P C (ZY P C) ops i q [] l ⟨k,tm,H⟩=some ⟨k,Y8,H'⟩/\K Y8 H'
 |[],i,q,tm,H,K,hl,hq,hs,h=>⟨tm,H,by simp only[XO],h⟩
 |o::r,i,q,tm,H,K,hl,hq,hs,h=>by
  have h0:ops[i]?=some o:=by simpa using(hl 0).symm
  have Ng: ∀j,r[j]?=ops[i+1+j]?:=fun j=>by have:=hl (j+1);simpa[Nat.add_assoc,Nat.add_comm 1 j]using this
  have qj:q=true-> ∀o∈r,(ZV o.op||!ZX o.op)=true:=fun e o' h'=>hq e o' (List.mem_cons_of_mem _ h');simp only[ZQ,LX]at h;simp only[XO];rw[EZ];have zi:Uv r=true:=by unfold Uv at hs;cases e:ZV o.op with
   |false=>rw[e,cond_false]at hs;exact hs
   |true=>rw[e,cond_true]at hs;clear h hl Ng hq qj h0;induction r with
    |nil=>rfl
    |cons x r ih=>rw[List.all_cons,Bool.and_eq_true]at hs;unfold Uv;cases ZV x.op with|false=>rw[cond_false];exact ih hs.2|true=>rw[cond_true];exact hs.2
  split at h
  ·rename_i hg;rw[hg];split at h
   ·rename_i Jx;split at h
    ·rename_i v H2 Xb;obtain⟨⟨e1,e2⟩,h⟩:=h;obtain⟨Ph,YL,KZ⟩:=Tw (k:=k) (H:=H) (H1:=low H H2) (K1:=fun tm=>LX P C k (ZQ ops r) tm (low H H2) K) h;have Uq: ∀o∈r,(ZV o.op||!ZX o.op)=true:=by unfold Uv at hs;rw[Jx,cond_true]at hs;exact List.all_eq_true.mp hs
     obtain⟨Y8,H',h1,h2⟩:=Kp Rc r (i+1) true Ph (low H H2) K Ng (fun _=>Uq) zi KZ;refine⟨Y8,H',?_,h2⟩;have hh:ZX o.op=true:=by revert Jx;cases o.op<;>simp[ZV,ZX]
     have hd:Xv (X0 ops) P C (ZY P C) ops i q [] ⟨k,tm,H⟩ o=some (v,low H H2,true):=by
      unfold Xv;rw[hh,cond_true];simp only[X0,hidden,Tb];have It:Z6 P C (ZY P C) tm { n:=H.n,lw:=H.n,t:=H.t } o.op=some (v,H2):=Xb;rw[It];have a1:Nat.ble H.n H2.n=true:=Nat.ble_eq.mpr (by omega);have a2:Nat.ble H.n H2.lw=false:=by cases hb:Nat.ble H.n H2.lw with|false=>rfl|true=>have:=Nat.le_of_ble_eq_true hb;omega
      simp only[a1,a2,cond_true,Bool.and_false,cond_false,Rc i o h0 Jx,List.isEmpty_nil,Bool.and_self];rfl
     have hn:Nat.blt H.n (low H H2).n=false:=by show Nat.blt H.n H2.n=false;rw[e1];exact XD _
     simp only[hd,YL,hn,cond_false];exact h1
    ·exact h.elim
   ·rename_i Jx;split at h
    ·rename_i v H2 Xb;obtain⟨e,h⟩:=h;subst e;obtain⟨Ph,YL,KZ⟩:=Tw (k:=k) (H:=H) (H1:=H) (K1:=fun tm=>LX P C k (ZQ ops r) tm H K) h;obtain⟨Y8,H',h1,h2⟩:=Kp Rc r (i+1) q Ph H K Ng qj zi KZ;refine⟨Y8,H',?_,h2⟩;have hd:Xv (X0 ops) P C (ZY P C) ops i q [] ⟨k,tm,H⟩ o=some (v,H,q):=by unfold Xv;cases hh:ZX o.op with
      |true=>
       have hqf:q=false:=by cases q with|false=>rfl|true=>have:=hq rfl o (List.mem_cons_self ..);rw[Jx,hh]at this;cases this
       subst hqf;rw[cond_true];simp only[X0,hidden,Tb];have It:Z6 P C (ZY P C) tm { n:=H.n,lw:=H.n,t:=H.t } o.op=some (v,{ n:=H.n,lw:=H.n,t:=H.t }):=Xb;rw[It];have:Nat.ble H.n H.n=true:=Nat.ble_eq.mpr (Nat.le_refl _);simp only[this,cond_true,Bool.not_false,Bool.and_self,Nat.sub_self,NN]
      |false=>rw[cond_false];rw[SZ hh Xb H]
     simp only[hd,YL,XD,cond_false];exact h1
    ·exact h.elim
  ·rename_i hg;rw[hg];obtain⟨Ph,YL,KZ⟩:=Tw (k:=k) (H:=H) (H1:=H) (K1:=fun tm=>LX P C k (ZQ ops r) tm H K) h;obtain⟨Y8,H',h1,h2⟩:=Kp Rc r (i+1) q Ph H K Ng qj zi KZ;refine⟨Y8,H',?_,h2⟩;simp only[YL];exact h1
  ·exact h.elim
theorem wU{id:Nat}{s:St}(hd:(!Vs ops&&(UX ops&&!isSplit C ops)&&DA ops&&Uv ops.toList)=true)(h:LX P C s.k (strip ops) s.tm s.H fun Y8 H'=>Q .norm ⟨s.k,Y8,H'⟩):W P C (.region id ops true) s Q:=by
 obtain⟨k,tm,H⟩:=s;rw[Bool.and_eq_true,Bool.and_eq_true,Bool.and_eq_true]at hd;have Rc: ∀i o,ops[i]?=some o->ZV o.op=true->alone ops i=true:=fun i o hi hs=>by have:=List.all_eq_true.mp hd.1.2 i (by simpa using YV hi);rw[hi]at this;simpa[hs]using this
 obtain⟨Y8,H',h1,h2⟩:=Kp Rc _ 0 false _ _ _ (fun j=>by simp) (fun e=>by cases e) hd.2 h;refine⟨.norm,⟨k,Y8,H'⟩,?_,h2⟩;rw[Up];simp only[X5];have hm:Vs ops=false:=by simpa using hd.1.1.1
 have Ba:=hd.1.1.2;rw[Bool.and_eq_true]at Ba;have hs:isSplit C ops=false:=by simpa using Ba.2
 rw[Wj]at h1;have:YA P C (YC P C (Rm P C)) ops true ⟨k,tm,H⟩=some ⟨k,Y8,H'⟩:=by unfold YA Va;rw[hm,hs,Ba.1];simp only[Bool.and_false,cond_false,cond_true];exact h1
 rw[this]
theorem Y6(R:St->Prop){a b:Code}{s:St}(h1: ∀Q':Ex->St->Prop,(∀s',R s'->Q' .norm s')->W P C a s Q')(h2: ∀s',R s'->W P C b s' Q):W P C (.seq a b) s Q:=MO R (h1 _ fun s' h=>⟨rfl,h⟩) h2
end
end
end Go.Proofs.YtmkfecoeghokfaaGreatDoor.Ev
namespace Go.Proofs.YtmkfecoeghokfaaGreatDoor
open Go Ev
set_option linter.unusedVariables false
set_option linter.unusedSimpArgs false
noncomputable section
set_option maxHeartbeats 2000000
set_option maxRecDepth 20000
section
attribute [-simp] Int.natCast_add Int.natCast_mul Int.natCast_ediv Int.natCast_emod Int.natCast_pow
attribute [local simp] strip ZQ Xt LR gW Z6 Yh ZU Yi ZG Yj Zy Zz Zj ZF Yd ZL Z3 Zm ZE Zk Zi Z2 Z1 YK Zr Yg Y1 YT ZJ plain ZM Tr.get_set YU Zt Yw ZS sameKind undef ZZ ZD Yb Zv ZA Yf ZT parts ZB XH DW Ym ZX LX ZV Zs ZI ZR XL Yk Zo ZP ZW ZO
def YQ:Value->Option Nat| .slice (some ⟨b,_,none⟩) _ _=>some b|_=>none
def Wq(v w:Value):Prop:= ∀b,YQ v=some b->YQ w≠some b
structure Tp (b : Option Nat) (H H' : AH) : Prop where
  n : H'.n = H.n
  blk : ∀ j, j < H.n -> b ≠ some j -> H'.blk j = H.blk j
theorem Tp.refl(b:Option Nat)(H:AH):Tp b H H:=⟨rfl,fun _ _ _=>rfl⟩
theorem Tp.trans{b:Option Nat}{H H1 H2:AH}(x:Tp b H H1)(y:Tp b H1 H2):Tp b H H2:=⟨y.n.trans x.n,fun j hn hj=>(y.blk j (by rw[x.n];exact hn) hj).trans (x.blk j hn hj)⟩
theorem At.but{b:Option Nat}{H H':AH}{c o:Nat}{xs:List Nat}(h:At H c o xs)(k:Tp b H H')(hb:b≠some c):At H' c o xs:=by obtain⟨h1,cs,h2,h3,h4⟩:=h;have e:=k.blk c h1 hb;exact⟨by rw[k.n];exact h1,cs,by unfold AH.cells;rw[e];exact h2,by unfold AH.size;rw[e];exact h3,h4⟩
theorem Sl.but{b:Option Nat}{H H':AH}{v:Value}{xs:List Nat}(h:Sl H v xs)(k:Tp b H H')(hb: ∀c,b=some c->YQ v≠some c):Sl H' v xs:=by cases h with|nil=>exact .nil|emp b=>exact .emp b|mk c o cap xs h1 h2=>exact .mk c o cap xs h1 (h2.but k fun e=>hb c e rfl)
theorem Yl.but{b:Option Nat}{n0:Nat}{H H':AH}{v:Value}{xs:List Nat}(h:Yl n0 H v xs)(k:Tp b H H')(hb: ∀c,b=some c->YQ v≠some c):Yl n0 H' v xs:=by cases h with|nil=>exact .nil|mk c o cap xs cs h1 h2 h3 h4 h5 h6=>exact .mk c o cap xs cs h1 h2 (by rw[k.n];exact h3) (by rw[k.blk c h3 fun e=>hb c e rfl];exact h4) h5 h6
theorem Yl.blk_lo{n0:Nat}{H:AH}{v:Value}{xs:List Nat}(h:Yl n0 H v xs){b:Nat}(hb:YQ v=some b):n0<=b/\b<H.n:=by cases h with|nil=>cases hb|mk c o cap xs cs h1 h2 h3 h4 h5 h6=>cases hb;exact⟨h2,h3⟩
theorem Sl.blk_lt{H:AH}{v:Value}{xs:List Nat}(h:Sl H v xs){b:Nat}(hb:YQ v=some b):b<H.n:=by cases h with|nil=>cases hb|emp _=>cases hb|mk c o cap xs h1 h2=>cases hb;exact h2.1
theorem Yl.put{n:Nat}{H:AH}{v:Value}{xs:List Nat}(h:Yl n H v xs){i:Nat}(hi:i<xs.length)(y:Nat): ∃H',YX Tryz.prog H 101 (adr v i) (.int .u64 (y:Int))=some H'/\Yl n H' v (xs.set i y)/\H'.n=H.n/\(∀j,YQ v≠some j->H'.blk j=H.blk j)/\ ∀H0,Zh H0 H->H0.n<=n->Zh H0 H':=by cases h with
 |nil=>cases hi
 |mk b o cap xs cs h1 h2 h3 h4 h5 h6=>
  have hlen:Nat.ble (o+i+1) cs.length=true:=Nat.ble_eq.mpr (by omega);have e0:(Value.int .u64 (y:Int)).cells=#[.int .u64 (y:Int)]:=rfl;have hw:H.write b (o+i) [.int .u64 (y:Int)]=some { n:=H.n,lw:=min H.lw b,t:=H.t.set b (.rw 1 (cs.take (o+i)++[.int .u64 (y:Int)]++cs.drop (o+i+1))) } :=by rw[AH.write_def,h4];simp only[List.length_singleton,hlen,Bool.true_and];rfl
  refine⟨{ n:=H.n,lw:=min H.lw b,t:=H.t.set b (.rw 1 (cs.take (o+i)++[.int .u64 (y:Int)]++cs.drop (o+i+1))) },?_,?_,rfl,?_,?_⟩;·unfold YX Go.Proofs.YtmkfecoeghokfaaGreatDoor.adr;simp only[Mz,e0];rw[show Nat.beq (#[Value.int .u64 (y:Int)]:Array Value).size 1=true from rfl,cond_true];exact hw
  ·have hl:(xs.set i y).length=xs.length:=List.length_set;rw[<-hl];refine .mk b o cap _ (cs.take (o+i)++[.int .u64 (y:Int)]++cs.drop (o+i+1)) (by omega) h2 h3 ?_ ?_ ?_;·unfold AH.blk;simp only[Tr.get_set,if_true]
   ·simp only[List.length_append,List.length_take,List.length_drop,List.length_singleton];omega
   ·intro j x hj;rw[List.getElem?_set]at hj;by_cases e:i=j;·subst e;rw[if_pos rfl,if_pos hi]at hj;cases hj;rw[List.append_assoc,List.getElem?_append_right (by rw[List.length_take];omega)];rw[List.length_take,show o+i-min (o+i) cs.length=0 by omega];rfl
    ·rw[if_neg e]at hj;have:=h6 j x hj;rcases Nat.lt_or_ge (o+j) (o+i)with YR|SM;·rw[List.append_assoc,List.getElem?_append_left (by rw[List.length_take];omega),List.getElem?_take,if_pos YR];exact this
     ·rw[List.getElem?_append_right (by simp only[List.length_append,List.length_take,List.length_singleton];omega),List.getElem?_drop];simp only[List.length_append,List.length_take,List.length_singleton];rw[show o+i+1+(o+j-(min (o+i) cs.length+1))=o+j by omega];exact this
  ·intro j hj;have:j≠b:=fun e=>hj (by rw[e];rfl);unfold AH.blk;simp only[Tr.get_set,if_neg this]
  ·intro H0 k hn;refine⟨k.n,?_,fun j hj=>?_⟩;·have:=k.lw;show min H0.lw H0.n<=min H.lw b;omega
   ·have:j≠b:=by omega
    rw[<-k.blk j hj];unfold AH.blk;simp only[Tr.get_set,if_neg this]
def View(w v:Value)(j m:Nat):Prop:= ∀(t:TypeId),LT t-> ∀(k:IntKind)(i:Nat),i<m->ZC Tryz.prog t w (.int k (i:Int))=some (adr v (j+i))
theorem Sl.part{H:AH}{v:Value}{xs:List Nat}(h:Sl H v xs){t:TypeId}(ht:LT t){j m:Nat}(hm:j+m<=xs.length)(h0:0<m): ∃w,Vu Tryz.prog H t v (some (.int .i64 (j:Int))) (some (.int .i64 ((j+m:Nat):Int))) none=some w/\Sl H w ((xs.drop j).take m)/\View w v j m/\YQ w=YQ v:=by cases h with
 |nil=>simp at hm;omega
 |emp b=>simp at hm;omega
 |mk b o cap xs h1 h2=>
  have hl:((xs.drop j).take m).length=m:=by rw[List.length_take,List.length_drop];omega
  obtain⟨mi,cs,h3,h4,h5⟩:=h2;refine⟨.slice (some ⟨b,o+j,none⟩) ((xs.drop j).take m).length (cap-j),?_,.mk b (o+j) (cap-j) _ (by omega) ⟨mi,cs,h3,h4,fun i x hx=>?_,by have:=(List.getElem?_eq_some_iff.mp (h5.1 j _ (List.getElem?_eq_getElem (show j<xs.length by omega)))).1;omega⟩,?_,rfl⟩
  ·unfold Vu;simp only[ht.1,Mz];unfold Il Xo;simp only[h4,Option.isSome_some,Option.isNone_none,Bool.true_or];rw[if_pos (by omega)];have e1:Nat.ble (j+m) cap=true:=Nat.ble_eq.mpr (by omega);have e2:Nat.blt j cap=true:=by rw[Nat.blt_eq];omega
   simp only[Xo,Int.toNat_natCast];rw[if_pos (by omega)];simp[e1,e2,hl]
  ·rw[List.getElem?_take]at hx;split at hx;·rw[List.getElem?_drop]at hx;have:=h5.1 (j+i) x hx;rwa[<-Nat.add_assoc]at this
   ·cases hx
  ·intro t ht k i hi;unfold ZC Go.Proofs.YtmkfecoeghokfaaGreatDoor.adr;simp only[ht.1,Mz];rw[if_pos (by omega)];simp[Nat.add_assoc]
def KA(n0:Nat)(H H1:AH):Prop:= ∀H0,Zh H0 H->H0.n<=n0->Zh H0 H1
theorem KA.refl(n0:Nat)(H:AH):KA n0 H H:=fun _ k _=>k
theorem KA.trans{n0:Nat}{H H1 H2:AH}(a:KA n0 H H1)(b:KA n0 H1 H2):KA n0 H H2:=fun H0 k h=>b H0 (a H0 k h) h
theorem Yl.segload{n0:Nat}{H:AH}{U0:Value}{pre us post:List Nat}(h:Yl n0 H U0 (pre++us++post)){j:Nat}(hj:pre.length=j){i:Nat}(hi:i<us.length):Z7 Tryz.prog H 101 (adr U0 (j+i))=some (.int .u64 (us[i]:Nat)):=by subst hj;have:=h.sl.load (i:=pre.length+i) (by simp;omega);rw[this];congr 3;rw[List.getElem_append_left (by simp;omega),List.getElem_append_right (by omega)];simp
theorem Yl.segstore{n0:Nat}{H:AH}{U0:Value}{pre us post:List Nat}(h:Yl n0 H U0 (pre++us++post)){j:Nat}(hj:pre.length=j){i:Nat}(hi:i<us.length)(y:Nat): ∃H',YX Tryz.prog H 101 (adr U0 (j+i)) (.int .u64 (y:Int))=some H'/\Yl n0 H' U0 (pre++us.set i y++post)/\Tp (YQ U0) H H'/\KA n0 H H':=by subst hj;obtain⟨H',h1,h2,h3,h4,h5⟩:=h.put (i:=pre.length+i) (by simp;omega) y;refine⟨H',h1,?_,⟨h3,fun j _=>h4 j⟩,h5⟩;rw[List.set_append_left _ _ (by simp;omega),List.set_append_right _ _ (by omega),Nat.add_sub_cancel_left]at h2;exact h2
theorem Ux(x y:Nat)(H:AH):ZY Tryz.prog Zw 203 [.int .u64 (x:Int),.int .u64 (y:Int),.int .u64 0] H=some (.tuple #[.int .u64 (((x+y)%Zd:Nat):Int),.int .u64 (((x+y)/Zd:Nat):Int)],H):=Qd x y 0 H (by omega)
theorem Qy{x y:Nat}(hx:x<Zd)(hy:y<Zd)(H:AH):ZY Tryz.prog Zw 202 [.int .u64 (x:Int),.int .u64 (y:Int)] H=some (.tuple #[.int .u64 ((x*y/Zd:Nat):Int),.int .u64 ((x*y%Zd:Nat):Int)],H):=by obtain⟨v,H',h,rfl,rfl⟩:=Bz hx hy (H:=H);exact h
theorem O7{h l y:Nat}(hh:h<y)(hl:l<Zd)(hy:y<Zd)(H:AH):ZY Tryz.prog Zw 205 [.int .u64 (h:Int),.int .u64 (l:Int),.int .u64 (y:Int)] H=some (.tuple #[.int .u64 (((h*Zd+l)/y:Nat):Int),.int .u64 (((h*Zd+l)%y:Nat):Int)],H):=by obtain⟨v,H',h,rfl,rfl⟩:=CU hh hl hy (H:=H);exact h
theorem Mk{x:Nat} :Zc .neq .u64 (x:Int) 0=some (.bool (decide (x≠0))):=Oh (y:=0)
theorem jT{x:Nat}(h:x<9223372036854775808)(hx:2<=x):Zc .sub .i64 (x:Int) 2=some (.int .i64 ((x-2:Nat):Int)):=Oq (x:=x) (y:=2) h hx
theorem Wf{x y:Nat}(h:x+y<Zd):Zc .add .u64 (x:Int) (y:Int)=some (.int .u64 ((x+y:Nat):Int)):=by rw[Ts,Nat.mod_eq_of_lt h]
theorem QN{xs:List Nat}{n:Nat}(h:xs.length=n+1):xs=xs.take n++[xs[n]'(by omega)]:=by have:=List.take_append_getElem (l:=xs) (i:=n) (by omega);rw[this,<-h,List.take_length]
theorem ur{us vs:List Nat}{n:Nat}(hu:us.length=n+1)(hv:vs.length=n)(h2:2<=n)(du:YD Zd us)(dv':YD Zd vs)(hp:0<vs[n-1]'(by omega)):Gt Zd (Zd^(n-2)) (dv Zd vs) (dv Zd us) (vs[n-1]'(by omega)) (vs[n-2]'(by omega)) (dv Zd (vs.take (n-2))) ((us[n]'(by omega))*Zd+us[n-1]'(by omega)) (us[n-2]'(by omega)) (dv Zd (us.take (n-2))):=by
 obtain⟨m,rfl⟩: ∃m,n=m+2:=⟨n-2,by omega⟩;simp only[Nat.add_sub_cancel,show m+2-1=m+1 by omega]at hp⊢;have e1:vs=vs.take m++[vs[m]'(by omega),vs[m+1]'(by omega)]:=by have a:=QN (n:=m+1) hv;have b:=Xk (xs:=vs) (i:=m) (by omega);rw[b,List.append_assoc]at a;exact a
 have e2:us=us.take m++[us[m]'(by omega),us[m+1]'(by omega),us[m+2]'(by omega)]:=by have a:=QN (n:=m+2) hu;have b:=Xk (xs:=us) (i:=m+1) (by omega);have c:=Xk (xs:=us) (i:=m) (by omega);rw[b,c,List.append_assoc,List.append_assoc]at a;exact a
 have l1:(vs.take m).length=m:=by rw[List.length_take];omega
 have l2:(us.take m).length=m:=by rw[List.length_take];omega
 refine⟨?_,?_,?_,?_,du.get (List.getElem?_eq_getElem (by omega)),dv'.get (List.getElem?_eq_getElem (by omega)),hp⟩;·have:=congrArg (dv Zd) e1;rw[this,Yr,l1];simp only[dv,Nat.mul_zero,Nat.add_zero];rw[Nat.add_comm,Nat.mul_comm (Zd^m),Nat.mul_comm Zd,Nat.add_comm (vs[m])]
 ·have:=congrArg (dv Zd) e2;rw[this,Yr,l2];simp only[dv,Nat.mul_zero,Nat.add_zero];rw[Nat.add_comm,Nat.mul_comm (Zd^m),Nat.mul_comm Zd (us[m+1]+_),Nat.add_comm (us[m+1]),Nat.mul_comm Zd us[m+2],Nat.add_comm (us[m])]
 ·have:=Ws (dv'.take m);rwa[l1]at this
 ·have:=Ws (du.take m);rwa[l2]at this
theorem Kt{x B:Nat}(hB:0<B)(h:x/B=0):x<B:=by
 rcases Nat.lt_or_ge x B with h'|h';·exact h'
 ·have:=Nat.div_pos h' hB;omega
structure pk (V U y1 u q r : Nat) (sure : Bool) : Prop where
  ge : U / V <= q
  lt : q < Zd
  no : sure = false -> q * y1 + r = u /\ r < Zd
  yes : sure = true -> q <= U / V + 1
theorem CI{n0 n j:Nat}{H:AH}{U0 uv vv:Value}{pre us post vs:List Nat}(hu:Yl n0 H U0 (pre++us++post))(hj:pre.length=j)(hus:us.length=n+1)(EF:View uv U0 j (n+1))(du:YD Zd us)(hv:Sl H vv vs)(Oz:Wq U0 vv)(OO:vs.length=n)(h2:2<=n)(hn:n<=17592186044416)(fT:YD Zd vs)(hp:0<vs[n-1]'(by omega))(YR:dv Zd us<dv Zd vs*Zd):CW Tryz.prog Zw 218 [uv,vv] H fun v H'=>v= .int .u64 ((dv Zd us/dv Zd vs:Nat):Int)/\Tp (YQ U0) H H'/\KA n0 H H'/\ ∃PA,PA.length=n+1/\YD Zd PA/\dv Zd PA=dv Zd us%dv Zd vs/\Yl n0 H' U0 (pre++PA++post):=by
 refine Z8 195 Tryz.func218 ?_;have T:=ur hus OO h2 du fT hp;have Vpos:=T.Vpos;obtain⟨V,hV⟩:=hid (dv Zd vs);obtain⟨U,hU⟩:=hid (dv Zd us);obtain⟨un,AN⟩:=hid (us[n]'(by omega));obtain⟨KN,sL⟩:=hid (us[n-1]'(by omega));obtain⟨uS,sK⟩:=hid (us[n-2]'(by omega));obtain⟨y1,vS⟩:=hid (vs[n-1]'(by omega));obtain⟨y0,Ki⟩:=hid (vs[n-2]'(by omega));rw[<-hV,<-hU,<-AN,<-sL,<-sK,<-vS,<-Ki]at T;rw[<-hV,<-hU]at YR⊢;rw[<-hV]at Vpos;rw[<-vS]at hp;have bun:un<Zd:=by rw[AN];exact du.get (List.getElem?_eq_getElem (by omega))
 have bun1:KN<Zd:=by rw[sL];exact du.get (List.getElem?_eq_getElem (by omega))
 have bun2:uS<Zd:=by rw[sK];exact du.get (List.getElem?_eq_getElem (by omega))
 have by1:y1<Zd:=by rw[vS];exact fT.get (List.getElem?_eq_getElem (by omega))
 have by0:y0<Zd:=by rw[Ki];exact fT.get (List.getElem?_eq_getElem (by omega))
 have hQB:U/V<Zd:=by rw[Nat.div_lt_iff_lt_mul Vpos,Nat.mul_comm];exact YR
 have E3:=hv.len Zv;rw[OO]at E3;have s1:Zc .sub .i64 (n:Int) 1=some (.int .i64 ((n-1:Nat):Int)):=Um (by omega) (by omega);have s2:Zc .sub .i64 (n:Int) 2=some (.int .i64 ((n-2:Nat):Int)):=jT (by omega) h2;have an:ZC Tryz.prog 30 uv (.int .i64 (n:Int))=some (adr U0 (j+n)):=EF _ Zv .i64 n (by omega);have an1:ZC Tryz.prog 30 uv (.int .i64 ((n-1:Nat):Int))=some (adr U0 (j+(n-1))):=EF _ Zv .i64 (n-1) (by omega);have an2:ZC Tryz.prog 30 uv (.int .i64 ((n-2:Nat):Int))=some (adr U0 (j+(n-2))):=EF _ Zv .i64 (n-2) (by omega);have av1:ZC Tryz.prog 30 vv (.int .i64 ((n-1:Nat):Int))=some (adr vv (n-1)):=hv.adr Zv (by omega);have av2:ZC Tryz.prog 30 vv (.int .i64 ((n-2:Nat):Int))=some (adr vv (n-2)):=hv.adr Zv (by omega);have ln:Z7 Tryz.prog H 101 (adr U0 (j+n))=some (.int .u64 (un:Int)):=by rw[AN];exact hu.segload hj (by omega)
 have ln1:Z7 Tryz.prog H 101 (adr U0 (j+(n-1)))=some (.int .u64 (KN:Int)):=by rw[sL];exact hu.segload hj (by omega)
 have ln2:Z7 Tryz.prog H 101 (adr U0 (j+(n-2)))=some (.int .u64 (uS:Int)):=by rw[sK];exact hu.segload hj (by omega)
 have lv1:Z7 Tryz.prog H 101 (adr vv (n-1))=some (.int .u64 (y1:Int)):=by rw[vS];exact hv.load (by omega)
 have lv2:Z7 Tryz.prog H 101 (adr vv (n-2))=some (.int .u64 (y0:Int)):=by rw[Ki];exact hv.load (by omega)
 have ak: ∀(a:Value),Z7 Tryz.prog H.top 101 a=Z7 Tryz.prog H 101 a:=fun _=>rfl;apply Zb;intro b1 Ze;simp;subst Ze;apply Zb;intro b1 Ze;simp[E3];subst Ze;apply Zb;intro b1 Ze;simp;subst Ze;apply Zb;intro b1 Ze;simp;subst Ze;refine Y6 (fun s'=>s'.k=195/\s'.H=H/\s'.tm.get 0=some uv/\s'.tm.get 1=some vv/\s'.tm.get 5=some (.int .i64 (n:Int))/\ ∃(q r:Nat) (sure:Bool),pk V U y1 (un*Zd+KN) q r sure/\s'.tm.get 6=some (.int .u64 (q:Int))/\s'.tm.get 7=some (.int .u64 (r:Int))/\s'.tm.get 8=some (.bool sure)) ?_ ?_
 ·intro Q' YF;apply Zf;intro b1 Ze;apply Tq (by kernel_rfl);simp[E3,an,s1,av1,ln,lv1,N2];subst Ze;by_cases SM:y1<=un
  ·have hEq:un=y1:=Nat.le_antisymm (T.high YR) SM;refine Za (t:=true) (by simp[SM]) ?_;apply Zb;intro b1 Ze;simp;subst Ze;apply Zb;intro b1 Ze;simp;subst Ze;apply Zf;intro b1 Ze;apply NO (by kernel_rfl);simp[s1,an1,av1,ak,ln1,lv1,Ux];subst Ze;apply Zg;simp[Mk];apply YF;have hB1:((18446744073709551615:Nat):Int)=18446744073709551615:=rfl;have he:18446744073709551615*y1+(KN+y1)=un*Zd+KN:=by rw[hEq];show 18446744073709551615*y1+(KN+y1)=y1*18446744073709551616+KN;omega
   refine⟨rfl,rfl,by simp,by simp,by simp,18446744073709551615,(KN+y1)%Zd,decide ((KN+y1)/Zd≠0),⟨?_,by decide,?_,?_⟩,by simp[hB1],by simp,by simp⟩;·have:U/V<18446744073709551616:=hQB;omega
   ·intro h;have h0:(KN+y1)/Zd=0:=by have:=of_decide_eq_false h;omega
    have hm:(KN+y1)%Zd=KN+y1:=Nat.mod_eq_of_lt (Kt (by decide) h0);rw[hm];refine⟨he,?_⟩;rw[<-hm];exact Nat.mod_lt _ (by decide)
   ·intro h;have h0: ¬ (KN+y1)/Zd=0:=of_decide_eq_true h;refine T.false he (by decide) ?_;have h1:Zd<=KN+y1:=by
     rcases Nat.lt_or_ge (KN+y1) Zd with h'|h';·exact absurd (Nat.div_eq_of_lt h') h0
     ·exact h'
    have h2:Zd*Zd<=(KN+y1)*Zd:=Nat.mul_le_mul_right _ h1;have h3:18446744073709551615*y0<=Zd*Zd:=Nat.mul_le_mul (by decide) (by omega);omega
  ·refine Za (t:=false) (by simp;omega) ?_;have yN:un<y1:=by omega
   apply NO (by kernel_rfl);simp[s1,an,an1,av1,ak,ln,ln1,lv1,O7 yN bun1 by1];apply YF;refine⟨rfl,rfl,by simp,by simp,by simp,(un*Zd+KN)/y1,(un*Zd+KN)%y1,false,⟨T.first,?_,?_,fun h=>by cases h⟩,by simp,by simp,by simp⟩;·rw[Nat.div_lt_iff_lt_mul hp,Nat.mul_comm Zd y1];have:(un+1)*Zd<=y1*Zd:=Nat.mul_le_mul_right _ yN;rw[Nat.succ_mul]at this;omega
   ·intro _;exact⟨by rw[Nat.mul_comm];exact Nat.div_add_mod _ _,Nat.lt_trans (Nat.mod_lt _ hp) by1⟩
 rintro⟨k,tm,H'⟩ ⟨hk,hH,t0,t1,t5,q,r,sure,jC,t6,t7,t8⟩;simp only at hk hH t0 t1 t5 t6 t7 t8;subst hk;subst hH;refine Y6 (fun s'=>s'.k=195/\s'.H=H'/\s'.tm.get 0=some uv/\s'.tm.get 1=some vv/\s'.tm.get 5=some (.int .i64 (n:Int))/\ ∃(q:Nat),U/V<=q/\q<=U/V+1/\q<Zd/\s'.tm.get 6=some (.int .u64 (q:Int))) ?_ ?_;·intro KI XW;apply Zu;refine Yv (fun m s'=>s'.k=195/\s'.H=H'/\s'.tm.get 0=some uv/\s'.tm.get 1=some vv/\s'.tm.get 5=some (.int .i64 (n:Int))/\ ∃(r:Nat) (sure:Bool),pk V U y1 (un*Zd+KN) m r sure/\s'.tm.get 6=some (.int .u64 (m:Int))/\s'.tm.get 7=some (.int .u64 (r:Int))/\s'.tm.get 8=some (.bool sure)) ?_ q _ ⟨rfl,rfl,t0,t1,t5,r,sure,jC,t6,t7,t8⟩;clear t0 t1 t5 t6 t7 t8 jC;rintro q ⟨k,tm,H2⟩ ⟨hk,hH,t0,t1,t5,r,sure,jC,t6,t7,t8⟩ Q' YF;simp only at hk hH t0 t1 t5 t6 t7 t8;subst hk;subst hH;apply Zf;intro b3 ZH;apply Zb;intro b4 Yt;simp[t8];subst Yt;cases sure with
  |true=>refine Za (t:=false) (by simp) ?_;apply YZ;apply YF;left;exact⟨rfl,XW _ ⟨rfl,rfl,by simp[t0],by simp[t1],by simp[t5],q,jC.ge,jC.yes rfl,jC.lt,by simp[t6]⟩⟩
  |false=>
   refine Za (t:=true) (by simp) ?_;apply Zl;subst ZH;obtain⟨ic,hrB⟩:=jC.no rfl;have dV:=jC.lt;apply Zu;apply Zb;intro b3 ZH;simp[t6,t1,t5,s2,av2,lv2,Qy dV by0];subst ZH;obtain⟨hi,hhi⟩:=hid (q*y0/Zd);obtain⟨lo,yR⟩:=hid (q*y0%Zd);have ehl:q*y0=Zd*hi+lo:=by rw[hhi,yR];exact(Nat.div_add_mod _ _).symm
   have hloB:lo<Zd:=by rw[yR];exact Nat.mod_lt _ (by decide)
   rw[<-hhi,<-yR];have stop:q*y0<=r*Zd+uS->q<=U/V+1:=fun h=>T.false ic dV h;have on:r*Zd+uS<q*y0->0<q/\U/V<=q-1/\(q-1)*y1+(r+y1)=un*Zd+KN:=fun h=>by have h1:=T.true ic h;have ze:0<q:=Nat.lt_of_le_of_lt (Nat.zero_le _) h1;refine⟨ze,Nat.le_sub_one_of_lt h1,?_⟩;obtain⟨q',rfl⟩: ∃q',q=q'+1:=⟨q-1,by omega⟩;rw[Nat.succ_mul]at ic;rw[Nat.add_sub_cancel];omega
   apply Zf;intro b3 ZH;apply Zf;intro b4 Yt;have pT: ∀Y8,q*y0<=r*Zd+uS->Y8.get 0=some uv->Y8.get 1=some vv->Y8.get 5=some (.int .i64 (n:Int))->Y8.get 6=some (.int .u64 (q:Int))->Q' (.exit 0) ⟨195,Y8,H2⟩:=fun Y8 h a b c d=>by apply YF;left;exact⟨rfl,XW _ ⟨rfl,rfl,a,b,c,q,jC.ge,stop h,dV,d⟩⟩
   have onk: ∀Y8,r*Zd+uS<q*y0->Y8.get 0=some uv->Y8.get 1=some vv->Y8.get 5=some (.int .i64 (n:Int))->Y8.get 6=some (.int .u64 (q:Int))->Y8.get 7=some (.int .u64 (r:Int))->Y8.get 8=some (.bool false)->W Tryz.prog Zw b3 ⟨195,Y8,H2⟩ (Ye 1 Q'):=fun Y8 h t0 t1 t5 t6 t7 t8=>by
    obtain⟨ze,SM,heq⟩:=on h;subst ZH;apply Zb;intro b3 ZH;simp[t6,MZ dV ze];subst ZH;apply Zb;intro b3 ZH;simp;subst ZH;apply Zb;intro b3 ZH;simp[t7,t1,t5,s1,av1,lv1,Ux];subst ZH;apply Zb;intro b3 ZH;simp[Mk];subst ZH;by_cases ia:(r+y1)/Zd=0;·refine Za (t:=false) (by simp;exact Kt (by decide) ia) ?_;have hm:(r+y1)%Zd=r+y1:=Nat.mod_eq_of_lt (Kt (by decide) ia);apply Zl;apply YF;refine⟨q-1,by omega,rfl,rfl,by simp[t0],by simp[t1],by simp[t5],(r+y1)%Zd,false,⟨SM,by omega,fun _=>⟨by rw[hm];exact heq,Nat.mod_lt _ (by decide)⟩,fun h=>by cases h⟩,by simp,by simp,by simp[t8]⟩
    ·have h1:Zd<=r+y1:=by
      rcases Nat.lt_or_ge (r+y1) Zd with h'|h';·exact absurd (Nat.div_eq_of_lt h') ia
      ·exact h'
     refine Za (t:=true) (by simp;exact h1) ?_;apply YZ;right;refine⟨by decide,?_⟩;apply YF;left;refine⟨rfl,XW _ ⟨rfl,rfl,by simp[t0],by simp[t1],by simp[t5],q-1,SM,?_,by omega,by simp⟩⟩;refine T.false heq (by omega) ?_;have h2:Zd*Zd<=(r+y1)*Zd:=Nat.mul_le_mul_right _ h1;have h3:(q-1)*y0<=Zd*Zd:=Nat.mul_le_mul (by omega) (by omega);omega
   apply Zg;by_cases c1:hi<r;·simp[t7,c1];subst Yt;refine Za (t:=true) (by simp) ?_;apply YZ;right;refine⟨by decide,pT _ ?_ (by simp[t0]) (by simp[t1]) (by simp[t5]) (by simp[t6])⟩;have:Zd*(hi+1)<=Zd*r:=Nat.mul_le_mul_left _ c1;rw[Nat.mul_succ,Nat.mul_comm Zd r]at this;omega
   ·by_cases c2:hi=r
    ·by_cases c3:lo<=uS;·simp[t7,t0,t5,c1,P8,c2,s2,an2,ln2,Ob,c3];subst Yt;refine Za (t:=true) (by simp) ?_;apply YZ;right;refine⟨by decide,pT _ ?_ (by simp[t0]) (by simp[t1]) (by simp[t5]) (by simp[t6])⟩;rw[ehl,c2,Nat.mul_comm];omega
     ·simp[t7,t0,t5,c1,P8,c2,s2,an2,ln2,Ob,c3];subst Yt;refine Za (t:=false) (by simp) ?_;apply Zl;show W _ _ b3 _ _;refine onk _ ?_ (by simp[t0]) (by simp[t1]) (by simp[t5]) (by simp[t6]) (by simp[t7]) (by simp[t8]);rw[ehl,c2,Nat.mul_comm];omega
    ·simp[t7,t0,t5,c1,P8,c2];subst Yt;refine Za (t:=false) (by simp) ?_;apply Zl;show W _ _ b3 _ _;refine onk _ ?_ (by simp[t0]) (by simp[t1]) (by simp[t5]) (by simp[t6]) (by simp[t7]) (by simp[t8]);have:Zd*(r+1)<=Zd*hi:=Nat.mul_le_mul_left _ (by omega);rw[Nat.mul_succ,Nat.mul_comm Zd r]at this;omega
 clear t0 t1 t5 t6 t7 t8 jC q r sure;rintro⟨k,tm,H2⟩ ⟨hk,hH,t0,t1,t5,q,qge,qle,qB,t6⟩;simp only at hk hH t0 t1 t5 t6;subst hk;subst hH;have qs: ∀{H1:AH},Tp (YQ U0) H2 H1->Sl H1 vv vs:=fun k=>hv.but k Oz;apply Zb;intro b1 Ze;simp;subst Ze;refine Y6 (fun s'=>s'.k=195/\s'.tm.get 0=some uv/\s'.tm.get 1=some vv/\s'.tm.get 5=some (.int .i64 (n:Int))/\s'.tm.get 6=some (.int .u64 (q:Int))/\Tp (YQ U0) H2 s'.H/\KA n0 H2 s'.H/\ ∃(L:List Nat) (carry borrow:Nat),L.length=n/\YD Zd L/\carry<Zd/\borrow<=1/\dv Zd L+q*V=dv Zd (us.take n)+Zd^n*(carry+borrow)/\Yl n0 s'.H U0 (pre++(L++us.drop n)++post)/\s'.tm.get 13=some (.int .u64 (carry:Int))/\s'.tm.get 14=some (.int .u64 (borrow:Int))) ?_ ?_
 ·intro KI XW;apply Zb;intro b1 Ze;simp[t1,E3];subst Ze;apply Zu;refine Yv (fun m s'=>s'.k=195/\s'.tm.get 0=some uv/\s'.tm.get 1=some vv/\s'.tm.get 5=some (.int .i64 (n:Int))/\s'.tm.get 6=some (.int .u64 (q:Int))/\Tp (YQ U0) H2 s'.H/\KA n0 H2 s'.H/\s'.tm.get 113=some vv/\s'.tm.get 114=some (.int .i64 (n:Int))/\ ∃(i:Nat) (L:List Nat) (carry borrow:Nat),m+i=n/\L.length=i/\YD Zd L/\carry<Zd/\borrow<=1/\dv Zd L+q*dv Zd (vs.take i)=dv Zd (us.take i)+Zd^i*(carry+borrow)/\Yl n0 s'.H U0 (pre++(L++us.drop i)++post)/\s'.tm.get 13=some (.int .u64 (carry:Int))/\s'.tm.get 14=some (.int .u64 (borrow:Int))/\s'.tm.get 115=some (.int .i64 (i:Int))) ?_ n _ ⟨rfl,by simp[t0],by simp[t1],by simp[t5],by simp[t6],.refl _ _,.refl _ _,by simp[t1],by simp,0,[],0,0,by omega,rfl,.nil _,by decide,by omega,by simp[dv],by simpa using hu,by simp,by simp,by simp⟩;clear t0 t1 t5 t6;rintro m ⟨k,tm,H3⟩ ⟨hk,t0,t1,t5,t6,kb,ka,t113,t114,i,L,carry,borrow,NR,hL,dL,hc,hb,heq,own,t13,t14,t115⟩ Q' YF;simp only at hk t0 t1 t5 t6 kb ka t113 t114 t13 t14 t115 own;subst hk;apply Zb;intro b3 ZH;simp[t114,t115];subst ZH;apply Zf;intro b3 ZH;by_cases hi:i<n
  ·refine Za (t:=true) (by simp[hi]) ?_;apply Zl;subst ZH;have zx:=qs kb;have a1:ZC Tryz.prog 30 vv (.int .i64 (i:Int))=some (adr vv i):=zx.adr Zv (by omega);have hx:vs[i]<Zd:=fT.get (List.getElem?_eq_getElem (by omega));have d1:Z7 Tryz.prog H3 101 (adr vv i)=some (.int .u64 (vs[i]:Nat)):=zx.load (by omega);have a2:ZC Tryz.prog 30 uv (.int .i64 (i:Int))=some (adr U0 (j+i)):=EF _ Zv .i64 i (by omega);have zv:us.drop i=us[i]::us.drop (i+1):=List.drop_eq_getElem_cons (by omega);have huB:us[i]<Zd:=du.get (List.getElem?_eq_getElem (by omega));have d2:Z7 Tryz.prog H3 101 (adr U0 (j+i))=some (.int .u64 (us[i]:Nat)):=by have:=own.segload hj (i:=i) (by simp;omega);rw[this];congr 3;rw[List.getElem_append_right (by omega)];simp[hL]
   obtain⟨x,Ni⟩:=hid (vs[i]);obtain⟨y,mK⟩:=hid (us[i]);rw[<-Ni]at hx d1;rw[<-mK]at huB d2 zv;have step:=Fm hx qB hc huB hb;simp only at step;obtain⟨ph,za⟩:=hid (x*q/Zd);obtain⟨pl,FN⟩:=hid (x*q%Zd);rw[<-za,<-FN]at step;obtain⟨sm,hsm⟩:=hid ((pl+carry)%Zd);obtain⟨ov,ia⟩:=hid ((pl+carry)/Zd);rw[<-hsm,<-ia]at step;obtain⟨y',il⟩: ∃y',y'=(y+Zd-sm-borrow)%Zd:=⟨_,rfl⟩;obtain⟨b',WV⟩: ∃b',b'=(if y<sm+borrow then 1 else 0):=⟨_,rfl⟩;rw[<-il,<-WV]at step;obtain⟨SF,TP,S7⟩:=step;have m1:ZY Tryz.prog Zw 202 [.int .u64 (x:Int),.int .u64 (q:Int)] H3=some (.tuple #[.int .u64 (ph:Int),.int .u64 (pl:Int)],H3):=by rw[za,FN];exact Qy hx qB H3
   have m2:ZY Tryz.prog Zw 203 [.int .u64 (pl:Int),.int .u64 (carry:Int),.int .u64 0] H3=some (.tuple #[.int .u64 (sm:Int),.int .u64 (ov:Int)],H3):=by rw[hsm,ia];exact Ux pl carry H3
   have m3:Zc .add .u64 (ph:Int) (ov:Int)=some (.int .u64 ((ph+ov:Nat):Int)):=Wf SF;have m4:ZY Tryz.prog Zw 206 [.int .u64 (y:Int),.int .u64 (sm:Int),.int .u64 (borrow:Int)] H3=some (.tuple #[.int .u64 (y':Int),.int .u64 (b':Int)],H3):=by rw[il,WV];exact QL y sm borrow H3 hb
   obtain⟨H4,sto,VV,kb4,VP⟩:=own.segstore hj (i:=i) (by simp;omega) y';rw[zv,WC L y y' _ hL]at VV;apply Zf;intro b3 ZH;apply Zu;apply Zb;intro b4 Yt;simp[t113,t115,a1,d1];subst Yt;apply Zb;intro b4 Yt;simp[t6,m1];subst Yt;apply Zb;intro b4 Yt;simp[t13,m2];subst Yt;apply Zb;intro b4 Yt;simp[m3];subst Yt;apply Zg;simp[t0,t14,a2,d2,m4,sto];subst ZH;apply Zg;simp[t115,Yy (x:=i) (by omega)];apply YF;refine⟨m-1,by omega,rfl,by simp[t0],by simp[t1],by simp[t5],by simp[t6],kb.trans kb4,ka.trans VP,by simp[t113],by simp[t114],i+1,L++[y'],ph+ov,b',by omega,by simp[hL],dL.append (.cons TP (.nil _)),SF,?_,?_,by simpa using VV,by simp,by simp,by simp⟩;·rw[WV];split<;>omega
   ·rw[Yr,hL,Xk (xs:=vs) (by omega),Xk (xs:=us) (by omega),Yr,Yr,List.length_take,List.length_take,Nat.min_eq_left (by omega),Nat.min_eq_left (by omega),<-Ni,<-mK];simp only[dv,Nat.mul_zero,Nat.add_zero];have e1:Zd^i*(y'+x*q+carry+borrow)=Zd^i*(y+Zd*(ph+ov+b')):=by rw[S7]
    rw[Nat.mul_add (Zd^i) y,<-Nat.mul_assoc (Zd^i) Zd,show Zd^i*Zd=Zd^(i+1)from rfl]at e1;rw[show y'+x*q+carry+borrow=y'+x*q+(carry+borrow) by omega,Nat.mul_add,Nat.mul_add]at e1;rw[Nat.mul_add q,show q*(Zd^i*x)=Zd^i*(x*q) by rw[Nat.mul_left_comm,Nat.mul_comm q x]];omega
  ·refine Za (t:=false) (by simp[hi]) ?_;apply YZ;apply YF;left;obtain rfl:i=n:=by omega
   have e1:vs.take i=vs:=by rw[<-OO,List.take_length]
   rw[e1,<-hV]at heq;exact⟨rfl,XW _ ⟨rfl,by simp[t0],by simp[t1],by simp[t5],by simp[t6],kb,ka,L,carry,borrow,hL,dL,hc,hb,heq,own,by simp[t13],by simp[t14]⟩⟩
 clear t0 t1 t5 t6;rintro⟨k,tm,H3⟩ ⟨hk,t0,t1,t5,t6,kb,ka,L,carry,borrow,hL,dL,hc,hb,heq,own,t13,t14⟩;simp only at hk t0 t1 t5 t6 kb ka own t13 t14;subst hk;have hdn:us.drop n=[un]:=by rw[List.drop_eq_getElem_cons (by omega),List.drop_eq_nil_of_le (by omega),<-AN]
 have hUe:U=dv Zd (us.take n)+Zd^n*un:=by have:=congrArg (dv Zd) (QN hus);rw[Yr,List.length_take,Nat.min_eq_left (by omega),<-AN,<-hU]at this;simpa[dv]using this
 rw[hdn]at own;have d2:Z7 Tryz.prog H3 101 (adr U0 (j+n))=some (.int .u64 (un:Int)):=by have:=own.segload hj (i:=n) (by simp;omega);rw[this,N4 L un [] hL]
 obtain⟨y',il⟩: ∃y',y'=(un+Zd-carry-borrow)%Zd:=⟨_,rfl⟩;obtain⟨b',WV⟩: ∃b',b'=(if un<carry+borrow then 1 else 0):=⟨_,rfl⟩;have Ze:b'<=1:=by rw[WV];split<;>omega
 have hy'B:y'<Zd:=by rw[il];exact Nat.mod_lt _ (by decide)
 have Rc:y'+(carry+borrow)=un+Zd*b':=by
  by_cases h:un<carry+borrow;·rw[il,WV,if_pos h,Nat.mod_eq_of_lt (by omega)];omega
  ·rw[il,WV,if_neg h];have:un+Zd-carry-borrow=(un-carry-borrow)+Zd:=by omega
   rw[this,Nat.add_mod_right,Nat.mod_eq_of_lt (by omega)];omega
 have m4:ZY Tryz.prog Zw 206 [.int .u64 (un:Int),.int .u64 (carry:Int),.int .u64 (borrow:Int)] H3=some (.tuple #[.int .u64 (y':Int),.int .u64 (b':Int)],H3):=by rw[il,WV];exact QL un carry borrow H3 hb
 obtain⟨H4,sto,VV,kb4,VP⟩:=own.segstore hj (i:=n) (by simp;omega) y';rw[WC L un y' [] hL]at VV;have dL':YD Zd (L++[y']):=dL.append (.cons hy'B (.nil _));have hR:dv Zd (L++[y'])+q*V=U+Zd^(n+1)*b':=by
  rw[Yr,hL];simp only[dv,Nat.mul_zero,Nat.add_zero];have e1:Zd^n*(y'+(carry+borrow))=Zd^n*(un+Zd*b'):=by rw[Rc]
  rw[Nat.mul_add,Nat.mul_add (Zd^n) un,<-Nat.mul_assoc (Zd^n) Zd,show Zd^n*Zd=Zd^(n+1)from rfl]at e1;omega
 have yc:dv Zd (L++[y'])<Zd^(n+1):=by have:=Ws dL';simpa[hL]using this
 have yf:U<Zd^(n+1):=by have:=Ws du;rwa[hus,<-hU]at this
 have ta:=cJ Vpos qge qle yf yc Ze hR;apply Zf;intro b1 MA;apply Zg;simp[t0,t5,t13,t14,an,d2,m4,sto];subst MA;rcases ta with⟨rfl,rfl,hRe⟩|⟨rfl,kp,hRe⟩;·apply Zf;intro b1 MA;apply Zb;intro b2 Zp;simp[Mk];subst Zp;refine Za (t:=false) (by simp) ?_;apply Zl;subst MA;apply Zf;intro b1 MA;apply Zg;simp[t6];subst MA;apply Zq;simp;exact⟨kb.trans kb4,ka.trans VP,L++[y'],by simp[hL],dL',hRe,by simpa using VV⟩
 ·have ze:0<q:=by rw[kp];exact Nat.succ_pos _
  have hqe:q-1=U/V:=by rw[kp];rfl
  apply Zf;intro b1 MA;apply Zb;intro b2 Zp;simp[Mk];subst Zp;refine Za (t:=true) (by simp) ?_;apply Zb;intro b2 Zp;simp[t6,MZ qB ze];subst Zp;apply Zb;intro b2 Zp;simp;subst Zp;obtain⟨PA,sJ⟩: ∃PA,PA=L++[y']:=⟨_,rfl⟩;have Zb5:PA.length=n+1:=by rw[sJ];simp[hL]
  rw[<-sJ]at VV dL' hRe yc;have kb5:=kb.trans kb4;have WN:=ka.trans VP;have seg1:PA.take n++PA.drop n=PA:=List.take_append_drop n PA;refine Y6 (fun s'=>s'.k=195/\s'.tm.get 0=some uv/\s'.tm.get 5=some (.int .i64 (n:Int))/\s'.tm.get 6=some (.int .u64 ((U/V:Nat):Int))/\Tp (YQ U0) H2 s'.H/\KA n0 H2 s'.H/\ ∃(L:List Nat) (back:Nat),L.length=n/\YD Zd L/\back<=1/\dv Zd L+Zd^n*back=dv Zd (PA.take n)+V/\Yl n0 s'.H U0 (pre++(L++PA.drop n)++post)/\s'.tm.get 21=some (.int .u64 (back:Int))) ?_ ?_
  ·intro KI XW;apply Zb;intro b3 ZH;simp[t1,E3];subst ZH;apply Zu;refine Yv (fun m s'=>s'.k=195/\s'.tm.get 0=some uv/\s'.tm.get 5=some (.int .i64 (n:Int))/\s'.tm.get 6=some (.int .u64 ((U/V:Nat):Int))/\Tp (YQ U0) H2 s'.H/\KA n0 H2 s'.H/\s'.tm.get 166=some vv/\s'.tm.get 167=some (.int .i64 (n:Int))/\ ∃(i:Nat) (L:List Nat) (back:Nat),m+i=n/\L.length=i/\YD Zd L/\back<=1/\dv Zd L+Zd^i*back=dv Zd (PA.take i)+dv Zd (vs.take i)/\Yl n0 s'.H U0 (pre++(L++PA.drop i)++post)/\s'.tm.get 21=some (.int .u64 (back:Int))/\s'.tm.get 168=some (.int .i64 (i:Int))) ?_ n _ ⟨rfl,by simp[t0],by simp[t5],by simp[hqe],kb5,WN,by simp[t1],by simp,0,[],0,by omega,rfl,.nil _,by omega,by simp[dv],by simpa using VV,by simp,by simp⟩;clear t0 t1 t5 t6 t13 t14;rintro m ⟨k,tm,H5⟩ ⟨hk,t0,t5,t6,kb,ka,t166,t167,i,L1,back,NR,aB,dL1,dq,M5,own,t21,t168⟩ Q' YF;simp only at hk t0 t5 t6 kb ka t166 t167 t21 t168 own;subst hk;apply Zb;intro b3 ZH;simp[t167,t168];subst ZH;apply Zf;intro b3 ZH;by_cases hi:i<n
   ·refine Za (t:=true) (by simp[hi]) ?_;apply Zl;subst ZH;have zx:=qs kb;have a1:ZC Tryz.prog 30 vv (.int .i64 (i:Int))=some (adr vv i):=zx.adr Zv (by omega);have hx:vs[i]<Zd:=fT.get (List.getElem?_eq_getElem (by omega));have d1:Z7 Tryz.prog H5 101 (adr vv i)=some (.int .u64 (vs[i]:Nat)):=zx.load (by omega);have a2:ZC Tryz.prog 30 uv (.int .i64 (i:Int))=some (adr U0 (j+i)):=EF _ Zv .i64 i (by omega);have zv:PA.drop i=PA[i]::PA.drop (i+1):=List.drop_eq_getElem_cons (by omega);have huB:PA[i]<Zd:=dL'.get (List.getElem?_eq_getElem (by omega));have d2:Z7 Tryz.prog H5 101 (adr U0 (j+i))=some (.int .u64 (PA[i]:Nat)):=by have:=own.segload hj (i:=i) (by simp;omega);rw[this];congr 3;rw[List.getElem_append_right (by omega)];simp[aB]
    obtain⟨x,Ni⟩:=hid (vs[i]);obtain⟨y,mK⟩:=hid (PA[i]);rw[<-Ni]at hx d1;rw[<-mK]at huB d2 zv;obtain⟨y2,hy2⟩:=hid ((y+x+back)%Zd);obtain⟨c2,N7⟩:=hid ((y+x+back)/Zd);have m4:ZY Tryz.prog Zw 203 [.int .u64 (y:Int),.int .u64 (x:Int),.int .u64 (back:Int)] H5=some (.tuple #[.int .u64 (y2:Int),.int .u64 (c2:Int)],H5):=by rw[hy2,N7];exact Qd y x back H5 dq
    have hdm:Zd*c2+y2=y+x+back:=by rw[hy2,N7];exact Nat.div_add_mod _ _
    have Q9:c2<=1:=by
     have:c2<2:=by rw[N7,Nat.div_lt_iff_lt_mul (by decide)];omega
     omega
    obtain⟨H6,sto,jd,kb6,Vg⟩:=own.segstore hj (i:=i) (by simp;omega) y2;rw[zv,WC L1 y y2 _ aB]at jd;apply Zf;intro b3 ZH;apply Zu;apply Zb;intro b4 Yt;simp[t166,t168,a1,d1];subst Yt;apply Zg;simp[t0,t21,a2,d2,m4,sto];subst ZH;apply Zg;simp[t168,Yy (x:=i) (by omega)];apply YF;refine⟨m-1,by omega,rfl,by simp[t0],by simp[t5],by simp[t6],kb.trans kb6,ka.trans Vg,by simp[t166],by simp[t167],i+1,L1++[y2],c2,by omega,by simp[aB],dL1.append (.cons (by rw[hy2];exact Nat.mod_lt _ (by decide)) (.nil _)),Q9,?_,by simpa using jd,by simp,by simp⟩;rw[Yr,aB,Xk (xs:=vs) (by omega),Xk (xs:=PA) (by omega),Yr,Yr,List.length_take,List.length_take,Nat.min_eq_left (by omega),Nat.min_eq_left (by omega),<-Ni,<-mK];simp only[dv,Nat.mul_zero,Nat.add_zero];have e1:Zd^i*(Zd*c2+y2)=Zd^i*(y+x+back):=by rw[hdm]
    rw[Nat.mul_add,<-Nat.mul_assoc (Zd^i) Zd,show Zd^i*Zd=Zd^(i+1)from rfl,Nat.mul_add,Nat.mul_add]at e1;omega
   ·refine Za (t:=false) (by simp[hi]) ?_;apply YZ;apply YF;left;obtain rfl:i=n:=by omega
    have e1:vs.take i=vs:=by rw[<-OO,List.take_length]
    rw[e1,<-hV]at M5;exact⟨rfl,XW _ ⟨rfl,by simp[t0],by simp[t5],by simp[t6],kb,ka,L1,back,aB,dL1,dq,M5,own,by simp[t21]⟩⟩
  clear t0 t1 t5 t6 t13 t14;rintro⟨k,tm,H5⟩ ⟨hk,t0,t5,t6,kb,ka,L2,back,Kx,dL2,dq,M5,own,t21⟩;simp only at hk t0 t5 t6 kb ka own t21;subst hk;have yp:PA.drop n=[y']:=by rw[sJ,<-hL];simp
  rw[yp]at own;have d3:Z7 Tryz.prog H5 101 (adr U0 (j+n))=some (.int .u64 (y':Int)):=by have:=own.segload hj (i:=n) (by simp;omega);rw[this,N4 L2 y' [] Kx]
  obtain⟨z,hz⟩:=hid ((y'+back)%Zd);obtain⟨t,ht⟩:=hid ((y'+back)/Zd);have hzt:Zd*t+z=y'+back:=by rw[hz,ht];exact Nat.div_add_mod _ _
  have Be:z<Zd:=by rw[hz];exact Nat.mod_lt _ (by decide)
  have ma:Zc .add .u64 (y':Int) (back:Int)=some (.int .u64 (z:Int)):=by rw[Ts,hz]
  obtain⟨H6,sto6,jd,kb6,Vg⟩:=own.segstore hj (i:=n) (by simp;omega) z;rw[WC L2 y' z [] Kx]at jd;have dz:YD Zd (L2++[z]):=dL2.append (.cons Be (.nil _));have fin:dv Zd (L2++[z])=U%V:=by
   have C7:dv Zd (L2++[z])<Zd^(n+1):=by have:=Ws dz;simpa[Kx]using this
   have hus2:dv Zd PA=dv Zd (PA.take n)+Zd^n*y':=by have:=congrArg (dv Zd) seg1;rw[yp,Yr,List.length_take,Nat.min_eq_left (by omega)]at this;rw[<-this];simp[dv]
   have e0:dv Zd (L2++[z])=dv Zd L2+Zd^n*z:=by rw[Yr,Kx];simp[dv]
   have e1:Zd^n*(Zd*t+z)=Zd^n*(y'+back):=by rw[hzt]
   rw[Nat.mul_add,<-Nat.mul_assoc (Zd^n) Zd,show Zd^n*Zd=Zd^(n+1)from rfl,Nat.mul_add]at e1;have ht1:t<=1:=by
    have:t<2:=by rw[ht,Nat.div_lt_iff_lt_mul (by decide)];omega
    omega
   have hm:U%V<Zd^(n+1):=Nat.lt_of_le_of_lt (Nat.mod_le _ _) yf;have EH:U%V<V:=Nat.mod_lt _ Vpos;rcases Nat.lt_or_ge t 1 with h0|h0
   ·exfalso;obtain rfl:t=0:=by omega
    rw[Nat.mul_zero]at e1;omega
   ·obtain rfl:t=1:=by omega
    rw[Nat.mul_one]at e1;omega
  apply Zg;simp[t0,t5,t21,an,d3,ma,sto6];subst MA;apply Zf;intro b1 MA;apply Zg;simp[t6];subst MA;apply Zq;simp;exact⟨kb.trans kb6,ka.trans Vg,L2++[z],by simp[Kx],dz,fin,by simpa using jd⟩
theorem Zh.top{H0 H:AH}(k:Zh H0 H):Zh H0 H.top:=⟨k.n,by have:=k.n;show min H0.lw H0.n<=H.n;omega,k.blk⟩
theorem Uj(H:AH):Zh H H.top:=(Zh.refl H).top
theorem Sl.top{H:AH}{v:Value}{xs:List Nat}(h:Sl H v xs):Sl H.top v xs:=h.keep (Uj H)
theorem Yl.top{n:Nat}{H:AH}{v:Value}{xs:List Nat}(h:Yl n H v xs):Yl n H.top v xs:=h.mono (Nat.le_refl _) (Uj H)
theorem ZN{H:AH}{bits:Nat}{ms:List (Nat×Nat×Nat)}(h:hidden bits ms=[]):P0 H bits ms=H.top:=by unfold P0;rw[h];rfl
theorem Pk(t:Tr MV)(H2:AH)(n:Nat): ∀(k j:Nat),(NN t H2 n k).get j=if n<=j/\j<n+k then some (H2.blk j)else t.get j
 |0,j=>by rw[if_neg (by omega)];rfl
 |k+1,j=>by
  simp only[NN,Tr.get_set];by_cases e:j=n+k;·subst e;rw[if_pos rfl,if_pos (by omega)]
  ·rw[if_neg e,Pk t H2 n k j];by_cases c:n<=j/\j<n+k;·rw[if_pos c,if_pos (by omega)]
   ·rw[if_neg c,if_neg (by omega)]
theorem Yo{H H2:AH}(k:Zh H.top H2):Tp none H2 (grown H H2):=by
 refine⟨rfl,fun j hj _=>?_⟩;unfold AH.blk grown;simp only[Pk];by_cases c:H.n<=j;·have:=k.n;have:H.n<=H2.n:=this;rw[if_pos (by omega)];rfl
 ·rw[if_neg (by omega)];exact(k.blk j (by show j<H.n;omega)).symm
theorem Yc{H0 H H2:AH}(k0:Zh H0 H)(k:Zh H.top H2):Zh H0 (grown H H2):=by
 refine⟨Nat.le_trans k0.n k.n,k0.lw,fun j hj=>?_⟩;have hn:=k0.n;have:j<H.n:=by omega
 unfold grown AH.blk;simp only[Pk];rw[if_neg (by omega)];exact k0.blk j hj
theorem YM{H H2:AH}(k:Zh H.top H2):H.n<=H2.lw:=by have:=k.lw;have:min H.n H.n<=H2.lw:=this;omega
theorem Mh(H H2:AH):Tp none H2 (low H H2):=⟨rfl,fun j _ _=>rfl⟩
theorem iI{n0:Nat}{H H2:AH}(h:KA n0 H.top H2):KA n0 H (low H H2):=fun H0 k hn=>by have k2:=h H0 k.top hn;refine⟨k2.n,?_,k2.blk⟩;have:=k.lw;have:=k2.lw;show min H0.lw H0.n<=min H.lw H2.lw;omega
theorem Tp.none{b:Option Nat}{H H' H2:AH}(k:Tp b H H')(k2:Tp none H' H2):Tp b H H2:=⟨k2.n.trans k.n,fun j hn hj=>(k2.blk j (by rw[k.n];exact hn) (fun e=>by cases e)).trans (k.blk j hn hj)⟩
theorem Sl.same{H H':AH}{v:Value}{xs:List Nat}(h:Sl H v xs)(k:Tp none H H'):Sl H' v xs:=h.but k fun c e=>by cases e
theorem Yl.same{n:Nat}{H H':AH}{v:Value}{xs:List Nat}(h:Yl n H v xs)(k:Tp none H H'):Yl n H' v xs:=h.but k fun c e=>by cases e
theorem Yl.gr{H I J:AH}{v:Value}{xs:List Nat}(x:Yl H.top.n I v xs)(k:Zh H.top I)(hJ:J=grown H I):Yl H.n J v xs:=by subst hJ;exact x.same (Yo k)
theorem cg{H I:AH}(k:Zh H.top I): ∃J,J=grown H I/\Zh H J/\H.n<=I.n:=⟨_,rfl,Yc (.refl _) k,k.n⟩
theorem Tp.top{b:Option Nat}{H H':AH}(k:Tp b H.top H'):Tp b H H':=⟨k.n,k.blk⟩
theorem Yl.store_lw{n:Nat}{H H':AH}{v:Value}{xs:List Nat}(h:Yl n H v xs){i:Nat}(hi:i<xs.length){y:Nat}(st:YX Tryz.prog H.top 101 (adr v i) (.int .u64 (y:Int))=some H'):H'.lw<H.n:=by cases h with
 |nil=>cases hi
 |mk b o cap xs cs h1 h2 h3 h4 h5 h6=>unfold YX adr at st;simp only[Mz]at st;have h4':H.top.blk b= .rw 1 cs:=h4;rw[show Nat.beq (Value.int .u64 (y:Int)).cells.size 1=true from rfl,cond_true,AH.write_def,h4']at st;simp only at st;cases hc:(Nat.ble (o+i+(Value.int .u64 (y:Int)).cells.toList.length) cs.length&&(Value.int .u64 (y:Int)).cells.toList.all one)with|false=>rw[hc]at st;cases st|true=>rw[hc,cond_true]at st;cases st;show min H.n b<H.n;omega
theorem Yl.putTop{n:Nat}{H:AH}{v:Value}{xs:List Nat}(h:Yl n H v xs){i:Nat}(hi:i<xs.length)(y:Nat): ∃H2,YX Tryz.prog H.top 101 (adr v i) (.int .u64 (y:Int))=some H2/\H2.n=H.n/\H2.lw<H.n/\Yl n (low H H2) v (xs.set i y)/\Tp (YQ v) H (low H H2)/\KA n H (low H H2):=by obtain⟨H2,h1,h2,h3,h4,h5⟩:=h.top.put hi y;exact⟨H2,h1,h3,h.store_lw hi h1,h2.same (Mh H H2),(Tp.none (b:=YQ v) (H:=H) (H':=H2) ⟨h3,fun j _ hj=>h4 j hj⟩ (Mh H H2)),iI h5⟩
theorem HW(t:Tr MV): ∀(hs:List Nat)(j:Nat),j∉hs->(Tb t hs).get j=t.get j|[],j,_=>rfl|i::r,j,h=>by simp only[Tb,Tr.get_set];rw[if_neg (by intro e;subst e;exact h (List.mem_cons_self ..))];exact HW t r j (fun h'=>h (List.mem_cons_of_mem _ h'))
theorem HY{n bits:Nat} : ∀{ms:List (Nat×Nat×Nat)},(∀x∈ms,n<=x.2.1)-> ∀i∈hidden bits ms,n<=i
 |[],_,i,h=>by cases h
 |(k,lo,hi)::r,hm,i,h=>by have ih:=HY (bits:=bits) (ms:=r) (fun x hx=>hm x (List.mem_cons_of_mem _ hx)) i;have h0:n<=lo:=hm (k,lo,hi) (List.mem_cons_self ..);unfold hidden at h;cases hb:bits.testBit k with
  |true=>rw[hb,cond_true]at h;exact ih h
  |false=>
   rw[hb,cond_false]at h;rcases List.mem_append.mp h with h|h;·obtain⟨a,_,rfl⟩:=List.mem_map.mp h;omega
   ·exact ih h
theorem Xp{H0 H:AH}{bits:Nat}{ms:List (Nat×Nat×Nat)}(k:Zh H0 H)(h: ∀x∈ms,H0.n<=x.2.1):Zh H0 (P0 H bits ms):=by have k2:=k.top;refine⟨k2.n,k2.lw,fun j hj=>?_⟩;rw[<-k.blk j hj];unfold P0 AH.blk;simp only;rw[HW];intro hm;have:=HY h j hm;omega
theorem l9{n:Nat}(h:n<=64):U9 Tryz.prog 3 228 (.int .i64 (64-(n:Int)))=some (.int .u64 ((64-n:Nat):Int)):=by have:=OS (n:=64-n) (by show _<18446744073709551616;omega);rw[<-this];congr 2;omega
theorem eG{x:Nat}(hx:x<Zd):Zn x<=64:=by
 rcases Nat.lt_or_ge 64 (Zn x)with h|h
 ·have h0:x≠0:=by rintro rfl;simp[Zn]at h
  have a:=W7 h0;have b:2^64<=2^(Zn x-1):=Nat.pow_le_pow_right (by decide) (by omega);have hx:x<18446744073709551616:=hx;omega
 ·exact h
theorem UI(xs:List Nat)(j:Nat)(h:j<=xs.length):dv Zd xs=dv Zd (xs.take j)+Zd^j*dv Zd (xs.drop j):=by have:=congrArg (dv Zd) (List.take_append_drop j xs);rw[Yr,List.length_take,Nat.min_eq_left h]at this;exact this.symm
theorem JM{xs:List Nat}(dx:YD Zd xs)(tx:YS xs=xs)(h:0<xs.length):0<xs[xs.length-1]:=by
 rcases Nat.eq_zero_or_pos (xs[xs.length-1])with h0|h0
 ·exfalso;have hs:=QN (n:=xs.length-1) (xs:=xs) (by omega);have e:xs=xs.take (xs.length-1)++[0]:=by rw[h0]at hs;exact hs
  have:=congrArg YS e;rw[VB,tx]at this;have:=congrArg List.length this;have:=XJ (xs.take (xs.length-1));rw[List.length_take]at this;omega
 ·exact h0
theorem HN{xs:List Nat}(dx:YD Zd xs)(tx:YS xs=xs)(h:0<xs.length):Zd^(xs.length-1)<=dv Zd xs:=by rw[UI xs (xs.length-1) (by omega),List.drop_eq_getElem_cons (by omega),List.drop_eq_nil_of_le (by omega)];have:=JM dx tx h;simp only[dv,Nat.mul_zero,Nat.add_zero];have:Zd^(xs.length-1)*1<=Zd^(xs.length-1)*xs[xs.length-1]:=Nat.mul_le_mul_left _ (by omega);omega
theorem bL{xs:List Nat}(dx:YD Zd xs)(tx:YS xs=xs):xs=ds Zd (dv Zd xs):=by rw[<-Xl Z9 dx,tx]
theorem cM{ys:List Nat}(dy:YD Zd ys)(ty:YS ys=ys){n:Nat}(hn:ys.length=n)(h2:0<n){s:Nat}(hs:s=64-Zn (ys[n-1]'(by omega))):s<64/\dv Zd ys*2^s<Zd^n:=by
 subst hn;have h0:=JM dy ty (by omega);have hB:=dy.get (List.getElem?_eq_getElem (show ys.length-1<ys.length by omega));have mw:=eG hB;have hbl0:0<Zn (ys[ys.length-1]):=by unfold Zn;rw[if_neg (by omega)];omega
 refine⟨by omega,?_⟩;have YR:=WG (ys[ys.length-1]);have e:=UI ys (ys.length-1) (by omega);rw[List.drop_eq_getElem_cons (by omega),List.drop_eq_nil_of_le (by omega)]at e;simp only[dv,Nat.mul_zero,Nat.add_zero]at e;have hl:=Ws (dy.take (ys.length-1));rw[List.length_take,Nat.min_eq_left (by omega)]at hl;generalize ys[ys.length-1]=y at*;have h1:dv Zd ys<Zd^(ys.length-1)*2^Zn y:=by have:Zd^(ys.length-1)*(y+1)<=Zd^(ys.length-1)*2^Zn y:=Nat.mul_le_mul_left _ YR;rw[Nat.mul_succ]at this;omega
 have h3:dv Zd ys*2^s<Zd^(ys.length-1)*2^Zn y*2^s:=Nat.mul_lt_mul_of_pos_right h1 (Nat.two_pow_pos s);have h4:Zd^(ys.length-1)*2^Zn y*2^s=Zd^ys.length:=by rw[Nat.mul_assoc,<-Nat.pow_add,hs,show Zn y+(64-Zn y)=64 by omega];obtain⟨m,hm⟩: ∃m,ys.length=m+1:=⟨ys.length-1,by omega⟩;rw[hm,Nat.add_sub_cancel,show(2:Nat)^64=Zd by decide];rfl
 rwa[h4]at h3
def NQ(n0:Nat)(H:AH)(A B:Nat)(v:Value)(H':AH):Prop:=Zh H H'/\ ∃q r,v= .tuple #[q,r]/\Yl H.n H' q (ds Zd (A/B))/\Yl n0 H' r (ds Zd (A%B))/\Wq q r
theorem Uy{n m:Nat}{H H':AH}{v w:Value}{xs ys:List Nat}(a:Yl n H v xs)(b:Yl m H' w ys)(h:H.n<=m):Wq v w:=fun c hc OQ=>by have:=(a.blk_lo hc).2;have:=(b.blk_lo OQ).1;omega
theorem Kr{a b:Nat} :(XS a b<0)↔a<b:=by
 unfold XS;split;·simp;assumption
 ·split<;>simp<;>omega
theorem nf{a:Int} :Zc .lss .i64 a 0=some (.bool (decide (a<0))):=rfl
def ui:Code->Code| .seq _ b=>b|c=>c
def K9:Code:=ui (ui (ui (Tryz.f193.body.getD .skip)))
theorem CS{n0:Nat}{H:AH}{va vb:Value}{xs ys:List Nat}(ha:Yl n0 H va xs)(hb:Sl H vb ys)(RC:n0<=H.n)(dx:YD Zd xs)(dy:YD Zd ys)(tx:YS xs=xs)(ty:YS ys=ys)(lx:xs.length<=17592186040000)(ly:ys.length<=17592186040000)(hy:0<ys.length)(rest: ∀tm:Tr Value,tm.get 0=some va->tm.get 1=some vb->2<=ys.length->dv Zd ys<=dv Zd xs->W Tryz.prog Zw K9 ⟨104,tm,H⟩ fun ex s=>(ex= .norm\/ex= .ret)/\ ∃vs,ZZ Tryz.prog s Tryz.f193.results.toList=some vs/\NQ n0 H (dv Zd xs) (dv Zd ys) (Yb vs) s.H):CW Tryz.prog Zw 193 [va,vb] H (NQ n0 H (dv Zd xs) (dv Zd ys)):=by
 refine Z8 104 Tryz.func193 ?_;obtain⟨v1,H1,Q9,e1,e2⟩:=UJ ha.sl hb dx dy (by omega) (by omega);subst e1;subst e2;have Bpos:0<dv Zd ys:=Nat.lt_of_lt_of_le (Nat.pow_pos (by decide)) (HN dy ty hy);have iQ:=hb.len Zv;have iR:=ha.sl.len Zv;apply Zb;intro b1 Ze;simp;subst Ze;apply Zf;intro b1 Ze;apply Zb;intro b2 Zp;simp[Q9,nf,Kr];subst Zp;by_cases YR:dv Zd xs<dv Zd ys
 ·refine Za (t:=true) (by simp[YR]) ?_;apply Zb;intro b2 Zp;simp;subst Zp;apply Zq;simp[Ys];refine⟨.refl H1,_,_,rfl,?_,?_,fun c hc=>by cases hc⟩;·rw[Nat.div_eq_of_lt YR,XT];exact .nil
  ·rw[Nat.mod_eq_of_lt YR,<-bL dx tx];exact ha
 ·refine Za (t:=false) (by simp[YR]) ?_;apply Zl;subst Ze;apply Zf;intro b1 Ze;apply Zb;intro b2 Zp;simp[iQ];subst Zp;by_cases h1:ys.length=1
  ·refine Za (t:=true) (by simp[h1]) ?_;obtain⟨y,rfl⟩: ∃y,ys=[y]:=by match ys,h1 with|[y],_=>exact⟨y,rfl⟩
   have bk:y<Zd:=dy.head;have eB:dv Zd [y]=y:=by simp[dv]
   rw[eB]at Bpos YR⊢;obtain⟨q0,H2,Qt,k2,o2,n2⟩:=YH (H:=H1) Zv (n:=xs.length) (by omega);have KY:0<xs.length:=by
    rcases Nat.eq_zero_or_pos xs.length with h|h;·exfalso;have:xs=[]:=List.length_eq_zero_iff.mp h;subst this;exact YR Bpos
    ·exact h
   have w1:Zc .sub .i64 (xs.length:Int) 1=some (.int .i64 ((xs.length:Int)-1)):=by rw[Um (by omega) KY];congr 2;omega
   apply Zb;intro b2 Zp;simp[iR,Qt];subst Zp;refine Y6 (fun s'=>s'.k=104/\Zh H1 s'.H/\ ∃(L:List Nat) (r:Nat),L.length=xs.length/\YD Zd L/\r<y/\dv Zd xs=y*dv Zd L+r/\Yl H1.n s'.H q0 L/\s'.tm.get 6=some q0/\s'.tm.get 7=some (.int .u64 (r:Int))) ?_ ?_
   ·intro KI XW;apply Zb;intro b2 Zp;simp[iR,w1];subst Zp;apply Zu;refine Yv (fun m s'=>s'.k=104/\Zh H1 s'.H/\m<=xs.length/\ ∃(L:List Nat) (r:Nat),L.length+m=xs.length/\YD Zd L/\r<y/\dv Zd (xs.drop m)=y*dv Zd L+r/\Yl H1.n s'.H q0 (List.replicate m 0++L)/\s'.tm.get 0=some va/\s'.tm.get 1=some vb/\s'.tm.get 6=some q0/\s'.tm.get 7=some (.int .u64 (r:Int))/\s'.tm.get 8=some (.int .i64 ((m:Int)-1))) ?_ xs.length _ ⟨rfl,k2,Nat.le_refl _,[],0,by simp,.nil _,Bpos,by simp[dv],by simpa using o2,by simp,by simp,by simp,by simp,by simp⟩;rintro m ⟨k,tm,H3⟩ ⟨hk,k3,hm,L,r,hL,dL,hr,heq,own,t0,t1,t6,t7,t8⟩ Q' YF;simp only at hk k3 own t0 t1 t6 t7 t8;subst hk;apply Zf;intro b3 ZH;apply Zb;intro b4 Yt;have SM:Zc .geq .i64 ((m:Int)-1) 0=some (.bool (decide (0<m))):=by show some (Value.bool (decide ((m:Int)-1≥0)))=_;congr 2;apply decide_eq_decide.mpr;omega
    simp[t8,SM];subst Yt;by_cases M6:m=0;·subst M6;refine Za (t:=false) (by simp) ?_;apply YZ;apply YF;left;exact⟨rfl,XW _ ⟨rfl,k3,L,r,by omega,dL,hr,by simpa using heq,by simpa using own,by simp[t6],by simp[t7]⟩⟩
    ·refine Za (t:=true) (by simp;omega) ?_;apply Zl;subst ZH;have em:(m:Int)-1=((m-1:Nat):Int):=by omega
     rw[em]at t8;have hi:m-1<xs.length:=by omega
     have sa:=(ha.sl.keep k3);have sb:=(hb.keep k3);have a1:=sa.adr Zv (k:= .i64) hi;have d1:=sa.top.load hi;have a2:ZC Tryz.prog 30 vb (.int .i64 0)=some (adr vb 0):=sb.adr Zv (k:= .i64) (i:=0) (by simp);have d2:Z7 Tryz.prog H3.top 101 (adr vb 0)=some (.int .u64 (y:Int)):=sb.top.load (i:=0) (by simp);have Cp:xs[m-1]<Zd:=dx.get (List.getElem?_eq_getElem hi);obtain⟨x,Ni⟩:=hid (xs[m-1]);rw[<-Ni]at d1 Cp;have dc:=O7 hr Cp bk H3.top;obtain⟨q,hq⟩:=hid ((r*Zd+x)/y);obtain⟨r',mN⟩: ∃r',r'=(r*Zd+x)%y:=⟨_,rfl⟩;rw[<-hq,<-mN]at dc;have a3:=own.sl.adr Zv (k:= .i64) (i:=m-1) (by simp;omega);obtain⟨H4,W4,n4,lw4,VV,ry,zJ⟩:=own.putTop (i:=m-1) (by simp;omega) q;have AY:xs.drop (m-1)=x::xs.drop m:=by rw[List.drop_eq_getElem_cons hi,show m-1+1=m by omega,<-Ni]
     apply Zf;intro b3 ZH;apply Zu;apply wU (by kernel_rfl);simp[t0,t1,t6,t7,t8,a1,a2,d1,d2,dc,a3,W4,n4,lw4,ZV];subst ZH;have w2:Zc .sub .i64 ((m-1:Nat):Int) 1=some (.int .i64 (((m-1:Nat):Int)-1)):=by show some (Value.int .i64 (IntKind.i64.wrap (((m-1:Nat):Int)-1)))=_;congr 2;rw[IntKind.wrap_i64];omega
     apply Zg;simp[t8,w2];apply YF;refine⟨m-1,by omega,rfl,zJ H1 k3 (Nat.le_refl _),by show m-1<=_;omega,q::L,r',by simp;omega,.cons ?_ dL,?_,?_,?_,by simp[t0],by simp[t1],by simp[t6],by simp,by simp⟩;·rw[hq,Nat.div_lt_iff_lt_mul Bpos];have:(r+1)*Zd<=y*Zd:=Nat.mul_le_mul_right _ hr;rw[Nat.succ_mul]at this;rw[Nat.mul_comm Zd y];omega
     ·rw[mN];exact Nat.mod_lt _ Bpos
     ·rw[AY];simp only[dv];rw[heq];have e:=Nat.div_add_mod (r*Zd+x) y;rw[<-hq,<-mN]at e;rw[Nat.mul_add,Nat.mul_add,<-Nat.mul_assoc,Nat.mul_comm Zd y,Nat.mul_assoc];rw[Nat.mul_comm r Zd]at e;omega
     ·have ie:List.replicate m 0++L=List.replicate (m-1) 0++0::L:=by obtain⟨m',rfl⟩: ∃m',m=m'+1:=⟨m-1,by omega⟩;rw[List.replicate_succ'];simp
      rw[ie,WC _ _ _ _ (by simp)]at VV;exact VV
   rintro⟨k,tm,H3⟩ ⟨hk,k3,L,r,hL,dL,hr,heq,own,t6,t7⟩;simp only at hk k3 own t6 t7;subst hk;obtain⟨v4,H4,pC,k4,o4⟩:=Vz own.sl (by omega);obtain⟨v5,H5,Kg,k5,o5⟩:=Tl (x:=r) (H:=H4) (by omega);apply Zb;intro b hb;simp[t6,t7,pC,Kg];subst hb;apply Zq;simp[Ys];have hdiv:dv Zd xs/y=dv Zd L:=by rw[heq,Nat.mul_add_div Bpos,Nat.div_eq_of_lt hr,Nat.add_zero]
   have EH:dv Zd xs%y=r:=by rw[heq,Nat.mul_add_mod,Nat.mod_eq_of_lt hr]
   rw[Xl Z9 dL]at o4;refine⟨(k3.trans k4).trans k5,v4,v5,rfl,?_,?_,Uy o4 o5 (Nat.le_refl _)⟩;·rw[hdiv];exact o4.mono k3.n k5
   ·rw[EH];exact o5.mono (Nat.le_trans RC (k3.trans k4).n) (.refl H5)
  ·refine Za (t:=false) (by simp;omega) ?_;apply Zl;subst Ze;exact rest _ (by simp) (by simp) (by omega) (Nat.le_of_not_lt YR)
theorem Yl.n_lt{n:Nat}{H:AH}{v:Value}{xs:List Nat}(h:Yl n H v xs)(h0:0<xs.length):n<H.n:=by cases h with|nil=>cases h0|mk b o cap xs cs h1 h2 h3 h4 h5 h6=>omega
theorem fe{a b:Nat}(h:a<b):Nat.blt a b=true:=by rw[Nat.blt_eq];exact h
theorem Yq{bits:Nat} : ∀{ms:List (Nat×Nat×Nat)},(∀x∈ms,bits.testBit x.1=true)->hidden bits ms=[]|[],_=>rfl|(k,lo,hi)::r,h=>by have h1:bits.testBit k=true:=h (k,lo,hi) (List.mem_cons_self ..);unfold hidden;rw[h1,cond_true];exact Yq fun x hx=>h x (List.mem_cons_of_mem _ hx)
def cutTo(v:Value)(m:Nat):Value:=match v with| .slice a _ c=> .slice a m c|v=>v
theorem Sl.cutTo{H:AH}{v:Value}{xs:List Nat}(h:Sl H v xs){t:TypeId}(ht:LT t){m:Nat}(hm:m<=xs.length)(h0:0<xs.length):Vu Tryz.prog H t v none (some (.int .i64 (m:Int))) none=some (cutTo v m)/\Sl H (Go.Proofs.YtmkfecoeghokfaaGreatDoor.cutTo v m) (xs.take m):=by cases h with
 |nil=>cases h0
 |emp b=>cases h0
 |mk b o cap xs h1 h2=>
  have hl:(xs.take m).length=m:=by rw[List.length_take];omega
  obtain⟨mi,cs,h3,h4,h5⟩:=h2;have hs:Sl H (.slice (some ⟨b,o,none⟩) (xs.take m).length cap) (xs.take m):= .mk b o cap _ (by omega) ⟨mi,cs,h3,h4,fun i x hx=>h5.1 i x (by
   rw[List.getElem?_take]at hx;split at hx;·exact hx
   ·cases hx),h5.2⟩;rw[hl]at hs;refine⟨?_,hs⟩;unfold Vu;simp only[ht.1,Mz];unfold Il Xo;simp only[h4,Option.isSome_some,Option.isNone_none,Bool.true_or];rw[if_pos (by omega)];have e1:Nat.ble m cap=true:=Nat.ble_eq.mpr (by omega);simp[Xo,e1,Go.Proofs.YtmkfecoeghokfaaGreatDoor.cutTo]
theorem Bp{X vs:List Nat}{j n:Nat}(dX:YD Zd X)(hj:j+n+1<=X.length)(fT:YD Zd vs)(OO:vs.length=n)(YR:dv Zd (X.drop (j+1))<dv Zd vs):dv Zd ((X.drop j).take (n+1))=dv Zd (X.drop j)/\dv Zd ((X.drop j).take (n+1))<dv Zd vs*Zd/\dv Zd (X.drop (j+n+1))=0:=by
 have hV:=Ws fT;rw[OO]at hV;have e1:dv Zd (X.drop (j+1))=dv Zd ((X.drop (j+1)).take n)+Zd^n*dv Zd ((X.drop (j+1)).drop n):=UI _ n (by rw[List.length_drop];omega);have z:dv Zd ((X.drop (j+1)).drop n)=0:=by
  rcases Nat.eq_zero_or_pos (dv Zd ((X.drop (j+1)).drop n))with h|h;·exact h
  ·exfalso;have:Zd^n*1<=Zd^n*dv Zd ((X.drop (j+1)).drop n):=Nat.mul_le_mul_left _ h;omega
 rw[List.drop_drop]at z;have z':dv Zd (X.drop (j+n+1))=0:=by rw[show j+n+1=j+1+n by omega];exact z
 have e2:=UI (X.drop j) (n+1) (by rw[List.length_drop];omega);rw[List.drop_drop,show j+(n+1)=j+n+1 by omega,z',Nat.mul_zero,Nat.add_zero]at e2;refine⟨e2.symm,?_,z'⟩;rw[<-e2,List.drop_eq_getElem_cons (by omega)];have hx:X[j]<Zd:=dX.get (List.getElem?_eq_getElem (by omega));have:(dv Zd (X.drop (j+1))+1)*Zd<=dv Zd vs*Zd:=Nat.mul_le_mul_right _ YR;rw[Nat.succ_mul]at this;simp only[dv];rw[Nat.mul_comm Zd];omega
theorem Eb{n0:Nat}{H:AH}{va vb:Value}{xs ys:List Nat}(ha:Yl n0 H va xs)(hb:Sl H vb ys)(RC:n0<=H.n)(dx:YD Zd xs)(dy:YD Zd ys)(tx:YS xs=xs)(ty:YS ys=ys)(lx:xs.length<=17592186040000)(ly:ys.length<=17592186040000)(tm:Tr Value)(t0:tm.get 0=some va)(t1:tm.get 1=some vb)(h2:2<=ys.length)(SM:dv Zd ys<=dv Zd xs):W Tryz.prog Zw K9 ⟨104,tm,H⟩ fun ex s=>(ex= .norm\/ex= .ret)/\ ∃vs,ZZ Tryz.prog s Tryz.f193.results.toList=some vs/\NQ n0 H (dv Zd xs) (dv Zd ys) (Yb vs) s.H:=by
 obtain⟨n,hn⟩:=hid (ys.length);have hn2:2<=n:=by omega
 have vT:n<=xs.length:=by
  rcases Nat.lt_or_ge xs.length n with h|h;·have:=MH tx ty dx dy (by omega);omega
  ·exact h
 have iQ:=hb.len Zv;have iR:=ha.sl.len Zv;rw[<-hn]at iQ;have s1:Zc .sub .i64 (n:Int) 1=some (.int .i64 ((n-1:Nat):Int)):=Um (by omega) (by omega);have a1:=hb.adr Zv (k:= .i64) (i:=n-1) (by omega);have d1:=hb.load (i:=n-1) (by omega);obtain⟨y,hy⟩:=hid (ys[n-1]'(by omega));rw[<-hy]at d1;have bk:y<Zd:=by rw[hy];exact dy.get (List.getElem?_eq_getElem (by omega))
 obtain⟨s,hs⟩:=hid (64-Zn y);have Rc:=cM dy ty hn.symm (by omega) (s:=s) (by rw[hs,hy]);obtain⟨gh,hVlt⟩:=Rc;have hlz:ZY Tryz.prog Zw 216 [.int .u64 (y:Int)] H=some (.int .i64 (64-(Zn y:Int)),H):=by obtain⟨v,H',h,rfl,rfl⟩:=A1 bk (H:=H);exact h
 have hcv:=l9 (eG bk);rw[<-hs]at hcv;have bb:=HN dy ty (by omega);rw[<-hn]at bb;show W _ _ (.seq (.region 10 _ _) _) _ _;apply Zb;intro b Ze;simp[t1,iQ,s1,a1,d1,hlz,hcv];subst Ze;obtain⟨u0,H2,hu,ku,we,ou,du,lu,vu⟩:=aq (H:=H.top) ha.sl.top dx (by omega) gh;have ou1:Yl H.n (grown H H2) u0 we:=ou.same (Yo ku);have k1:Zh H (grown H H2):=Yc (.refl H) ku;have n1:H.n<H2.n:=ou.n_lt (by omega);obtain⟨G1,UO⟩:=hid (grown H H2);have dS:G1.n=H2.n:=by rw[UO];rfl
 rw[<-UO]at ou1 k1;obtain⟨w0,H3,hw,kw,oG,ow,dw,lw,vw⟩:=aq (H:=G1.top) (hb.keep k1).top dy (by omega) gh;have ow1:Yl G1.n (grown G1 H3) w0 oG:=ow.same (Yo kw);have k2:Zh G1 (grown G1 H3):=Yc (.refl G1) kw;have n2:G1.n<H3.n:=ow.n_lt (by omega);obtain⟨G2,Kf⟩:=hid (grown G1 H3);have nG2:G2.n=H3.n:=by rw[Kf];rfl
 rw[<-Kf]at ow1 k2;obtain⟨wv,zn,ow2⟩:=ow1.top.cut Zv (m:=n) (by omega) (by omega);have ow3:Yl G1.n G2 wv (oG.take n):=ow2.same ⟨rfl,fun _ _ _=>rfl⟩;apply Zf;intro b Ze;apply YI (by kernel_rfl);simp[t0,t1];refine YW (v:=u0) (H2:=H2) rfl rfl rfl (by rw[ZN rfl];simp[t0,hu]) (by omega) (YM ku) ?_;simp[t1,fe n1,<-UO];refine YW (v:=w0) (H2:=H3) rfl rfl rfl (by rw[ZN (by kernel_rfl)];simp[t1,hw]) (by omega) (YM kw) ?_;simp[t1,fe n2,<-Kf,iQ];refine ZK (v:=wv) rfl rfl rfl (by rw[ZN (by kernel_rfl)];simp[zn]) ?_;simp;subst Ze;obtain⟨vs,OO⟩:=hid (oG.take n);rw[<-OO]at ow3;have jI:vs.length=n:=by rw[OO,List.length_take];omega
 have fT:YD Zd vs:=by rw[OO];exact dw.take n
 have xr:dv Zd vs=dv Zd ys*2^s:=by
  have e:=UI oG n (by omega);rw[vw,<-OO]at e;have:dv Zd (oG.drop n)=0:=by
   rcases Nat.eq_zero_or_pos (dv Zd (oG.drop n))with h|h;·exact h
   ·exfalso;have:Zd^n*1<=Zd^n*dv Zd (oG.drop n):=Nat.mul_le_mul_left _ h;omega
  rw[this]at e;omega
 have Bpos:0<dv Zd ys:=Nat.lt_of_lt_of_le (Nat.pow_pos (by decide)) bb;have og:=Nat.two_pow_pos s;have Vge:Zd^(n-1)<=dv Zd vs:=by rw[xr];exact Nat.le_trans bb (Nat.le_mul_of_pos_right _ og)
 have Vpos:0<dv Zd vs:=Nat.lt_of_lt_of_le (Nat.pow_pos (by decide)) Vge;have Vlt:dv Zd vs<Zd^n:=by rw[xr];exact hVlt
 have vtop:0<vs[n-1]'(by omega):=by
  rcases Nat.eq_zero_or_pos (vs[n-1]'(by omega))with h|h;·exfalso;have e:=UI vs (n-1) (by omega);rw[List.drop_eq_getElem_cons (by omega),List.drop_eq_nil_of_le (by omega),h]at e;have hl:=Ws (fT.take (n-1));rw[List.length_take,Nat.min_eq_left (by omega)]at hl;simp[dv]at e;omega
  ·exact h
 have JZ:=k1.trans k2;have ou2:Yl H.n G2 u0 we:=ou1.m k2;have wJ:Wq u0 wv:=Uy ou1 ow3 (Nat.le_refl _);have E3:=ow3.sl.len Zv;rw[jI]at E3;obtain⟨M,hM⟩:=hid (xs.length-n+1);have s2:Zc .sub .i64 (xs.length:Int) (n:Int)=some (.int .i64 ((xs.length-n:Nat):Int)):=Oq (by omega) vT;have s3:Zc .add .i64 ((xs.length-n:Nat):Int) 1=some (.int .i64 (M:Int)):=by rw[hM];exact Yy (by omega)
 have s4:((xs.length-n:Nat):Int)=(M:Int)-1:=by omega
 obtain⟨q0,H4,Qt,kq,oq,nq⟩:=YH (H:=G2) Zv (n:=M) (by omega);have wK:Wq u0 q0:=Uy ou2 oq (Nat.le_refl _);apply Zb;intro b Ze;simp[E3];subst Ze;apply Zb;intro b Ze;simp[t0,iR,s2,s3,Qt];subst Ze;refine Y6 (fun s'=>s'.k=104/\Zh H s'.H/\ ∃(X L:List Nat),X.length=xs.length+1/\YD Zd X/\L.length=M/\YD Zd L/\dv Zd X+dv Zd vs*dv Zd L=dv Zd xs*2^s/\dv Zd X<dv Zd vs/\Yl H.n s'.H u0 X/\Yl G2.n s'.H q0 L/\s'.tm.get 9=some (.int .u64 (s:Int))/\s'.tm.get 10=some u0/\s'.tm.get 12=some (.int .i64 (n:Int))/\s'.tm.get 13=some q0) ?_ ?_
 ·intro KI XW;apply Zb;intro b2 Zp;simp[t0,iR,s2];subst Zp;apply Zu;have start:dv Zd (we.drop M)<dv Zd vs:=by
   have e:=UI we M (by omega);rw[vu]at e;have hx:=Ws dx;have h1:dv Zd xs*2^s<Zd^xs.length*2^s:=Nat.mul_lt_mul_of_pos_right hx og;have h3:Zd^xs.length*2^s=Zd^M*(Zd^(n-1)*2^s):=by rw[<-Nat.mul_assoc,<-Nat.pow_add,show M+(n-1)=xs.length by omega]
   have h4:Zd^M*(Zd^(n-1)*2^s)<=Zd^M*dv Zd vs:=Nat.mul_le_mul_left _ (by rw[xr];exact Nat.mul_le_mul_right _ bb);have h5:Zd^M*dv Zd (we.drop M)<Zd^M*dv Zd vs:=by omega
   exact Nat.lt_of_mul_lt_mul_left h5
  refine Yv (fun m s'=>s'.k=104/\Zh G2 H4/\m<=M/\Zh H s'.H/\Sl s'.H wv vs/\ ∃(X L:List Nat),X.length=xs.length+1/\YD Zd X/\L.length+m=M/\YD Zd L/\dv Zd X+Zd^m*(dv Zd vs*dv Zd L)=dv Zd xs*2^s/\dv Zd (X.drop m)<dv Zd vs/\Yl H.n s'.H u0 X/\Yl G2.n s'.H q0 (List.replicate m 0++L)/\s'.tm.get 9=some (.int .u64 (s:Int))/\s'.tm.get 10=some u0/\s'.tm.get 11=some wv/\s'.tm.get 12=some (.int .i64 (n:Int))/\s'.tm.get 13=some q0/\s'.tm.get 14=some (.int .i64 ((m:Int)-1))) ?_ M _ ⟨rfl,kq,Nat.le_refl _,JZ.trans kq,ow3.sl.keep kq,we,[],by omega,du,by simp,.nil _,by simp[dv,vu],start,ou2.m kq,by simpa using oq,by simp,by simp,by simp,by simp,by simp,by simp[s4]⟩;rintro m ⟨k,tm,H5⟩ ⟨hk,_,hm,kH,sv,X,L,hX,dX,hL,dL,heq,YR,ou,oq,t9,t10,t11,t12,t13,t14⟩ Q' YF;simp only at hk kH sv ou oq t9 t10 t11 t12 t13 t14;subst hk;apply Zf;intro b3 ZH;apply Zb;intro b4 Yt;have SM:Zc .geq .i64 ((m:Int)-1) 0=some (.bool (decide (0<m))):=by show some (Value.bool (decide ((m:Int)-1≥0)))=_;congr 2;apply decide_eq_decide.mpr;omega
  simp[t14,SM];subst Yt;by_cases M6:m=0;·subst M6;refine Za (t:=false) (by simp) ?_;apply YZ;apply YF;left;exact⟨rfl,XW _ ⟨rfl,kH,X,L,hX,dX,by omega,dL,by simpa using heq,by simpa using YR,ou,by simpa using oq,by simp[t9],by simp[t10],by simp[t12],by simp[t13]⟩⟩
  ·refine Za (t:=true) (by simp;omega) ?_;apply Zl;subst ZH;obtain⟨j,rfl⟩: ∃j,m=j+1:=⟨m-1,by omega⟩;have em:((j+1:Nat):Int)-1=(j:Int):=by omega
   rw[em]at t14;have hjX:j+n+1<=X.length:=by omega
   obtain⟨K1,K2,K3⟩:=Bp dX hjX fT jI YR;obtain⟨uw,zn,suw,view,bw⟩:=ou.sl.part Zv (j:=j) (m:=n+1) (by omega) (by omega);have i1:Zc .add .i64 (j:Int) (n:Int)=some (.int .i64 ((j+n:Nat):Int)):=Wm (by omega);have i2:Zc .add .i64 ((j+n:Nat):Int) 1=some (.int .i64 ((j+(n+1):Nat):Int)):=Yy (by omega);have sM:X=X.take j++(X.drop j).take (n+1)++X.drop (j+n+1):=by have a:=List.take_append_drop (n+1) (X.drop j);rw[List.drop_drop,show j+(n+1)=j+n+1 by omega]at a;rw[List.append_assoc,a,List.take_append_drop]
   have ljp:(X.take j).length=j:=by rw[List.length_take];omega
   have lus:((X.drop j).take (n+1)).length=n+1:=by rw[List.length_take,List.length_drop];omega
   have ou':=ou;rw[sM]at ou';obtain⟨r,H6,hg,hr,bt,ka,PA,lus',dus',Zb2,ou6⟩:=CI ou' ljp lus view ((dX.drop j).take (n+1)) sv wJ jI hn2 (by omega) fT vtop K2;subst hr;rw[K1]at Zb2 hg;have vF:=oq.but bt wK;have ie:List.replicate (j+1) 0++L=List.replicate j 0++0::L:=by rw[List.replicate_succ'];simp
   rw[ie]at vF;have a2:=vF.sl.adr Zv (k:= .i64) (i:=j) (by simp);obtain⟨H7,T8,oq7,n7,b7,PM⟩:=vF.put (i:=j) (by simp) (dv Zd (X.drop j)/dv Zd vs);rw[WC _ _ _ _ (by simp)]at oq7;have apqu:Wq q0 u0:=fun c hc OQ=>wK c OQ hc;have apvq:Wq q0 wv:=fun c hc OQ=>by have x1:=(oq.blk_lo hc).1;have x2:=(ow3.blk_lo OQ).2;omega
   have bt7:Tp (YQ q0) H6 H7:=⟨n7,fun i _ hi=>b7 i hi⟩;have ou7:Yl H.n H7 u0 (X.take j++PA++X.drop (j+n+1)):=ou6.but bt7 apqu;have sv7:Sl H7 wv vs:=(sv.but bt wJ).but bt7 apvq;have vK:Zh H H7:=PM H (ka H kH (Nat.le_refl _)) (by have:=JZ.n;omega);apply Zf;intro b3 ZH;apply Zu;apply Zg;simp[t10,t11,t12,t13,t14,i1,i2,zn,hg,a2,T8];subst ZH;have w2:Zc .sub .i64 (j:Int) 1=some (.int .i64 ((j:Int)-1)):=by show some (Value.int .i64 (IntKind.i64.wrap ((j:Int)-1)))=_;congr 2;rw[IntKind.wrap_i64];omega
   apply Zg;simp[t14,w2];apply YF;have hdX':(X.take j++PA++X.drop (j+n+1)).drop j=PA++X.drop (j+n+1):=by rw[List.append_assoc,List.drop_append_of_le_length (by omega),List.drop_eq_nil_of_le (by omega)];rfl
   have hdv:dv Zd (PA++X.drop (j+n+1))=dv Zd (X.drop j)%dv Zd vs:=by rw[Yr,K3,Nat.mul_zero,Nat.add_zero,Zb2]
   refine⟨j,Nat.lt_succ_self j,rfl,kq,by show j<=M;omega,vK,sv7,X.take j++PA++X.drop (j+n+1),dv Zd (X.drop j)/dv Zd vs::L,?_,((dX.take j).append dus').append (dX.drop _),by simp;omega,.cons ?_ dL,?_,?_,ou7,oq7,by simp[t9],by simp[t10],by simp[t11],by simp[t12],by simp[t13],by simp⟩;·simp only[List.length_append,List.length_drop];omega
   ·rw[Nat.div_lt_iff_lt_mul Vpos,Nat.mul_comm,<-K1];exact K2
   ·have e1:=UI X j (by omega);rw[List.append_assoc,Yr,ljp,hdv];have e2:=Nat.div_add_mod (dv Zd (X.drop j)) (dv Zd vs);simp only[dv];generalize dv Zd (X.drop j)/dv Zd vs=q at*;generalize dv Zd (X.drop j)%dv Zd vs=r at*;rw[e1,<-e2]at heq;rw[<-heq];rw[Nat.mul_add (dv Zd vs) q,Nat.mul_add (Zd^j) (dv Zd vs*q) r,Nat.mul_add (Zd^j) (dv Zd vs*q),show Zd^(j+1)=Zd^j*Zd from rfl,Nat.mul_assoc (Zd^j) Zd,Nat.mul_left_comm (dv Zd vs) Zd];omega
   ·rw[hdX',hdv];exact Nat.mod_lt _ Vpos
 rintro⟨k,D7,H5⟩ ⟨hk,kH,X,L,hX,dX,hL,dL,heq,YR,ou,oq,t9,t10,t12,t13⟩;simp only at hk kH ou oq t9 t10 t12 t13;subst hk;have e0:dv Zd xs*2^s=dv Zd vs*dv Zd L+dv Zd X:=by rw[<-heq];omega
 have hdiv:dv Zd xs/dv Zd ys=dv Zd L:=by rw[<-Nat.mul_div_mul_right _ _ og,e0,<-xr,Nat.mul_add_div Vpos,Nat.div_eq_of_lt YR,Nat.add_zero]
 have EH:dv Zd X/2^s=dv Zd xs%dv Zd ys:=by
  have:dv Zd xs%dv Zd ys*2^s=dv Zd X:=by rw[<-Nat.mul_mod_mul_right,e0,<-xr,Nat.mul_add_mod,Nat.mod_eq_of_lt YR]
  rw[<-this,Nat.mul_div_cancel _ og]
 have hXn:dv Zd (X.take n)=dv Zd X:=by
  have e:=UI X n (by omega);have:dv Zd (X.drop n)=0:=by
   rcases Nat.eq_zero_or_pos (dv Zd (X.drop n))with h|h;·exact h
   ·exfalso;have:Zd^n*1<=Zd^n*dv Zd (X.drop n):=Nat.mul_le_mul_left _ h;omega
  rw[this]at e;omega
 obtain⟨qv,H6,hq6,kq6,vF⟩:=Vz (H:=H5.top) oq.sl.top (by omega);rw[Xl Z9 dL,<-hdiv]at vF;obtain⟨G6,hG6⟩:=hid (grown H5 H6);have kG6:Zh H5 G6:=by rw[hG6];exact Yc (.refl H5) kq6
 have nG6:G6.n=H6.n:=by rw[hG6];rfl
 have oqG:Yl H5.n G6 qv (ds Zd (dv Zd xs/dv Zd ys)):=by rw[hG6];exact vF.same (Yo kq6)
 have ouG:=(ou.sl.keep kG6).top;obtain⟨rv,H7,hr7,kr7,or7⟩:=aO (H:=G6.top) (ouG.cutTo Zv (m:=n) (by omega) (by omega)).2 (dX.take n) (by rw[List.length_take];omega) gh;rw[hXn,EH]at or7;have kG7:Zh G6 (grown G6 H7):=Yc (.refl G6) kr7;have orG:Yl G6.n (grown G6 H7) rv (ds Zd (dv Zd xs%dv Zd ys)):=or7.same (Yo kr7);have h6n:=kq6.n;have h7n:=kr7.n;apply Zf;intro b Ze;apply YI (by kernel_rfl);simp[t13];refine YW (v:=qv) (H2:=H6) rfl rfl rfl (by rw[ZN rfl];simp[hq6]) h6n (YM kq6) ?_;rw[<-hG6];generalize PO:cond (Nat.blt H5.n H6.n) _ _=ms;have X1: ∀x∈ms,x.1=1/\H5.n<=x.2.1:=by intro x hx;rw[<-PO]at hx;cases mw:Nat.blt H5.n H6.n with|true=>rw[mw,cond_true]at hx;simp at hx;subst hx;exact⟨rfl,Nat.le_refl _⟩|false=>rw[mw,cond_false]at hx;cases hx
 simp[t10,t12];refine ZK (v:=cutTo u0 n) rfl rfl rfl ?_ ?_;·have hsv:=fun bits=>((ou.sl.keep (Xp (bits:=bits) kG6 fun x hx=>(X1 x hx).2)).cutTo Zv (m:=n) (by omega) (by omega)).1;simp[hsv]
 simp[t9];refine YW (v:=rv) (H2:=H7) rfl rfl rfl ?_ h7n (YM kr7) ?_;·rw[ZN (Yq fun x hx=>by rw[(X1 x hx).1];kernel_rfl)];simp[t9,hr7]
 simp;subst Ze;apply Zq;refine⟨.inr rfl,[qv,rv],?_,?_⟩;·simp
 ·exact⟨(kH.trans kG6).trans kG7,qv,rv,rfl,oqG.mono kH.n kG7,orG.mono (by have:=(kH.trans kG6).n;omega) (.refl _),Uy oqG orG (Nat.le_refl _)⟩
theorem Ec{n0:Nat}{H:AH}{va vb:Value}{xs ys:List Nat}(ha:Yl n0 H va xs)(hb:Sl H vb ys)(RC:n0<=H.n)(dx:YD Zd xs)(dy:YD Zd ys)(tx:YS xs=xs)(ty:YS ys=ys)(lx:xs.length<=17592186040000)(ly:ys.length<=17592186040000)(hy:0<ys.length):CW Tryz.prog Zw 193 [va,vb] H (NQ n0 H (dv Zd xs) (dv Zd ys)):=CS ha hb RC dx dy tx ty lx ly hy fun tm t0 t1 h2 SM=>Eb ha hb RC dx dy tx ty lx ly tm t0 t1 h2 SM
structure Mod (b : Option Nat) (H H' : AH) : Prop where
  n : H.n <= H'.n
  blk : ∀ j, j < H.n -> b ≠ some j -> H'.blk j = H.blk j
theorem Mod.refl(b:Option Nat)(H:AH):Mod b H H:=⟨Nat.le_refl _,fun _ _ _=>rfl⟩
theorem Mod.trans{b:Option Nat}{H H1 H2:AH}(x:Mod b H H1)(y:Mod b H1 H2):Mod b H H2:=⟨Nat.le_trans x.n y.n,fun j hn hj=>(y.blk j (Nat.lt_of_lt_of_le hn x.n) hj).trans (x.blk j hn hj)⟩
theorem Zh.mod{H H':AH}(k:Zh H H'):Mod none H H':=⟨k.n,fun j hj _=>k.blk j hj⟩
theorem Tp.mod{b:Option Nat}{H H':AH}(k:Tp b H H'):Mod b H H':=⟨Nat.le_of_eq k.n.symm,k.blk⟩
theorem Mod.any{b:Option Nat}{H H':AH}(k:Mod none H H'):Mod b H H':=⟨k.n,fun j hj _=>k.blk j hj (fun e=>by cases e)⟩
theorem Sl.mod{b:Option Nat}{H H':AH}{v:Value}{xs:List Nat}(h:Sl H v xs)(k:Mod b H H')(hb: ∀c,b=some c->YQ v≠some c):Sl H' v xs:=by cases h with|nil=>exact .nil|emp b=>exact .emp b|mk c o cap xs h1 h2=>obtain⟨h3,cs,h4,h5,h6⟩:=h2;have e:=k.blk c h3 fun e=>hb c e rfl;exact .mk c o cap xs h1 ⟨Nat.lt_of_lt_of_le h3 k.n,cs,by unfold AH.cells;rw[e];exact h4,by unfold AH.size;rw[e];exact h5,h6⟩
theorem Yl.mod{b:Option Nat}{n0:Nat}{H H':AH}{v:Value}{xs:List Nat}(h:Yl n0 H v xs)(k:Mod b H H')(hb: ∀c,b=some c->YQ v≠some c):Yl n0 H' v xs:=by cases h with|nil=>exact .nil|mk c o cap xs cs h1 h2 h3 h4 h5 h6=>exact .mk c o cap xs cs h1 h2 (Nat.lt_of_lt_of_le h3 k.n) (by rw[k.blk c h3 fun e=>hb c e rfl];exact h4) h5 h6
theorem AH.blk_kill(H:AH)(i j:Nat):(H.kill i).blk j=if j=i then .dead else H.blk j:=by
 unfold AH.kill AH.blk;simp only[Tr.get_set];by_cases e:j=i;·rw[if_pos e,if_pos e]
 ·rw[if_neg e,if_neg e]
theorem bI(xs:List Nat):(xs.map Vr).all one=true:=by rw[List.all_eq_true];intro v hv;obtain⟨x,_,rfl⟩:=List.mem_map.mp hv;rfl
theorem Yl.append{n0:Nat}{H:AH}{v w:Value}{xs ys:List Nat}(h:Yl n0 H v xs)(hn:n0<=H.n)(hw:Sl H w ys)(hl:xs.length+ys.length<=17592186044416){t t2:TypeId}(ht:LT t)(AO:LT t2): ∃v' H',Xr Tryz.prog H t t2 v w=some (v',H')/\Yl n0 H' v' (xs++ys)/\Mod (YQ v) H H'/\KA n0 H H':=by
 by_cases h0:ys.length=0
 ·obtain rfl:ys=[]:=List.length_eq_zero_iff.mp h0;refine⟨v,H,?_,by simpa using h,.refl _ _,.refl _ _⟩;have hv: ∃a l c,v= .slice a l c:=by cases h<;>exact⟨_,_,_,rfl⟩
  obtain⟨a,l,c,rfl⟩:=hv;have vV: ∃a c,w= .slice a 0 c:=by generalize hz:([]:List Nat)=zs at hw;cases hw with|nil=>exact⟨_,_,rfl⟩|emp b=>exact⟨_,_,rfl⟩|mk b o cap xs h1 h2=>subst hz;exact⟨_,_,rfl⟩
  obtain⟨a2,c2,rfl⟩:=vV;simp[Xr,ht.2,AO.2]
 ·have hc:=hw.cells (by omega);obtain⟨a2,xe,rfl⟩: ∃a cap,w= .slice a ys.length cap:=by cases hw<;>exact⟨_,_,rfl⟩
  have e1:Nat.beq ys.length 0=false:=Y9 h0;cases h with
   |nil=>
    refine⟨.slice (some ⟨H.n,0,none⟩) ys.length ys.length,H.new 1 (ys.map Vr),?_,?_,(Zh.new H 1 _).mod,?_⟩;·have e2:Nat.ble (ys.length*8) 140737488355328=true:=Nat.ble_eq.mpr (by simp at hl;omega);have e3:Nat.ble ys.length 281474976710656=true:=Nat.ble_eq.mpr (by simp at hl;omega);simp[Xr,ht.2,AO.2,e1,e2,e3,hc,J9,Value.cells]
    ·have:=Yl.new H ys;simp only[List.nil_append];exact this.mono hn (.refl _)
    ·intro H0 k _;exact k.trans (Zh.new H 1 _)
   |mk b o cap xs cs h1 h2 h3 h4 h5 h6=>
    have e2:Nat.ble ((xs.length+ys.length)*8) 140737488355328=true:=Nat.ble_eq.mpr (by omega);have e3:Nat.ble (xs.length+ys.length) 281474976710656=true:=Nat.ble_eq.mpr (by omega);have e4:Nat.ble (o+xs.length) cs.length=true:=Nat.ble_eq.mpr (by omega);have e5:(cs.drop o).take xs.length=xs.map Vr:=by
     rcases Nat.eq_zero_or_pos xs.length with h|h;·have:xs=[]:=List.length_eq_zero_iff.mp h;subst this;simp
     ·exact(KX h h6).2
    have eH:(H.kill b).n=H.n:=rfl;refine⟨.slice (some ⟨H.n,0,none⟩) (xs++ys).length (xs++ys).length,(H.kill b).new 1 ((xs++ys).map Vr),?_,?_,?_,?_⟩
    ·have e6:Nat.beq 1 1=true:=rfl;have e7:ys.all (one∘Vr)=true:=by rw[List.all_eq_true];intro x _;rfl
     simp[Xr,ht.2,AO.2,e1,e2,e3,e4,e5,hc,J9,Value.cells,h4,e7]
    ·refine .mk H.n 0 _ _ ((xs++ys).map Vr) (Nat.le_refl _) hn ?_ ?_ (by simp) (fun i x h=>by rw[Nat.zero_add,List.getElem?_map,h];rfl);·show H.n<H.n+1;omega
     ·rw[AH.blk_new,if_pos eH.symm]
    ·refine⟨by show H.n<=H.n+1;omega,fun j hj hb=>?_⟩;rw[AH.blk_new,if_neg (by rw[eH];omega),AH.blk_kill,if_neg (by intro e;subst e;exact hb rfl)]
    ·intro H0 k RC;have:=k.n;refine⟨by show H0.n<=H.n+1;omega,?_,fun j hj=>?_⟩;·have:=k.lw;show min H0.lw H0.n<=min H.lw b;omega
     ·rw[AH.blk_new,if_neg (by rw[eH];omega),AH.blk_kill,if_neg (by omega)];exact k.blk j hj
theorem Yl.appendN{n0:Nat}{H:AH}{v w:Value}{xs ys:List Nat}(h:Yl n0 H v xs)(hn:n0<=H.n)(hw:Sl H w ys)(h0: ¬ys.length=0)(hl:xs.length+ys.length<=17592186044416){t t2:TypeId}(ht:LT t)(AO:LT t2): ∃v' H',Xr Tryz.prog H t t2 v w=some (v',H')/\Yl H.n H' v' (xs++ys)/\Mod (YQ v) H H'/\KA n0 H H':=by
 have hc:=hw.cells (by omega);obtain⟨a2,xe,rfl⟩: ∃a cap,w= .slice a ys.length cap:=by cases hw<;>exact⟨_,_,rfl⟩
 have e1:Nat.beq ys.length 0=false:=Y9 h0;cases h with
  |nil=>
   refine⟨.slice (some ⟨H.n,0,none⟩) ys.length ys.length,H.new 1 (ys.map Vr),?_,?_,(Zh.new H 1 _).mod,?_⟩;·have e2:Nat.ble (ys.length*8) 140737488355328=true:=Nat.ble_eq.mpr (by simp at hl;omega);have e3:Nat.ble ys.length 281474976710656=true:=Nat.ble_eq.mpr (by simp at hl;omega);simp[Xr,ht.2,AO.2,e1,e2,e3,hc,J9,Value.cells]
   ·have:=Yl.new H ys;simp only[List.nil_append];exact this
   ·intro H0 k _;exact k.trans (Zh.new H 1 _)
  |mk b o cap xs cs h1 h2 h3 h4 h5 h6=>
   have e2:Nat.ble ((xs.length+ys.length)*8) 140737488355328=true:=Nat.ble_eq.mpr (by omega);have e3:Nat.ble (xs.length+ys.length) 281474976710656=true:=Nat.ble_eq.mpr (by omega);have e4:Nat.ble (o+xs.length) cs.length=true:=Nat.ble_eq.mpr (by omega);have e5:(cs.drop o).take xs.length=xs.map Vr:=by
    rcases Nat.eq_zero_or_pos xs.length with h|h;·have:xs=[]:=List.length_eq_zero_iff.mp h;subst this;simp
    ·exact(KX h h6).2
   have eH:(H.kill b).n=H.n:=rfl;refine⟨.slice (some ⟨H.n,0,none⟩) (xs++ys).length (xs++ys).length,(H.kill b).new 1 ((xs++ys).map Vr),?_,?_,?_,?_⟩
   ·have e6:Nat.beq 1 1=true:=rfl;have e7:ys.all (one∘Vr)=true:=by rw[List.all_eq_true];intro x _;rfl
    simp[Xr,ht.2,AO.2,e1,e2,e3,e4,e5,hc,J9,Value.cells,h4,e7]
   ·refine .mk H.n 0 _ _ ((xs++ys).map Vr) (Nat.le_refl _) (Nat.le_refl _) ?_ ?_ (by simp) (fun i x h=>by rw[Nat.zero_add,List.getElem?_map,h];rfl);·show H.n<H.n+1;omega
    ·rw[AH.blk_new,if_pos eH.symm]
   ·refine⟨by show H.n<=H.n+1;omega,fun j hj hb=>?_⟩;rw[AH.blk_new,if_neg (by rw[eH];omega),AH.blk_kill,if_neg (by intro e;subst e;exact hb rfl)]
   ·intro H0 k RC;have:=k.n;refine⟨by show H0.n<=H.n+1;omega,?_,fun j hj=>?_⟩;·have:=k.lw;show min H0.lw H0.n<=min H.lw b;omega
    ·rw[AH.blk_new,if_neg (by rw[eH];omega),AH.blk_kill,if_neg (by omega)];exact k.blk j hj
theorem Db{H:AH}{t:TypeId}(ht:LT t){n:Nat}(hn:n<=17592186044416): ∃v H',VK Tryz.prog H t (.int .i64 0) (.int .i64 (n:Int))=some (v,H')/\Zh H H'/\Yl H.n H' v []:=by
 refine⟨.slice (some ⟨H.n,0,none⟩) 0 n,H.new 1 ((List.replicate n 0).map Vr),?_,.new _ _ _,?_⟩;·unfold VK;simp only[ht.2,J9];rw[if_pos (by omega)];simp only[Int.toNat_natCast,Nat.mul_one,Ia];rfl
 ·exact .mk H.n 0 n [] ((List.replicate n 0).map Vr) (Nat.zero_le _) (Nat.le_refl _) (Nat.lt_succ_self _) (by rw[AH.blk_new,if_pos rfl]) (by simp) (fun i x h=>by simp at h)
theorem O4(H:AH){t:TypeId}(ht:LT t)(x:Nat):Yz Tryz.prog H t 1 [(0,.int .u64 (x:Int))]=some (.slice (some ⟨H.n,0,none⟩) 1 1,H.new 1 ([x].map Vr)):=by unfold Yz;simp only[ht.2,J9];kernel_rfl
theorem Cy(H:AH){t:TypeId}(ht:LT t)(x y:Nat):Yz Tryz.prog H t 2 [(0,.int .u64 (x:Int)),(1,.int .u64 (y:Int))]=some (.slice (some ⟨H.n,0,none⟩) 2 2,H.new 1 ([x,y].map Vr)):=by unfold Yz;simp only[ht.2,J9];kernel_rfl
def GW(v:Value)(m:Nat):Value:=match v with| .slice (some a) _ _=> .slice (some a) m m|v=>v
theorem Yl.cut3{n0:Nat}{H:AH}{v:Value}{xs:List Nat}(h:Yl n0 H v xs){t:TypeId}(ht:LT t){m:Nat}(hm:m<=xs.length):Vu Tryz.prog H t v none (some (.int .i64 (m:Int))) (some (.int .i64 (m:Int)))=some (GW v m)/\Yl n0 H (GW v m) (xs.take m)/\YQ (GW v m)=YQ v:=by cases h with
 |nil=>simp at hm;subst hm;refine⟨?_,.nil,rfl⟩;unfold Vu;simp only[ht.1,Mz];rfl
 |mk b o cap xs cs h1 h2 h3 h4 h5 h6=>
  have hl:(xs.take m).length=m:=by rw[List.length_take];omega
  have Wx:H.size b=some 1:=by unfold AH.size;rw[h4]
  have ho:Yl n0 H (.slice (some ⟨b,o,none⟩) (xs.take m).length m) (xs.take m):= .mk b o m _ cs (by omega) h2 h3 h4 (by omega) fun i x hx=>h6 i x (by
   rw[List.getElem?_take]at hx;split at hx;·exact hx
   ·cases hx);rw[hl]at ho;refine⟨?_,ho,rfl⟩;unfold Vu;simp only[ht.1,Mz];unfold Il Xo;simp only[Wx,Option.isSome_some,Option.isNone_none,Bool.true_or];rw[if_pos (by omega)];have e1:Nat.ble m m=true:=Nat.ble_eq.mpr (Nat.le_refl _);simp[Xo,e1,GW]
theorem two32:2<=Z4:=by decide
theorem Jp{k:IntKind}{x:Nat} :Zc .gtr k (x:Int) 0=some (.bool (decide (0<x))):=Vp (y:=0)
theorem Wo{k:IntKind}{x:Nat} :Zc .eql k (x:Int) 0=some (.bool (decide (x=0))):=P8 (y:=0)
theorem DT{x:Nat} :Zc .rem .u64 (x:Int) 4294967296=some (.int .u64 ((x%4294967296:Nat):Int)):=aa (y:=4294967296) (by decide)
theorem Dx{x:Nat}(hx:x<Zd):Zc .quo .u64 (x:Int) 4294967296=some (.int .u64 ((x/4294967296:Nat):Int)):=Mv (y:=4294967296) hx (by decide)
theorem quo2{x:Nat}(hx:x<Zd):Zc .quo .u64 (x:Int) 2=some (.int .u64 ((x/2:Nat):Int)):=Mv (y:=2) hx (by decide)
theorem Fl{x y:Nat}(h:x*y<9223372036854775808):Zc .mul .i64 (x:Int) (y:Int)=some (.int .i64 ((x*y:Nat):Int)):=by
 show some (Value.int .i64 (IntKind.i64.wrap ((x:Int)*(y:Int))))=_;have e:IntKind.i64.wrap ((x:Int)*(y:Int))=((x*y:Nat):Int):=by rw[IntKind.wrap_i64,<-Int.natCast_mul];generalize x*y=z at*;omega
 rw[e]
theorem Al{x:Nat}(h:2*x<9223372036854775808):Zc .mul .i64 2 (x:Int)=some (.int .i64 ((2*x:Nat):Int)):=Fl (x:=2) h
theorem bS{x:Nat}(h:32*x<9223372036854775808):Zc .mul .i64 32 (x:Int)=some (.int .i64 ((32*x:Nat):Int)):=Fl (x:=32) h
theorem eZ{x:Nat}(h:x<9223372036854775800):Zc .add .i64 (x:Int) 2=some (.int .i64 ((x+2:Nat):Int)):=Wm (y:=2) (by omega)
def RY:List Nat->List Nat|[]=>[]|x::xs=>x%Z4::x/Z4::RY xs
theorem LV(x:Nat): ∀(xs:List Nat),RY (xs++[x])=RY xs++[x%Z4,x/Z4]|[]=>rfl|y::xs=>by simp[RY,LV x xs]
theorem Qs: ∀(xs:List Nat),(RY xs).length=2*xs.length|[]=>rfl|x::xs=>by simp[RY,Qs xs];omega
theorem MB: ∀(xs:List Nat),dv Z4 (RY xs)=dv Zd xs|[]=>rfl|x::xs=>by simp only[RY,dv,MB xs];have:=Nat.mod_add_div x 4294967296;show x%4294967296+4294967296*(x/4294967296+4294967296*dv Zd xs)=x+18446744073709551616*dv Zd xs;omega
theorem Nd: ∀{xs:List Nat},YD Zd xs->YD Z4 (RY xs)|[],_=> .nil _|x::xs,h=>by have hx:x<18446744073709551616:=h.head;exact .cons (Nat.mod_lt _ (by decide)) (.cons (by show x/4294967296<4294967296;omega) (Nd h.tail))
def TU:List Nat->List Nat|[]=>[]|[x]=>[x]|x::y::r=>(x+y*Z4)::TU r
theorem je(N:Nat):TU (ds Z4 N)=ds Zd N:=by induction N using Nat.strongRecOn with
 |_ N ih=>
  by_cases h0:N=0;·subst h0;rw[XT,XT];rfl
  ·rw[TM two32 h0];by_cases h1:N/Z4=0
   ·have hN:N<4294967296:=by have:=Kt (by decide) h1;exact this
    rw[h1,XT,TM Z9 h0];have e1:N%Z4=N:=Nat.mod_eq_of_lt hN;have e2:N%Zd=N:=Nat.mod_eq_of_lt (Nat.lt_trans hN (by decide));have e3:N/Zd=0:=Nat.div_eq_of_lt (Nat.lt_trans hN (by decide));rw[e1,e2,e3,XT];rfl
   ·rw[TM two32 h1,TM Z9 h0];simp only[TU];have e1:N/Z4/Z4=N/Zd:=by rw[Nat.div_div_eq_div_mul,show Z4*Z4=Zd by decide]
    have e2:N%Z4+N/Z4%Z4*Z4=N%Zd:=by show N%4294967296+N/4294967296%4294967296*4294967296=N%18446744073709551616;omega
    rw[e1,e2,ih _ (Nat.div_lt_self (by omega) (by decide))]
theorem BT{ys:List Nat}{i:Nat}(h:i<ys.length):TU (ys.drop i)=(ys[i]+nth ys (i+1)*Z4)::TU (ys.drop (i+2)):=by
 rw[List.drop_eq_getElem_cons h];by_cases h1:i+1<ys.length;·rw[List.drop_eq_getElem_cons h1,XF h1];simp only[TU]
 ·rw[List.drop_eq_nil_of_le (by omega),V8 (by omega),List.drop_eq_nil_of_le (by omega)];simp[TU]
theorem HK: ∀(ys:List Nat),(TU ys).length<=ys.length|[]=>Nat.le_refl _|[x]=>Nat.le_refl _|x::y::r=>by simp only[TU,List.length_cons];have:=HK r;omega
theorem az{x:Nat}(h:0<x):Zn x=Zn (x/2)+1:=by
 rcases Nat.lt_or_ge x 2 with h1|h1
 ·obtain rfl:x=1:=by omega
  decide
 ·have:=Tg (n:=x) (k:=1) h1;rw[this,Nat.pow_one,Nat.add_comm]
theorem VJ{n0:Nat}{H:AH}{v:Value}{xs:List Nat}(h:Yl n0 H v xs)(hlen:xs.length<1152921504606846976):CW Tryz.prog Zw 57 [v] H fun v' H'=>H'=H/\Yl n0 H v' (YS xs)/\YQ v'=YQ v:=by
 refine Z8 22 Tryz.func57 ?_;have l0:=h.sl.len ZA;apply Zb;intro b1 Ze;simp;subst Ze;apply Zb;intro b1 Ze;simp[l0];subst Ze;apply Zf;intro b1 Ze;apply Zu;refine Yv (fun n s=>s.k=22/\s.H=H/\n<=xs.length/\YS (xs.take n)=YS xs/\s.tm.get 0=some v/\s.tm.get 3=some (.int .i64 (n:Int))) ?_ xs.length _ ⟨rfl,rfl,Nat.le_refl _,by rw[List.take_length],by simp,by simp⟩;rintro n ⟨k,tm,H'⟩ ⟨hk,hH,hn,ht,t0,t3⟩ Q' YF;simp only at hk hH t0 t3;subst hk;subst hH;apply Zf;intro b2 Zp;apply Zb;intro b3 ZH;have fin: ∀Y8:Tr Value,Y8.get 0=some v->Y8.get 3=some (.int .i64 (n:Int))->YS (xs.take n)=xs.take n->Q' (.exit 0) ⟨22,Y8,H'⟩:=fun Y8 t0 t3 he=>by apply YF;left;refine⟨rfl,?_⟩;subst Ze;obtain⟨c1,c2,c3⟩:=h.cut3 ZA hn;apply Zb;intro b4 Yt;simp[t0,t3,c1];subst Yt;apply Zq;simp;rw[<-ht,he];exact⟨c2,c3⟩
 by_cases hz:n=0;·subst hz;simp[t3];subst ZH;refine Za (t:=false) (by simp) ?_;apply YZ;exact fin _ (by simp[t0]) (by simp[t3]) rfl
 ·have hi:n-1<xs.length:=by omega
  have a1:=h.sl.adr ZA (k:= .i64) hi;have d1:=h.sl.load hi;have PN:xs.take n=xs.take (n-1)++[xs[n-1]]:=by have:=Xk hi;rwa[show n-1+1=n by omega]at this
  have RC:0<n:=by omega
  simp[t3,t0,Jp,RC,Um (x:=n) (by omega) RC,a1,d1,Wo];subst ZH;by_cases h0:xs[n-1]=0;·refine Za (t:=true) (by simp[h0]) ?_;apply Zl;subst Zp;apply Zu;apply Zg;simp[t3,Um (x:=n) (by omega) RC];apply YF;refine⟨n-1,by omega,rfl,rfl,by show n-1<=_;omega,?_,by simp[t0],by simp⟩;rw[<-ht,PN,h0,VB]
  ·refine Za (t:=false) (by simp[h0]) ?_;apply YZ;exact fin _ (by simp[t0]) (by simp[t3]) (by rw[PN];exact SC _ _ h0)
theorem nu{H:AH}{v:Value}{xs:List Nat}(h:Sl H v xs)(dx:YD Zd xs)(hlen:xs.length<=8000000000000):CW Tryz.prog Zw 17 [v] H fun v' H'=>Zh H H'/\Yl H.n H' v' (ds Z4 (dv Zd xs)):=by
 refine Z8 26 Tryz.func17 ?_;have l0:=h.len Yf;obtain⟨a0,H1,Qt,k1,o1⟩:=Db (H:=H) ZA (n:=2*xs.length) (by omega);apply Zb;intro b1 Ze;simp;subst Ze;apply Zb;intro b1 Ze;simp[l0,Al (x:=xs.length) (by omega),Qt];subst Ze;apply Zf;intro b1 Ze;apply Zb;intro b2 Zp;simp[l0];subst Zp;apply Zu;refine Yv (fun m s'=>s'.k=26/\Zh H s'.H/\ ∃(i:Nat) (a:Value),m+i=xs.length/\Yl H.n s'.H a (RY (xs.take i))/\s'.tm.get 3=some a/\s'.tm.get 10=some v/\s'.tm.get 11=some (.int .i64 (xs.length:Int))/\s'.tm.get 12=some (.int .i64 (i:Int))) ?_ xs.length _ ⟨rfl,k1,0,a0,by omega,o1,by simp,by simp,by simp,by simp⟩;rintro m ⟨k,tm,H2⟩ ⟨hk,kH,i,a,NR,own,t3,t10,t11,t12⟩ Q' YF;simp only at hk kH own t3 t10 t11 t12;subst hk;apply Zb;intro b3 ZH;simp[t11,t12];subst ZH;apply Zf;intro b3 ZH;by_cases hi:i<xs.length;·refine Za (t:=true) (by simp[hi]) ?_;apply Zl;subst ZH;have s2:=h.keep kH;have a1:=s2.adr Yf (k:= .i64) hi;have d1:=s2.load hi;have hx:xs[i]<Zd:=dx.get (List.getElem?_eq_getElem hi);obtain⟨x,Ni⟩:=hid (xs[i]);rw[<-Ni]at d1 hx;have hb:=Cy H2 ZA (x%4294967296) (x/4294967296);have kn:=Zh.new H2 1 ([x%4294967296,x/4294967296].map Vr);have ow:=Yl.new H2 [x%4294967296,x/4294967296];obtain⟨v',H4,Oz,VV,mod4,VP⟩:=(own.m kn).append (Nat.le_trans kH.n kn.n) ow.sl (by rw[Qs,List.length_take];simp;omega) ZA ZA;apply Zf;intro b3 ZH;apply Zu;apply Zb;intro b4 Yt;simp[t10,t12,a1,d1];subst Yt;apply Zg;simp[t3,DT,Dx hx,hb];simp at Oz;simp[Oz];subst ZH;apply Zg;simp[t12,Yy (x:=i) (by omega)];apply YF;refine⟨m-1,by omega,rfl,VP H (kH.trans kn) (Nat.le_refl _),i+1,v',by omega,?_,by simp,by simp[t10],by simp[t11],by simp⟩;rw[Xk hi,LV,<-Ni];exact VV
 ·refine Za (t:=false) (by simp[hi]) ?_;apply YZ;apply YF;left;refine⟨rfl,?_⟩;obtain rfl:i=xs.length:=by omega
  rw[List.take_length]at own;obtain⟨v5,H5,Kg,e5,o5,_⟩:=VJ own (by rw[Qs];omega);subst e5;rw[Xl two32 (Nd dx),MB]at o5;subst Ze;apply Zb;intro b4 Yt;simp[t3,Kg];subst Yt;apply Zq;simp;exact⟨kH,o5⟩
theorem eP{x:Nat}(h:x<Z4):x<Zd:=Nat.lt_trans h (by decide)
theorem Bq{H:AH}{v:Value}{ys:List Nat}(h:Sl H v ys)(dy:YD Z4 ys)(hlen:ys.length<=17592186000000):CW Tryz.prog Zw 94 [v] H fun v' H'=>Zh H H'/\Yl H.n H' v' (TU ys):=by
 refine Z8 34 Tryz.func94 ?_;have l0:=h.len ZA;apply Zf;intro b1 Ze;apply Zg;simp;subst Ze;apply Zf;intro b1 Ze;apply Zg;simp;subst Ze;apply Zf;intro b1 Ze;apply Zf;intro b2 Zp;apply Zg;simp;subst Zp;apply Zu;refine Yv (fun m s'=>s'.k=34/\Zh H s'.H/\ ∃(i:Nat) (a:Value) (L:List Nat),m=ys.length-i/\i<=ys.length+1/\L.length<=i/\L++TU (ys.drop i)=TU ys/\Yl H.n s'.H a L/\s'.tm.get 0=some v/\s'.tm.get 3=some a/\s'.tm.get 4=some (.int .i64 (i:Int))) ?_ ys.length _ ⟨rfl,.refl H,0,.slice none 0 0,[],by omega,by omega,Nat.le_refl _,by simp,.nil,by simp,by simp,by simp⟩;rintro m ⟨k,tm,H2⟩ ⟨hk,kH,i,a,L,NR,hiy,hLi,hL,own,t0,t3,t4⟩ Q' YF;simp only at hk kH own t0 t3 t4;subst hk;apply Zf;intro b3 ZH;apply Zf;intro b4 Yt;apply Zg;simp[t0,t4,l0];subst Yt;by_cases hi:i<ys.length
 ·refine Za (t:=true) (by simp[hi]) ?_;apply Zl;subst ZH;have s2:=h.keep kH;have a1:=s2.adr ZA (k:= .i64) hi;have d1:=s2.load hi;have hx:ys[i]<Z4:=dy.get (List.getElem?_eq_getElem hi);obtain⟨x,Ni⟩: ∃x,x=ys[i]:=⟨_,rfl⟩;obtain⟨w,hw⟩: ∃w,w=x+nth ys (i+1)*4294967296:=⟨_,rfl⟩;have yA:=BT hi;rw[<-Ni]at d1 hx yA;have hpd':TU (ys.drop i)=w::TU (ys.drop (i+2)):=by rw[hw];exact yA
  have hb:=O4 H2 Yf w;have kn:=Zh.new H2 1 ([w].map Vr);have ow:=Yl.new H2 [w];obtain⟨v',H4,Oz,VV,mod4,VP⟩:=(own.m kn).append (Nat.le_trans kH.n kn.n) ow.sl (by simp;omega) Yf Yf;simp at Oz hb;apply Zf;intro b3 ZH;apply Zu;apply Zf;intro b4 Yt;apply Zg;simp[t0,t4,a1,d1];subst Yt;refine Y6 (fun s'=>s'.k=34/\s'.H=H2/\s'.tm.get 0=some v/\s'.tm.get 3=some a/\s'.tm.get 4=some (.int .i64 (i:Int))/\s'.tm.get 5=some (.int .u64 (w:Int))) ?_ ?_
  ·intro KI XW;apply Zf;intro b4 Yt;apply Zg;simp[t0,t4,l0,Yy (x:=i) (by omega)];subst Yt;by_cases EK:i+1<ys.length
   ·refine Za (t:=true) (by simp[EK]) ?_;have a2:=s2.adr ZA (k:= .i64) EK;have d2:=s2.load EK;have hz:ys[i+1]<Z4:=dy.get (List.getElem?_eq_getElem EK);rw[XF EK]at hw;obtain⟨z,sA⟩: ∃z,z=ys[i+1]:=⟨_,rfl⟩;rw[<-sA]at d2 hz hw;have hz':z<4294967296:=hz;have qY:x<4294967296:=hx;have m1:Zc .mul .u64 (z:Int) 4294967296=some (.int .u64 ((z*4294967296:Nat):Int)):=by rw[mulR,Nat.mod_eq_of_lt (by show _<18446744073709551616;omega)]
    have m2:Zc .add .u64 (x:Int) ((z*4294967296:Nat):Int)=some (.int .u64 (w:Int)):=by rw[hw];exact Wf (by show _<18446744073709551616;omega)
    apply Zg;simp[t0,t4,Yy (x:=i) (by omega),a2,d2,m1,m2];apply XW;exact⟨rfl,rfl,by simp[t0],by simp[t3],by simp[t4],by simp⟩
   ·refine Za (t:=false) (by simp[EK]) ?_;apply Zl;apply XW;rw[V8 (by omega),Nat.zero_mul,Nat.add_zero]at hw;exact⟨rfl,rfl,by simp[t0],by simp[t3],by simp[t4],by simp[hw]⟩
  clear t0 t3 t4;rintro⟨k,tm,H3⟩ ⟨hk,hH,t0,t3,t4,t5⟩;simp only at hk hH t0 t3 t4 t5;subst hk;subst hH;apply Zg;simp[t3,t5,hb,Oz];subst ZH;apply Zg;simp[t4,eZ (x:=i) (by omega)];apply YF;refine⟨ys.length-(i+2),by omega,rfl,VP H (kH.trans kn) (Nat.le_refl _),i+2,v',L++[w],rfl,by omega,by simp;omega,?_,VV,by simp[t0],by simp,by simp⟩;rw[<-hL,hpd'];simp
 ·refine Za (t:=false) (by simp[hi]) ?_;apply YZ;apply YF;left;refine⟨rfl,?_⟩;rw[List.drop_eq_nil_of_le (by omega)]at hL;simp[TU]at hL;subst Ze;apply Zf;intro b4 Yt;apply Zg;simp[t3];subst Yt;apply Zq;simp;rw[<-hL];exact⟨kH,own⟩
theorem mI{H:AH}{v w:Value}{ys zs:List Nat}(h:Sl H v ys)(hw:Sl H w zs)(dy:YD Z4 ys)(hlen:ys.length<=17592186000000):CW Tryz.prog Zw 65 [v,w] H fun v' H'=>Zh H H'/\v'= .bool (decide (TU ys=zs)):=by
 refine Z8 29 Tryz.func65 ?_;obtain⟨v1,H1,Q9,k1,o1⟩:=Bq h dy hlen;have FN:=HK ys;generalize TU ys=xs at*;have s1:=o1.sl;have s2:=hw.keep k1;have l1:=s1.len Yf;have l2:=s2.len Yf;apply Zf;intro b1 Ze;apply Zg;simp;subst Ze;apply Zf;intro b1 Ze;apply Zg;simp[Q9];subst Ze;apply Zf;intro b1 Ze;apply Zf;intro b2 Zp;apply Zg;simp[l1,l2,Oh];subst Zp;by_cases hl:xs.length=zs.length
 ·refine Za (t:=false) (by simp[hl]) ?_;apply Zl;subst Ze;apply Zf;intro b1 Ze;apply Zf;intro b2 Zp;apply Zg;simp[l1];subst Zp;apply Zu;refine Yv (fun m s'=>s'.k=29/\s'.H=H1/\ ∃(i:Nat),m+i=xs.length/\xs.take i=zs.take i/\s'.tm.get 1=some w/\s'.tm.get 5=some v1/\s'.tm.get 15=some (.int .i64 (xs.length:Int))/\s'.tm.get 16=some (.int .i64 (i:Int))) ?_ xs.length _ ⟨rfl,rfl,0,by omega,rfl,by simp,by simp,by simp,by simp⟩;rintro m ⟨k,tm,H2⟩ ⟨hk,hH,i,NR,he,t1,t5,t15,t16⟩ Q' YF;simp only at hk hH t1 t5 t15 t16;subst hk;subst hH;apply Zf;intro b3 ZH;apply Zg;simp[t15,t16];subst ZH;apply Zf;intro b3 ZH;by_cases hi:i<xs.length
  ·refine Za (t:=true) (by simp[hi]) ?_;apply Zl;subst ZH;have GF:i<zs.length:=by omega
   have a1:=s1.adr Yf (k:= .i64) hi;have d1:=s1.load hi;have a2:=s2.adr Yf (k:= .i64) GF;have d2:=s2.load GF;apply Zf;intro b3 ZH;apply Zu;apply Zf;intro b4 Yt;apply Zg;simp[t16];subst Yt;apply Zf;intro b4 Yt;apply Tq (by kernel_rfl);simp[t1,t5,a1,a2,d1,d2,Oh];subst Yt;by_cases TQ:xs[i]=zs[i];·refine Za (t:=false) (by simp[TQ]) ?_;apply Zl;subst ZH;apply Zg;simp[t16,Yy (x:=i) (by omega)];apply YF;refine⟨m-1,by omega,rfl,rfl,i+1,by omega,?_,by simp[t1],by simp[t5],by simp[t15],by simp⟩;rw[Xk hi,Xk GF,he,TQ]
   ·refine Za (t:=true) (by simp[TQ]) ?_;apply Zf;intro b4 Yt;apply Zg;simp;subst Yt;apply Zq;have hd:xs≠zs:=by intro e;apply TQ;subst e;rfl
    apply YF;simp[Ys,Ye,TY,hd];exact k1
  ·refine Za (t:=false) (by simp[hi]) ?_;apply YZ;apply YF;left;refine⟨rfl,?_⟩;obtain rfl:i=xs.length:=by omega
   have yq:xs=zs:=by rwa[List.take_length,hl,List.take_length]at he
   subst Ze;apply Zf;intro b4 Yt;apply Zg;simp;subst Yt;apply Zq;simp[yq];exact k1
 ·refine Za (t:=true) (by simp[hl]) ?_;apply Zf;intro b2 Zp;apply Zg;simp;subst Zp;apply Zq;have hd:xs≠zs:=fun e=>hl (by rw[e]);simp[Ys,hd];exact k1
theorem dh{H:AH}{v:Value}{ys:List Nat}(h:Sl H v ys):CW Tryz.prog Zw 19 [v] H fun v' H'=>H'=H/\v'= .bool (decide (ys.length=0)):=by refine Z8 6 Tryz.func19 ?_;have l1:=h.len ZA;apply Zb;intro b1 Ze;simp;subst Ze;apply Zb;intro b1 Ze;simp[l1,Wo];subst Ze;apply Zq;simp
theorem lj{H:AH}{v:Value}{ys:List Nat}(h:Sl H v ys)(i:Nat):CW Tryz.prog Zw 130 [v,.int .i64 (i:Int)] H fun v' H'=>H'=H/\v'= .int .u64 (nth ys i:Int):=by
 refine Z8 13 Tryz.func130 ?_;have l1:=h.len ZA;apply Zb;intro b1 Ze;simp;subst Ze;apply Zf;intro b1 Ze;apply Zb;intro b2 Zp;simp[l1];subst Zp;by_cases hi:i<ys.length;·refine Za (t:=true) (by simp[hi]) ?_;have a1:=h.adr ZA (k:= .i64) hi;have d1:=h.load hi;apply Zb;intro b2 Zp;simp[a1,d1];subst Zp;apply Zq;simp[Ys,XF hi]
 ·refine Za (t:=false) (by simp[hi]) ?_;apply Zl;subst Ze;apply Zb;intro b2 Zp;simp;subst Zp;apply Zq;simp[V8 (Nat.le_of_not_lt hi)]
theorem Gy{H:AH}{v:Value}{ys:List Nat}(h:Sl H v ys)(i:Nat):ZY Tryz.prog Zw 130 [v,.int .i64 (i:Int)] H=some (.int .u64 (nth ys i:Int),H):=by obtain⟨_,_,hc,rfl,rfl⟩:=lj h i;exact hc
theorem XY(B:Nat)(xs:List Nat)(i:Nat):dv B (xs.take (i+1))=dv B (xs.take i)+B^i*nth xs i:=by
 by_cases h:i<xs.length;·rw[Xk h,Yr,List.length_take,Nat.min_eq_left (by omega),XF h];simp[dv]
 ·rw[List.take_of_length_le (by omega),List.take_of_length_le (by omega),V8 (by omega),Nat.mul_zero,Nat.add_zero]
theorem U2{B:Nat}{xs:List Nat}(h:YD B xs)(hB:0<B)(i:Nat):nth xs i<B:=by
 by_cases hi:i<xs.length;·rw[XF hi];exact h.get (List.getElem?_eq_getElem hi)
 ·rw[V8 (by omega)];exact hB
theorem Sx(B:Nat)(xs:List Nat)(j:Nat)(h:j<=xs.length):dv B xs=dv B (xs.take j)+B^j*dv B (xs.drop j):=by have:=congrArg (dv B) (List.take_append_drop j xs);rw[Yr,List.length_take,Nat.min_eq_left h]at this;exact this.symm
theorem Pw{B:Nat}{xs:List Nat}{k:Nat}(hB:0<B)(h:dv B xs<B^k):dv B (xs.take k)=dv B xs:=by
 rcases Nat.lt_or_ge xs.length k with hk|hk;·rw[List.take_of_length_le (by omega)]
 ·have e:=Sx B xs k hk;have:dv B (xs.drop k)=0:=by
   rcases Nat.eq_zero_or_pos (dv B (xs.drop k))with h0|h0;·exact h0
   ·exfalso;have:B^k*1<=B^k*dv B (xs.drop k):=Nat.mul_le_mul_left _ h0;omega
  rw[this,Nat.mul_zero]at e;omega
theorem Qz{B:Nat}(hB:2<=B){xs ys:List Nat}(hy:YS ys=ys)(dx:YD B xs)(dy:YD B ys)(h:xs.length<ys.length):dv B xs<dv B ys:=by
 have h1:=Ws dx;have e:ys=ds B (dv B ys):=by rw[<-Xl hB dy,hy]
 have TQ:dv B ys≠0:=by intro h0;rw[h0,XT]at e;rw[e]at h;simp at h
 have h2:=fV hB TQ;rw[<-e]at h2;have h3:B^xs.length<=B^(ys.length-1):=Nat.pow_le_pow_right (by omega) (by omega);omega
theorem Yl.fill{n:Nat}{H:AH}{v:Value}{L:List Nat}{m:Nat}(h:Yl n H v (L++List.replicate (m+1) 0)){i:Nat}(hL:L.length=i)(y:Nat): ∃H',YX Tryz.prog H 101 (adr v i) (.int .u64 (y:Int))=some H'/\Yl n H' v ((L++[y])++List.replicate m 0)/\Tp (YQ v) H H'/\KA n H H':=by obtain⟨H',h1,h2,h3,h4,h5⟩:=h.put (i:=i) (by simp;omega) y;refine⟨H',h1,?_,⟨h3,fun j _ hj=>h4 j hj⟩,h5⟩;rw[List.replicate_succ,WC _ _ _ _ hL]at h2;simpa using h2
theorem LG{H:AH}{v w:Value}{xs ys:List Nat}(hv:Sl H v xs)(hw:Sl H w ys)(dx:YD Z4 xs)(dy:YD Z4 ys)(lx:xs.length<=17592186000000)(ly:ys.length<=17592186000000):CW Tryz.prog Zw 91 [v,w] H fun v' H'=>Zh H H'/\Yl H.n H' v' (ds Z4 (dv Z4 xs+dv Z4 ys)):=by
 refine Z8 44 Tryz.func91 ?_;have l1:=hv.len ZA;have l2:=hw.len ZA;obtain⟨n,hn⟩:=hid (max xs.length ys.length);obtain⟨c0,H1,Qt,k1,o1,n1⟩:=YH (H:=H) ZA (n:=n+1) (by omega);apply Zb;intro b1 Ze;simp;subst Ze;apply Zb;intro b1 Ze;simp[l1];subst Ze;refine Y6 (fun s'=>s'.k=44/\s'.H=H/\s'.tm.get 0=some v/\s'.tm.get 1=some w/\s'.tm.get 5=some (.int .i64 (n:Int))) ?_ ?_
 ·intro Q' YF;apply Zb;intro b1 Ze;simp[l2,Vp];subst Ze;by_cases hc:xs.length<ys.length;·refine Za (t:=true) (by simp[hc]) ?_;apply Zg;simp[l2];apply YF;exact⟨rfl,rfl,by simp,by simp,by simp;omega⟩
  ·refine Za (t:=false) (by simp[hc]) ?_;apply Zl;apply YF;exact⟨rfl,rfl,by simp,by simp,by simp;omega⟩
 rintro⟨k,tm,H'⟩ ⟨hk,hH,t0,t1,t5⟩;simp only at hk hH t0 t1 t5;subst hk;subst hH;have hmk':VK Tryz.prog H' 37 (.int .i64 ((n+1:Nat):Int)) (.int .i64 ((n+1:Nat):Int))=some (c0,H1):=Qt;apply Zb;intro b1 Ze;simp[t5,Yy (x:=n) (by omega),hmk'];subst Ze;apply Zb;intro b1 Ze;simp;subst Ze;apply Zf;intro b1 Ze;apply Zb;intro b2 Zp;simp;subst Zp;apply Zu;refine Yv (fun m s'=>s'.k=44/\Zh H' s'.H/\ ∃(i carry:Nat) (L:List Nat),m+i=n+1/\L.length=i/\carry<=1/\YD Z4 L/\dv Z4 L+Z4^i*carry=dv Z4 (xs.take i)+dv Z4 (ys.take i)/\Yl H'.n s'.H c0 (L++List.replicate m 0)/\s'.tm.get 0=some v/\s'.tm.get 1=some w/\s'.tm.get 5=some (.int .i64 (n:Int))/\s'.tm.get 6=some c0/\s'.tm.get 7=some (.int .u64 (carry:Int))/\s'.tm.get 8=some (.int .i64 (i:Int))) ?_ (n+1) _ ⟨rfl,k1,0,0,[],by omega,rfl,by omega,.nil _,by simp[dv],by simpa using o1,by simp[t0],by simp[t1],by simp[t5],by simp,by simp,by simp⟩;clear t0 t1 t5;rintro m ⟨k,tm,H2⟩ ⟨hk,kH,i,carry,L,NR,hL,hc,dL,heq,own,t0,t1,t5,t6,t7,t8⟩ Q' YF;simp only at hk kH own t0 t1 t5 t6 t7 t8;subst hk;apply Zf;intro b3 ZH;apply Zb;intro b4 Yt;simp[t5,t8,Ob];subst Yt;by_cases hi:i<=n
 ·refine Za (t:=true) (by simp[hi]) ?_;apply Zl;subst ZH;obtain⟨m',rfl⟩: ∃m',m=m'+1:=⟨m-1,by omega⟩;have c1:=Gy (hv.keep kH) i;have c2:=Gy (hw.keep kH) i;have hx:nth xs i<4294967296:=U2 dx (by decide) i;have hy:nth ys i<4294967296:=U2 dy (by decide) i;have ex:=XY Z4 xs i;have ey:=XY Z4 ys i;obtain⟨x,Ni⟩:=hid (nth xs i);obtain⟨y,mK⟩:=hid (nth ys i);rw[<-Ni]at c1 hx ex;rw[<-mK]at c2 hy ey;have m1:Zc .add .u64 (x:Int) (y:Int)=some (.int .u64 ((x+y:Nat):Int)):=Wf (by show _<18446744073709551616;omega);have m2:Zc .add .u64 ((x+y:Nat):Int) (carry:Int)=some (.int .u64 ((x+y+carry:Nat):Int)):=Wf (by show _<18446744073709551616;omega);obtain⟨z,hz⟩:=hid (x+y+carry);rw[<-hz]at m2;have Be:z<Zd:=by show z<18446744073709551616;omega
  obtain⟨H3,S7,RS,ff,Nk⟩:=own.fill hL (z%4294967296);have a3:=own.sl.adr ZA (k:= .i64) (i:=i) (by simp;omega);apply Zf;intro b3 ZH;apply Zu;apply Zb;intro b4 Yt;simp[t0,t1,t7,t8,c1,c2,m1,m2];subst Yt;apply Zb;intro b4 Yt;simp[t6,t8,DT,a3,S7];subst Yt;apply Zg;simp[Dx Be];subst ZH;apply Zg;simp[t8,Yy (x:=i) (by omega)];apply YF;refine⟨m',by omega,rfl,Nk H' kH (Nat.le_refl _),i+1,z/4294967296,L++[z%4294967296],by omega,by simp[hL],by omega,dL.append (.cons (Nat.mod_lt _ (by decide)) (.nil _)),?_,RS,by simp[t0],by simp[t1],by simp[t5],by simp[t6],by simp,by simp⟩;rw[Yr,hL,ex,ey];simp only[dv,Nat.mul_zero,Nat.add_zero];have e1:Z4^i*(z%4294967296+4294967296*(z/4294967296))=Z4^i*(x+y+carry):=by rw[Nat.mod_add_div,hz]
  rw[Nat.mul_add,<-Nat.mul_assoc,show Z4^i*4294967296=Z4^(i+1)from rfl,Nat.mul_add,Nat.mul_add]at e1;omega
 ·refine Za (t:=false) (by simp[hi]) ?_;apply YZ;apply YF;left;refine⟨rfl,?_⟩;obtain rfl:i=n+1:=by omega
  obtain rfl:m=0:=by omega
  simp at own;rw[List.take_of_length_le (by omega),List.take_of_length_le (by omega)]at heq;have RV:dv Z4 L=dv Z4 xs+dv Z4 ys:=by
   have h1:=Ws dx;have h2:=Ws dy;have h3:Z4^xs.length<=Z4^n:=Nat.pow_le_pow_right (by decide) (by omega);have h4:Z4^ys.length<=Z4^n:=Nat.pow_le_pow_right (by decide) (by omega);have h5:Z4^(n+1)=Z4^n*4294967296:=rfl;rcases Nat.lt_or_ge carry 1 with h0|h0
   ·obtain rfl:carry=0:=by omega
    rw[Nat.mul_zero]at heq;omega
   ·obtain rfl:carry=1:=by omega
    rw[Nat.mul_one]at heq;omega
  obtain⟨v5,H5,Kg,e5,o5,_⟩:=VJ own (by omega);subst e5;rw[Xl two32 dL,RV]at o5;subst Ze;apply Zb;intro b4 Yt;simp[t6,Kg];subst Yt;apply Zq;simp;exact⟨kH,o5⟩
theorem LC{H:AH}{v w:Value}{xs ys:List Nat}(hv:Sl H v xs)(hw:Sl H w ys)(dx:YD Z4 xs)(dy:YD Z4 ys)(lx:xs.length<=17592186000000)(hle:dv Z4 ys<=dv Z4 xs):CW Tryz.prog Zw 93 [v,w] H fun v' H'=>Zh H H'/\Yl H.n H' v' (ds Z4 (dv Z4 xs-dv Z4 ys)):=by
 refine Z8 39 Tryz.func93 ?_;have l1:=hv.len ZA;obtain⟨n,hn⟩:=hid (xs.length);rw[<-hn]at l1;obtain⟨c0,H1,Qt,k1,o1,n1⟩:=YH (H:=H) ZA (n:=n) (by omega);apply Zb;intro b1 Ze;simp;subst Ze;apply Zb;intro b1 Ze;simp[l1,Qt];subst Ze;apply Zb;intro b1 Ze;simp;subst Ze;apply Zf;intro b1 Ze;apply Zb;intro b2 Zp;simp[l1];subst Zp;apply Zu;refine Yv (fun m s'=>s'.k=39/\Zh H s'.H/\ ∃(i SX:Nat) (L:List Nat),m+i=n/\L.length=i/\SX<=1/\YD Z4 L/\dv Z4 L+dv Z4 (ys.take i)=dv Z4 (xs.take i)+Z4^i*SX/\Yl H.n s'.H c0 (L++List.replicate m 0)/\s'.tm.get 0=some v/\s'.tm.get 1=some w/\s'.tm.get 5=some c0/\s'.tm.get 6=some (.int .u64 (SX:Int))/\s'.tm.get 13=some (.int .i64 (n:Int))/\s'.tm.get 14=some (.int .i64 (i:Int))) ?_ n _ ⟨rfl,k1,0,0,[],by omega,rfl,by omega,.nil _,by simp[dv],by simpa using o1,by simp,by simp,by simp,by simp,by simp,by simp⟩;rintro m ⟨k,tm,H2⟩ ⟨hk,kH,i,SX,L,NR,hL,hb,dL,heq,own,t0,t1,t5,t6,t13,t14⟩ Q' YF;simp only at hk kH own t0 t1 t5 t6 t13 t14;subst hk;apply Zb;intro b3 ZH;simp[t13,t14];subst ZH;apply Zf;intro b3 ZH;by_cases hi:i<n
 ·refine Za (t:=true) (by simp[hi]) ?_;apply Zl;subst ZH;obtain⟨m',rfl⟩: ∃m',m=m'+1:=⟨m-1,by omega⟩;have V5:i<xs.length:=by omega
  have sv:=hv.keep kH;have a1:=sv.adr ZA (k:= .i64) V5;have d1:=sv.top.load V5;have c2:=Gy (hw.keep kH).top i;have hx:nth xs i<4294967296:=U2 dx (by decide) i;have hy:nth ys i<4294967296:=U2 dy (by decide) i;have ex:=XY Z4 xs i;have ey:=XY Z4 ys i;rw[<-XF V5]at d1;obtain⟨x,Ni⟩:=hid (nth xs i);obtain⟨y,mK⟩:=hid (nth ys i);rw[<-Ni]at d1 hx ex;rw[<-mK]at c2 hy ey;have m1:Zc .add .u64 (x:Int) 4294967296=some (.int .u64 ((x+4294967296:Nat):Int)):=Wf (y:=4294967296) (by show _<18446744073709551616;omega);have m2:Zc .sub .u64 ((x+4294967296:Nat):Int) (y:Int)=some (.int .u64 ((x+4294967296-y:Nat):Int)):=Sr (by show _<18446744073709551616;omega) (by omega);have m3:Zc .sub .u64 ((x+4294967296-y:Nat):Int) (SX:Int)=some (.int .u64 ((x+4294967296-y-SX:Nat):Int)):=Sr (by show _<18446744073709551616;omega) (by omega);obtain⟨z,hz⟩:=hid (x+4294967296-y-SX);rw[<-hz]at m3;have Be:z<Zd:=by show z<18446744073709551616;omega
  have hz1:z/4294967296<=1:=by omega
  have m4:Zc .sub .u64 1 ((z/4294967296:Nat):Int)=some (.int .u64 ((1-z/4294967296:Nat):Int)):=Sr (x:=1) (by decide) hz1;obtain⟨H3,S7,RS,ff,Nk⟩:=own.fill hL (z%4294967296);have a3:=own.sl.adr ZA (k:= .i64) (i:=i) (by simp;omega);apply Zf;intro b3 ZH;apply Zu;apply Zb;intro b4 Yt;simp[t14];subst Yt;apply Zf;intro b4 Yt;apply NO (by kernel_rfl);simp[t0,t1,t6,a1,d1,c2,m1,m2,m3];subst Yt;apply Zb;intro b4 Yt;simp[t5,DT,a3,S7];subst Yt;apply Zg;simp[Dx Be,m4];subst ZH;apply Zg;simp[t14,Yy (x:=i) (by omega)];apply YF;refine⟨m',by omega,rfl,Nk H kH (Nat.le_refl _),i+1,1-z/4294967296,L++[z%4294967296],by omega,by simp[hL],by omega,dL.append (.cons (Nat.mod_lt _ (by decide)) (.nil _)),?_,RS,by simp[t0],by simp[t1],by simp[t5],by simp,by simp[t13],by simp⟩;rw[Yr,hL,ex,ey];simp only[dv,Nat.mul_zero,Nat.add_zero];have e0:z%4294967296+y+SX=x+4294967296*(1-z/4294967296):=by omega
  have e1:Z4^i*(z%4294967296+y+SX)=Z4^i*(x+4294967296*(1-z/4294967296)):=by rw[e0]
  rw[Nat.mul_add (Z4^i) x,<-Nat.mul_assoc,show Z4^i*4294967296=Z4^(i+1)from rfl,Nat.mul_add,Nat.mul_add]at e1;omega
 ·refine Za (t:=false) (by simp[hi]) ?_;apply YZ;apply YF;left;refine⟨rfl,?_⟩;obtain rfl:i=n:=by omega
  obtain rfl:m=0:=by omega
  simp at own;have qX:=Ws dx;rw[<-hn]at qX;rw[List.take_of_length_le (l:=xs) (by omega),Pw (by decide) (Nat.lt_of_le_of_lt hle qX)]at heq;have RV:dv Z4 L=dv Z4 xs-dv Z4 ys:=by
   have h1:=Ws dL;rw[hL]at h1;rcases Nat.lt_or_ge SX 1 with h0|h0
   ·obtain rfl:SX=0:=by omega
    rw[Nat.mul_zero]at heq;omega
   ·obtain rfl:SX=1:=by omega
    rw[Nat.mul_one]at heq;omega
  obtain⟨v5,H5,Kg,e5,o5,_⟩:=VJ own (by omega);subst e5;rw[Xl two32 dL,RV]at o5;subst Ze;apply Zb;intro b4 Yt;simp[t5,Kg];subst Yt;apply Zq;simp;exact⟨kH,o5⟩
theorem Rp{va vb:Value}{xs ys:List Nat}{H:AH}(s1:Sl H va xs)(s2:Sl H vb ys)(dx:YD Z4 xs)(dy:YD Z4 ys)(tx:YS xs=xs)(ty:YS ys=ys)(lx:xs.length<=17592186044416)(ly:ys.length<=17592186044416):CW Tryz.prog Zw 60 [va,vb] H fun v H'=>H'=H/\v= .int .i64 (XS (dv Z4 xs) (dv Z4 ys)):=by
 refine Z8 41 Tryz.func60 ?_;have l1:=s1.len ZA;have l2:=s2.len ZA;apply Zb;intro b1 Ze;simp;subst Ze;apply Zf;intro b1 Ze;apply Zb;intro b2 Zp;simp[l1,l2,Oh];subst Zp;by_cases hl:xs.length=ys.length
 ·refine Za (t:=false) (by simp[hl]) ?_;apply Zl;subst Ze;apply Zf;intro b1 Ze;apply Zf;intro b2 Zp;have w1:Zc .sub .i64 (xs.length:Int) 1=some (.int .i64 ((xs.length:Int)-1)):=by show some (Value.int .i64 (IntKind.i64.wrap ((xs.length:Int)-1)))=_;congr 2;rw[IntKind.wrap_i64];omega
  apply Zg;simp[l1,w1];subst Zp;apply Zu;refine Yv (fun n s=>s.k=41/\s.H=H/\s.tm.get 0=some va/\s.tm.get 1=some vb/\s.tm.get 5=some (.int .i64 ((n:Int)-1))/\n<=xs.length/\xs.drop n=ys.drop n) ?_ xs.length _ ⟨rfl,rfl,by simp,by simp,by simp,Nat.le_refl _,by rw[List.drop_length,hl,List.drop_length]⟩;rintro n ⟨k,tm,H'⟩ ⟨h2,h3,h4,h5,h6,h7,h8⟩ Q' YF;simp only at h2 h3 h4 h5 h6;subst h2;subst h3;have SM:Zc .geq .i64 ((n:Int)-1) 0=some (.bool (decide (0<n))):=by show some (Value.bool (decide ((n:Int)-1≥0)))=_;congr 2;apply decide_eq_decide.mpr;omega
  apply Zf;intro b2 Zp;apply Zb;intro b3 ZH;simp[h6,SM];subst ZH;by_cases hz:n=0
  ·subst hz;refine Za (t:=false) (by simp) ?_;apply YZ;apply YF;left;refine⟨rfl,?_⟩;subst Ze;apply Zb;intro b4 Yt;simp;subst Yt;apply Zq;have:xs=ys:=by simpa using h8
   simp[XS,this]
  ·have e:(n:Int)-1=((n-1:Nat):Int):=by omega
   refine Za (t:=true) (by simp;omega) ?_;apply Zl;subst Zp;have i1:n-1<xs.length:=by omega
   have i2:n-1<ys.length:=by omega
   have a1:=s1.adr ZA (k:= .i64) i1;have a2:=s2.adr ZA (k:= .i64) i2;have d1:=s1.load i1;have d2:=s2.load i2;rw[e]at h6;have sx:xs=xs.take (n-1)++xs[n-1]::xs.drop n:=by have:=List.take_append_drop (n-1) xs;rw[List.drop_eq_getElem_cons i1,show n-1+1=n by omega]at this;exact this.symm
   have sy:ys=ys.take (n-1)++ys[n-1]::ys.drop n:=by have:=List.take_append_drop (n-1) ys;rw[List.drop_eq_getElem_cons i2,show n-1+1=n by omega]at this;exact this.symm
   have zB:(xs.take (n-1)).length=(ys.take (n-1)).length:=by simp[List.length_take,hl]
   apply Zf;intro b4 Yt;apply Zu;apply Zf;intro b5 Ui;apply Zf;intro b6 RX;apply Tq (by kernel_rfl);simp[h4,h5,h6,a1,a2,d1,d2];subst RX;by_cases YR:xs[n-1]<ys[n-1]
   ·refine Za (t:=true) (by simp;omega) ?_;apply Zb;intro b7 ES;simp;subst ES;apply Zq;have hd:dv Z4 xs<dv Z4 ys:=by rw[sx,sy,h8];exact GS (dx.take _) (dy.take _) zB YR _
    apply YF;simp[Ys,Ye,TY,XS,hd]
   ·refine Za (t:=false) (by simp;omega) ?_;apply Zl;subst Ui;apply Zf;intro b6 RX;apply Tq (by kernel_rfl);simp[h4,h5,h6,a1,a2,d1,d2,Vp];subst RX;by_cases yX:ys[n-1]<xs[n-1]
    ·refine Za (t:=true) (by simp;omega) ?_;apply Zb;intro b7 ES;simp;subst ES;apply Zq;have hd:dv Z4 ys<dv Z4 xs:=by rw[sx,sy,h8];exact GS (dy.take _) (dx.take _) zB.symm yX _
     have Ib: ¬dv Z4 xs<dv Z4 ys:=by omega
     apply YF;simp[Ys,Ye,TY,XS,hd,Ib]
    ·refine Za (t:=false) (by simp;omega) ?_;apply Zl;subst Yt;have Pd:Zc .sub .i64 ((n-1:Nat):Int) 1=some (.int .i64 (((n-1:Nat):Int)-1)):=by show some (Value.int .i64 (IntKind.i64.wrap (((n-1:Nat):Int)-1)))=_;congr 2;rw[IntKind.wrap_i64];omega
     apply Zg;simp[h6,Pd];apply YF;refine⟨n-1,by omega,rfl,rfl,?_⟩;simp[h4,h5];refine⟨by omega,?_⟩;rw[List.drop_eq_getElem_cons i1,List.drop_eq_getElem_cons i2,show n-1+1=n by omega,h8];congr 1;omega
 ·refine Za (t:=true) (by simp;omega) ?_;apply Zf;intro b2 Zp;apply Zb;intro b3 ZH;simp[l1,l2];subst ZH;by_cases YR:xs.length<ys.length;·refine Za (t:=true) (by simp;omega) ?_;apply Zb;intro b3 ZH;simp;subst ZH;apply Zq;have:=Qz two32 ty dx dy YR;simp[Ys,XS,this]
  ·refine Za (t:=false) (by simp;omega) ?_;apply Zl;subst Zp;apply Zb;intro b2 Zp;simp;subst Zp;apply Zq;have:=Qz two32 tx dy dx (by omega);have h2: ¬dv Z4 xs<dv Z4 ys:=by omega
   simp[Ys,XS,this,h2]
theorem KS{x y:Nat}(hx:x<9223372036854775808)(hy:0<y):Zc .quo .i64 (x:Int) (y:Int)=some (.int .i64 ((x/y:Nat):Int)):=by
 have hle:x/y<=x:=Nat.div_le_self x y;have h0: ¬ ((y:Int)=0):=by omega
 have e:IntKind.i64.wrap ((x:Int).tdiv (y:Int))=((x/y:Nat):Int):=by rw[IntKind.wrap_i64,Int.tdiv_eq_ediv_of_nonneg (by omega),<-Int.natCast_ediv];generalize x/y=q at*;omega
 show(if(y:Int)=0 then none else some (Value.int .i64 (IntKind.i64.wrap ((x:Int).tdiv (y:Int)))))=_;rw[if_neg h0,e]
theorem Fz{x y:Nat}(hy:0<y):Zc .rem .i64 (x:Int) (y:Int)=some (.int .i64 ((x%y:Nat):Int)):=by
 have h0: ¬ ((y:Int)=0):=by omega
 have e:(x:Int).tmod (y:Int)=((x%y:Nat):Int):=by rw[Int.tmod_eq_emod_of_nonneg (by omega),<-Int.natCast_emod]
 show(if(y:Int)=0 then none else some (Value.int .i64 ((x:Int).tmod (y:Int))))=_;rw[if_neg h0,e]
theorem ue{x:Nat}(hx:x<9223372036854775808):Zc .quo .i64 (x:Int) 32=some (.int .i64 ((x/32:Nat):Int)):=KS (y:=32) hx (by decide)
theorem ug{x:Nat} :Zc .rem .i64 (x:Int) 32=some (.int .i64 ((x%32:Nat):Int)):=Fz (y:=32) (by decide)
theorem xy{x c s:Nat}(hx:x<Z4)(hs:s<32)(hc:c<2^s):x*2^s%Z4+c<Z4/\x*2^s/Z4<2^s/\x*2^s=x*2^s%Z4+Z4*(x*2^s/Z4)/\x*2^s<Zd:=by
 have e:Z4=2^(32-s)*2^s:=by rw[<-Nat.pow_add,show 32-s+s=32 by omega]
 have hp:=Nat.two_pow_pos s;refine⟨?_,?_,(Nat.mod_add_div _ _).symm,?_⟩
 ·have e1:x*2^s%Z4=x%2^(32-s)*2^s:=by rw[e,Nat.mul_mod_mul_right]
  have h2:x%2^(32-s)<2^(32-s):=Nat.mod_lt _ (Nat.two_pow_pos _);rw[e1];have:(x%2^(32-s)+1)*2^s<=2^(32-s)*2^s:=Nat.mul_le_mul_right _ h2;rw[<-e,Nat.succ_mul]at this;omega
 ·rw[Nat.div_lt_iff_lt_mul (by decide),Nat.mul_comm];exact Nat.mul_lt_mul_of_pos_left hx hp
 ·have h1:2^s<=2^32:=Nat.pow_le_pow_right (by decide) (by omega);have h2:x*2^s<=4294967295*2^32:=Nat.mul_le_mul (by have:x<4294967296:=hx;omega) h1;show _<18446744073709551616;omega
theorem PF{H:AH}{v:Value}{xs:List Nat}(hv:Sl H v xs)(dx:YD Z4 xs)(lx:xs.length<=8000000000000){n:Nat}(hn:n<=8000000000000):CW Tryz.prog Zw 92 [v,.int .i64 (n:Int)] H fun v' H'=>Zh H H'/\Yl H.n H' v' (ds Z4 (dv Z4 xs*2^n)):=by
 refine Z8 55 Tryz.func92 ?_;have l1:=hv.len ZA;apply Zb;intro b1 Ze;simp;subst Ze;apply Zf;intro b1 Ze;apply Zb;intro b2 Zp;simp[l1,Wo];subst Zp;by_cases h0:xs.length=0;·obtain rfl:xs=[]:=List.length_eq_zero_iff.mp h0;refine Za (t:=true) (by simp) ?_;apply Zb;intro b2 Zp;simp;subst Zp;apply Zq;simp[Ys,dv,XT];exact⟨.refl H,.nil⟩
 ·refine Za (t:=false) (by simp;intro h;exact h0 (by rw[h];rfl)) ?_;apply Zl;subst Ze;obtain⟨w,hw⟩:=hid (n/32);obtain⟨s,hs⟩:=hid (n%32);have hs32:s<32:=by omega
  have hnw:n=32*w+s:=by omega
  have q1:Zc .quo .i64 (n:Int) 32=some (.int .i64 (w:Int)):=by rw[hw];exact ue (by omega)
  have q2:Zc .rem .i64 (n:Int) 32=some (.int .i64 (s:Int)):=by rw[hs];exact ug
  have q3:Zc .add .i64 (xs.length:Int) (w:Int)=some (.int .i64 ((xs.length+w:Nat):Int)):=Wm (by omega);obtain⟨c0,H1,Qt,k1,o1,n1⟩:=YH (H:=H) ZA (n:=xs.length+w+1) (by omega);apply Zb;intro b1 Ze;simp[l1,q1,q3,Yy (x:=xs.length+w) (by omega),Qt];subst Ze;apply Zb;intro b1 Ze;simp[q2];subst Ze;apply Zf;intro b1 Ze;apply Zb;intro b2 Zp;simp[l1];subst Zp;apply Zu;refine Yv (fun m s'=>s'.k=55/\Zh H s'.H/\ ∃(i c:Nat) (L:List Nat),m+i=xs.length/\L.length=i/\c<2^s/\YD Z4 L/\dv Z4 L+Z4^i*c=dv Z4 (xs.take i)*2^s/\Yl H.n s'.H c0 ((List.replicate w 0++L)++c::List.replicate m 0)/\s'.tm.get 1=some (.int .i64 (n:Int))/\s'.tm.get 5=some c0/\s'.tm.get 6=some (.int .i64 (s:Int))/\s'.tm.get 21=some v/\s'.tm.get 22=some (.int .i64 (xs.length:Int))/\s'.tm.get 23=some (.int .i64 (i:Int))) ?_ xs.length _ ⟨rfl,k1,0,0,[],by omega,rfl,Nat.two_pow_pos s,.nil _,by simp[dv],by
   have e:List.replicate (xs.length+w+1) 0=(List.replicate w 0++[])++0::List.replicate xs.length 0:=by rw[List.append_nil,<-List.replicate_succ,List.replicate_append_replicate];congr 1;omega
   rw[<-e];exact o1,by simp,by simp,by simp,by simp,by simp,by simp⟩;rintro m ⟨k,tm,H2⟩ ⟨hk,kH,i,c,L,NR,hL,hc,dL,heq,own,t1,t5,t6,t21,t22,t23⟩ Q' YF;simp only at hk kH own t1 t5 t6 t21 t22 t23;subst hk;apply Zb;intro b3 ZH;simp[t22,t23];subst ZH;apply Zf;intro b3 ZH;by_cases hi:i<xs.length
  ·refine Za (t:=true) (by simp[hi]) ?_;apply Zl;subst ZH;obtain⟨m',rfl⟩: ∃m',m=m'+1:=⟨m-1,by omega⟩;have sv:=hv.keep kH;have a1:=sv.adr ZA (k:= .i64) hi;have d1:=sv.load hi;have hx:xs[i]<Z4:=dx.get (List.getElem?_eq_getElem hi);obtain⟨x,Ni⟩:=hid (xs[i]);rw[<-Ni]at d1 hx;obtain⟨f1,f2,f3,f4⟩:=xy hx hs32 hc;obtain⟨p,hp⟩:=hid (x*2^s);rw[<-hp]at f1 f2 f3 f4;have m1:Y3 .shl .u64 (x:Int) (s:Int)=some (.int .u64 (p:Int)):=by rw[Sq (by omega),<-hp,Nat.mod_eq_of_lt f4]
   have m2:Zc .add .i64 (i:Int) (w:Int)=some (.int .i64 ((i+w:Nat):Int)):=Wm (by omega);have lp:(List.replicate w 0++L).length=i+w:=by simp[hL];omega
   have m3:Zc .add .u64 (c:Int) ((p%4294967296:Nat):Int)=some (.int .u64 ((p%4294967296+c:Nat):Int)):=by rw[Wf (by rw[Nat.add_comm];exact eP f1),Nat.add_comm]
   have a2:=own.sl.adr ZA (k:= .i64) (i:=i+w) (by simp[hL];omega);have d2:=own.sl.load (i:=i+w) (by simp[hL];omega);rw[N4 _ _ _ lp]at d2;obtain⟨H3,S7,RS,n3,ff,Nk⟩:=own.put (i:=i+w) (by simp[hL];omega) (p%4294967296+c);rw[WC _ _ _ _ lp]at RS;have a3:=RS.sl.adr ZA (k:= .i64) (i:=i+w+1) (by simp[hL];omega);obtain⟨H4,W4,VV,n4,ry,VP⟩:=RS.put (i:=i+w+1) (by simp[hL];omega) (p/4294967296);have Sf:(List.replicate w 0++L++(p%4294967296+c)::List.replicate (m'+1) 0).set (i+w+1) (p/4294967296)=(List.replicate w 0++(L++[p%4294967296+c]))++(p/4294967296)::List.replicate m' 0:=by rw[show List.replicate w 0++L++(p%4294967296+c)::List.replicate (m'+1) 0=(List.replicate w 0++(L++[p%4294967296+c]))++0::List.replicate m' 0 by simp[List.replicate_succ]];exact WC _ _ _ _ (by simp[hL];omega)
   rw[Sf]at VV;apply Zf;intro b3 ZH;apply Zu;apply Zb;intro b4 Yt;simp[t21,t23,a1,d1];subst Yt;apply Zf;intro b4 Yt;apply pn (by kernel_rfl);simp[t1,t5,t6,q1,m1,m2,m3,a2,d2,DT,S7];subst Yt;apply Zg;simp[t1,t5,t6,q1,m1,m2,Yy (x:=i+w) (by omega),a3,Dx f4,W4];subst ZH;apply Zg;simp[t23,Yy (x:=i) (by omega)];apply YF;refine⟨m',by omega,rfl,VP H (Nk H kH (Nat.le_refl _)) (Nat.le_refl _),i+1,p/4294967296,L++[p%4294967296+c],by omega,by simp[hL],f2,dL.append (.cons f1 (.nil _)),?_,VV,by simp[t1],by simp[t5],by simp[t6],by simp[t21],by simp[t22],by simp⟩;rw[Yr,hL,Xk hi,Yr,List.length_take,Nat.min_eq_left (by omega),<-Ni];simp only[dv,Nat.mul_zero,Nat.add_zero];rw[Nat.add_mul,<-heq,Nat.mul_assoc (Z4^i) x,<-hp];have e1:Z4^i*p=Z4^i*(p%Z4+Z4*(p/Z4)):=by rw[<-f3]
   rw[Nat.mul_add,<-Nat.mul_assoc,show Z4^i*Z4=Z4^(i+1)from rfl]at e1;have e2:Z4^i*(p%4294967296+c)=Z4^i*(p%Z4)+Z4^i*c:=Nat.mul_add _ _ _;have e3:Z4^(i+1)*(p/4294967296)=Z4^(i+1)*(p/Z4):=rfl;omega
  ·refine Za (t:=false) (by simp[hi]) ?_;apply YZ;apply YF;left;refine⟨rfl,?_⟩;obtain rfl:i=xs.length:=by omega
   obtain rfl:m=0:=by omega
   rw[List.take_length]at heq;obtain⟨v5,H5,Kg,e5,o5,_⟩:=VJ own (by simp[hL];omega);subst e5;have dall:YD Z4 ((List.replicate w 0++L)++[c]):=by
    refine YD.append (YD.append ?_ dL) (.cons ?_ (.nil _));·intro x hx;rw[List.eq_of_mem_replicate hx];decide
    ·exact Nat.lt_of_lt_of_le hc (by show 2^s<=2^32;exact Nat.pow_le_pow_right (by decide) (by omega))
   have hval:dv Z4 ((List.replicate w 0++L)++[c])=dv Z4 xs*2^n:=by rw[List.append_assoc,Yr,Yr,UH,List.length_replicate,hL];simp only[dv,Nat.mul_zero,Nat.add_zero];rw[heq,Nat.zero_add,hnw,Nat.pow_add,Nat.pow_mul];show Z4^w*(dv Z4 xs*2^s)=dv Z4 xs*(Z4^w*2^s);rw[Nat.mul_left_comm]
   simp only[List.replicate_zero]at o5;rw[Xl two32 dall,hval]at o5;subst Ze;apply Zb;intro b4 Yt;simp[t5,Kg];subst Yt;apply Zq;simp;exact⟨kH,o5⟩
end
end
end Go.Proofs.YtmkfecoeghokfaaGreatDoor
