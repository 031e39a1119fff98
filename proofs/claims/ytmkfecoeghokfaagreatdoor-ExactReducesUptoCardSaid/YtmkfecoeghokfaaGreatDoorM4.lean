/-
  The engine and the walks that the claim's last text leans on, part 4 of 10: Nk, Nq, Nl, Nm, Nr, EvS, Ns, Nt, Nu, Nv, Nw, Nx, Oa, Ob, Oc, Od, Oe.
-/
import Derived.Test.YtmkfecoeghokfaaGreatDoorM3
namespace Go.Proofs.YtmkfecoeghokfaaGreatDoor
open Go Ev
set_option linter.unusedVariables false
set_option linter.unusedSimpArgs false
noncomputable section
set_option maxHeartbeats 2000000
set_option maxRecDepth 20000
section
attribute [-simp] Int.natCast_add Int.natCast_mul Int.natCast_ediv Int.natCast_emod Int.natCast_pow
attribute [local simp] strip ZN Xr gW ZB Yj ZU Yk ZG Yl Zw Zx Zj ZF Yd ZL Z1 Zl ZE Zk Zi Z0 ZA YK Zs Yf Y2 YW ZH plain ZM Tr.get_set Yz Zt Yt ZS sameKind undef ZZ ZD Yc Zv ZC Yh ZT parts ZJ XI DW Ym ZX ZV Zr ZI ZO XT Yi Zm ZP ZY ZR
def nth(xs:List Nat)(i:Nat):Nat:=xs[i]?.getD 0
theorem XF{xs:List Nat}{i:Nat}(h:i<xs.length):nth xs i=xs[i]:=by unfold nth;rw[List.getElem?_eq_getElem h];rfl
theorem Uf{xs:List Nat}{i:Nat}(h:xs.length<=i):nth xs i=0:=by unfold nth;rw[List.getElem?_eq_none h];rfl
theorem bj{v:Value}{xs:List Nat}{H:AH}(hs:Sl H v xs)(dx:YC Zd xs)(hlen:xs.length<=17592186044000){s:Nat}(gp:s<64):CW Tryz.prog Zu 219 [v,.int .u64 (s:Int)] H fun v' H'=>Zg H H'/\Yo H.n H' v' (ds Zd (dv Zd xs/2^s)):=by
 refine Z2 47 Tryz.func219 ?_;obtain⟨c0,H1,QV,k1,o1,n1⟩:=YG (H:=H) Zv (n:=xs.length) (by omega);have l0:=hs.len Zv;apply Zb;intro b1 Ze;simp;subst Ze;apply Zb;intro b1 Ze;simp[l0,QV];subst Ze;apply Zf;intro b1 Ze;apply Zb;intro b2 Zp;simp[l0];subst Zp;apply Zz;refine YU (fun m s'=>s'.k=47/\ ∃(i:Nat) (L:List Nat),m+i=xs.length/\L.length=i/\YC Zd L/\dv Zd L*2^s+nth xs 0%2^s=dv Zd (xs.take i)+Zd^i*(nth xs i%2^s)/\Zg H s'.H/\Yo H.n s'.H c0 (L++List.replicate m 0)/\s'.tm.get 0=some v/\s'.tm.get 1=some (.int .u64 (s:Int))/\s'.tm.get 5=some c0/\s'.tm.get 11=some v/\s'.tm.get 12=some (.int .i64 (xs.length:Int))/\s'.tm.get 13=some (.int .i64 (i:Int))) ?_ xs.length _ ⟨rfl,0,[],by omega,rfl,.nil _,by simp[dv],k1,o1,by simp,by simp,by simp,by simp,by simp,by simp⟩;rintro m ⟨k,tm,H2⟩ ⟨hk,i,L,M5,hL,dL,hv,kH,own,t0,t1,t5,t11,t12,t13⟩ Q' Y0;simp only at hk t0 t1 t5 t11 t12 t13 kH own;subst hk;apply Zb;intro b3 Z3;simp[t12,t13];subst Z3;apply Zf;intro b3 Z3;by_cases hi:i<xs.length
 ·refine Za (t:=true) (by simp[hi]) ?_;apply Zn;subst Z3;have s2:=hs.keep kH;have a1:=s2.adr Zv (k:= .i64) hi;have d1:=s2.load hi;have hx:xs[i]<Zd:=dx.get (List.getElem?_eq_getElem hi);obtain⟨m',rfl⟩: ∃m',m=m'+1:=⟨m-1,by omega⟩;have Za0:Yo H.n H2 c0 (L++0::List.replicate m' 0):=by rw[List.replicate_succ]at own;exact own
  have a2:=Za0.sl.adr Zv (k:= .i64) (i:=i) (by simp;omega);have hq:xs[i]/2^s<2^(64-s):=by rw[Nat.div_lt_iff_lt_mul (Nat.two_pow_pos _),<-Nat.pow_add,show 64-s+s=64 by omega];exact hx
  have dE:xs[i]/2^s<Zd:=Nat.lt_of_lt_of_le hq (by show _<=2^64;exact Nat.pow_le_pow_right (by decide) (by omega));obtain⟨H3,SF,RN,n3,kp3⟩:=Za0.store (i:=i) (by simp;omega) (xs[i]/2^s);rw[Vd L 0 _ _ hL]at RN;have Iy:=kp3 H kH (Nat.le_refl _);apply Zf;intro b3 Z3;have low:nth xs (i+1)%2^s<2^s:=Nat.mod_lt _ (Nat.two_pow_pos _);have e64:2^s*2^(64-s)=Zd:=by rw[<-Nat.pow_add,show s+(64-s)=64 by omega]
  have fin: ∀(oe:Tr Value)(H4:AH),Zg H H4->Yo H.n H4 c0 (L++(nth xs (i+1)%2^s*2^(64-s)+xs[i]/2^s)::List.replicate m' 0)->oe.get 0=some v->oe.get 1=some (.int .u64 (s:Int))->oe.get 5=some c0->oe.get 11=some v->oe.get 12=some (.int .i64 (xs.length:Int))->oe.get 13=some (.int .i64 (i:Int))->W Tryz.prog Zu b3 ⟨47,oe,H4⟩ Q':=fun oe H4 k4 o4 q0 q1 q5 q11 q12 q13=>by
   subst Z3;apply Zh;simp[q13,YO (x:=i) (by omega)];apply Y0;refine⟨m',by omega,rfl,i+1,L++[nth xs (i+1)%2^s*2^(64-s)+xs[i]/2^s],by omega,by simp[hL],?_,?_,k4,by simpa using o4,by simp[q0],by simp[q1],by simp[q5],by simp[q11],by simp[q12],by simp⟩;·refine dL.append (.cons ?_ (.nil _));have:(nth xs (i+1)%2^s+1)*2^(64-s)<=2^s*2^(64-s):=Nat.mul_le_mul_right _ low;rw[e64,Nat.succ_mul]at this;omega
   ·rw[Yr,hL,Xm hi,Yr,List.length_take,Nat.min_eq_left (by omega)];simp only[dv,Nat.mul_zero,Nat.add_zero];rw[XF hi]at hv;have e1:2^s*(xs[i]/2^s)+xs[i]%2^s=xs[i]:=Nat.div_add_mod _ _;generalize nth xs (i+1)%2^s=u at*;generalize hr:xs[i]%2^s=r at*;generalize hqq:xs[i]/2^s=q at*;have e2:(u*2^(64-s)+q)*2^s=Zd*u+2^s*q:=by rw[Nat.add_mul,Nat.mul_assoc,Nat.mul_comm (2^(64-s)),e64,Nat.mul_comm u,Nat.mul_comm q]
    have e3:Zd^i*xs[i]=Zd^i*(2^s*q)+Zd^i*r:=by rw[<-Nat.mul_add,e1]
    rw[Nat.add_mul,Nat.mul_assoc (Zd^i),e2,Nat.mul_add,e3,Nat.pow_succ,Nat.mul_assoc (Zd^i) Zd u];omega
  apply Zz;apply Zb;intro b4 Yx;simp[t11,t13,a1,d1];subst Yx;apply Zb;intro b4 Yx;simp[t1,t5,t13,RY (x:=xs[i]) (s:=s) (by omega),a2,SF];subst Yx;apply Zb;intro b4 Yx;simp[t0,l0,YO (x:=i) (by omega)];subst Yx;by_cases Fe:i+1<xs.length
  ·refine Za (t:=true) (by simp[Fe]) ?_;have s3:=hs.keep Iy;have a4:=s3.adr Zv (k:= .i64) Fe;have d4:=s3.load Fe;have a5:=RN.sl.adr Zv (k:= .i64) (i:=i) (by simp;omega);have d5:=RN.sl.load (i:=i) (by simp;omega);rw[N4 L _ _ hL]at d5;have uD:xs[i+1]<Zd:=dx.get (List.getElem?_eq_getElem Fe);have n1:nth xs (i+1)=xs[i+1]:=XF Fe;have sb:Zc .sub .u64 63 (s:Int)=some (.int .u64 ((63-s:Nat):Int)):=Su (x:=63) (by decide) (by omega);have sh1:Y4 .shl .u64 (xs[i+1]:Int) 1=some (.int .u64 ((xs[i+1]*2%Zd:Nat):Int)):=Sr (s:=1) (by omega);have em:xs[i+1]*2%Zd*2^(63-s)%Zd=nth xs (i+1)%2^s*2^(64-s):=by rw[n1,Nat.mod_mul_mod,Nat.mul_assoc,show 2*2^(63-s)=2^(64-s) by rw[<-Nat.pow_succ',show(63-s).succ=64-s by omega],<-e64,Nat.mul_mod_mul_right]
   have sh2:Y4 .shl .u64 ((xs[i+1]*2%Zd:Nat):Int) ((63-s:Nat):Int)=some (.int .u64 ((nth xs (i+1)%2^s*2^(64-s):Nat):Int)):=by rw[Sr (by omega),em]
   have hwB:nth xs (i+1)%2^s*2^(64-s)<Zd:=by rw[<-em];exact Nat.mod_lt _ (by decide)
   have hor:xs[i]/2^s|||nth xs (i+1)%2^s*2^(64-s)=nth xs (i+1)%2^s*2^(64-s)+xs[i]/2^s:=by rw[Nat.or_comm,B1 hq]
   obtain⟨H4,WW,VM,n4,zZ⟩:=RN.store (i:=i) (by simp;omega) (nth xs (i+1)%2^s*2^(64-s)+xs[i]/2^s);rw[Vd L _ _ _ hL]at VM;apply oG (by kernel_rfl);simp[t0,t1,t5,a4,d4,a5,d5,YO (x:=i) (by omega),sb,sh1,sh2,J8 dE hwB,hor,WW];exact fin _ _ (zZ H Iy (Nat.le_refl _)) VM (by simp[t0]) (by simp[t1]) (by simp[t5]) (by simp[t11]) (by simp[t12]) (by simp[t13])
  ·refine Za (t:=false) (by simp[Fe]) ?_;apply Zn;have n0:nth xs (i+1)=0:=Uf (by omega);exact fin _ _ Iy (by rw[n0];simpa using RN) (by simp[t0]) (by simp[t1]) (by simp[t5]) (by simp[t11]) (by simp[t12]) (by simp[t13])
 ·refine Za (t:=false) (by simp[hi]) ?_;apply YQ;apply Y0;left;refine⟨rfl,?_⟩;obtain rfl:m=0:=by omega
  have UB:i=xs.length:=by omega
  obtain⟨v5,H5,MA,k5,o5⟩:=VS own.sl (by simp;omega);subst Ze;apply Zb;intro b4 Yx;simp[t5,MA];subst Yx;apply Zq;simp;refine⟨kH.trans k5,?_⟩;have e:dv Zd xs/2^s=dv Zd L:=by rw[UB,Uf (Nat.le_refl _),List.take_length,Nat.zero_mod,Nat.mul_zero,Nat.add_zero]at hv;rw[<-hv,Nat.add_comm,Nat.add_mul_div_right _ _ (Nat.two_pow_pos _),Nat.div_eq_of_lt (Nat.mod_lt _ (Nat.two_pow_pos _)),Nat.zero_add]
  rw[e,<-Xo Ya dL];have o5':Yo H2.n H5 v5 (YT L):=by simpa using o5
  exact o5'.mono kH.n (.refl H5)
end
end
end Go.Proofs.YtmkfecoeghokfaaGreatDoor
namespace Go.Proofs.YtmkfecoeghokfaaGreatDoor
set_option linter.unusedVariables false
set_option maxHeartbeats 2000000
set_option maxRecDepth 20000
theorem AP{b y1 y0 u d q r:Nat}(hq:q*y1+r=u):u*b+d=q*(y1*b)+(b*r+d):=by rw[<-hq,Nat.add_mul,Nat.mul_assoc,Nat.mul_comm r b];omega
theorem fM{b y1 y0 u d q r:Nat}(hq:q*y1+r=u)(hu:u<y1*b+y0)(hd:d<b)(ht:b<=q\/b*r+d<q*y0):(u*b+d)/(y1*b+y0)<q:=by
 have hy:0<y1*b+y0:=by omega
 rw[Nat.div_lt_iff_lt_mul hy];rcases ht with ht|ht;·have h1:(u+1)*b<=(y1*b+y0)*b:=Nat.mul_le_mul_right _ hu;have h2:b*(y1*b+y0)<=q*(y1*b+y0):=Nat.mul_le_mul_right _ ht;rw[Nat.succ_mul]at h1;rw[Nat.mul_comm b]at h2;omega
 ·rw[AP (y0:=y0) (d:=d) (b:=b) hq,Nat.mul_add];omega
theorem HW{b y1 y0 u d q r:Nat}(hq:q*y1+r=u)(hy:0<y1*b+y0)(ht:q*y0<=b*r+d):q<=(u*b+d)/(y1*b+y0):=by rw[Nat.le_div_iff_mul_le hy,AP (y0:=y0) (d:=d) (b:=b) hq,Nat.mul_add];omega
theorem bn{b y1 y0 u d:Nat}(h1:0<y1)(hd:d<b):(u*b+d)/(y1*b+y0)<=u/y1:=by
 have hb:0<b:=by omega
 have hy:0<y1*b+y0:=by have:=Nat.mul_pos h1 hb;omega
 have h2:(u*b+d)/(y1*b+y0)<=(u*b+d)/(y1*b):=by rw[Nat.le_div_iff_mul_le (Nat.mul_pos h1 hb)];have:=Nat.div_mul_le_self (u*b+d) (y1*b+y0);rw[Nat.mul_add]at this;omega
 have h3:(u*b+d)/(y1*b)=u/y1:=by rw[Nat.mul_comm y1 b,<-Nat.div_div_eq_div_mul,Nat.add_comm,Nat.add_mul_div_right _ _ hb,Nat.div_eq_of_lt hd,Nat.zero_add]
 omega
theorem bo{b y1 y0 u:Nat}(h1:b<=2*y1)(h0:y0<b)(hu:u<y1*b+y0)(hp:0<y1):u/y1<=b+1:=by
 have:u/y1<b+2:=by rw[Nat.div_lt_iff_lt_mul hp,Nat.add_mul,Nat.mul_comm b y1];omega
 omega
end Go.Proofs.YtmkfecoeghokfaaGreatDoor
namespace Go.Proofs.YtmkfecoeghokfaaGreatDoor
open Go Ev
set_option linter.unusedVariables false
set_option linter.unusedSimpArgs false
noncomputable section
set_option maxHeartbeats 2000000
set_option maxRecDepth 20000
section
attribute [-simp] Int.natCast_add Int.natCast_mul Int.natCast_ediv Int.natCast_emod Int.natCast_pow
attribute [local simp] strip ZN Xr gW ZB Yj ZU Yk ZG Yl Zw Zx Zj ZF Yd ZL Z1 Zl ZE Zk Zi Z0 ZA YK Zs Yf Y2 YW ZH plain ZM Tr.get_set Yz Zt Yt ZS sameKind undef ZZ ZD Yc Zv ZC Yh ZT parts ZJ XI DW Ym ZX ZV Zr ZI ZO XT Yi Zm ZP ZY ZR
theorem Mx{x y:Nat}(hx:x<Zd)(hy:0<y):Zc .quo .u64 (x:Int) (y:Int)=some (.int .u64 ((x/y:Nat):Int)):=by
 have hx:x<18446744073709551616:=hx;have hle:x/y<=x:=Nat.div_le_self x y;have h0: ¬ ((y:Int)=0):=by omega
 have e:IntKind.u64.wrap ((x:Int).tdiv (y:Int))=((x/y:Nat):Int):=by rw[IntKind.wrap_u64,Int.tdiv_eq_ediv_of_nonneg (by omega),<-Int.natCast_ediv];generalize x/y=q at*;omega
 show(if(y:Int)=0 then none else some (Value.int .u64 (IntKind.u64.wrap ((x:Int).tdiv (y:Int)))))=_;rw[if_neg h0,e]
theorem aT{x y:Nat}(hy:0<y):Zc .rem .u64 (x:Int) (y:Int)=some (.int .u64 ((x%y:Nat):Int)):=by
 have h0: ¬ ((y:Int)=0):=by omega
 have e:(x:Int).tmod (y:Int)=((x%y:Nat):Int):=by rw[Int.tmod_eq_emod_of_nonneg (by omega),<-Int.natCast_emod]
 show(if(y:Int)=0 then none else some (Value.int .u64 ((x:Int).tmod (y:Int))))=_;rw[if_neg h0,e]
theorem Cj{x y:Nat}(hy:y<=Zd):Zc .sub .u64 (x:Int) (y:Int)=some (.int .u64 (((x+Zd-y)%Zd:Nat):Int)):=by
 have hy:y<=18446744073709551616:=hy;have e:IntKind.u64.wrap ((x:Int)-(y:Int))=(((x+18446744073709551616-y)%18446744073709551616:Nat):Int):=by rw[IntKind.wrap_u64];omega
 show some (Value.int .u64 (IntKind.u64.wrap ((x:Int)-(y:Int))))=_;rw[e]
theorem DB{u b d q y:Nat}(hy:y<Zd)(Kt:0<y)(hq:q=(u*b+d)/y):((u*b%Zd+d)%Zd+Zd-q*y%Zd)%Zd=(u*b+d)%y:=by have e:=Nat.div_add_mod (u*b+d) y;rw[<-hq,Nat.mul_comm y q]at e;have hr:(u*b+d)%y<y:=Nat.mod_lt _ Kt;generalize(u*b+d)%y=r at*;generalize q*y=p at*;rw[Nat.mod_add_mod,<-e];have hy:y<18446744073709551616:=hy;show((p+r)%18446744073709551616+18446744073709551616-p%18446744073709551616)%18446744073709551616=r;omega
abbrev Z5:Nat:=4294967296
theorem bz{x:Nat} :Zc .geq .u64 (x:Int) 4294967296=some (.bool (decide (4294967296<=x))):=G8 (y:=4294967296)
theorem mulL{x:Nat} :Zc .mul .u64 4294967296 (x:Int)=some (.int .u64 ((4294967296*x%Zd:Nat):Int)):=Sp (x:=4294967296)
theorem mulR{x:Nat} :Zc .mul .u64 (x:Int) 4294967296=some (.int .u64 ((x*4294967296%Zd:Nat):Int)):=Sp (y:=4294967296)
theorem MW{x:Nat}(hx:x<Zd)(h:0<x):Zc .sub .u64 (x:Int) 1=some (.int .u64 ((x-1:Nat):Int)):=Su (y:=1) hx h
structure qM (y1 y0 u d q r : Nat) : Prop where
  y1lo : 2147483648 <= y1
  An : y1 < 4294967296
  oP : y0 < 4294967296
  uhi : u < y1 * 4294967296 + y0
  dhi : d < 4294967296
  eq : q * y1 + r = u
  ge : (u * 4294967296 + d) / (y1 * 4294967296 + y0) <= q
  rhi : r < 4294967296
  qhi : q <= 4294967297
def Kk(y0 d q r:Nat):Bool:=decide (4294967296<=q)||decide (4294967296*r+d<q*y0)
theorem qM.down{y1 y0 u d q r:Nat}(h:qM y1 y0 u d q r)(ht:Kk y0 d q r=true):0<q/\(q-1)*y1+(r+y1)=u/\(u*4294967296+d)/(y1*4294967296+y0)<=q-1/\q-1<=4294967296:=by
 have Bw:4294967296<=q\/4294967296*r+d<q*y0:=by simpa[Kk]using ht
 have h1:=fM h.eq h.uhi h.dhi Bw;have hq:0<q:=Nat.lt_of_le_of_lt (Nat.zero_le _) h1;refine⟨hq,?_,Nat.le_sub_one_of_lt h1,by have:=h.qhi;omega⟩;obtain⟨q',rfl⟩: ∃q',q=q'+1:=⟨q-1,by omega⟩;have:=h.eq;rw[Nat.succ_mul]at this;rw[Nat.add_sub_cancel];omega
theorem qM.stop{y1 y0 u d q r:Nat}(h:qM y1 y0 u d q r)(ht:Kk y0 d q r=false):q=(u*4294967296+d)/(y1*4294967296+y0)/\q<4294967296:=by
 have Bw:q<4294967296/\q*y0<=4294967296*r+d:=by simpa[Kk]using ht
 have:=HW h.eq (by have:=h.y1lo;omega) Bw.2;exact⟨Nat.le_antisymm this h.ge,Bw.1⟩
theorem HY{y1 y0 u d q r:Nat}(y1lo:2147483648<=y1)(oP:y0<4294967296)(uhi:u<y1*4294967296+y0)(dhi:d<4294967296)(eq:q*y1+r=u)(ge:(u*4294967296+d)/(y1*4294967296+y0)<=q)(hr:4294967296<=r)(hq:q<=4294967296):q=(u*4294967296+d)/(y1*4294967296+y0)/\q<4294967296:=by
 have h1:q*y0<=4294967296*r+d:=by have a:q*y0<=4294967296*y0:=Nat.mul_le_mul_right _ hq;omega
 have h2:=HW eq (show 0<y1*4294967296+y0 by omega) h1;have h3:q=(u*4294967296+d)/(y1*4294967296+y0):=Nat.le_antisymm h2 ge;refine⟨h3,?_⟩;rw[h3,Nat.div_lt_iff_lt_mul (by omega)];have:(u+1)*4294967296<=(y1*4294967296+y0)*4294967296:=Nat.mul_le_mul_right _ uhi;rw[Nat.succ_mul,Nat.mul_comm (y1*4294967296+y0)]at this;omega
theorem HV{y1 y0 u d:Nat}(y1lo:2147483648<=y1)(An:y1<4294967296)(oP:y0<4294967296)(uhi:u<y1*4294967296+y0)(dhi:d<4294967296):qM y1 y0 u d (u/y1) (u%y1):=⟨y1lo,An,oP,uhi,dhi,by rw[Nat.mul_comm];exact Nat.div_add_mod u y1,bn (by omega) dhi,Nat.lt_of_lt_of_le (Nat.mod_lt _ (by omega)) (by omega),bo (by omega) oP uhi (by omega)⟩
theorem rk{x:Nat} :Zc .eql .u64 (x:Int) 0=some (.bool (decide (x=0))):=Oh (y:=0)
theorem OO{n:Nat}(h:n<Zd):SS Tryz.prog 3 228 (.int .i64 (n:Int))=some (.int .u64 (n:Int)):=by
 have h:n<18446744073709551616:=h;have e:IntKind.u64.wrap (n:Int)=(n:Int):=by rw[IntKind.wrap_u64];omega
 unfold SS;simp only[Tryz.underlying3,Tryz.underlying228,e]
theorem dk{U N1 N0 b B yn qh u2 ql r3:Nat}(e1:yn*qh+u2=U*b+N1)(e2:yn*ql+r3=u2*b+N0)(hB:B=b*b):U*B+(N1*b+N0)=yn*(qh*b+ql)+r3:=by
 subst hB;have e3:(yn*qh+u2)*b=(U*b+N1)*b:=by rw[e1]
 rw[Nat.add_mul,Nat.add_mul,Nat.mul_assoc,Nat.mul_assoc]at e3;rw[Nat.mul_add];omega
theorem CD{h l y:Nat}(hh:h<y)(hl:l<Zd)(hy:y<Zd){H:AH} :CW Tryz.prog Zu 205 [.int .u64 (h:Int),.int .u64 (l:Int),.int .u64 (y:Int)] H fun v H'=>H'=H/\v= .tuple #[.int .u64 (((h*Zd+l)/y:Nat):Int),.int .u64 (((h*Zd+l)%y:Nat):Int)]:=by
 refine Z2 135 Tryz.func205 ?_;have y0:0<y:=by omega
 apply Zb;intro b1 Ze;simp;subst Ze;apply Zf;intro b1 Ze;apply Zb;intro b2 Zp;simp[rk];subst Zp;refine Za (t:=false) (by simp;omega) ?_;apply Zn;subst Ze;apply Zf;intro b1 Ze;apply Zb;intro b2 Zp;simp[Ok];subst Zp;refine Za (t:=false) (by simp;omega) ?_;apply Zn;subst Ze;apply Zf;intro b1 Ze;apply Zb;intro b2 Zp;simp[rk];subst Zp;by_cases h0:h=0;·subst h0;refine Za (t:=true) (by simp) ?_;apply Zf;intro b2 Zp;apply Rg (by kernel_rfl);simp[Mx hl y0,aT (x:=l) y0];subst Zp;apply Zq;simp[Yq]
 ·refine Za (t:=false) (by simp;omega) ?_;apply Zn;subst Ze;obtain⟨v1,H1,N7,e1,e2⟩:=au (H:=H) hy;subst e1;subst e2;have ml:Zo y<=64:=by
   rcases Nat.lt_or_ge 64 (Zo y)with h|h;·have a:=Vb (n:=y) (by omega);have b:2^64<=2^(Zo y-1):=Nat.pow_le_pow_right (by decide) (by omega);have hy:y<18446744073709551616:=hy;omega
   ·exact h
  have hbl0:0<Zo y:=by unfold Zo;rw[if_neg (by omega)];omega
  obtain⟨s,hs⟩:=hid (64-Zo y);have gp:s<64:=by omega
  have es:(64-(Zo y:Int))=(s:Int):=by omega
  rw[es]at N7;have ylt:y<2^(64-s):=by have:=WC y;rwa[show Zo y=64-s by omega]at this
  have yge:2^(63-s)<=y:=by have:=Vb (n:=y) (by omega);rwa[show Zo y-1=63-s by omega]at this
  apply Zb;intro b1 Ze;simp[N7,OO (n:=s) (Nat.lt_trans gp (by decide))];subst Ze;have eB:Zd=2^(64-s)*2^s:=by rw[<-Nat.pow_add,show 64-s+s=64 by omega]
  obtain⟨yn,uA⟩:=hid (y*2^s);have Ao:yn<Zd:=by rw[uA,eB];exact Nat.mul_lt_mul_of_pos_right ylt (Nat.two_pow_pos s)
  have ynge:9223372036854775808<=yn:=by have:2^(63-s)*2^s<=y*2^s:=Nat.mul_le_mul_right _ yge;rw[<-Nat.pow_add,show 63-s+s=63 by omega,<-uA]at this;exact this
  have Kp:l/2^(64-s)<2^s:=by rw[Nat.div_lt_iff_lt_mul (Nat.two_pow_pos _),<-Nat.pow_add,show s+(64-s)=64 by omega];exact hl
  obtain⟨u,hu⟩:=hid (h*2^s+l/2^(64-s));have hhs:h*2^s+2^s<=yn:=by rw[uA,<-Nat.succ_mul];exact Nat.mul_le_mul_right _ hh
  have ult:u<yn:=by omega
  obtain⟨n,hn⟩:=hid (l*2^s%Zd);have nlt:n<Zd:=by rw[hn];exact Nat.mod_lt _ (by decide)
  have total:(h*Zd+l)*2^s=u*Zd+n:=by have:=JF (x:=l) gp;rw[<-hn]at this;rw[Nat.add_mul,this,hu,Nat.add_mul,Nat.mul_comm Zd (l/_),Nat.mul_assoc h,Nat.mul_comm Zd,<-Nat.mul_assoc];omega
  obtain⟨y1,uB⟩:=hid (yn/4294967296);obtain⟨w0,mS⟩:=hid (yn%4294967296);have eyn:yn=y1*4294967296+w0:=by omega
  have ynlt':yn<18446744073709551616:=Ao;have y1lo:2147483648<=y1:=by omega
  have An:y1<4294967296:=by omega
  have dr:w0<4294967296:=by omega
  obtain⟨n1,hn1⟩:=hid (n/4294967296);obtain⟨n0,Qi⟩:=hid (n%4294967296);have nlt':n<18446744073709551616:=nlt;have en:n=n1*4294967296+n0:=by omega
  have n1hi:n1<4294967296:=by omega
  have n0hi:n0<4294967296:=by omega
  have ulB:u<Zd:=Nat.lt_trans ult Ao;have yO:=Nat.two_pow_pos s;have hhB:h*2^s<Zd:=by omega
  have hlB:l/2^(64-s)<Zd:=Nat.lt_of_le_of_lt (Nat.div_le_self _ _) hl;have f8:Y4 .shl .u64 (y:Int) (s:Int)=some (.int .u64 (yn:Int)):=by rw[Sr (by omega),<-uA,Nat.mod_eq_of_lt Ao]
  have f9:Y4 .shr .u64 (yn:Int) 32=some (.int .u64 (y1:Int)):=by rw[jv,<-uB]
  have f10:Zc .and .u64 (yn:Int) 4294967295=some (.int .u64 (w0:Int)):=by rw[Eb Ao,<-mS]
  have f11a:Y4 .shl .u64 (h:Int) (s:Int)=some (.int .u64 ((h*2^s:Nat):Int)):=by rw[Sr (by omega),Nat.mod_eq_of_lt hhB]
  have f11b:Zc .sub .u64 64 (s:Int)=some (.int .u64 ((64-s:Nat):Int)):=Su (x:=64) (by decide) (by omega);have f11c:Y4 .shr .u64 (l:Int) ((64-s:Nat):Int)=some (.int .u64 ((l/2^(64-s):Nat):Int)):=RY (by omega);have f11d:Zc .or .u64 ((h*2^s:Nat):Int) ((l/2^(64-s):Nat):Int)=some (.int .u64 (u:Int)):=by rw[J8 hhB hlB,B1 Kp,<-hu]
  have f12:Y4 .shl .u64 (l:Int) (s:Int)=some (.int .u64 (n:Int)):=by rw[Sr (by omega),<-hn]
  have f13:Y4 .shr .u64 (n:Int) 32=some (.int .u64 (n1:Int)):=by rw[jv,<-hn1]
  have f14:Zc .and .u64 (n:Int) 4294967295=some (.int .u64 (n0:Int)):=by rw[Eb nlt,<-Qi]
  have f15:Zc .quo .u64 (u:Int) (y1:Int)=some (.int .u64 ((u/y1:Nat):Int)):=Mx ulB (by omega);have f16: ∀z:Nat,z<Zd->(Zc .mul .u64 ((z/y1:Nat):Int) (y1:Int)=some (.int .u64 ((z/y1*y1:Nat):Int))/\Zc .sub .u64 (z:Int) ((z/y1*y1:Nat):Int)=some (.int .u64 ((z%y1:Nat):Int))):=fun z hz=>by have a:=Nat.div_mul_le_self z y1;refine⟨by rw[Sp,Nat.mod_eq_of_lt (Nat.lt_of_le_of_lt a hz)],?_⟩;rw[Su hz a];have:=Nat.div_add_mod z y1;rw[Nat.mul_comm]at this;rw[show z-z/y1*y1=z%y1 by omega]
  iterate 9 apply Zb;intro b hb;simp[f8,f9,f10,f11a,f11b,f11c,f11d,f12,f13,f14,f15,(f16 u ulB).1,(f16 u ulB).2];subst hb
  refine MO (fun s'=>s'.k=135/\s'.H=H1/\s'.tm.get 2=some (.int .u64 (yn:Int))/\s'.tm.get 8=some (.int .u64 (s:Int))/\s'.tm.get 9=some (.int .u64 (y1:Int))/\s'.tm.get 10=some (.int .u64 (w0:Int))/\s'.tm.get 11=some (.int .u64 (u:Int))/\s'.tm.get 13=some (.int .u64 (n1:Int))/\s'.tm.get 14=some (.int .u64 (n0:Int))/\ ∃q:Nat,q=(u*4294967296+n1)/(y1*4294967296+w0)/\q<4294967296/\s'.tm.get 15=some (.int .u64 (q:Int))) ?_ ?_
  ·apply Zz;refine YU (fun m s'=>s'.k=135/\s'.H=H1/\s'.tm.get 2=some (.int .u64 (yn:Int))/\s'.tm.get 8=some (.int .u64 (s:Int))/\s'.tm.get 9=some (.int .u64 (y1:Int))/\s'.tm.get 10=some (.int .u64 (w0:Int))/\s'.tm.get 11=some (.int .u64 (u:Int))/\s'.tm.get 13=some (.int .u64 (n1:Int))/\s'.tm.get 14=some (.int .u64 (n0:Int))/\ ∃r:Nat,qM y1 w0 u n1 m r/\s'.tm.get 15=some (.int .u64 (m:Int))/\s'.tm.get 16=some (.int .u64 (r:Int))) ?_ (u/y1) _ ⟨rfl,rfl,by simp,by simp,by simp,by simp,by simp,by simp,by simp,_,HV y1lo An dr (by rw[<-eyn];exact ult) n1hi,by simp,by simp⟩;rintro q ⟨k,tm,H2⟩ ⟨hk,hH,k2,k8,k9,Tm,Tv,Si,SA,r,E,tq,tr⟩ Q' Y0;simp only at hk hH k2 k8 k9 Tm Tv Si SA tq tr;subst hk;subst hH;have dE:q<Zd:=Nat.lt_of_le_of_lt E.qhi (by decide);have hrB:=E.rhi;apply Zf;intro b3 Z3;have qle:=E.qhi;have rB:4294967296*r<Zd:=by show _<18446744073709551616;omega
   have mB:(4294967296*r+n1)%Zd=4294967296*r+n1:=Nat.mod_eq_of_lt (by show _<18446744073709551616;omega);have key: ∀Xb,W Tryz.prog Zu b3 ⟨135,Xb,H2⟩ Q'->W Tryz.prog Zu b3 ⟨135,Xb,H2⟩ Q':=fun _ h=>h;have down:Kk w0 n1 q r=true-> ∀Xb,Xb.get 2=some (.int .u64 (yn:Int))->Xb.get 8=some (.int .u64 (s:Int))->Xb.get 9=some (.int .u64 (y1:Int))->Xb.get 10=some (.int .u64 (w0:Int))->Xb.get 11=some (.int .u64 (u:Int))->Xb.get 13=some (.int .u64 (n1:Int))->Xb.get 14=some (.int .u64 (n0:Int))->Xb.get 15=some (.int .u64 (q:Int))->Xb.get 16=some (.int .u64 (r:Int))->W Tryz.prog Zu b3 ⟨135,Xb,H2⟩ Q':=fun ht Xb k2 k8 k9 Tm Tv Si SA tq tr=>by
    obtain⟨q0,e1,lK,q1⟩:=E.down ht;have f1:Zc .sub .u64 (q:Int) 1=some (.int .u64 ((q-1:Nat):Int)):=MW dE q0;have f2:Zc .add .u64 (r:Int) (y1:Int)=some (.int .u64 ((r+y1:Nat):Int)):=by rw[TZ,Nat.mod_eq_of_lt (by show _<18446744073709551616;omega)]
    subst Z3;apply Zz;apply Zb;intro b4 Yx;simp[tq,f1];subst Yx;apply Zb;intro b4 Yx;simp[tr,k9,f2];subst Yx;apply Zb;intro b4 Yx;simp[bz];subst Yx;by_cases hr:4294967296<=r+y1;·refine Za (t:=true) (by simp[hr]) ?_;apply YQ;right;refine⟨by decide,?_⟩;apply Y0;left;have:=HY y1lo dr E.uhi E.dhi e1 lK hr q1;exact⟨rfl,rfl,rfl,rfl,by simp[k2],by simp[k8],by simp[k9],by simp[Tm],by simp[Tv],by simp[Si],by simp[SA],q-1,this.1,this.2,by simp⟩
    ·refine Za (t:=false) (by simp[hr]) ?_;apply Zn;apply Y0;exact⟨q-1,by omega,rfl,rfl,by simp[k2],by simp[k8],by simp[k9],by simp[Tm],by simp[Tv],by simp[Si],by simp[SA],r+y1,⟨y1lo,An,dr,E.uhi,E.dhi,e1,lK,by omega,by omega⟩,by simp,by simp⟩
   apply Zb;intro b4 Yx;by_cases hq:4294967296<=q;·simp[tq,bz,hq];subst Yx;refine Za (t:=true) (by simp) ?_;apply Zn;show W _ _ b3 _ _;exact down (by simp[Kk,hq]) _ (by simp[k2]) (by simp[k8]) (by simp[k9]) (by simp[Tm]) (by simp[Tv]) (by simp[Si]) (by simp[SA]) (by simp[tq]) (by simp[tr])
   ·have hqw:q*w0<Zd:=by have a:q*w0<=4294967295*w0:=Nat.mul_le_mul_right _ (by omega);show _<18446744073709551616;omega
    have g1:Zc .mul .u64 (q:Int) (w0:Int)=some (.int .u64 ((q*w0:Nat):Int)):=by rw[Sp,Nat.mod_eq_of_lt hqw]
    have g2:Zc .mul .u64 4294967296 (r:Int)=some (.int .u64 ((4294967296*r:Nat):Int)):=by rw[mulL,Nat.mod_eq_of_lt rB]
    have g3:Zc .add .u64 ((4294967296*r:Nat):Int) (n1:Int)=some (.int .u64 ((4294967296*r+n1:Nat):Int)):=by rw[TZ,mB]
    simp[tq,bz,hq,tr,Tm,Si,g1,g2,g3,Vs];subst Yx;by_cases ht:4294967296*r+n1<q*w0;·refine Za (t:=true) (by simp[ht]) ?_;apply Zn;show W _ _ b3 _ _;exact down (by simp[Kk,ht]) _ (by simp[k2]) (by simp[k8]) (by simp[k9]) (by simp[Tm]) (by simp[Tv]) (by simp[Si]) (by simp[SA]) (by simp[tq]) (by simp[tr])
    ·refine Za (t:=false) (by simp[ht]) ?_;apply YQ;apply Y0;left;have:=E.stop (by simp[Kk,ht];omega);exact⟨rfl,rfl,rfl,rfl,by simp[k2],by simp[k8],by simp[k9],by simp[Tm],by simp[Tv],by simp[Si],by simp[SA],q,this.1,this.2,by simp[tq]⟩
  rintro⟨k,tm,H2⟩ ⟨hk,hH,k2,k8,k9,Tm,Tv,Si,SA,qh,hqh,hqlt,Pu⟩;simp only at hk hH k2 k8 k9 Tm Tv Si SA Pu;subst hk;subst hH;have Cq:0<yn:=by omega
  obtain⟨u2,Iw⟩:=hid ((u*4294967296+n1)%yn);have Zag:u2<yn:=by rw[Iw];exact Nat.mod_lt _ Cq
  have u2B:u2<Zd:=Nat.lt_trans Zag Ao;rw[<-eyn]at hqh;have HC:=DB (u:=u) (b:=4294967296) (d:=n1) (q:=qh) Ao Cq hqh;rw[<-Iw]at HC;obtain⟨pa,hpa⟩:=hid (u*4294967296%Zd);obtain⟨pb,hpb⟩:=hid ((pa+n1)%Zd);obtain⟨pc,hpc⟩:=hid (qh*yn%Zd);rw[<-hpa,<-hpb,<-hpc]at HC;have g21:Zc .mul .u64 (u:Int) 4294967296=some (.int .u64 (pa:Int)):=by rw[mulR,hpa]
  have g21a:Zc .add .u64 (pa:Int) (n1:Int)=some (.int .u64 (pb:Int)):=by rw[TZ,hpb]
  have g21b:Zc .mul .u64 (qh:Int) (yn:Int)=some (.int .u64 (pc:Int)):=by rw[Sp,hpc]
  have g21c:Zc .sub .u64 (pb:Int) (pc:Int)=some (.int .u64 (u2:Int)):=by rw[Cj (by rw[hpc];exact Nat.le_of_lt (Nat.mod_lt _ (by decide))),HC]
  have g22:Zc .quo .u64 (u2:Int) (y1:Int)=some (.int .u64 ((u2/y1:Nat):Int)):=Mx u2B (by omega);apply Zb;intro b hb;simp[Tv,Si,Pu,k2,g21,g21a,g21b,g21c];subst hb;apply Zb;intro b hb;simp[k9,g22];subst hb;apply Zb;intro b hb;simp[k9,(f16 u2 u2B).1,(f16 u2 u2B).2];subst hb;refine MO (fun s'=>s'.k=135/\s'.H=H2/\s'.tm.get 2=some (.int .u64 (yn:Int))/\s'.tm.get 8=some (.int .u64 (s:Int))/\s'.tm.get 9=some (.int .u64 (y1:Int))/\s'.tm.get 10=some (.int .u64 (w0:Int))/\s'.tm.get 11=some (.int .u64 (u:Int))/\s'.tm.get 13=some (.int .u64 (n1:Int))/\s'.tm.get 14=some (.int .u64 (n0:Int))/\s'.tm.get 15=some (.int .u64 (qh:Int))/\s'.tm.get 17=some (.int .u64 (u2:Int))/\ ∃q:Nat,q=(u2*4294967296+n0)/(y1*4294967296+w0)/\q<4294967296/\s'.tm.get 18=some (.int .u64 (q:Int))) ?_ ?_
  ·apply Zz;refine YU (fun m s'=>s'.k=135/\s'.H=H2/\s'.tm.get 2=some (.int .u64 (yn:Int))/\s'.tm.get 8=some (.int .u64 (s:Int))/\s'.tm.get 9=some (.int .u64 (y1:Int))/\s'.tm.get 10=some (.int .u64 (w0:Int))/\s'.tm.get 11=some (.int .u64 (u:Int))/\s'.tm.get 13=some (.int .u64 (n1:Int))/\s'.tm.get 14=some (.int .u64 (n0:Int))/\s'.tm.get 15=some (.int .u64 (qh:Int))/\s'.tm.get 17=some (.int .u64 (u2:Int))/\ ∃r:Nat,qM y1 w0 u2 n0 m r/\s'.tm.get 18=some (.int .u64 (m:Int))/\s'.tm.get 16=some (.int .u64 (r:Int))) ?_ (u2/y1) _ ⟨rfl,rfl,by simp[k2],by simp[k8],by simp[k9],by simp[Tm],by simp[Tv],by simp[Si],by simp[SA],by simp[Pu],by simp,_,HV y1lo An dr (by rw[<-eyn];exact Zag) n0hi,by simp,by simp⟩;clear k2 k8 k9 Tm Tv Si SA Pu;rintro q ⟨k,tm,H3⟩ ⟨hk,hH,k2,k8,k9,Tm,Tv,Si,SA,Pu,OR,r,E,tq,tr⟩ Q' Y0;simp only at hk hH k2 k8 k9 Tm Tv Si SA Pu OR tq tr;subst hk;subst hH;have dE:q<Zd:=Nat.lt_of_le_of_lt E.qhi (by decide);have hrB:=E.rhi;apply Zf;intro b3 Z3;have qle:=E.qhi;have rB:4294967296*r<Zd:=by show _<18446744073709551616;omega
   have mB:(4294967296*r+n0)%Zd=4294967296*r+n0:=Nat.mod_eq_of_lt (by show _<18446744073709551616;omega);have key: ∀Xb,W Tryz.prog Zu b3 ⟨135,Xb,H3⟩ Q'->W Tryz.prog Zu b3 ⟨135,Xb,H3⟩ Q':=fun _ h=>h;have down:Kk w0 n0 q r=true-> ∀Xb,Xb.get 2=some (.int .u64 (yn:Int))->Xb.get 8=some (.int .u64 (s:Int))->Xb.get 9=some (.int .u64 (y1:Int))->Xb.get 10=some (.int .u64 (w0:Int))->Xb.get 11=some (.int .u64 (u:Int))->Xb.get 13=some (.int .u64 (n1:Int))->Xb.get 14=some (.int .u64 (n0:Int))->Xb.get 15=some (.int .u64 (qh:Int))->Xb.get 17=some (.int .u64 (u2:Int))->Xb.get 18=some (.int .u64 (q:Int))->Xb.get 16=some (.int .u64 (r:Int))->W Tryz.prog Zu b3 ⟨135,Xb,H3⟩ Q':=fun ht Xb k2 k8 k9 Tm Tv Si SA Pu OR tq tr=>by
    obtain⟨q0,e1,lK,q1⟩:=E.down ht;have f1:Zc .sub .u64 (q:Int) 1=some (.int .u64 ((q-1:Nat):Int)):=MW dE q0;have f2:Zc .add .u64 (r:Int) (y1:Int)=some (.int .u64 ((r+y1:Nat):Int)):=by rw[TZ,Nat.mod_eq_of_lt (by show _<18446744073709551616;omega)]
    subst Z3;apply Zz;apply Zb;intro b4 Yx;simp[tq,f1];subst Yx;apply Zb;intro b4 Yx;simp[tr,k9,f2];subst Yx;apply Zb;intro b4 Yx;simp[bz];subst Yx;by_cases hr:4294967296<=r+y1;·refine Za (t:=true) (by simp[hr]) ?_;apply YQ;right;refine⟨by decide,?_⟩;apply Y0;left;have:=HY y1lo dr E.uhi E.dhi e1 lK hr q1;exact⟨rfl,rfl,rfl,rfl,by simp[k2],by simp[k8],by simp[k9],by simp[Tm],by simp[Tv],by simp[Si],by simp[SA],by simp[Pu],by simp[OR],q-1,this.1,this.2,by simp⟩
    ·refine Za (t:=false) (by simp[hr]) ?_;apply Zn;apply Y0;exact⟨q-1,by omega,rfl,rfl,by simp[k2],by simp[k8],by simp[k9],by simp[Tm],by simp[Tv],by simp[Si],by simp[SA],by simp[Pu],by simp[OR],r+y1,⟨y1lo,An,dr,E.uhi,E.dhi,e1,lK,by omega,by omega⟩,by simp,by simp⟩
   apply Zb;intro b4 Yx;by_cases hq:4294967296<=q;·simp[tq,bz,hq];subst Yx;refine Za (t:=true) (by simp) ?_;apply Zn;show W _ _ b3 _ _;exact down (by simp[Kk,hq]) _ (by simp[k2]) (by simp[k8]) (by simp[k9]) (by simp[Tm]) (by simp[Tv]) (by simp[Si]) (by simp[SA]) (by simp[Pu]) (by simp[OR]) (by simp[tq]) (by simp[tr])
   ·have hqw:q*w0<Zd:=by have a:q*w0<=4294967295*w0:=Nat.mul_le_mul_right _ (by omega);show _<18446744073709551616;omega
    have g1:Zc .mul .u64 (q:Int) (w0:Int)=some (.int .u64 ((q*w0:Nat):Int)):=by rw[Sp,Nat.mod_eq_of_lt hqw]
    have g2:Zc .mul .u64 4294967296 (r:Int)=some (.int .u64 ((4294967296*r:Nat):Int)):=by rw[mulL,Nat.mod_eq_of_lt rB]
    have g3:Zc .add .u64 ((4294967296*r:Nat):Int) (n0:Int)=some (.int .u64 ((4294967296*r+n0:Nat):Int)):=by rw[TZ,mB]
    simp[tq,bz,hq,tr,Tm,SA,g1,g2,g3,Vs];subst Yx;by_cases ht:4294967296*r+n0<q*w0;·refine Za (t:=true) (by simp[ht]) ?_;apply Zn;show W _ _ b3 _ _;exact down (by simp[Kk,ht]) _ (by simp[k2]) (by simp[k8]) (by simp[k9]) (by simp[Tm]) (by simp[Tv]) (by simp[Si]) (by simp[SA]) (by simp[Pu]) (by simp[OR]) (by simp[tq]) (by simp[tr])
    ·refine Za (t:=false) (by simp[ht]) ?_;apply YQ;apply Y0;left;have:=E.stop (by simp[Kk,ht];omega);exact⟨rfl,rfl,rfl,rfl,by simp[k2],by simp[k8],by simp[k9],by simp[Tm],by simp[Tv],by simp[Si],by simp[SA],by simp[Pu],by simp[OR],q,this.1,this.2,by simp[tq]⟩
  rintro⟨k,tm,H3⟩ ⟨hk,hH,k2,k8,k9,Tm,Tv,Si,SA,Pu,OR,ql,hql,hqllt,kp⟩;simp only at hk hH k2 k8 k9 Tm Tv Si SA Pu OR kp;subst hk;subst hH;rw[<-eyn]at hql;obtain⟨r3,hr3⟩:=hid ((u2*4294967296+n0)%yn);have Za7:r3<yn:=by rw[hr3];exact Nat.mod_lt _ Cq
  have ic:=DB (u:=u2) (b:=4294967296) (d:=n0) (q:=ql) Ao Cq hql;obtain⟨pd,yR⟩:=hid (u2*4294967296%Zd);obtain⟨pe,hpe⟩:=hid ((pd+n0)%Zd);obtain⟨pf,hpf⟩:=hid (ql*yn%Zd);rw[<-hr3,<-yR,<-hpe,<-hpf]at ic;have j1:Zc .mul .u64 (qh:Int) 4294967296=some (.int .u64 ((qh*4294967296:Nat):Int)):=by rw[mulR,Nat.mod_eq_of_lt (by show _<18446744073709551616;omega)]
  have j2:Zc .add .u64 ((qh*4294967296:Nat):Int) (ql:Int)=some (.int .u64 ((qh*4294967296+ql:Nat):Int)):=by rw[TZ,Nat.mod_eq_of_lt (by show _<18446744073709551616;omega)]
  have j3:Zc .mul .u64 (u2:Int) 4294967296=some (.int .u64 (pd:Int)):=by rw[mulR,yR]
  have j4:Zc .add .u64 (pd:Int) (n0:Int)=some (.int .u64 (pe:Int)):=by rw[TZ,hpe]
  have j5:Zc .mul .u64 (ql:Int) (yn:Int)=some (.int .u64 (pf:Int)):=by rw[Sp,hpf]
  have j6:Zc .sub .u64 (pe:Int) (pf:Int)=some (.int .u64 (r3:Int)):=by rw[Cj (by rw[hpf];exact Nat.le_of_lt (Nat.mod_lt _ (by decide))),ic]
  have j7:Y4 .shr .u64 (r3:Int) (s:Int)=some (.int .u64 ((r3/2^s:Nat):Int)):=RY (by omega);have all:(h*Zd+l)*2^s=yn*(qh*4294967296+ql)+r3:=by have e1:=Nat.div_add_mod (u*4294967296+n1) yn;rw[<-hqh,<-Iw]at e1;have e2:=Nat.div_add_mod (u2*4294967296+n0) yn;rw[<-hql,<-hr3]at e2;rw[total,en];exact dk e1 e2 (by decide)
  have hquo:(h*Zd+l)/y=qh*4294967296+ql:=by rw[<-Nat.mul_div_mul_right _ _ (Nat.two_pow_pos s),all,<-uA,Nat.add_comm,Nat.add_mul_div_left _ _ Cq,Nat.div_eq_of_lt Za7,Nat.zero_add]
  have hrem:(h*Zd+l)%y=r3/2^s:=by
   have:(h*Zd+l)%y*2^s=r3:=by rw[<-Nat.mul_mod_mul_right,all,<-uA,Nat.add_comm,Nat.add_mul_mod_self_left,Nat.mod_eq_of_lt Za7]
   rw[<-this,Nat.mul_div_cancel _ (Nat.two_pow_pos s)]
  rw[hquo,hrem];apply Zb;intro b hb;simp[k2,k8,SA,Pu,OR,kp,j1,j2,j3,j4,j5,j6,j7];subst hb;apply Zq;simp
end
end
end Go.Proofs.YtmkfecoeghokfaaGreatDoor
namespace Go.Proofs.YtmkfecoeghokfaaGreatDoor
set_option linter.unusedVariables false
set_option maxHeartbeats 2000000
set_option maxRecDepth 20000
structure GW (B P V U y1 y0 v' u d u' : Nat) : Prop where
  hV : V = (y1 * B + y0) * P + v'
  hU : U = (u * B + d) * P + u'
  vlt : v' < P
  ult : u' < P
  d_lt : d < B
  y0lt : y0 < B
  y1pos : 0 < y1
section
variable {B P V U y1 y0 v' u d u' q r : Nat}
theorem GW.Ppos(T:GW B P V U y1 y0 v' u d u'):0<P:=Nat.lt_of_le_of_lt (Nat.zero_le _) T.vlt
theorem GW.Bpos(T:GW B P V U y1 y0 v' u d u'):0<B:=Nat.lt_of_le_of_lt (Nat.zero_le _) T.d_lt
theorem GW.Vge(T:GW B P V U y1 y0 v' u d u'):B*P<=V:=by rw[T.hV];have:B*P<=(y1*B+y0)*P:=Nat.mul_le_mul_right _ (by have:1*B<=y1*B:=Nat.mul_le_mul_right _ T.y1pos;omega);omega
theorem GW.Vpos(T:GW B P V U y1 y0 v' u d u'):0<V:=Nat.lt_of_lt_of_le (Nat.mul_pos T.Bpos T.Ppos) T.Vge
theorem GW.Ult(T:GW B P V U y1 y0 v' u d u'):U<(u*B+d+1)*P:=by rw[T.hU,Nat.succ_mul];have:=T.ult;omega
theorem GW.first(T:GW B P V U y1 y0 v' u d u'):U/V<=u/y1:=by
 rw[Nat.le_div_iff_mul_le T.y1pos];have h1:U/V*V<=U:=Nat.div_mul_le_self U V;have h2:U/V*(y1*B*P)<=U/V*V:=Nat.mul_le_mul_left _ (by rw[T.hV,Nat.add_mul];omega);have h3:=T.Ult;have h4:(u*B+d+1)*P<=((u+1)*B)*P:=Nat.mul_le_mul_right _ (by have:=T.d_lt;rw[Nat.succ_mul];omega);have h5:(U/V*y1)*(B*P)<(u+1)*(B*P):=by rw[Nat.mul_assoc]at h2 h4;rw[Nat.mul_assoc];omega
 have:=Nat.lt_of_mul_lt_mul_right h5;omega
theorem GW.high{un K0:Nat}(T:GW B P V U y1 y0 v' (un*B+K0) d u')(h:U<V*B):un<=y1:=by
 rcases Nat.lt_or_ge y1 un with YP|SL
 ·exfalso;have h1:V<(y1+1)*B*P:=by rw[T.hV];have a:(y1*B+y0+1)*P<=(y1+1)*B*P:=Nat.mul_le_mul_right _ (by have:=T.y0lt;rw[Nat.succ_mul];omega);have b:=T.vlt;rw[Nat.succ_mul]at a;omega
  have h2:V*B<=((y1+1)*B*P)*B:=Nat.mul_le_mul_right _ (Nat.le_of_lt h1);have h3:((y1+1)*B*P)*B<=U:=by rw[T.hU];have a:((y1+1)*B)*B<=(un*B)*B:=Nat.mul_le_mul_right _ (Nat.mul_le_mul_right _ YP);have b:((y1+1)*B)*B*P<=((un*B+K0)*B+d)*P:=Nat.mul_le_mul_right _ (by rw[Nat.add_mul (un*B) K0 B];omega);rw[Nat.mul_right_comm _ P B];omega
  omega
 ·exact SL
theorem GW.true(T:GW B P V U y1 y0 v' u d u')(hq:q*y1+r=u)(ht:r*B+d<q*y0):U/V<q:=by rw[Nat.div_lt_iff_lt_mul T.Vpos];have h1:q*((y1*B+y0)*P)<=q*V:=Nat.mul_le_mul_left _ (by rw[T.hV];omega);have h2:(u*B+d+1)*P<=(q*(y1*B+y0))*P:=Nat.mul_le_mul_right _ (by rw[<-hq,Nat.add_mul,Nat.mul_add,Nat.mul_assoc];omega);have h3:=T.Ult;rw[Nat.mul_assoc]at h2;omega
theorem GW.false(T:GW B P V U y1 y0 v' u d u')(hq:q*y1+r=u)(YP:q<B)(ht:q*y0<=r*B+d):q<=U/V+1:=by
 have h1:q*V<=q*((y1*B+y0)*P)+q*P:=by rw[<-Nat.mul_add];exact Nat.mul_le_mul_left _ (by rw[T.hV];have:=T.vlt;omega)
 have h2:(q*(y1*B+y0))*P<=(u*B+d)*P:=Nat.mul_le_mul_right _ (by rw[<-hq,Nat.add_mul,Nat.mul_add,Nat.mul_assoc];omega);rw[Nat.mul_assoc]at h2;have h3:q*P<B*P:=Nat.mul_lt_mul_of_pos_right YP T.Ppos;have h4:=T.Vge;have h5:q*V<U+V:=by have:=T.hU;omega
 have h6:q*V<(U/V+2)*V:=by have a:=Nat.div_add_mod U V;have b:=Nat.mod_lt U T.Vpos;rw[Nat.mul_comm]at a;rw[Nat.add_mul,Nat.two_mul];omega
 have:=Nat.lt_of_mul_lt_mul_right h6;omega
end
theorem dh{N U V q R b:Nat}(hV:0<V)(SL:U/V<=q)(hle:q<=U/V+1)(hU:U<N)(hR:R<N)(hb:b<=1)(e:R+q*V=U+N*b):(b=0/\q=U/V/\R=U%V)\/(b=1/\q=U/V+1/\R+V=N+U%V):=by
 have a:=Nat.div_add_mod U V;have m:=Nat.mod_lt U hV;rw[Nat.mul_comm]at a;rcases Nat.lt_or_ge (U/V) q with h|h
 ·right;obtain rfl:q=U/V+1:=by omega
  rw[Nat.add_mul,Nat.one_mul]at e;have Ze:b=1:=by
   rcases Nat.lt_or_ge b 1 with h0|h0
   ·exfalso;obtain rfl:b=0:=by omega
    rw[Nat.mul_zero]at e;omega
   ·omega
  subst Ze;rw[Nat.mul_one]at e;exact⟨rfl,rfl,by omega⟩
 ·left;obtain rfl:q=U/V:=by omega
  have Cz:b=0:=by
   rcases Nat.lt_or_ge b 1 with h0|h0;·omega
   ·exfalso;obtain rfl:b=1:=by omega
    rw[Nat.mul_one]at e;omega
  subst Cz;rw[Nat.mul_zero]at e;exact⟨rfl,rfl,by omega⟩
theorem FZ {B x y q carry borrow : Nat} (hx : x < B) (hq : q < B) (hc : carry < B) (hy : y < B) (hb : borrow <= 1) :
    let p := x * q
    let sum := (p % B + carry) % B
    let PY := p / B + (p % B + carry) / B
    let y' := (y + B - sum - borrow) % B
    let AX := if y < sum + borrow then 1 else 0
    PY < B /\ y' < B /\ y' + x * q + carry + borrow = y + B * (PY + AX) := by
  intro p sum PY y' AX
  have hB : 0 < B := by omega
  have hp : p <= (B - 1) * (B - 1) := Nat.mul_le_mul (by omega) (by omega)
  have e1 := Nat.div_add_mod p B
  have e2 := Nat.div_add_mod (p % B + carry) B
  have hs : sum < B := Nat.mod_lt _ hB
  have hcy : PY * B + sum = p + carry := by
    show (p / B + (p % B + carry) / B) * B + (p % B + carry) % B = p + carry
    rw [Nat.add_mul, Nat.mul_comm (p / B), Nat.mul_comm ((p % B + carry) / B)]
    omega
  have AB : PY < B := by
    have : (B - 1) * (B - 1) + (B - 1) = (B - 1) * B := by
      obtain ⟨b, rfl⟩ : ∃ b, B = b + 1 := ⟨B - 1, by omega⟩
      rw [Nat.add_sub_cancel, Nat.mul_succ]
    have h3 : PY * B <= (B - 1) * B := by omega
    have := Nat.le_of_mul_le_mul_right h3 hB
    omega
  refine ⟨AB, Nat.mod_lt _ hB, ?_⟩
  show (y + B - sum - borrow) % B + p + carry + borrow = y + B * (PY + if y < sum + borrow then 1 else 0)
  have key : (y + B - sum - borrow) % B + sum + borrow = y + B * (if y < sum + borrow then 1 else 0) := by
    by_cases h : y < sum + borrow
    · rw [if_pos h, Nat.mod_eq_of_lt (by omega)]; omega
    · rw [if_neg h]
      have : y + B - sum - borrow = (y - sum - borrow) + B := by omega
      rw [this, Nat.add_mod_right, Nat.mod_eq_of_lt (by omega)]; omega
  rw [Nat.mul_add, Nat.mul_comm B PY]
  omega
end Go.Proofs.YtmkfecoeghokfaaGreatDoor
namespace Go.Proofs.YtmkfecoeghokfaaGreatDoor.Ev
open Go Go.RowKit
set_option linter.unusedVariables false
set_option linter.unusedSimpArgs false
noncomputable section
set_option maxHeartbeats 2000000
set_option maxRecDepth 20000
def AH.top(H:AH):AH:= { n:=H.n,lw:=H.n,t:=H.t }
def LR(P:Program)(C:Cfg)(k:Nat):List uz->Tr Value->AH->(Tr Value->Prop)->Prop
 |[],tm,_,K=>K tm
 |o::r,tm,H,K=>match gW tm o.grd with
  |some true=>match ZB P C (Zy P C) tm H o.op with
   |some (v,H')=>H'=H/\match o.dst with|none=>LR P C k r tm H K|some d=>d<k/\LR P C k r (tm.set d v) H K
   |none=>False
  |some false=>match o.dst with|none=>LR P C k r tm H K|some d=>d<k/\LR P C k r (tm.set d undef) H K
  |none=>False
section
variable {P : Program} {C : Cfg} {Q : Ex -> St -> Prop} {ops : Array Oper} {k : Nat}
theorem GZ: ∀(l:List Oper)(i:Nat)(tm:Tr Value)(H:AH)(K:Tr Value->Prop),LR P C k (ZN ops l) tm H.top K-> ∃Xb,XZ (X0 ops) P C (Zy P C) ops i false [] l ⟨k,tm,H⟩=some ⟨k,Xb,H⟩/\K Xb
 |[],i,tm,H,K,h=>⟨tm,by simp only[XZ],h⟩
 |o::r,i,tm,H,K,h=>by
  simp only[ZN,LR]at h;simp only[XZ];rw[EO];split at h
  ·rename_i hg;rw[hg];split at h
   ·rename_i v H1 Y8;obtain⟨e,h⟩:=h;subst e;obtain⟨Rf,YM,hl⟩:=Uw (k:=k) (H:=H) (H1:=H) (K1:=fun tm=>LR P C k (ZN ops r) tm H.top K) h;obtain⟨Xb,h1,h2⟩:=GZ r (i+1) Rf H K hl;refine⟨Xb,?_,h2⟩;have hd:Xc (X0 ops) P C (Zy P C) ops i false [] ⟨k,tm,H⟩ o=some (v,H,false):=by unfold Xc;cases hh:ZX o.op with|true=>rw[cond_true];simp only[X0,hidden,U8];have IG:ZB P C (Zy P C) tm { n:=H.n,lw:=H.n,t:=H.t } o.op=some (v,{ n:=H.n,lw:=H.n,t:=H.t }):=Y8;rw[IG];have:Nat.ble H.n H.n=true:=Nat.ble_eq.mpr (Nat.le_refl _);simp only[this,cond_true,Bool.not_false,Bool.and_self,Nat.sub_self,NO]|false=>rw[cond_false];rw[SX hh Y8 H]
    simp only[hd,YM,XO,cond_false];exact h1
   ·exact h.elim
  ·rename_i hg;rw[hg];obtain⟨Rf,YM,hl⟩:=Uw (k:=k) (H:=H) (H1:=H) (K1:=fun tm=>LR P C k (ZN ops r) tm H.top K) h;obtain⟨Xb,h1,h2⟩:=GZ r (i+1) Rf H K hl;refine⟨Xb,?_,h2⟩;simp only[YM];exact h1
  ·exact h.elim
theorem NP{id:Nat}{s:St}(hd:(!WA ops&&UL ops&&!isSplit C ops)=true)(h:LR P C s.k (strip ops) s.tm s.H.top fun Xb=>Q .norm ⟨s.k,Xb,s.H⟩):W P C (.region id ops true) s Q:=by
 obtain⟨k,tm,H⟩:=s;obtain⟨Xb,h1,h2⟩:=GZ _ 0 _ _ _ h;refine⟨.norm,⟨k,Xb,H⟩,?_,h2⟩;rw[Ul];simp only[XD];rw[X3]at h1;rw[Bool.and_eq_true,Bool.and_eq_true]at hd;have hm:WA ops=false:=by simpa using hd.1.1
 have hs:isSplit C ops=false:=by simpa using hd.2
 have:YD P C (YA P C (Re P C)) ops true ⟨k,tm,H⟩=some ⟨k,Xb,H⟩:=by unfold YD Vg;rw[hm,hs,hd.1.2];simp only[Bool.and_false,cond_false,cond_true];exact h1
 rw[this]
def low(H H2:AH):AH:= { n:=H2.n,lw:=min H.lw H2.lw,t:=H2.t }
def LX(P:Program)(C:Cfg)(k:Nat):List uz->Tr Value->AH->(Tr Value->AH->Prop)->Prop
 |[],tm,H,K=>K tm H
 |o::r,tm,H,K=>match gW tm o.grd with
  |some true=>match ZV o.op with
   |true=>match ZB P C (Zy P C) tm H.top o.op with
    |some (v,H2)=>(H2.n=H.n/\H2.lw<H.n)/\match o.dst with|none=>LX P C k r tm (low H H2) K|some d=>d<k/\LX P C k r (tm.set d v) (low H H2) K
    |none=>False
   |false=>match ZB P C (Zy P C) tm H.top o.op with
    |some (v,H2)=>H2=H.top/\match o.dst with|none=>LX P C k r tm H K|some d=>d<k/\LX P C k r (tm.set d v) H K
    |none=>False
  |some false=>match o.dst with|none=>LX P C k r tm H K|some d=>d<k/\LX P C k r (tm.set d undef) H K
  |none=>False
def UU:List Oper->Bool|[]=>true|o::r=>cond (ZV o.op) (r.all fun o=>ZV o.op||!ZX o.op) (UU r)
def Cf(ops:Array Oper):Bool:=(List.range ops.size).all fun i=>match ops[i]? with|some o=>!ZV o.op||alone ops i|none=>true
theorem KY(Rb: ∀i o,ops[i]?=some o->ZV o.op=true->alone ops i=true): ∀(l:List Oper)(i:Nat)(q:Bool)(tm:Tr Value)(H:AH)(K:Tr Value->AH->Prop),(∀j,l[j]?=ops[i+j]?)->(q=true-> ∀o∈l,(ZV o.op||!ZX o.op)=true)->UU l=true->LX P C k (ZN ops l) tm H K-> ∃Xb H',XZ (X0 ops) P C (Zy P C) ops i q [] l ⟨k,tm,H⟩=some ⟨k,Xb,H'⟩/\K Xb H'
 |[],i,q,tm,H,K,hl,hq,hs,h=>⟨tm,H,by simp only[XZ],h⟩
 |o::r,i,q,tm,H,K,hl,hq,hs,h=>by
  have h0:ops[i]?=some o:=by simpa using(hl 0).symm
  have LO: ∀j,r[j]?=ops[i+1+j]?:=fun j=>by have:=hl (j+1);simpa[Nat.add_assoc,Nat.add_comm 1 j]using this
  have pD:q=true-> ∀o∈r,(ZV o.op||!ZX o.op)=true:=fun e o' h'=>hq e o' (List.mem_cons_of_mem _ h');simp only[ZN,LX]at h;simp only[XZ];rw[EO];have yG:UU r=true:=by unfold UU at hs;cases e:ZV o.op with
   |false=>rw[e,cond_false]at hs;exact hs
   |true=>rw[e,cond_true]at hs;clear h hl LO hq pD h0;induction r with
    |nil=>rfl
    |cons x r ih=>rw[List.all_cons,Bool.and_eq_true]at hs;unfold UU;cases ZV x.op with|false=>rw[cond_false];exact ih hs.2|true=>rw[cond_true];exact hs.2
  split at h
  ·rename_i hg;rw[hg];split at h
   ·rename_i JO;split at h
    ·rename_i v H2 Y8;obtain⟨⟨e1,e2⟩,h⟩:=h;obtain⟨Rf,YM,KK⟩:=Uw (k:=k) (H:=H) (H1:=low H H2) (K1:=fun tm=>LX P C k (ZN ops r) tm (low H H2) K) h;have Uz: ∀o∈r,(ZV o.op||!ZX o.op)=true:=by unfold UU at hs;rw[JO,cond_true]at hs;exact List.all_eq_true.mp hs
     obtain⟨Xb,H',h1,h2⟩:=KY Rb r (i+1) true Rf (low H H2) K LO (fun _=>Uz) yG KK;refine⟨Xb,H',?_,h2⟩;have hh:ZX o.op=true:=by revert JO;cases o.op<;>simp[ZV,ZX]
     have hd:Xc (X0 ops) P C (Zy P C) ops i q [] ⟨k,tm,H⟩ o=some (v,low H H2,true):=by
      unfold Xc;rw[hh,cond_true];simp only[X0,hidden,U8];have IG:ZB P C (Zy P C) tm { n:=H.n,lw:=H.n,t:=H.t } o.op=some (v,H2):=Y8;rw[IG];have a1:Nat.ble H.n H2.n=true:=Nat.ble_eq.mpr (by omega);have a2:Nat.ble H.n H2.lw=false:=by cases hb:Nat.ble H.n H2.lw with|false=>rfl|true=>have:=Nat.le_of_ble_eq_true hb;omega
      simp only[a1,a2,cond_true,Bool.and_false,cond_false,Rb i o h0 JO,List.isEmpty_nil,Bool.and_self];rfl
     have hn:Nat.blt H.n (low H H2).n=false:=by show Nat.blt H.n H2.n=false;rw[e1];exact XO _
     simp only[hd,YM,hn,cond_false];exact h1
    ·exact h.elim
   ·rename_i JO;split at h
    ·rename_i v H2 Y8;obtain⟨e,h⟩:=h;subst e;obtain⟨Rf,YM,KK⟩:=Uw (k:=k) (H:=H) (H1:=H) (K1:=fun tm=>LX P C k (ZN ops r) tm H K) h;obtain⟨Xb,H',h1,h2⟩:=KY Rb r (i+1) q Rf H K LO pD yG KK;refine⟨Xb,H',?_,h2⟩;have hd:Xc (X0 ops) P C (Zy P C) ops i q [] ⟨k,tm,H⟩ o=some (v,H,q):=by unfold Xc;cases hh:ZX o.op with
      |true=>
       have hqf:q=false:=by cases q with|false=>rfl|true=>have:=hq rfl o (List.mem_cons_self ..);rw[JO,hh]at this;cases this
       subst hqf;rw[cond_true];simp only[X0,hidden,U8];have IG:ZB P C (Zy P C) tm { n:=H.n,lw:=H.n,t:=H.t } o.op=some (v,{ n:=H.n,lw:=H.n,t:=H.t }):=Y8;rw[IG];have:Nat.ble H.n H.n=true:=Nat.ble_eq.mpr (Nat.le_refl _);simp only[this,cond_true,Bool.not_false,Bool.and_self,Nat.sub_self,NO]
      |false=>rw[cond_false];rw[SX hh Y8 H]
     simp only[hd,YM,XO,cond_false];exact h1
    ·exact h.elim
  ·rename_i hg;rw[hg];obtain⟨Rf,YM,KK⟩:=Uw (k:=k) (H:=H) (H1:=H) (K1:=fun tm=>LX P C k (ZN ops r) tm H K) h;obtain⟨Xb,H',h1,h2⟩:=KY Rb r (i+1) q Rf H K LO pD yG KK;refine⟨Xb,H',?_,h2⟩;simp only[YM];exact h1
  ·exact h.elim
theorem wc{id:Nat}{s:St}(hd:(!WA ops&&(UL ops&&!isSplit C ops)&&Cf ops&&UU ops.toList)=true)(h:LX P C s.k (strip ops) s.tm s.H fun Xb H'=>Q .norm ⟨s.k,Xb,H'⟩):W P C (.region id ops true) s Q:=by
 obtain⟨k,tm,H⟩:=s;rw[Bool.and_eq_true,Bool.and_eq_true,Bool.and_eq_true]at hd;have Rb: ∀i o,ops[i]?=some o->ZV o.op=true->alone ops i=true:=fun i o hi hs=>by have:=List.all_eq_true.mp hd.1.2 i (by simpa using YZ hi);rw[hi]at this;simpa[hs]using this
 obtain⟨Xb,H',h1,h2⟩:=KY Rb _ 0 false _ _ _ (fun j=>by simp) (fun e=>by cases e) hd.2 h;refine⟨.norm,⟨k,Xb,H'⟩,?_,h2⟩;rw[Ul];simp only[XD];have hm:WA ops=false:=by simpa using hd.1.1.1
 have Bu:=hd.1.1.2;rw[Bool.and_eq_true]at Bu;have hs:isSplit C ops=false:=by simpa using Bu.2
 rw[X3]at h1;have:YD P C (YA P C (Re P C)) ops true ⟨k,tm,H⟩=some ⟨k,Xb,H'⟩:=by unfold YD Vg;rw[hm,hs,Bu.1];simp only[Bool.and_false,cond_false,cond_true];exact h1
 rw[this]
theorem Xe(R:St->Prop){a b:Code}{s:St}(h1: ∀Q':Ex->St->Prop,(∀s',R s'->Q' .norm s')->W P C a s Q')(h2: ∀s',R s'->W P C b s' Q):W P C (.seq a b) s Q:=MO R (h1 _ fun s' h=>⟨rfl,h⟩) h2
end
end
end Go.Proofs.YtmkfecoeghokfaaGreatDoor.Ev
namespace Go.Proofs.YtmkfecoeghokfaaGreatDoor
open Go Ev
set_option linter.unusedVariables false
set_option linter.unusedSimpArgs false
noncomputable section
set_option maxHeartbeats 2000000
set_option maxRecDepth 20000
section
attribute [-simp] Int.natCast_add Int.natCast_mul Int.natCast_ediv Int.natCast_emod Int.natCast_pow
attribute [local simp] strip ZN Xr LR gW ZB Yj ZU Yk ZG Yl Zw Zx Zj ZF Yd ZL Z1 Zl ZE Zk Zi Z0 ZA YK Zs Yf Y2 YW ZH plain ZM Tr.get_set Yz Zt Yt ZS sameKind undef ZZ ZD Yc Zv ZC Yh ZT parts ZJ XI DW Ym ZX LX ZV Zr ZI ZO XT Yi Zm ZP ZY ZR
def Yw:Value->Option Nat| .slice (some ⟨b,_,none⟩) _ _=>some b|_=>none
def Vz(v w:Value):Prop:= ∀b,Yw v=some b->Yw w≠some b
structure TF (b : Option Nat) (H H' : AH) : Prop where
  n : H'.n = H.n
  blk : ∀ j, j < H.n -> b ≠ some j -> H'.blk j = H.blk j
theorem TF.refl(b:Option Nat)(H:AH):TF b H H:=⟨rfl,fun _ _ _=>rfl⟩
theorem TF.trans{b:Option Nat}{H H1 H2:AH}(x:TF b H H1)(y:TF b H1 H2):TF b H H2:=⟨y.n.trans x.n,fun j hn hj=>(y.blk j (by rw[x.n];exact hn) hj).trans (x.blk j hn hj)⟩
theorem At.but{b:Option Nat}{H H':AH}{c o:Nat}{xs:List Nat}(h:At H c o xs)(k:TF b H H')(hb:b≠some c):At H' c o xs:=by obtain⟨h1,cs,h2,h3,h4⟩:=h;have e:=k.blk c h1 hb;exact⟨by rw[k.n];exact h1,cs,by unfold AH.cells;rw[e];exact h2,by unfold AH.size;rw[e];exact h3,h4⟩
theorem Sl.but{b:Option Nat}{H H':AH}{v:Value}{xs:List Nat}(h:Sl H v xs)(k:TF b H H')(hb: ∀c,b=some c->Yw v≠some c):Sl H' v xs:=by cases h with|nil=>exact .nil|emp b=>exact .emp b|mk c o cap xs h1 h2=>exact .mk c o cap xs h1 (h2.but k fun e=>hb c e rfl)
theorem Yo.but{b:Option Nat}{n0:Nat}{H H':AH}{v:Value}{xs:List Nat}(h:Yo n0 H v xs)(k:TF b H H')(hb: ∀c,b=some c->Yw v≠some c):Yo n0 H' v xs:=by cases h with|nil=>exact .nil|mk c o cap xs cs h1 h2 h3 h4 h5 h6=>exact .mk c o cap xs cs h1 h2 (by rw[k.n];exact h3) (by rw[k.blk c h3 fun e=>hb c e rfl];exact h4) h5 h6
theorem Yo.blk_lo{n0:Nat}{H:AH}{v:Value}{xs:List Nat}(h:Yo n0 H v xs){b:Nat}(hb:Yw v=some b):n0<=b/\b<H.n:=by cases h with|nil=>cases hb|mk c o cap xs cs h1 h2 h3 h4 h5 h6=>cases hb;exact⟨h2,h3⟩
theorem Sl.blk_lt{H:AH}{v:Value}{xs:List Nat}(h:Sl H v xs){b:Nat}(hb:Yw v=some b):b<H.n:=by cases h with|nil=>cases hb|emp _=>cases hb|mk c o cap xs h1 h2=>cases hb;exact h2.1
theorem Yo.put{n:Nat}{H:AH}{v:Value}{xs:List Nat}(h:Yo n H v xs){i:Nat}(hi:i<xs.length)(y:Nat): ∃H',YX Tryz.prog H 101 (adr v i) (.int .u64 (y:Int))=some H'/\Yo n H' v (xs.set i y)/\H'.n=H.n/\(∀j,Yw v≠some j->H'.blk j=H.blk j)/\ ∀H0,Zg H0 H->H0.n<=n->Zg H0 H':=by cases h with
 |nil=>cases hi
 |mk b o cap xs cs h1 h2 h3 h4 h5 h6=>
  have hlen:Nat.ble (o+i+1) cs.length=true:=Nat.ble_eq.mpr (by omega);have e0:(Value.int .u64 (y:Int)).cells=#[.int .u64 (y:Int)]:=rfl;have hw:H.write b (o+i) [.int .u64 (y:Int)]=some { n:=H.n,lw:=min H.lw b,t:=H.t.set b (.rw 1 (cs.take (o+i)++[.int .u64 (y:Int)]++cs.drop (o+i+1))) } :=by rw[AH.write_def,h4];simp only[List.length_singleton,hlen,Bool.true_and];rfl
  refine⟨{ n:=H.n,lw:=min H.lw b,t:=H.t.set b (.rw 1 (cs.take (o+i)++[.int .u64 (y:Int)]++cs.drop (o+i+1))) },?_,?_,rfl,?_,?_⟩;·unfold YX Go.Proofs.YtmkfecoeghokfaaGreatDoor.adr;simp only[MX,e0];rw[show Nat.beq (#[Value.int .u64 (y:Int)]:Array Value).size 1=true from rfl,cond_true];exact hw
  ·have hl:(xs.set i y).length=xs.length:=List.length_set;rw[<-hl];refine .mk b o cap _ (cs.take (o+i)++[.int .u64 (y:Int)]++cs.drop (o+i+1)) (by omega) h2 h3 ?_ ?_ ?_;·unfold AH.blk;simp only[Tr.get_set,if_true]
   ·simp only[List.length_append,List.length_take,List.length_drop,List.length_singleton];omega
   ·intro j x hj;rw[List.getElem?_set]at hj;by_cases e:i=j;·subst e;rw[if_pos rfl,if_pos hi]at hj;cases hj;rw[List.append_assoc,List.getElem?_append_right (by rw[List.length_take];omega)];rw[List.length_take,show o+i-min (o+i) cs.length=0 by omega];rfl
    ·rw[if_neg e]at hj;have:=h6 j x hj;rcases Nat.lt_or_ge (o+j) (o+i)with YP|SL;·rw[List.append_assoc,List.getElem?_append_left (by rw[List.length_take];omega),List.getElem?_take,if_pos YP];exact this
     ·rw[List.getElem?_append_right (by simp only[List.length_append,List.length_take,List.length_singleton];omega),List.getElem?_drop];simp only[List.length_append,List.length_take,List.length_singleton];rw[show o+i+1+(o+j-(min (o+i) cs.length+1))=o+j by omega];exact this
  ·intro j hj;have:j≠b:=fun e=>hj (by rw[e];rfl);unfold AH.blk;simp only[Tr.get_set,if_neg this]
  ·intro H0 k hn;refine⟨k.n,?_,fun j hj=>?_⟩;·have:=k.lw;show min H0.lw H0.n<=min H.lw b;omega
   ·have:j≠b:=by omega
    rw[<-k.blk j hj];unfold AH.blk;simp only[Tr.get_set,if_neg this]
def View(w v:Value)(j m:Nat):Prop:= ∀(t:TypeId),LT t-> ∀(k:IntKind)(i:Nat),i<m->Yg Tryz.prog t w (.int k (i:Int))=some (adr v (j+i))
theorem Sl.part{H:AH}{v:Value}{xs:List Nat}(h:Sl H v xs){t:TypeId}(ht:LT t){j m:Nat}(hm:j+m<=xs.length)(h0:0<m): ∃w,Vy Tryz.prog H t v (some (.int .i64 (j:Int))) (some (.int .i64 ((j+m:Nat):Int))) none=some w/\Sl H w ((xs.drop j).take m)/\View w v j m/\Yw w=Yw v:=by cases h with
 |nil=>simp at hm;omega
 |emp b=>simp at hm;omega
 |mk b o cap xs h1 h2=>
  have hl:((xs.drop j).take m).length=m:=by rw[List.length_take,List.length_drop];omega
  obtain⟨lJ,cs,h3,h4,h5⟩:=h2;refine⟨.slice (some ⟨b,o+j,none⟩) ((xs.drop j).take m).length (cap-j),?_,.mk b (o+j) (cap-j) _ (by omega) ⟨lJ,cs,h3,h4,fun i x hx=>?_,by have:=(List.getElem?_eq_some_iff.mp (h5.1 j _ (List.getElem?_eq_getElem (show j<xs.length by omega)))).1;omega⟩,?_,rfl⟩
  ·unfold Vy;simp only[ht.1,MX];unfold IV Xq;simp only[h4,Option.isSome_some,Option.isNone_none,Bool.true_or];rw[if_pos (by omega)];have e1:Nat.ble (j+m) cap=true:=Nat.ble_eq.mpr (by omega);have e2:Nat.blt j cap=true:=by rw[Nat.blt_eq];omega
   simp only[Xq,Int.toNat_natCast];rw[if_pos (by omega)];simp[e1,e2,hl]
  ·rw[List.getElem?_take]at hx;split at hx;·rw[List.getElem?_drop]at hx;have:=h5.1 (j+i) x hx;rwa[<-Nat.add_assoc]at this
   ·cases hx
  ·intro t ht k i hi;unfold Yg Go.Proofs.YtmkfecoeghokfaaGreatDoor.adr;simp only[ht.1,MX];rw[if_pos (by omega)];simp[Nat.add_assoc]
def KA(n0:Nat)(H H1:AH):Prop:= ∀H0,Zg H0 H->H0.n<=n0->Zg H0 H1
theorem KA.refl(n0:Nat)(H:AH):KA n0 H H:=fun _ k _=>k
theorem KA.trans{n0:Nat}{H H1 H2:AH}(a:KA n0 H H1)(b:KA n0 H1 H2):KA n0 H H2:=fun H0 k h=>b H0 (a H0 k h) h
theorem Yo.segload{n0:Nat}{H:AH}{U0:Value}{pre us post:List Nat}(h:Yo n0 H U0 (pre++us++post)){j:Nat}(hj:pre.length=j){i:Nat}(hi:i<us.length):Z9 Tryz.prog H 101 (adr U0 (j+i))=some (.int .u64 (us[i]:Nat)):=by subst hj;have:=h.sl.load (i:=pre.length+i) (by simp;omega);rw[this];congr 3;rw[List.getElem_append_left (by simp;omega),List.getElem_append_right (by omega)];simp
theorem Yo.segstore{n0:Nat}{H:AH}{U0:Value}{pre us post:List Nat}(h:Yo n0 H U0 (pre++us++post)){j:Nat}(hj:pre.length=j){i:Nat}(hi:i<us.length)(y:Nat): ∃H',YX Tryz.prog H 101 (adr U0 (j+i)) (.int .u64 (y:Int))=some H'/\Yo n0 H' U0 (pre++us.set i y++post)/\TF (Yw U0) H H'/\KA n0 H H':=by subst hj;obtain⟨H',h1,h2,h3,h4,h5⟩:=h.put (i:=pre.length+i) (by simp;omega) y;refine⟨H',h1,?_,⟨h3,fun j _=>h4 j⟩,h5⟩;rw[List.set_append_left _ _ (by simp;omega),List.set_append_right _ _ (by omega),Nat.add_sub_cancel_left]at h2;exact h2
theorem UT(x y:Nat)(H:AH):Zy Tryz.prog Zu 203 [.int .u64 (x:Int),.int .u64 (y:Int),.int .u64 0] H=some (.tuple #[.int .u64 (((x+y)%Zd:Nat):Int),.int .u64 (((x+y)/Zd:Nat):Int)],H):=Qm x y 0 H (by omega)
theorem QM{x y:Nat}(hx:x<Zd)(hy:y<Zd)(H:AH):Zy Tryz.prog Zu 202 [.int .u64 (x:Int),.int .u64 (y:Int)] H=some (.tuple #[.int .u64 ((x*y/Zd:Nat):Int),.int .u64 ((x*y%Zd:Nat):Int)],H):=by obtain⟨v,H',h,rfl,rfl⟩:=BE hx hy (H:=H);exact h
theorem O9{h l y:Nat}(hh:h<y)(hl:l<Zd)(hy:y<Zd)(H:AH):Zy Tryz.prog Zu 205 [.int .u64 (h:Int),.int .u64 (l:Int),.int .u64 (y:Int)] H=some (.tuple #[.int .u64 (((h*Zd+l)/y:Nat):Int),.int .u64 (((h*Zd+l)%y:Nat):Int)],H):=by obtain⟨v,H',h,rfl,rfl⟩:=CD hh hl hy (H:=H);exact h
theorem Mo{x:Nat} :Zc .neq .u64 (x:Int) 0=some (.bool (decide (x≠0))):=KG (y:=0)
theorem jV{x:Nat}(h:x<9223372036854775808)(hx:2<=x):Zc .sub .i64 (x:Int) 2=some (.int .i64 ((x-2:Nat):Int)):=KB (x:=x) (y:=2) h hx
theorem We{x y:Nat}(h:x+y<Zd):Zc .add .u64 (x:Int) (y:Int)=some (.int .u64 ((x+y:Nat):Int)):=by rw[TZ,Nat.mod_eq_of_lt h]
theorem Q2{xs:List Nat}{n:Nat}(h:xs.length=n+1):xs=xs.take n++[xs[n]'(by omega)]:=by have:=List.take_append_getElem (l:=xs) (i:=n) (by omega);rw[this,<-h,List.take_length]
theorem ua{us vs:List Nat}{n:Nat}(hu:us.length=n+1)(hv:vs.length=n)(h2:2<=n)(du:YC Zd us)(dv':YC Zd vs)(hp:0<vs[n-1]'(by omega)):GW Zd (Zd^(n-2)) (dv Zd vs) (dv Zd us) (vs[n-1]'(by omega)) (vs[n-2]'(by omega)) (dv Zd (vs.take (n-2))) ((us[n]'(by omega))*Zd+us[n-1]'(by omega)) (us[n-2]'(by omega)) (dv Zd (us.take (n-2))):=by
 obtain⟨m,rfl⟩: ∃m,n=m+2:=⟨n-2,by omega⟩;simp only[Nat.add_sub_cancel,show m+2-1=m+1 by omega]at hp⊢;have e1:vs=vs.take m++[vs[m]'(by omega),vs[m+1]'(by omega)]:=by have a:=Q2 (n:=m+1) hv;have b:=Xm (xs:=vs) (i:=m) (by omega);rw[b,List.append_assoc]at a;exact a
 have e2:us=us.take m++[us[m]'(by omega),us[m+1]'(by omega),us[m+2]'(by omega)]:=by have a:=Q2 (n:=m+2) hu;have b:=Xm (xs:=us) (i:=m+1) (by omega);have c:=Xm (xs:=us) (i:=m) (by omega);rw[b,c,List.append_assoc,List.append_assoc]at a;exact a
 have l1:(vs.take m).length=m:=by rw[List.length_take];omega
 have l2:(us.take m).length=m:=by rw[List.length_take];omega
 refine⟨?_,?_,?_,?_,du.get (List.getElem?_eq_getElem (by omega)),dv'.get (List.getElem?_eq_getElem (by omega)),hp⟩;·have:=congrArg (dv Zd) e1;rw[this,Yr,l1];simp only[dv,Nat.mul_zero,Nat.add_zero];rw[Nat.add_comm,Nat.mul_comm (Zd^m),Nat.mul_comm Zd,Nat.add_comm (vs[m])]
 ·have:=congrArg (dv Zd) e2;rw[this,Yr,l2];simp only[dv,Nat.mul_zero,Nat.add_zero];rw[Nat.add_comm,Nat.mul_comm (Zd^m),Nat.mul_comm Zd (us[m+1]+_),Nat.add_comm (us[m+1]),Nat.mul_comm Zd us[m+2],Nat.add_comm (us[m])]
 ·have:=Ww (dv'.take m);rwa[l1]at this
 ·have:=Ww (du.take m);rwa[l2]at this
theorem KT{x B:Nat}(hB:0<B)(h:x/B=0):x<B:=by
 rcases Nat.lt_or_ge x B with h'|h';·exact h'
 ·have:=Nat.div_pos h' hB;omega
structure oH (V U y1 u q r : Nat) (sure : Bool) : Prop where
  ge : U / V <= q
  lt : q < Zd
  no : sure = false -> q * y1 + r = u /\ r < Zd
  yes : sure = true -> q <= U / V + 1
theorem Bb{n0 n j:Nat}{H:AH}{U0 uv vv:Value}{pre us post vs:List Nat}(hu:Yo n0 H U0 (pre++us++post))(hj:pre.length=j)(hus:us.length=n+1)(E7:View uv U0 j (n+1))(du:YC Zd us)(hv:Sl H vv vs)(Oj:Vz U0 vv)(JL:vs.length=n)(h2:2<=n)(hn:n<=17592186044416)(fR:YC Zd vs)(hp:0<vs[n-1]'(by omega))(YP:dv Zd us<dv Zd vs*Zd):CW Tryz.prog Zu 218 [uv,vv] H fun v H'=>v= .int .u64 ((dv Zd us/dv Zd vs:Nat):Int)/\TF (Yw U0) H H'/\KA n0 H H'/\ ∃Pn,Pn.length=n+1/\YC Zd Pn/\dv Zd Pn=dv Zd us%dv Zd vs/\Yo n0 H' U0 (pre++Pn++post):=by
 refine Z2 195 Tryz.func218 ?_;have T:=ua hus JL h2 du fR hp;have Vpos:=T.Vpos;obtain⟨V,hV⟩:=hid (dv Zd vs);obtain⟨U,hU⟩:=hid (dv Zd us);obtain⟨un,A9⟩:=hid (us[n]'(by omega));obtain⟨K0,sT⟩:=hid (us[n-1]'(by omega));obtain⟨um,sS⟩:=hid (us[n-2]'(by omega));obtain⟨y1,uB⟩:=hid (vs[n-1]'(by omega));obtain⟨y0,Kt⟩:=hid (vs[n-2]'(by omega));rw[<-hV,<-hU,<-A9,<-sT,<-sS,<-uB,<-Kt]at T;rw[<-hV,<-hU]at YP⊢;rw[<-hV]at Vpos;rw[<-uB]at hp;have bun:un<Zd:=by rw[A9];exact du.get (List.getElem?_eq_getElem (by omega))
 have bun1:K0<Zd:=by rw[sT];exact du.get (List.getElem?_eq_getElem (by omega))
 have bun2:um<Zd:=by rw[sS];exact du.get (List.getElem?_eq_getElem (by omega))
 have by1:y1<Zd:=by rw[uB];exact fR.get (List.getElem?_eq_getElem (by omega))
 have by0:y0<Zd:=by rw[Kt];exact fR.get (List.getElem?_eq_getElem (by omega))
 have hQB:U/V<Zd:=by rw[Nat.div_lt_iff_lt_mul Vpos,Nat.mul_comm];exact YP
 have Dg:=hv.len Zv;rw[JL]at Dg;have s1:Zc .sub .i64 (n:Int) 1=some (.int .i64 ((n-1:Nat):Int)):=Ut (by omega) (by omega);have s2:Zc .sub .i64 (n:Int) 2=some (.int .i64 ((n-2:Nat):Int)):=jV (by omega) h2;have an:Yg Tryz.prog 30 uv (.int .i64 (n:Int))=some (adr U0 (j+n)):=E7 _ Zv .i64 n (by omega);have an1:Yg Tryz.prog 30 uv (.int .i64 ((n-1:Nat):Int))=some (adr U0 (j+(n-1))):=E7 _ Zv .i64 (n-1) (by omega);have an2:Yg Tryz.prog 30 uv (.int .i64 ((n-2:Nat):Int))=some (adr U0 (j+(n-2))):=E7 _ Zv .i64 (n-2) (by omega);have av1:Yg Tryz.prog 30 vv (.int .i64 ((n-1:Nat):Int))=some (adr vv (n-1)):=hv.adr Zv (by omega);have av2:Yg Tryz.prog 30 vv (.int .i64 ((n-2:Nat):Int))=some (adr vv (n-2)):=hv.adr Zv (by omega);have ln:Z9 Tryz.prog H 101 (adr U0 (j+n))=some (.int .u64 (un:Int)):=by rw[A9];exact hu.segload hj (by omega)
 have ln1:Z9 Tryz.prog H 101 (adr U0 (j+(n-1)))=some (.int .u64 (K0:Int)):=by rw[sT];exact hu.segload hj (by omega)
 have ln2:Z9 Tryz.prog H 101 (adr U0 (j+(n-2)))=some (.int .u64 (um:Int)):=by rw[sS];exact hu.segload hj (by omega)
 have lv1:Z9 Tryz.prog H 101 (adr vv (n-1))=some (.int .u64 (y1:Int)):=by rw[uB];exact hv.load (by omega)
 have lv2:Z9 Tryz.prog H 101 (adr vv (n-2))=some (.int .u64 (y0:Int)):=by rw[Kt];exact hv.load (by omega)
 have aM: ∀(a:Value),Z9 Tryz.prog H.top 101 a=Z9 Tryz.prog H 101 a:=fun _=>rfl;apply Zb;intro b1 Ze;simp;subst Ze;apply Zb;intro b1 Ze;simp[Dg];subst Ze;apply Zb;intro b1 Ze;simp;subst Ze;apply Zb;intro b1 Ze;simp;subst Ze;refine Xe (fun s'=>s'.k=195/\s'.H=H/\s'.tm.get 0=some uv/\s'.tm.get 1=some vv/\s'.tm.get 5=some (.int .i64 (n:Int))/\ ∃(q r:Nat) (sure:Bool),oH V U y1 (un*Zd+K0) q r sure/\s'.tm.get 6=some (.int .u64 (q:Int))/\s'.tm.get 7=some (.int .u64 (r:Int))/\s'.tm.get 8=some (.bool sure)) ?_ ?_
 ·intro Q' Y0;apply Zf;intro b1 Ze;apply Rg (by kernel_rfl);simp[Dg,an,s1,av1,ln,lv1,G8];subst Ze;by_cases SL:y1<=un
  ·have hEq:un=y1:=Nat.le_antisymm (T.high YP) SL;refine Za (t:=true) (by simp[SL]) ?_;apply Zb;intro b1 Ze;simp;subst Ze;apply Zb;intro b1 Ze;simp;subst Ze;apply Zf;intro b1 Ze;apply NP (by kernel_rfl);simp[s1,an1,av1,aM,ln1,lv1,UT];subst Ze;apply Zh;simp[Mo];apply Y0;have hB1:((18446744073709551615:Nat):Int)=18446744073709551615:=rfl;have he:18446744073709551615*y1+(K0+y1)=un*Zd+K0:=by rw[hEq];show 18446744073709551615*y1+(K0+y1)=y1*18446744073709551616+K0;omega
   refine⟨rfl,rfl,by simp,by simp,by simp,18446744073709551615,(K0+y1)%Zd,decide ((K0+y1)/Zd≠0),⟨?_,by decide,?_,?_⟩,by simp[hB1],by simp,by simp⟩;·have:U/V<18446744073709551616:=hQB;omega
   ·intro h;have h0:(K0+y1)/Zd=0:=by have:=of_decide_eq_false h;omega
    have hm:(K0+y1)%Zd=K0+y1:=Nat.mod_eq_of_lt (KT (by decide) h0);rw[hm];refine⟨he,?_⟩;rw[<-hm];exact Nat.mod_lt _ (by decide)
   ·intro h;have h0: ¬ (K0+y1)/Zd=0:=of_decide_eq_true h;refine T.false he (by decide) ?_;have h1:Zd<=K0+y1:=by
     rcases Nat.lt_or_ge (K0+y1) Zd with h'|h';·exact absurd (Nat.div_eq_of_lt h') h0
     ·exact h'
    have h2:Zd*Zd<=(K0+y1)*Zd:=Nat.mul_le_mul_right _ h1;have h3:18446744073709551615*y0<=Zd*Zd:=Nat.mul_le_mul (by decide) (by omega);omega
  ·refine Za (t:=false) (by simp;omega) ?_;have yx:un<y1:=by omega
   apply NP (by kernel_rfl);simp[s1,an,an1,av1,aM,ln,ln1,lv1,O9 yx bun1 by1];apply Y0;refine⟨rfl,rfl,by simp,by simp,by simp,(un*Zd+K0)/y1,(un*Zd+K0)%y1,false,⟨T.first,?_,?_,fun h=>by cases h⟩,by simp,by simp,by simp⟩;·rw[Nat.div_lt_iff_lt_mul hp,Nat.mul_comm Zd y1];have:(un+1)*Zd<=y1*Zd:=Nat.mul_le_mul_right _ yx;rw[Nat.succ_mul]at this;omega
   ·intro _;exact⟨by rw[Nat.mul_comm];exact Nat.div_add_mod _ _,Nat.lt_trans (Nat.mod_lt _ hp) by1⟩
 rintro⟨k,tm,H'⟩ ⟨hk,hH,t0,t1,t5,q,r,sure,jI,t6,t7,t8⟩;simp only at hk hH t0 t1 t5 t6 t7 t8;subst hk;subst hH;refine Xe (fun s'=>s'.k=195/\s'.H=H'/\s'.tm.get 0=some uv/\s'.tm.get 1=some vv/\s'.tm.get 5=some (.int .i64 (n:Int))/\ ∃(q:Nat),U/V<=q/\q<=U/V+1/\q<Zd/\s'.tm.get 6=some (.int .u64 (q:Int))) ?_ ?_;·intro IY XG;apply Zz;refine YU (fun m s'=>s'.k=195/\s'.H=H'/\s'.tm.get 0=some uv/\s'.tm.get 1=some vv/\s'.tm.get 5=some (.int .i64 (n:Int))/\ ∃(r:Nat) (sure:Bool),oH V U y1 (un*Zd+K0) m r sure/\s'.tm.get 6=some (.int .u64 (m:Int))/\s'.tm.get 7=some (.int .u64 (r:Int))/\s'.tm.get 8=some (.bool sure)) ?_ q _ ⟨rfl,rfl,t0,t1,t5,r,sure,jI,t6,t7,t8⟩;clear t0 t1 t5 t6 t7 t8 jI;rintro q ⟨k,tm,H2⟩ ⟨hk,hH,t0,t1,t5,r,sure,jI,t6,t7,t8⟩ Q' Y0;simp only at hk hH t0 t1 t5 t6 t7 t8;subst hk;subst hH;apply Zf;intro b3 Z3;apply Zb;intro b4 Yx;simp[t8];subst Yx;cases sure with
  |true=>refine Za (t:=false) (by simp) ?_;apply YQ;apply Y0;left;exact⟨rfl,XG _ ⟨rfl,rfl,by simp[t0],by simp[t1],by simp[t5],q,jI.ge,jI.yes rfl,jI.lt,by simp[t6]⟩⟩
  |false=>
   refine Za (t:=true) (by simp) ?_;apply Zn;subst Z3;obtain⟨ia,hrB⟩:=jI.no rfl;have dE:=jI.lt;apply Zz;apply Zb;intro b3 Z3;simp[t6,t1,t5,s2,av2,lv2,QM dE by0];subst Z3;obtain⟨hi,hhi⟩:=hid (q*y0/Zd);obtain⟨lo,hlo⟩:=hid (q*y0%Zd);have ehl:q*y0=Zd*hi+lo:=by rw[hhi,hlo];exact(Nat.div_add_mod _ _).symm
   have hloB:lo<Zd:=by rw[hlo];exact Nat.mod_lt _ (by decide)
   rw[<-hhi,<-hlo];have stop:q*y0<=r*Zd+um->q<=U/V+1:=fun h=>T.false ia dE h;have on:r*Zd+um<q*y0->0<q/\U/V<=q-1/\(q-1)*y1+(r+y1)=un*Zd+K0:=fun h=>by have h1:=T.true ia h;have yL:0<q:=Nat.lt_of_le_of_lt (Nat.zero_le _) h1;refine⟨yL,Nat.le_sub_one_of_lt h1,?_⟩;obtain⟨q',rfl⟩: ∃q',q=q'+1:=⟨q-1,by omega⟩;rw[Nat.succ_mul]at ia;rw[Nat.add_sub_cancel];omega
   apply Zf;intro b3 Z3;apply Zf;intro b4 Yx;have px: ∀Xb,q*y0<=r*Zd+um->Xb.get 0=some uv->Xb.get 1=some vv->Xb.get 5=some (.int .i64 (n:Int))->Xb.get 6=some (.int .u64 (q:Int))->Q' (.exit 0) ⟨195,Xb,H2⟩:=fun Xb h a b c d=>by apply Y0;left;exact⟨rfl,XG _ ⟨rfl,rfl,a,b,c,q,jI.ge,stop h,dE,d⟩⟩
   have onk: ∀Xb,r*Zd+um<q*y0->Xb.get 0=some uv->Xb.get 1=some vv->Xb.get 5=some (.int .i64 (n:Int))->Xb.get 6=some (.int .u64 (q:Int))->Xb.get 7=some (.int .u64 (r:Int))->Xb.get 8=some (.bool false)->W Tryz.prog Zu b3 ⟨195,Xb,H2⟩ (Ye 1 Q'):=fun Xb h t0 t1 t5 t6 t7 t8=>by
    obtain⟨yL,SL,heq⟩:=on h;subst Z3;apply Zb;intro b3 Z3;simp[t6,MW dE yL];subst Z3;apply Zb;intro b3 Z3;simp;subst Z3;apply Zb;intro b3 Z3;simp[t7,t1,t5,s1,av1,lv1,UT];subst Z3;apply Zb;intro b3 Z3;simp[Mo];subst Z3;by_cases gD:(r+y1)/Zd=0;·refine Za (t:=false) (by simp;exact KT (by decide) gD) ?_;have hm:(r+y1)%Zd=r+y1:=Nat.mod_eq_of_lt (KT (by decide) gD);apply Zn;apply Y0;refine⟨q-1,by omega,rfl,rfl,by simp[t0],by simp[t1],by simp[t5],(r+y1)%Zd,false,⟨SL,by omega,fun _=>⟨by rw[hm];exact heq,Nat.mod_lt _ (by decide)⟩,fun h=>by cases h⟩,by simp,by simp,by simp[t8]⟩
    ·have h1:Zd<=r+y1:=by
      rcases Nat.lt_or_ge (r+y1) Zd with h'|h';·exact absurd (Nat.div_eq_of_lt h') gD
      ·exact h'
     refine Za (t:=true) (by simp;exact h1) ?_;apply YQ;right;refine⟨by decide,?_⟩;apply Y0;left;refine⟨rfl,XG _ ⟨rfl,rfl,by simp[t0],by simp[t1],by simp[t5],q-1,SL,?_,by omega,by simp⟩⟩;refine T.false heq (by omega) ?_;have h2:Zd*Zd<=(r+y1)*Zd:=Nat.mul_le_mul_right _ h1;have h3:(q-1)*y0<=Zd*Zd:=Nat.mul_le_mul (by omega) (by omega);omega
   apply Zh;by_cases c1:hi<r;·simp[t7,c1];subst Yx;refine Za (t:=true) (by simp) ?_;apply YQ;right;refine⟨by decide,px _ ?_ (by simp[t0]) (by simp[t1]) (by simp[t5]) (by simp[t6])⟩;have:Zd*(hi+1)<=Zd*r:=Nat.mul_le_mul_left _ c1;rw[Nat.mul_succ,Nat.mul_comm Zd r]at this;omega
   ·by_cases c2:hi=r
    ·by_cases c3:lo<=um;·simp[t7,t0,t5,c1,Oh,c2,s2,an2,ln2,Ok,c3];subst Yx;refine Za (t:=true) (by simp) ?_;apply YQ;right;refine⟨by decide,px _ ?_ (by simp[t0]) (by simp[t1]) (by simp[t5]) (by simp[t6])⟩;rw[ehl,c2,Nat.mul_comm];omega
     ·simp[t7,t0,t5,c1,Oh,c2,s2,an2,ln2,Ok,c3];subst Yx;refine Za (t:=false) (by simp) ?_;apply Zn;show W _ _ b3 _ _;refine onk _ ?_ (by simp[t0]) (by simp[t1]) (by simp[t5]) (by simp[t6]) (by simp[t7]) (by simp[t8]);rw[ehl,c2,Nat.mul_comm];omega
    ·simp[t7,t0,t5,c1,Oh,c2];subst Yx;refine Za (t:=false) (by simp) ?_;apply Zn;show W _ _ b3 _ _;refine onk _ ?_ (by simp[t0]) (by simp[t1]) (by simp[t5]) (by simp[t6]) (by simp[t7]) (by simp[t8]);have:Zd*(r+1)<=Zd*hi:=Nat.mul_le_mul_left _ (by omega);rw[Nat.mul_succ,Nat.mul_comm Zd r]at this;omega
 clear t0 t1 t5 t6 t7 t8 jI q r sure;rintro⟨k,tm,H2⟩ ⟨hk,hH,t0,t1,t5,q,qge,qle,qB,t6⟩;simp only at hk hH t0 t1 t5 t6;subst hk;subst hH;have qc: ∀{H1:AH},TF (Yw U0) H2 H1->Sl H1 vv vs:=fun k=>hv.but k Oj;apply Zb;intro b1 Ze;simp;subst Ze;refine Xe (fun s'=>s'.k=195/\s'.tm.get 0=some uv/\s'.tm.get 1=some vv/\s'.tm.get 5=some (.int .i64 (n:Int))/\s'.tm.get 6=some (.int .u64 (q:Int))/\TF (Yw U0) H2 s'.H/\KA n0 H2 s'.H/\ ∃(L:List Nat) (carry borrow:Nat),L.length=n/\YC Zd L/\carry<Zd/\borrow<=1/\dv Zd L+q*V=dv Zd (us.take n)+Zd^n*(carry+borrow)/\Yo n0 s'.H U0 (pre++(L++us.drop n)++post)/\s'.tm.get 13=some (.int .u64 (carry:Int))/\s'.tm.get 14=some (.int .u64 (borrow:Int))) ?_ ?_
 ·intro IY XG;apply Zb;intro b1 Ze;simp[t1,Dg];subst Ze;apply Zz;refine YU (fun m s'=>s'.k=195/\s'.tm.get 0=some uv/\s'.tm.get 1=some vv/\s'.tm.get 5=some (.int .i64 (n:Int))/\s'.tm.get 6=some (.int .u64 (q:Int))/\TF (Yw U0) H2 s'.H/\KA n0 H2 s'.H/\s'.tm.get 113=some vv/\s'.tm.get 114=some (.int .i64 (n:Int))/\ ∃(i:Nat) (L:List Nat) (carry borrow:Nat),m+i=n/\L.length=i/\YC Zd L/\carry<Zd/\borrow<=1/\dv Zd L+q*dv Zd (vs.take i)=dv Zd (us.take i)+Zd^i*(carry+borrow)/\Yo n0 s'.H U0 (pre++(L++us.drop i)++post)/\s'.tm.get 13=some (.int .u64 (carry:Int))/\s'.tm.get 14=some (.int .u64 (borrow:Int))/\s'.tm.get 115=some (.int .i64 (i:Int))) ?_ n _ ⟨rfl,by simp[t0],by simp[t1],by simp[t5],by simp[t6],.refl _ _,.refl _ _,by simp[t1],by simp,0,[],0,0,by omega,rfl,.nil _,by decide,by omega,by simp[dv],by simpa using hu,by simp,by simp,by simp⟩;clear t0 t1 t5 t6;rintro m ⟨k,tm,H3⟩ ⟨hk,t0,t1,t5,t6,kb,ka,t113,t114,i,L,carry,borrow,M5,hL,dL,hc,hb,heq,own,t13,t14,t115⟩ Q' Y0;simp only at hk t0 t1 t5 t6 kb ka t113 t114 t13 t14 t115 own;subst hk;apply Zb;intro b3 Z3;simp[t114,t115];subst Z3;apply Zf;intro b3 Z3;by_cases hi:i<n
  ·refine Za (t:=true) (by simp[hi]) ?_;apply Zn;subst Z3;have zg:=qc kb;have a1:Yg Tryz.prog 30 vv (.int .i64 (i:Int))=some (adr vv i):=zg.adr Zv (by omega);have hx:vs[i]<Zd:=fR.get (List.getElem?_eq_getElem (by omega));have d1:Z9 Tryz.prog H3 101 (adr vv i)=some (.int .u64 (vs[i]:Nat)):=zg.load (by omega);have a2:Yg Tryz.prog 30 uv (.int .i64 (i:Int))=some (adr U0 (j+i)):=E7 _ Zv .i64 i (by omega);have ze:us.drop i=us[i]::us.drop (i+1):=List.drop_eq_getElem_cons (by omega);have huB:us[i]<Zd:=du.get (List.getElem?_eq_getElem (by omega));have d2:Z9 Tryz.prog H3 101 (adr U0 (j+i))=some (.int .u64 (us[i]:Nat)):=by have:=own.segload hj (i:=i) (by simp;omega);rw[this];congr 3;rw[List.getElem_append_right (by omega)];simp[hL]
   obtain⟨x,Nj⟩:=hid (vs[i]);obtain⟨y,mR⟩:=hid (us[i]);rw[<-Nj]at hx d1;rw[<-mR]at huB d2 ze;have step:=FZ hx qB hc huB hb;simp only at step;obtain⟨ph,yQ⟩:=hid (x*q/Zd);obtain⟨pl,CV⟩:=hid (x*q%Zd);rw[<-yQ,<-CV]at step;obtain⟨sm,hsm⟩:=hid ((pl+carry)%Zd);obtain⟨ov,gD⟩:=hid ((pl+carry)/Zd);rw[<-hsm,<-gD]at step;obtain⟨y',ir⟩: ∃y',y'=(y+Zd-sm-borrow)%Zd:=⟨_,rfl⟩;obtain⟨b',WO⟩: ∃b',b'=(if y<sm+borrow then 1 else 0):=⟨_,rfl⟩;rw[<-ir,<-WO]at step;obtain⟨SF,TE,S5⟩:=step;have m1:Zy Tryz.prog Zu 202 [.int .u64 (x:Int),.int .u64 (q:Int)] H3=some (.tuple #[.int .u64 (ph:Int),.int .u64 (pl:Int)],H3):=by rw[yQ,CV];exact QM hx qB H3
   have m2:Zy Tryz.prog Zu 203 [.int .u64 (pl:Int),.int .u64 (carry:Int),.int .u64 0] H3=some (.tuple #[.int .u64 (sm:Int),.int .u64 (ov:Int)],H3):=by rw[hsm,gD];exact UT pl carry H3
   have m3:Zc .add .u64 (ph:Int) (ov:Int)=some (.int .u64 ((ph+ov:Nat):Int)):=We SF;have m4:Zy Tryz.prog Zu 206 [.int .u64 (y:Int),.int .u64 (sm:Int),.int .u64 (borrow:Int)] H3=some (.tuple #[.int .u64 (y':Int),.int .u64 (b':Int)],H3):=by rw[ir,WO];exact Q4 y sm borrow H3 hb
   obtain⟨H4,sto,VM,kb4,VO⟩:=own.segstore hj (i:=i) (by simp;omega) y';rw[ze,Vd L y y' _ hL]at VM;apply Zf;intro b3 Z3;apply Zz;apply Zb;intro b4 Yx;simp[t113,t115,a1,d1];subst Yx;apply Zb;intro b4 Yx;simp[t6,m1];subst Yx;apply Zb;intro b4 Yx;simp[t13,m2];subst Yx;apply Zb;intro b4 Yx;simp[m3];subst Yx;apply Zh;simp[t0,t14,a2,d2,m4,sto];subst Z3;apply Zh;simp[t115,YO (x:=i) (by omega)];apply Y0;refine⟨m-1,by omega,rfl,by simp[t0],by simp[t1],by simp[t5],by simp[t6],kb.trans kb4,ka.trans VO,by simp[t113],by simp[t114],i+1,L++[y'],ph+ov,b',by omega,by simp[hL],dL.append (.cons TE (.nil _)),SF,?_,?_,by simpa using VM,by simp,by simp,by simp⟩;·rw[WO];split<;>omega
   ·rw[Yr,hL,Xm (xs:=vs) (by omega),Xm (xs:=us) (by omega),Yr,Yr,List.length_take,List.length_take,Nat.min_eq_left (by omega),Nat.min_eq_left (by omega),<-Nj,<-mR];simp only[dv,Nat.mul_zero,Nat.add_zero];have e1:Zd^i*(y'+x*q+carry+borrow)=Zd^i*(y+Zd*(ph+ov+b')):=by rw[S5]
    rw[Nat.mul_add (Zd^i) y,<-Nat.mul_assoc (Zd^i) Zd,show Zd^i*Zd=Zd^(i+1)from rfl]at e1;rw[show y'+x*q+carry+borrow=y'+x*q+(carry+borrow) by omega,Nat.mul_add,Nat.mul_add]at e1;rw[Nat.mul_add q,show q*(Zd^i*x)=Zd^i*(x*q) by rw[Nat.mul_left_comm,Nat.mul_comm q x]];omega
  ·refine Za (t:=false) (by simp[hi]) ?_;apply YQ;apply Y0;left;obtain rfl:i=n:=by omega
   have e1:vs.take i=vs:=by rw[<-JL,List.take_length]
   rw[e1,<-hV]at heq;exact⟨rfl,XG _ ⟨rfl,by simp[t0],by simp[t1],by simp[t5],by simp[t6],kb,ka,L,carry,borrow,hL,dL,hc,hb,heq,own,by simp[t13],by simp[t14]⟩⟩
 clear t0 t1 t5 t6;rintro⟨k,tm,H3⟩ ⟨hk,t0,t1,t5,t6,kb,ka,L,carry,borrow,hL,dL,hc,hb,heq,own,t13,t14⟩;simp only at hk t0 t1 t5 t6 kb ka own t13 t14;subst hk;have hdn:us.drop n=[un]:=by rw[List.drop_eq_getElem_cons (by omega),List.drop_eq_nil_of_le (by omega),<-A9]
 have hUe:U=dv Zd (us.take n)+Zd^n*un:=by have:=congrArg (dv Zd) (Q2 hus);rw[Yr,List.length_take,Nat.min_eq_left (by omega),<-A9,<-hU]at this;simpa[dv]using this
 rw[hdn]at own;have d2:Z9 Tryz.prog H3 101 (adr U0 (j+n))=some (.int .u64 (un:Int)):=by have:=own.segload hj (i:=n) (by simp;omega);rw[this,N4 L un [] hL]
 obtain⟨y',ir⟩: ∃y',y'=(un+Zd-carry-borrow)%Zd:=⟨_,rfl⟩;obtain⟨b',WO⟩: ∃b',b'=(if un<carry+borrow then 1 else 0):=⟨_,rfl⟩;have Ze:b'<=1:=by rw[WO];split<;>omega
 have hy'B:y'<Zd:=by rw[ir];exact Nat.mod_lt _ (by decide)
 have Rb:y'+(carry+borrow)=un+Zd*b':=by
  by_cases h:un<carry+borrow;·rw[ir,WO,if_pos h,Nat.mod_eq_of_lt (by omega)];omega
  ·rw[ir,WO,if_neg h];have:un+Zd-carry-borrow=(un-carry-borrow)+Zd:=by omega
   rw[this,Nat.add_mod_right,Nat.mod_eq_of_lt (by omega)];omega
 have m4:Zy Tryz.prog Zu 206 [.int .u64 (un:Int),.int .u64 (carry:Int),.int .u64 (borrow:Int)] H3=some (.tuple #[.int .u64 (y':Int),.int .u64 (b':Int)],H3):=by rw[ir,WO];exact Q4 un carry borrow H3 hb
 obtain⟨H4,sto,VM,kb4,VO⟩:=own.segstore hj (i:=n) (by simp;omega) y';rw[Vd L un y' [] hL]at VM;have dL':YC Zd (L++[y']):=dL.append (.cons hy'B (.nil _));have hR:dv Zd (L++[y'])+q*V=U+Zd^(n+1)*b':=by
  rw[Yr,hL];simp only[dv,Nat.mul_zero,Nat.add_zero];have e1:Zd^n*(y'+(carry+borrow))=Zd^n*(un+Zd*b'):=by rw[Rb]
  rw[Nat.mul_add,Nat.mul_add (Zd^n) un,<-Nat.mul_assoc (Zd^n) Zd,show Zd^n*Zd=Zd^(n+1)from rfl]at e1;omega
 have xJ:dv Zd (L++[y'])<Zd^(n+1):=by have:=Ww dL';simpa[hL]using this
 have xF:U<Zd^(n+1):=by have:=Ww du;rwa[hus,<-hU]at this
 have ta:=dh Vpos qge qle xF xJ Ze hR;apply Zf;intro b1 MB;apply Zh;simp[t0,t5,t13,t14,an,d2,m4,sto];subst MB;rcases ta with⟨rfl,rfl,hRe⟩|⟨rfl,kj,hRe⟩;·apply Zf;intro b1 MB;apply Zb;intro b2 Zp;simp[Mo];subst Zp;refine Za (t:=false) (by simp) ?_;apply Zn;subst MB;apply Zf;intro b1 MB;apply Zh;simp[t6];subst MB;apply Zq;simp;exact⟨kb.trans kb4,ka.trans VO,L++[y'],by simp[hL],dL',hRe,by simpa using VM⟩
 ·have yL:0<q:=by rw[kj];exact Nat.succ_pos _
  have hqe:q-1=U/V:=by rw[kj];rfl
  apply Zf;intro b1 MB;apply Zb;intro b2 Zp;simp[Mo];subst Zp;refine Za (t:=true) (by simp) ?_;apply Zb;intro b2 Zp;simp[t6,MW qB yL];subst Zp;apply Zb;intro b2 Zp;simp;subst Zp;obtain⟨Pn,sQ⟩: ∃Pn,Pn=L++[y']:=⟨_,rfl⟩;have Zal:Pn.length=n+1:=by rw[sQ];simp[hL]
  rw[<-sQ]at VM dL' hRe xJ;have kb5:=kb.trans kb4;have WJ:=ka.trans VO;have seg1:Pn.take n++Pn.drop n=Pn:=List.take_append_drop n Pn;refine Xe (fun s'=>s'.k=195/\s'.tm.get 0=some uv/\s'.tm.get 5=some (.int .i64 (n:Int))/\s'.tm.get 6=some (.int .u64 ((U/V:Nat):Int))/\TF (Yw U0) H2 s'.H/\KA n0 H2 s'.H/\ ∃(L:List Nat) (back:Nat),L.length=n/\YC Zd L/\back<=1/\dv Zd L+Zd^n*back=dv Zd (Pn.take n)+V/\Yo n0 s'.H U0 (pre++(L++Pn.drop n)++post)/\s'.tm.get 21=some (.int .u64 (back:Int))) ?_ ?_
  ·intro IY XG;apply Zb;intro b3 Z3;simp[t1,Dg];subst Z3;apply Zz;refine YU (fun m s'=>s'.k=195/\s'.tm.get 0=some uv/\s'.tm.get 5=some (.int .i64 (n:Int))/\s'.tm.get 6=some (.int .u64 ((U/V:Nat):Int))/\TF (Yw U0) H2 s'.H/\KA n0 H2 s'.H/\s'.tm.get 166=some vv/\s'.tm.get 167=some (.int .i64 (n:Int))/\ ∃(i:Nat) (L:List Nat) (back:Nat),m+i=n/\L.length=i/\YC Zd L/\back<=1/\dv Zd L+Zd^i*back=dv Zd (Pn.take i)+dv Zd (vs.take i)/\Yo n0 s'.H U0 (pre++(L++Pn.drop i)++post)/\s'.tm.get 21=some (.int .u64 (back:Int))/\s'.tm.get 168=some (.int .i64 (i:Int))) ?_ n _ ⟨rfl,by simp[t0],by simp[t5],by simp[hqe],kb5,WJ,by simp[t1],by simp,0,[],0,by omega,rfl,.nil _,by omega,by simp[dv],by simpa using VM,by simp,by simp⟩;clear t0 t1 t5 t6 t13 t14;rintro m ⟨k,tm,H5⟩ ⟨hk,t0,t5,t6,kb,ka,t166,t167,i,L1,back,M5,bW,dL1,uO,M1,own,t21,t168⟩ Q' Y0;simp only at hk t0 t5 t6 kb ka t166 t167 t21 t168 own;subst hk;apply Zb;intro b3 Z3;simp[t167,t168];subst Z3;apply Zf;intro b3 Z3;by_cases hi:i<n
   ·refine Za (t:=true) (by simp[hi]) ?_;apply Zn;subst Z3;have zg:=qc kb;have a1:Yg Tryz.prog 30 vv (.int .i64 (i:Int))=some (adr vv i):=zg.adr Zv (by omega);have hx:vs[i]<Zd:=fR.get (List.getElem?_eq_getElem (by omega));have d1:Z9 Tryz.prog H5 101 (adr vv i)=some (.int .u64 (vs[i]:Nat)):=zg.load (by omega);have a2:Yg Tryz.prog 30 uv (.int .i64 (i:Int))=some (adr U0 (j+i)):=E7 _ Zv .i64 i (by omega);have ze:Pn.drop i=Pn[i]::Pn.drop (i+1):=List.drop_eq_getElem_cons (by omega);have huB:Pn[i]<Zd:=dL'.get (List.getElem?_eq_getElem (by omega));have d2:Z9 Tryz.prog H5 101 (adr U0 (j+i))=some (.int .u64 (Pn[i]:Nat)):=by have:=own.segload hj (i:=i) (by simp;omega);rw[this];congr 3;rw[List.getElem_append_right (by omega)];simp[bW]
    obtain⟨x,Nj⟩:=hid (vs[i]);obtain⟨y,mR⟩:=hid (Pn[i]);rw[<-Nj]at hx d1;rw[<-mR]at huB d2 ze;obtain⟨y2,hy2⟩:=hid ((y+x+back)%Zd);obtain⟨c2,IL⟩:=hid ((y+x+back)/Zd);have m4:Zy Tryz.prog Zu 203 [.int .u64 (y:Int),.int .u64 (x:Int),.int .u64 (back:Int)] H5=some (.tuple #[.int .u64 (y2:Int),.int .u64 (c2:Int)],H5):=by rw[hy2,IL];exact Qm y x back H5 uO
    have hdm:Zd*c2+y2=y+x+back:=by rw[hy2,IL];exact Nat.div_add_mod _ _
    have N7:c2<=1:=by
     have:c2<2:=by rw[IL,Nat.div_lt_iff_lt_mul (by decide)];omega
     omega
    obtain⟨H6,sto,jb,kb6,Vu⟩:=own.segstore hj (i:=i) (by simp;omega) y2;rw[ze,Vd L1 y y2 _ bW]at jb;apply Zf;intro b3 Z3;apply Zz;apply Zb;intro b4 Yx;simp[t166,t168,a1,d1];subst Yx;apply Zh;simp[t0,t21,a2,d2,m4,sto];subst Z3;apply Zh;simp[t168,YO (x:=i) (by omega)];apply Y0;refine⟨m-1,by omega,rfl,by simp[t0],by simp[t5],by simp[t6],kb.trans kb6,ka.trans Vu,by simp[t166],by simp[t167],i+1,L1++[y2],c2,by omega,by simp[bW],dL1.append (.cons (by rw[hy2];exact Nat.mod_lt _ (by decide)) (.nil _)),N7,?_,by simpa using jb,by simp,by simp⟩;rw[Yr,bW,Xm (xs:=vs) (by omega),Xm (xs:=Pn) (by omega),Yr,Yr,List.length_take,List.length_take,Nat.min_eq_left (by omega),Nat.min_eq_left (by omega),<-Nj,<-mR];simp only[dv,Nat.mul_zero,Nat.add_zero];have e1:Zd^i*(Zd*c2+y2)=Zd^i*(y+x+back):=by rw[hdm]
    rw[Nat.mul_add,<-Nat.mul_assoc (Zd^i) Zd,show Zd^i*Zd=Zd^(i+1)from rfl,Nat.mul_add,Nat.mul_add]at e1;omega
   ·refine Za (t:=false) (by simp[hi]) ?_;apply YQ;apply Y0;left;obtain rfl:i=n:=by omega
    have e1:vs.take i=vs:=by rw[<-JL,List.take_length]
    rw[e1,<-hV]at M1;exact⟨rfl,XG _ ⟨rfl,by simp[t0],by simp[t5],by simp[t6],kb,ka,L1,back,bW,dL1,uO,M1,own,by simp[t21]⟩⟩
  clear t0 t1 t5 t6 t13 t14;rintro⟨k,tm,H5⟩ ⟨hk,t0,t5,t6,kb,ka,L2,back,KO,dL2,uO,M1,own,t21⟩;simp only at hk t0 t5 t6 kb ka own t21;subst hk;have yc:Pn.drop n=[y']:=by rw[sQ,<-hL];simp
  rw[yc]at own;have d3:Z9 Tryz.prog H5 101 (adr U0 (j+n))=some (.int .u64 (y':Int)):=by have:=own.segload hj (i:=n) (by simp;omega);rw[this,N4 L2 y' [] KO]
  obtain⟨z,hz⟩:=hid ((y'+back)%Zd);obtain⟨t,ht⟩:=hid ((y'+back)/Zd);have hzt:Zd*t+z=y'+back:=by rw[hz,ht];exact Nat.div_add_mod _ _
  have Bx:z<Zd:=by rw[hz];exact Nat.mod_lt _ (by decide)
  have ma:Zc .add .u64 (y':Int) (back:Int)=some (.int .u64 (z:Int)):=by rw[TZ,hz]
  obtain⟨H6,sto6,jb,kb6,Vu⟩:=own.segstore hj (i:=n) (by simp;omega) z;rw[Vd L2 y' z [] KO]at jb;have dz:YC Zd (L2++[z]):=dL2.append (.cons Bx (.nil _));have fin:dv Zd (L2++[z])=U%V:=by
   have Bp:dv Zd (L2++[z])<Zd^(n+1):=by have:=Ww dz;simpa[KO]using this
   have hus2:dv Zd Pn=dv Zd (Pn.take n)+Zd^n*y':=by have:=congrArg (dv Zd) seg1;rw[yc,Yr,List.length_take,Nat.min_eq_left (by omega)]at this;rw[<-this];simp[dv]
   have e0:dv Zd (L2++[z])=dv Zd L2+Zd^n*z:=by rw[Yr,KO];simp[dv]
   have e1:Zd^n*(Zd*t+z)=Zd^n*(y'+back):=by rw[hzt]
   rw[Nat.mul_add,<-Nat.mul_assoc (Zd^n) Zd,show Zd^n*Zd=Zd^(n+1)from rfl,Nat.mul_add]at e1;have ht1:t<=1:=by
    have:t<2:=by rw[ht,Nat.div_lt_iff_lt_mul (by decide)];omega
    omega
   have hm:U%V<Zd^(n+1):=Nat.lt_of_le_of_lt (Nat.mod_le _ _) xF;have E3:U%V<V:=Nat.mod_lt _ Vpos;rcases Nat.lt_or_ge t 1 with h0|h0
   ·exfalso;obtain rfl:t=0:=by omega
    rw[Nat.mul_zero]at e1;omega
   ·obtain rfl:t=1:=by omega
    rw[Nat.mul_one]at e1;omega
  apply Zh;simp[t0,t5,t21,an,d3,ma,sto6];subst MB;apply Zf;intro b1 MB;apply Zh;simp[t6];subst MB;apply Zq;simp;exact⟨kb.trans kb6,ka.trans Vu,L2++[z],by simp[KO],dz,fin,by simpa using jb⟩
theorem Zg.top{H0 H:AH}(k:Zg H0 H):Zg H0 H.top:=⟨k.n,by have:=k.n;show min H0.lw H0.n<=H.n;omega,k.blk⟩
theorem VX(H:AH):Zg H H.top:=(Zg.refl H).top
theorem Sl.top{H:AH}{v:Value}{xs:List Nat}(h:Sl H v xs):Sl H.top v xs:=h.keep (VX H)
theorem Yo.top{n:Nat}{H:AH}{v:Value}{xs:List Nat}(h:Yo n H v xs):Yo n H.top v xs:=h.mono (Nat.le_refl _) (VX H)
theorem ZQ{H:AH}{bits:Nat}{ms:List (Nat×Nat×Nat)}(h:hidden bits ms=[]):OY H bits ms=H.top:=by unfold OY;rw[h];rfl
theorem Py(t:Tr OT)(H2:AH)(n:Nat): ∀(k j:Nat),(NO t H2 n k).get j=if n<=j/\j<n+k then some (H2.blk j)else t.get j
 |0,j=>by rw[if_neg (by omega)];rfl
 |k+1,j=>by
  simp only[NO,Tr.get_set];by_cases e:j=n+k;·subst e;rw[if_pos rfl,if_pos (by omega)]
  ·rw[if_neg e,Py t H2 n k j];by_cases c:n<=j/\j<n+k;·rw[if_pos c,if_pos (by omega)]
   ·rw[if_neg c,if_neg (by omega)]
theorem Yn{H H2:AH}(k:Zg H.top H2):TF none H2 (grown H H2):=by
 refine⟨rfl,fun j hj _=>?_⟩;unfold AH.blk grown;simp only[Py];by_cases c:H.n<=j;·have:=k.n;have:H.n<=H2.n:=this;rw[if_pos (by omega)];rfl
 ·rw[if_neg (by omega)];exact(k.blk j (by show j<H.n;omega)).symm
theorem Yb{H0 H H2:AH}(k0:Zg H0 H)(k:Zg H.top H2):Zg H0 (grown H H2):=by
 refine⟨Nat.le_trans k0.n k.n,k0.lw,fun j hj=>?_⟩;have hn:=k0.n;have:j<H.n:=by omega
 unfold grown AH.blk;simp only[Py];rw[if_neg (by omega)];exact k0.blk j hj
theorem YN{H H2:AH}(k:Zg H.top H2):H.n<=H2.lw:=by have:=k.lw;have:min H.n H.n<=H2.lw:=this;omega
theorem Mj(H H2:AH):TF none H2 (low H H2):=⟨rfl,fun j _ _=>rfl⟩
theorem iL{n0:Nat}{H H2:AH}(h:KA n0 H.top H2):KA n0 H (low H H2):=fun H0 k hn=>by have k2:=h H0 k.top hn;refine⟨k2.n,?_,k2.blk⟩;have:=k.lw;have:=k2.lw;show min H0.lw H0.n<=min H.lw H2.lw;omega
theorem TF.none{b:Option Nat}{H H' H2:AH}(k:TF b H H')(k2:TF none H' H2):TF b H H2:=⟨k2.n.trans k.n,fun j hn hj=>(k2.blk j (by rw[k.n];exact hn) (fun e=>by cases e)).trans (k.blk j hn hj)⟩
theorem Sl.same{H H':AH}{v:Value}{xs:List Nat}(h:Sl H v xs)(k:TF none H H'):Sl H' v xs:=h.but k fun c e=>by cases e
theorem Yo.same{n:Nat}{H H':AH}{v:Value}{xs:List Nat}(h:Yo n H v xs)(k:TF none H H'):Yo n H' v xs:=h.but k fun c e=>by cases e
theorem Yo.gr{H I J:AH}{v:Value}{xs:List Nat}(x:Yo H.top.n I v xs)(k:Zg H.top I)(hJ:J=grown H I):Yo H.n J v xs:=by subst hJ;exact x.same (Yn k)
theorem cg{H I:AH}(k:Zg H.top I): ∃J,J=grown H I/\Zg H J/\H.n<=I.n:=⟨_,rfl,Yb (.refl _) k,k.n⟩
theorem TF.top{b:Option Nat}{H H':AH}(k:TF b H.top H'):TF b H H':=⟨k.n,k.blk⟩
theorem Yo.store_lw{n:Nat}{H H':AH}{v:Value}{xs:List Nat}(h:Yo n H v xs){i:Nat}(hi:i<xs.length){y:Nat}(st:YX Tryz.prog H.top 101 (adr v i) (.int .u64 (y:Int))=some H'):H'.lw<H.n:=by cases h with
 |nil=>cases hi
 |mk b o cap xs cs h1 h2 h3 h4 h5 h6=>unfold YX adr at st;simp only[MX]at st;have h4':H.top.blk b= .rw 1 cs:=h4;rw[show Nat.beq (Value.int .u64 (y:Int)).cells.size 1=true from rfl,cond_true,AH.write_def,h4']at st;simp only at st;cases hc:(Nat.ble (o+i+(Value.int .u64 (y:Int)).cells.toList.length) cs.length&&(Value.int .u64 (y:Int)).cells.toList.all one)with|false=>rw[hc]at st;cases st|true=>rw[hc,cond_true]at st;cases st;show min H.n b<H.n;omega
theorem Yo.putTop{n:Nat}{H:AH}{v:Value}{xs:List Nat}(h:Yo n H v xs){i:Nat}(hi:i<xs.length)(y:Nat): ∃H2,YX Tryz.prog H.top 101 (adr v i) (.int .u64 (y:Int))=some H2/\H2.n=H.n/\H2.lw<H.n/\Yo n (low H H2) v (xs.set i y)/\TF (Yw v) H (low H H2)/\KA n H (low H H2):=by obtain⟨H2,h1,h2,h3,h4,h5⟩:=h.top.put hi y;exact⟨H2,h1,h3,h.store_lw hi h1,h2.same (Mj H H2),(TF.none (b:=Yw v) (H:=H) (H':=H2) ⟨h3,fun j _ hj=>h4 j hj⟩ (Mj H H2)),iL h5⟩
theorem HF(t:Tr OT): ∀(hs:List Nat)(j:Nat),j∉hs->(U8 t hs).get j=t.get j|[],j,_=>rfl|i::r,j,h=>by simp only[U8,Tr.get_set];rw[if_neg (by intro e;subst e;exact h (List.mem_cons_self ..))];exact HF t r j (fun h'=>h (List.mem_cons_of_mem _ h'))
theorem HG{n bits:Nat} : ∀{ms:List (Nat×Nat×Nat)},(∀x∈ms,n<=x.2.1)-> ∀i∈hidden bits ms,n<=i
 |[],_,i,h=>by cases h
 |(k,lo,hi)::r,hm,i,h=>by have ih:=HG (bits:=bits) (ms:=r) (fun x hx=>hm x (List.mem_cons_of_mem _ hx)) i;have h0:n<=lo:=hm (k,lo,hi) (List.mem_cons_self ..);unfold hidden at h;cases hb:bits.testBit k with
  |true=>rw[hb,cond_true]at h;exact ih h
  |false=>
   rw[hb,cond_false]at h;rcases List.mem_append.mp h with h|h;·obtain⟨a,_,rfl⟩:=List.mem_map.mp h;omega
   ·exact ih h
theorem Xx{H0 H:AH}{bits:Nat}{ms:List (Nat×Nat×Nat)}(k:Zg H0 H)(h: ∀x∈ms,H0.n<=x.2.1):Zg H0 (OY H bits ms):=by have k2:=k.top;refine⟨k2.n,k2.lw,fun j hj=>?_⟩;rw[<-k.blk j hj];unfold OY AH.blk;simp only;rw[HF];intro hm;have:=HG h j hm;omega
theorem lS{n:Nat}(h:n<=64):SS Tryz.prog 3 228 (.int .i64 (64-(n:Int)))=some (.int .u64 ((64-n:Nat):Int)):=by have:=OO (n:=64-n) (by show _<18446744073709551616;omega);rw[<-this];congr 2;omega
theorem fg{x:Nat}(hx:x<Zd):Zo x<=64:=by
 rcases Nat.lt_or_ge 64 (Zo x)with h|h
 ·have h0:x≠0:=by rintro rfl;simp[Zo]at h
  have a:=Vb h0;have b:2^64<=2^(Zo x-1):=Nat.pow_le_pow_right (by decide) (by omega);have hx:x<18446744073709551616:=hx;omega
 ·exact h
theorem U4(xs:List Nat)(j:Nat)(h:j<=xs.length):dv Zd xs=dv Zd (xs.take j)+Zd^j*dv Zd (xs.drop j):=by have:=congrArg (dv Zd) (List.take_append_drop j xs);rw[Yr,List.length_take,Nat.min_eq_left h]at this;exact this.symm
theorem J7{xs:List Nat}(dx:YC Zd xs)(tx:YT xs=xs)(h:0<xs.length):0<xs[xs.length-1]:=by
 rcases Nat.eq_zero_or_pos (xs[xs.length-1])with h0|h0
 ·exfalso;have hs:=Q2 (n:=xs.length-1) (xs:=xs) (by omega);have e:xs=xs.take (xs.length-1)++[0]:=by rw[h0]at hs;exact hs
  have:=congrArg YT e;rw[V6,tx]at this;have:=congrArg List.length this;have:=XJ (xs.take (xs.length-1));rw[List.length_take]at this;omega
 ·exact h0
theorem Gg{xs:List Nat}(dx:YC Zd xs)(tx:YT xs=xs)(h:0<xs.length):Zd^(xs.length-1)<=dv Zd xs:=by rw[U4 xs (xs.length-1) (by omega),List.drop_eq_getElem_cons (by omega),List.drop_eq_nil_of_le (by omega)];have:=J7 dx tx h;simp only[dv,Nat.mul_zero,Nat.add_zero];have:Zd^(xs.length-1)*1<=Zd^(xs.length-1)*xs[xs.length-1]:=Nat.mul_le_mul_left _ (by omega);omega
theorem cy{xs:List Nat}(dx:YC Zd xs)(tx:YT xs=xs):xs=ds Zd (dv Zd xs):=by rw[<-Xo Ya dx,tx]
theorem de{ys:List Nat}(dy:YC Zd ys)(ty:YT ys=ys){n:Nat}(hn:ys.length=n)(h2:0<n){s:Nat}(hs:s=64-Zo (ys[n-1]'(by omega))):s<64/\dv Zd ys*2^s<Zd^n:=by
 subst hn;have h0:=J7 dy ty (by omega);have hB:=dy.get (List.getElem?_eq_getElem (show ys.length-1<ys.length by omega));have ml:=fg hB;have hbl0:0<Zo (ys[ys.length-1]):=by unfold Zo;rw[if_neg (by omega)];omega
 refine⟨by omega,?_⟩;have YP:=WC (ys[ys.length-1]);have e:=U4 ys (ys.length-1) (by omega);rw[List.drop_eq_getElem_cons (by omega),List.drop_eq_nil_of_le (by omega)]at e;simp only[dv,Nat.mul_zero,Nat.add_zero]at e;have hl:=Ww (dy.take (ys.length-1));rw[List.length_take,Nat.min_eq_left (by omega)]at hl;generalize ys[ys.length-1]=y at*;have h1:dv Zd ys<Zd^(ys.length-1)*2^Zo y:=by have:Zd^(ys.length-1)*(y+1)<=Zd^(ys.length-1)*2^Zo y:=Nat.mul_le_mul_left _ YP;rw[Nat.mul_succ]at this;omega
 have h3:dv Zd ys*2^s<Zd^(ys.length-1)*2^Zo y*2^s:=Nat.mul_lt_mul_of_pos_right h1 (Nat.two_pow_pos s);have h4:Zd^(ys.length-1)*2^Zo y*2^s=Zd^ys.length:=by rw[Nat.mul_assoc,<-Nat.pow_add,hs,show Zo y+(64-Zo y)=64 by omega];obtain⟨m,hm⟩: ∃m,ys.length=m+1:=⟨ys.length-1,by omega⟩;rw[hm,Nat.add_sub_cancel,show(2:Nat)^64=Zd by decide];rfl
 rwa[h4]at h3
def NQ(n0:Nat)(H:AH)(A B:Nat)(v:Value)(H':AH):Prop:=Zg H H'/\ ∃q r,v= .tuple #[q,r]/\Yo H.n H' q (ds Zd (A/B))/\Yo n0 H' r (ds Zd (A%B))/\Vz q r
theorem US{n m:Nat}{H H':AH}{v w:Value}{xs ys:List Nat}(a:Yo n H v xs)(b:Yo m H' w ys)(h:H.n<=m):Vz v w:=fun c hc LQ=>by have:=(a.blk_lo hc).2;have:=(b.blk_lo LQ).1;omega
theorem KV{a b:Nat} :(XR a b<0)↔a<b:=by
 unfold XR;split;·simp;assumption
 ·split<;>simp<;>omega
theorem mC{a:Int} :Zc .lss .i64 a 0=some (.bool (decide (a<0))):=rfl
def tG:Code->Code| .seq _ b=>b|c=>c
def Jn:Code:=tG (tG (tG (Tryz.f193.body.getD .skip)))
theorem CB{n0:Nat}{H:AH}{va vb:Value}{xs ys:List Nat}(ha:Yo n0 H va xs)(hb:Sl H vb ys)(Qi:n0<=H.n)(dx:YC Zd xs)(dy:YC Zd ys)(tx:YT xs=xs)(ty:YT ys=ys)(lx:xs.length<=17592186040000)(ly:ys.length<=17592186040000)(hy:0<ys.length)(rest: ∀tm:Tr Value,tm.get 0=some va->tm.get 1=some vb->2<=ys.length->dv Zd ys<=dv Zd xs->W Tryz.prog Zu Jn ⟨104,tm,H⟩ fun ex s=>(ex= .norm\/ex= .ret)/\ ∃vs,ZZ Tryz.prog s Tryz.f193.results.toList=some vs/\NQ n0 H (dv Zd xs) (dv Zd ys) (Yc vs) s.H):CW Tryz.prog Zu 193 [va,vb] H (NQ n0 H (dv Zd xs) (dv Zd ys)):=by
 refine Z2 104 Tryz.func193 ?_;obtain⟨v1,H1,N7,e1,e2⟩:=U3 ha.sl hb dx dy (by omega) (by omega);subst e1;subst e2;have Bpos:0<dv Zd ys:=Nat.lt_of_lt_of_le (Nat.pow_pos (by decide)) (Gg dy ty hy);have iT:=hb.len Zv;have iU:=ha.sl.len Zv;apply Zb;intro b1 Ze;simp;subst Ze;apply Zf;intro b1 Ze;apply Zb;intro b2 Zp;simp[N7,mC,KV];subst Zp;by_cases YP:dv Zd xs<dv Zd ys
 ·refine Za (t:=true) (by simp[YP]) ?_;apply Zb;intro b2 Zp;simp;subst Zp;apply Zq;simp[Yq];refine⟨.refl H1,_,_,rfl,?_,?_,fun c hc=>by cases hc⟩;·rw[Nat.div_eq_of_lt YP,Xg];exact .nil
  ·rw[Nat.mod_eq_of_lt YP,<-cy dx tx];exact ha
 ·refine Za (t:=false) (by simp[YP]) ?_;apply Zn;subst Ze;apply Zf;intro b1 Ze;apply Zb;intro b2 Zp;simp[iT];subst Zp;by_cases h1:ys.length=1
  ·refine Za (t:=true) (by simp[h1]) ?_;obtain⟨y,rfl⟩: ∃y,ys=[y]:=by match ys,h1 with|[y],_=>exact⟨y,rfl⟩
   have bK:y<Zd:=dy.head;have eB:dv Zd [y]=y:=by simp[dv]
   rw[eB]at Bpos YP⊢;obtain⟨q0,H2,QV,k2,o2,n2⟩:=YG (H:=H1) Zv (n:=xs.length) (by omega);have KJ:0<xs.length:=by
    rcases Nat.eq_zero_or_pos xs.length with h|h;·exfalso;have:xs=[]:=List.length_eq_zero_iff.mp h;subst this;exact YP Bpos
    ·exact h
   have w1:Zc .sub .i64 (xs.length:Int) 1=some (.int .i64 ((xs.length:Int)-1)):=by rw[Ut (by omega) KJ];congr 2;omega
   apply Zb;intro b2 Zp;simp[iU,QV];subst Zp;refine Xe (fun s'=>s'.k=104/\Zg H1 s'.H/\ ∃(L:List Nat) (r:Nat),L.length=xs.length/\YC Zd L/\r<y/\dv Zd xs=y*dv Zd L+r/\Yo H1.n s'.H q0 L/\s'.tm.get 6=some q0/\s'.tm.get 7=some (.int .u64 (r:Int))) ?_ ?_
   ·intro IY XG;apply Zb;intro b2 Zp;simp[iU,w1];subst Zp;apply Zz;refine YU (fun m s'=>s'.k=104/\Zg H1 s'.H/\m<=xs.length/\ ∃(L:List Nat) (r:Nat),L.length+m=xs.length/\YC Zd L/\r<y/\dv Zd (xs.drop m)=y*dv Zd L+r/\Yo H1.n s'.H q0 (List.replicate m 0++L)/\s'.tm.get 0=some va/\s'.tm.get 1=some vb/\s'.tm.get 6=some q0/\s'.tm.get 7=some (.int .u64 (r:Int))/\s'.tm.get 8=some (.int .i64 ((m:Int)-1))) ?_ xs.length _ ⟨rfl,k2,Nat.le_refl _,[],0,by simp,.nil _,Bpos,by simp[dv],by simpa using o2,by simp,by simp,by simp,by simp,by simp⟩;rintro m ⟨k,tm,H3⟩ ⟨hk,k3,hm,L,r,hL,dL,hr,heq,own,t0,t1,t6,t7,t8⟩ Q' Y0;simp only at hk k3 own t0 t1 t6 t7 t8;subst hk;apply Zf;intro b3 Z3;apply Zb;intro b4 Yx;have SL:Zc .geq .i64 ((m:Int)-1) 0=some (.bool (decide (0<m))):=by show some (Value.bool (decide ((m:Int)-1≥0)))=_;congr 2;apply decide_eq_decide.mpr;omega
    simp[t8,SL];subst Yx;by_cases M3:m=0;·subst M3;refine Za (t:=false) (by simp) ?_;apply YQ;apply Y0;left;exact⟨rfl,XG _ ⟨rfl,k3,L,r,by omega,dL,hr,by simpa using heq,by simpa using own,by simp[t6],by simp[t7]⟩⟩
    ·refine Za (t:=true) (by simp;omega) ?_;apply Zn;subst Z3;have em:(m:Int)-1=((m-1:Nat):Int):=by omega
     rw[em]at t8;have hi:m-1<xs.length:=by omega
     have sa:=(ha.sl.keep k3);have sb:=(hb.keep k3);have a1:=sa.adr Zv (k:= .i64) hi;have d1:=sa.top.load hi;have a2:Yg Tryz.prog 30 vb (.int .i64 0)=some (adr vb 0):=sb.adr Zv (k:= .i64) (i:=0) (by simp);have d2:Z9 Tryz.prog H3.top 101 (adr vb 0)=some (.int .u64 (y:Int)):=sb.top.load (i:=0) (by simp);have CT:xs[m-1]<Zd:=dx.get (List.getElem?_eq_getElem hi);obtain⟨x,Nj⟩:=hid (xs[m-1]);rw[<-Nj]at d1 CT;have dc:=O9 hr CT bK H3.top;obtain⟨q,hq⟩:=hid ((r*Zd+x)/y);obtain⟨r',sw⟩: ∃r',r'=(r*Zd+x)%y:=⟨_,rfl⟩;rw[<-hq,<-sw]at dc;have a3:=own.sl.adr Zv (k:= .i64) (i:=m-1) (by simp;omega);obtain⟨H4,WW,n4,vW,VM,qD,zZ⟩:=own.putTop (i:=m-1) (by simp;omega) q;have AA:xs.drop (m-1)=x::xs.drop m:=by rw[List.drop_eq_getElem_cons hi,show m-1+1=m by omega,<-Nj]
     apply Zf;intro b3 Z3;apply Zz;apply wc (by kernel_rfl);simp[t0,t1,t6,t7,t8,a1,a2,d1,d2,dc,a3,WW,n4,vW,ZV];subst Z3;have w2:Zc .sub .i64 ((m-1:Nat):Int) 1=some (.int .i64 (((m-1:Nat):Int)-1)):=by show some (Value.int .i64 (IntKind.i64.wrap (((m-1:Nat):Int)-1)))=_;congr 2;rw[IntKind.wrap_i64];omega
     apply Zh;simp[t8,w2];apply Y0;refine⟨m-1,by omega,rfl,zZ H1 k3 (Nat.le_refl _),by show m-1<=_;omega,q::L,r',by simp;omega,.cons ?_ dL,?_,?_,?_,by simp[t0],by simp[t1],by simp[t6],by simp,by simp⟩;·rw[hq,Nat.div_lt_iff_lt_mul Bpos];have:(r+1)*Zd<=y*Zd:=Nat.mul_le_mul_right _ hr;rw[Nat.succ_mul]at this;rw[Nat.mul_comm Zd y];omega
     ·rw[sw];exact Nat.mod_lt _ Bpos
     ·rw[AA];simp only[dv];rw[heq];have e:=Nat.div_add_mod (r*Zd+x) y;rw[<-hq,<-sw]at e;rw[Nat.mul_add,Nat.mul_add,<-Nat.mul_assoc,Nat.mul_comm Zd y,Nat.mul_assoc];rw[Nat.mul_comm r Zd]at e;omega
     ·have ib:List.replicate m 0++L=List.replicate (m-1) 0++0::L:=by obtain⟨m',rfl⟩: ∃m',m=m'+1:=⟨m-1,by omega⟩;rw[List.replicate_succ'];simp
      rw[ib,Vd _ _ _ _ (by simp)]at VM;exact VM
   rintro⟨k,tm,H3⟩ ⟨hk,k3,L,r,hL,dL,hr,heq,own,t6,t7⟩;simp only at hk k3 own t6 t7;subst hk;obtain⟨v4,H4,kg,k4,o4⟩:=VS own.sl (by omega);obtain⟨v5,H5,MA,k5,o5⟩:=Tu (x:=r) (H:=H4) (by omega);apply Zb;intro b hb;simp[t6,t7,kg,MA];subst hb;apply Zq;simp[Yq];have hdiv:dv Zd xs/y=dv Zd L:=by rw[heq,Nat.mul_add_div Bpos,Nat.div_eq_of_lt hr,Nat.add_zero]
   have E3:dv Zd xs%y=r:=by rw[heq,Nat.mul_add_mod,Nat.mod_eq_of_lt hr]
   rw[Xo Ya dL]at o4;refine⟨(k3.trans k4).trans k5,v4,v5,rfl,?_,?_,US o4 o5 (Nat.le_refl _)⟩;·rw[hdiv];exact o4.mono k3.n k5
   ·rw[E3];exact o5.mono (Nat.le_trans Qi (k3.trans k4).n) (.refl H5)
  ·refine Za (t:=false) (by simp;omega) ?_;apply Zn;subst Ze;exact rest _ (by simp) (by simp) (by omega) (Nat.le_of_not_lt YP)
theorem Yo.n_lt{n:Nat}{H:AH}{v:Value}{xs:List Nat}(h:Yo n H v xs)(h0:0<xs.length):n<H.n:=by cases h with|nil=>cases h0|mk b o cap xs cs h1 h2 h3 h4 h5 h6=>omega
theorem fp{a b:Nat}(h:a<b):Nat.blt a b=true:=by rw[Nat.blt_eq];exact h
theorem Yp{bits:Nat} : ∀{ms:List (Nat×Nat×Nat)},(∀x∈ms,bits.testBit x.1=true)->hidden bits ms=[]|[],_=>rfl|(k,lo,hi)::r,h=>by have h1:bits.testBit k=true:=h (k,lo,hi) (List.mem_cons_self ..);unfold hidden;rw[h1,cond_true];exact Yp fun x hx=>h x (List.mem_cons_of_mem _ hx)
def cutTo(v:Value)(m:Nat):Value:=match v with| .slice a _ c=> .slice a m c|v=>v
theorem Sl.cutTo{H:AH}{v:Value}{xs:List Nat}(h:Sl H v xs){t:TypeId}(ht:LT t){m:Nat}(hm:m<=xs.length)(h0:0<xs.length):Vy Tryz.prog H t v none (some (.int .i64 (m:Int))) none=some (cutTo v m)/\Sl H (Go.Proofs.YtmkfecoeghokfaaGreatDoor.cutTo v m) (xs.take m):=by cases h with
 |nil=>cases h0
 |emp b=>cases h0
 |mk b o cap xs h1 h2=>
  have hl:(xs.take m).length=m:=by rw[List.length_take];omega
  obtain⟨lJ,cs,h3,h4,h5⟩:=h2;have hs:Sl H (.slice (some ⟨b,o,none⟩) (xs.take m).length cap) (xs.take m):= .mk b o cap _ (by omega) ⟨lJ,cs,h3,h4,fun i x hx=>h5.1 i x (by
   rw[List.getElem?_take]at hx;split at hx;·exact hx
   ·cases hx),h5.2⟩;rw[hl]at hs;refine⟨?_,hs⟩;unfold Vy;simp only[ht.1,MX];unfold IV Xq;simp only[h4,Option.isSome_some,Option.isNone_none,Bool.true_or];rw[if_pos (by omega)];have e1:Nat.ble m cap=true:=Nat.ble_eq.mpr (by omega);simp[Xq,e1,Go.Proofs.YtmkfecoeghokfaaGreatDoor.cutTo]
theorem BP{X vs:List Nat}{j n:Nat}(dX:YC Zd X)(hj:j+n+1<=X.length)(fR:YC Zd vs)(JL:vs.length=n)(YP:dv Zd (X.drop (j+1))<dv Zd vs):dv Zd ((X.drop j).take (n+1))=dv Zd (X.drop j)/\dv Zd ((X.drop j).take (n+1))<dv Zd vs*Zd/\dv Zd (X.drop (j+n+1))=0:=by
 have hV:=Ww fR;rw[JL]at hV;have e1:dv Zd (X.drop (j+1))=dv Zd ((X.drop (j+1)).take n)+Zd^n*dv Zd ((X.drop (j+1)).drop n):=U4 _ n (by rw[List.length_drop];omega);have z:dv Zd ((X.drop (j+1)).drop n)=0:=by
  rcases Nat.eq_zero_or_pos (dv Zd ((X.drop (j+1)).drop n))with h|h;·exact h
  ·exfalso;have:Zd^n*1<=Zd^n*dv Zd ((X.drop (j+1)).drop n):=Nat.mul_le_mul_left _ h;omega
 rw[List.drop_drop]at z;have z':dv Zd (X.drop (j+n+1))=0:=by rw[show j+n+1=j+1+n by omega];exact z
 have e2:=U4 (X.drop j) (n+1) (by rw[List.length_drop];omega);rw[List.drop_drop,show j+(n+1)=j+n+1 by omega,z',Nat.mul_zero,Nat.add_zero]at e2;refine⟨e2.symm,?_,z'⟩;rw[<-e2,List.drop_eq_getElem_cons (by omega)];have hx:X[j]<Zd:=dX.get (List.getElem?_eq_getElem (by omega));have:(dv Zd (X.drop (j+1))+1)*Zd<=dv Zd vs*Zd:=Nat.mul_le_mul_right _ YP;rw[Nat.succ_mul]at this;simp only[dv];rw[Nat.mul_comm Zd];omega
theorem El{n0:Nat}{H:AH}{va vb:Value}{xs ys:List Nat}(ha:Yo n0 H va xs)(hb:Sl H vb ys)(Qi:n0<=H.n)(dx:YC Zd xs)(dy:YC Zd ys)(tx:YT xs=xs)(ty:YT ys=ys)(lx:xs.length<=17592186040000)(ly:ys.length<=17592186040000)(tm:Tr Value)(t0:tm.get 0=some va)(t1:tm.get 1=some vb)(h2:2<=ys.length)(SL:dv Zd ys<=dv Zd xs):W Tryz.prog Zu Jn ⟨104,tm,H⟩ fun ex s=>(ex= .norm\/ex= .ret)/\ ∃vs,ZZ Tryz.prog s Tryz.f193.results.toList=some vs/\NQ n0 H (dv Zd xs) (dv Zd ys) (Yc vs) s.H:=by
 obtain⟨n,hn⟩:=hid (ys.length);have hn2:2<=n:=by omega
 have uC:n<=xs.length:=by
  rcases Nat.lt_or_ge xs.length n with h|h;·have:=MI tx ty dx dy (by omega);omega
  ·exact h
 have iT:=hb.len Zv;have iU:=ha.sl.len Zv;rw[<-hn]at iT;have s1:Zc .sub .i64 (n:Int) 1=some (.int .i64 ((n-1:Nat):Int)):=Ut (by omega) (by omega);have a1:=hb.adr Zv (k:= .i64) (i:=n-1) (by omega);have d1:=hb.load (i:=n-1) (by omega);obtain⟨y,hy⟩:=hid (ys[n-1]'(by omega));rw[<-hy]at d1;have bK:y<Zd:=by rw[hy];exact dy.get (List.getElem?_eq_getElem (by omega))
 obtain⟨s,hs⟩:=hid (64-Zo y);have Rb:=de dy ty hn.symm (by omega) (s:=s) (by rw[hs,hy]);obtain⟨gp,hVlt⟩:=Rb;have hlz:Zy Tryz.prog Zu 216 [.int .u64 (y:Int)] H=some (.int .i64 (64-(Zo y:Int)),H):=by obtain⟨v,H',h,rfl,rfl⟩:=au bK (H:=H);exact h
 have hcv:=lS (fg bK);rw[<-hs]at hcv;have bS:=Gg dy ty (by omega);rw[<-hn]at bS;show W _ _ (.seq (.region 10 _ _) _) _ _;apply Zb;intro b Ze;simp[t1,iT,s1,a1,d1,hlz,hcv];subst Ze;obtain⟨u0,H2,hu,ku,dp,ou,du,lu,vu⟩:=aK (H:=H.top) ha.sl.top dx (by omega) gp;have ou1:Yo H.n (grown H H2) u0 dp:=ou.same (Yn ku);have k1:Zg H (grown H H2):=Yb (.refl H) ku;have n1:H.n<H2.n:=ou.n_lt (by omega);obtain⟨G1,UC⟩:=hid (grown H H2);have dC:G1.n=H2.n:=by rw[UC];rfl
 rw[<-UC]at ou1 k1;obtain⟨w0,H3,hw,kw,oR,ow,dw,lw,vw⟩:=aK (H:=G1.top) (hb.keep k1).top dy (by omega) gp;have ow1:Yo G1.n (grown G1 H3) w0 oR:=ow.same (Yn kw);have k2:Zg G1 (grown G1 H3):=Yb (.refl G1) kw;have n2:G1.n<H3.n:=ow.n_lt (by omega);obtain⟨G2,Kn⟩:=hid (grown G1 H3);have nG2:G2.n=H3.n:=by rw[Kn];rfl
 rw[<-Kn]at ow1 k2;obtain⟨wv,yB,ow2⟩:=ow1.top.cut Zv (m:=n) (by omega) (by omega);have z7:Yo G1.n G2 wv (oR.take n):=ow2.same ⟨rfl,fun _ _ _=>rfl⟩;apply Zf;intro b Ze;apply YH (by kernel_rfl);simp[t0,t1];refine Yy (v:=u0) (H2:=H2) rfl rfl rfl (by rw[ZQ rfl];simp[t0,hu]) (by omega) (YN ku) ?_;simp[t1,fp n1,<-UC];refine Yy (v:=w0) (H2:=H3) rfl rfl rfl (by rw[ZQ (by kernel_rfl)];simp[t1,hw]) (by omega) (YN kw) ?_;simp[t1,fp n2,<-Kn,iT];refine ZK (v:=wv) rfl rfl rfl (by rw[ZQ (by kernel_rfl)];simp[yB]) ?_;simp;subst Ze;obtain⟨vs,JL⟩:=hid (oR.take n);rw[<-JL]at z7;have jN:vs.length=n:=by rw[JL,List.length_take];omega
 have fR:YC Zd vs:=by rw[JL];exact dw.take n
 have wD:dv Zd vs=dv Zd ys*2^s:=by
  have e:=U4 oR n (by omega);rw[vw,<-JL]at e;have:dv Zd (oR.drop n)=0:=by
   rcases Nat.eq_zero_or_pos (dv Zd (oR.drop n))with h|h;·exact h
   ·exfalso;have:Zd^n*1<=Zd^n*dv Zd (oR.drop n):=Nat.mul_le_mul_left _ h;omega
  rw[this]at e;omega
 have Bpos:0<dv Zd ys:=Nat.lt_of_lt_of_le (Nat.pow_pos (by decide)) bS;have nD:=Nat.two_pow_pos s;have Vge:Zd^(n-1)<=dv Zd vs:=by rw[wD];exact Nat.le_trans bS (Nat.le_mul_of_pos_right _ nD)
 have Vpos:0<dv Zd vs:=Nat.lt_of_lt_of_le (Nat.pow_pos (by decide)) Vge;have Vlt:dv Zd vs<Zd^n:=by rw[wD];exact hVlt
 have vtop:0<vs[n-1]'(by omega):=by
  rcases Nat.eq_zero_or_pos (vs[n-1]'(by omega))with h|h;·exfalso;have e:=U4 vs (n-1) (by omega);rw[List.drop_eq_getElem_cons (by omega),List.drop_eq_nil_of_le (by omega),h]at e;have hl:=Ww (fR.take (n-1));rw[List.length_take,Nat.min_eq_left (by omega)]at hl;simp[dv]at e;omega
  ·exact h
 have JI:=k1.trans k2;have ou2:Yo H.n G2 u0 dp:=ou1.m k2;have wY:Vz u0 wv:=US ou1 z7 (Nat.le_refl _);have Dg:=z7.sl.len Zv;rw[jN]at Dg;obtain⟨M,hM⟩:=hid (xs.length-n+1);have s2:Zc .sub .i64 (xs.length:Int) (n:Int)=some (.int .i64 ((xs.length-n:Nat):Int)):=KB (by omega) uC;have s3:Zc .add .i64 ((xs.length-n:Nat):Int) 1=some (.int .i64 (M:Int)):=by rw[hM];exact YO (by omega)
 have s4:((xs.length-n:Nat):Int)=(M:Int)-1:=by omega
 obtain⟨q0,H4,QV,kq,oq,nq⟩:=YG (H:=G2) Zv (n:=M) (by omega);have wZ:Vz u0 q0:=US ou2 oq (Nat.le_refl _);apply Zb;intro b Ze;simp[Dg];subst Ze;apply Zb;intro b Ze;simp[t0,iU,s2,s3,QV];subst Ze;refine Xe (fun s'=>s'.k=104/\Zg H s'.H/\ ∃(X L:List Nat),X.length=xs.length+1/\YC Zd X/\L.length=M/\YC Zd L/\dv Zd X+dv Zd vs*dv Zd L=dv Zd xs*2^s/\dv Zd X<dv Zd vs/\Yo H.n s'.H u0 X/\Yo G2.n s'.H q0 L/\s'.tm.get 9=some (.int .u64 (s:Int))/\s'.tm.get 10=some u0/\s'.tm.get 12=some (.int .i64 (n:Int))/\s'.tm.get 13=some q0) ?_ ?_
 ·intro IY XG;apply Zb;intro b2 Zp;simp[t0,iU,s2];subst Zp;apply Zz;have start:dv Zd (dp.drop M)<dv Zd vs:=by
   have e:=U4 dp M (by omega);rw[vu]at e;have hx:=Ww dx;have h1:dv Zd xs*2^s<Zd^xs.length*2^s:=Nat.mul_lt_mul_of_pos_right hx nD;have h3:Zd^xs.length*2^s=Zd^M*(Zd^(n-1)*2^s):=by rw[<-Nat.mul_assoc,<-Nat.pow_add,show M+(n-1)=xs.length by omega]
   have h4:Zd^M*(Zd^(n-1)*2^s)<=Zd^M*dv Zd vs:=Nat.mul_le_mul_left _ (by rw[wD];exact Nat.mul_le_mul_right _ bS);have h5:Zd^M*dv Zd (dp.drop M)<Zd^M*dv Zd vs:=by omega
   exact Nat.lt_of_mul_lt_mul_left h5
  refine YU (fun m s'=>s'.k=104/\Zg G2 H4/\m<=M/\Zg H s'.H/\Sl s'.H wv vs/\ ∃(X L:List Nat),X.length=xs.length+1/\YC Zd X/\L.length+m=M/\YC Zd L/\dv Zd X+Zd^m*(dv Zd vs*dv Zd L)=dv Zd xs*2^s/\dv Zd (X.drop m)<dv Zd vs/\Yo H.n s'.H u0 X/\Yo G2.n s'.H q0 (List.replicate m 0++L)/\s'.tm.get 9=some (.int .u64 (s:Int))/\s'.tm.get 10=some u0/\s'.tm.get 11=some wv/\s'.tm.get 12=some (.int .i64 (n:Int))/\s'.tm.get 13=some q0/\s'.tm.get 14=some (.int .i64 ((m:Int)-1))) ?_ M _ ⟨rfl,kq,Nat.le_refl _,JI.trans kq,z7.sl.keep kq,dp,[],by omega,du,by simp,.nil _,by simp[dv,vu],start,ou2.m kq,by simpa using oq,by simp,by simp,by simp,by simp,by simp,by simp[s4]⟩;rintro m ⟨k,tm,H5⟩ ⟨hk,_,hm,kH,sv,X,L,hX,dX,hL,dL,heq,YP,ou,oq,t9,t10,t11,t12,t13,t14⟩ Q' Y0;simp only at hk kH sv ou oq t9 t10 t11 t12 t13 t14;subst hk;apply Zf;intro b3 Z3;apply Zb;intro b4 Yx;have SL:Zc .geq .i64 ((m:Int)-1) 0=some (.bool (decide (0<m))):=by show some (Value.bool (decide ((m:Int)-1≥0)))=_;congr 2;apply decide_eq_decide.mpr;omega
  simp[t14,SL];subst Yx;by_cases M3:m=0;·subst M3;refine Za (t:=false) (by simp) ?_;apply YQ;apply Y0;left;exact⟨rfl,XG _ ⟨rfl,kH,X,L,hX,dX,by omega,dL,by simpa using heq,by simpa using YP,ou,by simpa using oq,by simp[t9],by simp[t10],by simp[t12],by simp[t13]⟩⟩
  ·refine Za (t:=true) (by simp;omega) ?_;apply Zn;subst Z3;obtain⟨j,rfl⟩: ∃j,m=j+1:=⟨m-1,by omega⟩;have em:((j+1:Nat):Int)-1=(j:Int):=by omega
   rw[em]at t14;have hjX:j+n+1<=X.length:=by omega
   obtain⟨K1,K2,K3⟩:=BP dX hjX fR jN YP;obtain⟨uw,yB,suw,view,bw⟩:=ou.sl.part Zv (j:=j) (m:=n+1) (by omega) (by omega);have i1:Zc .add .i64 (j:Int) (n:Int)=some (.int .i64 ((j+n:Nat):Int)):=Va (by omega);have i2:Zc .add .i64 ((j+n:Nat):Int) 1=some (.int .i64 ((j+(n+1):Nat):Int)):=YO (by omega);have sV:X=X.take j++(X.drop j).take (n+1)++X.drop (j+n+1):=by have a:=List.take_append_drop (n+1) (X.drop j);rw[List.drop_drop,show j+(n+1)=j+n+1 by omega]at a;rw[List.append_assoc,a,List.take_append_drop]
   have ljp:(X.take j).length=j:=by rw[List.length_take];omega
   have lus:((X.drop j).take (n+1)).length=n+1:=by rw[List.length_take,List.length_drop];omega
   have ou':=ou;rw[sV]at ou';obtain⟨r,H6,hg,hr,bt,ka,Pn,lus',dus',Zai,ou6⟩:=Bb ou' ljp lus view ((dX.drop j).take (n+1)) sv wY jN hn2 (by omega) fR vtop K2;subst hr;rw[K1]at Zai hg;have vS:=oq.but bt wZ;have ib:List.replicate (j+1) 0++L=List.replicate j 0++0::L:=by rw[List.replicate_succ'];simp
   rw[ib]at vS;have a2:=vS.sl.adr Zv (k:= .i64) (i:=j) (by simp);obtain⟨H7,Tk,oq7,n7,b7,Pr⟩:=vS.put (i:=j) (by simp) (dv Zd (X.drop j)/dv Zd vs);rw[Vd _ _ _ _ (by simp)]at oq7;have apqu:Vz q0 u0:=fun c hc LQ=>wZ c LQ hc;have apvq:Vz q0 wv:=fun c hc LQ=>by have x1:=(oq.blk_lo hc).1;have x2:=(z7.blk_lo LQ).2;omega
   have bt7:TF (Yw q0) H6 H7:=⟨n7,fun i _ hi=>b7 i hi⟩;have ou7:Yo H.n H7 u0 (X.take j++Pn++X.drop (j+n+1)):=ou6.but bt7 apqu;have sv7:Sl H7 wv vs:=(sv.but bt wY).but bt7 apvq;have vZ:Zg H H7:=Pr H (ka H kH (Nat.le_refl _)) (by have:=JI.n;omega);apply Zf;intro b3 Z3;apply Zz;apply Zh;simp[t10,t11,t12,t13,t14,i1,i2,yB,hg,a2,Tk];subst Z3;have w2:Zc .sub .i64 (j:Int) 1=some (.int .i64 ((j:Int)-1)):=by show some (Value.int .i64 (IntKind.i64.wrap ((j:Int)-1)))=_;congr 2;rw[IntKind.wrap_i64];omega
   apply Zh;simp[t14,w2];apply Y0;have hdX':(X.take j++Pn++X.drop (j+n+1)).drop j=Pn++X.drop (j+n+1):=by rw[List.append_assoc,List.drop_append_of_le_length (by omega),List.drop_eq_nil_of_le (by omega)];rfl
   have hdv:dv Zd (Pn++X.drop (j+n+1))=dv Zd (X.drop j)%dv Zd vs:=by rw[Yr,K3,Nat.mul_zero,Nat.add_zero,Zai]
   refine⟨j,Nat.lt_succ_self j,rfl,kq,by show j<=M;omega,vZ,sv7,X.take j++Pn++X.drop (j+n+1),dv Zd (X.drop j)/dv Zd vs::L,?_,((dX.take j).append dus').append (dX.drop _),by simp;omega,.cons ?_ dL,?_,?_,ou7,oq7,by simp[t9],by simp[t10],by simp[t11],by simp[t12],by simp[t13],by simp⟩;·simp only[List.length_append,List.length_drop];omega
   ·rw[Nat.div_lt_iff_lt_mul Vpos,Nat.mul_comm,<-K1];exact K2
   ·have e1:=U4 X j (by omega);rw[List.append_assoc,Yr,ljp,hdv];have e2:=Nat.div_add_mod (dv Zd (X.drop j)) (dv Zd vs);simp only[dv];generalize dv Zd (X.drop j)/dv Zd vs=q at*;generalize dv Zd (X.drop j)%dv Zd vs=r at*;rw[e1,<-e2]at heq;rw[<-heq];rw[Nat.mul_add (dv Zd vs) q,Nat.mul_add (Zd^j) (dv Zd vs*q) r,Nat.mul_add (Zd^j) (dv Zd vs*q),show Zd^(j+1)=Zd^j*Zd from rfl,Nat.mul_assoc (Zd^j) Zd,Nat.mul_left_comm (dv Zd vs) Zd];omega
   ·rw[hdX',hdv];exact Nat.mod_lt _ Vpos
 rintro⟨k,CR,H5⟩ ⟨hk,kH,X,L,hX,dX,hL,dL,heq,YP,ou,oq,t9,t10,t12,t13⟩;simp only at hk kH ou oq t9 t10 t12 t13;subst hk;have e0:dv Zd xs*2^s=dv Zd vs*dv Zd L+dv Zd X:=by rw[<-heq];omega
 have hdiv:dv Zd xs/dv Zd ys=dv Zd L:=by rw[<-Nat.mul_div_mul_right _ _ nD,e0,<-wD,Nat.mul_add_div Vpos,Nat.div_eq_of_lt YP,Nat.add_zero]
 have E3:dv Zd X/2^s=dv Zd xs%dv Zd ys:=by
  have:dv Zd xs%dv Zd ys*2^s=dv Zd X:=by rw[<-Nat.mul_mod_mul_right,e0,<-wD,Nat.mul_add_mod,Nat.mod_eq_of_lt YP]
  rw[<-this,Nat.mul_div_cancel _ nD]
 have hXn:dv Zd (X.take n)=dv Zd X:=by
  have e:=U4 X n (by omega);have:dv Zd (X.drop n)=0:=by
   rcases Nat.eq_zero_or_pos (dv Zd (X.drop n))with h|h;·exact h
   ·exfalso;have:Zd^n*1<=Zd^n*dv Zd (X.drop n):=Nat.mul_le_mul_left _ h;omega
  rw[this]at e;omega
 obtain⟨qv,H6,hq6,kq6,vS⟩:=VS (H:=H5.top) oq.sl.top (by omega);rw[Xo Ya dL,<-hdiv]at vS;obtain⟨G6,hG6⟩:=hid (grown H5 H6);have kG6:Zg H5 G6:=by rw[hG6];exact Yb (.refl H5) kq6
 have nG6:G6.n=H6.n:=by rw[hG6];rfl
 have oqG:Yo H5.n G6 qv (ds Zd (dv Zd xs/dv Zd ys)):=by rw[hG6];exact vS.same (Yn kq6)
 have ouG:=(ou.sl.keep kG6).top;obtain⟨rv,H7,hr7,kr7,or7⟩:=bj (H:=G6.top) (ouG.cutTo Zv (m:=n) (by omega) (by omega)).2 (dX.take n) (by rw[List.length_take];omega) gp;rw[hXn,E3]at or7;have kG7:Zg G6 (grown G6 H7):=Yb (.refl G6) kr7;have orG:Yo G6.n (grown G6 H7) rv (ds Zd (dv Zd xs%dv Zd ys)):=or7.same (Yn kr7);have h6n:=kq6.n;have h7n:=kr7.n;apply Zf;intro b Ze;apply YH (by kernel_rfl);simp[t13];refine Yy (v:=qv) (H2:=H6) rfl rfl rfl (by rw[ZQ rfl];simp[hq6]) h6n (YN kq6) ?_;rw[<-hG6];generalize PG:cond (Nat.blt H5.n H6.n) _ _=ms;have XA: ∀x∈ms,x.1=1/\H5.n<=x.2.1:=by intro x hx;rw[<-PG]at hx;cases ml:Nat.blt H5.n H6.n with|true=>rw[ml,cond_true]at hx;simp at hx;subst hx;exact⟨rfl,Nat.le_refl _⟩|false=>rw[ml,cond_false]at hx;cases hx
 simp[t10,t12];refine ZK (v:=cutTo u0 n) rfl rfl rfl ?_ ?_;·have hsv:=fun bits=>((ou.sl.keep (Xx (bits:=bits) kG6 fun x hx=>(XA x hx).2)).cutTo Zv (m:=n) (by omega) (by omega)).1;simp[hsv]
 simp[t9];refine Yy (v:=rv) (H2:=H7) rfl rfl rfl ?_ h7n (YN kr7) ?_;·rw[ZQ (Yp fun x hx=>by rw[(XA x hx).1];kernel_rfl)];simp[t9,hr7]
 simp;subst Ze;apply Zq;refine⟨.inr rfl,[qv,rv],?_,?_⟩;·simp
 ·exact⟨(kH.trans kG6).trans kG7,qv,rv,rfl,oqG.mono kH.n kG7,orG.mono (by have:=(kH.trans kG6).n;omega) (.refl _),US oqG orG (Nat.le_refl _)⟩
theorem Em{n0:Nat}{H:AH}{va vb:Value}{xs ys:List Nat}(ha:Yo n0 H va xs)(hb:Sl H vb ys)(Qi:n0<=H.n)(dx:YC Zd xs)(dy:YC Zd ys)(tx:YT xs=xs)(ty:YT ys=ys)(lx:xs.length<=17592186040000)(ly:ys.length<=17592186040000)(hy:0<ys.length):CW Tryz.prog Zu 193 [va,vb] H (NQ n0 H (dv Zd xs) (dv Zd ys)):=CB ha hb Qi dx dy tx ty lx ly hy fun tm t0 t1 h2 SL=>El ha hb Qi dx dy tx ty lx ly tm t0 t1 h2 SL
structure Mod (b : Option Nat) (H H' : AH) : Prop where
  n : H.n <= H'.n
  blk : ∀ j, j < H.n -> b ≠ some j -> H'.blk j = H.blk j
theorem Mod.refl(b:Option Nat)(H:AH):Mod b H H:=⟨Nat.le_refl _,fun _ _ _=>rfl⟩
theorem Mod.trans{b:Option Nat}{H H1 H2:AH}(x:Mod b H H1)(y:Mod b H1 H2):Mod b H H2:=⟨Nat.le_trans x.n y.n,fun j hn hj=>(y.blk j (Nat.lt_of_lt_of_le hn x.n) hj).trans (x.blk j hn hj)⟩
theorem Zg.mod{H H':AH}(k:Zg H H'):Mod none H H':=⟨k.n,fun j hj _=>k.blk j hj⟩
theorem TF.mod{b:Option Nat}{H H':AH}(k:TF b H H'):Mod b H H':=⟨Nat.le_of_eq k.n.symm,k.blk⟩
theorem Mod.any{b:Option Nat}{H H':AH}(k:Mod none H H'):Mod b H H':=⟨k.n,fun j hj _=>k.blk j hj (fun e=>by cases e)⟩
theorem Sl.mod{b:Option Nat}{H H':AH}{v:Value}{xs:List Nat}(h:Sl H v xs)(k:Mod b H H')(hb: ∀c,b=some c->Yw v≠some c):Sl H' v xs:=by cases h with|nil=>exact .nil|emp b=>exact .emp b|mk c o cap xs h1 h2=>obtain⟨h3,cs,h4,h5,h6⟩:=h2;have e:=k.blk c h3 fun e=>hb c e rfl;exact .mk c o cap xs h1 ⟨Nat.lt_of_lt_of_le h3 k.n,cs,by unfold AH.cells;rw[e];exact h4,by unfold AH.size;rw[e];exact h5,h6⟩
theorem Yo.mod{b:Option Nat}{n0:Nat}{H H':AH}{v:Value}{xs:List Nat}(h:Yo n0 H v xs)(k:Mod b H H')(hb: ∀c,b=some c->Yw v≠some c):Yo n0 H' v xs:=by cases h with|nil=>exact .nil|mk c o cap xs cs h1 h2 h3 h4 h5 h6=>exact .mk c o cap xs cs h1 h2 (Nat.lt_of_lt_of_le h3 k.n) (by rw[k.blk c h3 fun e=>hb c e rfl];exact h4) h5 h6
theorem AH.blk_kill(H:AH)(i j:Nat):(H.kill i).blk j=if j=i then .dead else H.blk j:=by
 unfold AH.kill AH.blk;simp only[Tr.get_set];by_cases e:j=i;·rw[if_pos e,if_pos e]
 ·rw[if_neg e,if_neg e]
theorem cY(xs:List Nat):(xs.map Uq).all one=true:=by rw[List.all_eq_true];intro v hv;obtain⟨x,_,rfl⟩:=List.mem_map.mp hv;rfl
theorem Yo.append{n0:Nat}{H:AH}{v w:Value}{xs ys:List Nat}(h:Yo n0 H v xs)(hn:n0<=H.n)(hw:Sl H w ys)(hl:xs.length+ys.length<=17592186044416){t t2:TypeId}(ht:LT t)(ij:LT t2): ∃v' H',XS Tryz.prog H t t2 v w=some (v',H')/\Yo n0 H' v' (xs++ys)/\Mod (Yw v) H H'/\KA n0 H H':=by
 by_cases h0:ys.length=0
 ·obtain rfl:ys=[]:=List.length_eq_zero_iff.mp h0;refine⟨v,H,?_,by simpa using h,.refl _ _,.refl _ _⟩;have hv: ∃a l c,v= .slice a l c:=by cases h<;>exact⟨_,_,_,rfl⟩
  obtain⟨a,l,c,rfl⟩:=hv;have hwv: ∃a c,w= .slice a 0 c:=by generalize hz:([]:List Nat)=zs at hw;cases hw with|nil=>exact⟨_,_,rfl⟩|emp b=>exact⟨_,_,rfl⟩|mk b o cap xs h1 h2=>subst hz;exact⟨_,_,rfl⟩
  obtain⟨a2,c2,rfl⟩:=hwv;simp[XS,ht.2,ij.2]
 ·have hc:=hw.cells (by omega);obtain⟨a2,cap2,rfl⟩: ∃a cap,w= .slice a ys.length cap:=by cases hw<;>exact⟨_,_,rfl⟩
  have e1:Nat.beq ys.length 0=false:=Xj h0;cases h with
   |nil=>
    refine⟨.slice (some ⟨H.n,0,none⟩) ys.length ys.length,H.new 1 (ys.map Uq),?_,?_,(Zg.new H 1 _).mod,?_⟩;·have e2:Nat.ble (ys.length*8) 140737488355328=true:=Nat.ble_eq.mpr (by simp at hl;omega);have e3:Nat.ble ys.length 281474976710656=true:=Nat.ble_eq.mpr (by simp at hl;omega);simp[XS,ht.2,ij.2,e1,e2,e3,hc,Cr,Value.cells]
    ·have:=Yo.new H ys;simp only[List.nil_append];exact this.mono hn (.refl _)
    ·intro H0 k _;exact k.trans (Zg.new H 1 _)
   |mk b o cap xs cs h1 h2 h3 h4 h5 h6=>
    have e2:Nat.ble ((xs.length+ys.length)*8) 140737488355328=true:=Nat.ble_eq.mpr (by omega);have e3:Nat.ble (xs.length+ys.length) 281474976710656=true:=Nat.ble_eq.mpr (by omega);have e4:Nat.ble (o+xs.length) cs.length=true:=Nat.ble_eq.mpr (by omega);have e5:(cs.drop o).take xs.length=xs.map Uq:=by
     rcases Nat.eq_zero_or_pos xs.length with h|h;·have:xs=[]:=List.length_eq_zero_iff.mp h;subst this;simp
     ·exact(Fs h h6).2
    have eH:(H.kill b).n=H.n:=rfl;refine⟨.slice (some ⟨H.n,0,none⟩) (xs++ys).length (xs++ys).length,(H.kill b).new 1 ((xs++ys).map Uq),?_,?_,?_,?_⟩
    ·have e6:Nat.beq 1 1=true:=rfl;have e7:ys.all (one∘Uq)=true:=by rw[List.all_eq_true];intro x _;rfl
     simp[XS,ht.2,ij.2,e1,e2,e3,e4,e5,hc,Cr,Value.cells,h4,e7]
    ·refine .mk H.n 0 _ _ ((xs++ys).map Uq) (Nat.le_refl _) hn ?_ ?_ (by simp) (fun i x h=>by rw[Nat.zero_add,List.getElem?_map,h];rfl);·show H.n<H.n+1;omega
     ·rw[AH.blk_new,if_pos eH.symm]
    ·refine⟨by show H.n<=H.n+1;omega,fun j hj hb=>?_⟩;rw[AH.blk_new,if_neg (by rw[eH];omega),AH.blk_kill,if_neg (by intro e;subst e;exact hb rfl)]
    ·intro H0 k Qi;have:=k.n;refine⟨by show H0.n<=H.n+1;omega,?_,fun j hj=>?_⟩;·have:=k.lw;show min H0.lw H0.n<=min H.lw b;omega
     ·rw[AH.blk_new,if_neg (by rw[eH];omega),AH.blk_kill,if_neg (by omega)];exact k.blk j hj
theorem Dm{H:AH}{t:TypeId}(ht:LT t){n:Nat}(hn:n<=17592186044416): ∃v H',VC Tryz.prog H t (.int .i64 0) (.int .i64 (n:Int))=some (v,H')/\Zg H H'/\Yo H.n H' v []:=by
 refine⟨.slice (some ⟨H.n,0,none⟩) 0 n,H.new 1 ((List.replicate n 0).map Uq),?_,.new _ _ _,?_⟩;·unfold VC;simp only[ht.2,Cr];rw[if_pos (by omega)];simp only[Int.toNat_natCast,Nat.mul_one,Is];rfl
 ·exact .mk H.n 0 n [] ((List.replicate n 0).map Uq) (Nat.zero_le _) (Nat.le_refl _) (Nat.lt_succ_self _) (by rw[AH.blk_new,if_pos rfl]) (by simp) (fun i x h=>by simp at h)
theorem O7(H:AH){t:TypeId}(ht:LT t)(x:Nat):YV Tryz.prog H t 1 [(0,.int .u64 (x:Int))]=some (.slice (some ⟨H.n,0,none⟩) 1 1,H.new 1 ([x].map Uq)):=by unfold YV;simp only[ht.2,Cr];kernel_rfl
theorem CJ(H:AH){t:TypeId}(ht:LT t)(x y:Nat):YV Tryz.prog H t 2 [(0,.int .u64 (x:Int)),(1,.int .u64 (y:Int))]=some (.slice (some ⟨H.n,0,none⟩) 2 2,H.new 1 ([x,y].map Uq)):=by unfold YV;simp only[ht.2,Cr];kernel_rfl
def GL(v:Value)(m:Nat):Value:=match v with| .slice (some a) _ _=> .slice (some a) m m|v=>v
theorem Yo.cut3{n0:Nat}{H:AH}{v:Value}{xs:List Nat}(h:Yo n0 H v xs){t:TypeId}(ht:LT t){m:Nat}(hm:m<=xs.length):Vy Tryz.prog H t v none (some (.int .i64 (m:Int))) (some (.int .i64 (m:Int)))=some (GL v m)/\Yo n0 H (GL v m) (xs.take m)/\Yw (GL v m)=Yw v:=by cases h with
 |nil=>simp at hm;subst hm;refine⟨?_,.nil,rfl⟩;unfold Vy;simp only[ht.1,MX];rfl
 |mk b o cap xs cs h1 h2 h3 h4 h5 h6=>
  have hl:(xs.take m).length=m:=by rw[List.length_take];omega
  have WX:H.size b=some 1:=by unfold AH.size;rw[h4]
  have ho:Yo n0 H (.slice (some ⟨b,o,none⟩) (xs.take m).length m) (xs.take m):= .mk b o m _ cs (by omega) h2 h3 h4 (by omega) fun i x hx=>h6 i x (by
   rw[List.getElem?_take]at hx;split at hx;·exact hx
   ·cases hx);rw[hl]at ho;refine⟨?_,ho,rfl⟩;unfold Vy;simp only[ht.1,MX];unfold IV Xq;simp only[WX,Option.isSome_some,Option.isNone_none,Bool.true_or];rw[if_pos (by omega)];have e1:Nat.ble m m=true:=Nat.ble_eq.mpr (Nat.le_refl _);simp[Xq,e1,GL]
theorem two32:2<=Z5:=by decide
theorem JX{k:IntKind}{x:Nat} :Zc .gtr k (x:Int) 0=some (.bool (decide (0<x))):=Vs (y:=0)
theorem Wo{k:IntKind}{x:Nat} :Zc .eql k (x:Int) 0=some (.bool (decide (x=0))):=Oh (y:=0)
theorem DC{x:Nat} :Zc .rem .u64 (x:Int) 4294967296=some (.int .u64 ((x%4294967296:Nat):Int)):=aT (y:=4294967296) (by decide)
theorem DM{x:Nat}(hx:x<Zd):Zc .quo .u64 (x:Int) 4294967296=some (.int .u64 ((x/4294967296:Nat):Int)):=Mx (y:=4294967296) hx (by decide)
theorem quo2{x:Nat}(hx:x<Zd):Zc .quo .u64 (x:Int) 2=some (.int .u64 ((x/2:Nat):Int)):=Mx (y:=2) hx (by decide)
theorem ay{x y:Nat}(h:x*y<9223372036854775808):Zc .mul .i64 (x:Int) (y:Int)=some (.int .i64 ((x*y:Nat):Int)):=by
 show some (Value.int .i64 (IntKind.i64.wrap ((x:Int)*(y:Int))))=_;have e:IntKind.i64.wrap ((x:Int)*(y:Int))=((x*y:Nat):Int):=by rw[IntKind.wrap_i64,<-Int.natCast_mul];generalize x*y=z at*;omega
 rw[e]
theorem AR{x:Nat}(h:2*x<9223372036854775808):Zc .mul .i64 2 (x:Int)=some (.int .i64 ((2*x:Nat):Int)):=ay (x:=2) h
theorem ct{x:Nat}(h:32*x<9223372036854775808):Zc .mul .i64 32 (x:Int)=some (.int .i64 ((32*x:Nat):Int)):=ay (x:=32) h
theorem eQ{x:Nat}(h:x<9223372036854775800):Zc .add .i64 (x:Int) 2=some (.int .i64 ((x+2:Nat):Int)):=Va (y:=2) (by omega)
def RR:List Nat->List Nat|[]=>[]|x::xs=>x%Z5::x/Z5::RR xs
theorem LS(x:Nat): ∀(xs:List Nat),RR (xs++[x])=RR xs++[x%Z5,x/Z5]|[]=>rfl|y::xs=>by simp[RR,LS x xs]
theorem QW: ∀(xs:List Nat),(RR xs).length=2*xs.length|[]=>rfl|x::xs=>by simp[RR,QW xs];omega
theorem MC: ∀(xs:List Nat),dv Z5 (RR xs)=dv Zd xs|[]=>rfl|x::xs=>by simp only[RR,dv,MC xs];have:=Nat.mod_add_div x 4294967296;show x%4294967296+4294967296*(x/4294967296+4294967296*dv Zd xs)=x+18446744073709551616*dv Zd xs;omega
theorem Nh: ∀{xs:List Nat},YC Zd xs->YC Z5 (RR xs)|[],_=> .nil _|x::xs,h=>by have hx:x<18446744073709551616:=h.head;exact .cons (Nat.mod_lt _ (by decide)) (.cons (by show x/4294967296<4294967296;omega) (Nh h.tail))
def TL:List Nat->List Nat|[]=>[]|[x]=>[x]|x::y::r=>(x+y*Z5)::TL r
theorem jc(N:Nat):TL (ds Z5 N)=ds Zd N:=by induction N using Nat.strongRecOn with
 |_ N ih=>
  by_cases h0:N=0;·subst h0;rw[Xg,Xg];rfl
  ·rw[TC two32 h0];by_cases h1:N/Z5=0
   ·have hN:N<4294967296:=by have:=KT (by decide) h1;exact this
    rw[h1,Xg,TC Ya h0];have e1:N%Z5=N:=Nat.mod_eq_of_lt hN;have e2:N%Zd=N:=Nat.mod_eq_of_lt (Nat.lt_trans hN (by decide));have e3:N/Zd=0:=Nat.div_eq_of_lt (Nat.lt_trans hN (by decide));rw[e1,e2,e3,Xg];rfl
   ·rw[TC two32 h1,TC Ya h0];simp only[TL];have e1:N/Z5/Z5=N/Zd:=by rw[Nat.div_div_eq_div_mul,show Z5*Z5=Zd by decide]
    have e2:N%Z5+N/Z5%Z5*Z5=N%Zd:=by show N%4294967296+N/4294967296%4294967296*4294967296=N%18446744073709551616;omega
    rw[e1,e2,ih _ (Nat.div_lt_self (by omega) (by decide))]
theorem B2{ys:List Nat}{i:Nat}(h:i<ys.length):TL (ys.drop i)=(ys[i]+nth ys (i+1)*Z5)::TL (ys.drop (i+2)):=by
 rw[List.drop_eq_getElem_cons h];by_cases h1:i+1<ys.length;·rw[List.drop_eq_getElem_cons h1,XF h1];simp only[TL]
 ·rw[List.drop_eq_nil_of_le (by omega),Uf (by omega),List.drop_eq_nil_of_le (by omega)];simp[TL]
theorem Gj: ∀(ys:List Nat),(TL ys).length<=ys.length|[]=>Nat.le_refl _|[x]=>Nat.le_refl _|x::y::r=>by simp only[TL,List.length_cons];have:=Gj r;omega
theorem aF{x:Nat}(h:0<x):Zo x=Zo (x/2)+1:=by
 rcases Nat.lt_or_ge x 2 with h1|h1
 ·obtain rfl:x=1:=by omega
  decide
 ·have:=Tp (n:=x) (k:=1) h1;rw[this,Nat.pow_one,Nat.add_comm]
theorem VB{n0:Nat}{H:AH}{v:Value}{xs:List Nat}(h:Yo n0 H v xs)(hlen:xs.length<1152921504606846976):CW Tryz.prog Zu 57 [v] H fun v' H'=>H'=H/\Yo n0 H v' (YT xs)/\Yw v'=Yw v:=by
 refine Z2 22 Tryz.func57 ?_;have l0:=h.sl.len ZC;apply Zb;intro b1 Ze;simp;subst Ze;apply Zb;intro b1 Ze;simp[l0];subst Ze;apply Zf;intro b1 Ze;apply Zz;refine YU (fun n s=>s.k=22/\s.H=H/\n<=xs.length/\YT (xs.take n)=YT xs/\s.tm.get 0=some v/\s.tm.get 3=some (.int .i64 (n:Int))) ?_ xs.length _ ⟨rfl,rfl,Nat.le_refl _,by rw[List.take_length],by simp,by simp⟩;rintro n ⟨k,tm,H'⟩ ⟨hk,hH,hn,ht,t0,t3⟩ Q' Y0;simp only at hk hH t0 t3;subst hk;subst hH;apply Zf;intro b2 Zp;apply Zb;intro b3 Z3;have fin: ∀Xb:Tr Value,Xb.get 0=some v->Xb.get 3=some (.int .i64 (n:Int))->YT (xs.take n)=xs.take n->Q' (.exit 0) ⟨22,Xb,H'⟩:=fun Xb t0 t3 he=>by apply Y0;left;refine⟨rfl,?_⟩;subst Ze;obtain⟨c1,c2,c3⟩:=h.cut3 ZC hn;apply Zb;intro b4 Yx;simp[t0,t3,c1];subst Yx;apply Zq;simp;rw[<-ht,he];exact⟨c2,c3⟩
 by_cases hz:n=0;·subst hz;simp[t3];subst Z3;refine Za (t:=false) (by simp) ?_;apply YQ;exact fin _ (by simp[t0]) (by simp[t3]) rfl
 ·have hi:n-1<xs.length:=by omega
  have a1:=h.sl.adr ZC (k:= .i64) hi;have d1:=h.sl.load hi;have PE:xs.take n=xs.take (n-1)++[xs[n-1]]:=by have:=Xm hi;rwa[show n-1+1=n by omega]at this
  have Qi:0<n:=by omega
  simp[t3,t0,JX,Qi,Ut (x:=n) (by omega) Qi,a1,d1,Wo];subst Z3;by_cases h0:xs[n-1]=0;·refine Za (t:=true) (by simp[h0]) ?_;apply Zn;subst Zp;apply Zz;apply Zh;simp[t3,Ut (x:=n) (by omega) Qi];apply Y0;refine⟨n-1,by omega,rfl,rfl,by show n-1<=_;omega,?_,by simp[t0],by simp⟩;rw[<-ht,PE,h0,V6]
  ·refine Za (t:=false) (by simp[h0]) ?_;apply YQ;exact fin _ (by simp[t0]) (by simp[t3]) (by rw[PE];exact SC _ _ h0)
theorem nj{H:AH}{v:Value}{xs:List Nat}(h:Sl H v xs)(dx:YC Zd xs)(hlen:xs.length<=8000000000000):CW Tryz.prog Zu 17 [v] H fun v' H'=>Zg H H'/\Yo H.n H' v' (ds Z5 (dv Zd xs)):=by
 refine Z2 26 Tryz.func17 ?_;have l0:=h.len Yh;obtain⟨a0,H1,QV,k1,o1⟩:=Dm (H:=H) ZC (n:=2*xs.length) (by omega);apply Zb;intro b1 Ze;simp;subst Ze;apply Zb;intro b1 Ze;simp[l0,AR (x:=xs.length) (by omega),QV];subst Ze;apply Zf;intro b1 Ze;apply Zb;intro b2 Zp;simp[l0];subst Zp;apply Zz;refine YU (fun m s'=>s'.k=26/\Zg H s'.H/\ ∃(i:Nat) (a:Value),m+i=xs.length/\Yo H.n s'.H a (RR (xs.take i))/\s'.tm.get 3=some a/\s'.tm.get 10=some v/\s'.tm.get 11=some (.int .i64 (xs.length:Int))/\s'.tm.get 12=some (.int .i64 (i:Int))) ?_ xs.length _ ⟨rfl,k1,0,a0,by omega,o1,by simp,by simp,by simp,by simp⟩;rintro m ⟨k,tm,H2⟩ ⟨hk,kH,i,a,M5,own,t3,t10,t11,t12⟩ Q' Y0;simp only at hk kH own t3 t10 t11 t12;subst hk;apply Zb;intro b3 Z3;simp[t11,t12];subst Z3;apply Zf;intro b3 Z3;by_cases hi:i<xs.length;·refine Za (t:=true) (by simp[hi]) ?_;apply Zn;subst Z3;have s2:=h.keep kH;have a1:=s2.adr Yh (k:= .i64) hi;have d1:=s2.load hi;have hx:xs[i]<Zd:=dx.get (List.getElem?_eq_getElem hi);obtain⟨x,Nj⟩:=hid (xs[i]);rw[<-Nj]at d1 hx;have hb:=CJ H2 ZC (x%4294967296) (x/4294967296);have kn:=Zg.new H2 1 ([x%4294967296,x/4294967296].map Uq);have ow:=Yo.new H2 [x%4294967296,x/4294967296];obtain⟨v',H4,Oj,VM,mod4,VO⟩:=(own.m kn).append (Nat.le_trans kH.n kn.n) ow.sl (by rw[QW,List.length_take];simp;omega) ZC ZC;apply Zf;intro b3 Z3;apply Zz;apply Zb;intro b4 Yx;simp[t10,t12,a1,d1];subst Yx;apply Zh;simp[t3,DC,DM hx,hb];simp at Oj;simp[Oj];subst Z3;apply Zh;simp[t12,YO (x:=i) (by omega)];apply Y0;refine⟨m-1,by omega,rfl,VO H (kH.trans kn) (Nat.le_refl _),i+1,v',by omega,?_,by simp,by simp[t10],by simp[t11],by simp⟩;rw[Xm hi,LS,<-Nj];exact VM
 ·refine Za (t:=false) (by simp[hi]) ?_;apply YQ;apply Y0;left;refine⟨rfl,?_⟩;obtain rfl:i=xs.length:=by omega
  rw[List.take_length]at own;obtain⟨v5,H5,MA,e5,o5,_⟩:=VB own (by rw[QW];omega);subst e5;rw[Xo two32 (Nh dx),MC]at o5;subst Ze;apply Zb;intro b4 Yx;simp[t3,MA];subst Yx;apply Zq;simp;exact⟨kH,o5⟩
theorem eG{x:Nat}(h:x<Z5):x<Zd:=Nat.lt_trans h (by decide)
theorem BO{H:AH}{v:Value}{ys:List Nat}(h:Sl H v ys)(dy:YC Z5 ys)(hlen:ys.length<=17592186000000):CW Tryz.prog Zu 94 [v] H fun v' H'=>Zg H H'/\Yo H.n H' v' (TL ys):=by
 refine Z2 34 Tryz.func94 ?_;have l0:=h.len ZC;apply Zf;intro b1 Ze;apply Zh;simp;subst Ze;apply Zf;intro b1 Ze;apply Zh;simp;subst Ze;apply Zf;intro b1 Ze;apply Zf;intro b2 Zp;apply Zh;simp;subst Zp;apply Zz;refine YU (fun m s'=>s'.k=34/\Zg H s'.H/\ ∃(i:Nat) (a:Value) (L:List Nat),m=ys.length-i/\i<=ys.length+1/\L.length<=i/\L++TL (ys.drop i)=TL ys/\Yo H.n s'.H a L/\s'.tm.get 0=some v/\s'.tm.get 3=some a/\s'.tm.get 4=some (.int .i64 (i:Int))) ?_ ys.length _ ⟨rfl,.refl H,0,.slice none 0 0,[],by omega,by omega,Nat.le_refl _,by simp,.nil,by simp,by simp,by simp⟩;rintro m ⟨k,tm,H2⟩ ⟨hk,kH,i,a,L,M5,hiy,hLi,hL,own,t0,t3,t4⟩ Q' Y0;simp only at hk kH own t0 t3 t4;subst hk;apply Zf;intro b3 Z3;apply Zf;intro b4 Yx;apply Zh;simp[t0,t4,l0];subst Yx;by_cases hi:i<ys.length
 ·refine Za (t:=true) (by simp[hi]) ?_;apply Zn;subst Z3;have s2:=h.keep kH;have a1:=s2.adr ZC (k:= .i64) hi;have d1:=s2.load hi;have hx:ys[i]<Z5:=dy.get (List.getElem?_eq_getElem hi);obtain⟨x,Nj⟩: ∃x,x=ys[i]:=⟨_,rfl⟩;obtain⟨w,hw⟩: ∃w,w=x+nth ys (i+1)*4294967296:=⟨_,rfl⟩;have yR:=B2 hi;rw[<-Nj]at d1 hx yR;have hpd':TL (ys.drop i)=w::TL (ys.drop (i+2)):=by rw[hw];exact yR
  have hb:=O7 H2 Yh w;have kn:=Zg.new H2 1 ([w].map Uq);have ow:=Yo.new H2 [w];obtain⟨v',H4,Oj,VM,mod4,VO⟩:=(own.m kn).append (Nat.le_trans kH.n kn.n) ow.sl (by simp;omega) Yh Yh;simp at Oj hb;apply Zf;intro b3 Z3;apply Zz;apply Zf;intro b4 Yx;apply Zh;simp[t0,t4,a1,d1];subst Yx;refine Xe (fun s'=>s'.k=34/\s'.H=H2/\s'.tm.get 0=some v/\s'.tm.get 3=some a/\s'.tm.get 4=some (.int .i64 (i:Int))/\s'.tm.get 5=some (.int .u64 (w:Int))) ?_ ?_
  ·intro IY XG;apply Zf;intro b4 Yx;apply Zh;simp[t0,t4,l0,YO (x:=i) (by omega)];subst Yx;by_cases EC:i+1<ys.length
   ·refine Za (t:=true) (by simp[EC]) ?_;have a2:=s2.adr ZC (k:= .i64) EC;have d2:=s2.load EC;have hz:ys[i+1]<Z5:=dy.get (List.getElem?_eq_getElem EC);rw[XF EC]at hw;obtain⟨z,sL⟩: ∃z,z=ys[i+1]:=⟨_,rfl⟩;rw[<-sL]at d2 hz hw;have hz':z<4294967296:=hz;have qf:x<4294967296:=hx;have m1:Zc .mul .u64 (z:Int) 4294967296=some (.int .u64 ((z*4294967296:Nat):Int)):=by rw[mulR,Nat.mod_eq_of_lt (by show _<18446744073709551616;omega)]
    have m2:Zc .add .u64 (x:Int) ((z*4294967296:Nat):Int)=some (.int .u64 (w:Int)):=by rw[hw];exact We (by show _<18446744073709551616;omega)
    apply Zh;simp[t0,t4,YO (x:=i) (by omega),a2,d2,m1,m2];apply XG;exact⟨rfl,rfl,by simp[t0],by simp[t3],by simp[t4],by simp⟩
   ·refine Za (t:=false) (by simp[EC]) ?_;apply Zn;apply XG;rw[Uf (by omega),Nat.zero_mul,Nat.add_zero]at hw;exact⟨rfl,rfl,by simp[t0],by simp[t3],by simp[t4],by simp[hw]⟩
  clear t0 t3 t4;rintro⟨k,tm,H3⟩ ⟨hk,hH,t0,t3,t4,t5⟩;simp only at hk hH t0 t3 t4 t5;subst hk;subst hH;apply Zh;simp[t3,t5,hb,Oj];subst Z3;apply Zh;simp[t4,eQ (x:=i) (by omega)];apply Y0;refine⟨ys.length-(i+2),by omega,rfl,VO H (kH.trans kn) (Nat.le_refl _),i+2,v',L++[w],rfl,by omega,by simp;omega,?_,VM,by simp[t0],by simp,by simp⟩;rw[<-hL,hpd'];simp
 ·refine Za (t:=false) (by simp[hi]) ?_;apply YQ;apply Y0;left;refine⟨rfl,?_⟩;rw[List.drop_eq_nil_of_le (by omega)]at hL;simp[TL]at hL;subst Ze;apply Zf;intro b4 Yx;apply Zh;simp[t3];subst Yx;apply Zq;simp;rw[<-hL];exact⟨kH,own⟩
theorem mP{H:AH}{v w:Value}{ys zs:List Nat}(h:Sl H v ys)(hw:Sl H w zs)(dy:YC Z5 ys)(hlen:ys.length<=17592186000000):CW Tryz.prog Zu 65 [v,w] H fun v' H'=>Zg H H'/\v'= .bool (decide (TL ys=zs)):=by
 refine Z2 29 Tryz.func65 ?_;obtain⟨v1,H1,N7,k1,o1⟩:=BO h dy hlen;have CV:=Gj ys;generalize TL ys=xs at*;have s1:=o1.sl;have s2:=hw.keep k1;have l1:=s1.len Yh;have l2:=s2.len Yh;apply Zf;intro b1 Ze;apply Zh;simp;subst Ze;apply Zf;intro b1 Ze;apply Zh;simp[N7];subst Ze;apply Zf;intro b1 Ze;apply Zf;intro b2 Zp;apply Zh;simp[l1,l2,KG];subst Zp;by_cases hl:xs.length=zs.length
 ·refine Za (t:=false) (by simp[hl]) ?_;apply Zn;subst Ze;apply Zf;intro b1 Ze;apply Zf;intro b2 Zp;apply Zh;simp[l1];subst Zp;apply Zz;refine YU (fun m s'=>s'.k=29/\s'.H=H1/\ ∃(i:Nat),m+i=xs.length/\xs.take i=zs.take i/\s'.tm.get 1=some w/\s'.tm.get 5=some v1/\s'.tm.get 15=some (.int .i64 (xs.length:Int))/\s'.tm.get 16=some (.int .i64 (i:Int))) ?_ xs.length _ ⟨rfl,rfl,0,by omega,rfl,by simp,by simp,by simp,by simp⟩;rintro m ⟨k,tm,H2⟩ ⟨hk,hH,i,M5,he,t1,t5,t15,t16⟩ Q' Y0;simp only at hk hH t1 t5 t15 t16;subst hk;subst hH;apply Zf;intro b3 Z3;apply Zh;simp[t15,t16];subst Z3;apply Zf;intro b3 Z3;by_cases hi:i<xs.length
  ·refine Za (t:=true) (by simp[hi]) ?_;apply Zn;subst Z3;have Fe:i<zs.length:=by omega
   have a1:=s1.adr Yh (k:= .i64) hi;have d1:=s1.load hi;have a2:=s2.adr Yh (k:= .i64) Fe;have d2:=s2.load Fe;apply Zf;intro b3 Z3;apply Zz;apply Zf;intro b4 Yx;apply Zh;simp[t16];subst Yx;apply Zf;intro b4 Yx;apply Rg (by kernel_rfl);simp[t1,t5,a1,a2,d1,d2,KG];subst Yx;by_cases TX:xs[i]=zs[i];·refine Za (t:=false) (by simp[TX]) ?_;apply Zn;subst Z3;apply Zh;simp[t16,YO (x:=i) (by omega)];apply Y0;refine⟨m-1,by omega,rfl,rfl,i+1,by omega,?_,by simp[t1],by simp[t5],by simp[t15],by simp⟩;rw[Xm hi,Xm Fe,he,TX]
   ·refine Za (t:=true) (by simp[TX]) ?_;apply Zf;intro b4 Yx;apply Zh;simp;subst Yx;apply Zq;have hd:xs≠zs:=by intro e;apply TX;subst e;rfl
    apply Y0;simp[Yq,Ye,TN,hd];exact k1
  ·refine Za (t:=false) (by simp[hi]) ?_;apply YQ;apply Y0;left;refine⟨rfl,?_⟩;obtain rfl:i=xs.length:=by omega
   have yd:xs=zs:=by rwa[List.take_length,hl,List.take_length]at he
   subst Ze;apply Zf;intro b4 Yx;apply Zh;simp;subst Yx;apply Zq;simp[yd];exact k1
 ·refine Za (t:=true) (by simp[hl]) ?_;apply Zf;intro b2 Zp;apply Zh;simp;subst Zp;apply Zq;have hd:xs≠zs:=fun e=>hl (by rw[e]);simp[Yq,hd];exact k1
theorem dU{H:AH}{v:Value}{ys:List Nat}(h:Sl H v ys):CW Tryz.prog Zu 19 [v] H fun v' H'=>H'=H/\v'= .bool (decide (ys.length=0)):=by refine Z2 6 Tryz.func19 ?_;have l1:=h.len ZC;apply Zb;intro b1 Ze;simp;subst Ze;apply Zb;intro b1 Ze;simp[l1,Wo];subst Ze;apply Zq;simp
theorem kN{H:AH}{v:Value}{ys:List Nat}(h:Sl H v ys)(i:Nat):CW Tryz.prog Zu 130 [v,.int .i64 (i:Int)] H fun v' H'=>H'=H/\v'= .int .u64 (nth ys i:Int):=by
 refine Z2 13 Tryz.func130 ?_;have l1:=h.len ZC;apply Zb;intro b1 Ze;simp;subst Ze;apply Zf;intro b1 Ze;apply Zb;intro b2 Zp;simp[l1];subst Zp;by_cases hi:i<ys.length;·refine Za (t:=true) (by simp[hi]) ?_;have a1:=h.adr ZC (k:= .i64) hi;have d1:=h.load hi;apply Zb;intro b2 Zp;simp[a1,d1];subst Zp;apply Zq;simp[Yq,XF hi]
 ·refine Za (t:=false) (by simp[hi]) ?_;apply Zn;subst Ze;apply Zb;intro b2 Zp;simp;subst Zp;apply Zq;simp[Uf (Nat.le_of_not_lt hi)]
theorem GQ{H:AH}{v:Value}{ys:List Nat}(h:Sl H v ys)(i:Nat):Zy Tryz.prog Zu 130 [v,.int .i64 (i:Int)] H=some (.int .u64 (nth ys i:Int),H):=by obtain⟨_,_,hc,rfl,rfl⟩:=kN h i;exact hc
theorem XW(B:Nat)(xs:List Nat)(i:Nat):dv B (xs.take (i+1))=dv B (xs.take i)+B^i*nth xs i:=by
 by_cases h:i<xs.length;·rw[Xm h,Yr,List.length_take,Nat.min_eq_left (by omega),XF h];simp[dv]
 ·rw[List.take_of_length_le (by omega),List.take_of_length_le (by omega),Uf (by omega),Nat.mul_zero,Nat.add_zero]
theorem Tc{B:Nat}{xs:List Nat}(h:YC B xs)(hB:0<B)(i:Nat):nth xs i<B:=by
 by_cases hi:i<xs.length;·rw[XF hi];exact h.get (List.getElem?_eq_getElem hi)
 ·rw[Uf (by omega)];exact hB
theorem Sz(B:Nat)(xs:List Nat)(j:Nat)(h:j<=xs.length):dv B xs=dv B (xs.take j)+B^j*dv B (xs.drop j):=by have:=congrArg (dv B) (List.take_append_drop j xs);rw[Yr,List.length_take,Nat.min_eq_left h]at this;exact this.symm
theorem PU{B:Nat}{xs:List Nat}{k:Nat}(hB:0<B)(h:dv B xs<B^k):dv B (xs.take k)=dv B xs:=by
 rcases Nat.lt_or_ge xs.length k with hk|hk;·rw[List.take_of_length_le (by omega)]
 ·have e:=Sz B xs k hk;have:dv B (xs.drop k)=0:=by
   rcases Nat.eq_zero_or_pos (dv B (xs.drop k))with h0|h0;·exact h0
   ·exfalso;have:B^k*1<=B^k*dv B (xs.drop k):=Nat.mul_le_mul_left _ h0;omega
  rw[this,Nat.mul_zero]at e;omega
theorem QL{B:Nat}(hB:2<=B){xs ys:List Nat}(hy:YT ys=ys)(dx:YC B xs)(dy:YC B ys)(h:xs.length<ys.length):dv B xs<dv B ys:=by
 have h1:=Ww dx;have e:ys=ds B (dv B ys):=by rw[<-Xo hB dy,hy]
 have TX:dv B ys≠0:=by intro h0;rw[h0,Xg]at e;rw[e]at h;simp at h
 have h2:=fT hB TX;rw[<-e]at h2;have h3:B^xs.length<=B^(ys.length-1):=Nat.pow_le_pow_right (by omega) (by omega);omega
theorem Yo.fill{n:Nat}{H:AH}{v:Value}{L:List Nat}{m:Nat}(h:Yo n H v (L++List.replicate (m+1) 0)){i:Nat}(hL:L.length=i)(y:Nat): ∃H',YX Tryz.prog H 101 (adr v i) (.int .u64 (y:Int))=some H'/\Yo n H' v ((L++[y])++List.replicate m 0)/\TF (Yw v) H H'/\KA n H H':=by obtain⟨H',h1,h2,h3,h4,h5⟩:=h.put (i:=i) (by simp;omega) y;refine⟨H',h1,?_,⟨h3,fun j _ hj=>h4 j hj⟩,h5⟩;rw[List.replicate_succ,Vd _ _ _ _ hL]at h2;simpa using h2
theorem L5{H:AH}{v w:Value}{xs ys:List Nat}(hv:Sl H v xs)(hw:Sl H w ys)(dx:YC Z5 xs)(dy:YC Z5 ys)(lx:xs.length<=17592186000000)(ly:ys.length<=17592186000000):CW Tryz.prog Zu 91 [v,w] H fun v' H'=>Zg H H'/\Yo H.n H' v' (ds Z5 (dv Z5 xs+dv Z5 ys)):=by
 refine Z2 44 Tryz.func91 ?_;have l1:=hv.len ZC;have l2:=hw.len ZC;obtain⟨n,hn⟩:=hid (max xs.length ys.length);obtain⟨c0,H1,QV,k1,o1,n1⟩:=YG (H:=H) ZC (n:=n+1) (by omega);apply Zb;intro b1 Ze;simp;subst Ze;apply Zb;intro b1 Ze;simp[l1];subst Ze;refine Xe (fun s'=>s'.k=44/\s'.H=H/\s'.tm.get 0=some v/\s'.tm.get 1=some w/\s'.tm.get 5=some (.int .i64 (n:Int))) ?_ ?_
 ·intro Q' Y0;apply Zb;intro b1 Ze;simp[l2,Vs];subst Ze;by_cases hc:xs.length<ys.length;·refine Za (t:=true) (by simp[hc]) ?_;apply Zh;simp[l2];apply Y0;exact⟨rfl,rfl,by simp,by simp,by simp;omega⟩
  ·refine Za (t:=false) (by simp[hc]) ?_;apply Zn;apply Y0;exact⟨rfl,rfl,by simp,by simp,by simp;omega⟩
 rintro⟨k,tm,H'⟩ ⟨hk,hH,t0,t1,t5⟩;simp only at hk hH t0 t1 t5;subst hk;subst hH;have hmk':VC Tryz.prog H' 37 (.int .i64 ((n+1:Nat):Int)) (.int .i64 ((n+1:Nat):Int))=some (c0,H1):=QV;apply Zb;intro b1 Ze;simp[t5,YO (x:=n) (by omega),hmk'];subst Ze;apply Zb;intro b1 Ze;simp;subst Ze;apply Zf;intro b1 Ze;apply Zb;intro b2 Zp;simp;subst Zp;apply Zz;refine YU (fun m s'=>s'.k=44/\Zg H' s'.H/\ ∃(i carry:Nat) (L:List Nat),m+i=n+1/\L.length=i/\carry<=1/\YC Z5 L/\dv Z5 L+Z5^i*carry=dv Z5 (xs.take i)+dv Z5 (ys.take i)/\Yo H'.n s'.H c0 (L++List.replicate m 0)/\s'.tm.get 0=some v/\s'.tm.get 1=some w/\s'.tm.get 5=some (.int .i64 (n:Int))/\s'.tm.get 6=some c0/\s'.tm.get 7=some (.int .u64 (carry:Int))/\s'.tm.get 8=some (.int .i64 (i:Int))) ?_ (n+1) _ ⟨rfl,k1,0,0,[],by omega,rfl,by omega,.nil _,by simp[dv],by simpa using o1,by simp[t0],by simp[t1],by simp[t5],by simp,by simp,by simp⟩;clear t0 t1 t5;rintro m ⟨k,tm,H2⟩ ⟨hk,kH,i,carry,L,M5,hL,hc,dL,heq,own,t0,t1,t5,t6,t7,t8⟩ Q' Y0;simp only at hk kH own t0 t1 t5 t6 t7 t8;subst hk;apply Zf;intro b3 Z3;apply Zb;intro b4 Yx;simp[t5,t8,Ok];subst Yx;by_cases hi:i<=n
 ·refine Za (t:=true) (by simp[hi]) ?_;apply Zn;subst Z3;obtain⟨m',rfl⟩: ∃m',m=m'+1:=⟨m-1,by omega⟩;have c1:=GQ (hv.keep kH) i;have c2:=GQ (hw.keep kH) i;have hx:nth xs i<4294967296:=Tc dx (by decide) i;have hy:nth ys i<4294967296:=Tc dy (by decide) i;have ex:=XW Z5 xs i;have ey:=XW Z5 ys i;obtain⟨x,Nj⟩:=hid (nth xs i);obtain⟨y,mR⟩:=hid (nth ys i);rw[<-Nj]at c1 hx ex;rw[<-mR]at c2 hy ey;have m1:Zc .add .u64 (x:Int) (y:Int)=some (.int .u64 ((x+y:Nat):Int)):=We (by show _<18446744073709551616;omega);have m2:Zc .add .u64 ((x+y:Nat):Int) (carry:Int)=some (.int .u64 ((x+y+carry:Nat):Int)):=We (by show _<18446744073709551616;omega);obtain⟨z,hz⟩:=hid (x+y+carry);rw[<-hz]at m2;have Bx:z<Zd:=by show z<18446744073709551616;omega
  obtain⟨H3,S5,RN,uX,M6⟩:=own.fill hL (z%4294967296);have a3:=own.sl.adr ZC (k:= .i64) (i:=i) (by simp;omega);apply Zf;intro b3 Z3;apply Zz;apply Zb;intro b4 Yx;simp[t0,t1,t7,t8,c1,c2,m1,m2];subst Yx;apply Zb;intro b4 Yx;simp[t6,t8,DC,a3,S5];subst Yx;apply Zh;simp[DM Bx];subst Z3;apply Zh;simp[t8,YO (x:=i) (by omega)];apply Y0;refine⟨m',by omega,rfl,M6 H' kH (Nat.le_refl _),i+1,z/4294967296,L++[z%4294967296],by omega,by simp[hL],by omega,dL.append (.cons (Nat.mod_lt _ (by decide)) (.nil _)),?_,RN,by simp[t0],by simp[t1],by simp[t5],by simp[t6],by simp,by simp⟩;rw[Yr,hL,ex,ey];simp only[dv,Nat.mul_zero,Nat.add_zero];have e1:Z5^i*(z%4294967296+4294967296*(z/4294967296))=Z5^i*(x+y+carry):=by rw[Nat.mod_add_div,hz]
  rw[Nat.mul_add,<-Nat.mul_assoc,show Z5^i*4294967296=Z5^(i+1)from rfl,Nat.mul_add,Nat.mul_add]at e1;omega
 ·refine Za (t:=false) (by simp[hi]) ?_;apply YQ;apply Y0;left;refine⟨rfl,?_⟩;obtain rfl:i=n+1:=by omega
  obtain rfl:m=0:=by omega
  simp at own;rw[List.take_of_length_le (by omega),List.take_of_length_le (by omega)]at heq;have RP:dv Z5 L=dv Z5 xs+dv Z5 ys:=by
   have h1:=Ww dx;have h2:=Ww dy;have h3:Z5^xs.length<=Z5^n:=Nat.pow_le_pow_right (by decide) (by omega);have h4:Z5^ys.length<=Z5^n:=Nat.pow_le_pow_right (by decide) (by omega);have h5:Z5^(n+1)=Z5^n*4294967296:=rfl;rcases Nat.lt_or_ge carry 1 with h0|h0
   ·obtain rfl:carry=0:=by omega
    rw[Nat.mul_zero]at heq;omega
   ·obtain rfl:carry=1:=by omega
    rw[Nat.mul_one]at heq;omega
  obtain⟨v5,H5,MA,e5,o5,_⟩:=VB own (by omega);subst e5;rw[Xo two32 dL,RP]at o5;subst Ze;apply Zb;intro b4 Yx;simp[t6,MA];subst Yx;apply Zq;simp;exact⟨kH,o5⟩
theorem Kb{H:AH}{v w:Value}{xs ys:List Nat}(hv:Sl H v xs)(hw:Sl H w ys)(dx:YC Z5 xs)(dy:YC Z5 ys)(lx:xs.length<=17592186000000)(hle:dv Z5 ys<=dv Z5 xs):CW Tryz.prog Zu 93 [v,w] H fun v' H'=>Zg H H'/\Yo H.n H' v' (ds Z5 (dv Z5 xs-dv Z5 ys)):=by
 refine Z2 39 Tryz.func93 ?_;have l1:=hv.len ZC;obtain⟨n,hn⟩:=hid (xs.length);rw[<-hn]at l1;obtain⟨c0,H1,QV,k1,o1,n1⟩:=YG (H:=H) ZC (n:=n) (by omega);apply Zb;intro b1 Ze;simp;subst Ze;apply Zb;intro b1 Ze;simp[l1,QV];subst Ze;apply Zb;intro b1 Ze;simp;subst Ze;apply Zf;intro b1 Ze;apply Zb;intro b2 Zp;simp[l1];subst Zp;apply Zz;refine YU (fun m s'=>s'.k=39/\Zg H s'.H/\ ∃(i SU:Nat) (L:List Nat),m+i=n/\L.length=i/\SU<=1/\YC Z5 L/\dv Z5 L+dv Z5 (ys.take i)=dv Z5 (xs.take i)+Z5^i*SU/\Yo H.n s'.H c0 (L++List.replicate m 0)/\s'.tm.get 0=some v/\s'.tm.get 1=some w/\s'.tm.get 5=some c0/\s'.tm.get 6=some (.int .u64 (SU:Int))/\s'.tm.get 13=some (.int .i64 (n:Int))/\s'.tm.get 14=some (.int .i64 (i:Int))) ?_ n _ ⟨rfl,k1,0,0,[],by omega,rfl,by omega,.nil _,by simp[dv],by simpa using o1,by simp,by simp,by simp,by simp,by simp,by simp⟩;rintro m ⟨k,tm,H2⟩ ⟨hk,kH,i,SU,L,M5,hL,hb,dL,heq,own,t0,t1,t5,t6,t13,t14⟩ Q' Y0;simp only at hk kH own t0 t1 t5 t6 t13 t14;subst hk;apply Zb;intro b3 Z3;simp[t13,t14];subst Z3;apply Zf;intro b3 Z3;by_cases hi:i<n
 ·refine Za (t:=true) (by simp[hi]) ?_;apply Zn;subst Z3;obtain⟨m',rfl⟩: ∃m',m=m'+1:=⟨m-1,by omega⟩;have UB:i<xs.length:=by omega
  have sv:=hv.keep kH;have a1:=sv.adr ZC (k:= .i64) UB;have d1:=sv.top.load UB;have c2:=GQ (hw.keep kH).top i;have hx:nth xs i<4294967296:=Tc dx (by decide) i;have hy:nth ys i<4294967296:=Tc dy (by decide) i;have ex:=XW Z5 xs i;have ey:=XW Z5 ys i;rw[<-XF UB]at d1;obtain⟨x,Nj⟩:=hid (nth xs i);obtain⟨y,mR⟩:=hid (nth ys i);rw[<-Nj]at d1 hx ex;rw[<-mR]at c2 hy ey;have m1:Zc .add .u64 (x:Int) 4294967296=some (.int .u64 ((x+4294967296:Nat):Int)):=We (y:=4294967296) (by show _<18446744073709551616;omega);have m2:Zc .sub .u64 ((x+4294967296:Nat):Int) (y:Int)=some (.int .u64 ((x+4294967296-y:Nat):Int)):=Su (by show _<18446744073709551616;omega) (by omega);have m3:Zc .sub .u64 ((x+4294967296-y:Nat):Int) (SU:Int)=some (.int .u64 ((x+4294967296-y-SU:Nat):Int)):=Su (by show _<18446744073709551616;omega) (by omega);obtain⟨z,hz⟩:=hid (x+4294967296-y-SU);rw[<-hz]at m3;have Bx:z<Zd:=by show z<18446744073709551616;omega
  have hz1:z/4294967296<=1:=by omega
  have m4:Zc .sub .u64 1 ((z/4294967296:Nat):Int)=some (.int .u64 ((1-z/4294967296:Nat):Int)):=Su (x:=1) (by decide) hz1;obtain⟨H3,S5,RN,uX,M6⟩:=own.fill hL (z%4294967296);have a3:=own.sl.adr ZC (k:= .i64) (i:=i) (by simp;omega);apply Zf;intro b3 Z3;apply Zz;apply Zb;intro b4 Yx;simp[t14];subst Yx;apply Zf;intro b4 Yx;apply NP (by kernel_rfl);simp[t0,t1,t6,a1,d1,c2,m1,m2,m3];subst Yx;apply Zb;intro b4 Yx;simp[t5,DC,a3,S5];subst Yx;apply Zh;simp[DM Bx,m4];subst Z3;apply Zh;simp[t14,YO (x:=i) (by omega)];apply Y0;refine⟨m',by omega,rfl,M6 H kH (Nat.le_refl _),i+1,1-z/4294967296,L++[z%4294967296],by omega,by simp[hL],by omega,dL.append (.cons (Nat.mod_lt _ (by decide)) (.nil _)),?_,RN,by simp[t0],by simp[t1],by simp[t5],by simp,by simp[t13],by simp⟩;rw[Yr,hL,ex,ey];simp only[dv,Nat.mul_zero,Nat.add_zero];have e0:z%4294967296+y+SU=x+4294967296*(1-z/4294967296):=by omega
  have e1:Z5^i*(z%4294967296+y+SU)=Z5^i*(x+4294967296*(1-z/4294967296)):=by rw[e0]
  rw[Nat.mul_add (Z5^i) x,<-Nat.mul_assoc,show Z5^i*4294967296=Z5^(i+1)from rfl,Nat.mul_add,Nat.mul_add]at e1;omega
 ·refine Za (t:=false) (by simp[hi]) ?_;apply YQ;apply Y0;left;refine⟨rfl,?_⟩;obtain rfl:i=n:=by omega
  obtain rfl:m=0:=by omega
  simp at own;have km:=Ww dx;rw[<-hn]at km;rw[List.take_of_length_le (l:=xs) (by omega),PU (by decide) (Nat.lt_of_le_of_lt hle km)]at heq;have RP:dv Z5 L=dv Z5 xs-dv Z5 ys:=by
   have h1:=Ww dL;rw[hL]at h1;rcases Nat.lt_or_ge SU 1 with h0|h0
   ·obtain rfl:SU=0:=by omega
    rw[Nat.mul_zero]at heq;omega
   ·obtain rfl:SU=1:=by omega
    rw[Nat.mul_one]at heq;omega
  obtain⟨v5,H5,MA,e5,o5,_⟩:=VB own (by omega);subst e5;rw[Xo two32 dL,RP]at o5;subst Ze;apply Zb;intro b4 Yx;simp[t5,MA];subst Yx;apply Zq;simp;exact⟨kH,o5⟩
theorem Rt{va vb:Value}{xs ys:List Nat}{H:AH}(s1:Sl H va xs)(s2:Sl H vb ys)(dx:YC Z5 xs)(dy:YC Z5 ys)(tx:YT xs=xs)(ty:YT ys=ys)(lx:xs.length<=17592186044416)(ly:ys.length<=17592186044416):CW Tryz.prog Zu 60 [va,vb] H fun v H'=>H'=H/\v= .int .i64 (XR (dv Z5 xs) (dv Z5 ys)):=by
 refine Z2 41 Tryz.func60 ?_;have l1:=s1.len ZC;have l2:=s2.len ZC;apply Zb;intro b1 Ze;simp;subst Ze;apply Zf;intro b1 Ze;apply Zb;intro b2 Zp;simp[l1,l2,KG];subst Zp;by_cases hl:xs.length=ys.length
 ·refine Za (t:=false) (by simp[hl]) ?_;apply Zn;subst Ze;apply Zf;intro b1 Ze;apply Zf;intro b2 Zp;have w1:Zc .sub .i64 (xs.length:Int) 1=some (.int .i64 ((xs.length:Int)-1)):=by show some (Value.int .i64 (IntKind.i64.wrap ((xs.length:Int)-1)))=_;congr 2;rw[IntKind.wrap_i64];omega
  apply Zh;simp[l1,w1];subst Zp;apply Zz;refine YU (fun n s=>s.k=41/\s.H=H/\s.tm.get 0=some va/\s.tm.get 1=some vb/\s.tm.get 5=some (.int .i64 ((n:Int)-1))/\n<=xs.length/\xs.drop n=ys.drop n) ?_ xs.length _ ⟨rfl,rfl,by simp,by simp,by simp,Nat.le_refl _,by rw[List.drop_length,hl,List.drop_length]⟩;rintro n ⟨k,tm,H'⟩ ⟨h2,h3,h4,h5,h6,h7,h8⟩ Q' Y0;simp only at h2 h3 h4 h5 h6;subst h2;subst h3;have SL:Zc .geq .i64 ((n:Int)-1) 0=some (.bool (decide (0<n))):=by show some (Value.bool (decide ((n:Int)-1≥0)))=_;congr 2;apply decide_eq_decide.mpr;omega
  apply Zf;intro b2 Zp;apply Zb;intro b3 Z3;simp[h6,SL];subst Z3;by_cases hz:n=0
  ·subst hz;refine Za (t:=false) (by simp) ?_;apply YQ;apply Y0;left;refine⟨rfl,?_⟩;subst Ze;apply Zb;intro b4 Yx;simp;subst Yx;apply Zq;have:xs=ys:=by simpa using h8
   simp[XR,this]
  ·have e:(n:Int)-1=((n-1:Nat):Int):=by omega
   refine Za (t:=true) (by simp;omega) ?_;apply Zn;subst Zp;have i1:n-1<xs.length:=by omega
   have i2:n-1<ys.length:=by omega
   have a1:=s1.adr ZC (k:= .i64) i1;have a2:=s2.adr ZC (k:= .i64) i2;have d1:=s1.load i1;have d2:=s2.load i2;rw[e]at h6;have sx:xs=xs.take (n-1)++xs[n-1]::xs.drop n:=by have:=List.take_append_drop (n-1) xs;rw[List.drop_eq_getElem_cons i1,show n-1+1=n by omega]at this;exact this.symm
   have sy:ys=ys.take (n-1)++ys[n-1]::ys.drop n:=by have:=List.take_append_drop (n-1) ys;rw[List.drop_eq_getElem_cons i2,show n-1+1=n by omega]at this;exact this.symm
   have zT:(xs.take (n-1)).length=(ys.take (n-1)).length:=by simp[List.length_take,hl]
   apply Zf;intro b4 Yx;apply Zz;apply Zf;intro b5 Sh;apply Zf;intro b6 PH;apply Rg (by kernel_rfl);simp[h4,h5,h6,a1,a2,d1,d2];subst PH;by_cases YP:xs[n-1]<ys[n-1]
   ·refine Za (t:=true) (by simp;omega) ?_;apply Zb;intro b7 mh;simp;subst mh;apply Zq;have hd:dv Z5 xs<dv Z5 ys:=by rw[sx,sy,h8];exact GI (dx.take _) (dy.take _) zT YP _
    apply Y0;simp[Yq,Ye,TN,XR,hd]
   ·refine Za (t:=false) (by simp;omega) ?_;apply Zn;subst Sh;apply Zf;intro b6 PH;apply Rg (by kernel_rfl);simp[h4,h5,h6,a1,a2,d1,d2,Vs];subst PH;by_cases yo:ys[n-1]<xs[n-1]
    ·refine Za (t:=true) (by simp;omega) ?_;apply Zb;intro b7 mh;simp;subst mh;apply Zq;have hd:dv Z5 ys<dv Z5 xs:=by rw[sx,sy,h8];exact GI (dy.take _) (dx.take _) zT.symm yo _
     have Iv: ¬dv Z5 xs<dv Z5 ys:=by omega
     apply Y0;simp[Yq,Ye,TN,XR,hd,Iv]
    ·refine Za (t:=false) (by simp;omega) ?_;apply Zn;subst Yx;have Mf:Zc .sub .i64 ((n-1:Nat):Int) 1=some (.int .i64 (((n-1:Nat):Int)-1)):=by show some (Value.int .i64 (IntKind.i64.wrap (((n-1:Nat):Int)-1)))=_;congr 2;rw[IntKind.wrap_i64];omega
     apply Zh;simp[h6,Mf];apply Y0;refine⟨n-1,by omega,rfl,rfl,?_⟩;simp[h4,h5];refine⟨by omega,?_⟩;rw[List.drop_eq_getElem_cons i1,List.drop_eq_getElem_cons i2,show n-1+1=n by omega,h8];congr 1;omega
 ·refine Za (t:=true) (by simp;omega) ?_;apply Zf;intro b2 Zp;apply Zb;intro b3 Z3;simp[l1,l2];subst Z3;by_cases YP:xs.length<ys.length;·refine Za (t:=true) (by simp;omega) ?_;apply Zb;intro b3 Z3;simp;subst Z3;apply Zq;have:=QL two32 ty dx dy YP;simp[Yq,XR,this]
  ·refine Za (t:=false) (by simp;omega) ?_;apply Zn;subst Zp;apply Zb;intro b2 Zp;simp;subst Zp;apply Zq;have:=QL two32 tx dy dx (by omega);have h2: ¬dv Z5 xs<dv Z5 ys:=by omega
   simp[Yq,XR,this,h2]
theorem KD{x y:Nat}(hx:x<9223372036854775808)(hy:0<y):Zc .quo .i64 (x:Int) (y:Int)=some (.int .i64 ((x/y:Nat):Int)):=by
 have hle:x/y<=x:=Nat.div_le_self x y;have h0: ¬ ((y:Int)=0):=by omega
 have e:IntKind.i64.wrap ((x:Int).tdiv (y:Int))=((x/y:Nat):Int):=by rw[IntKind.wrap_i64,Int.tdiv_eq_ediv_of_nonneg (by omega),<-Int.natCast_ediv];generalize x/y=q at*;omega
 show(if(y:Int)=0 then none else some (Value.int .i64 (IntKind.i64.wrap ((x:Int).tdiv (y:Int)))))=_;rw[if_neg h0,e]
theorem aU{x y:Nat}(hy:0<y):Zc .rem .i64 (x:Int) (y:Int)=some (.int .i64 ((x%y:Nat):Int)):=by
 have h0: ¬ ((y:Int)=0):=by omega
 have e:(x:Int).tmod (y:Int)=((x%y:Nat):Int):=by rw[Int.tmod_eq_emod_of_nonneg (by omega),<-Int.natCast_emod]
 show(if(y:Int)=0 then none else some (Value.int .i64 ((x:Int).tmod (y:Int))))=_;rw[if_neg h0,e]
theorem tK{x:Nat}(hx:x<9223372036854775808):Zc .quo .i64 (x:Int) 32=some (.int .i64 ((x/32:Nat):Int)):=KD (y:=32) hx (by decide)
theorem tJ{x:Nat} :Zc .rem .i64 (x:Int) 32=some (.int .i64 ((x%32:Nat):Int)):=aU (y:=32) (by decide)
theorem w6{x c s:Nat}(hx:x<Z5)(hs:s<32)(hc:c<2^s):x*2^s%Z5+c<Z5/\x*2^s/Z5<2^s/\x*2^s=x*2^s%Z5+Z5*(x*2^s/Z5)/\x*2^s<Zd:=by
 have e:Z5=2^(32-s)*2^s:=by rw[<-Nat.pow_add,show 32-s+s=32 by omega]
 have hp:=Nat.two_pow_pos s;refine⟨?_,?_,(Nat.mod_add_div _ _).symm,?_⟩
 ·have e1:x*2^s%Z5=x%2^(32-s)*2^s:=by rw[e,Nat.mul_mod_mul_right]
  have h2:x%2^(32-s)<2^(32-s):=Nat.mod_lt _ (Nat.two_pow_pos _);rw[e1];have:(x%2^(32-s)+1)*2^s<=2^(32-s)*2^s:=Nat.mul_le_mul_right _ h2;rw[<-e,Nat.succ_mul]at this;omega
 ·rw[Nat.div_lt_iff_lt_mul (by decide),Nat.mul_comm];exact Nat.mul_lt_mul_of_pos_left hx hp
 ·have h1:2^s<=2^32:=Nat.pow_le_pow_right (by decide) (by omega);have h2:x*2^s<=4294967295*2^32:=Nat.mul_le_mul (by have:x<4294967296:=hx;omega) h1;show _<18446744073709551616;omega
theorem P4{H:AH}{v:Value}{xs:List Nat}(hv:Sl H v xs)(dx:YC Z5 xs)(lx:xs.length<=8000000000000){n:Nat}(hn:n<=8000000000000):CW Tryz.prog Zu 92 [v,.int .i64 (n:Int)] H fun v' H'=>Zg H H'/\Yo H.n H' v' (ds Z5 (dv Z5 xs*2^n)):=by
 refine Z2 55 Tryz.func92 ?_;have l1:=hv.len ZC;apply Zb;intro b1 Ze;simp;subst Ze;apply Zf;intro b1 Ze;apply Zb;intro b2 Zp;simp[l1,Wo];subst Zp;by_cases h0:xs.length=0;·obtain rfl:xs=[]:=List.length_eq_zero_iff.mp h0;refine Za (t:=true) (by simp) ?_;apply Zb;intro b2 Zp;simp;subst Zp;apply Zq;simp[Yq,dv,Xg];exact⟨.refl H,.nil⟩
 ·refine Za (t:=false) (by simp;intro h;exact h0 (by rw[h];rfl)) ?_;apply Zn;subst Ze;obtain⟨w,hw⟩:=hid (n/32);obtain⟨s,hs⟩:=hid (n%32);have hs32:s<32:=by omega
  have hnw:n=32*w+s:=by omega
  have q1:Zc .quo .i64 (n:Int) 32=some (.int .i64 (w:Int)):=by rw[hw];exact tK (by omega)
  have q2:Zc .rem .i64 (n:Int) 32=some (.int .i64 (s:Int)):=by rw[hs];exact tJ
  have q3:Zc .add .i64 (xs.length:Int) (w:Int)=some (.int .i64 ((xs.length+w:Nat):Int)):=Va (by omega);obtain⟨c0,H1,QV,k1,o1,n1⟩:=YG (H:=H) ZC (n:=xs.length+w+1) (by omega);apply Zb;intro b1 Ze;simp[l1,q1,q3,YO (x:=xs.length+w) (by omega),QV];subst Ze;apply Zb;intro b1 Ze;simp[q2];subst Ze;apply Zf;intro b1 Ze;apply Zb;intro b2 Zp;simp[l1];subst Zp;apply Zz;refine YU (fun m s'=>s'.k=55/\Zg H s'.H/\ ∃(i c:Nat) (L:List Nat),m+i=xs.length/\L.length=i/\c<2^s/\YC Z5 L/\dv Z5 L+Z5^i*c=dv Z5 (xs.take i)*2^s/\Yo H.n s'.H c0 ((List.replicate w 0++L)++c::List.replicate m 0)/\s'.tm.get 1=some (.int .i64 (n:Int))/\s'.tm.get 5=some c0/\s'.tm.get 6=some (.int .i64 (s:Int))/\s'.tm.get 21=some v/\s'.tm.get 22=some (.int .i64 (xs.length:Int))/\s'.tm.get 23=some (.int .i64 (i:Int))) ?_ xs.length _ ⟨rfl,k1,0,0,[],by omega,rfl,Nat.two_pow_pos s,.nil _,by simp[dv],by
   have e:List.replicate (xs.length+w+1) 0=(List.replicate w 0++[])++0::List.replicate xs.length 0:=by rw[List.append_nil,<-List.replicate_succ,List.replicate_append_replicate];congr 1;omega
   rw[<-e];exact o1,by simp,by simp,by simp,by simp,by simp,by simp⟩;rintro m ⟨k,tm,H2⟩ ⟨hk,kH,i,c,L,M5,hL,hc,dL,heq,own,t1,t5,t6,t21,t22,t23⟩ Q' Y0;simp only at hk kH own t1 t5 t6 t21 t22 t23;subst hk;apply Zb;intro b3 Z3;simp[t22,t23];subst Z3;apply Zf;intro b3 Z3;by_cases hi:i<xs.length
  ·refine Za (t:=true) (by simp[hi]) ?_;apply Zn;subst Z3;obtain⟨m',rfl⟩: ∃m',m=m'+1:=⟨m-1,by omega⟩;have sv:=hv.keep kH;have a1:=sv.adr ZC (k:= .i64) hi;have d1:=sv.load hi;have hx:xs[i]<Z5:=dx.get (List.getElem?_eq_getElem hi);obtain⟨x,Nj⟩:=hid (xs[i]);rw[<-Nj]at d1 hx;obtain⟨f1,f2,f3,f4⟩:=w6 hx hs32 hc;obtain⟨p,hp⟩:=hid (x*2^s);rw[<-hp]at f1 f2 f3 f4;have m1:Y4 .shl .u64 (x:Int) (s:Int)=some (.int .u64 (p:Int)):=by rw[Sr (by omega),<-hp,Nat.mod_eq_of_lt f4]
   have m2:Zc .add .i64 (i:Int) (w:Int)=some (.int .i64 ((i+w:Nat):Int)):=Va (by omega);have lp:(List.replicate w 0++L).length=i+w:=by simp[hL];omega
   have m3:Zc .add .u64 (c:Int) ((p%4294967296:Nat):Int)=some (.int .u64 ((p%4294967296+c:Nat):Int)):=by rw[We (by rw[Nat.add_comm];exact eG f1),Nat.add_comm]
   have a2:=own.sl.adr ZC (k:= .i64) (i:=i+w) (by simp[hL];omega);have d2:=own.sl.load (i:=i+w) (by simp[hL];omega);rw[N4 _ _ _ lp]at d2;obtain⟨H3,S5,RN,n3,uX,M6⟩:=own.put (i:=i+w) (by simp[hL];omega) (p%4294967296+c);rw[Vd _ _ _ _ lp]at RN;have a3:=RN.sl.adr ZC (k:= .i64) (i:=i+w+1) (by simp[hL];omega);obtain⟨H4,WW,VM,n4,qD,VO⟩:=RN.put (i:=i+w+1) (by simp[hL];omega) (p/4294967296);have R7:(List.replicate w 0++L++(p%4294967296+c)::List.replicate (m'+1) 0).set (i+w+1) (p/4294967296)=(List.replicate w 0++(L++[p%4294967296+c]))++(p/4294967296)::List.replicate m' 0:=by rw[show List.replicate w 0++L++(p%4294967296+c)::List.replicate (m'+1) 0=(List.replicate w 0++(L++[p%4294967296+c]))++0::List.replicate m' 0 by simp[List.replicate_succ]];exact Vd _ _ _ _ (by simp[hL];omega)
   rw[R7]at VM;apply Zf;intro b3 Z3;apply Zz;apply Zb;intro b4 Yx;simp[t21,t23,a1,d1];subst Yx;apply Zf;intro b4 Yx;apply oG (by kernel_rfl);simp[t1,t5,t6,q1,m1,m2,m3,a2,d2,DC,S5];subst Yx;apply Zh;simp[t1,t5,t6,q1,m1,m2,YO (x:=i+w) (by omega),a3,DM f4,WW];subst Z3;apply Zh;simp[t23,YO (x:=i) (by omega)];apply Y0;refine⟨m',by omega,rfl,VO H (M6 H kH (Nat.le_refl _)) (Nat.le_refl _),i+1,p/4294967296,L++[p%4294967296+c],by omega,by simp[hL],f2,dL.append (.cons f1 (.nil _)),?_,VM,by simp[t1],by simp[t5],by simp[t6],by simp[t21],by simp[t22],by simp⟩;rw[Yr,hL,Xm hi,Yr,List.length_take,Nat.min_eq_left (by omega),<-Nj];simp only[dv,Nat.mul_zero,Nat.add_zero];rw[Nat.add_mul,<-heq,Nat.mul_assoc (Z5^i) x,<-hp];have e1:Z5^i*p=Z5^i*(p%Z5+Z5*(p/Z5)):=by rw[<-f3]
   rw[Nat.mul_add,<-Nat.mul_assoc,show Z5^i*Z5=Z5^(i+1)from rfl]at e1;have e2:Z5^i*(p%4294967296+c)=Z5^i*(p%Z5)+Z5^i*c:=Nat.mul_add _ _ _;have e3:Z5^(i+1)*(p/4294967296)=Z5^(i+1)*(p/Z5):=rfl;omega
  ·refine Za (t:=false) (by simp[hi]) ?_;apply YQ;apply Y0;left;refine⟨rfl,?_⟩;obtain rfl:i=xs.length:=by omega
   obtain rfl:m=0:=by omega
   rw[List.take_length]at heq;obtain⟨v5,H5,MA,e5,o5,_⟩:=VB own (by simp[hL];omega);subst e5;have dall:YC Z5 ((List.replicate w 0++L)++[c]):=by
    refine YC.append (YC.append ?_ dL) (.cons ?_ (.nil _));·intro x hx;rw[List.eq_of_mem_replicate hx];decide
    ·exact Nat.lt_of_lt_of_le hc (by show 2^s<=2^32;exact Nat.pow_le_pow_right (by decide) (by omega))
   have hval:dv Z5 ((List.replicate w 0++L)++[c])=dv Z5 xs*2^n:=by rw[List.append_assoc,Yr,Yr,U5,List.length_replicate,hL];simp only[dv,Nat.mul_zero,Nat.add_zero];rw[heq,Nat.zero_add,hnw,Nat.pow_add,Nat.pow_mul];show Z5^w*(dv Z5 xs*2^s)=dv Z5 xs*(Z5^w*2^s);rw[Nat.mul_left_comm]
   simp only[List.replicate_zero]at o5;rw[Xo two32 dall,hval]at o5;subst Ze;apply Zb;intro b4 Yx;simp[t5,MA];subst Yx;apply Zq;simp;exact⟨kH,o5⟩
end
end
end Go.Proofs.YtmkfecoeghokfaaGreatDoor
