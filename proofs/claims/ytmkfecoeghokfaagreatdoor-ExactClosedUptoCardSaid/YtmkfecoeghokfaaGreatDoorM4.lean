/-
  The engine and the walks that the claim's last text leans on, part 4 of 9: Nk, Nq, Nl, Nm, Nr, EvS, Ns, Nt, Nu, Nv, Nw, Nx, Oa, Ob, Oc, Od, Oe, Of, Og, Ta, Tb.
-/
import Derived.Test.YtmkfecoeghokfaaGreatDoorM3
namespace Go.Proofs.YtmkfecoeghokfaaGreatDoor
open Go Ev
set_option linter.unusedVariables false
set_option linter.unusedSimpArgs false
noncomputable section
set_option maxRecDepth 20000
set_option maxHeartbeats 1000000
def nth(xs:List Nat)(i:Nat):Nat:=xs[i]?.getD 0
theorem Vm{xs:List Nat}{i:Nat}(h:i<xs.length):nth xs i=xs[i]:=by unfold nth;rw[List.getElem?_eq_getElem h];rfl
theorem Gx{xs:List Nat}{i:Nat}(h:xs.length≤i):nth xs i=0:=by unfold nth;rw[List.getElem?_eq_none h];rfl
section
attribute [-simp] Int.natCast_add Int.natCast_mul Int.natCast_ediv Int.natCast_emod Int.natCast_pow
attribute [local simp] strip Yd LW' gW Yf Xh Ya Xi Yo Xj Zr Zs Zh Yp Yy Yk Yq Zi Xa Ze opd Qe Ym plain Yj Tr.get_set Qc Zp Xy Yc sameKind undef Zt Yr Yv Zk Jg Jf Yb parts Jc
theorem down_spec{v:Value}{xs:List Nat}{H:AH}(hs:Sl H v xs)(dx:Dig B64 xs)(hlen:xs.length≤17592186044000){s:Nat}(h64:s<64):CW Tryz.prog Zo 219 [v,.int .u64 (s:Int)] H fun v' H'=>Keep H H'∧Own H.n H' v' (ds B64 (dv B64 xs/2^s)):=by
 refine Zl 47 (by decide) (by decide) Tryz.func219 rfl rfl ?_;obtain⟨c0,H1,hmk,k1,o1,n1⟩:=Qj (H:=H) Zk (n:=xs.length) (by omega);have l0:=hs.len Zk;apply Zb;intro b1 hb1;apply Za;simp;subst hb1;apply Zb;intro b1 hb1;apply Za;simp[l0,hmk];subst hb1;apply Zb;intro b1 hb1;apply Zb;intro b2 hb2;apply Za;simp[l0];subst hb2;apply Zx;refine Qg (fun m s'=>s'.k=47∧ ∃(i:Nat) (L:List Nat),m+i=xs.length∧L.length=i∧Dig B64 L∧dv B64 L*2^s+nth xs 0%2^s=dv B64 (xs.take i)+B64^i*(nth xs i%2^s)∧Keep H s'.H∧Own H.n s'.H c0 (L++List.replicate m 0)∧s'.tm.get 0=some v∧s'.tm.get 1=some (.int .u64 (s:Int))∧s'.tm.get 5=some c0∧s'.tm.get 11=some v∧s'.tm.get 12=some (.int .i64 (xs.length:Int))∧s'.tm.get 13=some (.int .i64 (i:Int))) ?_ xs.length _ ⟨rfl,0,[],by omega,rfl,.nil _,by simp[dv],k1,o1,by simp,by simp,by simp,by simp,by simp,by simp⟩;rintro m ⟨k,tm,H2⟩ ⟨hk,i,L,hmi,hL,dL,hv,kH,own,t0,t1,t5,t11,t12,t13⟩ Q' hQ';simp only at hk t0 t1 t5 t11 t12 t13 kH own;subst hk;apply Zb;intro b3 hb3;apply Za;simp[t12,t13];subst hb3;apply Zb;intro b3 hb3;by_cases hi:i<xs.length
 ·refine Zc (t:=true) (by simp[hi]) ?_;apply Zj;subst hb3;have s2:=hs.keep kH;have a1:=s2.adr Zk (k:= .i64) hi;have d1:=s2.load hi;have hx:xs[i]<B64:=dx.get (List.getElem?_eq_getElem hi);obtain⟨m',rfl⟩: ∃m',m=m'+1:=⟨m-1,by omega⟩;have own':Own H.n H2 c0 (L++0::List.replicate m' 0):=by rw[List.replicate_succ]at own;exact own
  have a2:=own'.sl.adr Zk (k:= .i64) (i:=i) (by simp;omega);have hq:xs[i]/2^s<2^(64-s):=by rw[Nat.div_lt_iff_lt_mul (Nat.two_pow_pos _),←Nat.pow_add,show 64-s+s=64 by omega];exact hx
  have hqB:xs[i]/2^s<B64:=Nat.lt_of_lt_of_le hq (by show _≤2^64;exact Nat.pow_le_pow_right (by decide) (by omega));obtain⟨H3,st1,own3,n3,kp3⟩:=own'.store (i:=i) (by simp;omega) (xs[i]/2^s);rw[Ks L 0 _ _ hL]at own3;have kH3:=kp3 H kH (Nat.le_refl _);apply Zb;intro b3 hb3;have low:nth xs (i+1)%2^s<2^s:=Nat.mod_lt _ (Nat.two_pow_pos _);have e64:2^s*2^(64-s)=B64:=by rw[←Nat.pow_add,show s+(64-s)=64 by omega]
  have fin: ∀(tm4:Tr Value)(H4:AH),Keep H H4→Own H.n H4 c0 (L++(nth xs (i+1)%2^s*2^(64-s)+xs[i]/2^s)::List.replicate m' 0)→tm4.get 0=some v→tm4.get 1=some (.int .u64 (s:Int))→tm4.get 5=some c0→tm4.get 11=some v→tm4.get 12=some (.int .i64 (xs.length:Int))→tm4.get 13=some (.int .i64 (i:Int))→W Tryz.prog Zo b3 ⟨47,tm4,H4⟩ Q':=fun tm4 H4 k4 o4 q0 q1 q5 q11 q12 q13=>by
   subst hb3;apply Za;simp[q13,Qd (x:=i) (by omega)];apply hQ';refine⟨m',by omega,rfl,i+1,L++[nth xs (i+1)%2^s*2^(64-s)+xs[i]/2^s],by omega,by simp[hL],?_,?_,k4,by simpa using o4,by simp[q0],by simp[q1],by simp[q5],by simp[q11],by simp[q12],by simp⟩;·refine dL.append (.cons ?_ (.nil _));have:(nth xs (i+1)%2^s+1)*2^(64-s)≤2^s*2^(64-s):=Nat.mul_le_mul_right _ low;rw[e64,Nat.succ_mul]at this;omega
   ·rw[Xc,hL,Qx hi,Xc,List.length_take,Nat.min_eq_left (by omega)];simp only[dv,Nat.mul_zero,Nat.add_zero];rw[Vm hi]at hv;have e1:2^s*(xs[i]/2^s)+xs[i]%2^s=xs[i]:=Nat.div_add_mod _ _;generalize nth xs (i+1)%2^s=u at*;generalize hr:xs[i]%2^s=r at*;generalize hqq:xs[i]/2^s=q at*;have e2:(u*2^(64-s)+q)*2^s=B64*u+2^s*q:=by rw[Nat.add_mul,Nat.mul_assoc,Nat.mul_comm (2^(64-s)),e64,Nat.mul_comm u,Nat.mul_comm q]
    have e3:B64^i*xs[i]=B64^i*(2^s*q)+B64^i*r:=by rw[←Nat.mul_add,e1]
    rw[Nat.add_mul,Nat.mul_assoc (B64^i),e2,Nat.mul_add,e3,Nat.pow_succ,Nat.mul_assoc (B64^i) B64 u];omega
  apply Zx;apply Zb;intro b4 hb4;apply Za;simp[t11,t13,a1,d1];subst hb4;apply Zb;intro b4 hb4;apply Za;simp[t1,t5,t13,Cr (x:=xs[i]) (s:=s) (by omega),a2,st1];subst hb4;apply Zb;intro b4 hb4;apply Za;simp[t0,l0,Qd (x:=i) (by omega)];subst hb4;by_cases hi2:i+1<xs.length
  ·refine Zc (t:=true) (by simp[hi2]) ?_;have s3:=hs.keep kH3;have a4:=s3.adr Zk (k:= .i64) hi2;have d4:=s3.load hi2;have a5:=own3.sl.adr Zk (k:= .i64) (i:=i) (by simp;omega);have d5:=own3.sl.load (i:=i) (by simp;omega);rw[get_mid L _ _ hL]at d5;have hx1:xs[i+1]<B64:=dx.get (List.getElem?_eq_getElem hi2);have n1:nth xs (i+1)=xs[i+1]:=Vm hi2;have sb:Zd .sub .u64 63 (s:Int)=some (.int .u64 ((63-s:Nat):Int)):=Zf3 (x:=63) (by decide) (by omega);have sh1:Ql .shl .u64 (xs[i+1]:Int) 1=some (.int .u64 ((xs[i+1]*2%B64:Nat):Int)):=Aw (s:=1) (by omega);have em:xs[i+1]*2%B64*2^(63-s)%B64=nth xs (i+1)%2^s*2^(64-s):=by rw[n1,Nat.mod_mul_mod,Nat.mul_assoc,show 2*2^(63-s)=2^(64-s) by rw[←Nat.pow_succ',show(63-s).succ=64-s by omega],←e64,Nat.mul_mod_mul_right]
   have sh2:Ql .shl .u64 ((xs[i+1]*2%B64:Nat):Int) ((63-s:Nat):Int)=some (.int .u64 ((nth xs (i+1)%2^s*2^(64-s):Nat):Int)):=by rw[Aw (by omega),em]
   have hwB:nth xs (i+1)%2^s*2^(64-s)<B64:=by rw[←em];exact Nat.mod_lt _ (by decide)
   have hor:xs[i]/2^s|||nth xs (i+1)%2^s*2^(64-s)=nth xs (i+1)%2^s*2^(64-s)+xs[i]/2^s:=by rw[Nat.or_comm,or_add hq]
   obtain⟨H4,st4,own4,n4,kp4⟩:=own3.store (i:=i) (by simp;omega) (nth xs (i+1)%2^s*2^(64-s)+xs[i]/2^s);rw[Ks L _ _ _ hL]at own4;apply W_mem (by kernel_rfl);simp[t0,t1,t5,a4,d4,a5,d5,Qd (x:=i) (by omega),sb,sh1,sh2,or_u64 hqB hwB,hor,st4];exact fin _ _ (kp4 H kH3 (Nat.le_refl _)) own4 (by simp[t0]) (by simp[t1]) (by simp[t5]) (by simp[t11]) (by simp[t12]) (by simp[t13])
  ·refine Zc (t:=false) (by simp[hi2]) ?_;apply Zj;have n0:nth xs (i+1)=0:=Gx (by omega);exact fin _ _ kH3 (by rw[n0];simpa using own3) (by simp[t0]) (by simp[t1]) (by simp[t5]) (by simp[t11]) (by simp[t12]) (by simp[t13])
 ·refine Zc (t:=false) (by simp[hi]) ?_;apply Qf;apply hQ';left;refine⟨rfl,?_⟩;obtain rfl:m=0:=by omega
  have hi':i=xs.length:=by omega
  obtain⟨v5,H5,hc5,k5,o5⟩:=Uw own.sl (by simp;omega);subst hb1;apply Zb;intro b4 hb4;apply Za;simp[t5,hc5];subst hb4;apply Zn;simp;refine⟨kH.trans k5,?_⟩;have e:dv B64 xs/2^s=dv B64 L:=by rw[hi',Gx (Nat.le_refl _),List.take_length,Nat.zero_mod,Nat.mul_zero,Nat.add_zero]at hv;rw[←hv,Nat.add_comm,Nat.add_mul_div_right _ _ (Nat.two_pow_pos _),Nat.div_eq_of_lt (Nat.mod_lt _ (Nat.two_pow_pos _)),Nat.zero_add]
  rw[e,←Ji Zz dL];have o5':Own H2.n H5 v5 (Xl L):=by simpa using o5
  exact o5'.mono kH.n (.refl H5)
end
end
end Go.Proofs.YtmkfecoeghokfaaGreatDoor
namespace Go.Proofs.YtmkfecoeghokfaaGreatDoor
set_option linter.unusedVariables false
set_option maxHeartbeats 1000000
theorem est_num{b y1 y0 u d q r:Nat}(hq:q*y1+r=u):u*b+d=q*(y1*b)+(b*r+d):=by rw[←hq,Nat.add_mul,Nat.mul_assoc,Nat.mul_comm r b];omega
theorem est_true{b y1 y0 u d q r:Nat}(hq:q*y1+r=u)(hu:u<y1*b+y0)(hd:d<b)(ht:b≤q∨b*r+d<q*y0):(u*b+d)/(y1*b+y0)<q:=by
 have hy:0<y1*b+y0:=by omega
 rw[Nat.div_lt_iff_lt_mul hy];rcases ht with ht|ht;·have h1:(u+1)*b≤(y1*b+y0)*b:=Nat.mul_le_mul_right _ hu;have h2:b*(y1*b+y0)≤q*(y1*b+y0):=Nat.mul_le_mul_right _ ht;rw[Nat.succ_mul]at h1;rw[Nat.mul_comm b]at h2;omega
 ·rw[est_num (y0:=y0) (d:=d) (b:=b) hq,Nat.mul_add];omega
theorem est_false{b y1 y0 u d q r:Nat}(hq:q*y1+r=u)(hy:0<y1*b+y0)(ht:q*y0≤b*r+d):q≤(u*b+d)/(y1*b+y0):=by rw[Nat.le_div_iff_mul_le hy,est_num (y0:=y0) (d:=d) (b:=b) hq,Nat.mul_add];omega
theorem est_first{b y1 y0 u d:Nat}(h1:0<y1)(hd:d<b):(u*b+d)/(y1*b+y0)≤u/y1:=by
 have hb:0<b:=by omega
 have hy:0<y1*b+y0:=by have:=Nat.mul_pos h1 hb;omega
 have h2:(u*b+d)/(y1*b+y0)≤(u*b+d)/(y1*b):=by rw[Nat.le_div_iff_mul_le (Nat.mul_pos h1 hb)];have:=Nat.div_mul_le_self (u*b+d) (y1*b+y0);rw[Nat.mul_add]at this;omega
 have h3:(u*b+d)/(y1*b)=u/y1:=by rw[Nat.mul_comm y1 b,←Nat.div_div_eq_div_mul,Nat.add_comm,Nat.add_mul_div_right _ _ hb,Nat.div_eq_of_lt hd,Nat.zero_add]
 omega
theorem est_small{b y1 y0 u:Nat}(h1:b≤2*y1)(h0:y0<b)(hu:u<y1*b+y0)(hp:0<y1):u/y1≤b+1:=by
 have:u/y1<b+2:=by rw[Nat.div_lt_iff_lt_mul hp,Nat.add_mul,Nat.mul_comm b y1];omega
 omega
end Go.Proofs.YtmkfecoeghokfaaGreatDoor
namespace Go.Proofs.YtmkfecoeghokfaaGreatDoor
open Go Ev
set_option linter.unusedVariables false
set_option linter.unusedSimpArgs false
noncomputable section
set_option maxRecDepth 20000
set_option maxHeartbeats 1000000
theorem quo_u64{x y:Nat}(hx:x<B64)(hy:0<y):Zd .quo .u64 (x:Int) (y:Int)=some (.int .u64 ((x/y:Nat):Int)):=by
 have hx:x<18446744073709551616:=hx;have hle:x/y≤x:=Nat.div_le_self x y;have h0: ¬ ((y:Int)=0):=by omega
 have e:IntKind.u64.wrap ((x:Int).tdiv (y:Int))=((x/y:Nat):Int):=by rw[IntKind.wrap_u64,Int.tdiv_eq_ediv_of_nonneg (by omega),←Int.natCast_ediv];generalize x/y=q at*;omega
 show(if(y:Int)=0 then none else some (Value.int .u64 (IntKind.u64.wrap ((x:Int).tdiv (y:Int)))))=_;rw[if_neg h0,e]
theorem rem_u64{x y:Nat}(hy:0<y):Zd .rem .u64 (x:Int) (y:Int)=some (.int .u64 ((x%y:Nat):Int)):=by
 have h0: ¬ ((y:Int)=0):=by omega
 have e:(x:Int).tmod (y:Int)=((x%y:Nat):Int):=by rw[Int.tmod_eq_emod_of_nonneg (by omega),←Int.natCast_emod]
 show(if(y:Int)=0 then none else some (Value.int .u64 ((x:Int).tmod (y:Int))))=_;rw[if_neg h0,e]
theorem subm_u64{x y:Nat}(hy:y≤B64):Zd .sub .u64 (x:Int) (y:Int)=some (.int .u64 (((x+B64-y)%B64:Nat):Int)):=by
 have hy:y≤18446744073709551616:=hy;have e:IntKind.u64.wrap ((x:Int)-(y:Int))=(((x+18446744073709551616-y)%18446744073709551616:Nat):Int):=by rw[IntKind.wrap_u64];omega
 show some (Value.int .u64 (IntKind.u64.wrap ((x:Int)-(y:Int))))=_;rw[e]
theorem rest_mod{u b d q y:Nat}(hy:y<B64)(hy0:0<y)(hq:q=(u*b+d)/y):((u*b%B64+d)%B64+B64-q*y%B64)%B64=(u*b+d)%y:=by have e:=Nat.div_add_mod (u*b+d) y;rw[←hq,Nat.mul_comm y q]at e;have hr:(u*b+d)%y<y:=Nat.mod_lt _ hy0;generalize(u*b+d)%y=r at*;generalize q*y=p at*;rw[Nat.mod_add_mod,←e];have hy:y<18446744073709551616:=hy;show((p+r)%18446744073709551616+18446744073709551616-p%18446744073709551616)%18446744073709551616=r;omega
abbrev b32:Nat:=4294967296
theorem geqL{x:Nat} :Zd .geq .u64 (x:Int) 4294967296=some (.bool (decide (4294967296≤x))):=geq_nat (y:=4294967296)
theorem mulL{x:Nat} :Zd .mul .u64 4294967296 (x:Int)=some (.int .u64 ((4294967296*x%B64:Nat):Int)):=Cn (x:=4294967296)
theorem mulR{x:Nat} :Zd .mul .u64 (x:Int) 4294967296=some (.int .u64 ((x*4294967296%B64:Nat):Int)):=Cn (y:=4294967296)
theorem Zl6{x:Nat}(hx:x<B64)(h:0<x):Zd .sub .u64 (x:Int) 1=some (.int .u64 ((x-1:Nat):Int)):=Zf3 (y:=1) hx h
structure Est (y1 y0 u d q r : Nat) : Prop where
  y1lo : 2147483648 ≤ y1
  y1hi : y1 < 4294967296
  y0hi : y0 < 4294967296
  uhi : u < y1 * 4294967296 + y0
  dhi : d < 4294967296
  eq : q * y1 + r = u
  ge : (u * 4294967296 + d) / (y1 * 4294967296 + y0) ≤ q
  rhi : r < 4294967296
  qhi : q ≤ 4294967297
def estT(y0 d q r:Nat):Bool:=decide (4294967296≤q)||decide (4294967296*r+d<q*y0)
theorem Est.down{y1 y0 u d q r:Nat}(h:Est y1 y0 u d q r)(ht:estT y0 d q r=true):0<q∧(q-1)*y1+(r+y1)=u∧(u*4294967296+d)/(y1*4294967296+y0)≤q-1∧q-1≤4294967296:=by
 have ht':4294967296≤q∨4294967296*r+d<q*y0:=by simpa[estT]using ht
 have h1:=est_true h.eq h.uhi h.dhi ht';have hq:0<q:=Nat.lt_of_le_of_lt (Nat.zero_le _) h1;refine⟨hq,?_,Nat.le_sub_one_of_lt h1,by have:=h.qhi;omega⟩;obtain⟨q',rfl⟩: ∃q',q=q'+1:=⟨q-1,by omega⟩;have:=h.eq;rw[Nat.succ_mul]at this;rw[Nat.add_sub_cancel];omega
theorem Est.stop{y1 y0 u d q r:Nat}(h:Est y1 y0 u d q r)(ht:estT y0 d q r=false):q=(u*4294967296+d)/(y1*4294967296+y0)∧q<4294967296:=by
 have ht':q<4294967296∧q*y0≤4294967296*r+d:=by simpa[estT]using ht
 have:=est_false h.eq (by have:=h.y1lo;omega) ht'.2;exact⟨Nat.le_antisymm this h.ge,ht'.1⟩
theorem est_break{y1 y0 u d q r:Nat}(y1lo:2147483648≤y1)(y0hi:y0<4294967296)(uhi:u<y1*4294967296+y0)(dhi:d<4294967296)(eq:q*y1+r=u)(ge:(u*4294967296+d)/(y1*4294967296+y0)≤q)(hr:4294967296≤r)(hq:q≤4294967296):q=(u*4294967296+d)/(y1*4294967296+y0)∧q<4294967296:=by
 have h1:q*y0≤4294967296*r+d:=by have a:q*y0≤4294967296*y0:=Nat.mul_le_mul_right _ hq;omega
 have h2:=est_false eq (show 0<y1*4294967296+y0 by omega) h1;have h3:q=(u*4294967296+d)/(y1*4294967296+y0):=Nat.le_antisymm h2 ge;refine⟨h3,?_⟩;rw[h3,Nat.div_lt_iff_lt_mul (by omega)];have:(u+1)*4294967296≤(y1*4294967296+y0)*4294967296:=Nat.mul_le_mul_right _ uhi;rw[Nat.succ_mul,Nat.mul_comm (y1*4294967296+y0)]at this;omega
theorem est_start{y1 y0 u d:Nat}(y1lo:2147483648≤y1)(y1hi:y1<4294967296)(y0hi:y0<4294967296)(uhi:u<y1*4294967296+y0)(dhi:d<4294967296):Est y1 y0 u d (u/y1) (u%y1):=⟨y1lo,y1hi,y0hi,uhi,dhi,by rw[Nat.mul_comm];exact Nat.div_add_mod u y1,est_first (by omega) dhi,Nat.lt_of_lt_of_le (Nat.mod_lt _ (by omega)) (by omega),est_small (by omega) y0hi uhi (by omega)⟩
theorem eql0{x:Nat} :Zd .eql .u64 (x:Int) 0=some (.bool (decide (x=0))):=Ze2 (y:=0)
theorem Zf5{n:Nat}(h:n<B64):Dq Tryz.prog 3 228 (.int .i64 (n:Int))=some (.int .u64 (n:Int)):=by
 have h:n<18446744073709551616:=h;have e:IntKind.u64.wrap (n:Int)=(n:Int):=by rw[IntKind.wrap_u64];omega
 unfold Dq;simp only[Tryz.underlying3,Tryz.underlying228,e]
theorem total_div{U N1 N0 b B yn qh u2 ql r3:Nat}(e1:yn*qh+u2=U*b+N1)(e2:yn*ql+r3=u2*b+N0)(hB:B=b*b):U*B+(N1*b+N0)=yn*(qh*b+ql)+r3:=by
 subst hB;have e3:(yn*qh+u2)*b=(U*b+N1)*b:=by rw[e1]
 rw[Nat.add_mul,Nat.add_mul,Nat.mul_assoc,Nat.mul_assoc]at e3;rw[Nat.mul_add];omega
section
attribute [-simp] Int.natCast_add Int.natCast_mul Int.natCast_ediv Int.natCast_emod Int.natCast_pow
attribute [local simp] strip Yd LW' gW Yf Xh Ya Xi Yo Xj Zr Zs Zh Yp Yy Yk Yq Zi Xa Ze opd Qe Ym plain Yj Tr.get_set Qc Zp Xy Yc sameKind undef Zt Yr Yv Zk Jg Jf Yb parts Jc
theorem div64_spec{h l y:Nat}(hh:h<y)(hl:l<B64)(hy:y<B64){H:AH} :CW Tryz.prog Zo 205 [.int .u64 (h:Int),.int .u64 (l:Int),.int .u64 (y:Int)] H fun v H'=>H'=H∧v= .tuple #[.int .u64 (((h*B64+l)/y:Nat):Int),.int .u64 (((h*B64+l)%y:Nat):Int)]:=by
 refine Zl 135 (by decide) (by decide) Tryz.func205 rfl rfl ?_;have y0:0<y:=by omega
 apply Zb;intro b1 hb1;apply Za;simp;subst hb1;apply Zb;intro b1 hb1;apply Zb;intro b2 hb2;apply Za;simp[eql0];subst hb2;refine Zc (t:=false) (by simp;omega) ?_;apply Zj;subst hb1;apply Zb;intro b1 hb1;apply Zb;intro b2 hb2;apply Za;simp[Zk2];subst hb2;refine Zc (t:=false) (by simp;omega) ?_;apply Zj;subst hb1;apply Zb;intro b1 hb1;apply Zb;intro b2 hb2;apply Za;simp[eql0];subst hb2;by_cases h0:h=0;·subst h0;refine Zc (t:=true) (by simp) ?_;apply Zb;intro b2 hb2;apply Zd8 (by kernel_rfl);simp[quo_u64 hl y0,rem_u64 (x:=l) y0];subst hb2;apply Zn;simp[Xw]
 ·refine Zc (t:=false) (by simp;omega) ?_;apply Zj;subst hb1;obtain⟨v1,H1,hc1,e1,e2⟩:=lz_spec (H:=H) hy;subst e1;subst e2;have hbl:Zf y≤64:=by
   rcases Nat.lt_or_ge 64 (Zf y)with h|h;·have a:=Ul (n:=y) (by omega);have b:2^64≤2^(Zf y-1):=Nat.pow_le_pow_right (by decide) (by omega);have hy:y<18446744073709551616:=hy;omega
   ·exact h
  have hbl0:0<Zf y:=by unfold Zf;rw[if_neg (by omega)];omega
  obtain⟨s,hs⟩: ∃s,s=64-Zf y:=⟨_,rfl⟩;have h64:s<64:=by omega
  have es:(64-(Zf y:Int))=(s:Int):=by omega
  rw[es]at hc1;have ylt:y<2^(64-s):=by have:=Um y;rwa[show Zf y=64-s by omega]at this
  have yge:2^(63-s)≤y:=by have:=Ul (n:=y) (by omega);rwa[show Zf y-1=63-s by omega]at this
  apply Zb;intro b1 hb1;apply Za;simp[hc1,Zf5 (n:=s) (Nat.lt_trans h64 (by decide))];subst hb1;have eB:B64=2^(64-s)*2^s:=by rw[←Nat.pow_add,show 64-s+s=64 by omega]
  obtain⟨yn,hyn⟩: ∃yn,yn=y*2^s:=⟨_,rfl⟩;have ynlt:yn<B64:=by rw[hyn,eB];exact Nat.mul_lt_mul_of_pos_right ylt (Nat.two_pow_pos s)
  have ynge:9223372036854775808≤yn:=by have:2^(63-s)*2^s≤y*2^s:=Nat.mul_le_mul_right _ yge;rw[←Nat.pow_add,show 63-s+s=63 by omega,←hyn]at this;exact this
  have hlow:l/2^(64-s)<2^s:=by rw[Nat.div_lt_iff_lt_mul (Nat.two_pow_pos _),←Nat.pow_add,show s+(64-s)=64 by omega];exact hl
  obtain⟨u,hu⟩: ∃u,u=h*2^s+l/2^(64-s):=⟨_,rfl⟩;have hhs:h*2^s+2^s≤yn:=by rw[hyn,←Nat.succ_mul];exact Nat.mul_le_mul_right _ hh
  have ult:u<yn:=by omega
  obtain⟨n,hn⟩: ∃n,n=l*2^s%B64:=⟨_,rfl⟩;have nlt:n<B64:=by rw[hn];exact Nat.mod_lt _ (by decide)
  have total:(h*B64+l)*2^s=u*B64+n:=by have:=limb_shift (x:=l) h64;rw[←hn]at this;rw[Nat.add_mul,this,hu,Nat.add_mul,Nat.mul_comm B64 (l/_),Nat.mul_assoc h,Nat.mul_comm B64,←Nat.mul_assoc];omega
  obtain⟨y1,hy1⟩: ∃y1,y1=yn/4294967296:=⟨_,rfl⟩;obtain⟨w0,hw0⟩: ∃w0,w0=yn%4294967296:=⟨_,rfl⟩;have eyn:yn=y1*4294967296+w0:=by omega
  have ynlt':yn<18446744073709551616:=ynlt;have y1lo:2147483648≤y1:=by omega
  have y1hi:y1<4294967296:=by omega
  have w0hi:w0<4294967296:=by omega
  obtain⟨n1,hn1⟩: ∃n1,n1=n/4294967296:=⟨_,rfl⟩;obtain⟨n0,hn0⟩: ∃n0,n0=n%4294967296:=⟨_,rfl⟩;have nlt':n<18446744073709551616:=nlt;have en:n=n1*4294967296+n0:=by omega
  have n1hi:n1<4294967296:=by omega
  have n0hi:n0<4294967296:=by omega
  have ulB:u<B64:=Nat.lt_trans ult ynlt;have hpos:=Nat.two_pow_pos s;have hhB:h*2^s<B64:=by omega
  have hlB:l/2^(64-s)<B64:=Nat.lt_of_le_of_lt (Nat.div_le_self _ _) hl;have f8:Ql .shl .u64 (y:Int) (s:Int)=some (.int .u64 (yn:Int)):=by rw[Aw (by omega),←hyn,Nat.mod_eq_of_lt ynlt]
  have f9:Ql .shr .u64 (yn:Int) 32=some (.int .u64 (y1:Int)):=by rw[shr32,←hy1]
  have f10:Zd .and .u64 (yn:Int) 4294967295=some (.int .u64 (w0:Int)):=by rw[and32 ynlt,←hw0]
  have f11a:Ql .shl .u64 (h:Int) (s:Int)=some (.int .u64 ((h*2^s:Nat):Int)):=by rw[Aw (by omega),Nat.mod_eq_of_lt hhB]
  have f11b:Zd .sub .u64 64 (s:Int)=some (.int .u64 ((64-s:Nat):Int)):=Zf3 (x:=64) (by decide) (by omega);have f11c:Ql .shr .u64 (l:Int) ((64-s:Nat):Int)=some (.int .u64 ((l/2^(64-s):Nat):Int)):=Cr (by omega);have f11d:Zd .or .u64 ((h*2^s:Nat):Int) ((l/2^(64-s):Nat):Int)=some (.int .u64 (u:Int)):=by rw[or_u64 hhB hlB,or_add hlow,←hu]
  have f12:Ql .shl .u64 (l:Int) (s:Int)=some (.int .u64 (n:Int)):=by rw[Aw (by omega),←hn]
  have f13:Ql .shr .u64 (n:Int) 32=some (.int .u64 (n1:Int)):=by rw[shr32,←hn1]
  have f14:Zd .and .u64 (n:Int) 4294967295=some (.int .u64 (n0:Int)):=by rw[and32 nlt,←hn0]
  have f15:Zd .quo .u64 (u:Int) (y1:Int)=some (.int .u64 ((u/y1:Nat):Int)):=quo_u64 ulB (by omega);have f16: ∀z:Nat,z<B64→(Zd .mul .u64 ((z/y1:Nat):Int) (y1:Int)=some (.int .u64 ((z/y1*y1:Nat):Int))∧Zd .sub .u64 (z:Int) ((z/y1*y1:Nat):Int)=some (.int .u64 ((z%y1:Nat):Int))):=fun z hz=>by have a:=Nat.div_mul_le_self z y1;refine⟨by rw[Cn,Nat.mod_eq_of_lt (Nat.lt_of_le_of_lt a hz)],?_⟩;rw[Zf3 hz a];have:=Nat.div_add_mod z y1;rw[Nat.mul_comm]at this;rw[show z-z/y1*y1=z%y1 by omega]
  iterate 9 apply Zb;intro b hb;apply Za;simp[f8,f9,f10,f11a,f11b,f11c,f11d,f12,f13,f14,f15,(f16 u ulB).1,(f16 u ulB).2];subst hb
  refine W_then (fun s'=>s'.k=135∧s'.H=H1∧s'.tm.get 2=some (.int .u64 (yn:Int))∧s'.tm.get 8=some (.int .u64 (s:Int))∧s'.tm.get 9=some (.int .u64 (y1:Int))∧s'.tm.get 10=some (.int .u64 (w0:Int))∧s'.tm.get 11=some (.int .u64 (u:Int))∧s'.tm.get 13=some (.int .u64 (n1:Int))∧s'.tm.get 14=some (.int .u64 (n0:Int))∧ ∃q:Nat,q=(u*4294967296+n1)/(y1*4294967296+w0)∧q<4294967296∧s'.tm.get 15=some (.int .u64 (q:Int))) ?_ ?_
  ·apply Zx;refine Qg (fun m s'=>s'.k=135∧s'.H=H1∧s'.tm.get 2=some (.int .u64 (yn:Int))∧s'.tm.get 8=some (.int .u64 (s:Int))∧s'.tm.get 9=some (.int .u64 (y1:Int))∧s'.tm.get 10=some (.int .u64 (w0:Int))∧s'.tm.get 11=some (.int .u64 (u:Int))∧s'.tm.get 13=some (.int .u64 (n1:Int))∧s'.tm.get 14=some (.int .u64 (n0:Int))∧ ∃r:Nat,Est y1 w0 u n1 m r∧s'.tm.get 15=some (.int .u64 (m:Int))∧s'.tm.get 16=some (.int .u64 (r:Int))) ?_ (u/y1) _ ⟨rfl,rfl,by simp,by simp,by simp,by simp,by simp,by simp,by simp,_,est_start y1lo y1hi w0hi (by rw[←eyn];exact ult) n1hi,by simp,by simp⟩;rintro q ⟨k,tm,H2⟩ ⟨hk,hH,k2,k8,k9,k10,k11,k13,k14,r,E,tq,tr⟩ Q' hQ';simp only at hk hH k2 k8 k9 k10 k11 k13 k14 tq tr;subst hk;subst hH;have hqB:q<B64:=Nat.lt_of_le_of_lt E.qhi (by decide);have hrB:=E.rhi;apply Zb;intro b3 hb3;have qle:=E.qhi;have rB:4294967296*r<B64:=by show _<18446744073709551616;omega
   have mB:(4294967296*r+n1)%B64=4294967296*r+n1:=Nat.mod_eq_of_lt (by show _<18446744073709551616;omega);have key: ∀tm',W Tryz.prog Zo b3 ⟨135,tm',H2⟩ Q'→W Tryz.prog Zo b3 ⟨135,tm',H2⟩ Q':=fun _ h=>h;have down:estT w0 n1 q r=true→ ∀tm',tm'.get 2=some (.int .u64 (yn:Int))→tm'.get 8=some (.int .u64 (s:Int))→tm'.get 9=some (.int .u64 (y1:Int))→tm'.get 10=some (.int .u64 (w0:Int))→tm'.get 11=some (.int .u64 (u:Int))→tm'.get 13=some (.int .u64 (n1:Int))→tm'.get 14=some (.int .u64 (n0:Int))→tm'.get 15=some (.int .u64 (q:Int))→tm'.get 16=some (.int .u64 (r:Int))→W Tryz.prog Zo b3 ⟨135,tm',H2⟩ Q':=fun ht tm' k2 k8 k9 k10 k11 k13 k14 tq tr=>by
    obtain⟨q0,e1,ge1,q1⟩:=E.down ht;have f1:Zd .sub .u64 (q:Int) 1=some (.int .u64 ((q-1:Nat):Int)):=Zl6 hqB q0;have f2:Zd .add .u64 (r:Int) (y1:Int)=some (.int .u64 ((r+y1:Nat):Int)):=by rw[Fw,Nat.mod_eq_of_lt (by show _<18446744073709551616;omega)]
    subst hb3;apply Zx;apply Zb;intro b4 hb4;apply Za;simp[tq,f1];subst hb4;apply Zb;intro b4 hb4;apply Za;simp[tr,k9,f2];subst hb4;apply Zb;intro b4 hb4;apply Za;simp[geqL];subst hb4;by_cases hr:4294967296≤r+y1;·refine Zc (t:=true) (by simp[hr]) ?_;apply Qf;right;refine⟨by decide,?_⟩;apply hQ';left;have:=est_break y1lo w0hi E.uhi E.dhi e1 ge1 hr q1;exact⟨rfl,rfl,rfl,rfl,by simp[k2],by simp[k8],by simp[k9],by simp[k10],by simp[k11],by simp[k13],by simp[k14],q-1,this.1,this.2,by simp⟩
    ·refine Zc (t:=false) (by simp[hr]) ?_;apply Zj;apply hQ';exact⟨q-1,by omega,rfl,rfl,by simp[k2],by simp[k8],by simp[k9],by simp[k10],by simp[k11],by simp[k13],by simp[k14],r+y1,⟨y1lo,y1hi,w0hi,E.uhi,E.dhi,e1,ge1,by omega,by omega⟩,by simp,by simp⟩
   apply Zb;intro b4 hb4;apply Za;by_cases hq:4294967296≤q;·simp[tq,geqL,hq];subst hb4;refine Zc (t:=true) (by simp) ?_;apply Zj;show W _ _ b3 _ _;exact down (by simp[estT,hq]) _ (by simp[k2]) (by simp[k8]) (by simp[k9]) (by simp[k10]) (by simp[k11]) (by simp[k13]) (by simp[k14]) (by simp[tq]) (by simp[tr])
   ·have hqw:q*w0<B64:=by have a:q*w0≤4294967295*w0:=Nat.mul_le_mul_right _ (by omega);show _<18446744073709551616;omega
    have g1:Zd .mul .u64 (q:Int) (w0:Int)=some (.int .u64 ((q*w0:Nat):Int)):=by rw[Cn,Nat.mod_eq_of_lt hqw]
    have g2:Zd .mul .u64 4294967296 (r:Int)=some (.int .u64 ((4294967296*r:Nat):Int)):=by rw[mulL,Nat.mod_eq_of_lt rB]
    have g3:Zd .add .u64 ((4294967296*r:Nat):Int) (n1:Int)=some (.int .u64 ((4294967296*r+n1:Nat):Int)):=by rw[Fw,mB]
    simp[tq,geqL,hq,tr,k10,k13,g1,g2,g3,Kc];subst hb4;by_cases ht:4294967296*r+n1<q*w0;·refine Zc (t:=true) (by simp[ht]) ?_;apply Zj;show W _ _ b3 _ _;exact down (by simp[estT,ht]) _ (by simp[k2]) (by simp[k8]) (by simp[k9]) (by simp[k10]) (by simp[k11]) (by simp[k13]) (by simp[k14]) (by simp[tq]) (by simp[tr])
    ·refine Zc (t:=false) (by simp[ht]) ?_;apply Qf;apply hQ';left;have:=E.stop (by simp[estT,ht];omega);exact⟨rfl,rfl,rfl,rfl,by simp[k2],by simp[k8],by simp[k9],by simp[k10],by simp[k11],by simp[k13],by simp[k14],q,this.1,this.2,by simp[tq]⟩
  rintro⟨k,tm,H2⟩ ⟨hk,hH,k2,k8,k9,k10,k11,k13,k14,qh,hqh,hqlt,k15⟩;simp only at hk hH k2 k8 k9 k10 k11 k13 k14 k15;subst hk;subst hH;have ynpos:0<yn:=by omega
  obtain⟨u2,hu2⟩: ∃u2,u2=(u*4294967296+n1)%yn:=⟨_,rfl⟩;have u2lt:u2<yn:=by rw[hu2];exact Nat.mod_lt _ ynpos
  have u2B:u2<B64:=Nat.lt_trans u2lt ynlt;rw[←eyn]at hqh;have hrest:=rest_mod (u:=u) (b:=4294967296) (d:=n1) (q:=qh) ynlt ynpos hqh;rw[←hu2]at hrest;obtain⟨pa,hpa⟩: ∃pa,pa=u*4294967296%B64:=⟨_,rfl⟩;obtain⟨pb,hpb⟩: ∃pb,pb=(pa+n1)%B64:=⟨_,rfl⟩;obtain⟨pc,hpc⟩: ∃pc,pc=qh*yn%B64:=⟨_,rfl⟩;rw[←hpa,←hpb,←hpc]at hrest;have g21:Zd .mul .u64 (u:Int) 4294967296=some (.int .u64 (pa:Int)):=by rw[mulR,hpa]
  have g21a:Zd .add .u64 (pa:Int) (n1:Int)=some (.int .u64 (pb:Int)):=by rw[Fw,hpb]
  have g21b:Zd .mul .u64 (qh:Int) (yn:Int)=some (.int .u64 (pc:Int)):=by rw[Cn,hpc]
  have g21c:Zd .sub .u64 (pb:Int) (pc:Int)=some (.int .u64 (u2:Int)):=by rw[subm_u64 (by rw[hpc];exact Nat.le_of_lt (Nat.mod_lt _ (by decide))),hrest]
  have g22:Zd .quo .u64 (u2:Int) (y1:Int)=some (.int .u64 ((u2/y1:Nat):Int)):=quo_u64 u2B (by omega);apply Zb;intro b hb;apply Za;simp[k11,k13,k15,k2,g21,g21a,g21b,g21c];subst hb;apply Zb;intro b hb;apply Za;simp[k9,g22];subst hb;apply Zb;intro b hb;apply Za;simp[k9,(f16 u2 u2B).1,(f16 u2 u2B).2];subst hb;refine W_then (fun s'=>s'.k=135∧s'.H=H2∧s'.tm.get 2=some (.int .u64 (yn:Int))∧s'.tm.get 8=some (.int .u64 (s:Int))∧s'.tm.get 9=some (.int .u64 (y1:Int))∧s'.tm.get 10=some (.int .u64 (w0:Int))∧s'.tm.get 11=some (.int .u64 (u:Int))∧s'.tm.get 13=some (.int .u64 (n1:Int))∧s'.tm.get 14=some (.int .u64 (n0:Int))∧s'.tm.get 15=some (.int .u64 (qh:Int))∧s'.tm.get 17=some (.int .u64 (u2:Int))∧ ∃q:Nat,q=(u2*4294967296+n0)/(y1*4294967296+w0)∧q<4294967296∧s'.tm.get 18=some (.int .u64 (q:Int))) ?_ ?_
  ·apply Zx;refine Qg (fun m s'=>s'.k=135∧s'.H=H2∧s'.tm.get 2=some (.int .u64 (yn:Int))∧s'.tm.get 8=some (.int .u64 (s:Int))∧s'.tm.get 9=some (.int .u64 (y1:Int))∧s'.tm.get 10=some (.int .u64 (w0:Int))∧s'.tm.get 11=some (.int .u64 (u:Int))∧s'.tm.get 13=some (.int .u64 (n1:Int))∧s'.tm.get 14=some (.int .u64 (n0:Int))∧s'.tm.get 15=some (.int .u64 (qh:Int))∧s'.tm.get 17=some (.int .u64 (u2:Int))∧ ∃r:Nat,Est y1 w0 u2 n0 m r∧s'.tm.get 18=some (.int .u64 (m:Int))∧s'.tm.get 16=some (.int .u64 (r:Int))) ?_ (u2/y1) _ ⟨rfl,rfl,by simp[k2],by simp[k8],by simp[k9],by simp[k10],by simp[k11],by simp[k13],by simp[k14],by simp[k15],by simp,_,est_start y1lo y1hi w0hi (by rw[←eyn];exact u2lt) n0hi,by simp,by simp⟩;clear k2 k8 k9 k10 k11 k13 k14 k15;rintro q ⟨k,tm,H3⟩ ⟨hk,hH,k2,k8,k9,k10,k11,k13,k14,k15,k17,r,E,tq,tr⟩ Q' hQ';simp only at hk hH k2 k8 k9 k10 k11 k13 k14 k15 k17 tq tr;subst hk;subst hH;have hqB:q<B64:=Nat.lt_of_le_of_lt E.qhi (by decide);have hrB:=E.rhi;apply Zb;intro b3 hb3;have qle:=E.qhi;have rB:4294967296*r<B64:=by show _<18446744073709551616;omega
   have mB:(4294967296*r+n0)%B64=4294967296*r+n0:=Nat.mod_eq_of_lt (by show _<18446744073709551616;omega);have key: ∀tm',W Tryz.prog Zo b3 ⟨135,tm',H3⟩ Q'→W Tryz.prog Zo b3 ⟨135,tm',H3⟩ Q':=fun _ h=>h;have down:estT w0 n0 q r=true→ ∀tm',tm'.get 2=some (.int .u64 (yn:Int))→tm'.get 8=some (.int .u64 (s:Int))→tm'.get 9=some (.int .u64 (y1:Int))→tm'.get 10=some (.int .u64 (w0:Int))→tm'.get 11=some (.int .u64 (u:Int))→tm'.get 13=some (.int .u64 (n1:Int))→tm'.get 14=some (.int .u64 (n0:Int))→tm'.get 15=some (.int .u64 (qh:Int))→tm'.get 17=some (.int .u64 (u2:Int))→tm'.get 18=some (.int .u64 (q:Int))→tm'.get 16=some (.int .u64 (r:Int))→W Tryz.prog Zo b3 ⟨135,tm',H3⟩ Q':=fun ht tm' k2 k8 k9 k10 k11 k13 k14 k15 k17 tq tr=>by
    obtain⟨q0,e1,ge1,q1⟩:=E.down ht;have f1:Zd .sub .u64 (q:Int) 1=some (.int .u64 ((q-1:Nat):Int)):=Zl6 hqB q0;have f2:Zd .add .u64 (r:Int) (y1:Int)=some (.int .u64 ((r+y1:Nat):Int)):=by rw[Fw,Nat.mod_eq_of_lt (by show _<18446744073709551616;omega)]
    subst hb3;apply Zx;apply Zb;intro b4 hb4;apply Za;simp[tq,f1];subst hb4;apply Zb;intro b4 hb4;apply Za;simp[tr,k9,f2];subst hb4;apply Zb;intro b4 hb4;apply Za;simp[geqL];subst hb4;by_cases hr:4294967296≤r+y1;·refine Zc (t:=true) (by simp[hr]) ?_;apply Qf;right;refine⟨by decide,?_⟩;apply hQ';left;have:=est_break y1lo w0hi E.uhi E.dhi e1 ge1 hr q1;exact⟨rfl,rfl,rfl,rfl,by simp[k2],by simp[k8],by simp[k9],by simp[k10],by simp[k11],by simp[k13],by simp[k14],by simp[k15],by simp[k17],q-1,this.1,this.2,by simp⟩
    ·refine Zc (t:=false) (by simp[hr]) ?_;apply Zj;apply hQ';exact⟨q-1,by omega,rfl,rfl,by simp[k2],by simp[k8],by simp[k9],by simp[k10],by simp[k11],by simp[k13],by simp[k14],by simp[k15],by simp[k17],r+y1,⟨y1lo,y1hi,w0hi,E.uhi,E.dhi,e1,ge1,by omega,by omega⟩,by simp,by simp⟩
   apply Zb;intro b4 hb4;apply Za;by_cases hq:4294967296≤q;·simp[tq,geqL,hq];subst hb4;refine Zc (t:=true) (by simp) ?_;apply Zj;show W _ _ b3 _ _;exact down (by simp[estT,hq]) _ (by simp[k2]) (by simp[k8]) (by simp[k9]) (by simp[k10]) (by simp[k11]) (by simp[k13]) (by simp[k14]) (by simp[k15]) (by simp[k17]) (by simp[tq]) (by simp[tr])
   ·have hqw:q*w0<B64:=by have a:q*w0≤4294967295*w0:=Nat.mul_le_mul_right _ (by omega);show _<18446744073709551616;omega
    have g1:Zd .mul .u64 (q:Int) (w0:Int)=some (.int .u64 ((q*w0:Nat):Int)):=by rw[Cn,Nat.mod_eq_of_lt hqw]
    have g2:Zd .mul .u64 4294967296 (r:Int)=some (.int .u64 ((4294967296*r:Nat):Int)):=by rw[mulL,Nat.mod_eq_of_lt rB]
    have g3:Zd .add .u64 ((4294967296*r:Nat):Int) (n0:Int)=some (.int .u64 ((4294967296*r+n0:Nat):Int)):=by rw[Fw,mB]
    simp[tq,geqL,hq,tr,k10,k14,g1,g2,g3,Kc];subst hb4;by_cases ht:4294967296*r+n0<q*w0;·refine Zc (t:=true) (by simp[ht]) ?_;apply Zj;show W _ _ b3 _ _;exact down (by simp[estT,ht]) _ (by simp[k2]) (by simp[k8]) (by simp[k9]) (by simp[k10]) (by simp[k11]) (by simp[k13]) (by simp[k14]) (by simp[k15]) (by simp[k17]) (by simp[tq]) (by simp[tr])
    ·refine Zc (t:=false) (by simp[ht]) ?_;apply Qf;apply hQ';left;have:=E.stop (by simp[estT,ht];omega);exact⟨rfl,rfl,rfl,rfl,by simp[k2],by simp[k8],by simp[k9],by simp[k10],by simp[k11],by simp[k13],by simp[k14],by simp[k15],by simp[k17],q,this.1,this.2,by simp[tq]⟩
  rintro⟨k,tm,H3⟩ ⟨hk,hH,k2,k8,k9,k10,k11,k13,k14,k15,k17,ql,hql,hqllt,k18⟩;simp only at hk hH k2 k8 k9 k10 k11 k13 k14 k15 k17 k18;subst hk;subst hH;rw[←eyn]at hql;obtain⟨r3,hr3⟩: ∃r3,r3=(u2*4294967296+n0)%yn:=⟨_,rfl⟩;have r3lt:r3<yn:=by rw[hr3];exact Nat.mod_lt _ ynpos
  have hrest2:=rest_mod (u:=u2) (b:=4294967296) (d:=n0) (q:=ql) ynlt ynpos hql;obtain⟨pd,hpd⟩: ∃pd,pd=u2*4294967296%B64:=⟨_,rfl⟩;obtain⟨pe,hpe⟩: ∃pe,pe=(pd+n0)%B64:=⟨_,rfl⟩;obtain⟨pf,hpf⟩: ∃pf,pf=ql*yn%B64:=⟨_,rfl⟩;rw[←hr3,←hpd,←hpe,←hpf]at hrest2;have j1:Zd .mul .u64 (qh:Int) 4294967296=some (.int .u64 ((qh*4294967296:Nat):Int)):=by rw[mulR,Nat.mod_eq_of_lt (by show _<18446744073709551616;omega)]
  have j2:Zd .add .u64 ((qh*4294967296:Nat):Int) (ql:Int)=some (.int .u64 ((qh*4294967296+ql:Nat):Int)):=by rw[Fw,Nat.mod_eq_of_lt (by show _<18446744073709551616;omega)]
  have j3:Zd .mul .u64 (u2:Int) 4294967296=some (.int .u64 (pd:Int)):=by rw[mulR,hpd]
  have j4:Zd .add .u64 (pd:Int) (n0:Int)=some (.int .u64 (pe:Int)):=by rw[Fw,hpe]
  have j5:Zd .mul .u64 (ql:Int) (yn:Int)=some (.int .u64 (pf:Int)):=by rw[Cn,hpf]
  have j6:Zd .sub .u64 (pe:Int) (pf:Int)=some (.int .u64 (r3:Int)):=by rw[subm_u64 (by rw[hpf];exact Nat.le_of_lt (Nat.mod_lt _ (by decide))),hrest2]
  have j7:Ql .shr .u64 (r3:Int) (s:Int)=some (.int .u64 ((r3/2^s:Nat):Int)):=Cr (by omega);have all:(h*B64+l)*2^s=yn*(qh*4294967296+ql)+r3:=by have e1:=Nat.div_add_mod (u*4294967296+n1) yn;rw[←hqh,←hu2]at e1;have e2:=Nat.div_add_mod (u2*4294967296+n0) yn;rw[←hql,←hr3]at e2;rw[total,en];exact total_div e1 e2 (by decide)
  have hquo:(h*B64+l)/y=qh*4294967296+ql:=by rw[←Nat.mul_div_mul_right _ _ (Nat.two_pow_pos s),all,←hyn,Nat.add_comm,Nat.add_mul_div_left _ _ ynpos,Nat.div_eq_of_lt r3lt,Nat.zero_add]
  have hrem:(h*B64+l)%y=r3/2^s:=by
   have:(h*B64+l)%y*2^s=r3:=by rw[←Nat.mul_mod_mul_right,all,←hyn,Nat.add_comm,Nat.add_mul_mod_self_left,Nat.mod_eq_of_lt r3lt]
   rw[←this,Nat.mul_div_cancel _ (Nat.two_pow_pos s)]
  rw[hquo,hrem];apply Zb;intro b hb;apply Za;simp[k2,k8,k14,k15,k17,k18,j1,j2,j3,j4,j5,j6,j7];subst hb;apply Zn;simp
end
end
end Go.Proofs.YtmkfecoeghokfaaGreatDoor
namespace Go.Proofs.YtmkfecoeghokfaaGreatDoor
set_option linter.unusedVariables false
set_option maxHeartbeats 1000000
structure Top (B P V U y1 y0 v' u d u' : Nat) : Prop where
  hV : V = (y1 * B + y0) * P + v'
  hU : U = (u * B + d) * P + u'
  vlt : v' < P
  ult : u' < P
  d_lt : d < B
  y0lt : y0 < B
  y1pos : 0 < y1
section
variable {B P V U y1 y0 v' u d u' q r : Nat}
theorem Top.Ppos(T:Top B P V U y1 y0 v' u d u'):0<P:=Nat.lt_of_le_of_lt (Nat.zero_le _) T.vlt
theorem Top.Bpos(T:Top B P V U y1 y0 v' u d u'):0<B:=Nat.lt_of_le_of_lt (Nat.zero_le _) T.d_lt
theorem Top.Vge(T:Top B P V U y1 y0 v' u d u'):B*P≤V:=by rw[T.hV];have:B*P≤(y1*B+y0)*P:=Nat.mul_le_mul_right _ (by have:1*B≤y1*B:=Nat.mul_le_mul_right _ T.y1pos;omega);omega
theorem Top.Vpos(T:Top B P V U y1 y0 v' u d u'):0<V:=Nat.lt_of_lt_of_le (Nat.mul_pos T.Bpos T.Ppos) T.Vge
theorem Top.Ult(T:Top B P V U y1 y0 v' u d u'):U<(u*B+d+1)*P:=by rw[T.hU,Nat.succ_mul];have:=T.ult;omega
theorem Top.first(T:Top B P V U y1 y0 v' u d u'):U/V≤u/y1:=by
 rw[Nat.le_div_iff_mul_le T.y1pos];have h1:U/V*V≤U:=Nat.div_mul_le_self U V;have h2:U/V*(y1*B*P)≤U/V*V:=Nat.mul_le_mul_left _ (by rw[T.hV,Nat.add_mul];omega);have h3:=T.Ult;have h4:(u*B+d+1)*P≤((u+1)*B)*P:=Nat.mul_le_mul_right _ (by have:=T.d_lt;rw[Nat.succ_mul];omega);have h5:(U/V*y1)*(B*P)<(u+1)*(B*P):=by rw[Nat.mul_assoc]at h2 h4;rw[Nat.mul_assoc];omega
 have:=Nat.lt_of_mul_lt_mul_right h5;omega
theorem Top.high{un un1:Nat}(T:Top B P V U y1 y0 v' (un*B+un1) d u')(h:U<V*B):un≤y1:=by
 rcases Nat.lt_or_ge y1 un with hlt|hge
 ·exfalso;have h1:V<(y1+1)*B*P:=by rw[T.hV];have a:(y1*B+y0+1)*P≤(y1+1)*B*P:=Nat.mul_le_mul_right _ (by have:=T.y0lt;rw[Nat.succ_mul];omega);have b:=T.vlt;rw[Nat.succ_mul]at a;omega
  have h2:V*B≤((y1+1)*B*P)*B:=Nat.mul_le_mul_right _ (Nat.le_of_lt h1);have h3:((y1+1)*B*P)*B≤U:=by rw[T.hU];have a:((y1+1)*B)*B≤(un*B)*B:=Nat.mul_le_mul_right _ (Nat.mul_le_mul_right _ hlt);have b:((y1+1)*B)*B*P≤((un*B+un1)*B+d)*P:=Nat.mul_le_mul_right _ (by rw[Nat.add_mul (un*B) un1 B];omega);rw[Nat.mul_right_comm _ P B];omega
  omega
 ·exact hge
theorem Top.true(T:Top B P V U y1 y0 v' u d u')(hq:q*y1+r=u)(ht:r*B+d<q*y0):U/V<q:=by rw[Nat.div_lt_iff_lt_mul T.Vpos];have h1:q*((y1*B+y0)*P)≤q*V:=Nat.mul_le_mul_left _ (by rw[T.hV];omega);have h2:(u*B+d+1)*P≤(q*(y1*B+y0))*P:=Nat.mul_le_mul_right _ (by rw[←hq,Nat.add_mul,Nat.mul_add,Nat.mul_assoc];omega);have h3:=T.Ult;rw[Nat.mul_assoc]at h2;omega
theorem Top.false(T:Top B P V U y1 y0 v' u d u')(hq:q*y1+r=u)(hlt:q<B)(ht:q*y0≤r*B+d):q≤U/V+1:=by
 have h1:q*V≤q*((y1*B+y0)*P)+q*P:=by rw[←Nat.mul_add];exact Nat.mul_le_mul_left _ (by rw[T.hV];have:=T.vlt;omega)
 have h2:(q*(y1*B+y0))*P≤(u*B+d)*P:=Nat.mul_le_mul_right _ (by rw[←hq,Nat.add_mul,Nat.mul_add,Nat.mul_assoc];omega);rw[Nat.mul_assoc]at h2;have h3:q*P<B*P:=Nat.mul_lt_mul_of_pos_right hlt T.Ppos;have h4:=T.Vge;have h5:q*V<U+V:=by have:=T.hU;omega
 have h6:q*V<(U/V+2)*V:=by have a:=Nat.div_add_mod U V;have b:=Nat.mod_lt U T.Vpos;rw[Nat.mul_comm]at a;rw[Nat.add_mul,Nat.two_mul];omega
 have:=Nat.lt_of_mul_lt_mul_right h6;omega
end
theorem take_away{N U V q R b:Nat}(hV:0<V)(hge:U/V≤q)(hle:q≤U/V+1)(hU:U<N)(hR:R<N)(hb:b≤1)(e:R+q*V=U+N*b):(b=0∧q=U/V∧R=U%V)∨(b=1∧q=U/V+1∧R+V=N+U%V):=by
 have a:=Nat.div_add_mod U V;have m:=Nat.mod_lt U hV;rw[Nat.mul_comm]at a;rcases Nat.lt_or_ge (U/V) q with h|h
 ·right;obtain rfl:q=U/V+1:=by omega
  rw[Nat.add_mul,Nat.one_mul]at e;have hb1:b=1:=by
   rcases Nat.lt_or_ge b 1 with h0|h0
   ·exfalso;obtain rfl:b=0:=by omega
    rw[Nat.mul_zero]at e;omega
   ·omega
  subst hb1;rw[Nat.mul_one]at e;exact⟨rfl,rfl,by omega⟩
 ·left;obtain rfl:q=U/V:=by omega
  have hb0:b=0:=by
   rcases Nat.lt_or_ge b 1 with h0|h0;·omega
   ·exfalso;obtain rfl:b=1:=by omega
    rw[Nat.mul_one]at e;omega
  subst hb0;rw[Nat.mul_zero]at e;exact⟨rfl,rfl,by omega⟩
theorem mul_sub_step {B x y q carry borrow : Nat} (hx : x < B) (hq : q < B) (hc : carry < B) (hy : y < B) (hb : borrow ≤ 1) :
    let p := x * q
    let sum := (p % B + carry) % B
    let carry' := p / B + (p % B + carry) / B
    let y' := (y + B - sum - borrow) % B
    let borrow' := if y < sum + borrow then 1 else 0
    carry' < B ∧ y' < B ∧ y' + x * q + carry + borrow = y + B * (carry' + borrow') := by
  intro p sum carry' y' borrow'
  have hB : 0 < B := by omega
  have hp : p ≤ (B - 1) * (B - 1) := Nat.mul_le_mul (by omega) (by omega)
  have e1 := Nat.div_add_mod p B
  have e2 := Nat.div_add_mod (p % B + carry) B
  have hs : sum < B := Nat.mod_lt _ hB
  have hcy : carry' * B + sum = p + carry := by
    show (p / B + (p % B + carry) / B) * B + (p % B + carry) % B = p + carry
    rw [Nat.add_mul, Nat.mul_comm (p / B), Nat.mul_comm ((p % B + carry) / B)]
    omega
  have hcB : carry' < B := by
    have : (B - 1) * (B - 1) + (B - 1) = (B - 1) * B := by
      obtain ⟨b, rfl⟩ : ∃ b, B = b + 1 := ⟨B - 1, by omega⟩
      rw [Nat.add_sub_cancel, Nat.mul_succ]
    have h3 : carry' * B ≤ (B - 1) * B := by omega
    have := Nat.le_of_mul_le_mul_right h3 hB
    omega
  refine ⟨hcB, Nat.mod_lt _ hB, ?_⟩
  show (y + B - sum - borrow) % B + p + carry + borrow = y + B * (carry' + if y < sum + borrow then 1 else 0)
  have key : (y + B - sum - borrow) % B + sum + borrow = y + B * (if y < sum + borrow then 1 else 0) := by
    by_cases h : y < sum + borrow
    · rw [if_pos h, Nat.mod_eq_of_lt (by omega)]; omega
    · rw [if_neg h]
      have : y + B - sum - borrow = (y - sum - borrow) + B := by omega
      rw [this, Nat.add_mod_right, Nat.mod_eq_of_lt (by omega)]; omega
  rw [Nat.mul_add, Nat.mul_comm B carry']
  omega
end Go.Proofs.YtmkfecoeghokfaaGreatDoor
namespace Go.Proofs.YtmkfecoeghokfaaGreatDoor.Ev
open Go Go.RowKit
set_option linter.unusedVariables false
set_option linter.unusedSimpArgs false
noncomputable section
set_option maxRecDepth 20000
set_option maxHeartbeats 1000000
def AH.top(H:AH):AH:= { n:=H.n,lw:=H.n,t:=H.t }
def LR(P:Program)(C:Cfg)(k:Nat):List SOp→Tr Value→AH→(Tr Value→Prop)→Prop
 |[],tm,_,K=>K tm
 |o::r,tm,H,K=>match gW tm o.grd with
  |some true=>match Yf P C (Zq P C) tm H o.op with
   |some (v,H')=>H'=H∧match o.dst with|none=>LR P C k r tm H K|some d=>d<k∧LR P C k r (tm.set d v) H K
   |none=>False
  |some false=>match o.dst with|none=>LR P C k r tm H K|some d=>d<k∧LR P C k r (tm.set d undef) H K
  |none=>False
section
variable {P : Program} {C : Cfg} {Q : Ex → St → Prop} {ops : Array Oper} {k : Nat}
theorem LR_draw: ∀(l:List Oper)(i:Nat)(tm:Tr Value)(H:AH)(K:Tr Value→Prop),LR P C k (Yd ops l) tm H.top K→ ∃tm',Ja (X0 ops) P C (Zq P C) ops i false [] l ⟨k,tm,H⟩=some ⟨k,tm',H⟩∧K tm'
 |[],i,tm,H,K,h=>⟨tm,by simp only[Ja],h⟩
 |o::r,i,tm,H,K,h=>by
  simp only[Yd,LR]at h;simp only[Ja];rw[gW_eq];split at h
  ·rename_i hg;rw[hg];split at h
   ·rename_i v H1 hop;obtain⟨e,h⟩:=h;subst e;obtain⟨tm1,hput,hl⟩:=Gz (k:=k) (H:=H) (H1:=H) (K1:=fun tm=>LR P C k (Yd ops r) tm H.top K) h;obtain⟨tm',h1,h2⟩:=LR_draw r (i+1) tm1 H K hl;refine⟨tm',?_,h2⟩;have hd:Qp (X0 ops) P C (Zq P C) ops i false [] ⟨k,tm,H⟩ o=some (v,H,false):=by unfold Qp;cases hh:Zv o.op with|true=>rw[cond_true];simp only[X0,hidden,Ff];have hop':Yf P C (Zq P C) tm { n:=H.n,lw:=H.n,t:=H.t } o.op=some (v,{ n:=H.n,lw:=H.n,t:=H.t }):=hop;rw[hop'];have:Nat.ble H.n H.n=true:=Nat.ble_eq.mpr (Nat.le_refl _);simp only[this,cond_true,Bool.not_false,Bool.and_self,Nat.sub_self,addT]|false=>rw[cond_false];rw[Dm hh hop H]
    simp only[hd,hput,Qi,cond_false];exact h1
   ·exact h.elim
  ·rename_i hg;rw[hg];obtain⟨tm1,hput,hl⟩:=Gz (k:=k) (H:=H) (H1:=H) (K1:=fun tm=>LR P C k (Yd ops r) tm H.top K) h;obtain⟨tm',h1,h2⟩:=LR_draw r (i+1) tm1 H K hl;refine⟨tm',?_,h2⟩;simp only[hput];exact h1
  ·exact h.elim
theorem W_reads{id:Nat}{s:St}(hd:(!Vw ops&&Gm ops&&!isSplit C ops)=true)(h:LR P C s.k (strip ops) s.tm s.H.top fun tm'=>Q .norm ⟨s.k,tm',s.H⟩):W P C (.region id ops true) s Q:=by
 obtain⟨k,tm,H⟩:=s;obtain⟨tm',h1,h2⟩:=LR_draw _ 0 _ _ _ h;refine⟨.norm,⟨k,tm',H⟩,?_,h2⟩;rw[Kv];simp only[Jl];rw[Va]at h1;rw[Bool.and_eq_true,Bool.and_eq_true]at hd;have hm:Vw ops=false:=by simpa using hd.1.1
 have hs:isSplit C ops=false:=by simpa using hd.2
 have:Xz P C (Qa P C (lvI P C)) ops true ⟨k,tm,H⟩=some ⟨k,tm',H⟩:=by unfold Xz Ud;rw[hm,hs,hd.1.2];simp only[Bool.and_false,cond_false,cond_true];exact h1
 rw[this]
def low(H H2:AH):AH:= { n:=H2.n,lw:=min H.lw H2.lw,t:=H2.t }
def LX(P:Program)(C:Cfg)(k:Nat):List SOp→Tr Value→AH→(Tr Value→AH→Prop)→Prop
 |[],tm,H,K=>K tm H
 |o::r,tm,H,K=>match gW tm o.grd with
  |some true=>match Zy o.op with
   |true=>match Yf P C (Zq P C) tm H.top o.op with
    |some (v,H2)=>(H2.n=H.n∧H2.lw<H.n)∧match o.dst with|none=>LX P C k r tm (low H H2) K|some d=>d<k∧LX P C k r (tm.set d v) (low H H2) K
    |none=>False
   |false=>match Yf P C (Zq P C) tm H.top o.op with
    |some (v,H2)=>H2=H.top∧match o.dst with|none=>LX P C k r tm H K|some d=>d<k∧LX P C k r (tm.set d v) H K
    |none=>False
  |some false=>match o.dst with|none=>LX P C k r tm H K|some d=>d<k∧LX P C k r (tm.set d undef) H K
  |none=>False
def Gg:List Oper→Bool|[]=>true|o::r=>cond (Zy o.op) (r.all fun o=>Zy o.op||!Zv o.op) (Gg r)
def storesAlone(ops:Array Oper):Bool:=(List.range ops.size).all fun i=>match ops[i]? with|some o=>!Zy o.op||alone ops i|none=>true
theorem LX_draw(hst: ∀i o,ops[i]?=some o→Zy o.op=true→alone ops i=true): ∀(l:List Oper)(i:Nat)(q:Bool)(tm:Tr Value)(H:AH)(K:Tr Value→AH→Prop),(∀j,l[j]?=ops[i+j]?)→(q=true→ ∀o∈l,(Zy o.op||!Zv o.op)=true)→Gg l=true→LX P C k (Yd ops l) tm H K→ ∃tm' H',Ja (X0 ops) P C (Zq P C) ops i q [] l ⟨k,tm,H⟩=some ⟨k,tm',H'⟩∧K tm' H'
 |[],i,q,tm,H,K,hl,hq,hs,h=>⟨tm,H,by simp only[Ja],h⟩
 |o::r,i,q,tm,H,K,hl,hq,hs,h=>by
  have h0:ops[i]?=some o:=by simpa using(hl 0).symm
  have hl': ∀j,r[j]?=ops[i+1+j]?:=fun j=>by have:=hl (j+1);simpa[Nat.add_assoc,Nat.add_comm 1 j]using this
  have hq':q=true→ ∀o∈r,(Zy o.op||!Zv o.op)=true:=fun e o' h'=>hq e o' (List.mem_cons_of_mem _ h');simp only[Yd,LX]at h;simp only[Ja];rw[gW_eq];have hs':Gg r=true:=by unfold Gg at hs;cases e:Zy o.op with
   |false=>rw[e,cond_false]at hs;exact hs
   |true=>rw[e,cond_true]at hs;clear h hl hl' hq hq' h0;induction r with
    |nil=>rfl
    |cons x r ih=>rw[List.all_cons,Bool.and_eq_true]at hs;unfold Gg;cases Zy x.op with|false=>rw[cond_false];exact ih hs.2|true=>rw[cond_true];exact hs.2
  split at h
  ·rename_i hg;rw[hg];split at h
   ·rename_i hstore;split at h
    ·rename_i v H2 hop;obtain⟨⟨e1,e2⟩,h⟩:=h;obtain⟨tm1,hput,hlx⟩:=Gz (k:=k) (H:=H) (H1:=low H H2) (K1:=fun tm=>LX P C k (Yd ops r) tm (low H H2) K) h;have hall: ∀o∈r,(Zy o.op||!Zv o.op)=true:=by unfold Gg at hs;rw[hstore,cond_true]at hs;exact List.all_eq_true.mp hs
     obtain⟨tm',H',h1,h2⟩:=LX_draw hst r (i+1) true tm1 (low H H2) K hl' (fun _=>hall) hs' hlx;refine⟨tm',H',?_,h2⟩;have hh:Zv o.op=true:=by revert hstore;cases o.op<;>simp[Zy,Zv]
     have hd:Qp (X0 ops) P C (Zq P C) ops i q [] ⟨k,tm,H⟩ o=some (v,low H H2,true):=by
      unfold Qp;rw[hh,cond_true];simp only[X0,hidden,Ff];have hop':Yf P C (Zq P C) tm { n:=H.n,lw:=H.n,t:=H.t } o.op=some (v,H2):=hop;rw[hop'];have a1:Nat.ble H.n H2.n=true:=Nat.ble_eq.mpr (by omega);have a2:Nat.ble H.n H2.lw=false:=by cases hb:Nat.ble H.n H2.lw with|false=>rfl|true=>have:=Nat.le_of_ble_eq_true hb;omega
      simp only[a1,a2,cond_true,Bool.and_false,cond_false,hst i o h0 hstore,List.isEmpty_nil,Bool.and_self];rfl
     have hn:Nat.blt H.n (low H H2).n=false:=by show Nat.blt H.n H2.n=false;rw[e1];exact Qi _
     simp only[hd,hput,hn,cond_false];exact h1
    ·exact h.elim
   ·rename_i hstore;split at h
    ·rename_i v H2 hop;obtain⟨e,h⟩:=h;subst e;obtain⟨tm1,hput,hlx⟩:=Gz (k:=k) (H:=H) (H1:=H) (K1:=fun tm=>LX P C k (Yd ops r) tm H K) h;obtain⟨tm',H',h1,h2⟩:=LX_draw hst r (i+1) q tm1 H K hl' hq' hs' hlx;refine⟨tm',H',?_,h2⟩;have hd:Qp (X0 ops) P C (Zq P C) ops i q [] ⟨k,tm,H⟩ o=some (v,H,q):=by unfold Qp;cases hh:Zv o.op with
      |true=>
       have hqf:q=false:=by cases q with|false=>rfl|true=>have:=hq rfl o (List.mem_cons_self ..);rw[hstore,hh]at this;cases this
       subst hqf;rw[cond_true];simp only[X0,hidden,Ff];have hop':Yf P C (Zq P C) tm { n:=H.n,lw:=H.n,t:=H.t } o.op=some (v,{ n:=H.n,lw:=H.n,t:=H.t }):=hop;rw[hop'];have:Nat.ble H.n H.n=true:=Nat.ble_eq.mpr (Nat.le_refl _);simp only[this,cond_true,Bool.not_false,Bool.and_self,Nat.sub_self,addT]
      |false=>rw[cond_false];rw[Dm hh hop H]
     simp only[hd,hput,Qi,cond_false];exact h1
    ·exact h.elim
  ·rename_i hg;rw[hg];obtain⟨tm1,hput,hlx⟩:=Gz (k:=k) (H:=H) (H1:=H) (K1:=fun tm=>LX P C k (Yd ops r) tm H K) h;obtain⟨tm',H',h1,h2⟩:=LX_draw hst r (i+1) q tm1 H K hl' hq' hs' hlx;refine⟨tm',H',?_,h2⟩;simp only[hput];exact h1
  ·exact h.elim
theorem W_rws{id:Nat}{s:St}(hd:(!Vw ops&&(Gm ops&&!isSplit C ops)&&storesAlone ops&&Gg ops.toList)=true)(h:LX P C s.k (strip ops) s.tm s.H fun tm' H'=>Q .norm ⟨s.k,tm',H'⟩):W P C (.region id ops true) s Q:=by
 obtain⟨k,tm,H⟩:=s;rw[Bool.and_eq_true,Bool.and_eq_true,Bool.and_eq_true]at hd;have hst: ∀i o,ops[i]?=some o→Zy o.op=true→alone ops i=true:=fun i o hi hs=>by have:=List.all_eq_true.mp hd.1.2 i (by simpa using Xg hi);rw[hi]at this;simpa[hs]using this
 obtain⟨tm',H',h1,h2⟩:=LX_draw hst _ 0 false _ _ _ (fun j=>by simp) (fun e=>by cases e) hd.2 h;refine⟨.norm,⟨k,tm',H'⟩,?_,h2⟩;rw[Kv];simp only[Jl];have hm:Vw ops=false:=by simpa using hd.1.1.1
 have hrs:=hd.1.1.2;rw[Bool.and_eq_true]at hrs;have hs:isSplit C ops=false:=by simpa using hrs.2
 rw[Va]at h1;have:Xz P C (Qa P C (lvI P C)) ops true ⟨k,tm,H⟩=some ⟨k,tm',H'⟩:=by unfold Xz Ud;rw[hm,hs,hrs.1];simp only[Bool.and_false,cond_false,cond_true];exact h1
 rw[this]
theorem Qz(R:St→Prop){a b:Code}{s:St}(h1: ∀Q':Ex→St→Prop,(∀s',R s'→Q' .norm s')→W P C a s Q')(h2: ∀s',R s'→W P C b s' Q):W P C (.seq a b) s Q:=W_then R (h1 _ fun s' h=>⟨rfl,h⟩) h2
end
end
end Go.Proofs.YtmkfecoeghokfaaGreatDoor.Ev
namespace Go.Proofs.YtmkfecoeghokfaaGreatDoor
open Go Ev
set_option linter.unusedVariables false
set_option linter.unusedSimpArgs false
noncomputable section
set_option maxRecDepth 20000
set_option maxHeartbeats 1000000
def Xt:Value→Option Nat| .slice (some ⟨b,_,none⟩) _ _=>some b|_=>none
def Ka(v w:Value):Prop:= ∀b,Xt v=some b→Xt w≠some b
structure But (b : Option Nat) (H H' : AH) : Prop where
  n : H'.n = H.n
  blk : ∀ j, j < H.n → b ≠ some j → H'.blk j = H.blk j
theorem But.refl(b:Option Nat)(H:AH):But b H H:=⟨rfl,fun _ _ _=>rfl⟩
theorem But.trans{b:Option Nat}{H H1 H2:AH}(x:But b H H1)(y:But b H1 H2):But b H H2:=⟨y.n.trans x.n,fun j hn hj=>(y.blk j (by rw[x.n];exact hn) hj).trans (x.blk j hn hj)⟩
theorem At.but{b:Option Nat}{H H':AH}{c o:Nat}{xs:List Nat}(h:At H c o xs)(k:But b H H')(hb:b≠some c):At H' c o xs:=by obtain⟨h1,cs,h2,h3,h4⟩:=h;have e:=k.blk c h1 hb;exact⟨by rw[k.n];exact h1,cs,by unfold AH.cells;rw[e];exact h2,by unfold AH.size;rw[e];exact h3,h4⟩
theorem Sl.but{b:Option Nat}{H H':AH}{v:Value}{xs:List Nat}(h:Sl H v xs)(k:But b H H')(hb: ∀c,b=some c→Xt v≠some c):Sl H' v xs:=by cases h with|nil=>exact .nil|emp b=>exact .emp b|mk c o cap xs h1 h2=>exact .mk c o cap xs h1 (h2.but k fun e=>hb c e rfl)
theorem Own.but{b:Option Nat}{n0:Nat}{H H':AH}{v:Value}{xs:List Nat}(h:Own n0 H v xs)(k:But b H H')(hb: ∀c,b=some c→Xt v≠some c):Own n0 H' v xs:=by cases h with|nil=>exact .nil|mk c o cap xs cs h1 h2 h3 h4 h5 h6=>exact .mk c o cap xs cs h1 h2 (by rw[k.n];exact h3) (by rw[k.blk c h3 fun e=>hb c e rfl];exact h4) h5 h6
theorem Own.blk_lo{n0:Nat}{H:AH}{v:Value}{xs:List Nat}(h:Own n0 H v xs){b:Nat}(hb:Xt v=some b):n0≤b∧b<H.n:=by cases h with|nil=>cases hb|mk c o cap xs cs h1 h2 h3 h4 h5 h6=>cases hb;exact⟨h2,h3⟩
theorem Sl.blk_lt{H:AH}{v:Value}{xs:List Nat}(h:Sl H v xs){b:Nat}(hb:Xt v=some b):b<H.n:=by cases h with|nil=>cases hb|emp _=>cases hb|mk c o cap xs h1 h2=>cases hb;exact h2.1
theorem Own.put{n:Nat}{H:AH}{v:Value}{xs:List Nat}(h:Own n H v xs){i:Nat}(hi:i<xs.length)(y:Nat): ∃H',Xp Tryz.prog H 101 (adr v i) (.int .u64 (y:Int))=some H'∧Own n H' v (xs.set i y)∧H'.n=H.n∧(∀j,Xt v≠some j→H'.blk j=H.blk j)∧ ∀H0,Keep H0 H→H0.n≤n→Keep H0 H':=by cases h with
 |nil=>cases hi
 |mk b o cap xs cs h1 h2 h3 h4 h5 h6=>
  have hlen:Nat.ble (o+i+1) cs.length=true:=Nat.ble_eq.mpr (by omega);have e0:(Value.int .u64 (y:Int)).cells=#[.int .u64 (y:Int)]:=rfl;have hw:H.write b (o+i) [.int .u64 (y:Int)]=some { n:=H.n,lw:=min H.lw b,t:=H.t.set b (.rw 1 (cs.take (o+i)++[.int .u64 (y:Int)]++cs.drop (o+i+1))) } :=by rw[AH.write_def,h4];simp only[List.length_singleton,hlen,Bool.true_and];rfl
  refine⟨{ n:=H.n,lw:=min H.lw b,t:=H.t.set b (.rw 1 (cs.take (o+i)++[.int .u64 (y:Int)]++cs.drop (o+i+1))) },?_,?_,rfl,?_,?_⟩;·unfold Xp Go.Proofs.YtmkfecoeghokfaaGreatDoor.adr;simp only[sU64,e0];rw[show Nat.beq (#[Value.int .u64 (y:Int)]:Array Value).size 1=true from rfl,cond_true];exact hw
  ·have hl:(xs.set i y).length=xs.length:=List.length_set;rw[←hl];refine .mk b o cap _ (cs.take (o+i)++[.int .u64 (y:Int)]++cs.drop (o+i+1)) (by omega) h2 h3 ?_ ?_ ?_;·unfold AH.blk;simp only[Tr.get_set,if_true]
   ·simp only[List.length_append,List.length_take,List.length_drop,List.length_singleton];omega
   ·intro j x hj;rw[List.getElem?_set]at hj;by_cases e:i=j;·subst e;rw[if_pos rfl,if_pos hi]at hj;cases hj;rw[List.append_assoc,List.getElem?_append_right (by rw[List.length_take];omega)];rw[List.length_take,show o+i-min (o+i) cs.length=0 by omega];rfl
    ·rw[if_neg e]at hj;have:=h6 j x hj;rcases Nat.lt_or_ge (o+j) (o+i)with hlt|hge;·rw[List.append_assoc,List.getElem?_append_left (by rw[List.length_take];omega),List.getElem?_take,if_pos hlt];exact this
     ·rw[List.getElem?_append_right (by simp only[List.length_append,List.length_take,List.length_singleton];omega),List.getElem?_drop];simp only[List.length_append,List.length_take,List.length_singleton];rw[show o+i+1+(o+j-(min (o+i) cs.length+1))=o+j by omega];exact this
  ·intro j hj;have:j≠b:=fun e=>hj (by rw[e];rfl);unfold AH.blk;simp only[Tr.get_set,if_neg this]
  ·intro H0 k hn;refine⟨k.n,?_,fun j hj=>?_⟩;·have:=k.lw;show min H0.lw H0.n≤min H.lw b;omega
   ·have:j≠b:=by omega
    rw[←k.blk j hj];unfold AH.blk;simp only[Tr.get_set,if_neg this]
def View(w v:Value)(j m:Nat):Prop:= ∀(t:TypeId),LT t→ ∀(k:IntKind)(i:Nat),i<m→Yt Tryz.prog t w (.int k (i:Int))=some (adr v (j+i))
theorem Sl.part{H:AH}{v:Value}{xs:List Nat}(h:Sl H v xs){t:TypeId}(ht:LT t){j m:Nat}(hm:j+m≤xs.length)(h0:0<m): ∃w,Us Tryz.prog H t v (some (.int .i64 (j:Int))) (some (.int .i64 ((j+m:Nat):Int))) none=some w∧Sl H w ((xs.drop j).take m)∧View w v j m∧Xt w=Xt v:=by cases h with
 |nil=>simp at hm;omega
 |emp b=>simp at hm;omega
 |mk b o cap xs h1 h2=>
  have hl:((xs.drop j).take m).length=m:=by rw[List.length_take,List.length_drop];omega
  obtain⟨h2a,cs,h3,h4,h5⟩:=h2;refine⟨.slice (some ⟨b,o+j,none⟩) ((xs.drop j).take m).length (cap-j),?_,.mk b (o+j) (cap-j) _ (by omega) ⟨h2a,cs,h3,h4,fun i x hx=>?_,by have:=(List.getElem?_eq_some_iff.mp (h5.1 j _ (List.getElem?_eq_getElem (show j<xs.length by omega)))).1;omega⟩,?_,rfl⟩
  ·unfold Us;simp only[ht.1,sU64];unfold cutV Qq;simp only[h4,Option.isSome_some,Option.isNone_none,Bool.true_or];rw[if_pos (by omega)];have e1:Nat.ble (j+m) cap=true:=Nat.ble_eq.mpr (by omega);have e2:Nat.blt j cap=true:=by rw[Nat.blt_eq];omega
   simp only[Qq,Int.toNat_natCast];rw[if_pos (by omega)];simp[e1,e2,hl]
  ·rw[List.getElem?_take]at hx;split at hx;·rw[List.getElem?_drop]at hx;have:=h5.1 (j+i) x hx;rwa[←Nat.add_assoc]at this
   ·cases hx
  ·intro t ht k i hi;unfold Yt Go.Proofs.YtmkfecoeghokfaaGreatDoor.adr;simp only[ht.1,sU64];rw[if_pos (by omega)];simp[Nat.add_assoc]
def KA(n0:Nat)(H H1:AH):Prop:= ∀H0,Keep H0 H→H0.n≤n0→Keep H0 H1
theorem KA.refl(n0:Nat)(H:AH):KA n0 H H:=fun _ k _=>k
theorem KA.trans{n0:Nat}{H H1 H2:AH}(a:KA n0 H H1)(b:KA n0 H1 H2):KA n0 H H2:=fun H0 k h=>b H0 (a H0 k h) h
theorem Own.segload{n0:Nat}{H:AH}{U0:Value}{pre us post:List Nat}(h:Own n0 H U0 (pre++us++post)){j:Nat}(hj:pre.length=j){i:Nat}(hi:i<us.length):Yn Tryz.prog H 101 (adr U0 (j+i))=some (.int .u64 (us[i]:Nat)):=by subst hj;have:=h.sl.load (i:=pre.length+i) (by simp;omega);rw[this];congr 3;rw[List.getElem_append_left (by simp;omega),List.getElem_append_right (by omega)];simp
theorem Own.segstore{n0:Nat}{H:AH}{U0:Value}{pre us post:List Nat}(h:Own n0 H U0 (pre++us++post)){j:Nat}(hj:pre.length=j){i:Nat}(hi:i<us.length)(y:Nat): ∃H',Xp Tryz.prog H 101 (adr U0 (j+i)) (.int .u64 (y:Int))=some H'∧Own n0 H' U0 (pre++us.set i y++post)∧But (Xt U0) H H'∧KA n0 H H':=by subst hj;obtain⟨H',h1,h2,h3,h4,h5⟩:=h.put (i:=pre.length+i) (by simp;omega) y;refine⟨H',h1,?_,⟨h3,fun j _=>h4 j⟩,h5⟩;rw[List.set_append_left _ _ (by simp;omega),List.set_append_right _ _ (by omega),Nat.add_sub_cancel_left]at h2;exact h2
theorem Gh(x y:Nat)(H:AH):Zq Tryz.prog Zo 203 [.int .u64 (x:Int),.int .u64 (y:Int),.int .u64 0] H=some (.tuple #[.int .u64 (((x+y)%B64:Nat):Int),.int .u64 (((x+y)/B64:Nat):Int)],H):=Bu x y 0 H (by omega)
theorem Ao{x y:Nat}(hx:x<B64)(hy:y<B64)(H:AH):Zq Tryz.prog Zo 202 [.int .u64 (x:Int),.int .u64 (y:Int)] H=some (.tuple #[.int .u64 ((x*y/B64:Nat):Int),.int .u64 ((x*y%B64:Nat):Int)],H):=by obtain⟨v,H',h,rfl,rfl⟩:=mul64_spec hx hy (H:=H);exact h
theorem Zg6{h l y:Nat}(hh:h<y)(hl:l<B64)(hy:y<B64)(H:AH):Zq Tryz.prog Zo 205 [.int .u64 (h:Int),.int .u64 (l:Int),.int .u64 (y:Int)] H=some (.tuple #[.int .u64 (((h*B64+l)/y:Nat):Int),.int .u64 (((h*B64+l)%y:Nat):Int)],H):=by obtain⟨v,H',h,rfl,rfl⟩:=div64_spec hh hl hy (H:=H);exact h
theorem Zk7{x:Nat} :Zd .neq .u64 (x:Int) 0=some (.bool (decide (x≠0))):=neq_nat (y:=0)
theorem sub2_i64{x:Nat}(h:x<9223372036854775808)(hx:2≤x):Zd .sub .i64 (x:Int) 2=some (.int .i64 ((x-2:Nat):Int)):=sub_i64 (x:=x) (y:=2) h hx
theorem Dn{x y:Nat}(h:x+y<B64):Zd .add .u64 (x:Int) (y:Int)=some (.int .u64 ((x+y:Nat):Int)):=by rw[Fw,Nat.mod_eq_of_lt h]
theorem Ax{xs:List Nat}{n:Nat}(h:xs.length=n+1):xs=xs.take n++[xs[n]'(by omega)]:=by have:=List.take_append_getElem (l:=xs) (i:=n) (by omega);rw[this,←h,List.take_length]
theorem top_of{us vs:List Nat}{n:Nat}(hu:us.length=n+1)(hv:vs.length=n)(h2:2≤n)(du:Dig B64 us)(dv':Dig B64 vs)(hp:0<vs[n-1]'(by omega)):Top B64 (B64^(n-2)) (dv B64 vs) (dv B64 us) (vs[n-1]'(by omega)) (vs[n-2]'(by omega)) (dv B64 (vs.take (n-2))) ((us[n]'(by omega))*B64+us[n-1]'(by omega)) (us[n-2]'(by omega)) (dv B64 (us.take (n-2))):=by
 obtain⟨m,rfl⟩: ∃m,n=m+2:=⟨n-2,by omega⟩;simp only[Nat.add_sub_cancel,show m+2-1=m+1 by omega]at hp⊢;have e1:vs=vs.take m++[vs[m]'(by omega),vs[m+1]'(by omega)]:=by have a:=Ax (n:=m+1) hv;have b:=Qx (xs:=vs) (i:=m) (by omega);rw[b,List.append_assoc]at a;exact a
 have e2:us=us.take m++[us[m]'(by omega),us[m+1]'(by omega),us[m+2]'(by omega)]:=by have a:=Ax (n:=m+2) hu;have b:=Qx (xs:=us) (i:=m+1) (by omega);have c:=Qx (xs:=us) (i:=m) (by omega);rw[b,c,List.append_assoc,List.append_assoc]at a;exact a
 have l1:(vs.take m).length=m:=by rw[List.length_take];omega
 have l2:(us.take m).length=m:=by rw[List.length_take];omega
 refine⟨?_,?_,?_,?_,du.get (List.getElem?_eq_getElem (by omega)),dv'.get (List.getElem?_eq_getElem (by omega)),hp⟩;·have:=congrArg (dv B64) e1;rw[this,Xc,l1];simp only[dv,Nat.mul_zero,Nat.add_zero];rw[Nat.add_comm,Nat.mul_comm (B64^m),Nat.mul_comm B64,Nat.add_comm (vs[m])]
 ·have:=congrArg (dv B64) e2;rw[this,Xc,l2];simp only[dv,Nat.mul_zero,Nat.add_zero];rw[Nat.add_comm,Nat.mul_comm (B64^m),Nat.mul_comm B64 (us[m+1]+_),Nat.add_comm (us[m+1]),Nat.mul_comm B64 us[m+2],Nat.add_comm (us[m])]
 ·have:=Ui (dv'.take m);rwa[l1]at this
 ·have:=Ui (du.take m);rwa[l2]at this
section
attribute [-simp] Int.natCast_add Int.natCast_mul Int.natCast_ediv Int.natCast_emod Int.natCast_pow
attribute [local simp] strip Yd LW' LR gW Yf Xh Ya Xi Yo Xj Zr Zs Zh Yp Yy Yk Yq Zi Xa Ze opd Qe Ym plain Yj Tr.get_set Qc Zp Xy Yc sameKind undef Zt Yr Yv Zk Jg Jf Yb parts Jc unV
theorem div0_lt{x B:Nat}(hB:0<B)(h:x/B=0):x<B:=by
 rcases Nat.lt_or_ge x B with h'|h';·exact h'
 ·have:=Nat.div_pos h' hB;omega
structure Trial (V U y1 u q r : Nat) (sure : Bool) : Prop where
  ge : U / V ≤ q
  lt : q < B64
  no : sure = false → q * y1 + r = u ∧ r < B64
  yes : sure = true → q ≤ U / V + 1
set_option maxHeartbeats 2000000 in theorem guess_spec{n0 n j:Nat}{H:AH}{U0 uv vv:Value}{pre us post vs:List Nat}(hu:Own n0 H U0 (pre++us++post))(hj:pre.length=j)(hus:us.length=n+1)(hview:View uv U0 j (n+1))(du:Dig B64 us)(hv:Sl H vv vs)(hap:Ka U0 vv)(hvs:vs.length=n)(h2:2≤n)(hn:n≤17592186044416)(dvs:Dig B64 vs)(hp:0<vs[n-1]'(by omega))(hlt:dv B64 us<dv B64 vs*B64):CW Tryz.prog Zo 218 [uv,vv] H fun v H'=>v= .int .u64 ((dv B64 us/dv B64 vs:Nat):Int)∧But (Xt U0) H H'∧KA n0 H H'∧ ∃us',us'.length=n+1∧Dig B64 us'∧dv B64 us'=dv B64 us%dv B64 vs∧Own n0 H' U0 (pre++us'++post):=by
 refine Zl 195 (by decide) (by decide) Tryz.func218 rfl rfl ?_;have T:=top_of hus hvs h2 du dvs hp;have Vpos:=T.Vpos;obtain⟨V,hV⟩: ∃V,V=dv B64 vs:=⟨_,rfl⟩;obtain⟨U,hU⟩: ∃U,U=dv B64 us:=⟨_,rfl⟩;obtain⟨un,hun⟩: ∃un,un=us[n]'(by omega):=⟨_,rfl⟩;obtain⟨un1,hun1⟩: ∃un1,un1=us[n-1]'(by omega):=⟨_,rfl⟩;obtain⟨un2,hun2⟩: ∃un2,un2=us[n-2]'(by omega):=⟨_,rfl⟩;obtain⟨y1,hy1⟩: ∃y1,y1=vs[n-1]'(by omega):=⟨_,rfl⟩;obtain⟨y0,hy0⟩: ∃y0,y0=vs[n-2]'(by omega):=⟨_,rfl⟩;rw[←hV,←hU,←hun,←hun1,←hun2,←hy1,←hy0]at T;rw[←hV,←hU]at hlt⊢;rw[←hV]at Vpos;rw[←hy1]at hp;have bun:un<B64:=by rw[hun];exact du.get (List.getElem?_eq_getElem (by omega))
 have bun1:un1<B64:=by rw[hun1];exact du.get (List.getElem?_eq_getElem (by omega))
 have bun2:un2<B64:=by rw[hun2];exact du.get (List.getElem?_eq_getElem (by omega))
 have by1:y1<B64:=by rw[hy1];exact dvs.get (List.getElem?_eq_getElem (by omega))
 have by0:y0<B64:=by rw[hy0];exact dvs.get (List.getElem?_eq_getElem (by omega))
 have hQB:U/V<B64:=by rw[Nat.div_lt_iff_lt_mul Vpos,Nat.mul_comm];exact hlt
 have lenv:=hv.len Zk;rw[hvs]at lenv;have s1:Zd .sub .i64 (n:Int) 1=some (.int .i64 ((n-1:Nat):Int)):=Fb (by omega) (by omega);have s2:Zd .sub .i64 (n:Int) 2=some (.int .i64 ((n-2:Nat):Int)):=sub2_i64 (by omega) h2;have an:Yt Tryz.prog 30 uv (.int .i64 (n:Int))=some (adr U0 (j+n)):=hview _ Zk .i64 n (by omega);have an1:Yt Tryz.prog 30 uv (.int .i64 ((n-1:Nat):Int))=some (adr U0 (j+(n-1))):=hview _ Zk .i64 (n-1) (by omega);have an2:Yt Tryz.prog 30 uv (.int .i64 ((n-2:Nat):Int))=some (adr U0 (j+(n-2))):=hview _ Zk .i64 (n-2) (by omega);have av1:Yt Tryz.prog 30 vv (.int .i64 ((n-1:Nat):Int))=some (adr vv (n-1)):=hv.adr Zk (by omega);have av2:Yt Tryz.prog 30 vv (.int .i64 ((n-2:Nat):Int))=some (adr vv (n-2)):=hv.adr Zk (by omega);have ln:Yn Tryz.prog H 101 (adr U0 (j+n))=some (.int .u64 (un:Int)):=by rw[hun];exact hu.segload hj (by omega)
 have ln1:Yn Tryz.prog H 101 (adr U0 (j+(n-1)))=some (.int .u64 (un1:Int)):=by rw[hun1];exact hu.segload hj (by omega)
 have ln2:Yn Tryz.prog H 101 (adr U0 (j+(n-2)))=some (.int .u64 (un2:Int)):=by rw[hun2];exact hu.segload hj (by omega)
 have lv1:Yn Tryz.prog H 101 (adr vv (n-1))=some (.int .u64 (y1:Int)):=by rw[hy1];exact hv.load (by omega)
 have lv2:Yn Tryz.prog H 101 (adr vv (n-2))=some (.int .u64 (y0:Int)):=by rw[hy0];exact hv.load (by omega)
 have topload: ∀(a:Value),Yn Tryz.prog H.top 101 a=Yn Tryz.prog H 101 a:=fun _=>rfl;apply Zb;intro b1 hb1;apply Za;simp;subst hb1;apply Zb;intro b1 hb1;apply Za;simp[lenv];subst hb1;apply Zb;intro b1 hb1;apply Za;simp;subst hb1;apply Zb;intro b1 hb1;apply Za;simp;subst hb1;refine Qz (fun s'=>s'.k=195∧s'.H=H∧s'.tm.get 0=some uv∧s'.tm.get 1=some vv∧s'.tm.get 5=some (.int .i64 (n:Int))∧ ∃(q r:Nat) (sure:Bool),Trial V U y1 (un*B64+un1) q r sure∧s'.tm.get 6=some (.int .u64 (q:Int))∧s'.tm.get 7=some (.int .u64 (r:Int))∧s'.tm.get 8=some (.bool sure)) ?_ ?_
 ·intro Q' hQ';apply Zb;intro b1 hb1;apply Zd8 (by kernel_rfl);simp[lenv,an,s1,av1,ln,lv1,geq_nat];subst hb1;by_cases hge:y1≤un
  ·have hEq:un=y1:=Nat.le_antisymm (T.high hlt) hge;refine Zc (t:=true) (by simp[hge]) ?_;apply Zb;intro b1 hb1;apply Za;simp;subst hb1;apply Zb;intro b1 hb1;apply Za;simp;subst hb1;apply Zb;intro b1 hb1;apply W_reads (by kernel_rfl);simp[s1,an1,av1,topload,ln1,lv1,Gh];subst hb1;apply Za;simp[Zk7];apply hQ';have hB1:((18446744073709551615:Nat):Int)=18446744073709551615:=rfl;have he:18446744073709551615*y1+(un1+y1)=un*B64+un1:=by rw[hEq];show 18446744073709551615*y1+(un1+y1)=y1*18446744073709551616+un1;omega
   refine⟨rfl,rfl,by simp,by simp,by simp,18446744073709551615,(un1+y1)%B64,decide ((un1+y1)/B64≠0),⟨?_,by decide,?_,?_⟩,by simp[hB1],by simp,by simp⟩;·have:U/V<18446744073709551616:=hQB;omega
   ·intro h;have h0:(un1+y1)/B64=0:=by have:=of_decide_eq_false h;omega
    have hm:(un1+y1)%B64=un1+y1:=Nat.mod_eq_of_lt (div0_lt (by decide) h0);rw[hm];refine⟨he,?_⟩;rw[←hm];exact Nat.mod_lt _ (by decide)
   ·intro h;have h0: ¬ (un1+y1)/B64=0:=of_decide_eq_true h;refine T.false he (by decide) ?_;have h1:B64≤un1+y1:=by
     rcases Nat.lt_or_ge (un1+y1) B64 with h'|h';·exact absurd (Nat.div_eq_of_lt h') h0
     ·exact h'
    have h2:B64*B64≤(un1+y1)*B64:=Nat.mul_le_mul_right _ h1;have h3:18446744073709551615*y0≤B64*B64:=Nat.mul_le_mul (by decide) (by omega);omega
  ·refine Zc (t:=false) (by simp;omega) ?_;have hlt1:un<y1:=by omega
   apply W_reads (by kernel_rfl);simp[s1,an,an1,av1,topload,ln,ln1,lv1,Zg6 hlt1 bun1 by1];apply hQ';refine⟨rfl,rfl,by simp,by simp,by simp,(un*B64+un1)/y1,(un*B64+un1)%y1,false,⟨T.first,?_,?_,fun h=>by cases h⟩,by simp,by simp,by simp⟩;·rw[Nat.div_lt_iff_lt_mul hp,Nat.mul_comm B64 y1];have:(un+1)*B64≤y1*B64:=Nat.mul_le_mul_right _ hlt1;rw[Nat.succ_mul]at this;omega
   ·intro _;exact⟨by rw[Nat.mul_comm];exact Nat.div_add_mod _ _,Nat.lt_trans (Nat.mod_lt _ hp) by1⟩
 rintro⟨k,tm,H'⟩ ⟨hk,hH,t0,t1,t5,q,r,sure,Tr0,t6,t7,t8⟩;simp only at hk hH t0 t1 t5 t6 t7 t8;subst hk;subst hH;refine Qz (fun s'=>s'.k=195∧s'.H=H'∧s'.tm.get 0=some uv∧s'.tm.get 1=some vv∧s'.tm.get 5=some (.int .i64 (n:Int))∧ ∃(q:Nat),U/V≤q∧q≤U/V+1∧q<B64∧s'.tm.get 6=some (.int .u64 (q:Int))) ?_ ?_;·intro Q'' hQ'';apply Zx;refine Qg (fun m s'=>s'.k=195∧s'.H=H'∧s'.tm.get 0=some uv∧s'.tm.get 1=some vv∧s'.tm.get 5=some (.int .i64 (n:Int))∧ ∃(r:Nat) (sure:Bool),Trial V U y1 (un*B64+un1) m r sure∧s'.tm.get 6=some (.int .u64 (m:Int))∧s'.tm.get 7=some (.int .u64 (r:Int))∧s'.tm.get 8=some (.bool sure)) ?_ q _ ⟨rfl,rfl,t0,t1,t5,r,sure,Tr0,t6,t7,t8⟩;clear t0 t1 t5 t6 t7 t8 Tr0;rintro q ⟨k,tm,H2⟩ ⟨hk,hH,t0,t1,t5,r,sure,Tr0,t6,t7,t8⟩ Q' hQ';simp only at hk hH t0 t1 t5 t6 t7 t8;subst hk;subst hH;apply Zb;intro b3 hb3;apply Zb;intro b4 hb4;apply Za;simp[t8];subst hb4;cases sure with
  |true=>refine Zc (t:=false) (by simp) ?_;apply Qf;apply hQ';left;exact⟨rfl,hQ'' _ ⟨rfl,rfl,by simp[t0],by simp[t1],by simp[t5],q,Tr0.ge,Tr0.yes rfl,Tr0.lt,by simp[t6]⟩⟩
  |false=>
   refine Zc (t:=true) (by simp) ?_;apply Zj;subst hb3;obtain⟨hqr,hrB⟩:=Tr0.no rfl;have hqB:=Tr0.lt;apply Zx;apply Zb;intro b3 hb3;apply Za;simp[t6,t1,t5,s2,av2,lv2,Ao hqB by0];subst hb3;obtain⟨hi,hhi⟩: ∃hi,hi=q*y0/B64:=⟨_,rfl⟩;obtain⟨lo,hlo⟩: ∃lo,lo=q*y0%B64:=⟨_,rfl⟩;have ehl:q*y0=B64*hi+lo:=by rw[hhi,hlo];exact(Nat.div_add_mod _ _).symm
   have hloB:lo<B64:=by rw[hlo];exact Nat.mod_lt _ (by decide)
   rw[←hhi,←hlo];have stop:q*y0≤r*B64+un2→q≤U/V+1:=fun h=>T.false hqr hqB h;have on:r*B64+un2<q*y0→0<q∧U/V≤q-1∧(q-1)*y1+(r+y1)=un*B64+un1:=fun h=>by have h1:=T.true hqr h;have hq0:0<q:=Nat.lt_of_le_of_lt (Nat.zero_le _) h1;refine⟨hq0,Nat.le_sub_one_of_lt h1,?_⟩;obtain⟨q',rfl⟩: ∃q',q=q'+1:=⟨q-1,by omega⟩;rw[Nat.succ_mul]at hqr;rw[Nat.add_sub_cancel];omega
   apply Zb;intro b3 hb3;apply Zb;intro b4 hb4;have exitk: ∀tm',q*y0≤r*B64+un2→tm'.get 0=some uv→tm'.get 1=some vv→tm'.get 5=some (.int .i64 (n:Int))→tm'.get 6=some (.int .u64 (q:Int))→Q' (.exit 0) ⟨195,tm',H2⟩:=fun tm' h a b c d=>by apply hQ';left;exact⟨rfl,hQ'' _ ⟨rfl,rfl,a,b,c,q,Tr0.ge,stop h,hqB,d⟩⟩
   have onk: ∀tm',r*B64+un2<q*y0→tm'.get 0=some uv→tm'.get 1=some vv→tm'.get 5=some (.int .i64 (n:Int))→tm'.get 6=some (.int .u64 (q:Int))→tm'.get 7=some (.int .u64 (r:Int))→tm'.get 8=some (.bool false)→W Tryz.prog Zo b3 ⟨195,tm',H2⟩ (Xk 1 Q'):=fun tm' h t0 t1 t5 t6 t7 t8=>by
    obtain⟨hq0,hge,heq⟩:=on h;subst hb3;apply Zb;intro b3 hb3;apply Za;simp[t6,Zl6 hqB hq0];subst hb3;apply Zb;intro b3 hb3;apply Za;simp;subst hb3;apply Zb;intro b3 hb3;apply Za;simp[t7,t1,t5,s1,av1,lv1,Gh];subst hb3;apply Zb;intro b3 hb3;apply Za;simp[Zk7];subst hb3;by_cases hov:(r+y1)/B64=0;·refine Zc (t:=false) (by simp;exact div0_lt (by decide) hov) ?_;have hm:(r+y1)%B64=r+y1:=Nat.mod_eq_of_lt (div0_lt (by decide) hov);apply Zj;apply hQ';refine⟨q-1,by omega,rfl,rfl,by simp[t0],by simp[t1],by simp[t5],(r+y1)%B64,false,⟨hge,by omega,fun _=>⟨by rw[hm];exact heq,Nat.mod_lt _ (by decide)⟩,fun h=>by cases h⟩,by simp,by simp,by simp[t8]⟩
    ·have h1:B64≤r+y1:=by
      rcases Nat.lt_or_ge (r+y1) B64 with h'|h';·exact absurd (Nat.div_eq_of_lt h') hov
      ·exact h'
     refine Zc (t:=true) (by simp;exact h1) ?_;apply Qf;right;refine⟨by decide,?_⟩;apply hQ';left;refine⟨rfl,hQ'' _ ⟨rfl,rfl,by simp[t0],by simp[t1],by simp[t5],q-1,hge,?_,by omega,by simp⟩⟩;refine T.false heq (by omega) ?_;have h2:B64*B64≤(r+y1)*B64:=Nat.mul_le_mul_right _ h1;have h3:(q-1)*y0≤B64*B64:=Nat.mul_le_mul (by omega) (by omega);omega
   apply Za;by_cases c1:hi<r;·simp[t7,c1];subst hb4;refine Zc (t:=true) (by simp) ?_;apply Qf;right;refine⟨by decide,exitk _ ?_ (by simp[t0]) (by simp[t1]) (by simp[t5]) (by simp[t6])⟩;have:B64*(hi+1)≤B64*r:=Nat.mul_le_mul_left _ c1;rw[Nat.mul_succ,Nat.mul_comm B64 r]at this;omega
   ·by_cases c2:hi=r
    ·by_cases c3:lo≤un2;·simp[t7,t0,t5,c1,Ze2,c2,s2,an2,ln2,Zk2,c3];subst hb4;refine Zc (t:=true) (by simp) ?_;apply Qf;right;refine⟨by decide,exitk _ ?_ (by simp[t0]) (by simp[t1]) (by simp[t5]) (by simp[t6])⟩;rw[ehl,c2,Nat.mul_comm];omega
     ·simp[t7,t0,t5,c1,Ze2,c2,s2,an2,ln2,Zk2,c3];subst hb4;refine Zc (t:=false) (by simp) ?_;apply Zj;show W _ _ b3 _ _;refine onk _ ?_ (by simp[t0]) (by simp[t1]) (by simp[t5]) (by simp[t6]) (by simp[t7]) (by simp[t8]);rw[ehl,c2,Nat.mul_comm];omega
    ·simp[t7,t0,t5,c1,Ze2,c2];subst hb4;refine Zc (t:=false) (by simp) ?_;apply Zj;show W _ _ b3 _ _;refine onk _ ?_ (by simp[t0]) (by simp[t1]) (by simp[t5]) (by simp[t6]) (by simp[t7]) (by simp[t8]);have:B64*(r+1)≤B64*hi:=Nat.mul_le_mul_left _ (by omega);rw[Nat.mul_succ,Nat.mul_comm B64 r]at this;omega
 clear t0 t1 t5 t6 t7 t8 Tr0 q r sure;rintro⟨k,tm,H2⟩ ⟨hk,hH,t0,t1,t5,q,qge,qle,qB,t6⟩;simp only at hk hH t0 t1 t5 t6;subst hk;subst hH;have hvlen: ∀{H1:AH},But (Xt U0) H2 H1→Sl H1 vv vs:=fun k=>hv.but k hap;apply Zb;intro b1 hb1;apply Za;simp;subst hb1;refine Qz (fun s'=>s'.k=195∧s'.tm.get 0=some uv∧s'.tm.get 1=some vv∧s'.tm.get 5=some (.int .i64 (n:Int))∧s'.tm.get 6=some (.int .u64 (q:Int))∧But (Xt U0) H2 s'.H∧KA n0 H2 s'.H∧ ∃(L:List Nat) (carry borrow:Nat),L.length=n∧Dig B64 L∧carry<B64∧borrow≤1∧dv B64 L+q*V=dv B64 (us.take n)+B64^n*(carry+borrow)∧Own n0 s'.H U0 (pre++(L++us.drop n)++post)∧s'.tm.get 13=some (.int .u64 (carry:Int))∧s'.tm.get 14=some (.int .u64 (borrow:Int))) ?_ ?_
 ·intro Q'' hQ'';apply Zb;intro b1 hb1;apply Za;simp[t1,lenv];subst hb1;apply Zx;refine Qg (fun m s'=>s'.k=195∧s'.tm.get 0=some uv∧s'.tm.get 1=some vv∧s'.tm.get 5=some (.int .i64 (n:Int))∧s'.tm.get 6=some (.int .u64 (q:Int))∧But (Xt U0) H2 s'.H∧KA n0 H2 s'.H∧s'.tm.get 113=some vv∧s'.tm.get 114=some (.int .i64 (n:Int))∧ ∃(i:Nat) (L:List Nat) (carry borrow:Nat),m+i=n∧L.length=i∧Dig B64 L∧carry<B64∧borrow≤1∧dv B64 L+q*dv B64 (vs.take i)=dv B64 (us.take i)+B64^i*(carry+borrow)∧Own n0 s'.H U0 (pre++(L++us.drop i)++post)∧s'.tm.get 13=some (.int .u64 (carry:Int))∧s'.tm.get 14=some (.int .u64 (borrow:Int))∧s'.tm.get 115=some (.int .i64 (i:Int))) ?_ n _ ⟨rfl,by simp[t0],by simp[t1],by simp[t5],by simp[t6],.refl _ _,.refl _ _,by simp[t1],by simp,0,[],0,0,by omega,rfl,.nil _,by decide,by omega,by simp[dv],by simpa using hu,by simp,by simp,by simp⟩;clear t0 t1 t5 t6;rintro m ⟨k,tm,H3⟩ ⟨hk,t0,t1,t5,t6,kb,ka,t113,t114,i,L,carry,borrow,hmi,hL,dL,hc,hb,heq,own,t13,t14,t115⟩ Q' hQ';simp only at hk t0 t1 t5 t6 kb ka t113 t114 t13 t14 t115 own;subst hk;apply Zb;intro b3 hb3;apply Za;simp[t114,t115];subst hb3;apply Zb;intro b3 hb3;by_cases hi:i<n
  ·refine Zc (t:=true) (by simp[hi]) ?_;apply Zj;subst hb3;have hv3:=hvlen kb;have a1:Yt Tryz.prog 30 vv (.int .i64 (i:Int))=some (adr vv i):=hv3.adr Zk (by omega);have hx:vs[i]<B64:=dvs.get (List.getElem?_eq_getElem (by omega));have d1:Yn Tryz.prog H3 101 (adr vv i)=some (.int .u64 (vs[i]:Nat)):=hv3.load (by omega);have a2:Yt Tryz.prog 30 uv (.int .i64 (i:Int))=some (adr U0 (j+i)):=hview _ Zk .i64 i (by omega);have hud:us.drop i=us[i]::us.drop (i+1):=List.drop_eq_getElem_cons (by omega);have huB:us[i]<B64:=du.get (List.getElem?_eq_getElem (by omega));have d2:Yn Tryz.prog H3 101 (adr U0 (j+i))=some (.int .u64 (us[i]:Nat)):=by have:=own.segload hj (i:=i) (by simp;omega);rw[this];congr 3;rw[List.getElem_append_right (by omega)];simp[hL]
   obtain⟨x,hxe⟩: ∃x,x=vs[i]:=⟨_,rfl⟩;obtain⟨y,hye⟩: ∃y,y=us[i]:=⟨_,rfl⟩;rw[←hxe]at hx d1;rw[←hye]at huB d2 hud;have step:=mul_sub_step hx qB hc huB hb;simp only at step;obtain⟨ph,hph⟩: ∃ph,ph=x*q/B64:=⟨_,rfl⟩;obtain⟨pl,hpl⟩: ∃pl,pl=x*q%B64:=⟨_,rfl⟩;rw[←hph,←hpl]at step;obtain⟨sm,hsm⟩: ∃sm,sm=(pl+carry)%B64:=⟨_,rfl⟩;obtain⟨ov,hov⟩: ∃ov,ov=(pl+carry)/B64:=⟨_,rfl⟩;rw[←hsm,←hov]at step;obtain⟨y',hy'⟩: ∃y',y'=(y+B64-sm-borrow)%B64:=⟨_,rfl⟩;obtain⟨b',hb'⟩: ∃b',b'=(if y<sm+borrow then 1 else 0):=⟨_,rfl⟩;rw[←hy',←hb']at step;obtain⟨st1,st2,st3⟩:=step;have m1:Zq Tryz.prog Zo 202 [.int .u64 (x:Int),.int .u64 (q:Int)] H3=some (.tuple #[.int .u64 (ph:Int),.int .u64 (pl:Int)],H3):=by rw[hph,hpl];exact Ao hx qB H3
   have m2:Zq Tryz.prog Zo 203 [.int .u64 (pl:Int),.int .u64 (carry:Int),.int .u64 0] H3=some (.tuple #[.int .u64 (sm:Int),.int .u64 (ov:Int)],H3):=by rw[hsm,hov];exact Gh pl carry H3
   have m3:Zd .add .u64 (ph:Int) (ov:Int)=some (.int .u64 ((ph+ov:Nat):Int)):=Dn st1;have m4:Zq Tryz.prog Zo 206 [.int .u64 (y:Int),.int .u64 (sm:Int),.int .u64 (borrow:Int)] H3=some (.tuple #[.int .u64 (y':Int),.int .u64 (b':Int)],H3):=by rw[hy',hb'];exact Az y sm borrow H3 hb
   obtain⟨H4,sto,own4,kb4,ka4⟩:=own.segstore hj (i:=i) (by simp;omega) y';rw[hud,Ks L y y' _ hL]at own4;apply Zb;intro b3 hb3;apply Zx;apply Zb;intro b4 hb4;apply Za;simp[t113,t115,a1,d1];subst hb4;apply Zb;intro b4 hb4;apply Za;simp[t6,m1];subst hb4;apply Zb;intro b4 hb4;apply Za;simp[t13,m2];subst hb4;apply Zb;intro b4 hb4;apply Za;simp[m3];subst hb4;apply Za;simp[t0,t14,a2,d2,m4,sto];subst hb3;apply Za;simp[t115,Qd (x:=i) (by omega)];apply hQ';refine⟨m-1,by omega,rfl,by simp[t0],by simp[t1],by simp[t5],by simp[t6],kb.trans kb4,ka.trans ka4,by simp[t113],by simp[t114],i+1,L++[y'],ph+ov,b',by omega,by simp[hL],dL.append (.cons st2 (.nil _)),st1,?_,?_,by simpa using own4,by simp,by simp,by simp⟩;·rw[hb'];split<;>omega
   ·rw[Xc,hL,Qx (xs:=vs) (by omega),Qx (xs:=us) (by omega),Xc,Xc,List.length_take,List.length_take,Nat.min_eq_left (by omega),Nat.min_eq_left (by omega),←hxe,←hye];simp only[dv,Nat.mul_zero,Nat.add_zero];have e1:B64^i*(y'+x*q+carry+borrow)=B64^i*(y+B64*(ph+ov+b')):=by rw[st3]
    rw[Nat.mul_add (B64^i) y,←Nat.mul_assoc (B64^i) B64,show B64^i*B64=B64^(i+1)from rfl]at e1;rw[show y'+x*q+carry+borrow=y'+x*q+(carry+borrow) by omega,Nat.mul_add,Nat.mul_add]at e1;rw[Nat.mul_add q,show q*(B64^i*x)=B64^i*(x*q) by rw[Nat.mul_left_comm,Nat.mul_comm q x]];omega
  ·refine Zc (t:=false) (by simp[hi]) ?_;apply Qf;apply hQ';left;obtain rfl:i=n:=by omega
   have e1:vs.take i=vs:=by rw[←hvs,List.take_length]
   rw[e1,←hV]at heq;exact⟨rfl,hQ'' _ ⟨rfl,by simp[t0],by simp[t1],by simp[t5],by simp[t6],kb,ka,L,carry,borrow,hL,dL,hc,hb,heq,own,by simp[t13],by simp[t14]⟩⟩
 clear t0 t1 t5 t6;rintro⟨k,tm,H3⟩ ⟨hk,t0,t1,t5,t6,kb,ka,L,carry,borrow,hL,dL,hc,hb,heq,own,t13,t14⟩;simp only at hk t0 t1 t5 t6 kb ka own t13 t14;subst hk;have hdn:us.drop n=[un]:=by rw[List.drop_eq_getElem_cons (by omega),List.drop_eq_nil_of_le (by omega),←hun]
 have hUe:U=dv B64 (us.take n)+B64^n*un:=by have:=congrArg (dv B64) (Ax hus);rw[Xc,List.length_take,Nat.min_eq_left (by omega),←hun,←hU]at this;simpa[dv]using this
 rw[hdn]at own;have d2:Yn Tryz.prog H3 101 (adr U0 (j+n))=some (.int .u64 (un:Int)):=by have:=own.segload hj (i:=n) (by simp;omega);rw[this,get_mid L un [] hL]
 obtain⟨y',hy'⟩: ∃y',y'=(un+B64-carry-borrow)%B64:=⟨_,rfl⟩;obtain⟨b',hb'⟩: ∃b',b'=(if un<carry+borrow then 1 else 0):=⟨_,rfl⟩;have hb1:b'≤1:=by rw[hb'];split<;>omega
 have hy'B:y'<B64:=by rw[hy'];exact Nat.mod_lt _ (by decide)
 have hst:y'+(carry+borrow)=un+B64*b':=by
  by_cases h:un<carry+borrow;·rw[hy',hb',if_pos h,Nat.mod_eq_of_lt (by omega)];omega
  ·rw[hy',hb',if_neg h];have:un+B64-carry-borrow=(un-carry-borrow)+B64:=by omega
   rw[this,Nat.add_mod_right,Nat.mod_eq_of_lt (by omega)];omega
 have m4:Zq Tryz.prog Zo 206 [.int .u64 (un:Int),.int .u64 (carry:Int),.int .u64 (borrow:Int)] H3=some (.tuple #[.int .u64 (y':Int),.int .u64 (b':Int)],H3):=by rw[hy',hb'];exact Az un carry borrow H3 hb
 obtain⟨H4,sto,own4,kb4,ka4⟩:=own.segstore hj (i:=n) (by simp;omega) y';rw[Ks L un y' [] hL]at own4;have dL':Dig B64 (L++[y']):=dL.append (.cons hy'B (.nil _));have hR:dv B64 (L++[y'])+q*V=U+B64^(n+1)*b':=by
  rw[Xc,hL];simp only[dv,Nat.mul_zero,Nat.add_zero];have e1:B64^n*(y'+(carry+borrow))=B64^n*(un+B64*b'):=by rw[hst]
  rw[Nat.mul_add,Nat.mul_add (B64^n) un,←Nat.mul_assoc (B64^n) B64,show B64^n*B64=B64^(n+1)from rfl]at e1;omega
 have hRlt:dv B64 (L++[y'])<B64^(n+1):=by have:=Ui dL';simpa[hL]using this
 have hUlt:U<B64^(n+1):=by have:=Ui du;rwa[hus,←hU]at this
 have ta:=take_away Vpos qge qle hUlt hRlt hb1 hR;apply Zb;intro b1 hb1';apply Za;simp[t0,t5,t13,t14,an,d2,m4,sto];subst hb1';rcases ta with⟨rfl,rfl,hRe⟩|⟨rfl,hq1,hRe⟩;·apply Zb;intro b1 hb1';apply Zb;intro b2 hb2;apply Za;simp[Zk7];subst hb2;refine Zc (t:=false) (by simp) ?_;apply Zj;subst hb1';apply Zb;intro b1 hb1';apply Za;simp[t6];subst hb1';apply Zn;simp;exact⟨kb.trans kb4,ka.trans ka4,L++[y'],by simp[hL],dL',hRe,by simpa using own4⟩
 ·have hq0:0<q:=by rw[hq1];exact Nat.succ_pos _
  have hqe:q-1=U/V:=by rw[hq1];rfl
  apply Zb;intro b1 hb1';apply Zb;intro b2 hb2;apply Za;simp[Zk7];subst hb2;refine Zc (t:=true) (by simp) ?_;apply Zb;intro b2 hb2;apply Za;simp[t6,Zl6 qB hq0];subst hb2;apply Zb;intro b2 hb2;apply Za;simp;subst hb2;obtain⟨us',hus'⟩: ∃us',us'=L++[y']:=⟨_,rfl⟩;have us'len:us'.length=n+1:=by rw[hus'];simp[hL]
  rw[←hus']at own4 dL' hRe hRlt;have kb5:=kb.trans kb4;have ka5:=ka.trans ka4;have seg1:us'.take n++us'.drop n=us':=List.take_append_drop n us';refine Qz (fun s'=>s'.k=195∧s'.tm.get 0=some uv∧s'.tm.get 5=some (.int .i64 (n:Int))∧s'.tm.get 6=some (.int .u64 ((U/V:Nat):Int))∧But (Xt U0) H2 s'.H∧KA n0 H2 s'.H∧ ∃(L:List Nat) (back:Nat),L.length=n∧Dig B64 L∧back≤1∧dv B64 L+B64^n*back=dv B64 (us'.take n)+V∧Own n0 s'.H U0 (pre++(L++us'.drop n)++post)∧s'.tm.get 21=some (.int .u64 (back:Int))) ?_ ?_
  ·intro Q'' hQ'';apply Zb;intro b3 hb3;apply Za;simp[t1,lenv];subst hb3;apply Zx;refine Qg (fun m s'=>s'.k=195∧s'.tm.get 0=some uv∧s'.tm.get 5=some (.int .i64 (n:Int))∧s'.tm.get 6=some (.int .u64 ((U/V:Nat):Int))∧But (Xt U0) H2 s'.H∧KA n0 H2 s'.H∧s'.tm.get 166=some vv∧s'.tm.get 167=some (.int .i64 (n:Int))∧ ∃(i:Nat) (L:List Nat) (back:Nat),m+i=n∧L.length=i∧Dig B64 L∧back≤1∧dv B64 L+B64^i*back=dv B64 (us'.take i)+dv B64 (vs.take i)∧Own n0 s'.H U0 (pre++(L++us'.drop i)++post)∧s'.tm.get 21=some (.int .u64 (back:Int))∧s'.tm.get 168=some (.int .i64 (i:Int))) ?_ n _ ⟨rfl,by simp[t0],by simp[t5],by simp[hqe],kb5,ka5,by simp[t1],by simp,0,[],0,by omega,rfl,.nil _,by omega,by simp[dv],by simpa using own4,by simp,by simp⟩;clear t0 t1 t5 t6 t13 t14;rintro m ⟨k,tm,H5⟩ ⟨hk,t0,t5,t6,kb,ka,t166,t167,i,L1,back,hmi,hL1,dL1,hbk,heq2,own,t21,t168⟩ Q' hQ';simp only at hk t0 t5 t6 kb ka t166 t167 t21 t168 own;subst hk;apply Zb;intro b3 hb3;apply Za;simp[t167,t168];subst hb3;apply Zb;intro b3 hb3;by_cases hi:i<n
   ·refine Zc (t:=true) (by simp[hi]) ?_;apply Zj;subst hb3;have hv3:=hvlen kb;have a1:Yt Tryz.prog 30 vv (.int .i64 (i:Int))=some (adr vv i):=hv3.adr Zk (by omega);have hx:vs[i]<B64:=dvs.get (List.getElem?_eq_getElem (by omega));have d1:Yn Tryz.prog H5 101 (adr vv i)=some (.int .u64 (vs[i]:Nat)):=hv3.load (by omega);have a2:Yt Tryz.prog 30 uv (.int .i64 (i:Int))=some (adr U0 (j+i)):=hview _ Zk .i64 i (by omega);have hud:us'.drop i=us'[i]::us'.drop (i+1):=List.drop_eq_getElem_cons (by omega);have huB:us'[i]<B64:=dL'.get (List.getElem?_eq_getElem (by omega));have d2:Yn Tryz.prog H5 101 (adr U0 (j+i))=some (.int .u64 (us'[i]:Nat)):=by have:=own.segload hj (i:=i) (by simp;omega);rw[this];congr 3;rw[List.getElem_append_right (by omega)];simp[hL1]
    obtain⟨x,hxe⟩: ∃x,x=vs[i]:=⟨_,rfl⟩;obtain⟨y,hye⟩: ∃y,y=us'[i]:=⟨_,rfl⟩;rw[←hxe]at hx d1;rw[←hye]at huB d2 hud;obtain⟨y2,hy2⟩: ∃y2,y2=(y+x+back)%B64:=⟨_,rfl⟩;obtain⟨c2,hc2⟩: ∃c2,c2=(y+x+back)/B64:=⟨_,rfl⟩;have m4:Zq Tryz.prog Zo 203 [.int .u64 (y:Int),.int .u64 (x:Int),.int .u64 (back:Int)] H5=some (.tuple #[.int .u64 (y2:Int),.int .u64 (c2:Int)],H5):=by rw[hy2,hc2];exact Bu y x back H5 hbk
    have hdm:B64*c2+y2=y+x+back:=by rw[hy2,hc2];exact Nat.div_add_mod _ _
    have hc1:c2≤1:=by
     have:c2<2:=by rw[hc2,Nat.div_lt_iff_lt_mul (by decide)];omega
     omega
    obtain⟨H6,sto,own6,kb6,ka6⟩:=own.segstore hj (i:=i) (by simp;omega) y2;rw[hud,Ks L1 y y2 _ hL1]at own6;apply Zb;intro b3 hb3;apply Zx;apply Zb;intro b4 hb4;apply Za;simp[t166,t168,a1,d1];subst hb4;apply Za;simp[t0,t21,a2,d2,m4,sto];subst hb3;apply Za;simp[t168,Qd (x:=i) (by omega)];apply hQ';refine⟨m-1,by omega,rfl,by simp[t0],by simp[t5],by simp[t6],kb.trans kb6,ka.trans ka6,by simp[t166],by simp[t167],i+1,L1++[y2],c2,by omega,by simp[hL1],dL1.append (.cons (by rw[hy2];exact Nat.mod_lt _ (by decide)) (.nil _)),hc1,?_,by simpa using own6,by simp,by simp⟩;rw[Xc,hL1,Qx (xs:=vs) (by omega),Qx (xs:=us') (by omega),Xc,Xc,List.length_take,List.length_take,Nat.min_eq_left (by omega),Nat.min_eq_left (by omega),←hxe,←hye];simp only[dv,Nat.mul_zero,Nat.add_zero];have e1:B64^i*(B64*c2+y2)=B64^i*(y+x+back):=by rw[hdm]
    rw[Nat.mul_add,←Nat.mul_assoc (B64^i) B64,show B64^i*B64=B64^(i+1)from rfl,Nat.mul_add,Nat.mul_add]at e1;omega
   ·refine Zc (t:=false) (by simp[hi]) ?_;apply Qf;apply hQ';left;obtain rfl:i=n:=by omega
    have e1:vs.take i=vs:=by rw[←hvs,List.take_length]
    rw[e1,←hV]at heq2;exact⟨rfl,hQ'' _ ⟨rfl,by simp[t0],by simp[t5],by simp[t6],kb,ka,L1,back,hL1,dL1,hbk,heq2,own,by simp[t21]⟩⟩
  clear t0 t1 t5 t6 t13 t14;rintro⟨k,tm,H5⟩ ⟨hk,t0,t5,t6,kb,ka,L2,back,hL2,dL2,hbk,heq2,own,t21⟩;simp only at hk t0 t5 t6 kb ka own t21;subst hk;have hdn2:us'.drop n=[y']:=by rw[hus',←hL];simp
  rw[hdn2]at own;have d3:Yn Tryz.prog H5 101 (adr U0 (j+n))=some (.int .u64 (y':Int)):=by have:=own.segload hj (i:=n) (by simp;omega);rw[this,get_mid L2 y' [] hL2]
  obtain⟨z,hz⟩: ∃z,z=(y'+back)%B64:=⟨_,rfl⟩;obtain⟨t,ht⟩: ∃t,t=(y'+back)/B64:=⟨_,rfl⟩;have hzt:B64*t+z=y'+back:=by rw[hz,ht];exact Nat.div_add_mod _ _
  have hzB:z<B64:=by rw[hz];exact Nat.mod_lt _ (by decide)
  have ma:Zd .add .u64 (y':Int) (back:Int)=some (.int .u64 (z:Int)):=by rw[Fw,hz]
  obtain⟨H6,sto6,own6,kb6,ka6⟩:=own.segstore hj (i:=n) (by simp;omega) z;rw[Ks L2 y' z [] hL2]at own6;have dz:Dig B64 (L2++[z]):=dL2.append (.cons hzB (.nil _));have fin:dv B64 (L2++[z])=U%V:=by
   have hlt2:dv B64 (L2++[z])<B64^(n+1):=by have:=Ui dz;simpa[hL2]using this
   have hus2:dv B64 us'=dv B64 (us'.take n)+B64^n*y':=by have:=congrArg (dv B64) seg1;rw[hdn2,Xc,List.length_take,Nat.min_eq_left (by omega)]at this;rw[←this];simp[dv]
   have e0:dv B64 (L2++[z])=dv B64 L2+B64^n*z:=by rw[Xc,hL2];simp[dv]
   have e1:B64^n*(B64*t+z)=B64^n*(y'+back):=by rw[hzt]
   rw[Nat.mul_add,←Nat.mul_assoc (B64^n) B64,show B64^n*B64=B64^(n+1)from rfl,Nat.mul_add]at e1;have ht1:t≤1:=by
    have:t<2:=by rw[ht,Nat.div_lt_iff_lt_mul (by decide)];omega
    omega
   have hm:U%V<B64^(n+1):=Nat.lt_of_le_of_lt (Nat.mod_le _ _) hUlt;have hmod:U%V<V:=Nat.mod_lt _ Vpos;rcases Nat.lt_or_ge t 1 with h0|h0
   ·exfalso;obtain rfl:t=0:=by omega
    rw[Nat.mul_zero]at e1;omega
   ·obtain rfl:t=1:=by omega
    rw[Nat.mul_one]at e1;omega
  apply Za;simp[t0,t5,t21,an,d3,ma,sto6];subst hb1';apply Zb;intro b1 hb1';apply Za;simp[t6];subst hb1';apply Zn;simp;exact⟨kb.trans kb6,ka.trans ka6,L2++[z],by simp[hL2],dz,fin,by simpa using own6⟩
end
theorem Keep.top{H0 H:AH}(k:Keep H0 H):Keep H0 H.top:=⟨k.n,by have:=k.n;show min H0.lw H0.n≤H.n;omega,k.blk⟩
theorem Dy(H:AH):Keep H H.top:=(Keep.refl H).top
theorem Sl.top{H:AH}{v:Value}{xs:List Nat}(h:Sl H v xs):Sl H.top v xs:=h.keep (Dy H)
theorem Own.top{n:Nat}{H:AH}{v:Value}{xs:List Nat}(h:Own n H v xs):Own n H.top v xs:=h.mono (Nat.le_refl _) (Dy H)
theorem Zm{H:AH}{bits:Nat}{ms:List (Nat×Nat×Nat)}(h:hidden bits ms=[]):vis H bits ms=H.top:=by unfold vis;rw[h];rfl
theorem addT_blk(t:Tr Blk)(H2:AH)(n:Nat): ∀(k j:Nat),(addT t H2 n k).get j=if n≤j∧j<n+k then some (H2.blk j)else t.get j
 |0,j=>by rw[if_neg (by omega)];rfl
 |k+1,j=>by
  simp only[addT,Tr.get_set];by_cases e:j=n+k;·subst e;rw[if_pos rfl,if_pos (by omega)]
  ·rw[if_neg e,addT_blk t H2 n k j];by_cases c:n≤j∧j<n+k;·rw[if_pos c,if_pos (by omega)]
   ·rw[if_neg c,if_neg (by omega)]
theorem Yg{H H2:AH}(k:Keep H.top H2):But none H2 (grown H H2):=by
 refine⟨rfl,fun j hj _=>?_⟩;unfold AH.blk grown;simp only[addT_blk];by_cases c:H.n≤j;·have:=k.n;have:H.n≤H2.n:=this;rw[if_pos (by omega)];rfl
 ·rw[if_neg (by omega)];exact(k.blk j (by show j<H.n;omega)).symm
theorem Zu{H0 H H2:AH}(k0:Keep H0 H)(k:Keep H.top H2):Keep H0 (grown H H2):=by
 refine⟨Nat.le_trans k0.n k.n,k0.lw,fun j hj=>?_⟩;have hn:=k0.n;have:j<H.n:=by omega
 unfold grown AH.blk;simp only[addT_blk];rw[if_neg (by omega)];exact k0.blk j hj
theorem Yw{H H2:AH}(k:Keep H.top H2):H.n≤H2.lw:=by have:=k.lw;have:min H.n H.n≤H2.lw:=this;omega
theorem Zk4(H H2:AH):But none H2 (low H H2):=⟨rfl,fun j _ _=>rfl⟩
theorem low_ka{n0:Nat}{H H2:AH}(h:KA n0 H.top H2):KA n0 H (low H H2):=fun H0 k hn=>by have k2:=h H0 k.top hn;refine⟨k2.n,?_,k2.blk⟩;have:=k.lw;have:=k2.lw;show min H0.lw H0.n≤min H.lw H2.lw;omega
theorem But.none{b:Option Nat}{H H' H2:AH}(k:But b H H')(k2:But none H' H2):But b H H2:=⟨k2.n.trans k.n,fun j hn hj=>(k2.blk j (by rw[k.n];exact hn) (fun e=>by cases e)).trans (k.blk j hn hj)⟩
theorem Sl.same{H H':AH}{v:Value}{xs:List Nat}(h:Sl H v xs)(k:But none H H'):Sl H' v xs:=h.but k fun c e=>by cases e
theorem Own.same{n:Nat}{H H':AH}{v:Value}{xs:List Nat}(h:Own n H v xs)(k:But none H H'):Own n H' v xs:=h.but k fun c e=>by cases e
theorem But.top{b:Option Nat}{H H':AH}(k:But b H.top H'):But b H H':=⟨k.n,k.blk⟩
theorem Own.store_lw{n:Nat}{H H':AH}{v:Value}{xs:List Nat}(h:Own n H v xs){i:Nat}(hi:i<xs.length){y:Nat}(st:Xp Tryz.prog H.top 101 (adr v i) (.int .u64 (y:Int))=some H'):H'.lw<H.n:=by cases h with
 |nil=>cases hi
 |mk b o cap xs cs h1 h2 h3 h4 h5 h6=>unfold Xp adr at st;simp only[sU64]at st;have h4':H.top.blk b= .rw 1 cs:=h4;rw[show Nat.beq (Value.int .u64 (y:Int)).cells.size 1=true from rfl,cond_true,AH.write_def,h4']at st;simp only at st;cases hc:(Nat.ble (o+i+(Value.int .u64 (y:Int)).cells.toList.length) cs.length&&(Value.int .u64 (y:Int)).cells.toList.all one)with|false=>rw[hc]at st;cases st|true=>rw[hc,cond_true]at st;cases st;show min H.n b<H.n;omega
theorem Own.putTop{n:Nat}{H:AH}{v:Value}{xs:List Nat}(h:Own n H v xs){i:Nat}(hi:i<xs.length)(y:Nat): ∃H2,Xp Tryz.prog H.top 101 (adr v i) (.int .u64 (y:Int))=some H2∧H2.n=H.n∧H2.lw<H.n∧Own n (low H H2) v (xs.set i y)∧But (Xt v) H (low H H2)∧KA n H (low H H2):=by obtain⟨H2,h1,h2,h3,h4,h5⟩:=h.top.put hi y;exact⟨H2,h1,h3,h.store_lw hi h1,h2.same (Zk4 H H2),(But.none (b:=Xt v) (H:=H) (H':=H2) ⟨h3,fun j _ hj=>h4 j hj⟩ (Zk4 H H2)),low_ka h5⟩
theorem hideT_get(t:Tr Blk): ∀(hs:List Nat)(j:Nat),j∉hs→(Ff t hs).get j=t.get j|[],j,_=>rfl|i::r,j,h=>by simp only[Ff,Tr.get_set];rw[if_neg (by intro e;subst e;exact h (List.mem_cons_self ..))];exact hideT_get t r j (fun h'=>h (List.mem_cons_of_mem _ h'))
theorem hidden_ge{n bits:Nat} : ∀{ms:List (Nat×Nat×Nat)},(∀x∈ms,n≤x.2.1)→ ∀i∈hidden bits ms,n≤i
 |[],_,i,h=>by cases h
 |(k,lo,hi)::r,hm,i,h=>by have ih:=hidden_ge (bits:=bits) (ms:=r) (fun x hx=>hm x (List.mem_cons_of_mem _ hx)) i;have h0:n≤lo:=hm (k,lo,hi) (List.mem_cons_self ..);unfold hidden at h;cases hb:bits.testBit k with
  |true=>rw[hb,cond_true]at h;exact ih h
  |false=>
   rw[hb,cond_false]at h;rcases List.mem_append.mp h with h|h;·obtain⟨a,_,rfl⟩:=List.mem_map.mp h;omega
   ·exact ih h
theorem Qy{H0 H:AH}{bits:Nat}{ms:List (Nat×Nat×Nat)}(k:Keep H0 H)(h: ∀x∈ms,H0.n≤x.2.1):Keep H0 (vis H bits ms):=by have k2:=k.top;refine⟨k2.n,k2.lw,fun j hj=>?_⟩;rw[←k.blk j hj];unfold vis AH.blk;simp only;rw[hideT_get];intro hm;have:=hidden_ge h j hm;omega
theorem conv_lz{n:Nat}(h:n≤64):Dq Tryz.prog 3 228 (.int .i64 (64-(n:Int)))=some (.int .u64 ((64-n:Nat):Int)):=by have:=Zf5 (n:=64-n) (by show _<18446744073709551616;omega);rw[←this];congr 2;omega
theorem blen64{x:Nat}(hx:x<B64):Zf x≤64:=by
 rcases Nat.lt_or_ge 64 (Zf x)with h|h
 ·have h0:x≠0:=by rintro rfl;simp[Zf]at h
  have a:=Ul h0;have b:2^64≤2^(Zf x-1):=Nat.pow_le_pow_right (by decide) (by omega);have hx:x<18446744073709551616:=hx;omega
 ·exact h
theorem Gu(xs:List Nat)(j:Nat)(h:j≤xs.length):dv B64 xs=dv B64 (xs.take j)+B64^j*dv B64 (xs.drop j):=by have:=congrArg (dv B64) (List.take_append_drop j xs);rw[Xc,List.length_take,Nat.min_eq_left h]at this;exact this.symm
theorem normal_top{xs:List Nat}(dx:Dig B64 xs)(tx:Xl xs=xs)(h:0<xs.length):0<xs[xs.length-1]:=by
 rcases Nat.eq_zero_or_pos (xs[xs.length-1])with h0|h0
 ·exfalso;have hs:=Ax (n:=xs.length-1) (xs:=xs) (by omega);have e:xs=xs.take (xs.length-1)++[0]:=by rw[h0]at hs;exact hs
  have:=congrArg Xl e;rw[Kn,tx]at this;have:=congrArg List.length this;have:=Jp (xs.take (xs.length-1));rw[List.length_take]at this;omega
 ·exact h0
theorem normal_ge{xs:List Nat}(dx:Dig B64 xs)(tx:Xl xs=xs)(h:0<xs.length):B64^(xs.length-1)≤dv B64 xs:=by rw[Gu xs (xs.length-1) (by omega),List.drop_eq_getElem_cons (by omega),List.drop_eq_nil_of_le (by omega)];have:=normal_top dx tx h;simp only[dv,Nat.mul_zero,Nat.add_zero];have:B64^(xs.length-1)*1≤B64^(xs.length-1)*xs[xs.length-1]:=Nat.mul_le_mul_left _ (by omega);omega
theorem normal_ds{xs:List Nat}(dx:Dig B64 xs)(tx:Xl xs=xs):xs=ds B64 (dv B64 xs):=by rw[←Ji Zz dx,tx]
theorem shift_top{ys:List Nat}(dy:Dig B64 ys)(ty:Xl ys=ys){n:Nat}(hn:ys.length=n)(h2:0<n){s:Nat}(hs:s=64-Zf (ys[n-1]'(by omega))):s<64∧dv B64 ys*2^s<B64^n:=by
 subst hn;have h0:=normal_top dy ty (by omega);have hB:=dy.get (List.getElem?_eq_getElem (show ys.length-1<ys.length by omega));have hbl:=blen64 hB;have hbl0:0<Zf (ys[ys.length-1]):=by unfold Zf;rw[if_neg (by omega)];omega
 refine⟨by omega,?_⟩;have hlt:=Um (ys[ys.length-1]);have e:=Gu ys (ys.length-1) (by omega);rw[List.drop_eq_getElem_cons (by omega),List.drop_eq_nil_of_le (by omega)]at e;simp only[dv,Nat.mul_zero,Nat.add_zero]at e;have hl:=Ui (dy.take (ys.length-1));rw[List.length_take,Nat.min_eq_left (by omega)]at hl;generalize ys[ys.length-1]=y at*;have h1:dv B64 ys<B64^(ys.length-1)*2^Zf y:=by have:B64^(ys.length-1)*(y+1)≤B64^(ys.length-1)*2^Zf y:=Nat.mul_le_mul_left _ hlt;rw[Nat.mul_succ]at this;omega
 have h3:dv B64 ys*2^s<B64^(ys.length-1)*2^Zf y*2^s:=Nat.mul_lt_mul_of_pos_right h1 (Nat.two_pow_pos s);have h4:B64^(ys.length-1)*2^Zf y*2^s=B64^ys.length:=by rw[Nat.mul_assoc,←Nat.pow_add,hs,show Zf y+(64-Zf y)=64 by omega];obtain⟨m,hm⟩: ∃m,ys.length=m+1:=⟨ys.length-1,by omega⟩;rw[hm,Nat.add_sub_cancel,show(2:Nat)^64=B64 by decide];rfl
 rwa[h4]at h3
section
attribute [-simp] Int.natCast_add Int.natCast_mul Int.natCast_ediv Int.natCast_emod Int.natCast_pow
attribute [local simp] strip Yd LW' LR gW Yf Xh Ya Xi Yo Xj Zr Zs Zh Yp Yy Yk Yq Zi Xa Ze opd Qe Ym plain Yj Tr.get_set Qc Zp Xy Yc sameKind undef Zt Yr Yv Zk Jg Jf Yb parts Jc unV DW Xq Zv LX Zy
def Zi8(n0:Nat)(H:AH)(A B:Nat)(v:Value)(H':AH):Prop:=Keep H H'∧ ∃q r,v= .tuple #[q,r]∧Own H.n H' q (ds B64 (A/B))∧Own n0 H' r (ds B64 (A%B))∧Ka q r
theorem Fj{n m:Nat}{H H':AH}{v w:Value}{xs ys:List Nat}(a:Own n H v xs)(b:Own m H' w ys)(h:H.n≤m):Ka v w:=fun c hc hc'=>by have:=(a.blk_lo hc).2;have:=(b.blk_lo hc').1;omega
theorem cmpN_lt{a b:Nat} :(Un a b<0)↔a<b:=by
 unfold Un;split;·simp;assumption
 ·split<;>simp<;>omega
theorem lss0{a:Int} :Zd .lss .i64 a 0=some (.bool (decide (a<0))):=rfl
def sndC:Code→Code| .seq _ b=>b|c=>c
def divideTail:Code:=sndC (sndC (sndC (Tryz.f193.body.getD .skip)))
set_option maxHeartbeats 2000000 in theorem divide_one{n0:Nat}{H:AH}{va vb:Value}{xs ys:List Nat}(ha:Own n0 H va xs)(hb:Sl H vb ys)(hn0:n0≤H.n)(dx:Dig B64 xs)(dy:Dig B64 ys)(tx:Xl xs=xs)(ty:Xl ys=ys)(lx:xs.length≤17592186040000)(ly:ys.length≤17592186040000)(hy:0<ys.length)(rest: ∀tm:Tr Value,tm.get 0=some va→tm.get 1=some vb→2≤ys.length→dv B64 ys≤dv B64 xs→W Tryz.prog Zo divideTail ⟨104,tm,H⟩ fun ex s=>(ex= .norm∨ex= .ret)∧ ∃vs,Zt Tryz.prog s Tryz.f193.results.toList=some vs∧Zi8 n0 H (dv B64 xs) (dv B64 ys) (Yv vs) s.H):CW Tryz.prog Zo 193 [va,vb] H (Zi8 n0 H (dv B64 xs) (dv B64 ys)):=by
 refine Zl 104 (by decide) (by decide) Tryz.func193 rfl rfl ?_;obtain⟨v1,H1,hc1,e1,e2⟩:=Gt ha.sl hb dx dy (by omega) (by omega);subst e1;subst e2;have Bpos:0<dv B64 ys:=Nat.lt_of_lt_of_le (Nat.pow_pos (by decide)) (normal_ge dy ty hy);have lenb:=hb.len Zk;have lena:=ha.sl.len Zk;apply Zb;intro b1 hb1;apply Za;simp;subst hb1;apply Zb;intro b1 hb1;apply Zb;intro b2 hb2;apply Za;simp[hc1,lss0,cmpN_lt];subst hb2;by_cases hlt:dv B64 xs<dv B64 ys
 ·refine Zc (t:=true) (by simp[hlt]) ?_;apply Zb;intro b2 hb2;apply Za;simp;subst hb2;apply Zn;simp[Xw];refine⟨.refl H1,_,_,rfl,?_,?_,fun c hc=>by cases hc⟩;·rw[Nat.div_eq_of_lt hlt,Vd];exact .nil
  ·rw[Nat.mod_eq_of_lt hlt,←normal_ds dx tx];exact ha
 ·refine Zc (t:=false) (by simp[hlt]) ?_;apply Zj;subst hb1;apply Zb;intro b1 hb1;apply Zb;intro b2 hb2;apply Za;simp[lenb];subst hb2;by_cases h1:ys.length=1
  ·refine Zc (t:=true) (by simp[h1]) ?_;obtain⟨y,rfl⟩: ∃y,ys=[y]:=by match ys,h1 with|[y],_=>exact⟨y,rfl⟩
   have hyB:y<B64:=dy.head;have eB:dv B64 [y]=y:=by simp[dv]
   rw[eB]at Bpos hlt⊢;obtain⟨q0,H2,hmk,k2,o2,n2⟩:=Qj (H:=H1) Zk (n:=xs.length) (by omega);have hx0:0<xs.length:=by
    rcases Nat.eq_zero_or_pos xs.length with h|h;·exfalso;have:xs=[]:=List.length_eq_zero_iff.mp h;subst this;exact hlt Bpos
    ·exact h
   have w1:Zd .sub .i64 (xs.length:Int) 1=some (.int .i64 ((xs.length:Int)-1)):=by rw[Fb (by omega) hx0];congr 2;omega
   apply Zb;intro b2 hb2;apply Za;simp[lena,hmk];subst hb2;refine Qz (fun s'=>s'.k=104∧Keep H1 s'.H∧ ∃(L:List Nat) (r:Nat),L.length=xs.length∧Dig B64 L∧r<y∧dv B64 xs=y*dv B64 L+r∧Own H1.n s'.H q0 L∧s'.tm.get 6=some q0∧s'.tm.get 7=some (.int .u64 (r:Int))) ?_ ?_
   ·intro Q'' hQ'';apply Zb;intro b2 hb2;apply Za;simp[lena,w1];subst hb2;apply Zx;refine Qg (fun m s'=>s'.k=104∧Keep H1 s'.H∧m≤xs.length∧ ∃(L:List Nat) (r:Nat),L.length+m=xs.length∧Dig B64 L∧r<y∧dv B64 (xs.drop m)=y*dv B64 L+r∧Own H1.n s'.H q0 (List.replicate m 0++L)∧s'.tm.get 0=some va∧s'.tm.get 1=some vb∧s'.tm.get 6=some q0∧s'.tm.get 7=some (.int .u64 (r:Int))∧s'.tm.get 8=some (.int .i64 ((m:Int)-1))) ?_ xs.length _ ⟨rfl,k2,Nat.le_refl _,[],0,by simp,.nil _,Bpos,by simp[dv],by simpa using o2,by simp,by simp,by simp,by simp,by simp⟩;rintro m ⟨k,tm,H3⟩ ⟨hk,k3,hm,L,r,hL,dL,hr,heq,own,t0,t1,t6,t7,t8⟩ Q' hQ';simp only at hk k3 own t0 t1 t6 t7 t8;subst hk;apply Zb;intro b3 hb3;apply Zb;intro b4 hb4;apply Za;have hge:Zd .geq .i64 ((m:Int)-1) 0=some (.bool (decide (0<m))):=by show some (Value.bool (decide ((m:Int)-1≥0)))=_;congr 2;apply decide_eq_decide.mpr;omega
    simp[t8,hge];subst hb4;by_cases hm0:m=0;·subst hm0;refine Zc (t:=false) (by simp) ?_;apply Qf;apply hQ';left;exact⟨rfl,hQ'' _ ⟨rfl,k3,L,r,by omega,dL,hr,by simpa using heq,by simpa using own,by simp[t6],by simp[t7]⟩⟩
    ·refine Zc (t:=true) (by simp;omega) ?_;apply Zj;subst hb3;have em:(m:Int)-1=((m-1:Nat):Int):=by omega
     rw[em]at t8;have hi:m-1<xs.length:=by omega
     have sa:=(ha.sl.keep k3);have sb:=(hb.keep k3);have a1:=sa.adr Zk (k:= .i64) hi;have d1:=sa.top.load hi;have a2:Yt Tryz.prog 30 vb (.int .i64 0)=some (adr vb 0):=sb.adr Zk (k:= .i64) (i:=0) (by simp);have d2:Yn Tryz.prog H3.top 101 (adr vb 0)=some (.int .u64 (y:Int)):=sb.top.load (i:=0) (by simp);have hxB:xs[m-1]<B64:=dx.get (List.getElem?_eq_getElem hi);obtain⟨x,hxe⟩: ∃x,x=xs[m-1]:=⟨_,rfl⟩;rw[←hxe]at d1 hxB;have dc:=Zg6 hr hxB hyB H3.top;obtain⟨q,hq⟩: ∃q,q=(r*B64+x)/y:=⟨_,rfl⟩;obtain⟨r',hr'⟩: ∃r',r'=(r*B64+x)%y:=⟨_,rfl⟩;rw[←hq,←hr']at dc;have a3:=own.sl.adr Zk (k:= .i64) (i:=m-1) (by simp;omega);obtain⟨H4,st4,n4,lw4,own4,bt4,kp4⟩:=own.putTop (i:=m-1) (by simp;omega) q;have hdrop:xs.drop (m-1)=x::xs.drop m:=by rw[List.drop_eq_getElem_cons hi,show m-1+1=m by omega,←hxe]
     apply Zb;intro b3 hb3;apply Zx;apply W_rws (by kernel_rfl);simp[t0,t1,t6,t7,t8,a1,a2,d1,d2,dc,a3,st4,n4,lw4,Zy];subst hb3;have w2:Zd .sub .i64 ((m-1:Nat):Int) 1=some (.int .i64 (((m-1:Nat):Int)-1)):=by show some (Value.int .i64 (IntKind.i64.wrap (((m-1:Nat):Int)-1)))=_;congr 2;rw[IntKind.wrap_i64];omega
     apply Za;simp[t8,w2];apply hQ';refine⟨m-1,by omega,rfl,kp4 H1 k3 (Nat.le_refl _),by show m-1≤_;omega,q::L,r',by simp;omega,.cons ?_ dL,?_,?_,?_,by simp[t0],by simp[t1],by simp[t6],by simp,by simp⟩;·rw[hq,Nat.div_lt_iff_lt_mul Bpos];have:(r+1)*B64≤y*B64:=Nat.mul_le_mul_right _ hr;rw[Nat.succ_mul]at this;rw[Nat.mul_comm B64 y];omega
     ·rw[hr'];exact Nat.mod_lt _ Bpos
     ·rw[hdrop];simp only[dv];rw[heq];have e:=Nat.div_add_mod (r*B64+x) y;rw[←hq,←hr']at e;rw[Nat.mul_add,Nat.mul_add,←Nat.mul_assoc,Nat.mul_comm B64 y,Nat.mul_assoc];rw[Nat.mul_comm r B64]at e;omega
     ·have hrep:List.replicate m 0++L=List.replicate (m-1) 0++0::L:=by obtain⟨m',rfl⟩: ∃m',m=m'+1:=⟨m-1,by omega⟩;rw[List.replicate_succ'];simp
      rw[hrep,Ks _ _ _ _ (by simp)]at own4;exact own4
   rintro⟨k,tm,H3⟩ ⟨hk,k3,L,r,hL,dL,hr,heq,own,t6,t7⟩;simp only at hk k3 own t6 t7;subst hk;obtain⟨v4,H4,hc4,k4,o4⟩:=Uw own.sl (by omega);obtain⟨v5,H5,hc5,k5,o5⟩:=Fq (x:=r) (H:=H4) (by omega);apply Zb;intro b hb;apply Za;simp[t6,t7,hc4,hc5];subst hb;apply Zn;simp[Xw];have hdiv:dv B64 xs/y=dv B64 L:=by rw[heq,Nat.mul_add_div Bpos,Nat.div_eq_of_lt hr,Nat.add_zero]
   have hmod:dv B64 xs%y=r:=by rw[heq,Nat.mul_add_mod,Nat.mod_eq_of_lt hr]
   rw[Ji Zz dL]at o4;refine⟨(k3.trans k4).trans k5,v4,v5,rfl,?_,?_,Fj o4 o5 (Nat.le_refl _)⟩;·rw[hdiv];exact o4.mono k3.n k5
   ·rw[hmod];exact o5.mono (Nat.le_trans hn0 (k3.trans k4).n) (.refl H5)
  ·refine Zc (t:=false) (by simp;omega) ?_;apply Zj;subst hb1;exact rest _ (by simp) (by simp) (by omega) (Nat.le_of_not_lt hlt)
end
theorem Own.n_lt{n:Nat}{H:AH}{v:Value}{xs:List Nat}(h:Own n H v xs)(h0:0<xs.length):n<H.n:=by cases h with|nil=>cases h0|mk b o cap xs cs h1 h2 h3 h4 h5 h6=>omega
theorem blt_of{a b:Nat}(h:a<b):Nat.blt a b=true:=by rw[Nat.blt_eq];exact h
theorem Xe{bits:Nat} : ∀{ms:List (Nat×Nat×Nat)},(∀x∈ms,bits.testBit x.1=true)→hidden bits ms=[]|[],_=>rfl|(k,lo,hi)::r,h=>by have h1:bits.testBit k=true:=h (k,lo,hi) (List.mem_cons_self ..);unfold hidden;rw[h1,cond_true];exact Xe fun x hx=>h x (List.mem_cons_of_mem _ hx)
def cutTo(v:Value)(m:Nat):Value:=match v with| .slice a _ c=> .slice a m c|v=>v
theorem Sl.cutTo{H:AH}{v:Value}{xs:List Nat}(h:Sl H v xs){t:TypeId}(ht:LT t){m:Nat}(hm:m≤xs.length)(h0:0<xs.length):Us Tryz.prog H t v none (some (.int .i64 (m:Int))) none=some (cutTo v m)∧Sl H (Go.Proofs.YtmkfecoeghokfaaGreatDoor.cutTo v m) (xs.take m):=by cases h with
 |nil=>cases h0
 |emp b=>cases h0
 |mk b o cap xs h1 h2=>
  have hl:(xs.take m).length=m:=by rw[List.length_take];omega
  obtain⟨h2a,cs,h3,h4,h5⟩:=h2;have hs:Sl H (.slice (some ⟨b,o,none⟩) (xs.take m).length cap) (xs.take m):= .mk b o cap _ (by omega) ⟨h2a,cs,h3,h4,fun i x hx=>h5.1 i x (by
   rw[List.getElem?_take]at hx;split at hx;·exact hx
   ·cases hx),h5.2⟩;rw[hl]at hs;refine⟨?_,hs⟩;unfold Us;simp only[ht.1,sU64];unfold cutV Qq;simp only[h4,Option.isSome_some,Option.isNone_none,Bool.true_or];rw[if_pos (by omega)];have e1:Nat.ble m cap=true:=Nat.ble_eq.mpr (by omega);simp[Qq,e1,Go.Proofs.YtmkfecoeghokfaaGreatDoor.cutTo]
theorem knuth_step{X vs:List Nat}{j n:Nat}(dX:Dig B64 X)(hj:j+n+1≤X.length)(dvs:Dig B64 vs)(hvs:vs.length=n)(hlt:dv B64 (X.drop (j+1))<dv B64 vs):dv B64 ((X.drop j).take (n+1))=dv B64 (X.drop j)∧dv B64 ((X.drop j).take (n+1))<dv B64 vs*B64∧dv B64 (X.drop (j+n+1))=0:=by
 have hV:=Ui dvs;rw[hvs]at hV;have e1:dv B64 (X.drop (j+1))=dv B64 ((X.drop (j+1)).take n)+B64^n*dv B64 ((X.drop (j+1)).drop n):=Gu _ n (by rw[List.length_drop];omega);have z:dv B64 ((X.drop (j+1)).drop n)=0:=by
  rcases Nat.eq_zero_or_pos (dv B64 ((X.drop (j+1)).drop n))with h|h;·exact h
  ·exfalso;have:B64^n*1≤B64^n*dv B64 ((X.drop (j+1)).drop n):=Nat.mul_le_mul_left _ h;omega
 rw[List.drop_drop]at z;have z':dv B64 (X.drop (j+n+1))=0:=by rw[show j+n+1=j+1+n by omega];exact z
 have e2:=Gu (X.drop j) (n+1) (by rw[List.length_drop];omega);rw[List.drop_drop,show j+(n+1)=j+n+1 by omega,z',Nat.mul_zero,Nat.add_zero]at e2;refine⟨e2.symm,?_,z'⟩;rw[←e2,List.drop_eq_getElem_cons (by omega)];have hx:X[j]<B64:=dX.get (List.getElem?_eq_getElem (by omega));have:(dv B64 (X.drop (j+1))+1)*B64≤dv B64 vs*B64:=Nat.mul_le_mul_right _ hlt;rw[Nat.succ_mul]at this;simp only[dv];rw[Nat.mul_comm B64];omega
section
attribute [-simp] Int.natCast_add Int.natCast_mul Int.natCast_ediv Int.natCast_emod Int.natCast_pow
attribute [local simp] strip Yd LW' LR gW Yf Xh Ya Xi Yo Xj Zr Zs Zh Yp Yy Yk Yq Zi Xa Ze opd Qe Ym plain Yj Tr.get_set Qc Zp Xy Yc sameKind undef Zt Yr Yv Zk Jg Jf Yb parts Jc unV DW Xq Zv LX Zy
set_option maxHeartbeats 4000000 in theorem divide_rest{n0:Nat}{H:AH}{va vb:Value}{xs ys:List Nat}(ha:Own n0 H va xs)(hb:Sl H vb ys)(hn0:n0≤H.n)(dx:Dig B64 xs)(dy:Dig B64 ys)(tx:Xl xs=xs)(ty:Xl ys=ys)(lx:xs.length≤17592186040000)(ly:ys.length≤17592186040000)(tm:Tr Value)(t0:tm.get 0=some va)(t1:tm.get 1=some vb)(h2:2≤ys.length)(hge:dv B64 ys≤dv B64 xs):W Tryz.prog Zo divideTail ⟨104,tm,H⟩ fun ex s=>(ex= .norm∨ex= .ret)∧ ∃vs,Zt Tryz.prog s Tryz.f193.results.toList=some vs∧Zi8 n0 H (dv B64 xs) (dv B64 ys) (Yv vs) s.H:=by
 obtain⟨n,hn⟩: ∃n,n=ys.length:=⟨_,rfl⟩;have hn2:2≤n:=by omega
 have hxn:n≤xs.length:=by
  rcases Nat.lt_or_ge xs.length n with h|h;·have:=Zm4 tx ty dx dy (by omega);omega
  ·exact h
 have lenb:=hb.len Zk;have lena:=ha.sl.len Zk;rw[←hn]at lenb;have s1:Zd .sub .i64 (n:Int) 1=some (.int .i64 ((n-1:Nat):Int)):=Fb (by omega) (by omega);have a1:=hb.adr Zk (k:= .i64) (i:=n-1) (by omega);have d1:=hb.load (i:=n-1) (by omega);obtain⟨y,hy⟩: ∃y,y=ys[n-1]'(by omega):=⟨_,rfl⟩;rw[←hy]at d1;have hyB:y<B64:=by rw[hy];exact dy.get (List.getElem?_eq_getElem (by omega))
 obtain⟨s,hs⟩: ∃s,s=64-Zf y:=⟨_,rfl⟩;have hst:=shift_top dy ty hn.symm (by omega) (s:=s) (by rw[hs,hy]);obtain⟨h64,hVlt⟩:=hst;have hlz:Zq Tryz.prog Zo 216 [.int .u64 (y:Int)] H=some (.int .i64 (64-(Zf y:Int)),H):=by obtain⟨v,H',h,rfl,rfl⟩:=lz_spec hyB (H:=H);exact h
 have hcv:=conv_lz (blen64 hyB);rw[←hs]at hcv;have hge1:=normal_ge dy ty (by omega);rw[←hn]at hge1;show W _ _ (.seq (.region 10 _ _) _) _ _;apply Zb;intro b hb1;apply Za;simp[t1,lenb,s1,a1,d1,hlz,hcv];subst hb1;obtain⟨u0,H2,hu,ku,us0,ou,du,lu,vu⟩:=up_spec (H:=H.top) ha.sl.top dx (by omega) h64;have ou1:Own H.n (grown H H2) u0 us0:=ou.same (Yg ku);have k1:Keep H (grown H H2):=Zu (.refl H) ku;have n1:H.n<H2.n:=ou.n_lt (by omega);obtain⟨G1,hG1⟩: ∃G1,G1=grown H H2:=⟨_,rfl⟩;have nG1:G1.n=H2.n:=by rw[hG1];rfl
 rw[←hG1]at ou1 k1;obtain⟨w0,H3,hw,kw,vs0,ow,dw,lw,vw⟩:=up_spec (H:=G1.top) (hb.keep k1).top dy (by omega) h64;have ow1:Own G1.n (grown G1 H3) w0 vs0:=ow.same (Yg kw);have k2:Keep G1 (grown G1 H3):=Zu (.refl G1) kw;have n2:G1.n<H3.n:=ow.n_lt (by omega);obtain⟨G2,hG2⟩: ∃G2,G2=grown G1 H3:=⟨_,rfl⟩;have nG2:G2.n=H3.n:=by rw[hG2];rfl
 rw[←hG2]at ow1 k2;obtain⟨wv,hsl,ow2⟩:=ow1.top.cut Zk (m:=n) (by omega) (by omega);have ow3:Own G1.n G2 wv (vs0.take n):=ow2.same ⟨rfl,fun _ _ _=>rfl⟩;apply Zb;intro b hb1;apply Qs (by kernel_rfl);simp[t0,t1];refine Yu (v:=u0) (H2:=H2) rfl rfl rfl (by rw[Zm rfl];simp[t0,hu]) (by omega) (Yw ku) ?_;simp[t1,blt_of n1,←hG1];refine Yu (v:=w0) (H2:=H3) rfl rfl rfl (by rw[Zm (by kernel_rfl)];simp[t1,hw]) (by omega) (Yw kw) ?_;simp[t1,blt_of n2,←hG2,lenb];refine Yh (v:=wv) rfl rfl rfl (by rw[Zm (by kernel_rfl)];simp[hsl]) ?_;simp;subst hb1;obtain⟨vs,hvs⟩: ∃vs,vs=vs0.take n:=⟨_,rfl⟩;rw[←hvs]at ow3;have vslen:vs.length=n:=by rw[hvs,List.length_take];omega
 have dvs:Dig B64 vs:=by rw[hvs];exact dw.take n
 have evs:dv B64 vs=dv B64 ys*2^s:=by
  have e:=Gu vs0 n (by omega);rw[vw,←hvs]at e;have:dv B64 (vs0.drop n)=0:=by
   rcases Nat.eq_zero_or_pos (dv B64 (vs0.drop n))with h|h;·exact h
   ·exfalso;have:B64^n*1≤B64^n*dv B64 (vs0.drop n):=Nat.mul_le_mul_left _ h;omega
  rw[this]at e;omega
 have Bpos:0<dv B64 ys:=Nat.lt_of_lt_of_le (Nat.pow_pos (by decide)) hge1;have spos:=Nat.two_pow_pos s;have Vge:B64^(n-1)≤dv B64 vs:=by rw[evs];exact Nat.le_trans hge1 (Nat.le_mul_of_pos_right _ spos)
 have Vpos:0<dv B64 vs:=Nat.lt_of_lt_of_le (Nat.pow_pos (by decide)) Vge;have Vlt:dv B64 vs<B64^n:=by rw[evs];exact hVlt
 have vtop:0<vs[n-1]'(by omega):=by
  rcases Nat.eq_zero_or_pos (vs[n-1]'(by omega))with h|h;·exfalso;have e:=Gu vs (n-1) (by omega);rw[List.drop_eq_getElem_cons (by omega),List.drop_eq_nil_of_le (by omega),h]at e;have hl:=Ui (dvs.take (n-1));rw[List.length_take,Nat.min_eq_left (by omega)]at hl;simp[dv]at e;omega
  ·exact h
 have k12:=k1.trans k2;have ou2:Own H.n G2 u0 us0:=ou1.mono (Nat.le_refl _) k2;have apuv:Ka u0 wv:=Fj ou1 ow3 (Nat.le_refl _);have lenv:=ow3.sl.len Zk;rw[vslen]at lenv;obtain⟨M,hM⟩: ∃M,M=xs.length-n+1:=⟨_,rfl⟩;have s2:Zd .sub .i64 (xs.length:Int) (n:Int)=some (.int .i64 ((xs.length-n:Nat):Int)):=sub_i64 (by omega) hxn;have s3:Zd .add .i64 ((xs.length-n:Nat):Int) 1=some (.int .i64 (M:Int)):=by rw[hM];exact Qd (by omega)
 have s4:((xs.length-n:Nat):Int)=(M:Int)-1:=by omega
 obtain⟨q0,H4,hmk,kq,oq,nq⟩:=Qj (H:=G2) Zk (n:=M) (by omega);have apuq:Ka u0 q0:=Fj ou2 oq (Nat.le_refl _);apply Zb;intro b hb1;apply Za;simp[lenv];subst hb1;apply Zb;intro b hb1;apply Za;simp[t0,lena,s2,s3,hmk];subst hb1;refine Qz (fun s'=>s'.k=104∧Keep H s'.H∧ ∃(X L:List Nat),X.length=xs.length+1∧Dig B64 X∧L.length=M∧Dig B64 L∧dv B64 X+dv B64 vs*dv B64 L=dv B64 xs*2^s∧dv B64 X<dv B64 vs∧Own H.n s'.H u0 X∧Own G2.n s'.H q0 L∧s'.tm.get 9=some (.int .u64 (s:Int))∧s'.tm.get 10=some u0∧s'.tm.get 12=some (.int .i64 (n:Int))∧s'.tm.get 13=some q0) ?_ ?_
 ·intro Q'' hQ'';apply Zb;intro b2 hb2;apply Za;simp[t0,lena,s2];subst hb2;apply Zx;have start:dv B64 (us0.drop M)<dv B64 vs:=by
   have e:=Gu us0 M (by omega);rw[vu]at e;have hx:=Ui dx;have h1:dv B64 xs*2^s<B64^xs.length*2^s:=Nat.mul_lt_mul_of_pos_right hx spos;have h3:B64^xs.length*2^s=B64^M*(B64^(n-1)*2^s):=by rw[←Nat.mul_assoc,←Nat.pow_add,show M+(n-1)=xs.length by omega]
   have h4:B64^M*(B64^(n-1)*2^s)≤B64^M*dv B64 vs:=Nat.mul_le_mul_left _ (by rw[evs];exact Nat.mul_le_mul_right _ hge1);have h5:B64^M*dv B64 (us0.drop M)<B64^M*dv B64 vs:=by omega
   exact Nat.lt_of_mul_lt_mul_left h5
  refine Qg (fun m s'=>s'.k=104∧Keep G2 H4∧m≤M∧Keep H s'.H∧Sl s'.H wv vs∧ ∃(X L:List Nat),X.length=xs.length+1∧Dig B64 X∧L.length+m=M∧Dig B64 L∧dv B64 X+B64^m*(dv B64 vs*dv B64 L)=dv B64 xs*2^s∧dv B64 (X.drop m)<dv B64 vs∧Own H.n s'.H u0 X∧Own G2.n s'.H q0 (List.replicate m 0++L)∧s'.tm.get 9=some (.int .u64 (s:Int))∧s'.tm.get 10=some u0∧s'.tm.get 11=some wv∧s'.tm.get 12=some (.int .i64 (n:Int))∧s'.tm.get 13=some q0∧s'.tm.get 14=some (.int .i64 ((m:Int)-1))) ?_ M _ ⟨rfl,kq,Nat.le_refl _,k12.trans kq,ow3.sl.keep kq,us0,[],by omega,du,by simp,.nil _,by simp[dv,vu],start,ou2.mono (Nat.le_refl _) kq,by simpa using oq,by simp,by simp,by simp,by simp,by simp,by simp[s4]⟩;rintro m ⟨k,tm,H5⟩ ⟨hk,_,hm,kH,sv,X,L,hX,dX,hL,dL,heq,hlt,ou,oq,t9,t10,t11,t12,t13,t14⟩ Q' hQ';simp only at hk kH sv ou oq t9 t10 t11 t12 t13 t14;subst hk;apply Zb;intro b3 hb3;apply Zb;intro b4 hb4;apply Za;have hge:Zd .geq .i64 ((m:Int)-1) 0=some (.bool (decide (0<m))):=by show some (Value.bool (decide ((m:Int)-1≥0)))=_;congr 2;apply decide_eq_decide.mpr;omega
  simp[t14,hge];subst hb4;by_cases hm0:m=0;·subst hm0;refine Zc (t:=false) (by simp) ?_;apply Qf;apply hQ';left;exact⟨rfl,hQ'' _ ⟨rfl,kH,X,L,hX,dX,by omega,dL,by simpa using heq,by simpa using hlt,ou,by simpa using oq,by simp[t9],by simp[t10],by simp[t12],by simp[t13]⟩⟩
  ·refine Zc (t:=true) (by simp;omega) ?_;apply Zj;subst hb3;obtain⟨j,rfl⟩: ∃j,m=j+1:=⟨m-1,by omega⟩;have em:((j+1:Nat):Int)-1=(j:Int):=by omega
   rw[em]at t14;have hjX:j+n+1≤X.length:=by omega
   obtain⟨K1,K2,K3⟩:=knuth_step dX hjX dvs vslen hlt;obtain⟨uw,hsl,suw,view,bw⟩:=ou.sl.part Zk (j:=j) (m:=n+1) (by omega) (by omega);have i1:Zd .add .i64 (j:Int) (n:Int)=some (.int .i64 ((j+n:Nat):Int)):=Gr (by omega);have i2:Zd .add .i64 ((j+n:Nat):Int) 1=some (.int .i64 ((j+(n+1):Nat):Int)):=Qd (by omega);have hsplit:X=X.take j++(X.drop j).take (n+1)++X.drop (j+n+1):=by have a:=List.take_append_drop (n+1) (X.drop j);rw[List.drop_drop,show j+(n+1)=j+n+1 by omega]at a;rw[List.append_assoc,a,List.take_append_drop]
   have ljp:(X.take j).length=j:=by rw[List.length_take];omega
   have lus:((X.drop j).take (n+1)).length=n+1:=by rw[List.length_take,List.length_drop];omega
   have ou':=ou;rw[hsplit]at ou';obtain⟨r,H6,hg,hr,bt,ka,us',lus',dus',vus',ou6⟩:=guess_spec ou' ljp lus view ((dX.drop j).take (n+1)) sv apuv vslen hn2 (by omega) dvs vtop K2;subst hr;rw[K1]at vus' hg;have oq6:=oq.but bt apuq;have hrep:List.replicate (j+1) 0++L=List.replicate j 0++0::L:=by rw[List.replicate_succ'];simp
   rw[hrep]at oq6;have a2:=oq6.sl.adr Zk (k:= .i64) (i:=j) (by simp);obtain⟨H7,st7,oq7,n7,b7,ka7⟩:=oq6.put (i:=j) (by simp) (dv B64 (X.drop j)/dv B64 vs);rw[Ks _ _ _ _ (by simp)]at oq7;have kG2:Keep H H5:=kH;have apqu:Ka q0 u0:=fun c hc hc'=>apuq c hc' hc;have apvq:Ka q0 wv:=fun c hc hc'=>by have x1:=(oq.blk_lo hc).1;have x2:=(ow3.blk_lo hc').2;omega
   have bt7:But (Xt q0) H6 H7:=⟨n7,fun i _ hi=>b7 i hi⟩;have ou7:Own H.n H7 u0 (X.take j++us'++X.drop (j+n+1)):=ou6.but bt7 apqu;have sv7:Sl H7 wv vs:=(sv.but bt apuv).but bt7 apvq;have kH7:Keep H H7:=ka7 H (ka H kH (Nat.le_refl _)) (by have:=k12.n;omega);apply Zb;intro b3 hb3;apply Zx;apply Za;simp[t10,t11,t12,t13,t14,i1,i2,hsl,hg,a2,st7];subst hb3;have w2:Zd .sub .i64 (j:Int) 1=some (.int .i64 ((j:Int)-1)):=by show some (Value.int .i64 (IntKind.i64.wrap ((j:Int)-1)))=_;congr 2;rw[IntKind.wrap_i64];omega
   apply Za;simp[t14,w2];apply hQ';have hdX':(X.take j++us'++X.drop (j+n+1)).drop j=us'++X.drop (j+n+1):=by rw[List.append_assoc,List.drop_append_of_le_length (by omega),List.drop_eq_nil_of_le (by omega)];rfl
   have hdv:dv B64 (us'++X.drop (j+n+1))=dv B64 (X.drop j)%dv B64 vs:=by rw[Xc,K3,Nat.mul_zero,Nat.add_zero,vus']
   refine⟨j,Nat.lt_succ_self j,rfl,kq,by show j≤M;omega,kH7,sv7,X.take j++us'++X.drop (j+n+1),dv B64 (X.drop j)/dv B64 vs::L,?_,((dX.take j).append dus').append (dX.drop _),by simp;omega,.cons ?_ dL,?_,?_,ou7,oq7,by simp[t9],by simp[t10],by simp[t11],by simp[t12],by simp[t13],by simp⟩;·simp only[List.length_append,List.length_drop];omega
   ·rw[Nat.div_lt_iff_lt_mul Vpos,Nat.mul_comm,←K1];exact K2
   ·have e1:=Gu X j (by omega);rw[List.append_assoc,Xc,ljp,hdv];have e2:=Nat.div_add_mod (dv B64 (X.drop j)) (dv B64 vs);simp only[dv];generalize dv B64 (X.drop j)/dv B64 vs=q at*;generalize dv B64 (X.drop j)%dv B64 vs=r at*;rw[e1,←e2]at heq;rw[←heq];rw[Nat.mul_add (dv B64 vs) q,Nat.mul_add (B64^j) (dv B64 vs*q) r,Nat.mul_add (B64^j) (dv B64 vs*q),show B64^(j+1)=B64^j*B64 from rfl,Nat.mul_assoc (B64^j) B64,Nat.mul_left_comm (dv B64 vs) B64];omega
   ·rw[hdX',hdv];exact Nat.mod_lt _ Vpos
 rintro⟨k,tm2,H5⟩ ⟨hk,kH,X,L,hX,dX,hL,dL,heq,hlt,ou,oq,t9,t10,t12,t13⟩;simp only at hk kH ou oq t9 t10 t12 t13;subst hk;have e0:dv B64 xs*2^s=dv B64 vs*dv B64 L+dv B64 X:=by rw[←heq];omega
 have hdiv:dv B64 xs/dv B64 ys=dv B64 L:=by rw[←Nat.mul_div_mul_right _ _ spos,e0,←evs,Nat.mul_add_div Vpos,Nat.div_eq_of_lt hlt,Nat.add_zero]
 have hmod:dv B64 X/2^s=dv B64 xs%dv B64 ys:=by
  have:dv B64 xs%dv B64 ys*2^s=dv B64 X:=by rw[←Nat.mul_mod_mul_right,e0,←evs,Nat.mul_add_mod,Nat.mod_eq_of_lt hlt]
  rw[←this,Nat.mul_div_cancel _ spos]
 have hXn:dv B64 (X.take n)=dv B64 X:=by
  have e:=Gu X n (by omega);have:dv B64 (X.drop n)=0:=by
   rcases Nat.eq_zero_or_pos (dv B64 (X.drop n))with h|h;·exact h
   ·exfalso;have:B64^n*1≤B64^n*dv B64 (X.drop n):=Nat.mul_le_mul_left _ h;omega
  rw[this]at e;omega
 obtain⟨qv,H6,hq6,kq6,oq6⟩:=Uw (H:=H5.top) oq.sl.top (by omega);rw[Ji Zz dL,←hdiv]at oq6;obtain⟨G6,hG6⟩: ∃G6,G6=grown H5 H6:=⟨_,rfl⟩;have kG6:Keep H5 G6:=by rw[hG6];exact Zu (.refl H5) kq6
 have nG6:G6.n=H6.n:=by rw[hG6];rfl
 have oqG:Own H5.n G6 qv (ds B64 (dv B64 xs/dv B64 ys)):=by rw[hG6];exact oq6.same (Yg kq6)
 have ouG:=(ou.sl.keep kG6).top;obtain⟨rv,H7,hr7,kr7,or7⟩:=down_spec (H:=G6.top) (ouG.cutTo Zk (m:=n) (by omega) (by omega)).2 (dX.take n) (by rw[List.length_take];omega) h64;rw[hXn,hmod]at or7;have kG7:Keep G6 (grown G6 H7):=Zu (.refl G6) kr7;have orG:Own G6.n (grown G6 H7) rv (ds B64 (dv B64 xs%dv B64 ys)):=or7.same (Yg kr7);have h6n:=kq6.n;have h7n:=kr7.n;apply Zb;intro b hb1;apply Qs (by kernel_rfl);simp[t13];refine Yu (v:=qv) (H2:=H6) rfl rfl rfl (by rw[Zm rfl];simp[hq6]) h6n (Yw kq6) ?_;rw[←hG6];generalize hms:cond (Nat.blt H5.n H6.n) _ _=ms;have hms1: ∀x∈ms,x.1=1∧H5.n≤x.2.1:=by intro x hx;rw[←hms]at hx;cases hbl:Nat.blt H5.n H6.n with|true=>rw[hbl,cond_true]at hx;simp at hx;subst hx;exact⟨rfl,Nat.le_refl _⟩|false=>rw[hbl,cond_false]at hx;cases hx
 simp[t10,t12];refine Yh (v:=cutTo u0 n) rfl rfl rfl ?_ ?_;·have hsv:=fun bits=>((ou.sl.keep (Qy (bits:=bits) kG6 fun x hx=>(hms1 x hx).2)).cutTo Zk (m:=n) (by omega) (by omega)).1;simp[hsv]
 simp[t9];refine Yu (v:=rv) (H2:=H7) rfl rfl rfl ?_ h7n (Yw kr7) ?_;·rw[Zm (Xe fun x hx=>by rw[(hms1 x hx).1];kernel_rfl)];simp[t9,hr7]
 simp;subst hb1;apply Zn;refine⟨.inr rfl,[qv,rv],?_,?_⟩;·simp
 ·exact⟨(kH.trans kG6).trans kG7,qv,rv,rfl,oqG.mono kH.n kG7,orG.mono (by have:=(kH.trans kG6).n;omega) (.refl _),Fj oqG orG (Nat.le_refl _)⟩
theorem divide_spec{n0:Nat}{H:AH}{va vb:Value}{xs ys:List Nat}(ha:Own n0 H va xs)(hb:Sl H vb ys)(hn0:n0≤H.n)(dx:Dig B64 xs)(dy:Dig B64 ys)(tx:Xl xs=xs)(ty:Xl ys=ys)(lx:xs.length≤17592186040000)(ly:ys.length≤17592186040000)(hy:0<ys.length):CW Tryz.prog Zo 193 [va,vb] H (Zi8 n0 H (dv B64 xs) (dv B64 ys)):=divide_one ha hb hn0 dx dy tx ty lx ly hy fun tm t0 t1 h2 hge=>divide_rest ha hb hn0 dx dy tx ty lx ly tm t0 t1 h2 hge
end
structure Mod (b : Option Nat) (H H' : AH) : Prop where
  n : H.n ≤ H'.n
  blk : ∀ j, j < H.n → b ≠ some j → H'.blk j = H.blk j
theorem Mod.refl(b:Option Nat)(H:AH):Mod b H H:=⟨Nat.le_refl _,fun _ _ _=>rfl⟩
theorem Mod.trans{b:Option Nat}{H H1 H2:AH}(x:Mod b H H1)(y:Mod b H1 H2):Mod b H H2:=⟨Nat.le_trans x.n y.n,fun j hn hj=>(y.blk j (Nat.lt_of_lt_of_le hn x.n) hj).trans (x.blk j hn hj)⟩
theorem Keep.mod{H H':AH}(k:Keep H H'):Mod none H H':=⟨k.n,fun j hj _=>k.blk j hj⟩
theorem But.mod{b:Option Nat}{H H':AH}(k:But b H H'):Mod b H H':=⟨Nat.le_of_eq k.n.symm,k.blk⟩
theorem Mod.any{b:Option Nat}{H H':AH}(k:Mod none H H'):Mod b H H':=⟨k.n,fun j hj _=>k.blk j hj (fun e=>by cases e)⟩
theorem Sl.mod{b:Option Nat}{H H':AH}{v:Value}{xs:List Nat}(h:Sl H v xs)(k:Mod b H H')(hb: ∀c,b=some c→Xt v≠some c):Sl H' v xs:=by cases h with|nil=>exact .nil|emp b=>exact .emp b|mk c o cap xs h1 h2=>obtain⟨h3,cs,h4,h5,h6⟩:=h2;have e:=k.blk c h3 fun e=>hb c e rfl;exact .mk c o cap xs h1 ⟨Nat.lt_of_lt_of_le h3 k.n,cs,by unfold AH.cells;rw[e];exact h4,by unfold AH.size;rw[e];exact h5,h6⟩
theorem Own.mod{b:Option Nat}{n0:Nat}{H H':AH}{v:Value}{xs:List Nat}(h:Own n0 H v xs)(k:Mod b H H')(hb: ∀c,b=some c→Xt v≠some c):Own n0 H' v xs:=by cases h with|nil=>exact .nil|mk c o cap xs cs h1 h2 h3 h4 h5 h6=>exact .mk c o cap xs cs h1 h2 (Nat.lt_of_lt_of_le h3 k.n) (by rw[k.blk c h3 fun e=>hb c e rfl];exact h4) h5 h6
theorem AH.blk_kill(H:AH)(i j:Nat):(H.kill i).blk j=if j=i then .dead else H.blk j:=by
 unfold AH.kill AH.blk;simp only[Tr.get_set];by_cases e:j=i;·rw[if_pos e,if_pos e]
 ·rw[if_neg e,if_neg e]
theorem one_limbs(xs:List Nat):(xs.map Gv).all one=true:=by rw[List.all_eq_true];intro v hv;obtain⟨x,_,rfl⟩:=List.mem_map.mp hv;rfl
theorem Own.append{n0:Nat}{H:AH}{v w:Value}{xs ys:List Nat}(h:Own n0 H v xs)(hn:n0≤H.n)(hw:Sl H w ys)(hl:xs.length+ys.length≤17592186044416){t t2:TypeId}(ht:LT t)(ht2:LT t2): ∃v' H',Vb Tryz.prog H t t2 v w=some (v',H')∧Own n0 H' v' (xs++ys)∧Mod (Xt v) H H'∧KA n0 H H':=by
 by_cases h0:ys.length=0
 ·obtain rfl:ys=[]:=List.length_eq_zero_iff.mp h0;refine⟨v,H,?_,by simpa using h,.refl _ _,.refl _ _⟩;have hv: ∃a l c,v= .slice a l c:=by cases h<;>exact⟨_,_,_,rfl⟩
  obtain⟨a,l,c,rfl⟩:=hv;have hwv: ∃a c,w= .slice a 0 c:=by generalize hz:([]:List Nat)=zs at hw;cases hw with|nil=>exact⟨_,_,rfl⟩|emp b=>exact⟨_,_,rfl⟩|mk b o cap xs h1 h2=>subst hz;exact⟨_,_,rfl⟩
  obtain⟨a2,c2,rfl⟩:=hwv;simp[Vb,ht.2,ht2.2]
 ·have hc:=hw.cells (by omega);obtain⟨a2,cap2,rfl⟩: ∃a cap,w= .slice a ys.length cap:=by cases hw<;>exact⟨_,_,rfl⟩
  have e1:Nat.beq ys.length 0=false:=Qn h0;cases h with
   |nil=>
    refine⟨.slice (some ⟨H.n,0,none⟩) ys.length ys.length,H.new 1 (ys.map Gv),?_,?_,(Keep.new H 1 _).mod,?_⟩;·have e2:Nat.ble (ys.length*8) 140737488355328=true:=Nat.ble_eq.mpr (by simp at hl;omega);have e3:Nat.ble ys.length 281474976710656=true:=Nat.ble_eq.mpr (by simp at hl;omega);simp[Vb,ht.2,ht2.2,e1,e2,e3,hc,zU64,Value.cells]
    ·have:=Own.new H ys;simp only[List.nil_append];exact this.mono hn (.refl _)
    ·intro H0 k _;exact k.trans (Keep.new H 1 _)
   |mk b o cap xs cs h1 h2 h3 h4 h5 h6=>
    have e2:Nat.ble ((xs.length+ys.length)*8) 140737488355328=true:=Nat.ble_eq.mpr (by omega);have e3:Nat.ble (xs.length+ys.length) 281474976710656=true:=Nat.ble_eq.mpr (by omega);have e4:Nat.ble (o+xs.length) cs.length=true:=Nat.ble_eq.mpr (by omega);have e5:(cs.drop o).take xs.length=xs.map Gv:=by
     rcases Nat.eq_zero_or_pos xs.length with h|h;·have:xs=[]:=List.length_eq_zero_iff.mp h;subst this;simp
     ·exact(list_of h h6).2
    have eH:(H.kill b).n=H.n:=rfl;refine⟨.slice (some ⟨H.n,0,none⟩) (xs++ys).length (xs++ys).length,(H.kill b).new 1 ((xs++ys).map Gv),?_,?_,?_,?_⟩
    ·have e6:Nat.beq 1 1=true:=rfl;have e7:ys.all (one∘Gv)=true:=by rw[List.all_eq_true];intro x _;rfl
     simp[Vb,ht.2,ht2.2,e1,e2,e3,e4,e5,hc,zU64,Value.cells,h4,e7]
    ·refine .mk H.n 0 _ _ ((xs++ys).map Gv) (Nat.le_refl _) hn ?_ ?_ (by simp) (fun i x h=>by rw[Nat.zero_add,List.getElem?_map,h];rfl);·show H.n<H.n+1;omega
     ·rw[AH.blk_new,if_pos eH.symm]
    ·refine⟨by show H.n≤H.n+1;omega,fun j hj hb=>?_⟩;rw[AH.blk_new,if_neg (by rw[eH];omega),AH.blk_kill,if_neg (by intro e;subst e;exact hb rfl)]
    ·intro H0 k hn0;have:=k.n;refine⟨by show H0.n≤H.n+1;omega,?_,fun j hj=>?_⟩;·have:=k.lw;show min H0.lw H0.n≤min H.lw b;omega
     ·rw[AH.blk_new,if_neg (by rw[eH];omega),AH.blk_kill,if_neg (by omega)];exact k.blk j hj
theorem makeCap_own{H:AH}{t:TypeId}(ht:LT t){n:Nat}(hn:n≤17592186044416): ∃v H',Gf Tryz.prog H t (.int .i64 0) (.int .i64 (n:Int))=some (v,H')∧Keep H H'∧Own H.n H' v []:=by
 refine⟨.slice (some ⟨H.n,0,none⟩) 0 n,H.new 1 ((List.replicate n 0).map Gv),?_,.new _ _ _,?_⟩;·unfold Gf;simp only[ht.2,zU64];rw[if_pos (by omega)];simp only[Int.toNat_natCast,Nat.mul_one,zeros_limb];rfl
 ·exact .mk H.n 0 n [] ((List.replicate n 0).map Gv) (Nat.zero_le _) (Nat.le_refl _) (Nat.lt_succ_self _) (by rw[AH.blk_new,if_pos rfl]) (by simp) (fun i x h=>by simp at h)
theorem build1_own(H:AH){t:TypeId}(ht:LT t)(x:Nat):Xx Tryz.prog H t 1 [(0,.int .u64 (x:Int))]=some (.slice (some ⟨H.n,0,none⟩) 1 1,H.new 1 ([x].map Gv)):=by unfold Xx;simp only[ht.2,zU64];kernel_rfl
theorem build2_own(H:AH){t:TypeId}(ht:LT t)(x y:Nat):Xx Tryz.prog H t 2 [(0,.int .u64 (x:Int)),(1,.int .u64 (y:Int))]=some (.slice (some ⟨H.n,0,none⟩) 2 2,H.new 1 ([x,y].map Gv)):=by unfold Xx;simp only[ht.2,zU64];kernel_rfl
def cutTo3(v:Value)(m:Nat):Value:=match v with| .slice (some a) _ _=> .slice (some a) m m|v=>v
theorem Own.cut3{n0:Nat}{H:AH}{v:Value}{xs:List Nat}(h:Own n0 H v xs){t:TypeId}(ht:LT t){m:Nat}(hm:m≤xs.length):Us Tryz.prog H t v none (some (.int .i64 (m:Int))) (some (.int .i64 (m:Int)))=some (cutTo3 v m)∧Own n0 H (cutTo3 v m) (xs.take m)∧Xt (cutTo3 v m)=Xt v:=by cases h with
 |nil=>simp at hm;subst hm;refine⟨?_,.nil,rfl⟩;unfold Us;simp only[ht.1,sU64];rfl
 |mk b o cap xs cs h1 h2 h3 h4 h5 h6=>
  have hl:(xs.take m).length=m:=by rw[List.length_take];omega
  have hsz:H.size b=some 1:=by unfold AH.size;rw[h4]
  have ho:Own n0 H (.slice (some ⟨b,o,none⟩) (xs.take m).length m) (xs.take m):= .mk b o m _ cs (by omega) h2 h3 h4 (by omega) fun i x hx=>h6 i x (by
   rw[List.getElem?_take]at hx;split at hx;·exact hx
   ·cases hx);rw[hl]at ho;refine⟨?_,ho,rfl⟩;unfold Us;simp only[ht.1,sU64];unfold cutV Qq;simp only[hsz,Option.isSome_some,Option.isNone_none,Bool.true_or];rw[if_pos (by omega)];have e1:Nat.ble m m=true:=Nat.ble_eq.mpr (Nat.le_refl _);simp[Qq,e1,cutTo3]
theorem two32:2≤b32:=by decide
theorem gtr0{k:IntKind}{x:Nat} :Zd .gtr k (x:Int) 0=some (.bool (decide (0<x))):=Kc (y:=0)
theorem Vz{k:IntKind}{x:Nat} :Zd .eql k (x:Int) 0=some (.bool (decide (x=0))):=Ze2 (y:=0)
theorem rem32{x:Nat} :Zd .rem .u64 (x:Int) 4294967296=some (.int .u64 ((x%4294967296:Nat):Int)):=rem_u64 (y:=4294967296) (by decide)
theorem quo32{x:Nat}(hx:x<B64):Zd .quo .u64 (x:Int) 4294967296=some (.int .u64 ((x/4294967296:Nat):Int)):=quo_u64 (y:=4294967296) hx (by decide)
theorem mul_i64{x y:Nat}(h:x*y<9223372036854775808):Zd .mul .i64 (x:Int) (y:Int)=some (.int .i64 ((x*y:Nat):Int)):=by
 show some (Value.int .i64 (IntKind.i64.wrap ((x:Int)*(y:Int))))=_;have e:IntKind.i64.wrap ((x:Int)*(y:Int))=((x*y:Nat):Int):=by rw[IntKind.wrap_i64,←Int.natCast_mul];generalize x*y=z at*;omega
 rw[e]
theorem dbl_i64{x:Nat}(h:2*x<9223372036854775808):Zd .mul .i64 2 (x:Int)=some (.int .i64 ((2*x:Nat):Int)):=mul_i64 (x:=2) h
theorem add2_i64{x:Nat}(h:x<9223372036854775800):Zd .add .i64 (x:Int) 2=some (.int .i64 ((x+2:Nat):Int)):=Gr (y:=2) (by omega)
def Cv:List Nat→List Nat|[]=>[]|x::xs=>x%b32::x/b32::Cv xs
theorem Zo3(x:Nat): ∀(xs:List Nat),Cv (xs++[x])=Cv xs++[x%b32,x/b32]|[]=>rfl|y::xs=>by simp[Cv,Zo3 x xs]
theorem Ak: ∀(xs:List Nat),(Cv xs).length=2*xs.length|[]=>rfl|x::xs=>by simp[Cv,Ak xs];omega
theorem Zm8: ∀(xs:List Nat),dv b32 (Cv xs)=dv B64 xs|[]=>rfl|x::xs=>by simp only[Cv,dv,Zm8 xs];have:=Nat.mod_add_div x 4294967296;show x%4294967296+4294967296*(x/4294967296+4294967296*dv B64 xs)=x+18446744073709551616*dv B64 xs;omega
theorem Zg9: ∀{xs:List Nat},Dig B64 xs→Dig b32 (Cv xs)|[],_=> .nil _|x::xs,h=>by have hx:x<18446744073709551616:=h.head;exact .cons (Nat.mod_lt _ (by decide)) (.cons (by show x/4294967296<4294967296;omega) (Zg9 h.tail))
def Ed:List Nat→List Nat|[]=>[]|[x]=>[x]|x::y::r=>(x+y*b32)::Ed r
theorem pairs_ds(N:Nat):Ed (ds b32 N)=ds B64 N:=by induction N using Nat.strongRecOn with
 |_ N ih=>
  by_cases h0:N=0;·subst h0;rw[Vd,Vd];rfl
  ·rw[Ej two32 h0];by_cases h1:N/b32=0
   ·have hN:N<4294967296:=by have:=div0_lt (by decide) h1;exact this
    rw[h1,Vd,Ej Zz h0];have e1:N%b32=N:=Nat.mod_eq_of_lt hN;have e2:N%B64=N:=Nat.mod_eq_of_lt (Nat.lt_trans hN (by decide));have e3:N/B64=0:=Nat.div_eq_of_lt (Nat.lt_trans hN (by decide));rw[e1,e2,e3,Vd];rfl
   ·rw[Ej two32 h1,Ej Zz h0];simp only[Ed];have e1:N/b32/b32=N/B64:=by rw[Nat.div_div_eq_div_mul,show b32*b32=B64 by decide]
    have e2:N%b32+N/b32%b32*b32=N%B64:=by show N%4294967296+N/4294967296%4294967296*4294967296=N%18446744073709551616;omega
    rw[e1,e2,ih _ (Nat.div_lt_self (by omega) (by decide))]
theorem pairs_drop{ys:List Nat}{i:Nat}(h:i<ys.length):Ed (ys.drop i)=(ys[i]+nth ys (i+1)*b32)::Ed (ys.drop (i+2)):=by
 rw[List.drop_eq_getElem_cons h];by_cases h1:i+1<ys.length;·rw[List.drop_eq_getElem_cons h1,Vm h1];simp only[Ed]
 ·rw[List.drop_eq_nil_of_le (by omega),Gx (by omega),List.drop_eq_nil_of_le (by omega)];simp[Ed]
theorem pairs_len: ∀(ys:List Nat),(Ed ys).length≤ys.length|[]=>Nat.le_refl _|[x]=>Nat.le_refl _|x::y::r=>by simp only[Ed,List.length_cons];have:=pairs_len r;omega
section
attribute [-simp] Int.natCast_add Int.natCast_mul Int.natCast_ediv Int.natCast_emod Int.natCast_pow
attribute [local simp] strip Yd LW' LR gW Yf Xh Ya Xi Yo Xj Zr Zs Zh Yp Yy Yk Yq Zi Xa Ze opd Qe Ym plain Yj Tr.get_set Qc Zp Xy Yc sameKind undef Zt Yr Yv Zk Jg Jf Yb parts Jc unV DW Xq Zv LX Zy
theorem norm32_spec{n0:Nat}{H:AH}{v:Value}{xs:List Nat}(h:Own n0 H v xs)(hlen:xs.length<1152921504606846976):CW Tryz.prog Zo 57 [v] H fun v' H'=>H'=H∧Own n0 H v' (Xl xs)∧Xt v'=Xt v:=by
 refine Zl 22 (by decide) (by decide) Tryz.func57 rfl rfl ?_;have l0:=h.sl.len Jg;apply Zb;intro b1 hb1;apply Za;simp;subst hb1;apply Zb;intro b1 hb1;apply Za;simp[l0];subst hb1;apply Zb;intro b1 hb1;apply Zx;refine Qg (fun n s=>s.k=22∧s.H=H∧n≤xs.length∧Xl (xs.take n)=Xl xs∧s.tm.get 0=some v∧s.tm.get 3=some (.int .i64 (n:Int))) ?_ xs.length _ ⟨rfl,rfl,Nat.le_refl _,by rw[List.take_length],by simp,by simp⟩;rintro n ⟨k,tm,H'⟩ ⟨hk,hH,hn,ht,t0,t3⟩ Q' hQ';simp only at hk hH t0 t3;subst hk;subst hH;apply Zb;intro b2 hb2;apply Zb;intro b3 hb3;apply Za;have fin: ∀tm':Tr Value,tm'.get 0=some v→tm'.get 3=some (.int .i64 (n:Int))→Xl (xs.take n)=xs.take n→Q' (.exit 0) ⟨22,tm',H'⟩:=fun tm' t0 t3 he=>by apply hQ';left;refine⟨rfl,?_⟩;subst hb1;obtain⟨c1,c2,c3⟩:=h.cut3 Jg hn;apply Zb;intro b4 hb4;apply Za;simp[t0,t3,c1];subst hb4;apply Zn;simp;rw[←ht,he];exact⟨c2,c3⟩
 by_cases hz:n=0;·subst hz;simp[t3];subst hb3;refine Zc (t:=false) (by simp) ?_;apply Qf;exact fin _ (by simp[t0]) (by simp[t3]) rfl
 ·have hi:n-1<xs.length:=by omega
  have a1:=h.sl.adr Jg (k:= .i64) hi;have d1:=h.sl.load hi;have htake:xs.take n=xs.take (n-1)++[xs[n-1]]:=by have:=Qx hi;rwa[show n-1+1=n by omega]at this
  have hn0:0<n:=by omega
  simp[t3,t0,gtr0,hn0,Fb (x:=n) (by omega) hn0,a1,d1,Vz];subst hb3;by_cases h0:xs[n-1]=0;·refine Zc (t:=true) (by simp[h0]) ?_;apply Zj;subst hb2;apply Zx;apply Za;simp[t3,Fb (x:=n) (by omega) hn0];apply hQ';refine⟨n-1,by omega,rfl,rfl,by show n-1≤_;omega,?_,by simp[t0],by simp⟩;rw[←ht,htake,h0,Kn]
  ·refine Zc (t:=false) (by simp[h0]) ?_;apply Qf;exact fin _ (by simp[t0]) (by simp[t3]) (by rw[htake];exact Ce _ _ h0)
theorem of_spec{H:AH}{v:Value}{xs:List Nat}(h:Sl H v xs)(dx:Dig B64 xs)(hlen:xs.length≤8000000000000):CW Tryz.prog Zo 17 [v] H fun v' H'=>Keep H H'∧Own H.n H' v' (ds b32 (dv B64 xs)):=by
 refine Zl 26 (by decide) (by decide) Tryz.func17 rfl rfl ?_;have l0:=h.len Jf;obtain⟨a0,H1,hmk,k1,o1⟩:=makeCap_own (H:=H) Jg (n:=2*xs.length) (by omega);apply Zb;intro b1 hb1;apply Za;simp;subst hb1;apply Zb;intro b1 hb1;apply Za;simp[l0,dbl_i64 (x:=xs.length) (by omega),hmk];subst hb1;apply Zb;intro b1 hb1;apply Zb;intro b2 hb2;apply Za;simp[l0];subst hb2;apply Zx;refine Qg (fun m s'=>s'.k=26∧Keep H s'.H∧ ∃(i:Nat) (a:Value),m+i=xs.length∧Own H.n s'.H a (Cv (xs.take i))∧s'.tm.get 3=some a∧s'.tm.get 10=some v∧s'.tm.get 11=some (.int .i64 (xs.length:Int))∧s'.tm.get 12=some (.int .i64 (i:Int))) ?_ xs.length _ ⟨rfl,k1,0,a0,by omega,o1,by simp,by simp,by simp,by simp⟩;rintro m ⟨k,tm,H2⟩ ⟨hk,kH,i,a,hmi,own,t3,t10,t11,t12⟩ Q' hQ';simp only at hk kH own t3 t10 t11 t12;subst hk;apply Zb;intro b3 hb3;apply Za;simp[t11,t12];subst hb3;apply Zb;intro b3 hb3;by_cases hi:i<xs.length;·refine Zc (t:=true) (by simp[hi]) ?_;apply Zj;subst hb3;have s2:=h.keep kH;have a1:=s2.adr Jf (k:= .i64) hi;have d1:=s2.load hi;have hx:xs[i]<B64:=dx.get (List.getElem?_eq_getElem hi);obtain⟨x,hxe⟩: ∃x,x=xs[i]:=⟨_,rfl⟩;rw[←hxe]at d1 hx;have hb:=build2_own H2 Jg (x%4294967296) (x/4294967296);have kn:=Keep.new H2 1 ([x%4294967296,x/4294967296].map Gv);have ow:=Own.new H2 [x%4294967296,x/4294967296];obtain⟨v',H4,hap,own4,mod4,ka4⟩:=(own.mono (Nat.le_refl _) kn).append (Nat.le_trans kH.n kn.n) ow.sl (by rw[Ak,List.length_take];simp;omega) Jg Jg;apply Zb;intro b3 hb3;apply Zx;apply Zb;intro b4 hb4;apply Za;simp[t10,t12,a1,d1];subst hb4;apply Za;simp[t3,rem32,quo32 hx,hb];simp at hap;simp[hap];subst hb3;apply Za;simp[t12,Qd (x:=i) (by omega)];apply hQ';refine⟨m-1,by omega,rfl,ka4 H (kH.trans kn) (Nat.le_refl _),i+1,v',by omega,?_,by simp,by simp[t10],by simp[t11],by simp⟩;rw[Qx hi,Zo3,←hxe];exact own4
 ·refine Zc (t:=false) (by simp[hi]) ?_;apply Qf;apply hQ';left;refine⟨rfl,?_⟩;obtain rfl:i=xs.length:=by omega
  rw[List.take_length]at own;obtain⟨v5,H5,hc5,e5,o5,_⟩:=norm32_spec own (by rw[Ak];omega);subst e5;rw[Ji two32 (Zg9 dx),Zm8]at o5;subst hb1;apply Zb;intro b4 hb4;apply Za;simp[t3,hc5];subst hb4;apply Zn;simp;exact⟨kH,o5⟩
theorem limbs_spec{H:AH}{v:Value}{ys:List Nat}(h:Sl H v ys)(dy:Dig b32 ys)(hlen:ys.length≤17592186000000):CW Tryz.prog Zo 94 [v] H fun v' H'=>Keep H H'∧Own H.n H' v' (Ed ys):=by
 refine Zl 34 (by decide) (by decide) Tryz.func94 rfl rfl ?_;have l0:=h.len Jg;apply Zb;intro b1 hb1;apply Za;simp;subst hb1;apply Zb;intro b1 hb1;apply Za;simp;subst hb1;apply Zb;intro b1 hb1;apply Zb;intro b2 hb2;apply Za;simp;subst hb2;apply Zx;refine Qg (fun m s'=>s'.k=34∧Keep H s'.H∧ ∃(i:Nat) (a:Value) (L:List Nat),m=ys.length-i∧i≤ys.length+1∧L.length≤i∧L++Ed (ys.drop i)=Ed ys∧Own H.n s'.H a L∧s'.tm.get 0=some v∧s'.tm.get 3=some a∧s'.tm.get 4=some (.int .i64 (i:Int))) ?_ ys.length _ ⟨rfl,.refl H,0,.slice none 0 0,[],by omega,by omega,Nat.le_refl _,by simp,.nil,by simp,by simp,by simp⟩;rintro m ⟨k,tm,H2⟩ ⟨hk,kH,i,a,L,hmi,hiy,hLi,hL,own,t0,t3,t4⟩ Q' hQ';simp only at hk kH own t0 t3 t4;subst hk;apply Zb;intro b3 hb3;apply Zb;intro b4 hb4;apply Za;simp[t0,t4,l0];subst hb4;by_cases hi:i<ys.length
 ·refine Zc (t:=true) (by simp[hi]) ?_;apply Zj;subst hb3;have s2:=h.keep kH;have a1:=s2.adr Jg (k:= .i64) hi;have d1:=s2.load hi;have hx:ys[i]<b32:=dy.get (List.getElem?_eq_getElem hi);obtain⟨x,hxe⟩: ∃x,x=ys[i]:=⟨_,rfl⟩;obtain⟨w,hw⟩: ∃w,w=x+nth ys (i+1)*4294967296:=⟨_,rfl⟩;have hpd:=pairs_drop hi;rw[←hxe]at d1 hx hpd;have hpd':Ed (ys.drop i)=w::Ed (ys.drop (i+2)):=by rw[hw];exact hpd
  have hb:=build1_own H2 Jf w;have kn:=Keep.new H2 1 ([w].map Gv);have ow:=Own.new H2 [w];obtain⟨v',H4,hap,own4,mod4,ka4⟩:=(own.mono (Nat.le_refl _) kn).append (Nat.le_trans kH.n kn.n) ow.sl (by simp;omega) Jf Jf;simp at hap hb;apply Zb;intro b3 hb3;apply Zx;apply Zb;intro b4 hb4;apply Za;simp[t0,t4,a1,d1];subst hb4;refine Qz (fun s'=>s'.k=34∧s'.H=H2∧s'.tm.get 0=some v∧s'.tm.get 3=some a∧s'.tm.get 4=some (.int .i64 (i:Int))∧s'.tm.get 5=some (.int .u64 (w:Int))) ?_ ?_
  ·intro Q'' hQ'';apply Zb;intro b4 hb4;apply Za;simp[t0,t4,l0,Qd (x:=i) (by omega)];subst hb4;by_cases hi1:i+1<ys.length
   ·refine Zc (t:=true) (by simp[hi1]) ?_;have a2:=s2.adr Jg (k:= .i64) hi1;have d2:=s2.load hi1;have hz:ys[i+1]<b32:=dy.get (List.getElem?_eq_getElem hi1);rw[Vm hi1]at hw;obtain⟨z,hze⟩: ∃z,z=ys[i+1]:=⟨_,rfl⟩;rw[←hze]at d2 hz hw;have hz':z<4294967296:=hz;have hx':x<4294967296:=hx;have m1:Zd .mul .u64 (z:Int) 4294967296=some (.int .u64 ((z*4294967296:Nat):Int)):=by rw[mulR,Nat.mod_eq_of_lt (by show _<18446744073709551616;omega)]
    have m2:Zd .add .u64 (x:Int) ((z*4294967296:Nat):Int)=some (.int .u64 (w:Int)):=by rw[hw];exact Dn (by show _<18446744073709551616;omega)
    apply Za;simp[t0,t4,Qd (x:=i) (by omega),a2,d2,m1,m2];apply hQ'';exact⟨rfl,rfl,by simp[t0],by simp[t3],by simp[t4],by simp⟩
   ·refine Zc (t:=false) (by simp[hi1]) ?_;apply Zj;apply hQ'';rw[Gx (by omega),Nat.zero_mul,Nat.add_zero]at hw;exact⟨rfl,rfl,by simp[t0],by simp[t3],by simp[t4],by simp[hw]⟩
  clear t0 t3 t4;rintro⟨k,tm,H3⟩ ⟨hk,hH,t0,t3,t4,t5⟩;simp only at hk hH t0 t3 t4 t5;subst hk;subst hH;apply Za;simp[t3,t5,hb,hap];subst hb3;apply Za;simp[t4,add2_i64 (x:=i) (by omega)];apply hQ';refine⟨ys.length-(i+2),by omega,rfl,ka4 H (kH.trans kn) (Nat.le_refl _),i+2,v',L++[w],rfl,by omega,by simp;omega,?_,own4,by simp[t0],by simp,by simp⟩;rw[←hL,hpd'];simp
 ·refine Zc (t:=false) (by simp[hi]) ?_;apply Qf;apply hQ';left;refine⟨rfl,?_⟩;rw[List.drop_eq_nil_of_le (by omega)]at hL;simp[Ed]at hL;subst hb1;apply Zb;intro b4 hb4;apply Za;simp[t3];subst hb4;apply Zn;simp;rw[←hL];exact⟨kH,own⟩
theorem is_spec{H:AH}{v w:Value}{ys zs:List Nat}(h:Sl H v ys)(hw:Sl H w zs)(dy:Dig b32 ys)(hlen:ys.length≤17592186000000):CW Tryz.prog Zo 65 [v,w] H fun v' H'=>Keep H H'∧v'= .bool (decide (Ed ys=zs)):=by
 refine Zl 29 (by decide) (by decide) Tryz.func65 rfl rfl ?_;obtain⟨v1,H1,hc1,k1,o1⟩:=limbs_spec h dy hlen;have hpl:=pairs_len ys;generalize Ed ys=xs at*;have s1:=o1.sl;have s2:=hw.keep k1;have l1:=s1.len Jf;have l2:=s2.len Jf;apply Zb;intro b1 hb1;apply Za;simp;subst hb1;apply Zb;intro b1 hb1;apply Za;simp[hc1];subst hb1;apply Zb;intro b1 hb1;apply Zb;intro b2 hb2;apply Za;simp[l1,l2,neq_nat];subst hb2;by_cases hl:xs.length=zs.length
 ·refine Zc (t:=false) (by simp[hl]) ?_;apply Zj;subst hb1;apply Zb;intro b1 hb1;apply Zb;intro b2 hb2;apply Za;simp[l1];subst hb2;apply Zx;refine Qg (fun m s'=>s'.k=29∧s'.H=H1∧ ∃(i:Nat),m+i=xs.length∧xs.take i=zs.take i∧s'.tm.get 1=some w∧s'.tm.get 5=some v1∧s'.tm.get 15=some (.int .i64 (xs.length:Int))∧s'.tm.get 16=some (.int .i64 (i:Int))) ?_ xs.length _ ⟨rfl,rfl,0,by omega,rfl,by simp,by simp,by simp,by simp⟩;rintro m ⟨k,tm,H2⟩ ⟨hk,hH,i,hmi,he,t1,t5,t15,t16⟩ Q' hQ';simp only at hk hH t1 t5 t15 t16;subst hk;subst hH;apply Zb;intro b3 hb3;apply Za;simp[t15,t16];subst hb3;apply Zb;intro b3 hb3;by_cases hi:i<xs.length
  ·refine Zc (t:=true) (by simp[hi]) ?_;apply Zj;subst hb3;have hi2:i<zs.length:=by omega
   have a1:=s1.adr Jf (k:= .i64) hi;have d1:=s1.load hi;have a2:=s2.adr Jf (k:= .i64) hi2;have d2:=s2.load hi2;apply Zb;intro b3 hb3;apply Zx;apply Zb;intro b4 hb4;apply Za;simp[t16];subst hb4;apply Zb;intro b4 hb4;apply Zd8 (by kernel_rfl);simp[t1,t5,a1,a2,d1,d2,neq_nat];subst hb4;by_cases hne:xs[i]=zs[i];·refine Zc (t:=false) (by simp[hne]) ?_;apply Zj;subst hb3;apply Za;simp[t16,Qd (x:=i) (by omega)];apply hQ';refine⟨m-1,by omega,rfl,rfl,i+1,by omega,?_,by simp[t1],by simp[t5],by simp[t15],by simp⟩;rw[Qx hi,Qx hi2,he,hne]
   ·refine Zc (t:=true) (by simp[hne]) ?_;apply Zb;intro b4 hb4;apply Za;simp;subst hb4;apply Zn;have hd:xs≠zs:=by intro e;apply hne;subst e;rfl
    apply hQ';simp[Xw,Xk,Dz,hd];exact k1
  ·refine Zc (t:=false) (by simp[hi]) ?_;apply Qf;apply hQ';left;refine⟨rfl,?_⟩;obtain rfl:i=xs.length:=by omega
   have he':xs=zs:=by rwa[List.take_length,hl,List.take_length]at he
   subst hb1;apply Zb;intro b4 hb4;apply Za;simp;subst hb4;apply Zn;simp[he'];exact k1
 ·refine Zc (t:=true) (by simp[hl]) ?_;apply Zb;intro b2 hb2;apply Za;simp;subst hb2;apply Zn;have hd:xs≠zs:=fun e=>hl (by rw[e]);simp[Xw,hd];exact k1
end
theorem Vu(B:Nat)(xs:List Nat)(i:Nat):dv B (xs.take (i+1))=dv B (xs.take i)+B^i*nth xs i:=by
 by_cases h:i<xs.length;·rw[Qx h,Xc,List.length_take,Nat.min_eq_left (by omega),Vm h];simp[dv]
 ·rw[List.take_of_length_le (by omega),List.take_of_length_le (by omega),Gx (by omega),Nat.mul_zero,Nat.add_zero]
theorem Cy{B:Nat}{xs:List Nat}(h:Dig B xs)(hB:0<B)(i:Nat):nth xs i<B:=by
 by_cases hi:i<xs.length;·rw[Vm hi];exact h.get (List.getElem?_eq_getElem hi)
 ·rw[Gx (by omega)];exact hB
theorem Bf(B:Nat)(xs:List Nat)(j:Nat)(h:j≤xs.length):dv B xs=dv B (xs.take j)+B^j*dv B (xs.drop j):=by have:=congrArg (dv B) (List.take_append_drop j xs);rw[Xc,List.length_take,Nat.min_eq_left h]at this;exact this.symm
theorem Zn7{B:Nat}{xs:List Nat}{k:Nat}(hB:0<B)(h:dv B xs<B^k):dv B (xs.take k)=dv B xs:=by
 rcases Nat.lt_or_ge xs.length k with hk|hk;·rw[List.take_of_length_le (by omega)]
 ·have e:=Bf B xs k hk;have:dv B (xs.drop k)=0:=by
   rcases Nat.eq_zero_or_pos (dv B (xs.drop k))with h0|h0;·exact h0
   ·exfalso;have:B^k*1≤B^k*dv B (xs.drop k):=Nat.mul_le_mul_left _ h0;omega
  rw[this,Nat.mul_zero]at e;omega
theorem normal_lenlt{B:Nat}(hB:2≤B){xs ys:List Nat}(hy:Xl ys=ys)(dx:Dig B xs)(dy:Dig B ys)(h:xs.length<ys.length):dv B xs<dv B ys:=by
 have h1:=Ui dx;have e:ys=ds B (dv B ys):=by rw[←Ji hB dy,hy]
 have hne:dv B ys≠0:=by intro h0;rw[h0,Vd]at e;rw[e]at h;simp at h
 have h2:=ds_ge hB hne;rw[←e]at h2;have h3:B^xs.length≤B^(ys.length-1):=Nat.pow_le_pow_right (by omega) (by omega);omega
theorem Own.fill{n:Nat}{H:AH}{v:Value}{L:List Nat}{m:Nat}(h:Own n H v (L++List.replicate (m+1) 0)){i:Nat}(hL:L.length=i)(y:Nat): ∃H',Xp Tryz.prog H 101 (adr v i) (.int .u64 (y:Int))=some H'∧Own n H' v ((L++[y])++List.replicate m 0)∧But (Xt v) H H'∧KA n H H':=by obtain⟨H',h1,h2,h3,h4,h5⟩:=h.put (i:=i) (by simp;omega) y;refine⟨H',h1,?_,⟨h3,fun j _ hj=>h4 j hj⟩,h5⟩;rw[List.replicate_succ,Ks _ _ _ _ hL]at h2;simpa using h2
section
attribute [-simp] Int.natCast_add Int.natCast_mul Int.natCast_ediv Int.natCast_emod Int.natCast_pow
attribute [local simp] strip Yd LW' LR gW Yf Xh Ya Xi Yo Xj Zr Zs Zh Yp Yy Yk Yq Zi Xa Ze opd Qe Ym plain Yj Tr.get_set Qc Zp Xy Yc sameKind undef Zt Yr Yv Zk Jg Jf Yb parts Jc unV DW Xq Zv LX Zy
end
theorem quo_i64{x y:Nat}(hx:x<9223372036854775808)(hy:0<y):Zd .quo .i64 (x:Int) (y:Int)=some (.int .i64 ((x/y:Nat):Int)):=by
 have hle:x/y≤x:=Nat.div_le_self x y;have h0: ¬ ((y:Int)=0):=by omega
 have e:IntKind.i64.wrap ((x:Int).tdiv (y:Int))=((x/y:Nat):Int):=by rw[IntKind.wrap_i64,Int.tdiv_eq_ediv_of_nonneg (by omega),←Int.natCast_ediv];generalize x/y=q at*;omega
 show(if(y:Int)=0 then none else some (Value.int .i64 (IntKind.i64.wrap ((x:Int).tdiv (y:Int)))))=_;rw[if_neg h0,e]
theorem rem_i64{x y:Nat}(hy:0<y):Zd .rem .i64 (x:Int) (y:Int)=some (.int .i64 ((x%y:Nat):Int)):=by
 have h0: ¬ ((y:Int)=0):=by omega
 have e:(x:Int).tmod (y:Int)=((x%y:Nat):Int):=by rw[Int.tmod_eq_emod_of_nonneg (by omega),←Int.natCast_emod]
 show(if(y:Int)=0 then none else some (Value.int .i64 ((x:Int).tmod (y:Int))))=_;rw[if_neg h0,e]
section
attribute [-simp] Int.natCast_add Int.natCast_mul Int.natCast_ediv Int.natCast_emod Int.natCast_pow
attribute [local simp] strip Yd LW' LR gW Yf Xh Ya Xi Yo Xj Zr Zs Zh Yp Yy Yk Yq Zi Xa Ze opd Qe Ym plain Yj Tr.get_set Qc Zp Xy Yc sameKind undef Zt Yr Yv Zk Jg Jf Yb parts Jc unV DW Xq Zv LX Zy
end
theorem Fs{i a b:Nat}{ms:List (Nat×Nat×Nat)}(h:cond (Nat.blt a b) [(i,a,b)] []=ms): ∀x∈ms,x.1=i∧a≤x.2.1:=by intro x hx;rw[←h]at hx;cases hbl:Nat.blt a b with|true=>rw[hbl,cond_true]at hx;simp at hx;subst hx;exact⟨rfl,Nat.le_refl _⟩|false=>rw[hbl,cond_false]at hx;cases hx
theorem Zl5{m:Nat}(h:m<9223372036854775807):Zd .sub .i64 (m:Int) 1=some (.int .i64 ((m:Int)-1)):=by show some (Value.int .i64 (IntKind.i64.wrap ((m:Int)-1)))=_;congr 2;rw[IntKind.wrap_i64];omega
theorem geq_pred{m:Nat} :Zd .geq .i64 ((m:Int)-1) 0=some (.bool (decide (0<m))):=by show some (Value.bool (decide ((m:Int)-1≥0)))=_;congr 2;apply decide_eq_decide.mpr;omega
theorem geq_cmp{a b:Nat} :Zd .geq .i64 (Un a b) 0=some (.bool (decide (b≤a))):=by
 show some (Value.bool (decide (Un a b≥0)))=_;congr 2;apply decide_eq_decide.mpr;unfold Un;split;·omega
 ·split<;>omega
section
attribute [-simp] Int.natCast_add Int.natCast_mul Int.natCast_ediv Int.natCast_emod Int.natCast_pow
attribute [local simp] strip Yd LW' LR gW Yf Xh Ya Xi Yo Xj Zr Zs Zh Yp Yy Yk Yq Zi Xa Ze opd Qe Ym plain Yj Tr.get_set Qc Zp Xy Yc sameKind undef Zt Yr Yv Zk Jg Jf Yb parts Jc unV DW Xq Zv LX Zy
end
theorem uLL:Tryz.prog.underlying 91=some (.slice 25):=by kernel_rfl
theorem sLst:Qr Tryz.prog 25=some 1:=by kernel_rfl
theorem aLst:Jm Tryz.prog 25=some false:=by kernel_rfl
structure Grp (n0 : Nat) (H : AH) (b : Nat) (vs : List Value) (f : Nat → List Nat) : Prop where
  lo : n0 ≤ b
  hi : b < H.n
  blk : H.blk b = .rw 1 vs
  own : ∀ (i : Nat) (v : Value), vs[i]? = some v → Own n0 H v (f i)
  ap : ∀ (i j : Nat) (v w : Value), i ≠ j → vs[i]? = some v → vs[j]? = some w → Ka v w
  out : ∀ (i : Nat) (v : Value), vs[i]? = some v → Xt v ≠ some b
theorem Own.isSlice{n0:Nat}{H:AH}{v:Value}{xs:List Nat}(h:Own n0 H v xs):v.cells=#[v]∧one v=true:=by cases h<;>exact⟨rfl,rfl⟩
section
variable {n0 : Nat} {H : AH} {b : Nat} {vs : List Value} {f : Nat → List Nat}
theorem Grp.adr(g:Grp n0 H b vs f){k:IntKind}{i:Nat}(hi:i<vs.length):Yt Tryz.prog 91 (.slice (some ⟨b,0,none⟩) vs.length vs.length) (.int k (i:Int))=some (.pointer (some ⟨b,i,none⟩)):=by unfold Yt;simp only[uLL,sLst];rw[if_pos (by omega)];simp
theorem Grp.load(g:Grp n0 H b vs f){i:Nat}(hi:i<vs.length):Yn Tryz.prog H 25 (.pointer (some ⟨b,i,none⟩))=some vs[i]:=by unfold Yn;simp only[aLst];unfold AH.cells;rw[g.blk];exact List.getElem?_eq_getElem hi
theorem Grp.step(g:Grp n0 H b vs f){H':AH}{i:Nat}(hi:i<vs.length){ys:List Nat}(bt:But (Xt vs[i]) H H')(o:Own n0 H' vs[i] ys):Grp n0 H' b vs (fun j=>if j=i then ys else f j):=by
 have gi:vs[i]?=some vs[i]:=List.getElem?_eq_getElem hi;refine⟨g.lo,by rw[bt.n];exact g.hi,by rw[bt.blk b g.hi (g.out i _ gi)];exact g.blk,fun j v hj=>?_,g.ap,g.out⟩;by_cases e:j=i;·subst e;rw[if_pos rfl];obtain rfl:=Option.some.inj (gi.symm.trans hj);exact o
 ·rw[if_neg e];exact(g.own j v hj).but bt fun c hc=>g.ap i j _ _ (Ne.symm e) gi hj c hc
end
def OutV(b:Nat)(vs:List Value)(H H':AH):Prop:=H.n≤H'.n∧ ∀j,j<H.n→j≠b→(∀v∈vs,Xt v≠some j)→H'.blk j=H.blk j
theorem OutV.refl(b:Nat)(vs:List Value)(H:AH):OutV b vs H H:=⟨Nat.le_refl _,fun _ _ _ _=>rfl⟩
theorem OutV.trans{b:Nat}{vs:List Value}{H H1 H2:AH}(x:OutV b vs H H1)(y:OutV b vs H1 H2):OutV b vs H H2:=⟨Nat.le_trans x.1 y.1,fun j hj h1 h2=>(y.2 j (Nat.lt_of_lt_of_le hj x.1) h1 h2).trans (x.2 j hj h1 h2)⟩
theorem OutV.but{b i:Nat}{vs:List Value}{v:Value}{H H':AH}(hi:vs[i]?=some v)(bt:But (Xt v) H H'):OutV b vs H H':=⟨Nat.le_of_eq bt.n.symm,fun j hj _ h2=>bt.blk j hj (h2 v (List.mem_of_getElem? hi))⟩
theorem OutV.mod{b i:Nat}{vs:List Value}{v:Value}{H H4 H5:AH}(hi:vs[i]?=some v)(md:Mod (Xt v) H H4)(h5:H5.n=H4.n∧ ∀j,j≠b→H5.blk j=H4.blk j):OutV b vs H H5:=⟨by have:=md.n;omega,fun j hj h1 h2=>(h5.2 j h1).trans (md.blk j hj (h2 v (List.mem_of_getElem? hi)))⟩
theorem Ze0{n:Nat}(h:n<B64):Dq Tryz.prog 3 101 (.int .i64 (n:Int))=some (.int .u64 (n:Int)):=by
 have h:n<18446744073709551616:=h;have e:IntKind.u64.wrap (n:Int)=(n:Int):=by rw[IntKind.wrap_u64];omega
 unfold Dq;simp only[Tryz.underlying3,Tryz.underlying101,e]
theorem addu{x y:Nat}(h:x+y<B64):Zd .add .u64 (x:Int) (y:Int)=some (.int .u64 ((x+y:Nat):Int)):=Dn h
section
attribute [-simp] Int.natCast_add Int.natCast_mul Int.natCast_ediv Int.natCast_emod Int.natCast_pow
attribute [local simp] strip Yd LW' LR gW Yf Xh Ya Xi Yo Xj Zr Zs Zh Yp Yy Yk Yq Zi Xa Ze opd Qe Ym plain Yj Tr.get_set Qc Zp Xy Yc sameKind undef Zt Yr Yv Zk Jg Jf Yb parts Jc unV DW Xq Zv LX Zy
end
inductive ET where|node(op:Int)(neg:Bool)(abs den:List Nat)(args:List ET)
mutual def ET.nodes:ET→Nat| .node _ _ _ _ args=>1+Xb args def Xb:List ET→Nat|[]=>0|t::ts=>t.nodes+Xb ts end
mutual def ET.depth:ET→Nat| .node _ _ _ _ args=>max 1 (Vt args) def Vt:List ET→Nat|[]=>0|t::ts=>max (t.depth+1) (Vt ts) end
def arity(n:Nat):Nat:=[0,0,1,2,2,2,2,1,2,2,1,1,1,1,1,1][n]?.getD 0
def ET.good:ET→Bool| .node op neg abs den args=>decide (0≤op∧op<16∧args.length=arity op.toNat)&&(if op=0 then decide (0<dv B64 den)else decide (abs.length=0)&&decide (den.length=0)&&!neg)
mutual def ET.allGood:ET→Bool| .node op neg abs den args=>(ET.node op neg abs den args).good&&Jh args def Jh:List ET→Bool|[]=>true|t::ts=>t.allGood&&Jh ts end
mutual def ET.wide(L:Nat):ET→Prop| .node _ _ abs den args=>abs.length≤L∧den.length≤L∧Dig B64 abs∧Dig B64 den∧Dg L args def Dg(L:Nat):List ET→Prop|[]=>True|t::ts=>t.wide L∧Dg L ts end
theorem Vq(t:ET):0<t.nodes:=by cases t;simp only[ET.nodes];omega
theorem Gb(xs ys:List ET):Xb (xs++ys)=Xb xs+Xb ys:=by induction xs with|nil=>simp[Xb]|cons x xs ih=>simp[Xb,ih,Nat.add_assoc]
theorem Zc5(xs ys:List ET):Jh (xs++ys)=(Jh xs&&Jh ys):=by induction xs with|nil=>simp[Jh]|cons x xs ih=>simp[Jh,ih,Bool.and_assoc]
theorem Za2(xs ys:List ET):Vt (xs++ys)=max (Vt xs) (Vt ys):=by induction xs with|nil=>simp[Vt]|cons x xs ih=>simp[Vt,ih,Nat.max_assoc]
theorem Ef{L:Nat}{xs:List ET}(h:Dg L xs){i:Nat}{t:ET}(hi:xs[i]?=some t):t.wide L:=by induction xs generalizing i with
 |nil=>simp at hi
 |cons x xs ih=>cases i with|zero=>simp at hi;subst hi;exact h.1|succ i=>simp at hi;exact ih h.2 hi
theorem Da{xs:List ET}{i:Nat}{t:ET}(hi:xs[i]?=some t):t.nodes≤Xb xs:=by induction xs generalizing i with
 |nil=>simp at hi
 |cons x xs ih=>cases i with|zero=>simp at hi;subst hi;simp[Xb]|succ i=>simp at hi;have:=ih hi;simp only[Xb];omega
theorem Gw(xs:List ET):xs.length≤Xb xs:=by induction xs with|nil=>simp|cons x xs ih=>have:=Vq x;simp only[Xb,List.length_cons];omega
theorem Zb6: ∀n(t:ET),t.nodes≤n→t.depth≤t.nodes:=by intro n;induction n with
 |zero=>intro t h;have:=Vq t;omega
 |succ n ih=>
  intro t h;obtain⟨op,neg,abs,den,args⟩:=t;simp only[ET.nodes]at h;simp only[ET.nodes,ET.depth];have key: ∀l:List ET,Xb l≤n→Vt l≤1+Xb l:=by intro l;induction l with|nil=>intro _;simp[Vt]|cons x xs ihl=>intro hl;simp only[Xb]at hl;simp only[Vt,Xb];have h1:=ih x (by omega);have h2:=ihl (by omega);have:=Vq x;omega
  have:=key args (by omega);omega
mutual inductive Ex(H:AH):List Value→ET→Prop|mk{op:Int}{neg:Bool}{va vd vx:Value}{abs den:List Nat}{args:List ET} :Sl H va abs→Sl H vd den→Xs H vx args→Ex H [.int .i64 op,.bool neg,va,vd,vx] (.node op neg abs den args) inductive Xs(H:AH):Value→List ET→Prop|nil:Xs H (.slice none 0 0) []|emp(b:Nat):Xs H (.slice (some ⟨b,0,some 0⟩) 0 0) []|mk(b o cap:Nat){cs:List Value}{args:List ET} :b<H.n→H.cells b=some cs→args.length≤cap→(∀(i:Nat)(t:ET),args[i]?=some t→Ex H ((cs.drop (o+i*5)).take 5) t)→Xs H (.slice (some ⟨b,o,none⟩) args.length cap) args end
theorem keep_topT(H:AH):Keep H H.top:=⟨Nat.le_refl _,by show min H.lw H.n≤H.n;omega,fun _ _=>rfl⟩
theorem Ke{H H':AH}(k:Keep H H'){b:Nat}(hb:b<H.n):H'.cells b=H.cells b:=by unfold AH.cells;rw[k.blk b hb]
theorem keep_ex{H H':AH}(k:Keep H H'): ∀n(t:ET),t.nodes≤n→ ∀vs,Ex H vs t→Ex H' vs t:=by intro n;induction n with
 |zero=>intro t h;have:=Vq t;omega
 |succ n ih=>intro t h vs hx;cases hx with
  |mk h1 h2 h3=>simp only[ET.nodes]at h;refine .mk (h1.keep k) (h2.keep k) ?_;cases h3 with
   |nil=>exact .nil
   |emp b=>exact .emp b
   |mk b o cap hb hc hl hf=>
    rename_i cs;refine .mk b o cap (cs:=cs) (Nat.lt_of_lt_of_le hb k.n) ?_ hl fun i t hi=>?_;·rw[Ke k hb];exact hc
    ·have:=Da hi;exact ih t (by omega) _ (hf i t hi)
theorem Ex.keep{H H':AH}{vs:List Value}{t:ET}(h:Ex H vs t)(k:Keep H H'):Ex H' vs t:=keep_ex k _ t (Nat.le_refl _) vs h
theorem Xs.len{H:AH}{v:Value}{args:List ET}(h:Xs H v args):lenV Tryz.prog 51 v=some args.length:=by
 have u:Tryz.prog.underlying 51=some (.slice 53):=by kernel_rfl
 unfold lenV;rw[u];cases h<;>rfl
theorem aExpr:Jm Tryz.prog 53=some true:=by kernel_rfl
theorem Zd1:Qr Tryz.prog 53=some 5:=by kernel_rfl
theorem aOp:Jm Tryz.prog 50=some false:=by kernel_rfl
theorem aNat:Jm Tryz.prog 30=some false:=by kernel_rfl
theorem aExprs:Jm Tryz.prog 51=some false:=by kernel_rfl
theorem aInt:Jm Tryz.prog 3=some false:=by kernel_rfl
theorem aBool:Jm Tryz.prog 4=some false:=by kernel_rfl
theorem Ys{H:AH}{t:TypeId}(ht:Jm Tryz.prog t=some false){b o:Nat}{cs:List Value}{v:Value}(h:H.cells b=some cs)(hk:cs[o]?=some v):Yn Tryz.prog H t (.pointer (some ⟨b,o,none⟩))=some v:=by unfold Yn;simp only[ht,h,hk]
theorem Ze3{H:AH}{b o:Nat}{cs vs:List Value}(h:H.cells b=some cs)(hk:(cs.drop o).take 5=vs)(hl:vs.length=5):Yn Tryz.prog H 53 (.pointer (some ⟨b,o,none⟩))=some (.agg vs.toArray):=by
 unfold Yn;simp only[aExpr,Zd1,AH.read_def,h];have:o+5≤cs.length:=by have:=congrArg List.length hk;rw[List.length_take,List.length_drop,hl]at this;omega
 rw[Nat.ble_eq.mpr this,cond_true,hk]
theorem Ex.len{H:AH}{vs:List Value}{t:ET}(h:Ex H vs t):vs.length=5:=by cases h;rfl
theorem Xs.at{H:AH}{v:Value}{args:List ET}(h:Xs H v args){i:Nat}{t:ET}(hi:args[i]?=some t): ∃(p:Value) (vs:List Value),Yt Tryz.prog 51 v (.int .i64 (i:Int))=some p∧(∀H',Keep H H'→Yn Tryz.prog H' 53 p=some (.agg vs.toArray))∧Ex H vs t:=by
 have u:Tryz.prog.underlying 51=some (.slice 53):=by kernel_rfl
 have hlt:i<args.length:=by
  rcases Nat.lt_or_ge i args.length with h'|h';·exact h'
  ·rw[List.getElem?_eq_none h']at hi;cases hi
 cases h with|nil=>simp at hi|emp b=>simp at hi|mk b o cap hb hc hl hf=>have hE:=hf i t hi;refine⟨.pointer (some ⟨b,o+i*5,none⟩),_,?_,fun H' k=>Ze3 ((Ke k hb).trans hc) rfl hE.len,hE⟩;unfold Yt;simp only[u,Zd1];rw[if_pos (by omega)];simp
theorem faOp(b o:Nat):Yz Tryz.prog 53 (.pointer (some ⟨b,o,none⟩)) 0=some (.pointer (some ⟨b,o,none⟩)):=by kernel_rfl
theorem faNum(b o:Nat):Yz Tryz.prog 53 (.pointer (some ⟨b,o,none⟩)) 1=some (.pointer (some ⟨b,o+1,none⟩)):=by kernel_rfl
theorem faArgs(b o:Nat):Yz Tryz.prog 53 (.pointer (some ⟨b,o,none⟩)) 2=some (.pointer (some ⟨b,o+4,none⟩)):=by kernel_rfl
theorem faN(b o:Nat):Yz Tryz.prog 34 (.pointer (some ⟨b,o,none⟩)) 0=some (.pointer (some ⟨b,o,none⟩)):=by kernel_rfl
theorem faD(b o:Nat):Yz Tryz.prog 34 (.pointer (some ⟨b,o,none⟩)) 1=some (.pointer (some ⟨b,o+2,none⟩)):=by kernel_rfl
theorem Kz(b o:Nat):Yz Tryz.prog 32 (.pointer (some ⟨b,o,none⟩)) 0=some (.pointer (some ⟨b,o,none⟩)):=by kernel_rfl
theorem faAbs(b o:Nat):Yz Tryz.prog 32 (.pointer (some ⟨b,o,none⟩)) 1=some (.pointer (some ⟨b,o+1,none⟩)):=by kernel_rfl
theorem Bk(H:AH)(sz:Nat)(cs:List Value)(hz:sz≠0:=by decide):(H.new sz cs).cells H.n=some cs:=AH.cells_rw' (by rw[AH.blk_new,if_pos rfl]) hz
theorem Vg{H:AH}{sz:Nat}{zs ws:List Value}{t:TypeId}{n:Nat}(ht:Qr Tryz.prog t=some n)(hz:zs.length=n){v:Value}(hv:v.cells.toList=ws)(hw:ws.length=n)(h1:ws.all one=true)(hz0:sz≠0:=by decide): ∃H',Xp Tryz.prog (H.new sz zs) t (.pointer (some ⟨H.n,0,none⟩)) v=some H'∧Keep H H'∧H'.blk H.n= .rw sz ws∧H'.n=H.n+1:=by
 obtain⟨sz,rfl⟩: ∃k,sz=k+1:=⟨sz-1,by omega⟩;have hb:(H.new (sz+1) zs).blk H.n= .rw (sz+1) zs:=by rw[AH.blk_new,if_pos rfl]
 have hs:v.cells.size=n:=by rw[←hw,←hv];simp
 have hle:Nat.ble (0+ws.length) zs.length=true:=Nat.ble_eq.mpr (by omega);refine⟨{ n:=H.n+1,lw:=min H.lw H.n,t:=(H.new (sz+1) zs).t.set H.n (.rw (sz+1) ws) },?_,⟨Nat.le_succ _,Nat.le_refl _,fun j hj=>?_⟩,?_,rfl⟩;·unfold Xp;simp only[ht,hs,hv];rw[show Nat.beq n n=true from by simp,cond_true,AH.write_def,hb];simp only[hle,h1,Bool.and_self,cond_true,List.take_zero,List.nil_append];rw[List.drop_of_length_le (by omega),List.append_nil];rfl
 ·unfold AH.blk AH.new;simp only[Tr.get_set];rw[if_neg (by omega),if_neg (by omega)]
 ·unfold AH.blk;simp only[Tr.get_set,if_true]
def RowsIn(H:AH):Prop:=0<H.n∧H.cells 0=some Vr
theorem RowsIn.keep{H H':AH}(h:RowsIn H)(k:Keep H H'):RowsIn H':=⟨Nat.lt_of_lt_of_le h.1 k.n,by rw[Ke k h.1];exact h.2⟩
theorem rows_arity: ∀(n:Nat),n<16→Vr[n*3+2]?=some (.int .i64 (arity n:Int)):=by intro n hn;match n,hn with|0,_=>rfl|1,_=>rfl|2,_=>rfl|3,_=>rfl|4,_=>rfl|5,_=>rfl|6,_=>rfl|7,_=>rfl|8,_=>rfl|9,_=>rfl|10,_=>rfl|11,_=>rfl|12,_=>rfl|13,_=>rfl|14,_=>rfl|15,_=>rfl|n+16,h=>omega
theorem iaRows{k:IntKind}{n:Nat}(hn:n<16):Yt Tryz.prog 181 (.pointer (some ⟨0,0,none⟩)) (.int k (n:Int))=some (.pointer (some ⟨0,n*3,none⟩)):=by
 have u:Tryz.prog.underlying 181=some (.array 16 180):=by kernel_rfl
 have s:Qr Tryz.prog 180=some 3:=by kernel_rfl
 unfold Yt;simp only[u,s];rw[if_pos (by omega)];simp
theorem faRow(b o:Nat):Yz Tryz.prog 180 (.pointer (some ⟨b,o,none⟩)) 2=some (.pointer (some ⟨b,o+2,none⟩)):=by kernel_rfl
theorem gRowsOk:Nat.blt 0 Zo.ng=true:=rfl
theorem load_arity{H:AH}(h:H.cells 0=some Vr){n:Nat}(hn:n<16):Yn Tryz.prog H 3 (.pointer (some ⟨0,n*3+2,none⟩))=some (.int .i64 (arity n:Int)):=Ys aInt h (rows_arity n hn)
theorem Ez{H:AH}{v:Value}{xs:List Nat}(h:Sl H v xs)(dx:Dig B64 xs)(lx:xs.length≤17592186044416):Zq Tryz.prog Zo 123 [v] H=some (.int .i64 (Zf (dv B64 xs):Int),H):=by obtain⟨_,_,hc,rfl,rfl⟩:=Uk h dx lx;exact hc
theorem Fk{n:Nat} :Zf n=0↔n=0:=by unfold Zf;split<;>simp_all
theorem Bw{xs:List Nat}(dx:Dig B64 xs){L:Nat}(lx:xs.length≤L):Zf (dv B64 xs)≤64*L:=by
 rcases Nat.eq_zero_or_pos (dv B64 xs)with h0|h0;·rw[h0];exact Nat.zero_le _
 ·have h1:=Ul (n:=dv B64 xs) (by omega);have h2:=Ui dx;have h3:B64^xs.length≤B64^L:=Nat.pow_le_pow_right (by decide) lx;have h4:B64^L=2^(64*L):=(Nat.pow_mul 2 64 L).symm;rw[h4]at h3;have:=(Nat.pow_lt_pow_iff_right (a:=2) (by decide)).mp (Nat.lt_of_le_of_lt h1 (Nat.lt_of_lt_of_le h2 h3));omega
section
attribute [-simp] Int.natCast_add Int.natCast_mul Int.natCast_ediv Int.natCast_emod Int.natCast_pow
attribute [local simp] strip Yd LW' LR gW Yf Xh Ya Xi Yo Xj Zr Zs Zh Yp Yy Yk Xo Zw Yq Zi Ze Xn Xm Je Ye Xa opd Qe Ym plain Yj Tr.get_set Qc Zp Xy Yc sameKind undef Zt Yr Yv Zk Yb parts unV DW Xq Zv LX Zy
theorem gtrB{x:Nat} :Zd .gtr .i64 (x:Int) 67108864=some (.bool (decide (67108864<x))):=by show some (Value.bool (decide ((x:Int)>67108864)))=_;congr 2;exact decide_eq_decide.mpr (by omega)
theorem gtrZ{k:IntKind}{x:Nat} :Zd .gtr k (x:Int) 0=some (.bool (decide (0<x))):=by show some (Value.bool (decide ((x:Int)>0)))=_;congr 2;exact decide_eq_decide.mpr (by omega)
theorem eqlZ{k:IntKind}{x:Nat} :Zd .eql k (x:Int) 0=some (.bool (decide (x=0))):=by
 show some (Value.bool ((x:Int)==0))=_;congr 2;by_cases h:x=0;·subst h;rfl
 ·rw[decide_eq_false h];simp;omega
theorem neqN{k:IntKind}{x y:Nat} :Zd .neq k (x:Int) (y:Int)=some (.bool (decide (x≠y))):=by
 show some (Value.bool ((x:Int) !=(y:Int)))=_;congr 2;by_cases h:x=y;·subst h;simp
 ·rw[decide_eq_true h];simp[bne];omega
set_option maxHeartbeats 1000000 in theorem shape_spec{H:AH}{vs:List Value}{op:Int}{neg:Bool}{abs den:List Nat}{args:List ET}(hE:Ex H vs (.node op neg abs den args))(hR:RowsIn H)(da:Dig B64 abs)(dd:Dig B64 den)(la:abs.length≤1048576)(ld:den.length≤1048576):CW Tryz.prog Zo 96 [.agg vs.toArray] H fun v H'=>Keep H H'∧v= .bool (ET.node op neg abs den args).good:=by cases hE with
 |@mk _ _ va vd vx _ _ _ h1 h2 h3=>
  refine Zl 74 (by decide) (by decide) Tryz.func96 rfl rfl ?_;have hN: ∀H':AH,Keep (H.new 1 [.int .i64 op,.bool neg,va,vd,vx]) H'→Keep H H':=fun H' k=>(Keep.new H 1 _).trans k;have kB:=Keep.new H 1 [.int .i64 op,.bool neg,va,vd,vx];have hcB:=Bk H 1 [.int .i64 op,.bool neg,va,vd,vx];have la1:=(h1.keep kB).len Zk;have ld1:=(h2.keep kB).len Zk;have hRB:=hR.keep kB;have c1:=Ez (h1.keep kB) da (by omega);have c2:=Ez (h2.keep kB) dd (by omega);have c1t:=Ez ((h1.keep kB).keep (keep_topT _)) da (by omega);have c2t:=Ez ((h2.keep kB).keep (keep_topT _)) dd (by omega);have b1:=Bw da la;have b2:=Bw dd ld;have lx:=h3.len;obtain⟨HB,hHB⟩: ∃HB,HB=H.new 1 [.int .i64 op,.bool neg,va,vd,vx]:=⟨_,rfl⟩;rw[←hHB]at kB hcB hRB c1 c2 c1t c2t;have f0:=Ys aOp (o:=0) hcB rfl;have f1:=Ys aBool (o:=1) hcB rfl;have f2:=Ys aNat (o:=2) hcB rfl;have f3:=Ys aNat (o:=3) hcB rfl;have f4:=Ys aExprs (o:=4) hcB rfl;have g2:Yn Tryz.prog HB.top 30 (.pointer (some ⟨H.n,2,none⟩))=some va:=Ys aNat (show HB.top.cells H.n=some _ from hcB) rfl;have g3:Yn Tryz.prog HB.top 30 (.pointer (some ⟨H.n,3,none⟩))=some vd:=Ys aNat (show HB.top.cells H.n=some _ from hcB) rfl;obtain⟨R,hRR⟩: ∃R:Bool,R=(ET.node op neg abs den args).good:=⟨_,rfl⟩;rw[←hRR];simp only[ET.good]at hRR;apply Zb;intro d1 hd1;apply Za;simp[Value.cells,←hHB];subst hd1;apply Zb;intro d1 hd1;apply Zb;intro d2 hd2;have no: ∀tm:Tr Value,tm.get 25=some (.bool true)→R=false→W Tryz.prog Zo d2 ⟨74,tm,HB⟩ (Xw Tryz.prog Zo d1 fun ex s=>(ex= .norm∨ex= .ret)∧ ∃vs,Zt Tryz.prog s [.tmp 2]=some vs∧Keep H s.H∧Yv vs= .bool R):=fun tm ht hno=>by rw[hno];subst hd2;refine Zc (t:=true) (by simp[ht]) ?_;apply Zb;intro b2 hb2;apply Za;simp;subst hb2;apply Zn;simp[Xw];exact kB
  apply Zd8 (by kernel_rfl);have e0:Zd .lss .i64 op 0=some (.bool (decide (op<0))):=rfl;have e1:Zd .geq .i64 op 16=some (.bool (decide (op≥16))):=rfl;by_cases o1:op<0;·rw[decide_eq_true o1]at e0;simp[faOp,f0,e0];show W _ _ d2 _ _;exact no _ (by simp) (by rw[hRR,decide_eq_false (by omega),Bool.false_and])
  rw[decide_eq_false o1]at e0;by_cases o2:op≥16;·rw[decide_eq_true o2]at e1;simp[faOp,f0,e0,e1];show W _ _ d2 _ _;exact no _ (by simp) (by rw[hRR,decide_eq_false (by omega),Bool.false_and])
  rw[decide_eq_false o2]at e1;obtain⟨n,rfl⟩: ∃n:Nat,op=(n:Int):=⟨op.toNat,by omega⟩;have hn:n<16:=by omega
  rw[Int.toNat_natCast]at hRR;have ld2:=load_arity hRB.2 hn;have e2:Zd .neq .i64 (args.length:Int) (arity n:Int)=some (.bool (decide (args.length≠arity n))):=neqN;by_cases o3:args.length=arity n
  ·rw[decide_eq_false (fun h=>h o3)]at e2;simp[faOp,faArgs,f0,f4,e0,e1,lx,gRowsOk,iaRows hn,faRow,ld2,e2];subst hd2;refine Zc (t:=false) (by simp) ?_;apply Zj;subst hd1;rw[decide_eq_true (show 0≤(n:Int)∧(n:Int)<16∧args.length=arity n from⟨by omega,by omega,o3⟩),Bool.true_and]at hRR;clear no;have e3:Zd .eql .i64 (n:Int) 0=some (.bool (decide (n=0))):=eqlZ;apply Zb;intro d1 hd1;apply Zb;intro d2 hd2;apply Za;simp[faOp,f0,e3];subst hd2;by_cases h0:n=0
   ·refine Zc (t:=true) (by simp[h0]) ?_;rw[if_pos (by omega)]at hRR;have g1:Zd .gtr .i64 (Zf (dv B64 abs):Int) 67108864=some (.bool false):=by rw[gtrB,decide_eq_false (by omega)]
    have g4:Zd .gtr .i64 (Zf (dv B64 den):Int) 67108864=some (.bool false):=by rw[gtrB,decide_eq_false (by omega)]
    have g5:Zd .gtr .i64 (Zf (dv B64 den):Int) 0=some (.bool R):=by rw[gtrZ,hRR];congr 2;exact decide_eq_decide.mpr (by have:=Fk (n:=dv B64 den);omega)
    apply Zb;intro d3 hd3;apply W_reads (by kernel_rfl);simp[faNum,faN,faD,faAbs,g2,g3,c1t,c2t];subst hd3;apply Zb;intro d3 hd3;apply Zb;intro d4 hd4;apply Za;simp[g1,g4];subst hd4;refine Zc (t:=false) (by simp) ?_;apply Zj;subst hd3;apply Zb;intro d4 hd4;apply Za;simp[g5];subst hd4;apply Zn;simp[Xw];exact kB
   ·refine Zc (t:=false) (by simp[h0]) ?_;rw[if_neg (by omega)]at hRR;apply Zj;subst hd1;apply Zb;intro d3 hd3;apply Za;have e5:Zd .eql .i64 (abs.length:Int) 0=some (.bool (decide (abs.length=0))):=eqlZ;have e6:Zd .eql .i64 (den.length:Int) 0=some (.bool (decide (den.length=0))):=eqlZ;by_cases i1:abs.length=0
    ·rw[decide_eq_true i1]at e5;by_cases i2:den.length=0;·rw[decide_eq_true i2]at e6;simp[faNum,faN,faD,faAbs,Kz,f1,f2,f3,la1,ld1,e5,e6];subst hd3;apply Zn;simp;exact⟨kB,by rw[hRR];simp[i1,i2]⟩
     ·rw[decide_eq_false i2]at e6;simp[faNum,faN,faD,faAbs,Kz,f1,f2,f3,la1,ld1,e5,e6];subst hd3;apply Zn;simp;exact⟨kB,by rw[hRR];simp[i1,i2]⟩
    ·rw[decide_eq_false i1]at e5;simp[faNum,faN,faD,faAbs,Kz,f1,f2,f3,la1,ld1,e5];subst hd3;apply Zn;simp;exact⟨kB,by rw[hRR];simp[i1]⟩
  ·rw[decide_eq_true o3]at e2;simp[faOp,faArgs,f0,f4,e0,e1,lx,gRowsOk,iaRows hn,faRow,ld2,e2];show W _ _ d2 _ _;exact no _ (by simp) (by rw[hRR,decide_eq_false (by omega),Bool.false_and])
end
end
end Go.Proofs.YtmkfecoeghokfaaGreatDoor
