/-
  The engine and the walks that the claim's last text leans on, part 4 of 9: Ni, Nj, Nk, Nq, Nl, Nm, Nr, EvS, Ns, Nt, Nu, Nv, Nw, Nx, Oa, Ob, Oc, Od, Oe.
-/
import Derived.Test.YtmkfecoeghokfaaGreatDoorM3
namespace Go.Proofs.YtmkfecoeghokfaaGreatDoor
open Go Ev
set_option linter.unusedVariables false
set_option linter.unusedSimpArgs false
noncomputable section
set_option maxHeartbeats 2000000
set_option maxRecDepth 20000
section
attribute [-simp] Int.natCast_add Int.natCast_mul Int.natCast_ediv Int.natCast_emod Int.natCast_pow
attribute [local simp] strip ZR Xm gW Z2 Ye ZW Yf ZK Yg Zs Zt Zi ZJ Ya ZP ZA Zl ZI Zj Zf ZB ZC YV Zo Yd YE Yy ZL plain ZO Tr.get_set Yw Zp Ys ZT sameKind undef Zw ZH Z5 Zv Z1 Yl ZU parts Z3 XZ DW Yh Zz ZZ Zq ZD ZQ XM Yk Zn ZN ZV ZM
theorem FL{x:Nat}(hx:x<Zc):Zd .and .u64 (x:Int) 4294967295=some (.int .u64 ((x%4294967296:Nat):Int)):=by have:=B7 (x:=x) (y:=4294967295) hx (by decide);rw[show x&&&4294967295=x%4294967296 from Nat.and_two_pow_sub_one_eq_mod x 32]at this;exact this
theorem jS{x:Nat} :Y0 .shr .u64 (x:Int) 32=some (.int .u64 ((x/4294967296:Nat):Int)):=Tw (x:=x) (s:=32) (by omega)
theorem mul64_arith {x y : Nat} (hx : x < Zc) (hy : y < Zc) :
    let x0 := x % 4294967296; let x1 := x / 4294967296; let y0 := y % 4294967296; let y1 := y / 4294967296
    let w0 := x0 * y0 % Zc
    let t := (x1 * y0 % Zc + w0 / 4294967296) % Zc
    let w1 := (t % 4294967296 + x0 * y1 % Zc) % Zc
    ((x1 * y1 % Zc + t / 4294967296) % Zc + w1 / 4294967296) % Zc = x * y / Zc := by
  intro x0 x1 y0 y1 w0 t w1
  have hx : x < 18446744073709551616 := hx
  have hy : y < 18446744073709551616 := hy
  have a0 : x0 <= 4294967295 := by show x % 4294967296 <= _; omega
  have a1 : x1 <= 4294967295 := by show x / 4294967296 <= _; omega
  have b0 : y0 <= 4294967295 := by show y % 4294967296 <= _; omega
  have b1 : y1 <= 4294967295 := by show y / 4294967296 <= _; omega
  have ex : x = 4294967296 * x1 + x0 := (Nat.div_add_mod x 4294967296).symm
  have ey : y = 4294967296 * y1 + y0 := (Nat.div_add_mod y 4294967296).symm
  have p00 : x0 * y0 <= 18446744065119617025 := Nat.mul_le_mul a0 b0
  have p10 : x1 * y0 <= 18446744065119617025 := Nat.mul_le_mul a1 b0
  have p01 : x0 * y1 <= 18446744065119617025 := Nat.mul_le_mul a0 b1
  have p11 : x1 * y1 <= 18446744065119617025 := Nat.mul_le_mul a1 b1
  have e : x * y = 18446744073709551616 * (x1 * y1) + 4294967296 * (x1 * y0) + 4294967296 * (x0 * y1) + x0 * y0 := by
    rw [ex, ey]
    simp only [Nat.mul_add, Nat.add_mul]
    rw [show 4294967296 * x1 * (4294967296 * y1) = 18446744073709551616 * (x1 * y1) by rw [Nat.mul_mul_mul_comm]]
    rw [Nat.mul_assoc 4294967296 x1 y0, Nat.mul_left_comm x0 4294967296 y1]
    omega
  rw [e]
  show ((x1 * y1 % 18446744073709551616 + t / 4294967296) % 18446744073709551616 + w1 / 4294967296) % 18446744073709551616 = _ / 18446744073709551616
  have mG : w0 = x0 * y0 := Nat.mod_eq_of_lt (by show _ < 18446744073709551616; omega)
  have ht : t = x1 * y0 + x0 * y0 / 4294967296 := by
    show (x1 * y0 % 18446744073709551616 + w0 / 4294967296) % 18446744073709551616 = _
    rw [mG]; omega
  have LD : w1 = t % 4294967296 + x0 * y1 := by
    show (t % 4294967296 + x0 * y1 % 18446744073709551616) % 18446744073709551616 = _
    omega
  generalize x1 * y1 = p11 at *
  generalize x1 * y0 = p10 at *
  generalize x0 * y1 = p01 at *
  generalize x0 * y0 = p00 at *
  clear_value t w1
  omega
theorem Bh{x y:Nat}(hx:x<Zc)(hy:y<Zc){H:AH} :CW Tryz.prog Zy 202 [.int .u64 (x:Int),.int .u64 (y:Int)] H fun v H'=>H'=H/\v= .tuple #[.int .u64 ((x*y/Zc:Nat):Int),.int .u64 ((x*y%Zc:Nat):Int)]:=by
 refine Z8 51 Tryz.func202 ?_;have ht: ∀z:Nat,z%Zc<Zc:=fun z=>Nat.mod_lt _ (by decide);have key:=mul64_arith hx hy;simp only at key;iterate 12 apply Zb;intro b hb;simp[FL hx,FL hy,jS,Tu,Tq,FL (ht _)];subst hb
 apply Zu;simp;have zV:=key;simp only[Nat.mod_add_mod,Nat.add_mod_mod]at zV;rw[<-zV]
section
theorem Ym.cut{n0:Nat}{H:AH}{v:Value}{xs:List Nat}(h:Ym n0 H v xs){t:TypeId}(ht:LT t){m:Nat}(hm:m<=xs.length)(h0:0<xs.length): ∃v',Vo Tryz.prog H t v none (some (.int .i64 (m:Int))) none=some v'/\Ym n0 H v' (xs.take m):=by cases h with
 |nil=>cases h0
 |mk b o cap xs cs h1 h2 h3 h4 h5 h6=>
  have hl:(xs.take m).length=m:=by rw[List.length_take];omega
  have X4:H.size b=some 1:=by unfold AH.size;rw[h4]
  refine⟨.slice (some ⟨b,o,none⟩) (xs.take m).length cap,?_,.mk b o cap _ cs (by omega) h2 h3 h4 h5 fun i x hx=>h6 i x ?_⟩;·unfold Vo;simp only[ht.1,Mg];unfold Mz Xu;simp only[X4,Option.isSome_some,Option.isNone_none,Bool.true_or];rw[if_pos (by omega)];have e1:Nat.ble m cap=true:=Nat.ble_eq.mpr (by omega);simp[Xu,e1,hl]
  ·rw[List.getElem?_take]at hx;split at hx;·exact hx
   ·cases hx
attribute [local simp] strip ZR Xm gW Z2 Ye ZW Yf ZK Yg Zs Zt Zi ZJ Ya ZP ZI Zj Yd YE Yy ZL plain ZO Tr.get_set Yw Zp Ys ZT sameKind Zd undef Zw ZH Z5 Zv Z1 Yl ZU
theorem DE{v:Value}{xs:List Nat}{H:AH}{n0:Nat}(hs:Ym n0 H v xs)(hlen:xs.length<1152921504606846976):CW Tryz.prog Zy 160 [v] H fun v' H'=>H'=H/\Ym n0 H v' (YS xs):=by
 refine Z8 21 Tryz.func160 ?_;apply Zb;intro b1 Ze;simp;subst Ze;apply Zh;intro b1 Ze;apply ZS;refine Gg (fun n s=>s.k=21/\s.H=H/\ ∃v',s.tm.get 0=some v'/\n<=xs.length/\Ym n0 H v' (xs.take n)/\YS (xs.take n)=YS xs) ?_ xs.length _ ⟨rfl,rfl,v,by simp,Nat.le_refl _,by rw[List.take_length];exact hs,by rw[List.take_length]⟩;rintro n ⟨k,tm,H'⟩ ⟨h2,h3,v',h4,h5,h6,h7⟩;simp only at h2 h3 h4;subst h2;subst h3;have hl:(xs.take n).length=n:=by rw[List.length_take];omega
 have NP:=h6.sl.len Zv;rw[hl]at NP;apply Zh;intro b2 Zx;apply Zb;intro b3 Z9;by_cases hz:n=0;·subst hz;simp[h4,NP];subst Z9;refine Za (t:=false) (by simp) ?_;apply YP;left;refine⟨rfl,?_⟩;subst Ze;apply Zb;intro b4 Yz;simp[h4];subst Yz;apply Zu;simp;rw[<-h7];exact h6
 ·have hn:0<n:=Nat.pos_of_ne_zero hz;have hw:IntKind.i64.wrap ((n:Int)-1)=((n-1:Nat):Int):=M6 hn (by omega);have hi:n-1<(xs.take n).length:=by omega
  have ha:=h6.sl.adr Zv (k:= .i64) hi;have YD:=h6.sl.load hi;simp[h4,NP,hn,hw,ha,YD];subst Z9;have hx:n-1<xs.length:=by omega
  have PZ:xs.take n=xs.take (n-1)++[xs[n-1]]:=by have:=List.take_append_getElem (l:=xs) (i:=n-1) hx;rw[this,show n-1+1=n by omega]
  by_cases h0:xs[n-1]=0
  ·refine Za (t:=true) (by simp[h0]) ?_;apply Zr;subst Zx;apply ZS;apply Zk;obtain⟨v2,hv2,CH⟩:=h6.cut Zv (m:=n-1) (by omega) (by omega);simp[h4,NP,hw,hv2];refine⟨n-1,by omega,rfl,rfl,v2,by simp,by omega,?_,?_⟩;·rw[List.take_take,show min (n-1) n=n-1 by omega]at CH;exact CH
   ·rw[<-h7,PZ,h0,VE]
  ·refine Za (t:=false) (by simp;exact h0) ?_;apply YP;left;refine⟨rfl,?_⟩;subst Ze;apply Zb;intro b4 Yz;simp[h4];subst Yz;apply Zu;simp;rw[<-h7];have:YS (xs.take n)=xs.take n:=by rw[PZ];exact S6 _ _ h0
   rw[this];exact h6
theorem Of{v:Value}{xs:List Nat}{H:AH}{n0:Nat}(hs:Ym n0 H v xs)(dx:YG Zc xs)(hlen:xs.length<=17592186044416):CW Tryz.prog Zy 204 [v] H fun v' H'=>H'=H/\((67108864<Zm (dv Zc xs)/\v'= .tuple #[.slice none 0 0,.int .i64 3])\/(Zm (dv Zc xs)<=67108864/\ ∃u,v'= .tuple #[u,.int .i64 0]/\Ym n0 H u (ds Zc (dv Zc xs)))):=by
 refine Z8 10 Tryz.func204 ?_;obtain⟨v1,H1,NR,e1,s1⟩:=DE hs (by omega);subst e1;have dt:=XH dx;obtain⟨v2,H2,Jd,e2,e3⟩:=Vh s1.sl dt (Nat.le_trans (XG xs) hlen);subst e2;subst e3;rw[WX]at Jd;rw[Xl Z7 dx]at s1;apply Zh;intro b1 Ze;apply Zk;simp;subst Ze;apply Zh;intro b1 Ze;apply Zk;simp[NR];subst Ze;apply Zh;intro b1 Ze;apply Zh;intro b2 Zx;apply Zk;simp[Jd];subst Zx;by_cases h:67108864<Zm (dv Zc xs);·refine Za (t:=true) (by simp;omega) ?_;apply Zh;intro b2 Zx;apply Zk;simp;subst Zx;apply Zu;simp[Yx,h]
 ·refine Za (t:=false) (by simp;omega) ?_;apply Zr;subst Ze;apply Zh;intro b2 Zx;apply Zk;simp;subst Zx;apply Zu;simp[h];exact⟨by omega,s1⟩
end
def nth(xs:List Nat)(i:Nat):Nat:=xs[i]?.getD 0
theorem XQ{xs:List Nat}{i:Nat}(h:i<xs.length):nth xs i=xs[i]:=by unfold nth;rw[List.getElem?_eq_getElem h];rfl
theorem Vn{xs:List Nat}{i:Nat}(h:xs.length<=i):nth xs i=0:=by unfold nth;rw[List.getElem?_eq_none h];rfl
theorem aM{v:Value}{xs:List Nat}{H:AH}(hs:Sl H v xs)(dx:YG Zc xs)(hlen:xs.length<=17592186044000){s:Nat}(fB:s<64):CW Tryz.prog Zy 219 [v,.int .u64 (s:Int)] H fun v' H'=>Zg H H'/\Ym H.n H' v' (ds Zc (dv Zc xs/2^s)):=by
 refine Z8 47 Tryz.func219 ?_;obtain⟨c0,H1,RC,k1,o1,n1⟩:=YL (H:=H) Zv (n:=xs.length) (by omega);have l0:=hs.len Zv;apply Zb;intro b1 Ze;simp;subst Ze;apply Zb;intro b1 Ze;simp[l0,RC];subst Ze;apply Zh;intro b1 Ze;apply Zb;intro b2 Zx;simp[l0];subst Zx;apply ZS;refine YQ (fun m s'=>s'.k=47/\ ∃(i:Nat) (L:List Nat),m+i=xs.length/\L.length=i/\YG Zc L/\dv Zc L*2^s+nth xs 0%2^s=dv Zc (xs.take i)+Zc^i*(nth xs i%2^s)/\Zg H s'.H/\Ym H.n s'.H c0 (L++List.replicate m 0)/\s'.tm.get 0=some v/\s'.tm.get 1=some (.int .u64 (s:Int))/\s'.tm.get 5=some c0/\s'.tm.get 11=some v/\s'.tm.get 12=some (.int .i64 (xs.length:Int))/\s'.tm.get 13=some (.int .i64 (i:Int))) ?_ xs.length _ ⟨rfl,0,[],by omega,rfl,.nil _,by simp[dv],k1,o1,by simp,by simp,by simp,by simp,by simp,by simp⟩;rintro m ⟨k,tm,H2⟩ ⟨hk,i,L,Kk,hL,dL,hv,kH,own,t0,t1,t5,t11,t12,t13⟩ Q' Y4;simp only at hk t0 t1 t5 t11 t12 t13 kH own;subst hk;apply Zb;intro b3 Z9;simp[t12,t13];subst Z9;apply Zh;intro b3 Z9;by_cases hi:i<xs.length
 ·refine Za (t:=true) (by simp[hi]) ?_;apply Zr;subst Z9;have s2:=hs.keep kH;have a1:=s2.adr Zv (k:= .i64) hi;have d1:=s2.load hi;have hx:xs[i]<Zc:=dx.get (List.getElem?_eq_getElem hi);obtain⟨m',rfl⟩: ∃m',m=m'+1:=⟨m-1,by omega⟩;have Za6:Ym H.n H2 c0 (L++0::List.replicate m' 0):=by rw[List.replicate_succ]at own;exact own
  have a2:=Za6.sl.adr Zv (k:= .i64) (i:=i) (by simp;omega);have hq:xs[i]/2^s<2^(64-s):=by rw[Nat.div_lt_iff_lt_mul (Nat.two_pow_pos _),<-Nat.pow_add,show 64-s+s=64 by omega];exact hx
  have dM:xs[i]/2^s<Zc:=Nat.lt_of_lt_of_le hq (by show _<=2^64;exact Nat.pow_le_pow_right (by decide) (by omega));obtain⟨H3,SB,Sh,n3,kp3⟩:=Za6.store (i:=i) (by simp;omega) (xs[i]/2^s);rw[WG L 0 _ _ hL]at Sh;have J8:=kp3 H kH (Nat.le_refl _);apply Zh;intro b3 Z9;have low:nth xs (i+1)%2^s<2^s:=Nat.mod_lt _ (Nat.two_pow_pos _);have e64:2^s*2^(64-s)=Zc:=by rw[<-Nat.pow_add,show s+(64-s)=64 by omega]
  have fin: ∀(oO:Tr Value)(H4:AH),Zg H H4->Ym H.n H4 c0 (L++(nth xs (i+1)%2^s*2^(64-s)+xs[i]/2^s)::List.replicate m' 0)->oO.get 0=some v->oO.get 1=some (.int .u64 (s:Int))->oO.get 5=some c0->oO.get 11=some v->oO.get 12=some (.int .i64 (xs.length:Int))->oO.get 13=some (.int .i64 (i:Int))->W Tryz.prog Zy b3 ⟨47,oO,H4⟩ Q':=fun oO H4 k4 o4 q0 q1 q5 og uY q13=>by
   subst Z9;apply Zk;simp[q13,YR (x:=i) (by omega)];apply Y4;refine⟨m',by omega,rfl,i+1,L++[nth xs (i+1)%2^s*2^(64-s)+xs[i]/2^s],by omega,by simp[hL],?_,?_,k4,by simpa using o4,by simp[q0],by simp[q1],by simp[q5],by simp[og],by simp[uY],by simp⟩;·refine dL.append (.cons ?_ (.nil _));have:(nth xs (i+1)%2^s+1)*2^(64-s)<=2^s*2^(64-s):=Nat.mul_le_mul_right _ low;rw[e64,Nat.succ_mul]at this;omega
   ·rw[Yt,hL,Xo hi,Yt,List.length_take,Nat.min_eq_left (by omega)];simp only[dv,Nat.mul_zero,Nat.add_zero];rw[XQ hi]at hv;have e1:2^s*(xs[i]/2^s)+xs[i]%2^s=xs[i]:=Nat.div_add_mod _ _;generalize nth xs (i+1)%2^s=u at*;generalize hr:xs[i]%2^s=r at*;generalize hqq:xs[i]/2^s=q at*;have e2:(u*2^(64-s)+q)*2^s=Zc*u+2^s*q:=by rw[Nat.add_mul,Nat.mul_assoc,Nat.mul_comm (2^(64-s)),e64,Nat.mul_comm u,Nat.mul_comm q]
    have e3:Zc^i*xs[i]=Zc^i*(2^s*q)+Zc^i*r:=by rw[<-Nat.mul_add,e1]
    rw[Nat.add_mul,Nat.mul_assoc (Zc^i),e2,Nat.mul_add,e3,Nat.pow_succ,Nat.mul_assoc (Zc^i) Zc u];omega
  apply ZS;apply Zb;intro b4 Yz;simp[t11,t13,a1,d1];subst Yz;apply Zb;intro b4 Yz;simp[t1,t5,t13,Tw (x:=xs[i]) (s:=s) (by omega),a2,SB];subst Yz;apply Zb;intro b4 Yz;simp[t0,l0,YR (x:=i) (by omega)];subst Yz;by_cases Ji:i+1<xs.length
  ·refine Za (t:=true) (by simp[Ji]) ?_;have s3:=hs.keep J8;have a4:=s3.adr Zv (k:= .i64) Ji;have d4:=s3.load Ji;have a5:=Sh.sl.adr Zv (k:= .i64) (i:=i) (by simp;omega);have d5:=Sh.sl.load (i:=i) (by simp;omega);rw[NT L _ _ hL]at d5;have vN:xs[i+1]<Zc:=dx.get (List.getElem?_eq_getElem Ji);have n1:nth xs (i+1)=xs[i+1]:=XQ Ji;have sb:Zd .sub .u64 63 (s:Int)=some (.int .u64 ((63-s:Nat):Int)):=Sn (x:=63) (by decide) (by omega);have sh1:Y0 .shl .u64 (xs[i+1]:Int) 1=some (.int .u64 ((xs[i+1]*2%Zc:Nat):Int)):=Sm (s:=1) (by omega);have em:xs[i+1]*2%Zc*2^(63-s)%Zc=nth xs (i+1)%2^s*2^(64-s):=by rw[n1,Nat.mod_mul_mod,Nat.mul_assoc,show 2*2^(63-s)=2^(64-s) by rw[<-Nat.pow_succ',show(63-s).succ=64-s by omega],<-e64,Nat.mul_mod_mul_right]
   have sh2:Y0 .shl .u64 ((xs[i+1]*2%Zc:Nat):Int) ((63-s:Nat):Int)=some (.int .u64 ((nth xs (i+1)%2^s*2^(64-s):Nat):Int)):=by rw[Sm (by omega),em]
   have hwB:nth xs (i+1)%2^s*2^(64-s)<Zc:=by rw[<-em];exact Nat.mod_lt _ (by decide)
   have hor:xs[i]/2^s|||nth xs (i+1)%2^s*2^(64-s)=nth xs (i+1)%2^s*2^(64-s)+xs[i]/2^s:=by rw[Nat.or_comm,Bo hq]
   obtain⟨H4,Wx,Vz,n4,zS⟩:=Sh.store (i:=i) (by simp;omega) (nth xs (i+1)%2^s*2^(64-s)+xs[i]/2^s);rw[WG L _ _ _ hL]at Vz;apply pj (by kernel_rfl);simp[t0,t1,t5,a4,d4,a5,d5,YR (x:=i) (by omega),sb,sh1,sh2,JW dM hwB,hor,Wx];exact fin _ _ (zS H J8 (Nat.le_refl _)) Vz (by simp[t0]) (by simp[t1]) (by simp[t5]) (by simp[t11]) (by simp[t12]) (by simp[t13])
  ·refine Za (t:=false) (by simp[Ji]) ?_;apply Zr;have n0:nth xs (i+1)=0:=Vn (by omega);exact fin _ _ J8 (by rw[n0];simpa using Sh) (by simp[t0]) (by simp[t1]) (by simp[t5]) (by simp[t11]) (by simp[t12]) (by simp[t13])
 ·refine Za (t:=false) (by simp[hi]) ?_;apply YP;apply Y4;left;refine⟨rfl,?_⟩;obtain rfl:m=0:=by omega
  have UN:i=xs.length:=by omega
  obtain⟨v5,H5,MR,k5,o5⟩:=Vu own.sl (by simp;omega);subst Ze;apply Zb;intro b4 Yz;simp[t5,MR];subst Yz;apply Zu;simp;refine⟨kH.trans k5,?_⟩;have e:dv Zc xs/2^s=dv Zc L:=by rw[UN,Vn (Nat.le_refl _),List.take_length,Nat.zero_mod,Nat.mul_zero,Nat.add_zero]at hv;rw[<-hv,Nat.add_comm,Nat.add_mul_div_right _ _ (Nat.two_pow_pos _),Nat.div_eq_of_lt (Nat.mod_lt _ (Nat.two_pow_pos _)),Nat.zero_add]
  rw[e,<-Xl Z7 dL];have o5':Ym H2.n H5 v5 (YS L):=by simpa using o5
  exact o5'.mono kH.n (.refl H5)
end
end
end Go.Proofs.YtmkfecoeghokfaaGreatDoor
namespace Go.Proofs.YtmkfecoeghokfaaGreatDoor
set_option linter.unusedVariables false
set_option maxHeartbeats 2000000
set_option maxRecDepth 20000
theorem Am{b y1 y0 u d q r:Nat}(hq:q*y1+r=u):u*b+d=q*(y1*b)+(b*r+d):=by rw[<-hq,Nat.add_mul,Nat.mul_assoc,Nat.mul_comm r b];omega
theorem fT{b y1 y0 u d q r:Nat}(hq:q*y1+r=u)(hu:u<y1*b+y0)(hd:d<b)(ht:b<=q\/b*r+d<q*y0):(u*b+d)/(y1*b+y0)<q:=by
 have hy:0<y1*b+y0:=by omega
 rw[Nat.div_lt_iff_lt_mul hy];rcases ht with ht|ht;·have h1:(u+1)*b<=(y1*b+y0)*b:=Nat.mul_le_mul_right _ hu;have h2:b*(y1*b+y0)<=q*(y1*b+y0):=Nat.mul_le_mul_right _ ht;rw[Nat.succ_mul]at h1;rw[Nat.mul_comm b]at h2;omega
 ·rw[Am (y0:=y0) (d:=d) (b:=b) hq,Nat.mul_add];omega
theorem IC{b y1 y0 u d q r:Nat}(hq:q*y1+r=u)(hy:0<y1*b+y0)(ht:q*y0<=b*r+d):q<=(u*b+d)/(y1*b+y0):=by rw[Nat.le_div_iff_mul_le hy,Am (y0:=y0) (d:=d) (b:=b) hq,Nat.mul_add];omega
theorem aJ{b y1 y0 u d:Nat}(h1:0<y1)(hd:d<b):(u*b+d)/(y1*b+y0)<=u/y1:=by
 have hb:0<b:=by omega
 have hy:0<y1*b+y0:=by have:=Nat.mul_pos h1 hb;omega
 have h2:(u*b+d)/(y1*b+y0)<=(u*b+d)/(y1*b):=by rw[Nat.le_div_iff_mul_le (Nat.mul_pos h1 hb)];have:=Nat.div_mul_le_self (u*b+d) (y1*b+y0);rw[Nat.mul_add]at this;omega
 have h3:(u*b+d)/(y1*b)=u/y1:=by rw[Nat.mul_comm y1 b,<-Nat.div_div_eq_div_mul,Nat.add_comm,Nat.add_mul_div_right _ _ hb,Nat.div_eq_of_lt hd,Nat.zero_add]
 omega
theorem aI{b y1 y0 u:Nat}(h1:b<=2*y1)(h0:y0<b)(hu:u<y1*b+y0)(hp:0<y1):u/y1<=b+1:=by
 have:u/y1<b+2:=by rw[Nat.div_lt_iff_lt_mul hp,Nat.add_mul,Nat.mul_comm b y1];omega
 omega
end Go.Proofs.YtmkfecoeghokfaaGreatDoor
namespace Go.Proofs.YtmkfecoeghokfaaGreatDoor
open Go Ev
set_option linter.unusedVariables false
set_option linter.unusedSimpArgs false
noncomputable section
set_option maxHeartbeats 2000000
set_option maxRecDepth 20000
section
attribute [-simp] Int.natCast_add Int.natCast_mul Int.natCast_ediv Int.natCast_emod Int.natCast_pow
attribute [local simp] strip ZR Xm gW Z2 Ye ZW Yf ZK Yg Zs Zt Zi ZJ Ya ZP ZA Zl ZI Zj Zf ZB ZC YV Zo Yd YE Yy ZL plain ZO Tr.get_set Yw Zp Ys ZT sameKind undef Zw ZH Z5 Zv Z1 Yl ZU parts Z3 XZ DW Yh Zz ZZ Zq ZD ZQ XM Yk Zn ZN ZV ZM
theorem Ma{x y:Nat}(hx:x<Zc)(hy:0<y):Zd .quo .u64 (x:Int) (y:Int)=some (.int .u64 ((x/y:Nat):Int)):=by
 have hx:x<18446744073709551616:=hx;have hle:x/y<=x:=Nat.div_le_self x y;have h0: ¬ ((y:Int)=0):=by omega
 have e:IntKind.u64.wrap ((x:Int).tdiv (y:Int))=((x/y:Nat):Int):=by rw[IntKind.wrap_u64,Int.tdiv_eq_ediv_of_nonneg (by omega),<-Int.natCast_ediv];generalize x/y=q at*;omega
 show(if(y:Int)=0 then none else some (Value.int .u64 (IntKind.u64.wrap ((x:Int).tdiv (y:Int)))))=_;rw[if_neg h0,e]
theorem ae{x y:Nat}(hy:0<y):Zd .rem .u64 (x:Int) (y:Int)=some (.int .u64 ((x%y:Nat):Int)):=by
 have h0: ¬ ((y:Int)=0):=by omega
 have e:(x:Int).tmod (y:Int)=((x%y:Nat):Int):=by rw[Int.tmod_eq_emod_of_nonneg (by omega),<-Int.natCast_emod]
 show(if(y:Int)=0 then none else some (Value.int .u64 ((x:Int).tmod (y:Int))))=_;rw[if_neg h0,e]
theorem DL{x y:Nat}(hy:y<=Zc):Zd .sub .u64 (x:Int) (y:Int)=some (.int .u64 (((x+Zc-y)%Zc:Nat):Int)):=by
 have hy:y<=18446744073709551616:=hy;have e:IntKind.u64.wrap ((x:Int)-(y:Int))=(((x+18446744073709551616-y)%18446744073709551616:Nat):Int):=by rw[IntKind.wrap_u64];omega
 show some (Value.int .u64 (IntKind.u64.wrap ((x:Int)-(y:Int))))=_;rw[e]
theorem Dv{u b d q y:Nat}(hy:y<Zc)(LC:0<y)(hq:q=(u*b+d)/y):((u*b%Zc+d)%Zc+Zc-q*y%Zc)%Zc=(u*b+d)%y:=by have e:=Nat.div_add_mod (u*b+d) y;rw[<-hq,Nat.mul_comm y q]at e;have hr:(u*b+d)%y<y:=Nat.mod_lt _ LC;generalize(u*b+d)%y=r at*;generalize q*y=p at*;rw[Nat.mod_add_mod,<-e];have hy:y<18446744073709551616:=hy;show((p+r)%18446744073709551616+18446744073709551616-p%18446744073709551616)%18446744073709551616=r;omega
abbrev ZF:Nat:=4294967296
theorem ba{x:Nat} :Zd .geq .u64 (x:Int) 4294967296=some (.bool (decide (4294967296<=x))):=NV (y:=4294967296)
theorem mulL{x:Nat} :Zd .mul .u64 4294967296 (x:Int)=some (.int .u64 ((4294967296*x%Zc:Nat):Int)):=Tu (x:=4294967296)
theorem mulR{x:Nat} :Zd .mul .u64 (x:Int) 4294967296=some (.int .u64 ((x*4294967296%Zc:Nat):Int)):=Tu (y:=4294967296)
theorem Mh{x:Nat}(hx:x<Zc)(h:0<x):Zd .sub .u64 (x:Int) 1=some (.int .u64 ((x-1:Nat):Int)):=Sn (y:=1) hx h
structure qE (y1 y0 u d q r : Nat) : Prop where
  y1lo : 2147483648 <= y1
  BE : y1 < 4294967296
  oF : y0 < 4294967296
  uhi : u < y1 * 4294967296 + y0
  dhi : d < 4294967296
  eq : q * y1 + r = u
  ge : (u * 4294967296 + d) / (y1 * 4294967296 + y0) <= q
  rhi : r < 4294967296
  qhi : q <= 4294967297
def LL(y0 d q r:Nat):Bool:=decide (4294967296<=q)||decide (4294967296*r+d<q*y0)
theorem qE.down{y1 y0 u d q r:Nat}(h:qE y1 y0 u d q r)(ht:LL y0 d q r=true):0<q/\(q-1)*y1+(r+y1)=u/\(u*4294967296+d)/(y1*4294967296+y0)<=q-1/\q-1<=4294967296:=by
 have bT:4294967296<=q\/4294967296*r+d<q*y0:=by simpa[LL]using ht
 have h1:=fT h.eq h.uhi h.dhi bT;have hq:0<q:=Nat.lt_of_le_of_lt (Nat.zero_le _) h1;refine⟨hq,?_,Nat.le_sub_one_of_lt h1,by have:=h.qhi;omega⟩;obtain⟨q',rfl⟩: ∃q',q=q'+1:=⟨q-1,by omega⟩;have:=h.eq;rw[Nat.succ_mul]at this;rw[Nat.add_sub_cancel];omega
theorem qE.stop{y1 y0 u d q r:Nat}(h:qE y1 y0 u d q r)(ht:LL y0 d q r=false):q=(u*4294967296+d)/(y1*4294967296+y0)/\q<4294967296:=by
 have bT:q<4294967296/\q*y0<=4294967296*r+d:=by simpa[LL]using ht
 have:=IC h.eq (by have:=h.y1lo;omega) bT.2;exact⟨Nat.le_antisymm this h.ge,bT.1⟩
theorem IE{y1 y0 u d q r:Nat}(y1lo:2147483648<=y1)(oF:y0<4294967296)(uhi:u<y1*4294967296+y0)(dhi:d<4294967296)(eq:q*y1+r=u)(ge:(u*4294967296+d)/(y1*4294967296+y0)<=q)(hr:4294967296<=r)(hq:q<=4294967296):q=(u*4294967296+d)/(y1*4294967296+y0)/\q<4294967296:=by
 have h1:q*y0<=4294967296*r+d:=by have a:q*y0<=4294967296*y0:=Nat.mul_le_mul_right _ hq;omega
 have h2:=IC eq (show 0<y1*4294967296+y0 by omega) h1;have h3:q=(u*4294967296+d)/(y1*4294967296+y0):=Nat.le_antisymm h2 ge;refine⟨h3,?_⟩;rw[h3,Nat.div_lt_iff_lt_mul (by omega)];have:(u+1)*4294967296<=(y1*4294967296+y0)*4294967296:=Nat.mul_le_mul_right _ uhi;rw[Nat.succ_mul,Nat.mul_comm (y1*4294967296+y0)]at this;omega
theorem IB{y1 y0 u d:Nat}(y1lo:2147483648<=y1)(BE:y1<4294967296)(oF:y0<4294967296)(uhi:u<y1*4294967296+y0)(dhi:d<4294967296):qE y1 y0 u d (u/y1) (u%y1):=⟨y1lo,BE,oF,uhi,dhi,by rw[Nat.mul_comm];exact Nat.div_add_mod u y1,aJ (by omega) dhi,Nat.lt_of_lt_of_le (Nat.mod_lt _ (by omega)) (by omega),aI (by omega) oF uhi (by omega)⟩
theorem rW{x:Nat} :Zd .eql .u64 (x:Int) 0=some (.bool (decide (x=0))):=PD (y:=0)
theorem Ox{n:Nat}(h:n<Zc):TY Tryz.prog 3 228 (.int .i64 (n:Int))=some (.int .u64 (n:Int)):=by
 have h:n<18446744073709551616:=h;have e:IntKind.u64.wrap (n:Int)=(n:Int):=by rw[IntKind.wrap_u64];omega
 unfold TY;simp only[Tryz.underlying3,Tryz.underlying228,e]
theorem df{U N1 N0 b B yn qh u2 ql r3:Nat}(e1:yn*qh+u2=U*b+N1)(e2:yn*ql+r3=u2*b+N0)(hB:B=b*b):U*B+(N1*b+N0)=yn*(qh*b+ql)+r3:=by
 subst hB;have e3:(yn*qh+u2)*b=(U*b+N1)*b:=by rw[e1]
 rw[Nat.add_mul,Nat.add_mul,Nat.mul_assoc,Nat.mul_assoc]at e3;rw[Nat.mul_add];omega
theorem Cp{h l y:Nat}(hh:h<y)(hl:l<Zc)(hy:y<Zc){H:AH} :CW Tryz.prog Zy 205 [.int .u64 (h:Int),.int .u64 (l:Int),.int .u64 (y:Int)] H fun v H'=>H'=H/\v= .tuple #[.int .u64 (((h*Zc+l)/y:Nat):Int),.int .u64 (((h*Zc+l)%y:Nat):Int)]:=by
 refine Z8 135 Tryz.func205 ?_;have y0:0<y:=by omega
 apply Zb;intro b1 Ze;simp;subst Ze;apply Zh;intro b1 Ze;apply Zb;intro b2 Zx;simp[rW];subst Zx;refine Za (t:=false) (by simp;omega) ?_;apply Zr;subst Ze;apply Zh;intro b1 Ze;apply Zb;intro b2 Zx;simp[P0];subst Zx;refine Za (t:=false) (by simp;omega) ?_;apply Zr;subst Ze;apply Zh;intro b1 Ze;apply Zb;intro b2 Zx;simp[rW];subst Zx;by_cases h0:h=0;·subst h0;refine Za (t:=true) (by simp) ?_;apply Zh;intro b2 Zx;apply Ri (by kernel_rfl);simp[Ma hl y0,ae (x:=l) y0];subst Zx;apply Zu;simp[Yx]
 ·refine Za (t:=false) (by simp;omega) ?_;apply Zr;subst Ze;obtain⟨v1,H1,NR,e1,e2⟩:=AB (H:=H) hy;subst e1;subst e2;have mY:Zm y<=64:=by
   rcases Nat.lt_or_ge 64 (Zm y)with h|h;·have a:=W1 (n:=y) (by omega);have b:2^64<=2^(Zm y-1):=Nat.pow_le_pow_right (by decide) (by omega);have hy:y<18446744073709551616:=hy;omega
   ·exact h
  have hbl0:0<Zm y:=by unfold Zm;rw[if_neg (by omega)];omega
  obtain⟨s,hs⟩:=hid (64-Zm y);have fB:s<64:=by omega
  have es:(64-(Zm y:Int))=(s:Int):=by omega
  rw[es]at NR;have ylt:y<2^(64-s):=by have:=Wq y;rwa[show Zm y=64-s by omega]at this
  have yge:2^(63-s)<=y:=by have:=W1 (n:=y) (by omega);rwa[show Zm y-1=63-s by omega]at this
  apply Zb;intro b1 Ze;simp[NR,Ox (n:=s) (Nat.lt_trans fB (by decide))];subst Ze;have eB:Zc=2^(64-s)*2^s:=by rw[<-Nat.pow_add,show 64-s+s=64 by omega]
  obtain⟨yn,vL⟩:=hid (y*2^s);have BD:yn<Zc:=by rw[vL,eB];exact Nat.mul_lt_mul_of_pos_right ylt (Nat.two_pow_pos s)
  have ynge:9223372036854775808<=yn:=by have:2^(63-s)*2^s<=y*2^s:=Nat.mul_le_mul_right _ yge;rw[<-Nat.pow_add,show 63-s+s=63 by omega,<-vL]at this;exact this
  have Sb:l/2^(64-s)<2^s:=by rw[Nat.div_lt_iff_lt_mul (Nat.two_pow_pos _),<-Nat.pow_add,show s+(64-s)=64 by omega];exact hl
  obtain⟨u,hu⟩:=hid (h*2^s+l/2^(64-s));have hhs:h*2^s+2^s<=yn:=by rw[vL,<-Nat.succ_mul];exact Nat.mul_le_mul_right _ hh
  have ult:u<yn:=by omega
  obtain⟨n,hn⟩:=hid (l*2^s%Zc);have nlt:n<Zc:=by rw[hn];exact Nat.mod_lt _ (by decide)
  have total:(h*Zc+l)*2^s=u*Zc+n:=by have:=Jt (x:=l) fB;rw[<-hn]at this;rw[Nat.add_mul,this,hu,Nat.add_mul,Nat.mul_comm Zc (l/_),Nat.mul_assoc h,Nat.mul_comm Zc,<-Nat.mul_assoc];omega
  obtain⟨y1,vM⟩:=hid (yn/4294967296);obtain⟨w0,mG⟩:=hid (yn%4294967296);have eyn:yn=y1*4294967296+w0:=by omega
  have ynlt':yn<18446744073709551616:=BD;have y1lo:2147483648<=y1:=by omega
  have BE:y1<4294967296:=by omega
  have dm:w0<4294967296:=by omega
  obtain⟨n1,hn1⟩:=hid (n/4294967296);obtain⟨n0,Sw⟩:=hid (n%4294967296);have nlt':n<18446744073709551616:=nlt;have en:n=n1*4294967296+n0:=by omega
  have n1hi:n1<4294967296:=by omega
  have n0hi:n0<4294967296:=by omega
  have ulB:u<Zc:=Nat.lt_trans ult BD;have yE:=Nat.two_pow_pos s;have hhB:h*2^s<Zc:=by omega
  have hlB:l/2^(64-s)<Zc:=Nat.lt_of_le_of_lt (Nat.div_le_self _ _) hl;have f8:Y0 .shl .u64 (y:Int) (s:Int)=some (.int .u64 (yn:Int)):=by rw[Sm (by omega),<-vL,Nat.mod_eq_of_lt BD]
  have f9:Y0 .shr .u64 (yn:Int) 32=some (.int .u64 (y1:Int)):=by rw[jS,<-vM]
  have f10:Zd .and .u64 (yn:Int) 4294967295=some (.int .u64 (w0:Int)):=by rw[FL BD,<-mG]
  have f11a:Y0 .shl .u64 (h:Int) (s:Int)=some (.int .u64 ((h*2^s:Nat):Int)):=by rw[Sm (by omega),Nat.mod_eq_of_lt hhB]
  have f11b:Zd .sub .u64 64 (s:Int)=some (.int .u64 ((64-s:Nat):Int)):=Sn (x:=64) (by decide) (by omega);have f11c:Y0 .shr .u64 (l:Int) ((64-s:Nat):Int)=some (.int .u64 ((l/2^(64-s):Nat):Int)):=Tw (by omega);have f11d:Zd .or .u64 ((h*2^s:Nat):Int) ((l/2^(64-s):Nat):Int)=some (.int .u64 (u:Int)):=by rw[JW hhB hlB,Bo Sb,<-hu]
  have f12:Y0 .shl .u64 (l:Int) (s:Int)=some (.int .u64 (n:Int)):=by rw[Sm (by omega),<-hn]
  have f13:Y0 .shr .u64 (n:Int) 32=some (.int .u64 (n1:Int)):=by rw[jS,<-hn1]
  have f14:Zd .and .u64 (n:Int) 4294967295=some (.int .u64 (n0:Int)):=by rw[FL nlt,<-Sw]
  have f15:Zd .quo .u64 (u:Int) (y1:Int)=some (.int .u64 ((u/y1:Nat):Int)):=Ma ulB (by omega);have f16: ∀z:Nat,z<Zc->(Zd .mul .u64 ((z/y1:Nat):Int) (y1:Int)=some (.int .u64 ((z/y1*y1:Nat):Int))/\Zd .sub .u64 (z:Int) ((z/y1*y1:Nat):Int)=some (.int .u64 ((z%y1:Nat):Int))):=fun z hz=>by have a:=Nat.div_mul_le_self z y1;refine⟨by rw[Tu,Nat.mod_eq_of_lt (Nat.lt_of_le_of_lt a hz)],?_⟩;rw[Sn hz a];have:=Nat.div_add_mod z y1;rw[Nat.mul_comm]at this;rw[show z-z/y1*y1=z%y1 by omega]
  iterate 9 apply Zb;intro b hb;simp[f8,f9,f10,f11a,f11b,f11c,f11d,f12,f13,f14,f15,(f16 u ulB).1,(f16 u ulB).2];subst hb
  refine Ms (fun s'=>s'.k=135/\s'.H=H1/\s'.tm.get 2=some (.int .u64 (yn:Int))/\s'.tm.get 8=some (.int .u64 (s:Int))/\s'.tm.get 9=some (.int .u64 (y1:Int))/\s'.tm.get 10=some (.int .u64 (w0:Int))/\s'.tm.get 11=some (.int .u64 (u:Int))/\s'.tm.get 13=some (.int .u64 (n1:Int))/\s'.tm.get 14=some (.int .u64 (n0:Int))/\ ∃q:Nat,q=(u*4294967296+n1)/(y1*4294967296+w0)/\q<4294967296/\s'.tm.get 15=some (.int .u64 (q:Int))) ?_ ?_
  ·apply ZS;refine YQ (fun m s'=>s'.k=135/\s'.H=H1/\s'.tm.get 2=some (.int .u64 (yn:Int))/\s'.tm.get 8=some (.int .u64 (s:Int))/\s'.tm.get 9=some (.int .u64 (y1:Int))/\s'.tm.get 10=some (.int .u64 (w0:Int))/\s'.tm.get 11=some (.int .u64 (u:Int))/\s'.tm.get 13=some (.int .u64 (n1:Int))/\s'.tm.get 14=some (.int .u64 (n0:Int))/\ ∃r:Nat,qE y1 w0 u n1 m r/\s'.tm.get 15=some (.int .u64 (m:Int))/\s'.tm.get 16=some (.int .u64 (r:Int))) ?_ (u/y1) _ ⟨rfl,rfl,by simp,by simp,by simp,by simp,by simp,by simp,by simp,_,IB y1lo BE dm (by rw[<-eyn];exact ult) n1hi,by simp,by simp⟩;rintro q ⟨k,tm,H2⟩ ⟨hk,hH,k2,k8,k9,Sc,TV,Sd,Ra,r,E,tq,tr⟩ Q' Y4;simp only at hk hH k2 k8 k9 Sc TV Sd Ra tq tr;subst hk;subst hH;have dM:q<Zc:=Nat.lt_of_le_of_lt E.qhi (by decide);have hrB:=E.rhi;apply Zh;intro b3 Z9;have qle:=E.qhi;have rB:4294967296*r<Zc:=by show _<18446744073709551616;omega
   have mB:(4294967296*r+n1)%Zc=4294967296*r+n1:=Nat.mod_eq_of_lt (by show _<18446744073709551616;omega);have key: ∀Xg,W Tryz.prog Zy b3 ⟨135,Xg,H2⟩ Q'->W Tryz.prog Zy b3 ⟨135,Xg,H2⟩ Q':=fun _ h=>h;have down:LL w0 n1 q r=true-> ∀Xg,Xg.get 2=some (.int .u64 (yn:Int))->Xg.get 8=some (.int .u64 (s:Int))->Xg.get 9=some (.int .u64 (y1:Int))->Xg.get 10=some (.int .u64 (w0:Int))->Xg.get 11=some (.int .u64 (u:Int))->Xg.get 13=some (.int .u64 (n1:Int))->Xg.get 14=some (.int .u64 (n0:Int))->Xg.get 15=some (.int .u64 (q:Int))->Xg.get 16=some (.int .u64 (r:Int))->W Tryz.prog Zy b3 ⟨135,Xg,H2⟩ Q':=fun ht Xg k2 k8 k9 Sc TV Sd Ra tq tr=>by
    obtain⟨q0,e1,xV,q1⟩:=E.down ht;have f1:Zd .sub .u64 (q:Int) 1=some (.int .u64 ((q-1:Nat):Int)):=Mh dM q0;have f2:Zd .add .u64 (r:Int) (y1:Int)=some (.int .u64 ((r+y1:Nat):Int)):=by rw[Tq,Nat.mod_eq_of_lt (by show _<18446744073709551616;omega)]
    subst Z9;apply ZS;apply Zb;intro b4 Yz;simp[tq,f1];subst Yz;apply Zb;intro b4 Yz;simp[tr,k9,f2];subst Yz;apply Zb;intro b4 Yz;simp[ba];subst Yz;by_cases hr:4294967296<=r+y1;·refine Za (t:=true) (by simp[hr]) ?_;apply YP;right;refine⟨by decide,?_⟩;apply Y4;left;have:=IE y1lo dm E.uhi E.dhi e1 xV hr q1;exact⟨rfl,rfl,rfl,rfl,by simp[k2],by simp[k8],by simp[k9],by simp[Sc],by simp[TV],by simp[Sd],by simp[Ra],q-1,this.1,this.2,by simp⟩
    ·refine Za (t:=false) (by simp[hr]) ?_;apply Zr;apply Y4;exact⟨q-1,by omega,rfl,rfl,by simp[k2],by simp[k8],by simp[k9],by simp[Sc],by simp[TV],by simp[Sd],by simp[Ra],r+y1,⟨y1lo,BE,dm,E.uhi,E.dhi,e1,xV,by omega,by omega⟩,by simp,by simp⟩
   apply Zb;intro b4 Yz;by_cases hq:4294967296<=q;·simp[tq,ba,hq];subst Yz;refine Za (t:=true) (by simp) ?_;apply Zr;show W _ _ b3 _ _;exact down (by simp[LL,hq]) _ (by simp[k2]) (by simp[k8]) (by simp[k9]) (by simp[Sc]) (by simp[TV]) (by simp[Sd]) (by simp[Ra]) (by simp[tq]) (by simp[tr])
   ·have hqw:q*w0<Zc:=by have a:q*w0<=4294967295*w0:=Nat.mul_le_mul_right _ (by omega);show _<18446744073709551616;omega
    have g1:Zd .mul .u64 (q:Int) (w0:Int)=some (.int .u64 ((q*w0:Nat):Int)):=by rw[Tu,Nat.mod_eq_of_lt hqw]
    have g2:Zd .mul .u64 4294967296 (r:Int)=some (.int .u64 ((4294967296*r:Nat):Int)):=by rw[mulL,Nat.mod_eq_of_lt rB]
    have g3:Zd .add .u64 ((4294967296*r:Nat):Int) (n1:Int)=some (.int .u64 ((4294967296*r+n1:Nat):Int)):=by rw[Tq,mB]
    simp[tq,ba,hq,tr,Sc,Sd,g1,g2,g3,WW];subst Yz;by_cases ht:4294967296*r+n1<q*w0;·refine Za (t:=true) (by simp[ht]) ?_;apply Zr;show W _ _ b3 _ _;exact down (by simp[LL,ht]) _ (by simp[k2]) (by simp[k8]) (by simp[k9]) (by simp[Sc]) (by simp[TV]) (by simp[Sd]) (by simp[Ra]) (by simp[tq]) (by simp[tr])
    ·refine Za (t:=false) (by simp[ht]) ?_;apply YP;apply Y4;left;have:=E.stop (by simp[LL,ht];omega);exact⟨rfl,rfl,rfl,rfl,by simp[k2],by simp[k8],by simp[k9],by simp[Sc],by simp[TV],by simp[Sd],by simp[Ra],q,this.1,this.2,by simp[tq]⟩
  rintro⟨k,tm,H2⟩ ⟨hk,hH,k2,k8,k9,Sc,TV,Sd,Ra,qh,hqh,hqlt,Q0⟩;simp only at hk hH k2 k8 k9 Sc TV Sd Ra Q0;subst hk;subst hH;have DC:0<yn:=by omega
  obtain⟨u2,J6⟩:=hid ((u*4294967296+n1)%yn);have Zan:u2<yn:=by rw[J6];exact Nat.mod_lt _ DC
  have u2B:u2<Zc:=Nat.lt_trans Zan BD;rw[<-eyn]at hqh;have Hp:=Dv (u:=u) (b:=4294967296) (d:=n1) (q:=qh) BD DC hqh;rw[<-J6]at Hp;obtain⟨pa,hpa⟩:=hid (u*4294967296%Zc);obtain⟨pb,hpb⟩:=hid ((pa+n1)%Zc);obtain⟨pc,qo⟩:=hid (qh*yn%Zc);rw[<-hpa,<-hpb,<-qo]at Hp;have g21:Zd .mul .u64 (u:Int) 4294967296=some (.int .u64 (pa:Int)):=by rw[mulR,hpa]
  have g21a:Zd .add .u64 (pa:Int) (n1:Int)=some (.int .u64 (pb:Int)):=by rw[Tq,hpb]
  have g21b:Zd .mul .u64 (qh:Int) (yn:Int)=some (.int .u64 (pc:Int)):=by rw[Tu,qo]
  have g21c:Zd .sub .u64 (pb:Int) (pc:Int)=some (.int .u64 (u2:Int)):=by rw[DL (by rw[qo];exact Nat.le_of_lt (Nat.mod_lt _ (by decide))),Hp]
  have g22:Zd .quo .u64 (u2:Int) (y1:Int)=some (.int .u64 ((u2/y1:Nat):Int)):=Ma u2B (by omega);apply Zb;intro b hb;simp[TV,Sd,Q0,k2,g21,g21a,g21b,g21c];subst hb;apply Zb;intro b hb;simp[k9,g22];subst hb;apply Zb;intro b hb;simp[k9,(f16 u2 u2B).1,(f16 u2 u2B).2];subst hb;refine Ms (fun s'=>s'.k=135/\s'.H=H2/\s'.tm.get 2=some (.int .u64 (yn:Int))/\s'.tm.get 8=some (.int .u64 (s:Int))/\s'.tm.get 9=some (.int .u64 (y1:Int))/\s'.tm.get 10=some (.int .u64 (w0:Int))/\s'.tm.get 11=some (.int .u64 (u:Int))/\s'.tm.get 13=some (.int .u64 (n1:Int))/\s'.tm.get 14=some (.int .u64 (n0:Int))/\s'.tm.get 15=some (.int .u64 (qh:Int))/\s'.tm.get 17=some (.int .u64 (u2:Int))/\ ∃q:Nat,q=(u2*4294967296+n0)/(y1*4294967296+w0)/\q<4294967296/\s'.tm.get 18=some (.int .u64 (q:Int))) ?_ ?_
  ·apply ZS;refine YQ (fun m s'=>s'.k=135/\s'.H=H2/\s'.tm.get 2=some (.int .u64 (yn:Int))/\s'.tm.get 8=some (.int .u64 (s:Int))/\s'.tm.get 9=some (.int .u64 (y1:Int))/\s'.tm.get 10=some (.int .u64 (w0:Int))/\s'.tm.get 11=some (.int .u64 (u:Int))/\s'.tm.get 13=some (.int .u64 (n1:Int))/\s'.tm.get 14=some (.int .u64 (n0:Int))/\s'.tm.get 15=some (.int .u64 (qh:Int))/\s'.tm.get 17=some (.int .u64 (u2:Int))/\ ∃r:Nat,qE y1 w0 u2 n0 m r/\s'.tm.get 18=some (.int .u64 (m:Int))/\s'.tm.get 16=some (.int .u64 (r:Int))) ?_ (u2/y1) _ ⟨rfl,rfl,by simp[k2],by simp[k8],by simp[k9],by simp[Sc],by simp[TV],by simp[Sd],by simp[Ra],by simp[Q0],by simp,_,IB y1lo BE dm (by rw[<-eyn];exact Zan) n0hi,by simp,by simp⟩;clear k2 k8 k9 Sc TV Sd Ra Q0;rintro q ⟨k,tm,H3⟩ ⟨hk,hH,k2,k8,k9,Sc,TV,Sd,Ra,Q0,Oo,r,E,tq,tr⟩ Q' Y4;simp only at hk hH k2 k8 k9 Sc TV Sd Ra Q0 Oo tq tr;subst hk;subst hH;have dM:q<Zc:=Nat.lt_of_le_of_lt E.qhi (by decide);have hrB:=E.rhi;apply Zh;intro b3 Z9;have qle:=E.qhi;have rB:4294967296*r<Zc:=by show _<18446744073709551616;omega
   have mB:(4294967296*r+n0)%Zc=4294967296*r+n0:=Nat.mod_eq_of_lt (by show _<18446744073709551616;omega);have key: ∀Xg,W Tryz.prog Zy b3 ⟨135,Xg,H3⟩ Q'->W Tryz.prog Zy b3 ⟨135,Xg,H3⟩ Q':=fun _ h=>h;have down:LL w0 n0 q r=true-> ∀Xg,Xg.get 2=some (.int .u64 (yn:Int))->Xg.get 8=some (.int .u64 (s:Int))->Xg.get 9=some (.int .u64 (y1:Int))->Xg.get 10=some (.int .u64 (w0:Int))->Xg.get 11=some (.int .u64 (u:Int))->Xg.get 13=some (.int .u64 (n1:Int))->Xg.get 14=some (.int .u64 (n0:Int))->Xg.get 15=some (.int .u64 (qh:Int))->Xg.get 17=some (.int .u64 (u2:Int))->Xg.get 18=some (.int .u64 (q:Int))->Xg.get 16=some (.int .u64 (r:Int))->W Tryz.prog Zy b3 ⟨135,Xg,H3⟩ Q':=fun ht Xg k2 k8 k9 Sc TV Sd Ra Q0 Oo tq tr=>by
    obtain⟨q0,e1,xV,q1⟩:=E.down ht;have f1:Zd .sub .u64 (q:Int) 1=some (.int .u64 ((q-1:Nat):Int)):=Mh dM q0;have f2:Zd .add .u64 (r:Int) (y1:Int)=some (.int .u64 ((r+y1:Nat):Int)):=by rw[Tq,Nat.mod_eq_of_lt (by show _<18446744073709551616;omega)]
    subst Z9;apply ZS;apply Zb;intro b4 Yz;simp[tq,f1];subst Yz;apply Zb;intro b4 Yz;simp[tr,k9,f2];subst Yz;apply Zb;intro b4 Yz;simp[ba];subst Yz;by_cases hr:4294967296<=r+y1;·refine Za (t:=true) (by simp[hr]) ?_;apply YP;right;refine⟨by decide,?_⟩;apply Y4;left;have:=IE y1lo dm E.uhi E.dhi e1 xV hr q1;exact⟨rfl,rfl,rfl,rfl,by simp[k2],by simp[k8],by simp[k9],by simp[Sc],by simp[TV],by simp[Sd],by simp[Ra],by simp[Q0],by simp[Oo],q-1,this.1,this.2,by simp⟩
    ·refine Za (t:=false) (by simp[hr]) ?_;apply Zr;apply Y4;exact⟨q-1,by omega,rfl,rfl,by simp[k2],by simp[k8],by simp[k9],by simp[Sc],by simp[TV],by simp[Sd],by simp[Ra],by simp[Q0],by simp[Oo],r+y1,⟨y1lo,BE,dm,E.uhi,E.dhi,e1,xV,by omega,by omega⟩,by simp,by simp⟩
   apply Zb;intro b4 Yz;by_cases hq:4294967296<=q;·simp[tq,ba,hq];subst Yz;refine Za (t:=true) (by simp) ?_;apply Zr;show W _ _ b3 _ _;exact down (by simp[LL,hq]) _ (by simp[k2]) (by simp[k8]) (by simp[k9]) (by simp[Sc]) (by simp[TV]) (by simp[Sd]) (by simp[Ra]) (by simp[Q0]) (by simp[Oo]) (by simp[tq]) (by simp[tr])
   ·have hqw:q*w0<Zc:=by have a:q*w0<=4294967295*w0:=Nat.mul_le_mul_right _ (by omega);show _<18446744073709551616;omega
    have g1:Zd .mul .u64 (q:Int) (w0:Int)=some (.int .u64 ((q*w0:Nat):Int)):=by rw[Tu,Nat.mod_eq_of_lt hqw]
    have g2:Zd .mul .u64 4294967296 (r:Int)=some (.int .u64 ((4294967296*r:Nat):Int)):=by rw[mulL,Nat.mod_eq_of_lt rB]
    have g3:Zd .add .u64 ((4294967296*r:Nat):Int) (n0:Int)=some (.int .u64 ((4294967296*r+n0:Nat):Int)):=by rw[Tq,mB]
    simp[tq,ba,hq,tr,Sc,Ra,g1,g2,g3,WW];subst Yz;by_cases ht:4294967296*r+n0<q*w0;·refine Za (t:=true) (by simp[ht]) ?_;apply Zr;show W _ _ b3 _ _;exact down (by simp[LL,ht]) _ (by simp[k2]) (by simp[k8]) (by simp[k9]) (by simp[Sc]) (by simp[TV]) (by simp[Sd]) (by simp[Ra]) (by simp[Q0]) (by simp[Oo]) (by simp[tq]) (by simp[tr])
    ·refine Za (t:=false) (by simp[ht]) ?_;apply YP;apply Y4;left;have:=E.stop (by simp[LL,ht];omega);exact⟨rfl,rfl,rfl,rfl,by simp[k2],by simp[k8],by simp[k9],by simp[Sc],by simp[TV],by simp[Sd],by simp[Ra],by simp[Q0],by simp[Oo],q,this.1,this.2,by simp[tq]⟩
  rintro⟨k,tm,H3⟩ ⟨hk,hH,k2,k8,k9,Sc,TV,Sd,Ra,Q0,Oo,ql,hql,hqllt,kP⟩;simp only at hk hH k2 k8 k9 Sc TV Sd Ra Q0 Oo kP;subst hk;subst hH;rw[<-eyn]at hql;obtain⟨r3,hr3⟩:=hid ((u2*4294967296+n0)%yn);have Zae:r3<yn:=by rw[hr3];exact Nat.mod_lt _ DC
  have gA:=Dv (u:=u2) (b:=4294967296) (d:=n0) (q:=ql) BD DC hql;obtain⟨pd,sG⟩:=hid (u2*4294967296%Zc);obtain⟨pe,hpe⟩:=hid ((pd+n0)%Zc);obtain⟨pf,hpf⟩:=hid (ql*yn%Zc);rw[<-hr3,<-sG,<-hpe,<-hpf]at gA;have j1:Zd .mul .u64 (qh:Int) 4294967296=some (.int .u64 ((qh*4294967296:Nat):Int)):=by rw[mulR,Nat.mod_eq_of_lt (by show _<18446744073709551616;omega)]
  have j2:Zd .add .u64 ((qh*4294967296:Nat):Int) (ql:Int)=some (.int .u64 ((qh*4294967296+ql:Nat):Int)):=by rw[Tq,Nat.mod_eq_of_lt (by show _<18446744073709551616;omega)]
  have j3:Zd .mul .u64 (u2:Int) 4294967296=some (.int .u64 (pd:Int)):=by rw[mulR,sG]
  have j4:Zd .add .u64 (pd:Int) (n0:Int)=some (.int .u64 (pe:Int)):=by rw[Tq,hpe]
  have j5:Zd .mul .u64 (ql:Int) (yn:Int)=some (.int .u64 (pf:Int)):=by rw[Tu,hpf]
  have j6:Zd .sub .u64 (pe:Int) (pf:Int)=some (.int .u64 (r3:Int)):=by rw[DL (by rw[hpf];exact Nat.le_of_lt (Nat.mod_lt _ (by decide))),gA]
  have j7:Y0 .shr .u64 (r3:Int) (s:Int)=some (.int .u64 ((r3/2^s:Nat):Int)):=Tw (by omega);have all:(h*Zc+l)*2^s=yn*(qh*4294967296+ql)+r3:=by have e1:=Nat.div_add_mod (u*4294967296+n1) yn;rw[<-hqh,<-J6]at e1;have e2:=Nat.div_add_mod (u2*4294967296+n0) yn;rw[<-hql,<-hr3]at e2;rw[total,en];exact df e1 e2 (by decide)
  have hquo:(h*Zc+l)/y=qh*4294967296+ql:=by rw[<-Nat.mul_div_mul_right _ _ (Nat.two_pow_pos s),all,<-vL,Nat.add_comm,Nat.add_mul_div_left _ _ DC,Nat.div_eq_of_lt Zae,Nat.zero_add]
  have hrem:(h*Zc+l)%y=r3/2^s:=by
   have:(h*Zc+l)%y*2^s=r3:=by rw[<-Nat.mul_mod_mul_right,all,<-vL,Nat.add_comm,Nat.add_mul_mod_self_left,Nat.mod_eq_of_lt Zae]
   rw[<-this,Nat.mul_div_cancel _ (Nat.two_pow_pos s)]
  rw[hquo,hrem];apply Zb;intro b hb;simp[k2,k8,Ra,Q0,Oo,kP,j1,j2,j3,j4,j5,j6,j7];subst hb;apply Zu;simp
end
end
end Go.Proofs.YtmkfecoeghokfaaGreatDoor
namespace Go.Proofs.YtmkfecoeghokfaaGreatDoor
set_option linter.unusedVariables false
set_option maxHeartbeats 2000000
set_option maxRecDepth 20000
structure Gf (B P V U y1 y0 v' u d u' : Nat) : Prop where
  hV : V = (y1 * B + y0) * P + v'
  hU : U = (u * B + d) * P + u'
  vlt : v' < P
  ult : u' < P
  d_lt : d < B
  y0lt : y0 < B
  y1pos : 0 < y1
section
variable {B P V U y1 y0 v' u d u' q r : Nat}
theorem Gf.Ppos(T:Gf B P V U y1 y0 v' u d u'):0<P:=Nat.lt_of_le_of_lt (Nat.zero_le _) T.vlt
theorem Gf.Bpos(T:Gf B P V U y1 y0 v' u d u'):0<B:=Nat.lt_of_le_of_lt (Nat.zero_le _) T.d_lt
theorem Gf.Vge(T:Gf B P V U y1 y0 v' u d u'):B*P<=V:=by rw[T.hV];have:B*P<=(y1*B+y0)*P:=Nat.mul_le_mul_right _ (by have:1*B<=y1*B:=Nat.mul_le_mul_right _ T.y1pos;omega);omega
theorem Gf.Vpos(T:Gf B P V U y1 y0 v' u d u'):0<V:=Nat.lt_of_lt_of_le (Nat.mul_pos T.Bpos T.Ppos) T.Vge
theorem Gf.Ult(T:Gf B P V U y1 y0 v' u d u'):U<(u*B+d+1)*P:=by rw[T.hU,Nat.succ_mul];have:=T.ult;omega
theorem Gf.first(T:Gf B P V U y1 y0 v' u d u'):U/V<=u/y1:=by
 rw[Nat.le_div_iff_mul_le T.y1pos];have h1:U/V*V<=U:=Nat.div_mul_le_self U V;have h2:U/V*(y1*B*P)<=U/V*V:=Nat.mul_le_mul_left _ (by rw[T.hV,Nat.add_mul];omega);have h3:=T.Ult;have h4:(u*B+d+1)*P<=((u+1)*B)*P:=Nat.mul_le_mul_right _ (by have:=T.d_lt;rw[Nat.succ_mul];omega);have h5:(U/V*y1)*(B*P)<(u+1)*(B*P):=by rw[Nat.mul_assoc]at h2 h4;rw[Nat.mul_assoc];omega
 have:=Nat.lt_of_mul_lt_mul_right h5;omega
theorem Gf.high{un Kv:Nat}(T:Gf B P V U y1 y0 v' (un*B+Kv) d u')(h:U<V*B):un<=y1:=by
 rcases Nat.lt_or_ge y1 un with YW|Sa
 ·exfalso;have h1:V<(y1+1)*B*P:=by rw[T.hV];have a:(y1*B+y0+1)*P<=(y1+1)*B*P:=Nat.mul_le_mul_right _ (by have:=T.y0lt;rw[Nat.succ_mul];omega);have b:=T.vlt;rw[Nat.succ_mul]at a;omega
  have h2:V*B<=((y1+1)*B*P)*B:=Nat.mul_le_mul_right _ (Nat.le_of_lt h1);have h3:((y1+1)*B*P)*B<=U:=by rw[T.hU];have a:((y1+1)*B)*B<=(un*B)*B:=Nat.mul_le_mul_right _ (Nat.mul_le_mul_right _ YW);have b:((y1+1)*B)*B*P<=((un*B+Kv)*B+d)*P:=Nat.mul_le_mul_right _ (by rw[Nat.add_mul (un*B) Kv B];omega);rw[Nat.mul_right_comm _ P B];omega
  omega
 ·exact Sa
theorem Gf.true(T:Gf B P V U y1 y0 v' u d u')(hq:q*y1+r=u)(ht:r*B+d<q*y0):U/V<q:=by rw[Nat.div_lt_iff_lt_mul T.Vpos];have h1:q*((y1*B+y0)*P)<=q*V:=Nat.mul_le_mul_left _ (by rw[T.hV];omega);have h2:(u*B+d+1)*P<=(q*(y1*B+y0))*P:=Nat.mul_le_mul_right _ (by rw[<-hq,Nat.add_mul,Nat.mul_add,Nat.mul_assoc];omega);have h3:=T.Ult;rw[Nat.mul_assoc]at h2;omega
theorem Gf.false(T:Gf B P V U y1 y0 v' u d u')(hq:q*y1+r=u)(YW:q<B)(ht:q*y0<=r*B+d):q<=U/V+1:=by
 have h1:q*V<=q*((y1*B+y0)*P)+q*P:=by rw[<-Nat.mul_add];exact Nat.mul_le_mul_left _ (by rw[T.hV];have:=T.vlt;omega)
 have h2:(q*(y1*B+y0))*P<=(u*B+d)*P:=Nat.mul_le_mul_right _ (by rw[<-hq,Nat.add_mul,Nat.mul_add,Nat.mul_assoc];omega);rw[Nat.mul_assoc]at h2;have h3:q*P<B*P:=Nat.mul_lt_mul_of_pos_right YW T.Ppos;have h4:=T.Vge;have h5:q*V<U+V:=by have:=T.hU;omega
 have h6:q*V<(U/V+2)*V:=by have a:=Nat.div_add_mod U V;have b:=Nat.mod_lt U T.Vpos;rw[Nat.mul_comm]at a;rw[Nat.add_mul,Nat.two_mul];omega
 have:=Nat.lt_of_mul_lt_mul_right h6;omega
end
theorem cC{N U V q R b:Nat}(hV:0<V)(Sa:U/V<=q)(hle:q<=U/V+1)(hU:U<N)(hR:R<N)(hb:b<=1)(e:R+q*V=U+N*b):(b=0/\q=U/V/\R=U%V)\/(b=1/\q=U/V+1/\R+V=N+U%V):=by
 have a:=Nat.div_add_mod U V;have m:=Nat.mod_lt U hV;rw[Nat.mul_comm]at a;rcases Nat.lt_or_ge (U/V) q with h|h
 ·right;obtain rfl:q=U/V+1:=by omega
  rw[Nat.add_mul,Nat.one_mul]at e;have Ze:b=1:=by
   rcases Nat.lt_or_ge b 1 with h0|h0
   ·exfalso;obtain rfl:b=0:=by omega
    rw[Nat.mul_zero]at e;omega
   ·omega
  subst Ze;rw[Nat.mul_one]at e;exact⟨rfl,rfl,by omega⟩
 ·left;obtain rfl:q=U/V:=by omega
  have Fq:b=0:=by
   rcases Nat.lt_or_ge b 1 with h0|h0;·omega
   ·exfalso;obtain rfl:b=1:=by omega
    rw[Nat.mul_one]at e;omega
  subst Fq;rw[Nat.mul_zero]at e;exact⟨rfl,rfl,by omega⟩
theorem GD {B x y q carry borrow : Nat} (hx : x < B) (hq : q < B) (hc : carry < B) (hy : y < B) (hb : borrow <= 1) :
    let p := x * q
    let sum := (p % B + carry) % B
    let Q9 := p / B + (p % B + carry) / B
    let y' := (y + B - sum - borrow) % B
    let B9 := if y < sum + borrow then 1 else 0
    Q9 < B /\ y' < B /\ y' + x * q + carry + borrow = y + B * (Q9 + B9) := by
  intro p sum Q9 y' B9
  have hB : 0 < B := by omega
  have hp : p <= (B - 1) * (B - 1) := Nat.mul_le_mul (by omega) (by omega)
  have e1 := Nat.div_add_mod p B
  have e2 := Nat.div_add_mod (p % B + carry) B
  have hs : sum < B := Nat.mod_lt _ hB
  have hcy : Q9 * B + sum = p + carry := by
    show (p / B + (p % B + carry) / B) * B + (p % B + carry) % B = p + carry
    rw [Nat.add_mul, Nat.mul_comm (p / B), Nat.mul_comm ((p % B + carry) / B)]
    omega
  have Ay : Q9 < B := by
    have : (B - 1) * (B - 1) + (B - 1) = (B - 1) * B := by
      obtain ⟨b, rfl⟩ : ∃ b, B = b + 1 := ⟨B - 1, by omega⟩
      rw [Nat.add_sub_cancel, Nat.mul_succ]
    have h3 : Q9 * B <= (B - 1) * B := by omega
    have := Nat.le_of_mul_le_mul_right h3 hB
    omega
  refine ⟨Ay, Nat.mod_lt _ hB, ?_⟩
  show (y + B - sum - borrow) % B + p + carry + borrow = y + B * (Q9 + if y < sum + borrow then 1 else 0)
  have key : (y + B - sum - borrow) % B + sum + borrow = y + B * (if y < sum + borrow then 1 else 0) := by
    by_cases h : y < sum + borrow
    · rw [if_pos h, Nat.mod_eq_of_lt (by omega)]; omega
    · rw [if_neg h]
      have : y + B - sum - borrow = (y - sum - borrow) + B := by omega
      rw [this, Nat.add_mod_right, Nat.mod_eq_of_lt (by omega)]; omega
  rw [Nat.mul_add, Nat.mul_comm B Q9]
  omega
end Go.Proofs.YtmkfecoeghokfaaGreatDoor
namespace Go.Proofs.YtmkfecoeghokfaaGreatDoor.Ev
open Go Go.RowKit
set_option linter.unusedVariables false
set_option linter.unusedSimpArgs false
noncomputable section
set_option maxHeartbeats 2000000
set_option maxRecDepth 20000
def AH.top(H:AH):AH:= { n:=H.n,lw:=H.n,t:=H.t }
def LR(P:Program)(C:Cfg)(k:Nat):List uB->Tr Value->AH->(Tr Value->Prop)->Prop
 |[],tm,_,K=>K tm
 |o::r,tm,H,K=>match gW tm o.grd with
  |some true=>match Z2 P C (ZY P C) tm H o.op with
   |some (v,H')=>H'=H/\match o.dst with|none=>LR P C k r tm H K|some d=>d<k/\LR P C k r (tm.set d v) H K
   |none=>False
  |some false=>match o.dst with|none=>LR P C k r tm H K|some d=>d<k/\LR P C k r (tm.set d undef) H K
  |none=>False
section
variable {P : Program} {C : Cfg} {Q : Ex -> St -> Prop} {ops : Array Oper} {k : Nat}
theorem Ga: ∀(l:List Oper)(i:Nat)(tm:Tr Value)(H:AH)(K:Tr Value->Prop),LR P C k (ZR ops l) tm H.top K-> ∃Xg,XP (X0 ops) P C (ZY P C) ops i false [] l ⟨k,tm,H⟩=some ⟨k,Xg,H⟩/\K Xg
 |[],i,tm,H,K,h=>⟨tm,by simp only[XP],h⟩
 |o::r,i,tm,H,K,h=>by
  simp only[ZR,LR]at h;simp only[XP];rw[En];split at h
  ·rename_i hg;rw[hg];split at h
   ·rename_i v H1 Y7;obtain⟨e,h⟩:=h;subst e;obtain⟨Q3,YN,hl⟩:=Tv (k:=k) (H:=H) (H1:=H) (K1:=fun tm=>LR P C k (ZR ops r) tm H.top K) h;obtain⟨Xg,h1,h2⟩:=Ga r (i+1) Q3 H K hl;refine⟨Xg,?_,h2⟩;have hd:XU (X0 ops) P C (ZY P C) ops i false [] ⟨k,tm,H⟩ o=some (v,H,false):=by unfold XU;cases hh:Zz o.op with|true=>rw[cond_true];simp only[X0,hidden,U6];have Io:Z2 P C (ZY P C) tm { n:=H.n,lw:=H.n,t:=H.t } o.op=some (v,{ n:=H.n,lw:=H.n,t:=H.t }):=Y7;rw[Io];have:Nat.ble H.n H.n=true:=Nat.ble_eq.mpr (Nat.le_refl _);simp only[this,cond_true,Bool.not_false,Bool.and_self,Nat.sub_self,Nr]|false=>rw[cond_false];rw[Su hh Y7 H]
    simp only[hd,YN,XE,cond_false];exact h1
   ·exact h.elim
  ·rename_i hg;rw[hg];obtain⟨Q3,YN,hl⟩:=Tv (k:=k) (H:=H) (H1:=H) (K1:=fun tm=>LR P C k (ZR ops r) tm H.top K) h;obtain⟨Xg,h1,h2⟩:=Ga r (i+1) Q3 H K hl;refine⟨Xg,?_,h2⟩;simp only[YN];exact h1
  ·exact h.elim
theorem Nq{id:Nat}{s:St}(hd:(!Vm ops&&Ue ops&&!isSplit C ops)=true)(h:LR P C s.k (strip ops) s.tm s.H.top fun Xg=>Q .norm ⟨s.k,Xg,s.H⟩):W P C (.region id ops true) s Q:=by
 obtain⟨k,tm,H⟩:=s;obtain⟨Xg,h1,h2⟩:=Ga _ 0 _ _ _ h;refine⟨.norm,⟨k,Xg,H⟩,?_,h2⟩;rw[Uj];simp only[Wb];rw[WZ]at h1;rw[Bool.and_eq_true,Bool.and_eq_true]at hd;have hm:Vm ops=false:=by simpa using hd.1.1
 have hs:isSplit C ops=false:=by simpa using hd.2
 have:YB P C (YC P C (Rp P C)) ops true ⟨k,tm,H⟩=some ⟨k,Xg,H⟩:=by unfold YB W8;rw[hm,hs,hd.1.2];simp only[Bool.and_false,cond_false,cond_true];exact h1
 rw[this]
def low(H H2:AH):AH:= { n:=H2.n,lw:=min H.lw H2.lw,t:=H2.t }
def LX(P:Program)(C:Cfg)(k:Nat):List uB->Tr Value->AH->(Tr Value->AH->Prop)->Prop
 |[],tm,H,K=>K tm H
 |o::r,tm,H,K=>match gW tm o.grd with
  |some true=>match ZZ o.op with
   |true=>match Z2 P C (ZY P C) tm H.top o.op with
    |some (v,H2)=>(H2.n=H.n/\H2.lw<H.n)/\match o.dst with|none=>LX P C k r tm (low H H2) K|some d=>d<k/\LX P C k r (tm.set d v) (low H H2) K
    |none=>False
   |false=>match Z2 P C (ZY P C) tm H.top o.op with
    |some (v,H2)=>H2=H.top/\match o.dst with|none=>LX P C k r tm H K|some d=>d<k/\LX P C k r (tm.set d v) H K
    |none=>False
  |some false=>match o.dst with|none=>LX P C k r tm H K|some d=>d<k/\LX P C k r (tm.set d undef) H K
  |none=>False
def Up:List Oper->Bool|[]=>true|o::r=>cond (ZZ o.op) (r.all fun o=>ZZ o.op||!Zz o.op) (Up r)
def DP(ops:Array Oper):Bool:=(List.range ops.size).all fun i=>match ops[i]? with|some o=>!ZZ o.op||alone ops i|none=>true
theorem Kb(Re: ∀i o,ops[i]?=some o->ZZ o.op=true->alone ops i=true): ∀(l:List Oper)(i:Nat)(q:Bool)(tm:Tr Value)(H:AH)(K:Tr Value->AH->Prop),(∀j,l[j]?=ops[i+j]?)->(q=true-> ∀o∈l,(ZZ o.op||!Zz o.op)=true)->Up l=true->LX P C k (ZR ops l) tm H K-> ∃Xg H',XP (X0 ops) P C (ZY P C) ops i q [] l ⟨k,tm,H⟩=some ⟨k,Xg,H'⟩/\K Xg H'
 |[],i,q,tm,H,K,hl,hq,hs,h=>⟨tm,H,by simp only[XP],h⟩
 |o::r,i,q,tm,H,K,hl,hq,hs,h=>by
  have h0:ops[i]?=some o:=by simpa using(hl 0).symm
  have Lj: ∀j,r[j]?=ops[i+1+j]?:=fun j=>by have:=hl (j+1);simpa[Nat.add_assoc,Nat.add_comm 1 j]using this
  have mK:q=true-> ∀o∈r,(ZZ o.op||!Zz o.op)=true:=fun e o' h'=>hq e o' (List.mem_cons_of_mem _ h');simp only[ZR,LX]at h;simp only[XP];rw[En];have za:Up r=true:=by unfold Up at hs;cases e:ZZ o.op with
   |false=>rw[e,cond_false]at hs;exact hs
   |true=>rw[e,cond_true]at hs;clear h hl Lj hq mK h0;induction r with
    |nil=>rfl
    |cons x r ih=>rw[List.all_cons,Bool.and_eq_true]at hs;unfold Up;cases ZZ x.op with|false=>rw[cond_false];exact ih hs.2|true=>rw[cond_true];exact hs.2
  split at h
  ·rename_i hg;rw[hg];split at h
   ·rename_i Jl;split at h
    ·rename_i v H2 Y7;obtain⟨⟨e1,e2⟩,h⟩:=h;obtain⟨Q3,YN,AV⟩:=Tv (k:=k) (H:=H) (H1:=low H H2) (K1:=fun tm=>LX P C k (ZR ops r) tm (low H H2) K) h;have Om: ∀o∈r,(ZZ o.op||!Zz o.op)=true:=by unfold Up at hs;rw[Jl,cond_true]at hs;exact List.all_eq_true.mp hs
     obtain⟨Xg,H',h1,h2⟩:=Kb Re r (i+1) true Q3 (low H H2) K Lj (fun _=>Om) za AV;refine⟨Xg,H',?_,h2⟩;have hh:Zz o.op=true:=by revert Jl;cases o.op<;>simp[ZZ,Zz]
     have hd:XU (X0 ops) P C (ZY P C) ops i q [] ⟨k,tm,H⟩ o=some (v,low H H2,true):=by
      unfold XU;rw[hh,cond_true];simp only[X0,hidden,U6];have Io:Z2 P C (ZY P C) tm { n:=H.n,lw:=H.n,t:=H.t } o.op=some (v,H2):=Y7;rw[Io];have a1:Nat.ble H.n H2.n=true:=Nat.ble_eq.mpr (by omega);have a2:Nat.ble H.n H2.lw=false:=by cases hb:Nat.ble H.n H2.lw with|false=>rfl|true=>have:=Nat.le_of_ble_eq_true hb;omega
      simp only[a1,a2,cond_true,Bool.and_false,cond_false,Re i o h0 Jl,List.isEmpty_nil,Bool.and_self];rfl
     have hn:Nat.blt H.n (low H H2).n=false:=by show Nat.blt H.n H2.n=false;rw[e1];exact XE _
     simp only[hd,YN,hn,cond_false];exact h1
    ·exact h.elim
   ·rename_i Jl;split at h
    ·rename_i v H2 Y7;obtain⟨e,h⟩:=h;subst e;obtain⟨Q3,YN,AV⟩:=Tv (k:=k) (H:=H) (H1:=H) (K1:=fun tm=>LX P C k (ZR ops r) tm H K) h;obtain⟨Xg,H',h1,h2⟩:=Kb Re r (i+1) q Q3 H K Lj mK za AV;refine⟨Xg,H',?_,h2⟩;have hd:XU (X0 ops) P C (ZY P C) ops i q [] ⟨k,tm,H⟩ o=some (v,H,q):=by unfold XU;cases hh:Zz o.op with
      |true=>
       have hqf:q=false:=by cases q with|false=>rfl|true=>have:=hq rfl o (List.mem_cons_self ..);rw[Jl,hh]at this;cases this
       subst hqf;rw[cond_true];simp only[X0,hidden,U6];have Io:Z2 P C (ZY P C) tm { n:=H.n,lw:=H.n,t:=H.t } o.op=some (v,{ n:=H.n,lw:=H.n,t:=H.t }):=Y7;rw[Io];have:Nat.ble H.n H.n=true:=Nat.ble_eq.mpr (Nat.le_refl _);simp only[this,cond_true,Bool.not_false,Bool.and_self,Nat.sub_self,Nr]
      |false=>rw[cond_false];rw[Su hh Y7 H]
     simp only[hd,YN,XE,cond_false];exact h1
    ·exact h.elim
  ·rename_i hg;rw[hg];obtain⟨Q3,YN,AV⟩:=Tv (k:=k) (H:=H) (H1:=H) (K1:=fun tm=>LX P C k (ZR ops r) tm H K) h;obtain⟨Xg,H',h1,h2⟩:=Kb Re r (i+1) q Q3 H K Lj mK za AV;refine⟨Xg,H',?_,h2⟩;simp only[YN];exact h1
  ·exact h.elim
theorem wU{id:Nat}{s:St}(hd:(!Vm ops&&(Ue ops&&!isSplit C ops)&&DP ops&&Up ops.toList)=true)(h:LX P C s.k (strip ops) s.tm s.H fun Xg H'=>Q .norm ⟨s.k,Xg,H'⟩):W P C (.region id ops true) s Q:=by
 obtain⟨k,tm,H⟩:=s;rw[Bool.and_eq_true,Bool.and_eq_true,Bool.and_eq_true]at hd;have Re: ∀i o,ops[i]?=some o->ZZ o.op=true->alone ops i=true:=fun i o hi hs=>by have:=List.all_eq_true.mp hd.1.2 i (by simpa using Yu hi);rw[hi]at this;simpa[hs]using this
 obtain⟨Xg,H',h1,h2⟩:=Kb Re _ 0 false _ _ _ (fun j=>by simp) (fun e=>by cases e) hd.2 h;refine⟨.norm,⟨k,Xg,H'⟩,?_,h2⟩;rw[Uj];simp only[Wb];have hm:Vm ops=false:=by simpa using hd.1.1.1
 have CI:=hd.1.1.2;rw[Bool.and_eq_true]at CI;have hs:isSplit C ops=false:=by simpa using CI.2
 rw[WZ]at h1;have:YB P C (YC P C (Rp P C)) ops true ⟨k,tm,H⟩=some ⟨k,Xg,H'⟩:=by unfold YB W8;rw[hm,hs,CI.1];simp only[Bool.and_false,cond_false,cond_true];exact h1
 rw[this]
theorem Y8(R:St->Prop){a b:Code}{s:St}(h1: ∀Q':Ex->St->Prop,(∀s',R s'->Q' .norm s')->W P C a s Q')(h2: ∀s',R s'->W P C b s' Q):W P C (.seq a b) s Q:=Ms R (h1 _ fun s' h=>⟨rfl,h⟩) h2
end
end
end Go.Proofs.YtmkfecoeghokfaaGreatDoor.Ev
namespace Go.Proofs.YtmkfecoeghokfaaGreatDoor
open Go Ev
set_option linter.unusedVariables false
set_option linter.unusedSimpArgs false
noncomputable section
set_option maxHeartbeats 2000000
set_option maxRecDepth 20000
section
attribute [-simp] Int.natCast_add Int.natCast_mul Int.natCast_ediv Int.natCast_emod Int.natCast_pow
attribute [local simp] strip ZR Xm LR gW Z2 Ye ZW Yf ZK Yg Zs Zt Zi ZJ Ya ZP ZA Zl ZI Zj Zf ZB ZC YV Zo Yd YE Yy ZL plain ZO Tr.get_set Yw Zp Ys ZT sameKind undef Zw ZH Z5 Zv Z1 Yl ZU parts Z3 XZ DW Yh Zz LX ZZ Zq ZD ZQ XM Yk Zn ZN ZV ZM
def YJ:Value->Option Nat| .slice (some ⟨b,_,none⟩) _ _=>some b|_=>none
def Vq(v w:Value):Prop:= ∀b,YJ v=some b->YJ w≠some b
structure T0 (b : Option Nat) (H H' : AH) : Prop where
  n : H'.n = H.n
  blk : ∀ j, j < H.n -> b ≠ some j -> H'.blk j = H.blk j
theorem T0.refl(b:Option Nat)(H:AH):T0 b H H:=⟨rfl,fun _ _ _=>rfl⟩
theorem T0.trans{b:Option Nat}{H H1 H2:AH}(x:T0 b H H1)(y:T0 b H1 H2):T0 b H H2:=⟨y.n.trans x.n,fun j hn hj=>(y.blk j (by rw[x.n];exact hn) hj).trans (x.blk j hn hj)⟩
theorem At.but{b:Option Nat}{H H':AH}{c o:Nat}{xs:List Nat}(h:At H c o xs)(k:T0 b H H')(hb:b≠some c):At H' c o xs:=by obtain⟨h1,cs,h2,h3,h4⟩:=h;have e:=k.blk c h1 hb;exact⟨by rw[k.n];exact h1,cs,by unfold AH.cells;rw[e];exact h2,by unfold AH.size;rw[e];exact h3,h4⟩
theorem Sl.but{b:Option Nat}{H H':AH}{v:Value}{xs:List Nat}(h:Sl H v xs)(k:T0 b H H')(hb: ∀c,b=some c->YJ v≠some c):Sl H' v xs:=by cases h with|nil=>exact .nil|emp b=>exact .emp b|mk c o cap xs h1 h2=>exact .mk c o cap xs h1 (h2.but k fun e=>hb c e rfl)
theorem Ym.but{b:Option Nat}{n0:Nat}{H H':AH}{v:Value}{xs:List Nat}(h:Ym n0 H v xs)(k:T0 b H H')(hb: ∀c,b=some c->YJ v≠some c):Ym n0 H' v xs:=by cases h with|nil=>exact .nil|mk c o cap xs cs h1 h2 h3 h4 h5 h6=>exact .mk c o cap xs cs h1 h2 (by rw[k.n];exact h3) (by rw[k.blk c h3 fun e=>hb c e rfl];exact h4) h5 h6
theorem Ym.blk_lo{n0:Nat}{H:AH}{v:Value}{xs:List Nat}(h:Ym n0 H v xs){b:Nat}(hb:YJ v=some b):n0<=b/\b<H.n:=by cases h with|nil=>cases hb|mk c o cap xs cs h1 h2 h3 h4 h5 h6=>cases hb;exact⟨h2,h3⟩
theorem Sl.blk_lt{H:AH}{v:Value}{xs:List Nat}(h:Sl H v xs){b:Nat}(hb:YJ v=some b):b<H.n:=by cases h with|nil=>cases hb|emp _=>cases hb|mk c o cap xs h1 h2=>cases hb;exact h2.1
theorem Ym.put{n:Nat}{H:AH}{v:Value}{xs:List Nat}(h:Ym n H v xs){i:Nat}(hi:i<xs.length)(y:Nat): ∃H',YZ Tryz.prog H 101 (adr v i) (.int .u64 (y:Int))=some H'/\Ym n H' v (xs.set i y)/\H'.n=H.n/\(∀j,YJ v≠some j->H'.blk j=H.blk j)/\ ∀H0,Zg H0 H->H0.n<=n->Zg H0 H':=by cases h with
 |nil=>cases hi
 |mk b o cap xs cs h1 h2 h3 h4 h5 h6=>
  have hlen:Nat.ble (o+i+1) cs.length=true:=Nat.ble_eq.mpr (by omega);have e0:(Value.int .u64 (y:Int)).cells=#[.int .u64 (y:Int)]:=rfl;have hw:H.write b (o+i) [.int .u64 (y:Int)]=some { n:=H.n,lw:=min H.lw b,t:=H.t.set b (.rw 1 (cs.take (o+i)++[.int .u64 (y:Int)]++cs.drop (o+i+1))) } :=by rw[AH.write_def,h4];simp only[List.length_singleton,hlen,Bool.true_and];rfl
  refine⟨{ n:=H.n,lw:=min H.lw b,t:=H.t.set b (.rw 1 (cs.take (o+i)++[.int .u64 (y:Int)]++cs.drop (o+i+1))) },?_,?_,rfl,?_,?_⟩;·unfold YZ Go.Proofs.YtmkfecoeghokfaaGreatDoor.adr;simp only[Mg,e0];rw[show Nat.beq (#[Value.int .u64 (y:Int)]:Array Value).size 1=true from rfl,cond_true];exact hw
  ·have hl:(xs.set i y).length=xs.length:=List.length_set;rw[<-hl];refine .mk b o cap _ (cs.take (o+i)++[.int .u64 (y:Int)]++cs.drop (o+i+1)) (by omega) h2 h3 ?_ ?_ ?_;·unfold AH.blk;simp only[Tr.get_set,if_true]
   ·simp only[List.length_append,List.length_take,List.length_drop,List.length_singleton];omega
   ·intro j x hj;rw[List.getElem?_set]at hj;by_cases e:i=j;·subst e;rw[if_pos rfl,if_pos hi]at hj;cases hj;rw[List.append_assoc,List.getElem?_append_right (by rw[List.length_take];omega)];rw[List.length_take,show o+i-min (o+i) cs.length=0 by omega];rfl
    ·rw[if_neg e]at hj;have:=h6 j x hj;rcases Nat.lt_or_ge (o+j) (o+i)with YW|Sa;·rw[List.append_assoc,List.getElem?_append_left (by rw[List.length_take];omega),List.getElem?_take,if_pos YW];exact this
     ·rw[List.getElem?_append_right (by simp only[List.length_append,List.length_take,List.length_singleton];omega),List.getElem?_drop];simp only[List.length_append,List.length_take,List.length_singleton];rw[show o+i+1+(o+j-(min (o+i) cs.length+1))=o+j by omega];exact this
  ·intro j hj;have:j≠b:=fun e=>hj (by rw[e];rfl);unfold AH.blk;simp only[Tr.get_set,if_neg this]
  ·intro H0 k hn;refine⟨k.n,?_,fun j hj=>?_⟩;·have:=k.lw;show min H0.lw H0.n<=min H.lw b;omega
   ·have:j≠b:=by omega
    rw[<-k.blk j hj];unfold AH.blk;simp only[Tr.get_set,if_neg this]
def View(w v:Value)(j m:Nat):Prop:= ∀(t:TypeId),LT t-> ∀(k:IntKind)(i:Nat),i<m->Yj Tryz.prog t w (.int k (i:Int))=some (adr v (j+i))
theorem Sl.part{H:AH}{v:Value}{xs:List Nat}(h:Sl H v xs){t:TypeId}(ht:LT t){j m:Nat}(hm:j+m<=xs.length)(h0:0<m): ∃w,Vo Tryz.prog H t v (some (.int .i64 (j:Int))) (some (.int .i64 ((j+m:Nat):Int))) none=some w/\Sl H w ((xs.drop j).take m)/\View w v j m/\YJ w=YJ v:=by cases h with
 |nil=>simp at hm;omega
 |emp b=>simp at hm;omega
 |mk b o cap xs h1 h2=>
  have hl:((xs.drop j).take m).length=m:=by rw[List.length_take,List.length_drop];omega
  obtain⟨mn,cs,h3,h4,h5⟩:=h2;refine⟨.slice (some ⟨b,o+j,none⟩) ((xs.drop j).take m).length (cap-j),?_,.mk b (o+j) (cap-j) _ (by omega) ⟨mn,cs,h3,h4,fun i x hx=>?_,by have:=(List.getElem?_eq_some_iff.mp (h5.1 j _ (List.getElem?_eq_getElem (show j<xs.length by omega)))).1;omega⟩,?_,rfl⟩
  ·unfold Vo;simp only[ht.1,Mg];unfold Mz Xu;simp only[h4,Option.isSome_some,Option.isNone_none,Bool.true_or];rw[if_pos (by omega)];have e1:Nat.ble (j+m) cap=true:=Nat.ble_eq.mpr (by omega);have e2:Nat.blt j cap=true:=by rw[Nat.blt_eq];omega
   simp only[Xu,Int.toNat_natCast];rw[if_pos (by omega)];simp[e1,e2,hl]
  ·rw[List.getElem?_take]at hx;split at hx;·rw[List.getElem?_drop]at hx;have:=h5.1 (j+i) x hx;rwa[<-Nat.add_assoc]at this
   ·cases hx
  ·intro t ht k i hi;unfold Yj Go.Proofs.YtmkfecoeghokfaaGreatDoor.adr;simp only[ht.1,Mg];rw[if_pos (by omega)];simp[Nat.add_assoc]
def KA(n0:Nat)(H H1:AH):Prop:= ∀H0,Zg H0 H->H0.n<=n0->Zg H0 H1
theorem KA.refl(n0:Nat)(H:AH):KA n0 H H:=fun _ k _=>k
theorem KA.trans{n0:Nat}{H H1 H2:AH}(a:KA n0 H H1)(b:KA n0 H1 H2):KA n0 H H2:=fun H0 k h=>b H0 (a H0 k h) h
theorem Ym.segload{n0:Nat}{H:AH}{U0:Value}{pre us post:List Nat}(h:Ym n0 H U0 (pre++us++post)){j:Nat}(hj:pre.length=j){i:Nat}(hi:i<us.length):Z4 Tryz.prog H 101 (adr U0 (j+i))=some (.int .u64 (us[i]:Nat)):=by subst hj;have:=h.sl.load (i:=pre.length+i) (by simp;omega);rw[this];congr 3;rw[List.getElem_append_left (by simp;omega),List.getElem_append_right (by omega)];simp
theorem Ym.segstore{n0:Nat}{H:AH}{U0:Value}{pre us post:List Nat}(h:Ym n0 H U0 (pre++us++post)){j:Nat}(hj:pre.length=j){i:Nat}(hi:i<us.length)(y:Nat): ∃H',YZ Tryz.prog H 101 (adr U0 (j+i)) (.int .u64 (y:Int))=some H'/\Ym n0 H' U0 (pre++us.set i y++post)/\T0 (YJ U0) H H'/\KA n0 H H':=by subst hj;obtain⟨H',h1,h2,h3,h4,h5⟩:=h.put (i:=pre.length+i) (by simp;omega) y;refine⟨H',h1,?_,⟨h3,fun j _=>h4 j⟩,h5⟩;rw[List.set_append_left _ _ (by simp;omega),List.set_append_right _ _ (by omega),Nat.add_sub_cancel_left]at h2;exact h2
theorem Uu(x y:Nat)(H:AH):ZY Tryz.prog Zy 203 [.int .u64 (x:Int),.int .u64 (y:Int),.int .u64 0] H=some (.tuple #[.int .u64 (((x+y)%Zc:Nat):Int),.int .u64 (((x+y)/Zc:Nat):Int)],H):=Qa x y 0 H (by omega)
theorem Qs{x y:Nat}(hx:x<Zc)(hy:y<Zc)(H:AH):ZY Tryz.prog Zy 202 [.int .u64 (x:Int),.int .u64 (y:Int)] H=some (.tuple #[.int .u64 ((x*y/Zc:Nat):Int),.int .u64 ((x*y%Zc:Nat):Int)],H):=by obtain⟨v,H',h,rfl,rfl⟩:=Bh hx hy (H:=H);exact h
theorem OE{h l y:Nat}(hh:h<y)(hl:l<Zc)(hy:y<Zc)(H:AH):ZY Tryz.prog Zy 205 [.int .u64 (h:Int),.int .u64 (l:Int),.int .u64 (y:Int)] H=some (.tuple #[.int .u64 (((h*Zc+l)/y:Nat):Int),.int .u64 (((h*Zc+l)%y:Nat):Int)],H):=by obtain⟨v,H',h,rfl,rfl⟩:=Cp hh hl hy (H:=H);exact h
theorem NB{x:Nat} :Zd .neq .u64 (x:Int) 0=some (.bool (decide (x≠0))):=Kp (y:=0)
theorem jG{x:Nat}(h:x<9223372036854775808)(hx:2<=x):Zd .sub .i64 (x:Int) 2=some (.int .i64 ((x-2:Nat):Int)):=Oe (x:=x) (y:=2) h hx
theorem XD{x y:Nat}(h:x+y<Zc):Zd .add .u64 (x:Int) (y:Int)=some (.int .u64 ((x+y:Nat):Int)):=by rw[Tq,Nat.mod_eq_of_lt h]
theorem QY{xs:List Nat}{n:Nat}(h:xs.length=n+1):xs=xs.take n++[xs[n]'(by omega)]:=by have:=List.take_append_getElem (l:=xs) (i:=n) (by omega);rw[this,<-h,List.take_length]
theorem uQ{us vs:List Nat}{n:Nat}(hu:us.length=n+1)(hv:vs.length=n)(h2:2<=n)(du:YG Zc us)(dv':YG Zc vs)(hp:0<vs[n-1]'(by omega)):Gf Zc (Zc^(n-2)) (dv Zc vs) (dv Zc us) (vs[n-1]'(by omega)) (vs[n-2]'(by omega)) (dv Zc (vs.take (n-2))) ((us[n]'(by omega))*Zc+us[n-1]'(by omega)) (us[n-2]'(by omega)) (dv Zc (us.take (n-2))):=by
 obtain⟨m,rfl⟩: ∃m,n=m+2:=⟨n-2,by omega⟩;simp only[Nat.add_sub_cancel,show m+2-1=m+1 by omega]at hp⊢;have e1:vs=vs.take m++[vs[m]'(by omega),vs[m+1]'(by omega)]:=by have a:=QY (n:=m+1) hv;have b:=Xo (xs:=vs) (i:=m) (by omega);rw[b,List.append_assoc]at a;exact a
 have e2:us=us.take m++[us[m]'(by omega),us[m+1]'(by omega),us[m+2]'(by omega)]:=by have a:=QY (n:=m+2) hu;have b:=Xo (xs:=us) (i:=m+1) (by omega);have c:=Xo (xs:=us) (i:=m) (by omega);rw[b,c,List.append_assoc,List.append_assoc]at a;exact a
 have l1:(vs.take m).length=m:=by rw[List.length_take];omega
 have l2:(us.take m).length=m:=by rw[List.length_take];omega
 refine⟨?_,?_,?_,?_,du.get (List.getElem?_eq_getElem (by omega)),dv'.get (List.getElem?_eq_getElem (by omega)),hp⟩;·have:=congrArg (dv Zc) e1;rw[this,Yt,l1];simp only[dv,Nat.mul_zero,Nat.add_zero];rw[Nat.add_comm,Nat.mul_comm (Zc^m),Nat.mul_comm Zc,Nat.add_comm (vs[m])]
 ·have:=congrArg (dv Zc) e2;rw[this,Yt,l2];simp only[dv,Nat.mul_zero,Nat.add_zero];rw[Nat.add_comm,Nat.mul_comm (Zc^m),Nat.mul_comm Zc (us[m+1]+_),Nat.add_comm (us[m+1]),Nat.mul_comm Zc us[m+2],Nat.add_comm (us[m])]
 ·have:=X3 (dv'.take m);rwa[l1]at this
 ·have:=X3 (du.take m);rwa[l2]at this
theorem Kf{x B:Nat}(hB:0<B)(h:x/B=0):x<B:=by
 rcases Nat.lt_or_ge x B with h'|h';·exact h'
 ·have:=Nat.div_pos h' hB;omega
structure oA (V U y1 u q r : Nat) (sure : Bool) : Prop where
  ge : U / V <= q
  lt : q < Zc
  no : sure = false -> q * y1 + r = u /\ r < Zc
  yes : sure = true -> q <= U / V + 1
theorem CZ{n0 n j:Nat}{H:AH}{U0 uv vv:Value}{pre us post vs:List Nat}(hu:Ym n0 H U0 (pre++us++post))(hj:pre.length=j)(hus:us.length=n+1)(ER:View uv U0 j (n+1))(du:YG Zc us)(hv:Sl H vv vs)(Jc:Vq U0 vv)(Jm:vs.length=n)(h2:2<=n)(hn:n<=17592186044416)(fW:YG Zc vs)(hp:0<vs[n-1]'(by omega))(YW:dv Zc us<dv Zc vs*Zc):CW Tryz.prog Zy 218 [uv,vv] H fun v H'=>v= .int .u64 ((dv Zc us/dv Zc vs:Nat):Int)/\T0 (YJ U0) H H'/\KA n0 H H'/\ ∃QA,QA.length=n+1/\YG Zc QA/\dv Zc QA=dv Zc us%dv Zc vs/\Ym n0 H' U0 (pre++QA++post):=by
 refine Z8 195 Tryz.func218 ?_;have T:=uQ hus Jm h2 du fW hp;have Vpos:=T.Vpos;obtain⟨V,hV⟩:=hid (dv Zc vs);obtain⟨U,hU⟩:=hid (dv Zc us);obtain⟨un,ES⟩:=hid (us[n]'(by omega));obtain⟨Kv,tg⟩:=hid (us[n-1]'(by omega));obtain⟨uI,th⟩:=hid (us[n-2]'(by omega));obtain⟨y1,vM⟩:=hid (vs[n-1]'(by omega));obtain⟨y0,LC⟩:=hid (vs[n-2]'(by omega));rw[<-hV,<-hU,<-ES,<-tg,<-th,<-vM,<-LC]at T;rw[<-hV,<-hU]at YW⊢;rw[<-hV]at Vpos;rw[<-vM]at hp;have bun:un<Zc:=by rw[ES];exact du.get (List.getElem?_eq_getElem (by omega))
 have bun1:Kv<Zc:=by rw[tg];exact du.get (List.getElem?_eq_getElem (by omega))
 have bun2:uI<Zc:=by rw[th];exact du.get (List.getElem?_eq_getElem (by omega))
 have by1:y1<Zc:=by rw[vM];exact fW.get (List.getElem?_eq_getElem (by omega))
 have by0:y0<Zc:=by rw[LC];exact fW.get (List.getElem?_eq_getElem (by omega))
 have hQB:U/V<Zc:=by rw[Nat.div_lt_iff_lt_mul Vpos,Nat.mul_comm];exact YW
 have EL:=hv.len Zv;rw[Jm]at EL;have s1:Zd .sub .i64 (n:Int) 1=some (.int .i64 ((n-1:Nat):Int)):=Uf (by omega) (by omega);have s2:Zd .sub .i64 (n:Int) 2=some (.int .i64 ((n-2:Nat):Int)):=jG (by omega) h2;have an:Yj Tryz.prog 30 uv (.int .i64 (n:Int))=some (adr U0 (j+n)):=ER _ Zv .i64 n (by omega);have an1:Yj Tryz.prog 30 uv (.int .i64 ((n-1:Nat):Int))=some (adr U0 (j+(n-1))):=ER _ Zv .i64 (n-1) (by omega);have an2:Yj Tryz.prog 30 uv (.int .i64 ((n-2:Nat):Int))=some (adr U0 (j+(n-2))):=ER _ Zv .i64 (n-2) (by omega);have av1:Yj Tryz.prog 30 vv (.int .i64 ((n-1:Nat):Int))=some (adr vv (n-1)):=hv.adr Zv (by omega);have av2:Yj Tryz.prog 30 vv (.int .i64 ((n-2:Nat):Int))=some (adr vv (n-2)):=hv.adr Zv (by omega);have ln:Z4 Tryz.prog H 101 (adr U0 (j+n))=some (.int .u64 (un:Int)):=by rw[ES];exact hu.segload hj (by omega)
 have ln1:Z4 Tryz.prog H 101 (adr U0 (j+(n-1)))=some (.int .u64 (Kv:Int)):=by rw[tg];exact hu.segload hj (by omega)
 have ln2:Z4 Tryz.prog H 101 (adr U0 (j+(n-2)))=some (.int .u64 (uI:Int)):=by rw[th];exact hu.segload hj (by omega)
 have lv1:Z4 Tryz.prog H 101 (adr vv (n-1))=some (.int .u64 (y1:Int)):=by rw[vM];exact hv.load (by omega)
 have lv2:Z4 Tryz.prog H 101 (adr vv (n-2))=some (.int .u64 (y0:Int)):=by rw[LC];exact hv.load (by omega)
 have aq: ∀(a:Value),Z4 Tryz.prog H.top 101 a=Z4 Tryz.prog H 101 a:=fun _=>rfl;apply Zb;intro b1 Ze;simp;subst Ze;apply Zb;intro b1 Ze;simp[EL];subst Ze;apply Zb;intro b1 Ze;simp;subst Ze;apply Zb;intro b1 Ze;simp;subst Ze;refine Y8 (fun s'=>s'.k=195/\s'.H=H/\s'.tm.get 0=some uv/\s'.tm.get 1=some vv/\s'.tm.get 5=some (.int .i64 (n:Int))/\ ∃(q r:Nat) (sure:Bool),oA V U y1 (un*Zc+Kv) q r sure/\s'.tm.get 6=some (.int .u64 (q:Int))/\s'.tm.get 7=some (.int .u64 (r:Int))/\s'.tm.get 8=some (.bool sure)) ?_ ?_
 ·intro Q' Y4;apply Zh;intro b1 Ze;apply Ri (by kernel_rfl);simp[EL,an,s1,av1,ln,lv1,NV];subst Ze;by_cases Sa:y1<=un
  ·have hEq:un=y1:=Nat.le_antisymm (T.high YW) Sa;refine Za (t:=true) (by simp[Sa]) ?_;apply Zb;intro b1 Ze;simp;subst Ze;apply Zb;intro b1 Ze;simp;subst Ze;apply Zh;intro b1 Ze;apply Nq (by kernel_rfl);simp[s1,an1,av1,aq,ln1,lv1,Uu];subst Ze;apply Zk;simp[NB];apply Y4;have hB1:((18446744073709551615:Nat):Int)=18446744073709551615:=rfl;have he:18446744073709551615*y1+(Kv+y1)=un*Zc+Kv:=by rw[hEq];show 18446744073709551615*y1+(Kv+y1)=y1*18446744073709551616+Kv;omega
   refine⟨rfl,rfl,by simp,by simp,by simp,18446744073709551615,(Kv+y1)%Zc,decide ((Kv+y1)/Zc≠0),⟨?_,by decide,?_,?_⟩,by simp[hB1],by simp,by simp⟩;·have:U/V<18446744073709551616:=hQB;omega
   ·intro h;have h0:(Kv+y1)/Zc=0:=by have:=of_decide_eq_false h;omega
    have hm:(Kv+y1)%Zc=Kv+y1:=Nat.mod_eq_of_lt (Kf (by decide) h0);rw[hm];refine⟨he,?_⟩;rw[<-hm];exact Nat.mod_lt _ (by decide)
   ·intro h;have h0: ¬ (Kv+y1)/Zc=0:=of_decide_eq_true h;refine T.false he (by decide) ?_;have h1:Zc<=Kv+y1:=by
     rcases Nat.lt_or_ge (Kv+y1) Zc with h'|h';·exact absurd (Nat.div_eq_of_lt h') h0
     ·exact h'
    have h2:Zc*Zc<=(Kv+y1)*Zc:=Nat.mul_le_mul_right _ h1;have h3:18446744073709551615*y0<=Zc*Zc:=Nat.mul_le_mul (by decide) (by omega);omega
  ·refine Za (t:=false) (by simp;omega) ?_;have yN:un<y1:=by omega
   apply Nq (by kernel_rfl);simp[s1,an,an1,av1,aq,ln,ln1,lv1,OE yN bun1 by1];apply Y4;refine⟨rfl,rfl,by simp,by simp,by simp,(un*Zc+Kv)/y1,(un*Zc+Kv)%y1,false,⟨T.first,?_,?_,fun h=>by cases h⟩,by simp,by simp,by simp⟩;·rw[Nat.div_lt_iff_lt_mul hp,Nat.mul_comm Zc y1];have:(un+1)*Zc<=y1*Zc:=Nat.mul_le_mul_right _ yN;rw[Nat.succ_mul]at this;omega
   ·intro _;exact⟨by rw[Nat.mul_comm];exact Nat.div_add_mod _ _,Nat.lt_trans (Nat.mod_lt _ hp) by1⟩
 rintro⟨k,tm,H'⟩ ⟨hk,hH,t0,t1,t5,q,r,sure,km,t6,t7,t8⟩;simp only at hk hH t0 t1 t5 t6 t7 t8;subst hk;subst hH;refine Y8 (fun s'=>s'.k=195/\s'.H=H'/\s'.tm.get 0=some uv/\s'.tm.get 1=some vv/\s'.tm.get 5=some (.int .i64 (n:Int))/\ ∃(q:Nat),U/V<=q/\q<=U/V+1/\q<Zc/\s'.tm.get 6=some (.int .u64 (q:Int))) ?_ ?_;·intro Gd We;apply ZS;refine YQ (fun m s'=>s'.k=195/\s'.H=H'/\s'.tm.get 0=some uv/\s'.tm.get 1=some vv/\s'.tm.get 5=some (.int .i64 (n:Int))/\ ∃(r:Nat) (sure:Bool),oA V U y1 (un*Zc+Kv) m r sure/\s'.tm.get 6=some (.int .u64 (m:Int))/\s'.tm.get 7=some (.int .u64 (r:Int))/\s'.tm.get 8=some (.bool sure)) ?_ q _ ⟨rfl,rfl,t0,t1,t5,r,sure,km,t6,t7,t8⟩;clear t0 t1 t5 t6 t7 t8 km;rintro q ⟨k,tm,H2⟩ ⟨hk,hH,t0,t1,t5,r,sure,km,t6,t7,t8⟩ Q' Y4;simp only at hk hH t0 t1 t5 t6 t7 t8;subst hk;subst hH;apply Zh;intro b3 Z9;apply Zb;intro b4 Yz;simp[t8];subst Yz;cases sure with
  |true=>refine Za (t:=false) (by simp) ?_;apply YP;apply Y4;left;exact⟨rfl,We _ ⟨rfl,rfl,by simp[t0],by simp[t1],by simp[t5],q,km.ge,km.yes rfl,km.lt,by simp[t6]⟩⟩
  |false=>
   refine Za (t:=true) (by simp) ?_;apply Zr;subst Z9;obtain⟨gD,hrB⟩:=km.no rfl;have dM:=km.lt;apply ZS;apply Zb;intro b3 Z9;simp[t6,t1,t5,s2,av2,lv2,Qs dM by0];subst Z9;obtain⟨hi,yW⟩:=hid (q*y0/Zc);obtain⟨lo,vR⟩:=hid (q*y0%Zc);have ehl:q*y0=Zc*hi+lo:=by rw[yW,vR];exact(Nat.div_add_mod _ _).symm
   have hloB:lo<Zc:=by rw[vR];exact Nat.mod_lt _ (by decide)
   rw[<-yW,<-vR];have stop:q*y0<=r*Zc+uI->q<=U/V+1:=fun h=>T.false gD dM h;have on:r*Zc+uI<q*y0->0<q/\U/V<=q-1/\(q-1)*y1+(r+y1)=un*Zc+Kv:=fun h=>by have h1:=T.true gD h;have yD:0<q:=Nat.lt_of_le_of_lt (Nat.zero_le _) h1;refine⟨yD,Nat.le_sub_one_of_lt h1,?_⟩;obtain⟨q',rfl⟩: ∃q',q=q'+1:=⟨q-1,by omega⟩;rw[Nat.succ_mul]at gD;rw[Nat.add_sub_cancel];omega
   apply Zh;intro b3 Z9;apply Zh;intro b4 Yz;have pP: ∀Xg,q*y0<=r*Zc+uI->Xg.get 0=some uv->Xg.get 1=some vv->Xg.get 5=some (.int .i64 (n:Int))->Xg.get 6=some (.int .u64 (q:Int))->Q' (.exit 0) ⟨195,Xg,H2⟩:=fun Xg h a b c d=>by apply Y4;left;exact⟨rfl,We _ ⟨rfl,rfl,a,b,c,q,km.ge,stop h,dM,d⟩⟩
   have onk: ∀Xg,r*Zc+uI<q*y0->Xg.get 0=some uv->Xg.get 1=some vv->Xg.get 5=some (.int .i64 (n:Int))->Xg.get 6=some (.int .u64 (q:Int))->Xg.get 7=some (.int .u64 (r:Int))->Xg.get 8=some (.bool false)->W Tryz.prog Zy b3 ⟨195,Xg,H2⟩ (Yn 1 Q'):=fun Xg h t0 t1 t5 t6 t7 t8=>by
    obtain⟨yD,Sa,heq⟩:=on h;subst Z9;apply Zb;intro b3 Z9;simp[t6,Mh dM yD];subst Z9;apply Zb;intro b3 Z9;simp;subst Z9;apply Zb;intro b3 Z9;simp[t7,t1,t5,s1,av1,lv1,Uu];subst Z9;apply Zb;intro b3 Z9;simp[NB];subst Z9;by_cases gJ:(r+y1)/Zc=0;·refine Za (t:=false) (by simp;exact Kf (by decide) gJ) ?_;have hm:(r+y1)%Zc=r+y1:=Nat.mod_eq_of_lt (Kf (by decide) gJ);apply Zr;apply Y4;refine⟨q-1,by omega,rfl,rfl,by simp[t0],by simp[t1],by simp[t5],(r+y1)%Zc,false,⟨Sa,by omega,fun _=>⟨by rw[hm];exact heq,Nat.mod_lt _ (by decide)⟩,fun h=>by cases h⟩,by simp,by simp,by simp[t8]⟩
    ·have h1:Zc<=r+y1:=by
      rcases Nat.lt_or_ge (r+y1) Zc with h'|h';·exact absurd (Nat.div_eq_of_lt h') gJ
      ·exact h'
     refine Za (t:=true) (by simp;exact h1) ?_;apply YP;right;refine⟨by decide,?_⟩;apply Y4;left;refine⟨rfl,We _ ⟨rfl,rfl,by simp[t0],by simp[t1],by simp[t5],q-1,Sa,?_,by omega,by simp⟩⟩;refine T.false heq (by omega) ?_;have h2:Zc*Zc<=(r+y1)*Zc:=Nat.mul_le_mul_right _ h1;have h3:(q-1)*y0<=Zc*Zc:=Nat.mul_le_mul (by omega) (by omega);omega
   apply Zk;by_cases c1:hi<r;·simp[t7,c1];subst Yz;refine Za (t:=true) (by simp) ?_;apply YP;right;refine⟨by decide,pP _ ?_ (by simp[t0]) (by simp[t1]) (by simp[t5]) (by simp[t6])⟩;have:Zc*(hi+1)<=Zc*r:=Nat.mul_le_mul_left _ c1;rw[Nat.mul_succ,Nat.mul_comm Zc r]at this;omega
   ·by_cases c2:hi=r
    ·by_cases c3:lo<=uI;·simp[t7,t0,t5,c1,PD,c2,s2,an2,ln2,P0,c3];subst Yz;refine Za (t:=true) (by simp) ?_;apply YP;right;refine⟨by decide,pP _ ?_ (by simp[t0]) (by simp[t1]) (by simp[t5]) (by simp[t6])⟩;rw[ehl,c2,Nat.mul_comm];omega
     ·simp[t7,t0,t5,c1,PD,c2,s2,an2,ln2,P0,c3];subst Yz;refine Za (t:=false) (by simp) ?_;apply Zr;show W _ _ b3 _ _;refine onk _ ?_ (by simp[t0]) (by simp[t1]) (by simp[t5]) (by simp[t6]) (by simp[t7]) (by simp[t8]);rw[ehl,c2,Nat.mul_comm];omega
    ·simp[t7,t0,t5,c1,PD,c2];subst Yz;refine Za (t:=false) (by simp) ?_;apply Zr;show W _ _ b3 _ _;refine onk _ ?_ (by simp[t0]) (by simp[t1]) (by simp[t5]) (by simp[t6]) (by simp[t7]) (by simp[t8]);have:Zc*(r+1)<=Zc*hi:=Nat.mul_le_mul_left _ (by omega);rw[Nat.mul_succ,Nat.mul_comm Zc r]at this;omega
 clear t0 t1 t5 t6 t7 t8 km q r sure;rintro⟨k,tm,H2⟩ ⟨hk,hH,t0,t1,t5,q,qge,qle,qB,t6⟩;simp only at hk hH t0 t1 t5 t6;subst hk;subst hH;have qY: ∀{H1:AH},T0 (YJ U0) H2 H1->Sl H1 vv vs:=fun k=>hv.but k Jc;apply Zb;intro b1 Ze;simp;subst Ze;refine Y8 (fun s'=>s'.k=195/\s'.tm.get 0=some uv/\s'.tm.get 1=some vv/\s'.tm.get 5=some (.int .i64 (n:Int))/\s'.tm.get 6=some (.int .u64 (q:Int))/\T0 (YJ U0) H2 s'.H/\KA n0 H2 s'.H/\ ∃(L:List Nat) (carry borrow:Nat),L.length=n/\YG Zc L/\carry<Zc/\borrow<=1/\dv Zc L+q*V=dv Zc (us.take n)+Zc^n*(carry+borrow)/\Ym n0 s'.H U0 (pre++(L++us.drop n)++post)/\s'.tm.get 13=some (.int .u64 (carry:Int))/\s'.tm.get 14=some (.int .u64 (borrow:Int))) ?_ ?_
 ·intro Gd We;apply Zb;intro b1 Ze;simp[t1,EL];subst Ze;apply ZS;refine YQ (fun m s'=>s'.k=195/\s'.tm.get 0=some uv/\s'.tm.get 1=some vv/\s'.tm.get 5=some (.int .i64 (n:Int))/\s'.tm.get 6=some (.int .u64 (q:Int))/\T0 (YJ U0) H2 s'.H/\KA n0 H2 s'.H/\s'.tm.get 113=some vv/\s'.tm.get 114=some (.int .i64 (n:Int))/\ ∃(i:Nat) (L:List Nat) (carry borrow:Nat),m+i=n/\L.length=i/\YG Zc L/\carry<Zc/\borrow<=1/\dv Zc L+q*dv Zc (vs.take i)=dv Zc (us.take i)+Zc^i*(carry+borrow)/\Ym n0 s'.H U0 (pre++(L++us.drop i)++post)/\s'.tm.get 13=some (.int .u64 (carry:Int))/\s'.tm.get 14=some (.int .u64 (borrow:Int))/\s'.tm.get 115=some (.int .i64 (i:Int))) ?_ n _ ⟨rfl,by simp[t0],by simp[t1],by simp[t5],by simp[t6],.refl _ _,.refl _ _,by simp[t1],by simp,0,[],0,0,by omega,rfl,.nil _,by decide,by omega,by simp[dv],by simpa using hu,by simp,by simp,by simp⟩;clear t0 t1 t5 t6;rintro m ⟨k,tm,H3⟩ ⟨hk,t0,t1,t5,t6,kb,ka,t113,t114,i,L,carry,borrow,Kk,hL,dL,hc,hb,heq,own,t13,t14,t115⟩ Q' Y4;simp only at hk t0 t1 t5 t6 kb ka t113 t114 t13 t14 t115 own;subst hk;apply Zb;intro b3 Z9;simp[t114,t115];subst Z9;apply Zh;intro b3 Z9;by_cases hi:i<n
  ·refine Za (t:=true) (by simp[hi]) ?_;apply Zr;subst Z9;have zl:=qY kb;have a1:Yj Tryz.prog 30 vv (.int .i64 (i:Int))=some (adr vv i):=zl.adr Zv (by omega);have hx:vs[i]<Zc:=fW.get (List.getElem?_eq_getElem (by omega));have d1:Z4 Tryz.prog H3 101 (adr vv i)=some (.int .u64 (vs[i]:Nat)):=zl.load (by omega);have a2:Yj Tryz.prog 30 uv (.int .i64 (i:Int))=some (adr U0 (j+i)):=ER _ Zv .i64 i (by omega);have zk:us.drop i=us[i]::us.drop (i+1):=List.drop_eq_getElem_cons (by omega);have huB:us[i]<Zc:=du.get (List.getElem?_eq_getElem (by omega));have d2:Z4 Tryz.prog H3 101 (adr U0 (j+i))=some (.int .u64 (us[i]:Nat)):=by have:=own.segload hj (i:=i) (by simp;omega);rw[this];congr 3;rw[List.getElem_append_right (by omega)];simp[hL]
   obtain⟨x,MK⟩:=hid (vs[i]);obtain⟨y,mF⟩:=hid (us[i]);rw[<-MK]at hx d1;rw[<-mF]at huB d2 zk;have step:=GD hx qB hc huB hb;simp only at step;obtain⟨ph,yG⟩:=hid (x*q/Zc);obtain⟨pl,bU⟩:=hid (x*q%Zc);rw[<-yG,<-bU]at step;obtain⟨sm,hsm⟩:=hid ((pl+carry)%Zc);obtain⟨ov,gJ⟩:=hid ((pl+carry)/Zc);rw[<-hsm,<-gJ]at step;obtain⟨y',ik⟩: ∃y',y'=(y+Zc-sm-borrow)%Zc:=⟨_,rfl⟩;obtain⟨b',Wk⟩: ∃b',b'=(if y<sm+borrow then 1 else 0):=⟨_,rfl⟩;rw[<-ik,<-Wk]at step;obtain⟨SB,TK,TJ⟩:=step;have m1:ZY Tryz.prog Zy 202 [.int .u64 (x:Int),.int .u64 (q:Int)] H3=some (.tuple #[.int .u64 (ph:Int),.int .u64 (pl:Int)],H3):=by rw[yG,bU];exact Qs hx qB H3
   have m2:ZY Tryz.prog Zy 203 [.int .u64 (pl:Int),.int .u64 (carry:Int),.int .u64 0] H3=some (.tuple #[.int .u64 (sm:Int),.int .u64 (ov:Int)],H3):=by rw[hsm,gJ];exact Uu pl carry H3
   have m3:Zd .add .u64 (ph:Int) (ov:Int)=some (.int .u64 ((ph+ov:Nat):Int)):=XD SB;have m4:ZY Tryz.prog Zy 206 [.int .u64 (y:Int),.int .u64 (sm:Int),.int .u64 (borrow:Int)] H3=some (.tuple #[.int .u64 (y':Int),.int .u64 (b':Int)],H3):=by rw[ik,Wk];exact QW y sm borrow H3 hb
   obtain⟨H4,sto,Vz,kb4,VX⟩:=own.segstore hj (i:=i) (by simp;omega) y';rw[zk,WG L y y' _ hL]at Vz;apply Zh;intro b3 Z9;apply ZS;apply Zb;intro b4 Yz;simp[t113,t115,a1,d1];subst Yz;apply Zb;intro b4 Yz;simp[t6,m1];subst Yz;apply Zb;intro b4 Yz;simp[t13,m2];subst Yz;apply Zb;intro b4 Yz;simp[m3];subst Yz;apply Zk;simp[t0,t14,a2,d2,m4,sto];subst Z9;apply Zk;simp[t115,YR (x:=i) (by omega)];apply Y4;refine⟨m-1,by omega,rfl,by simp[t0],by simp[t1],by simp[t5],by simp[t6],kb.trans kb4,ka.trans VX,by simp[t113],by simp[t114],i+1,L++[y'],ph+ov,b',by omega,by simp[hL],dL.append (.cons TK (.nil _)),SB,?_,?_,by simpa using Vz,by simp,by simp,by simp⟩;·rw[Wk];split<;>omega
   ·rw[Yt,hL,Xo (xs:=vs) (by omega),Xo (xs:=us) (by omega),Yt,Yt,List.length_take,List.length_take,Nat.min_eq_left (by omega),Nat.min_eq_left (by omega),<-MK,<-mF];simp only[dv,Nat.mul_zero,Nat.add_zero];have e1:Zc^i*(y'+x*q+carry+borrow)=Zc^i*(y+Zc*(ph+ov+b')):=by rw[TJ]
    rw[Nat.mul_add (Zc^i) y,<-Nat.mul_assoc (Zc^i) Zc,show Zc^i*Zc=Zc^(i+1)from rfl]at e1;rw[show y'+x*q+carry+borrow=y'+x*q+(carry+borrow) by omega,Nat.mul_add,Nat.mul_add]at e1;rw[Nat.mul_add q,show q*(Zc^i*x)=Zc^i*(x*q) by rw[Nat.mul_left_comm,Nat.mul_comm q x]];omega
  ·refine Za (t:=false) (by simp[hi]) ?_;apply YP;apply Y4;left;obtain rfl:i=n:=by omega
   have e1:vs.take i=vs:=by rw[<-Jm,List.take_length]
   rw[e1,<-hV]at heq;exact⟨rfl,We _ ⟨rfl,by simp[t0],by simp[t1],by simp[t5],by simp[t6],kb,ka,L,carry,borrow,hL,dL,hc,hb,heq,own,by simp[t13],by simp[t14]⟩⟩
 clear t0 t1 t5 t6;rintro⟨k,tm,H3⟩ ⟨hk,t0,t1,t5,t6,kb,ka,L,carry,borrow,hL,dL,hc,hb,heq,own,t13,t14⟩;simp only at hk t0 t1 t5 t6 kb ka own t13 t14;subst hk;have hdn:us.drop n=[un]:=by rw[List.drop_eq_getElem_cons (by omega),List.drop_eq_nil_of_le (by omega),<-ES]
 have hUe:U=dv Zc (us.take n)+Zc^n*un:=by have:=congrArg (dv Zc) (QY hus);rw[Yt,List.length_take,Nat.min_eq_left (by omega),<-ES,<-hU]at this;simpa[dv]using this
 rw[hdn]at own;have d2:Z4 Tryz.prog H3 101 (adr U0 (j+n))=some (.int .u64 (un:Int)):=by have:=own.segload hj (i:=n) (by simp;omega);rw[this,NT L un [] hL]
 obtain⟨y',ik⟩: ∃y',y'=(un+Zc-carry-borrow)%Zc:=⟨_,rfl⟩;obtain⟨b',Wk⟩: ∃b',b'=(if un<carry+borrow then 1 else 0):=⟨_,rfl⟩;have Ze:b'<=1:=by rw[Wk];split<;>omega
 have hy'B:y'<Zc:=by rw[ik];exact Nat.mod_lt _ (by decide)
 have Re:y'+(carry+borrow)=un+Zc*b':=by
  by_cases h:un<carry+borrow;·rw[ik,Wk,if_pos h,Nat.mod_eq_of_lt (by omega)];omega
  ·rw[ik,Wk,if_neg h];have:un+Zc-carry-borrow=(un-carry-borrow)+Zc:=by omega
   rw[this,Nat.add_mod_right,Nat.mod_eq_of_lt (by omega)];omega
 have m4:ZY Tryz.prog Zy 206 [.int .u64 (un:Int),.int .u64 (carry:Int),.int .u64 (borrow:Int)] H3=some (.tuple #[.int .u64 (y':Int),.int .u64 (b':Int)],H3):=by rw[ik,Wk];exact QW un carry borrow H3 hb
 obtain⟨H4,sto,Vz,kb4,VX⟩:=own.segstore hj (i:=n) (by simp;omega) y';rw[WG L un y' [] hL]at Vz;have dL':YG Zc (L++[y']):=dL.append (.cons hy'B (.nil _));have hR:dv Zc (L++[y'])+q*V=U+Zc^(n+1)*b':=by
  rw[Yt,hL];simp only[dv,Nat.mul_zero,Nat.add_zero];have e1:Zc^n*(y'+(carry+borrow))=Zc^n*(un+Zc*b'):=by rw[Re]
  rw[Nat.mul_add,Nat.mul_add (Zc^n) un,<-Nat.mul_assoc (Zc^n) Zc,show Zc^n*Zc=Zc^(n+1)from rfl]at e1;omega
 have ya:dv Zc (L++[y'])<Zc^(n+1):=by have:=X3 dL';simpa[hL]using this
 have yc:U<Zc^(n+1):=by have:=X3 du;rwa[hus,<-hU]at this
 have ta:=cC Vpos qge qle yc ya Ze hR;apply Zh;intro b1 MS;apply Zk;simp[t0,t5,t13,t14,an,d2,m4,sto];subst MS;rcases ta with⟨rfl,rfl,xA⟩|⟨rfl,kR,xA⟩;·apply Zh;intro b1 MS;apply Zb;intro b2 Zx;simp[NB];subst Zx;refine Za (t:=false) (by simp) ?_;apply Zr;subst MS;apply Zh;intro b1 MS;apply Zk;simp[t6];subst MS;apply Zu;simp;exact⟨kb.trans kb4,ka.trans VX,L++[y'],by simp[hL],dL',xA,by simpa using Vz⟩
 ·have yD:0<q:=by rw[kR];exact Nat.succ_pos _
  have hqe:q-1=U/V:=by rw[kR];rfl
  apply Zh;intro b1 MS;apply Zb;intro b2 Zx;simp[NB];subst Zx;refine Za (t:=true) (by simp) ?_;apply Zb;intro b2 Zx;simp[t6,Mh qB yD];subst Zx;apply Zb;intro b2 Zx;simp;subst Zx;obtain⟨QA,tk⟩: ∃QA,QA=L++[y']:=⟨_,rfl⟩;have Zat:QA.length=n+1:=by rw[tk];simp[hL]
  rw[<-tk]at Vz dL' xA ya;have kb5:=kb.trans kb4;have WH:=ka.trans VX;have seg1:QA.take n++QA.drop n=QA:=List.take_append_drop n QA;refine Y8 (fun s'=>s'.k=195/\s'.tm.get 0=some uv/\s'.tm.get 5=some (.int .i64 (n:Int))/\s'.tm.get 6=some (.int .u64 ((U/V:Nat):Int))/\T0 (YJ U0) H2 s'.H/\KA n0 H2 s'.H/\ ∃(L:List Nat) (back:Nat),L.length=n/\YG Zc L/\back<=1/\dv Zc L+Zc^n*back=dv Zc (QA.take n)+V/\Ym n0 s'.H U0 (pre++(L++QA.drop n)++post)/\s'.tm.get 21=some (.int .u64 (back:Int))) ?_ ?_
  ·intro Gd We;apply Zb;intro b3 Z9;simp[t1,EL];subst Z9;apply ZS;refine YQ (fun m s'=>s'.k=195/\s'.tm.get 0=some uv/\s'.tm.get 5=some (.int .i64 (n:Int))/\s'.tm.get 6=some (.int .u64 ((U/V:Nat):Int))/\T0 (YJ U0) H2 s'.H/\KA n0 H2 s'.H/\s'.tm.get 166=some vv/\s'.tm.get 167=some (.int .i64 (n:Int))/\ ∃(i:Nat) (L:List Nat) (back:Nat),m+i=n/\L.length=i/\YG Zc L/\back<=1/\dv Zc L+Zc^i*back=dv Zc (QA.take i)+dv Zc (vs.take i)/\Ym n0 s'.H U0 (pre++(L++QA.drop i)++post)/\s'.tm.get 21=some (.int .u64 (back:Int))/\s'.tm.get 168=some (.int .i64 (i:Int))) ?_ n _ ⟨rfl,by simp[t0],by simp[t5],by simp[hqe],kb5,WH,by simp[t1],by simp,0,[],0,by omega,rfl,.nil _,by omega,by simp[dv],by simpa using Vz,by simp,by simp⟩;clear t0 t1 t5 t6 t13 t14;rintro m ⟨k,tm,H5⟩ ⟨hk,t0,t5,t6,kb,ka,t166,t167,i,L1,back,Kk,bj,dL1,vX,MP,own,t21,t168⟩ Q' Y4;simp only at hk t0 t5 t6 kb ka t166 t167 t21 t168 own;subst hk;apply Zb;intro b3 Z9;simp[t167,t168];subst Z9;apply Zh;intro b3 Z9;by_cases hi:i<n
   ·refine Za (t:=true) (by simp[hi]) ?_;apply Zr;subst Z9;have zl:=qY kb;have a1:Yj Tryz.prog 30 vv (.int .i64 (i:Int))=some (adr vv i):=zl.adr Zv (by omega);have hx:vs[i]<Zc:=fW.get (List.getElem?_eq_getElem (by omega));have d1:Z4 Tryz.prog H5 101 (adr vv i)=some (.int .u64 (vs[i]:Nat)):=zl.load (by omega);have a2:Yj Tryz.prog 30 uv (.int .i64 (i:Int))=some (adr U0 (j+i)):=ER _ Zv .i64 i (by omega);have zk:QA.drop i=QA[i]::QA.drop (i+1):=List.drop_eq_getElem_cons (by omega);have huB:QA[i]<Zc:=dL'.get (List.getElem?_eq_getElem (by omega));have d2:Z4 Tryz.prog H5 101 (adr U0 (j+i))=some (.int .u64 (QA[i]:Nat)):=by have:=own.segload hj (i:=i) (by simp;omega);rw[this];congr 3;rw[List.getElem_append_right (by omega)];simp[bj]
    obtain⟨x,MK⟩:=hid (vs[i]);obtain⟨y,mF⟩:=hid (QA[i]);rw[<-MK]at hx d1;rw[<-mF]at huB d2 zk;obtain⟨y2,hy2⟩:=hid ((y+x+back)%Zc);obtain⟨c2,Jd⟩:=hid ((y+x+back)/Zc);have m4:ZY Tryz.prog Zy 203 [.int .u64 (y:Int),.int .u64 (x:Int),.int .u64 (back:Int)] H5=some (.tuple #[.int .u64 (y2:Int),.int .u64 (c2:Int)],H5):=by rw[hy2,Jd];exact Qa y x back H5 vX
    have hdm:Zc*c2+y2=y+x+back:=by rw[hy2,Jd];exact Nat.div_add_mod _ _
    have NR:c2<=1:=by
     have:c2<2:=by rw[Jd,Nat.div_lt_iff_lt_mul (by decide)];omega
     omega
    obtain⟨H6,sto,jn,kb6,V1⟩:=own.segstore hj (i:=i) (by simp;omega) y2;rw[zk,WG L1 y y2 _ bj]at jn;apply Zh;intro b3 Z9;apply ZS;apply Zb;intro b4 Yz;simp[t166,t168,a1,d1];subst Yz;apply Zk;simp[t0,t21,a2,d2,m4,sto];subst Z9;apply Zk;simp[t168,YR (x:=i) (by omega)];apply Y4;refine⟨m-1,by omega,rfl,by simp[t0],by simp[t5],by simp[t6],kb.trans kb6,ka.trans V1,by simp[t166],by simp[t167],i+1,L1++[y2],c2,by omega,by simp[bj],dL1.append (.cons (by rw[hy2];exact Nat.mod_lt _ (by decide)) (.nil _)),NR,?_,by simpa using jn,by simp,by simp⟩;rw[Yt,bj,Xo (xs:=vs) (by omega),Xo (xs:=QA) (by omega),Yt,Yt,List.length_take,List.length_take,Nat.min_eq_left (by omega),Nat.min_eq_left (by omega),<-MK,<-mF];simp only[dv,Nat.mul_zero,Nat.add_zero];have e1:Zc^i*(Zc*c2+y2)=Zc^i*(y+x+back):=by rw[hdm]
    rw[Nat.mul_add,<-Nat.mul_assoc (Zc^i) Zc,show Zc^i*Zc=Zc^(i+1)from rfl,Nat.mul_add,Nat.mul_add]at e1;omega
   ·refine Za (t:=false) (by simp[hi]) ?_;apply YP;apply Y4;left;obtain rfl:i=n:=by omega
    have e1:vs.take i=vs:=by rw[<-Jm,List.take_length]
    rw[e1,<-hV]at MP;exact⟨rfl,We _ ⟨rfl,by simp[t0],by simp[t5],by simp[t6],kb,ka,L1,back,bj,dL1,vX,MP,own,by simp[t21]⟩⟩
  clear t0 t1 t5 t6 t13 t14;rintro⟨k,tm,H5⟩ ⟨hk,t0,t5,t6,kb,ka,L2,back,O0,dL2,vX,MP,own,t21⟩;simp only at hk t0 t5 t6 kb ka own t21;subst hk;have yr:QA.drop n=[y']:=by rw[tk,<-hL];simp
  rw[yr]at own;have d3:Z4 Tryz.prog H5 101 (adr U0 (j+n))=some (.int .u64 (y':Int)):=by have:=own.segload hj (i:=n) (by simp;omega);rw[this,NT L2 y' [] O0]
  obtain⟨z,hz⟩:=hid ((y'+back)%Zc);obtain⟨t,ht⟩:=hid ((y'+back)/Zc);have hzt:Zc*t+z=y'+back:=by rw[hz,ht];exact Nat.div_add_mod _ _
  have CE:z<Zc:=by rw[hz];exact Nat.mod_lt _ (by decide)
  have ma:Zd .add .u64 (y':Int) (back:Int)=some (.int .u64 (z:Int)):=by rw[Tq,hz]
  obtain⟨H6,sto6,jn,kb6,V1⟩:=own.segstore hj (i:=n) (by simp;omega) z;rw[WG L2 y' z [] O0]at jn;have dz:YG Zc (L2++[z]):=dL2.append (.cons CE (.nil _));have fin:dv Zc (L2++[z])=U%V:=by
   have CN:dv Zc (L2++[z])<Zc^(n+1):=by have:=X3 dz;simpa[O0]using this
   have hus2:dv Zc QA=dv Zc (QA.take n)+Zc^n*y':=by have:=congrArg (dv Zc) seg1;rw[yr,Yt,List.length_take,Nat.min_eq_left (by omega)]at this;rw[<-this];simp[dv]
   have e0:dv Zc (L2++[z])=dv Zc L2+Zc^n*z:=by rw[Yt,O0];simp[dv]
   have e1:Zc^n*(Zc*t+z)=Zc^n*(y'+back):=by rw[hzt]
   rw[Nat.mul_add,<-Nat.mul_assoc (Zc^n) Zc,show Zc^n*Zc=Zc^(n+1)from rfl,Nat.mul_add]at e1;have ht1:t<=1:=by
    have:t<2:=by rw[ht,Nat.div_lt_iff_lt_mul (by decide)];omega
    omega
   have hm:U%V<Zc^(n+1):=Nat.lt_of_le_of_lt (Nat.mod_le _ _) yc;have EX:U%V<V:=Nat.mod_lt _ Vpos;rcases Nat.lt_or_ge t 1 with h0|h0
   ·exfalso;obtain rfl:t=0:=by omega
    rw[Nat.mul_zero]at e1;omega
   ·obtain rfl:t=1:=by omega
    rw[Nat.mul_one]at e1;omega
  apply Zk;simp[t0,t5,t21,an,d3,ma,sto6];subst MS;apply Zh;intro b1 MS;apply Zk;simp[t6];subst MS;apply Zu;simp;exact⟨kb.trans kb6,ka.trans V1,L2++[z],by simp[O0],dz,fin,by simpa using jn⟩
theorem Zg.top{H0 H:AH}(k:Zg H0 H):Zg H0 H.top:=⟨k.n,by have:=k.n;show min H0.lw H0.n<=H.n;omega,k.blk⟩
theorem NK(H:AH):Zg H H.top:=(Zg.refl H).top
theorem Sl.top{H:AH}{v:Value}{xs:List Nat}(h:Sl H v xs):Sl H.top v xs:=h.keep (NK H)
theorem Ym.top{n:Nat}{H:AH}{v:Value}{xs:List Nat}(h:Ym n H v xs):Ym n H.top v xs:=h.mono (Nat.le_refl _) (NK H)
theorem ZG{H:AH}{bits:Nat}{ms:List (Nat×Nat×Nat)}(h:hidden bits ms=[]):RP H bits ms=H.top:=by unfold RP;rw[h];rfl
theorem Q6(t:Tr Ou)(H2:AH)(n:Nat): ∀(k j:Nat),(Nr t H2 n k).get j=if n<=j/\j<n+k then some (H2.blk j)else t.get j
 |0,j=>by rw[if_neg (by omega)];rfl
 |k+1,j=>by
  simp only[Nr,Tr.get_set];by_cases e:j=n+k;·subst e;rw[if_pos rfl,if_pos (by omega)]
  ·rw[if_neg e,Q6 t H2 n k j];by_cases c:n<=j/\j<n+k;·rw[if_pos c,if_pos (by omega)]
   ·rw[if_neg c,if_neg (by omega)]
theorem Yo{H H2:AH}(k:Zg H.top H2):T0 none H2 (grown H H2):=by
 refine⟨rfl,fun j hj _=>?_⟩;unfold AH.blk grown;simp only[Q6];by_cases c:H.n<=j;·have:=k.n;have:H.n<=H2.n:=this;rw[if_pos (by omega)];rfl
 ·rw[if_neg (by omega)];exact(k.blk j (by show j<H.n;omega)).symm
theorem Yi{H0 H H2:AH}(k0:Zg H0 H)(k:Zg H.top H2):Zg H0 (grown H H2):=by
 refine⟨Nat.le_trans k0.n k.n,k0.lw,fun j hj=>?_⟩;have hn:=k0.n;have:j<H.n:=by omega
 unfold grown AH.blk;simp only[Q6];rw[if_neg (by omega)];exact k0.blk j hj
theorem YO{H H2:AH}(k:Zg H.top H2):H.n<=H2.lw:=by have:=k.lw;have:min H.n H.n<=H2.lw:=this;omega
theorem Kn(H H2:AH):T0 none H2 (low H H2):=⟨rfl,fun j _ _=>rfl⟩
theorem iD{n0:Nat}{H H2:AH}(h:KA n0 H.top H2):KA n0 H (low H H2):=fun H0 k hn=>by have k2:=h H0 k.top hn;refine⟨k2.n,?_,k2.blk⟩;have:=k.lw;have:=k2.lw;show min H0.lw H0.n<=min H.lw H2.lw;omega
theorem T0.none{b:Option Nat}{H H' H2:AH}(k:T0 b H H')(k2:T0 none H' H2):T0 b H H2:=⟨k2.n.trans k.n,fun j hn hj=>(k2.blk j (by rw[k.n];exact hn) (fun e=>by cases e)).trans (k.blk j hn hj)⟩
theorem Sl.same{H H':AH}{v:Value}{xs:List Nat}(h:Sl H v xs)(k:T0 none H H'):Sl H' v xs:=h.but k fun c e=>by cases e
theorem Ym.same{n:Nat}{H H':AH}{v:Value}{xs:List Nat}(h:Ym n H v xs)(k:T0 none H H'):Ym n H' v xs:=h.but k fun c e=>by cases e
theorem Ym.gr{H I J:AH}{v:Value}{xs:List Nat}(x:Ym H.top.n I v xs)(k:Zg H.top I)(hJ:J=grown H I):Ym H.n J v xs:=by subst hJ;exact x.same (Yo k)
theorem cg{H I:AH}(k:Zg H.top I): ∃J,J=grown H I/\Zg H J/\H.n<=I.n:=⟨_,rfl,Yi (.refl _) k,k.n⟩
theorem T0.top{b:Option Nat}{H H':AH}(k:T0 b H.top H'):T0 b H H':=⟨k.n,k.blk⟩
theorem Ym.store_lw{n:Nat}{H H':AH}{v:Value}{xs:List Nat}(h:Ym n H v xs){i:Nat}(hi:i<xs.length){y:Nat}(st:YZ Tryz.prog H.top 101 (adr v i) (.int .u64 (y:Int))=some H'):H'.lw<H.n:=by cases h with
 |nil=>cases hi
 |mk b o cap xs cs h1 h2 h3 h4 h5 h6=>unfold YZ adr at st;simp only[Mg]at st;have h4':H.top.blk b= .rw 1 cs:=h4;rw[show Nat.beq (Value.int .u64 (y:Int)).cells.size 1=true from rfl,cond_true,AH.write_def,h4']at st;simp only at st;cases hc:(Nat.ble (o+i+(Value.int .u64 (y:Int)).cells.toList.length) cs.length&&(Value.int .u64 (y:Int)).cells.toList.all one)with|false=>rw[hc]at st;cases st|true=>rw[hc,cond_true]at st;cases st;show min H.n b<H.n;omega
theorem Ym.putTop{n:Nat}{H:AH}{v:Value}{xs:List Nat}(h:Ym n H v xs){i:Nat}(hi:i<xs.length)(y:Nat): ∃H2,YZ Tryz.prog H.top 101 (adr v i) (.int .u64 (y:Int))=some H2/\H2.n=H.n/\H2.lw<H.n/\Ym n (low H H2) v (xs.set i y)/\T0 (YJ v) H (low H H2)/\KA n H (low H H2):=by obtain⟨H2,h1,h2,h3,h4,h5⟩:=h.top.put hi y;exact⟨H2,h1,h3,h.store_lw hi h1,h2.same (Kn H H2),(T0.none (b:=YJ v) (H:=H) (H':=H2) ⟨h3,fun j _ hj=>h4 j hj⟩ (Kn H H2)),iD h5⟩
theorem Hm(t:Tr Ou): ∀(hs:List Nat)(j:Nat),j∉hs->(U6 t hs).get j=t.get j|[],j,_=>rfl|i::r,j,h=>by simp only[U6,Tr.get_set];rw[if_neg (by intro e;subst e;exact h (List.mem_cons_self ..))];exact Hm t r j (fun h'=>h (List.mem_cons_of_mem _ h'))
theorem Hl{n bits:Nat} : ∀{ms:List (Nat×Nat×Nat)},(∀x∈ms,n<=x.2.1)-> ∀i∈hidden bits ms,n<=i
 |[],_,i,h=>by cases h
 |(k,lo,hi)::r,hm,i,h=>by have ih:=Hl (bits:=bits) (ms:=r) (fun x hx=>hm x (List.mem_cons_of_mem _ hx)) i;have h0:n<=lo:=hm (k,lo,hi) (List.mem_cons_self ..);unfold hidden at h;cases hb:bits.testBit k with
  |true=>rw[hb,cond_true]at h;exact ih h
  |false=>
   rw[hb,cond_false]at h;rcases List.mem_append.mp h with h|h;·obtain⟨a,_,rfl⟩:=List.mem_map.mp h;omega
   ·exact ih h
theorem Y1{H0 H:AH}{bits:Nat}{ms:List (Nat×Nat×Nat)}(k:Zg H0 H)(h: ∀x∈ms,H0.n<=x.2.1):Zg H0 (RP H bits ms):=by have k2:=k.top;refine⟨k2.n,k2.lw,fun j hj=>?_⟩;rw[<-k.blk j hj];unfold RP AH.blk;simp only;rw[Hm];intro hm;have:=Hl h j hm;omega
theorem l9{n:Nat}(h:n<=64):TY Tryz.prog 3 228 (.int .i64 (64-(n:Int)))=some (.int .u64 ((64-n:Nat):Int)):=by have:=Ox (n:=64-n) (by show _<18446744073709551616;omega);rw[<-this];congr 2;omega
theorem eJ{x:Nat}(hx:x<Zc):Zm x<=64:=by
 rcases Nat.lt_or_ge 64 (Zm x)with h|h
 ·have h0:x≠0:=by rintro rfl;simp[Zm]at h
  have a:=W1 h0;have b:2^64<=2^(Zm x-1):=Nat.pow_le_pow_right (by decide) (by omega);have hx:x<18446744073709551616:=hx;omega
 ·exact h
theorem UG(xs:List Nat)(j:Nat)(h:j<=xs.length):dv Zc xs=dv Zc (xs.take j)+Zc^j*dv Zc (xs.drop j):=by have:=congrArg (dv Zc) (List.take_append_drop j xs);rw[Yt,List.length_take,Nat.min_eq_left h]at this;exact this.symm
theorem Jz{xs:List Nat}(dx:YG Zc xs)(tx:YS xs=xs)(h:0<xs.length):0<xs[xs.length-1]:=by
 rcases Nat.eq_zero_or_pos (xs[xs.length-1])with h0|h0
 ·exfalso;have hs:=QY (n:=xs.length-1) (xs:=xs) (by omega);have e:xs=xs.take (xs.length-1)++[0]:=by rw[h0]at hs;exact hs
  have:=congrArg YS e;rw[VE,tx]at this;have:=congrArg List.length this;have:=XG (xs.take (xs.length-1));rw[List.length_take]at this;omega
 ·exact h0
theorem Hz{xs:List Nat}(dx:YG Zc xs)(tx:YS xs=xs)(h:0<xs.length):Zc^(xs.length-1)<=dv Zc xs:=by rw[UG xs (xs.length-1) (by omega),List.drop_eq_getElem_cons (by omega),List.drop_eq_nil_of_le (by omega)];have:=Jz dx tx h;simp only[dv,Nat.mul_zero,Nat.add_zero];have:Zc^(xs.length-1)*1<=Zc^(xs.length-1)*xs[xs.length-1]:=Nat.mul_le_mul_left _ (by omega);omega
theorem cZ{xs:List Nat}(dx:YG Zc xs)(tx:YS xs=xs):xs=ds Zc (dv Zc xs):=by rw[<-Xl Z7 dx,tx]
theorem cF{ys:List Nat}(dy:YG Zc ys)(ty:YS ys=ys){n:Nat}(hn:ys.length=n)(h2:0<n){s:Nat}(hs:s=64-Zm (ys[n-1]'(by omega))):s<64/\dv Zc ys*2^s<Zc^n:=by
 subst hn;have h0:=Jz dy ty (by omega);have hB:=dy.get (List.getElem?_eq_getElem (show ys.length-1<ys.length by omega));have mY:=eJ hB;have hbl0:0<Zm (ys[ys.length-1]):=by unfold Zm;rw[if_neg (by omega)];omega
 refine⟨by omega,?_⟩;have YW:=Wq (ys[ys.length-1]);have e:=UG ys (ys.length-1) (by omega);rw[List.drop_eq_getElem_cons (by omega),List.drop_eq_nil_of_le (by omega)]at e;simp only[dv,Nat.mul_zero,Nat.add_zero]at e;have hl:=X3 (dy.take (ys.length-1));rw[List.length_take,Nat.min_eq_left (by omega)]at hl;generalize ys[ys.length-1]=y at*;have h1:dv Zc ys<Zc^(ys.length-1)*2^Zm y:=by have:Zc^(ys.length-1)*(y+1)<=Zc^(ys.length-1)*2^Zm y:=Nat.mul_le_mul_left _ YW;rw[Nat.mul_succ]at this;omega
 have h3:dv Zc ys*2^s<Zc^(ys.length-1)*2^Zm y*2^s:=Nat.mul_lt_mul_of_pos_right h1 (Nat.two_pow_pos s);have h4:Zc^(ys.length-1)*2^Zm y*2^s=Zc^ys.length:=by rw[Nat.mul_assoc,<-Nat.pow_add,hs,show Zm y+(64-Zm y)=64 by omega];obtain⟨m,hm⟩: ∃m,ys.length=m+1:=⟨ys.length-1,by omega⟩;rw[hm,Nat.add_sub_cancel,show(2:Nat)^64=Zc by decide];rfl
 rwa[h4]at h3
def Nn(n0:Nat)(H:AH)(A B:Nat)(v:Value)(H':AH):Prop:=Zg H H'/\ ∃q r,v= .tuple #[q,r]/\Ym H.n H' q (ds Zc (A/B))/\Ym n0 H' r (ds Zc (A%B))/\Vq q r
theorem Uv{n m:Nat}{H H':AH}{v w:Value}{xs ys:List Nat}(a:Ym n H v xs)(b:Ym m H' w ys)(h:H.n<=m):Vq v w:=fun c hc Mn=>by have:=(a.blk_lo hc).2;have:=(b.blk_lo Mn).1;omega
theorem Ke{a b:Nat} :(XL a b<0)↔a<b:=by
 unfold XL;split;·simp;assumption
 ·split<;>simp<;>omega
theorem nY{a:Int} :Zd .lss .i64 a 0=some (.bool (decide (a<0))):=rfl
def uU:Code->Code| .seq _ b=>b|c=>c
def KM:Code:=uU (uU (uU (Tryz.f193.body.getD .skip)))
theorem Cr{n0:Nat}{H:AH}{va vb:Value}{xs ys:List Nat}(ha:Ym n0 H va xs)(hb:Sl H vb ys)(Sw:n0<=H.n)(dx:YG Zc xs)(dy:YG Zc ys)(tx:YS xs=xs)(ty:YS ys=ys)(lx:xs.length<=17592186040000)(ly:ys.length<=17592186040000)(hy:0<ys.length)(rest: ∀tm:Tr Value,tm.get 0=some va->tm.get 1=some vb->2<=ys.length->dv Zc ys<=dv Zc xs->W Tryz.prog Zy KM ⟨104,tm,H⟩ fun ex s=>(ex= .norm\/ex= .ret)/\ ∃vs,Zw Tryz.prog s Tryz.f193.results.toList=some vs/\Nn n0 H (dv Zc xs) (dv Zc ys) (Z5 vs) s.H):CW Tryz.prog Zy 193 [va,vb] H (Nn n0 H (dv Zc xs) (dv Zc ys)):=by
 refine Z8 104 Tryz.func193 ?_;obtain⟨v1,H1,NR,e1,e2⟩:=UH ha.sl hb dx dy (by omega) (by omega);subst e1;subst e2;have Bpos:0<dv Zc ys:=Nat.lt_of_lt_of_le (Nat.pow_pos (by decide)) (Hz dy ty hy);have iT:=hb.len Zv;have iU:=ha.sl.len Zv;apply Zb;intro b1 Ze;simp;subst Ze;apply Zh;intro b1 Ze;apply Zb;intro b2 Zx;simp[NR,nY,Ke];subst Zx;by_cases YW:dv Zc xs<dv Zc ys
 ·refine Za (t:=true) (by simp[YW]) ?_;apply Zb;intro b2 Zx;simp;subst Zx;apply Zu;simp[Yx];refine⟨.refl H1,_,_,rfl,?_,?_,fun c hc=>by cases hc⟩;·rw[Nat.div_eq_of_lt YW,XY];exact .nil
  ·rw[Nat.mod_eq_of_lt YW,<-cZ dx tx];exact ha
 ·refine Za (t:=false) (by simp[YW]) ?_;apply Zr;subst Ze;apply Zh;intro b1 Ze;apply Zb;intro b2 Zx;simp[iT];subst Zx;by_cases h1:ys.length=1
  ·refine Za (t:=true) (by simp[h1]) ?_;obtain⟨y,rfl⟩: ∃y,ys=[y]:=by match ys,h1 with|[y],_=>exact⟨y,rfl⟩
   have CF:y<Zc:=dy.head;have eB:dv Zc [y]=y:=by simp[dv]
   rw[eB]at Bpos YW⊢;obtain⟨q0,H2,RC,k2,o2,n2⟩:=YL (H:=H1) Zv (n:=xs.length) (by omega);have Kl:0<xs.length:=by
    rcases Nat.eq_zero_or_pos xs.length with h|h;·exfalso;have:xs=[]:=List.length_eq_zero_iff.mp h;subst this;exact YW Bpos
    ·exact h
   have w1:Zd .sub .i64 (xs.length:Int) 1=some (.int .i64 ((xs.length:Int)-1)):=by rw[Uf (by omega) Kl];congr 2;omega
   apply Zb;intro b2 Zx;simp[iU,RC];subst Zx;refine Y8 (fun s'=>s'.k=104/\Zg H1 s'.H/\ ∃(L:List Nat) (r:Nat),L.length=xs.length/\YG Zc L/\r<y/\dv Zc xs=y*dv Zc L+r/\Ym H1.n s'.H q0 L/\s'.tm.get 6=some q0/\s'.tm.get 7=some (.int .u64 (r:Int))) ?_ ?_
   ·intro Gd We;apply Zb;intro b2 Zx;simp[iU,w1];subst Zx;apply ZS;refine YQ (fun m s'=>s'.k=104/\Zg H1 s'.H/\m<=xs.length/\ ∃(L:List Nat) (r:Nat),L.length+m=xs.length/\YG Zc L/\r<y/\dv Zc (xs.drop m)=y*dv Zc L+r/\Ym H1.n s'.H q0 (List.replicate m 0++L)/\s'.tm.get 0=some va/\s'.tm.get 1=some vb/\s'.tm.get 6=some q0/\s'.tm.get 7=some (.int .u64 (r:Int))/\s'.tm.get 8=some (.int .i64 ((m:Int)-1))) ?_ xs.length _ ⟨rfl,k2,Nat.le_refl _,[],0,by simp,.nil _,Bpos,by simp[dv],by simpa using o2,by simp,by simp,by simp,by simp,by simp⟩;rintro m ⟨k,tm,H3⟩ ⟨hk,k3,hm,L,r,hL,dL,hr,heq,own,t0,t1,t6,t7,t8⟩ Q' Y4;simp only at hk k3 own t0 t1 t6 t7 t8;subst hk;apply Zh;intro b3 Z9;apply Zb;intro b4 Yz;have Sa:Zd .geq .i64 ((m:Int)-1) 0=some (.bool (decide (0<m))):=by show some (Value.bool (decide ((m:Int)-1≥0)))=_;congr 2;apply decide_eq_decide.mpr;omega
    simp[t8,Sa];subst Yz;by_cases Ho:m=0;·subst Ho;refine Za (t:=false) (by simp) ?_;apply YP;apply Y4;left;exact⟨rfl,We _ ⟨rfl,k3,L,r,by omega,dL,hr,by simpa using heq,by simpa using own,by simp[t6],by simp[t7]⟩⟩
    ·refine Za (t:=true) (by simp;omega) ?_;apply Zr;subst Z9;have em:(m:Int)-1=((m-1:Nat):Int):=by omega
     rw[em]at t8;have hi:m-1<xs.length:=by omega
     have sa:=(ha.sl.keep k3);have sb:=(hb.keep k3);have a1:=sa.adr Zv (k:= .i64) hi;have d1:=sa.top.load hi;have a2:Yj Tryz.prog 30 vb (.int .i64 0)=some (adr vb 0):=sb.adr Zv (k:= .i64) (i:=0) (by simp);have d2:Z4 Tryz.prog H3.top 101 (adr vb 0)=some (.int .u64 (y:Int)):=sb.top.load (i:=0) (by simp);have Fu:xs[m-1]<Zc:=dx.get (List.getElem?_eq_getElem hi);obtain⟨x,MK⟩:=hid (xs[m-1]);rw[<-MK]at d1 Fu;have dc:=OE hr Fu CF H3.top;obtain⟨q,hq⟩:=hid ((r*Zc+x)/y);obtain⟨r',sF⟩: ∃r',r'=(r*Zc+x)%y:=⟨_,rfl⟩;rw[<-hq,<-sF]at dc;have a3:=own.sl.adr Zv (k:= .i64) (i:=m-1) (by simp;omega);obtain⟨H4,Wx,n4,lw4,Vz,ru,zS⟩:=own.putTop (i:=m-1) (by simp;omega) q;have Az:xs.drop (m-1)=x::xs.drop m:=by rw[List.drop_eq_getElem_cons hi,show m-1+1=m by omega,<-MK]
     apply Zh;intro b3 Z9;apply ZS;apply wU (by kernel_rfl);simp[t0,t1,t6,t7,t8,a1,a2,d1,d2,dc,a3,Wx,n4,lw4,ZZ];subst Z9;have w2:Zd .sub .i64 ((m-1:Nat):Int) 1=some (.int .i64 (((m-1:Nat):Int)-1)):=by show some (Value.int .i64 (IntKind.i64.wrap (((m-1:Nat):Int)-1)))=_;congr 2;rw[IntKind.wrap_i64];omega
     apply Zk;simp[t8,w2];apply Y4;refine⟨m-1,by omega,rfl,zS H1 k3 (Nat.le_refl _),by show m-1<=_;omega,q::L,r',by simp;omega,.cons ?_ dL,?_,?_,?_,by simp[t0],by simp[t1],by simp[t6],by simp,by simp⟩;·rw[hq,Nat.div_lt_iff_lt_mul Bpos];have:(r+1)*Zc<=y*Zc:=Nat.mul_le_mul_right _ hr;rw[Nat.succ_mul]at this;rw[Nat.mul_comm Zc y];omega
     ·rw[sF];exact Nat.mod_lt _ Bpos
     ·rw[Az];simp only[dv];rw[heq];have e:=Nat.div_add_mod (r*Zc+x) y;rw[<-hq,<-sF]at e;rw[Nat.mul_add,Nat.mul_add,<-Nat.mul_assoc,Nat.mul_comm Zc y,Nat.mul_assoc];rw[Nat.mul_comm r Zc]at e;omega
     ·have gC:List.replicate m 0++L=List.replicate (m-1) 0++0::L:=by obtain⟨m',rfl⟩: ∃m',m=m'+1:=⟨m-1,by omega⟩;rw[List.replicate_succ'];simp
      rw[gC,WG _ _ _ _ (by simp)]at Vz;exact Vz
   rintro⟨k,tm,H3⟩ ⟨hk,k3,L,r,hL,dL,hr,heq,own,t6,t7⟩;simp only at hk k3 own t6 t7;subst hk;obtain⟨v4,H4,vW,k4,o4⟩:=Vu own.sl (by omega);obtain⟨v5,H5,MR,k5,o5⟩:=Th (x:=r) (H:=H4) (by omega);apply Zb;intro b hb;simp[t6,t7,vW,MR];subst hb;apply Zu;simp[Yx];have hdiv:dv Zc xs/y=dv Zc L:=by rw[heq,Nat.mul_add_div Bpos,Nat.div_eq_of_lt hr,Nat.add_zero]
   have EX:dv Zc xs%y=r:=by rw[heq,Nat.mul_add_mod,Nat.mod_eq_of_lt hr]
   rw[Xl Z7 dL]at o4;refine⟨(k3.trans k4).trans k5,v4,v5,rfl,?_,?_,Uv o4 o5 (Nat.le_refl _)⟩;·rw[hdiv];exact o4.mono k3.n k5
   ·rw[EX];exact o5.mono (Nat.le_trans Sw (k3.trans k4).n) (.refl H5)
  ·refine Za (t:=false) (by simp;omega) ?_;apply Zr;subst Ze;exact rest _ (by simp) (by simp) (by omega) (Nat.le_of_not_lt YW)
theorem Ym.n_lt{n:Nat}{H:AH}{v:Value}{xs:List Nat}(h:Ym n H v xs)(h0:0<xs.length):n<H.n:=by cases h with|nil=>cases h0|mk b o cap xs cs h1 h2 h3 h4 h5 h6=>omega
theorem fa{a b:Nat}(h:a<b):Nat.blt a b=true:=by rw[Nat.blt_eq];exact h
theorem Yr{bits:Nat} : ∀{ms:List (Nat×Nat×Nat)},(∀x∈ms,bits.testBit x.1=true)->hidden bits ms=[]|[],_=>rfl|(k,lo,hi)::r,h=>by have h1:bits.testBit k=true:=h (k,lo,hi) (List.mem_cons_self ..);unfold hidden;rw[h1,cond_true];exact Yr fun x hx=>h x (List.mem_cons_of_mem _ hx)
def cutTo(v:Value)(m:Nat):Value:=match v with| .slice a _ c=> .slice a m c|v=>v
theorem Sl.cutTo{H:AH}{v:Value}{xs:List Nat}(h:Sl H v xs){t:TypeId}(ht:LT t){m:Nat}(hm:m<=xs.length)(h0:0<xs.length):Vo Tryz.prog H t v none (some (.int .i64 (m:Int))) none=some (cutTo v m)/\Sl H (Go.Proofs.YtmkfecoeghokfaaGreatDoor.cutTo v m) (xs.take m):=by cases h with
 |nil=>cases h0
 |emp b=>cases h0
 |mk b o cap xs h1 h2=>
  have hl:(xs.take m).length=m:=by rw[List.length_take];omega
  obtain⟨mn,cs,h3,h4,h5⟩:=h2;have hs:Sl H (.slice (some ⟨b,o,none⟩) (xs.take m).length cap) (xs.take m):= .mk b o cap _ (by omega) ⟨mn,cs,h3,h4,fun i x hx=>h5.1 i x (by
   rw[List.getElem?_take]at hx;split at hx;·exact hx
   ·cases hx),h5.2⟩;rw[hl]at hs;refine⟨?_,hs⟩;unfold Vo;simp only[ht.1,Mg];unfold Mz Xu;simp only[h4,Option.isSome_some,Option.isNone_none,Bool.true_or];rw[if_pos (by omega)];have e1:Nat.ble m cap=true:=Nat.ble_eq.mpr (by omega);simp[Xu,e1,Go.Proofs.YtmkfecoeghokfaaGreatDoor.cutTo]
theorem C5{X vs:List Nat}{j n:Nat}(dX:YG Zc X)(hj:j+n+1<=X.length)(fW:YG Zc vs)(Jm:vs.length=n)(YW:dv Zc (X.drop (j+1))<dv Zc vs):dv Zc ((X.drop j).take (n+1))=dv Zc (X.drop j)/\dv Zc ((X.drop j).take (n+1))<dv Zc vs*Zc/\dv Zc (X.drop (j+n+1))=0:=by
 have hV:=X3 fW;rw[Jm]at hV;have e1:dv Zc (X.drop (j+1))=dv Zc ((X.drop (j+1)).take n)+Zc^n*dv Zc ((X.drop (j+1)).drop n):=UG _ n (by rw[List.length_drop];omega);have z:dv Zc ((X.drop (j+1)).drop n)=0:=by
  rcases Nat.eq_zero_or_pos (dv Zc ((X.drop (j+1)).drop n))with h|h;·exact h
  ·exfalso;have:Zc^n*1<=Zc^n*dv Zc ((X.drop (j+1)).drop n):=Nat.mul_le_mul_left _ h;omega
 rw[List.drop_drop]at z;have z':dv Zc (X.drop (j+n+1))=0:=by rw[show j+n+1=j+1+n by omega];exact z
 have e2:=UG (X.drop j) (n+1) (by rw[List.length_drop];omega);rw[List.drop_drop,show j+(n+1)=j+n+1 by omega,z',Nat.mul_zero,Nat.add_zero]at e2;refine⟨e2.symm,?_,z'⟩;rw[<-e2,List.drop_eq_getElem_cons (by omega)];have hx:X[j]<Zc:=dX.get (List.getElem?_eq_getElem (by omega));have:(dv Zc (X.drop (j+1))+1)*Zc<=dv Zc vs*Zc:=Nat.mul_le_mul_right _ YW;rw[Nat.succ_mul]at this;simp only[dv];rw[Nat.mul_comm Zc];omega
theorem FB{n0:Nat}{H:AH}{va vb:Value}{xs ys:List Nat}(ha:Ym n0 H va xs)(hb:Sl H vb ys)(Sw:n0<=H.n)(dx:YG Zc xs)(dy:YG Zc ys)(tx:YS xs=xs)(ty:YS ys=ys)(lx:xs.length<=17592186040000)(ly:ys.length<=17592186040000)(tm:Tr Value)(t0:tm.get 0=some va)(t1:tm.get 1=some vb)(h2:2<=ys.length)(Sa:dv Zc ys<=dv Zc xs):W Tryz.prog Zy KM ⟨104,tm,H⟩ fun ex s=>(ex= .norm\/ex= .ret)/\ ∃vs,Zw Tryz.prog s Tryz.f193.results.toList=some vs/\Nn n0 H (dv Zc xs) (dv Zc ys) (Z5 vs) s.H:=by
 obtain⟨n,hn⟩:=hid (ys.length);have hn2:2<=n:=by omega
 have hxn:n<=xs.length:=by
  rcases Nat.lt_or_ge xs.length n with h|h;·have:=MZ tx ty dx dy (by omega);omega
  ·exact h
 have iT:=hb.len Zv;have iU:=ha.sl.len Zv;rw[<-hn]at iT;have s1:Zd .sub .i64 (n:Int) 1=some (.int .i64 ((n-1:Nat):Int)):=Uf (by omega) (by omega);have a1:=hb.adr Zv (k:= .i64) (i:=n-1) (by omega);have d1:=hb.load (i:=n-1) (by omega);obtain⟨y,hy⟩:=hid (ys[n-1]'(by omega));rw[<-hy]at d1;have CF:y<Zc:=by rw[hy];exact dy.get (List.getElem?_eq_getElem (by omega))
 obtain⟨s,hs⟩:=hid (64-Zm y);have Re:=cF dy ty hn.symm (by omega) (s:=s) (by rw[hs,hy]);obtain⟨fB,hVlt⟩:=Re;have hlz:ZY Tryz.prog Zy 216 [.int .u64 (y:Int)] H=some (.int .i64 (64-(Zm y:Int)),H):=by obtain⟨v,H',h,rfl,rfl⟩:=AB CF (H:=H);exact h
 have hcv:=l9 (eJ CF);rw[<-hs]at hcv;have bu:=Hz dy ty (by omega);rw[<-hn]at bu;show W _ _ (.seq (.region 10 _ _) _) _ _;apply Zb;intro b Ze;simp[t1,iT,s1,a1,d1,hlz,hcv];subst Ze;obtain⟨u0,H2,hu,ku,wg,ou,du,lu,vu⟩:=au (H:=H.top) ha.sl.top dx (by omega) fB;have ou1:Ym H.n (grown H H2) u0 wg:=ou.same (Yo ku);have k1:Zg H (grown H H2):=Yi (.refl H) ku;have n1:H.n<H2.n:=ou.n_lt (by omega);obtain⟨G1,UO⟩:=hid (grown H H2);have dH:G1.n=H2.n:=by rw[UO];rfl
 rw[<-UO]at ou1 k1;obtain⟨w0,H3,hw,kw,dk,ow,dw,lw,vw⟩:=au (H:=G1.top) (hb.keep k1).top dy (by omega) fB;have ow1:Ym G1.n (grown G1 H3) w0 dk:=ow.same (Yo kw);have k2:Zg G1 (grown G1 H3):=Yi (.refl G1) kw;have n2:G1.n<H3.n:=ow.n_lt (by omega);obtain⟨G2,LK⟩:=hid (grown G1 H3);have nG2:G2.n=H3.n:=by rw[LK];rfl
 rw[<-LK]at ow1 k2;obtain⟨wv,zd,ow2⟩:=ow1.top.cut Zv (m:=n) (by omega) (by omega);have ow3:Ym G1.n G2 wv (dk.take n):=ow2.same ⟨rfl,fun _ _ _=>rfl⟩;apply Zh;intro b Ze;apply YI (by kernel_rfl);simp[t0,t1];refine YU (v:=u0) (H2:=H2) rfl rfl rfl (by rw[ZG rfl];simp[t0,hu]) (by omega) (YO ku) ?_;simp[t1,fa n1,<-UO];refine YU (v:=w0) (H2:=H3) rfl rfl rfl (by rw[ZG (by kernel_rfl)];simp[t1,hw]) (by omega) (YO kw) ?_;simp[t1,fa n2,<-LK,iT];refine Z0 (v:=wv) rfl rfl rfl (by rw[ZG (by kernel_rfl)];simp[zd]) ?_;simp;subst Ze;obtain⟨vs,Jm⟩:=hid (dk.take n);rw[<-Jm]at ow3;have ke:vs.length=n:=by rw[Jm,List.length_take];omega
 have fW:YG Zc vs:=by rw[Jm];exact dw.take n
 have xo:dv Zc vs=dv Zc ys*2^s:=by
  have e:=UG dk n (by omega);rw[vw,<-Jm]at e;have:dv Zc (dk.drop n)=0:=by
   rcases Nat.eq_zero_or_pos (dv Zc (dk.drop n))with h|h;·exact h
   ·exfalso;have:Zc^n*1<=Zc^n*dv Zc (dk.drop n):=Nat.mul_le_mul_left _ h;omega
  rw[this]at e;omega
 have Bpos:0<dv Zc ys:=Nat.lt_of_lt_of_le (Nat.pow_pos (by decide)) bu;have oR:=Nat.two_pow_pos s;have Vge:Zc^(n-1)<=dv Zc vs:=by rw[xo];exact Nat.le_trans bu (Nat.le_mul_of_pos_right _ oR)
 have Vpos:0<dv Zc vs:=Nat.lt_of_lt_of_le (Nat.pow_pos (by decide)) Vge;have Vlt:dv Zc vs<Zc^n:=by rw[xo];exact hVlt
 have vtop:0<vs[n-1]'(by omega):=by
  rcases Nat.eq_zero_or_pos (vs[n-1]'(by omega))with h|h;·exfalso;have e:=UG vs (n-1) (by omega);rw[List.drop_eq_getElem_cons (by omega),List.drop_eq_nil_of_le (by omega),h]at e;have hl:=X3 (fW.take (n-1));rw[List.length_take,Nat.min_eq_left (by omega)]at hl;simp[dv]at e;omega
  ·exact h
 have LB:=k1.trans k2;have ou2:Ym H.n G2 u0 wg:=ou1.m k2;have wJ:Vq u0 wv:=Uv ou1 ow3 (Nat.le_refl _);have EL:=ow3.sl.len Zv;rw[ke]at EL;obtain⟨M,hM⟩:=hid (xs.length-n+1);have s2:Zd .sub .i64 (xs.length:Int) (n:Int)=some (.int .i64 ((xs.length-n:Nat):Int)):=Oe (by omega) hxn;have s3:Zd .add .i64 ((xs.length-n:Nat):Int) 1=some (.int .i64 (M:Int)):=by rw[hM];exact YR (by omega)
 have s4:((xs.length-n:Nat):Int)=(M:Int)-1:=by omega
 obtain⟨q0,H4,RC,kq,oq,nq⟩:=YL (H:=G2) Zv (n:=M) (by omega);have wK:Vq u0 q0:=Uv ou2 oq (Nat.le_refl _);apply Zb;intro b Ze;simp[EL];subst Ze;apply Zb;intro b Ze;simp[t0,iU,s2,s3,RC];subst Ze;refine Y8 (fun s'=>s'.k=104/\Zg H s'.H/\ ∃(X L:List Nat),X.length=xs.length+1/\YG Zc X/\L.length=M/\YG Zc L/\dv Zc X+dv Zc vs*dv Zc L=dv Zc xs*2^s/\dv Zc X<dv Zc vs/\Ym H.n s'.H u0 X/\Ym G2.n s'.H q0 L/\s'.tm.get 9=some (.int .u64 (s:Int))/\s'.tm.get 10=some u0/\s'.tm.get 12=some (.int .i64 (n:Int))/\s'.tm.get 13=some q0) ?_ ?_
 ·intro Gd We;apply Zb;intro b2 Zx;simp[t0,iU,s2];subst Zx;apply ZS;have start:dv Zc (wg.drop M)<dv Zc vs:=by
   have e:=UG wg M (by omega);rw[vu]at e;have hx:=X3 dx;have h1:dv Zc xs*2^s<Zc^xs.length*2^s:=Nat.mul_lt_mul_of_pos_right hx oR;have h3:Zc^xs.length*2^s=Zc^M*(Zc^(n-1)*2^s):=by rw[<-Nat.mul_assoc,<-Nat.pow_add,show M+(n-1)=xs.length by omega]
   have h4:Zc^M*(Zc^(n-1)*2^s)<=Zc^M*dv Zc vs:=Nat.mul_le_mul_left _ (by rw[xo];exact Nat.mul_le_mul_right _ bu);have h5:Zc^M*dv Zc (wg.drop M)<Zc^M*dv Zc vs:=by omega
   exact Nat.lt_of_mul_lt_mul_left h5
  refine YQ (fun m s'=>s'.k=104/\Zg G2 H4/\m<=M/\Zg H s'.H/\Sl s'.H wv vs/\ ∃(X L:List Nat),X.length=xs.length+1/\YG Zc X/\L.length+m=M/\YG Zc L/\dv Zc X+Zc^m*(dv Zc vs*dv Zc L)=dv Zc xs*2^s/\dv Zc (X.drop m)<dv Zc vs/\Ym H.n s'.H u0 X/\Ym G2.n s'.H q0 (List.replicate m 0++L)/\s'.tm.get 9=some (.int .u64 (s:Int))/\s'.tm.get 10=some u0/\s'.tm.get 11=some wv/\s'.tm.get 12=some (.int .i64 (n:Int))/\s'.tm.get 13=some q0/\s'.tm.get 14=some (.int .i64 ((m:Int)-1))) ?_ M _ ⟨rfl,kq,Nat.le_refl _,LB.trans kq,ow3.sl.keep kq,wg,[],by omega,du,by simp,.nil _,by simp[dv,vu],start,ou2.m kq,by simpa using oq,by simp,by simp,by simp,by simp,by simp,by simp[s4]⟩;rintro m ⟨k,tm,H5⟩ ⟨hk,_,hm,kH,sv,X,L,hX,dX,hL,dL,heq,YW,ou,oq,t9,t10,t11,t12,t13,t14⟩ Q' Y4;simp only at hk kH sv ou oq t9 t10 t11 t12 t13 t14;subst hk;apply Zh;intro b3 Z9;apply Zb;intro b4 Yz;have Sa:Zd .geq .i64 ((m:Int)-1) 0=some (.bool (decide (0<m))):=by show some (Value.bool (decide ((m:Int)-1≥0)))=_;congr 2;apply decide_eq_decide.mpr;omega
  simp[t14,Sa];subst Yz;by_cases Ho:m=0;·subst Ho;refine Za (t:=false) (by simp) ?_;apply YP;apply Y4;left;exact⟨rfl,We _ ⟨rfl,kH,X,L,hX,dX,by omega,dL,by simpa using heq,by simpa using YW,ou,by simpa using oq,by simp[t9],by simp[t10],by simp[t12],by simp[t13]⟩⟩
  ·refine Za (t:=true) (by simp;omega) ?_;apply Zr;subst Z9;obtain⟨j,rfl⟩: ∃j,m=j+1:=⟨m-1,by omega⟩;have em:((j+1:Nat):Int)-1=(j:Int):=by omega
   rw[em]at t14;have hjX:j+n+1<=X.length:=by omega
   obtain⟨K1,K2,K3⟩:=C5 dX hjX fW ke YW;obtain⟨uw,zd,suw,view,bw⟩:=ou.sl.part Zv (j:=j) (m:=n+1) (by omega) (by omega);have i1:Zd .add .i64 (j:Int) (n:Int)=some (.int .i64 ((j+n:Nat):Int)):=WK (by omega);have i2:Zd .add .i64 ((j+n:Nat):Int) 1=some (.int .i64 ((j+(n+1):Nat):Int)):=YR (by omega);have te:X=X.take j++(X.drop j).take (n+1)++X.drop (j+n+1):=by have a:=List.take_append_drop (n+1) (X.drop j);rw[List.drop_drop,show j+(n+1)=j+n+1 by omega]at a;rw[List.append_assoc,a,List.take_append_drop]
   have ljp:(X.take j).length=j:=by rw[List.length_take];omega
   have lus:((X.drop j).take (n+1)).length=n+1:=by rw[List.length_take,List.length_drop];omega
   have ou':=ou;rw[te]at ou';obtain⟨r,H6,hg,hr,bt,ka,QA,lus',dus',Zap,ou6⟩:=CZ ou' ljp lus view ((dX.drop j).take (n+1)) sv wJ ke hn2 (by omega) fW vtop K2;subst hr;rw[K1]at Zap hg;have qL:=oq.but bt wK;have gC:List.replicate (j+1) 0++L=List.replicate j 0++0::L:=by rw[List.replicate_succ'];simp
   rw[gC]at qL;have a2:=qL.sl.adr Zv (k:= .i64) (i:=j) (by simp);obtain⟨H7,Od,oq7,n7,b7,LA⟩:=qL.put (i:=j) (by simp) (dv Zc (X.drop j)/dv Zc vs);rw[WG _ _ _ _ (by simp)]at oq7;have apqu:Vq q0 u0:=fun c hc Mn=>wK c Mn hc;have apvq:Vq q0 wv:=fun c hc Mn=>by have x1:=(oq.blk_lo hc).1;have x2:=(ow3.blk_lo Mn).2;omega
   have bt7:T0 (YJ q0) H6 H7:=⟨n7,fun i _ hi=>b7 i hi⟩;have ou7:Ym H.n H7 u0 (X.take j++QA++X.drop (j+n+1)):=ou6.but bt7 apqu;have sv7:Sl H7 wv vs:=(sv.but bt wJ).but bt7 apvq;have vE:Zg H H7:=LA H (ka H kH (Nat.le_refl _)) (by have:=LB.n;omega);apply Zh;intro b3 Z9;apply ZS;apply Zk;simp[t10,t11,t12,t13,t14,i1,i2,zd,hg,a2,Od];subst Z9;have w2:Zd .sub .i64 (j:Int) 1=some (.int .i64 ((j:Int)-1)):=by show some (Value.int .i64 (IntKind.i64.wrap ((j:Int)-1)))=_;congr 2;rw[IntKind.wrap_i64];omega
   apply Zk;simp[t14,w2];apply Y4;have hdX':(X.take j++QA++X.drop (j+n+1)).drop j=QA++X.drop (j+n+1):=by rw[List.append_assoc,List.drop_append_of_le_length (by omega),List.drop_eq_nil_of_le (by omega)];rfl
   have sY:dv Zc (QA++X.drop (j+n+1))=dv Zc (X.drop j)%dv Zc vs:=by rw[Yt,K3,Nat.mul_zero,Nat.add_zero,Zap]
   refine⟨j,Nat.lt_succ_self j,rfl,kq,by show j<=M;omega,vE,sv7,X.take j++QA++X.drop (j+n+1),dv Zc (X.drop j)/dv Zc vs::L,?_,((dX.take j).append dus').append (dX.drop _),by simp;omega,.cons ?_ dL,?_,?_,ou7,oq7,by simp[t9],by simp[t10],by simp[t11],by simp[t12],by simp[t13],by simp⟩;·simp only[List.length_append,List.length_drop];omega
   ·rw[Nat.div_lt_iff_lt_mul Vpos,Nat.mul_comm,<-K1];exact K2
   ·have e1:=UG X j (by omega);rw[List.append_assoc,Yt,ljp,sY];have e2:=Nat.div_add_mod (dv Zc (X.drop j)) (dv Zc vs);simp only[dv];generalize dv Zc (X.drop j)/dv Zc vs=q at*;generalize dv Zc (X.drop j)%dv Zc vs=r at*;rw[e1,<-e2]at heq;rw[<-heq];rw[Nat.mul_add (dv Zc vs) q,Nat.mul_add (Zc^j) (dv Zc vs*q) r,Nat.mul_add (Zc^j) (dv Zc vs*q),show Zc^(j+1)=Zc^j*Zc from rfl,Nat.mul_assoc (Zc^j) Zc,Nat.mul_left_comm (dv Zc vs) Zc];omega
   ·rw[hdX',sY];exact Nat.mod_lt _ Vpos
 rintro⟨k,db,H5⟩ ⟨hk,kH,X,L,hX,dX,hL,dL,heq,YW,ou,oq,t9,t10,t12,t13⟩;simp only at hk kH ou oq t9 t10 t12 t13;subst hk;have e0:dv Zc xs*2^s=dv Zc vs*dv Zc L+dv Zc X:=by rw[<-heq];omega
 have hdiv:dv Zc xs/dv Zc ys=dv Zc L:=by rw[<-Nat.mul_div_mul_right _ _ oR,e0,<-xo,Nat.mul_add_div Vpos,Nat.div_eq_of_lt YW,Nat.add_zero]
 have EX:dv Zc X/2^s=dv Zc xs%dv Zc ys:=by
  have:dv Zc xs%dv Zc ys*2^s=dv Zc X:=by rw[<-Nat.mul_mod_mul_right,e0,<-xo,Nat.mul_add_mod,Nat.mod_eq_of_lt YW]
  rw[<-this,Nat.mul_div_cancel _ oR]
 have hXn:dv Zc (X.take n)=dv Zc X:=by
  have e:=UG X n (by omega);have:dv Zc (X.drop n)=0:=by
   rcases Nat.eq_zero_or_pos (dv Zc (X.drop n))with h|h;·exact h
   ·exfalso;have:Zc^n*1<=Zc^n*dv Zc (X.drop n):=Nat.mul_le_mul_left _ h;omega
  rw[this]at e;omega
 obtain⟨qv,H6,hq6,kq6,qL⟩:=Vu (H:=H5.top) oq.sl.top (by omega);rw[Xl Z7 dL,<-hdiv]at qL;obtain⟨G6,hG6⟩:=hid (grown H5 H6);have kG6:Zg H5 G6:=by rw[hG6];exact Yi (.refl H5) kq6
 have nG6:G6.n=H6.n:=by rw[hG6];rfl
 have oqG:Ym H5.n G6 qv (ds Zc (dv Zc xs/dv Zc ys)):=by rw[hG6];exact qL.same (Yo kq6)
 have ouG:=(ou.sl.keep kG6).top;obtain⟨rv,H7,hr7,kr7,or7⟩:=aM (H:=G6.top) (ouG.cutTo Zv (m:=n) (by omega) (by omega)).2 (dX.take n) (by rw[List.length_take];omega) fB;rw[hXn,EX]at or7;have GQ:Zg G6 (grown G6 H7):=Yi (.refl G6) kr7;have orG:Ym G6.n (grown G6 H7) rv (ds Zc (dv Zc xs%dv Zc ys)):=or7.same (Yo kr7);have h6n:=kq6.n;have h7n:=kr7.n;apply Zh;intro b Ze;apply YI (by kernel_rfl);simp[t13];refine YU (v:=qv) (H2:=H6) rfl rfl rfl (by rw[ZG rfl];simp[hq6]) h6n (YO kq6) ?_;rw[<-hG6];generalize Pz:cond (Nat.blt H5.n H6.n) _ _=ms;have X8: ∀x∈ms,x.1=1/\H5.n<=x.2.1:=by intro x hx;rw[<-Pz]at hx;cases mY:Nat.blt H5.n H6.n with|true=>rw[mY,cond_true]at hx;simp at hx;subst hx;exact⟨rfl,Nat.le_refl _⟩|false=>rw[mY,cond_false]at hx;cases hx
 simp[t10,t12];refine Z0 (v:=cutTo u0 n) rfl rfl rfl ?_ ?_;·have hsv:=fun bits=>((ou.sl.keep (Y1 (bits:=bits) kG6 fun x hx=>(X8 x hx).2)).cutTo Zv (m:=n) (by omega) (by omega)).1;simp[hsv]
 simp[t9];refine YU (v:=rv) (H2:=H7) rfl rfl rfl ?_ h7n (YO kr7) ?_;·rw[ZG (Yr fun x hx=>by rw[(X8 x hx).1];kernel_rfl)];simp[t9,hr7]
 simp;subst Ze;apply Zu;refine⟨.inr rfl,[qv,rv],?_,?_⟩;·simp
 ·exact⟨(kH.trans kG6).trans GQ,qv,rv,rfl,oqG.mono kH.n GQ,orG.mono (by have:=(kH.trans kG6).n;omega) (.refl _),Uv oqG orG (Nat.le_refl _)⟩
theorem FA{n0:Nat}{H:AH}{va vb:Value}{xs ys:List Nat}(ha:Ym n0 H va xs)(hb:Sl H vb ys)(Sw:n0<=H.n)(dx:YG Zc xs)(dy:YG Zc ys)(tx:YS xs=xs)(ty:YS ys=ys)(lx:xs.length<=17592186040000)(ly:ys.length<=17592186040000)(hy:0<ys.length):CW Tryz.prog Zy 193 [va,vb] H (Nn n0 H (dv Zc xs) (dv Zc ys)):=Cr ha hb Sw dx dy tx ty lx ly hy fun tm t0 t1 h2 Sa=>FB ha hb Sw dx dy tx ty lx ly tm t0 t1 h2 Sa
structure Mod (b : Option Nat) (H H' : AH) : Prop where
  n : H.n <= H'.n
  blk : ∀ j, j < H.n -> b ≠ some j -> H'.blk j = H.blk j
theorem Mod.refl(b:Option Nat)(H:AH):Mod b H H:=⟨Nat.le_refl _,fun _ _ _=>rfl⟩
theorem Mod.trans{b:Option Nat}{H H1 H2:AH}(x:Mod b H H1)(y:Mod b H1 H2):Mod b H H2:=⟨Nat.le_trans x.n y.n,fun j hn hj=>(y.blk j (Nat.lt_of_lt_of_le hn x.n) hj).trans (x.blk j hn hj)⟩
theorem Zg.mod{H H':AH}(k:Zg H H'):Mod none H H':=⟨k.n,fun j hj _=>k.blk j hj⟩
theorem T0.mod{b:Option Nat}{H H':AH}(k:T0 b H H'):Mod b H H':=⟨Nat.le_of_eq k.n.symm,k.blk⟩
theorem Mod.any{b:Option Nat}{H H':AH}(k:Mod none H H'):Mod b H H':=⟨k.n,fun j hj _=>k.blk j hj (fun e=>by cases e)⟩
theorem Sl.mod{b:Option Nat}{H H':AH}{v:Value}{xs:List Nat}(h:Sl H v xs)(k:Mod b H H')(hb: ∀c,b=some c->YJ v≠some c):Sl H' v xs:=by cases h with|nil=>exact .nil|emp b=>exact .emp b|mk c o cap xs h1 h2=>obtain⟨h3,cs,h4,h5,h6⟩:=h2;have e:=k.blk c h3 fun e=>hb c e rfl;exact .mk c o cap xs h1 ⟨Nat.lt_of_lt_of_le h3 k.n,cs,by unfold AH.cells;rw[e];exact h4,by unfold AH.size;rw[e];exact h5,h6⟩
theorem Ym.mod{b:Option Nat}{n0:Nat}{H H':AH}{v:Value}{xs:List Nat}(h:Ym n0 H v xs)(k:Mod b H H')(hb: ∀c,b=some c->YJ v≠some c):Ym n0 H' v xs:=by cases h with|nil=>exact .nil|mk c o cap xs cs h1 h2 h3 h4 h5 h6=>exact .mk c o cap xs cs h1 h2 (Nat.lt_of_lt_of_le h3 k.n) (by rw[k.blk c h3 fun e=>hb c e rfl];exact h4) h5 h6
theorem AH.blk_kill(H:AH)(i j:Nat):(H.kill i).blk j=if j=i then .dead else H.blk j:=by
 unfold AH.kill AH.blk;simp only[Tr.get_set];by_cases e:j=i;·rw[if_pos e,if_pos e]
 ·rw[if_neg e,if_neg e]
theorem cX(xs:List Nat):(xs.map Uc).all one=true:=by rw[List.all_eq_true];intro v hv;obtain⟨x,_,rfl⟩:=List.mem_map.mp hv;rfl
theorem Ym.append{n0:Nat}{H:AH}{v w:Value}{xs ys:List Nat}(h:Ym n0 H v xs)(hn:n0<=H.n)(hw:Sl H w ys)(hl:xs.length+ys.length<=17592186044416){t t2:TypeId}(ht:LT t)(ie:LT t2): ∃v' H',Wp Tryz.prog H t t2 v w=some (v',H')/\Ym n0 H' v' (xs++ys)/\Mod (YJ v) H H'/\KA n0 H H':=by
 by_cases h0:ys.length=0
 ·obtain rfl:ys=[]:=List.length_eq_zero_iff.mp h0;refine⟨v,H,?_,by simpa using h,.refl _ _,.refl _ _⟩;have hv: ∃a l c,v= .slice a l c:=by cases h<;>exact⟨_,_,_,rfl⟩
  obtain⟨a,l,c,rfl⟩:=hv;have zo: ∃a c,w= .slice a 0 c:=by generalize hz:([]:List Nat)=zs at hw;cases hw with|nil=>exact⟨_,_,rfl⟩|emp b=>exact⟨_,_,rfl⟩|mk b o cap xs h1 h2=>subst hz;exact⟨_,_,rfl⟩
  obtain⟨a2,c2,rfl⟩:=zo;simp[Wp,ht.2,ie.2]
 ·have hc:=hw.cells (by omega);obtain⟨a2,cap2,rfl⟩: ∃a cap,w= .slice a ys.length cap:=by cases hw<;>exact⟨_,_,rfl⟩
  have e1:Nat.beq ys.length 0=false:=Xh h0;cases h with
   |nil=>
    refine⟨.slice (some ⟨H.n,0,none⟩) ys.length ys.length,H.new 1 (ys.map Uc),?_,?_,(Zg.new H 1 _).mod,?_⟩;·have e2:Nat.ble (ys.length*8) 140737488355328=true:=Nat.ble_eq.mpr (by simp at hl;omega);have e3:Nat.ble ys.length 281474976710656=true:=Nat.ble_eq.mpr (by simp at hl;omega);simp[Wp,ht.2,ie.2,e1,e2,e3,hc,DB,Value.cells]
    ·have:=Ym.new H ys;simp only[List.nil_append];exact this.mono hn (.refl _)
    ·intro H0 k _;exact k.trans (Zg.new H 1 _)
   |mk b o cap xs cs h1 h2 h3 h4 h5 h6=>
    have e2:Nat.ble ((xs.length+ys.length)*8) 140737488355328=true:=Nat.ble_eq.mpr (by omega);have e3:Nat.ble (xs.length+ys.length) 281474976710656=true:=Nat.ble_eq.mpr (by omega);have e4:Nat.ble (o+xs.length) cs.length=true:=Nat.ble_eq.mpr (by omega);have e5:(cs.drop o).take xs.length=xs.map Uc:=by
     rcases Nat.eq_zero_or_pos xs.length with h|h;·have:xs=[]:=List.length_eq_zero_iff.mp h;subst this;simp
     ·exact(GL h h6).2
    have eH:(H.kill b).n=H.n:=rfl;refine⟨.slice (some ⟨H.n,0,none⟩) (xs++ys).length (xs++ys).length,(H.kill b).new 1 ((xs++ys).map Uc),?_,?_,?_,?_⟩
    ·have e6:Nat.beq 1 1=true:=rfl;have e7:ys.all (one∘Uc)=true:=by rw[List.all_eq_true];intro x _;rfl
     simp[Wp,ht.2,ie.2,e1,e2,e3,e4,e5,hc,DB,Value.cells,h4,e7]
    ·refine .mk H.n 0 _ _ ((xs++ys).map Uc) (Nat.le_refl _) hn ?_ ?_ (by simp) (fun i x h=>by rw[Nat.zero_add,List.getElem?_map,h];rfl);·show H.n<H.n+1;omega
     ·rw[AH.blk_new,if_pos eH.symm]
    ·refine⟨by show H.n<=H.n+1;omega,fun j hj hb=>?_⟩;rw[AH.blk_new,if_neg (by rw[eH];omega),AH.blk_kill,if_neg (by intro e;subst e;exact hb rfl)]
    ·intro H0 k Sw;have:=k.n;refine⟨by show H0.n<=H.n+1;omega,?_,fun j hj=>?_⟩;·have:=k.lw;show min H0.lw H0.n<=min H.lw b;omega
     ·rw[AH.blk_new,if_neg (by rw[eH];omega),AH.blk_kill,if_neg (by omega)];exact k.blk j hj
theorem EG{H:AH}{t:TypeId}(ht:LT t){n:Nat}(hn:n<=17592186044416): ∃v H',VL Tryz.prog H t (.int .i64 0) (.int .i64 (n:Int))=some (v,H')/\Zg H H'/\Ym H.n H' v []:=by
 refine⟨.slice (some ⟨H.n,0,none⟩) 0 n,H.new 1 ((List.replicate n 0).map Uc),?_,.new _ _ _,?_⟩;·unfold VL;simp only[ht.2,DB];rw[if_pos (by omega)];simp only[Int.toNat_natCast,Nat.mul_one,JD];rfl
 ·exact .mk H.n 0 n [] ((List.replicate n 0).map Uc) (Nat.zero_le _) (Nat.le_refl _) (Nat.lt_succ_self _) (by rw[AH.blk_new,if_pos rfl]) (by simp) (fun i x h=>by simp at h)
theorem OH(H:AH){t:TypeId}(ht:LT t)(x:Nat):YX Tryz.prog H t 1 [(0,.int .u64 (x:Int))]=some (.slice (some ⟨H.n,0,none⟩) 1 1,H.new 1 ([x].map Uc)):=by unfold YX;simp only[ht.2,DB];kernel_rfl
theorem Ck(H:AH){t:TypeId}(ht:LT t)(x y:Nat):YX Tryz.prog H t 2 [(0,.int .u64 (x:Int)),(1,.int .u64 (y:Int))]=some (.slice (some ⟨H.n,0,none⟩) 2 2,H.new 1 ([x,y].map Uc)):=by unfold YX;simp only[ht.2,DB];kernel_rfl
def Gm(v:Value)(m:Nat):Value:=match v with| .slice (some a) _ _=> .slice (some a) m m|v=>v
theorem Ym.cut3{n0:Nat}{H:AH}{v:Value}{xs:List Nat}(h:Ym n0 H v xs){t:TypeId}(ht:LT t){m:Nat}(hm:m<=xs.length):Vo Tryz.prog H t v none (some (.int .i64 (m:Int))) (some (.int .i64 (m:Int)))=some (Gm v m)/\Ym n0 H (Gm v m) (xs.take m)/\YJ (Gm v m)=YJ v:=by cases h with
 |nil=>simp at hm;subst hm;refine⟨?_,.nil,rfl⟩;unfold Vo;simp only[ht.1,Mg];rfl
 |mk b o cap xs cs h1 h2 h3 h4 h5 h6=>
  have hl:(xs.take m).length=m:=by rw[List.length_take];omega
  have X4:H.size b=some 1:=by unfold AH.size;rw[h4]
  have ho:Ym n0 H (.slice (some ⟨b,o,none⟩) (xs.take m).length m) (xs.take m):= .mk b o m _ cs (by omega) h2 h3 h4 (by omega) fun i x hx=>h6 i x (by
   rw[List.getElem?_take]at hx;split at hx;·exact hx
   ·cases hx);rw[hl]at ho;refine⟨?_,ho,rfl⟩;unfold Vo;simp only[ht.1,Mg];unfold Mz Xu;simp only[X4,Option.isSome_some,Option.isNone_none,Bool.true_or];rw[if_pos (by omega)];have e1:Nat.ble m m=true:=Nat.ble_eq.mpr (Nat.le_refl _);simp[Xu,e1,Gm]
theorem two32:2<=ZF:=by decide
theorem K7{k:IntKind}{x:Nat} :Zd .gtr k (x:Int) 0=some (.bool (decide (0<x))):=WW (y:=0)
theorem Ws{k:IntKind}{x:Nat} :Zd .eql k (x:Int) 0=some (.bool (decide (x=0))):=PD (y:=0)
theorem HQ{x:Nat} :Zd .rem .u64 (x:Int) 4294967296=some (.int .u64 ((x%4294967296:Nat):Int)):=ae (y:=4294967296) (by decide)
theorem Dk{x:Nat}(hx:x<Zc):Zd .quo .u64 (x:Int) 4294967296=some (.int .u64 ((x/4294967296:Nat):Int)):=Ma (y:=4294967296) hx (by decide)
theorem quo2{x:Nat}(hx:x<Zc):Zd .quo .u64 (x:Int) 2=some (.int .u64 ((x/2:Nat):Int)):=Ma (y:=2) hx (by decide)
theorem A2{x y:Nat}(h:x*y<9223372036854775808):Zd .mul .i64 (x:Int) (y:Int)=some (.int .i64 ((x*y:Nat):Int)):=by
 show some (Value.int .i64 (IntKind.i64.wrap ((x:Int)*(y:Int))))=_;have e:IntKind.i64.wrap ((x:Int)*(y:Int))=((x*y:Nat):Int):=by rw[IntKind.wrap_i64,<-Int.natCast_mul];generalize x*y=z at*;omega
 rw[e]
theorem Aj{x:Nat}(h:2*x<9223372036854775808):Zd .mul .i64 2 (x:Int)=some (.int .i64 ((2*x:Nat):Int)):=A2 (x:=2) h
theorem cu{x:Nat}(h:32*x<9223372036854775808):Zd .mul .i64 32 (x:Int)=some (.int .i64 ((32*x:Nat):Int)):=A2 (x:=32) h
theorem eU{x:Nat}(h:x<9223372036854775800):Zd .add .i64 (x:Int) 2=some (.int .i64 ((x+2:Nat):Int)):=WK (y:=2) (by omega)
def RU:List Nat->List Nat|[]=>[]|x::xs=>x%ZF::x/ZF::RU xs
theorem Lh(x:Nat): ∀(xs:List Nat),RU (xs++[x])=RU xs++[x%ZF,x/ZF]|[]=>rfl|y::xs=>by simp[RU,Lh x xs]
theorem Qm: ∀(xs:List Nat),(RU xs).length=2*xs.length|[]=>rfl|x::xs=>by simp[RU,Qm xs];omega
theorem MT: ∀(xs:List Nat),dv ZF (RU xs)=dv Zc xs|[]=>rfl|x::xs=>by simp only[RU,dv,MT xs];have:=Nat.mod_add_div x 4294967296;show x%4294967296+4294967296*(x/4294967296+4294967296*dv Zc xs)=x+18446744073709551616*dv Zc xs;omega
theorem O1: ∀{xs:List Nat},YG Zc xs->YG ZF (RU xs)|[],_=> .nil _|x::xs,h=>by have hx:x<18446744073709551616:=h.head;exact .cons (Nat.mod_lt _ (by decide)) (.cons (by show x/4294967296<4294967296;omega) (O1 h.tail))
def TR:List Nat->List Nat|[]=>[]|[x]=>[x]|x::y::r=>(x+y*ZF)::TR r
theorem jo(N:Nat):TR (ds ZF N)=ds Zc N:=by induction N using Nat.strongRecOn with
 |_ N ih=>
  by_cases h0:N=0;·subst h0;rw[XY,XY];rfl
  ·rw[TG two32 h0];by_cases h1:N/ZF=0
   ·have hN:N<4294967296:=by have:=Kf (by decide) h1;exact this
    rw[h1,XY,TG Z7 h0];have e1:N%ZF=N:=Nat.mod_eq_of_lt hN;have e2:N%Zc=N:=Nat.mod_eq_of_lt (Nat.lt_trans hN (by decide));have e3:N/Zc=0:=Nat.div_eq_of_lt (Nat.lt_trans hN (by decide));rw[e1,e2,e3,XY];rfl
   ·rw[TG two32 h1,TG Z7 h0];simp only[TR];have e1:N/ZF/ZF=N/Zc:=by rw[Nat.div_div_eq_div_mul,show ZF*ZF=Zc by decide]
    have e2:N%ZF+N/ZF%ZF*ZF=N%Zc:=by show N%4294967296+N/4294967296%4294967296*4294967296=N%18446744073709551616;omega
    rw[e1,e2,ih _ (Nat.div_lt_self (by omega) (by decide))]
theorem Bp{ys:List Nat}{i:Nat}(h:i<ys.length):TR (ys.drop i)=(ys[i]+nth ys (i+1)*ZF)::TR (ys.drop (i+2)):=by
 rw[List.drop_eq_getElem_cons h];by_cases h1:i+1<ys.length;·rw[List.drop_eq_getElem_cons h1,XQ h1];simp only[TR]
 ·rw[List.drop_eq_nil_of_le (by omega),Vn (by omega),List.drop_eq_nil_of_le (by omega)];simp[TR]
theorem HY: ∀(ys:List Nat),(TR ys).length<=ys.length|[]=>Nat.le_refl _|[x]=>Nat.le_refl _|x::y::r=>by simp only[TR,List.length_cons];have:=HY r;omega
theorem aY{x:Nat}(h:0<x):Zm x=Zm (x/2)+1:=by
 rcases Nat.lt_or_ge x 2 with h1|h1
 ·obtain rfl:x=1:=by omega
  decide
 ·have:=Tb (n:=x) (k:=1) h1;rw[this,Nat.pow_one,Nat.add_comm]
theorem Vi{n0:Nat}{H:AH}{v:Value}{xs:List Nat}(h:Ym n0 H v xs)(hlen:xs.length<1152921504606846976):CW Tryz.prog Zy 57 [v] H fun v' H'=>H'=H/\Ym n0 H v' (YS xs)/\YJ v'=YJ v:=by
 refine Z8 22 Tryz.func57 ?_;have l0:=h.sl.len Z1;apply Zb;intro b1 Ze;simp;subst Ze;apply Zb;intro b1 Ze;simp[l0];subst Ze;apply Zh;intro b1 Ze;apply ZS;refine YQ (fun n s=>s.k=22/\s.H=H/\n<=xs.length/\YS (xs.take n)=YS xs/\s.tm.get 0=some v/\s.tm.get 3=some (.int .i64 (n:Int))) ?_ xs.length _ ⟨rfl,rfl,Nat.le_refl _,by rw[List.take_length],by simp,by simp⟩;rintro n ⟨k,tm,H'⟩ ⟨hk,hH,hn,ht,t0,t3⟩ Q' Y4;simp only at hk hH t0 t3;subst hk;subst hH;apply Zh;intro b2 Zx;apply Zb;intro b3 Z9;have fin: ∀Xg:Tr Value,Xg.get 0=some v->Xg.get 3=some (.int .i64 (n:Int))->YS (xs.take n)=xs.take n->Q' (.exit 0) ⟨22,Xg,H'⟩:=fun Xg t0 t3 he=>by apply Y4;left;refine⟨rfl,?_⟩;subst Ze;obtain⟨c1,c2,c3⟩:=h.cut3 Z1 hn;apply Zb;intro b4 Yz;simp[t0,t3,c1];subst Yz;apply Zu;simp;rw[<-ht,he];exact⟨c2,c3⟩
 by_cases hz:n=0;·subst hz;simp[t3];subst Z9;refine Za (t:=false) (by simp) ?_;apply YP;exact fin _ (by simp[t0]) (by simp[t3]) rfl
 ·have hi:n-1<xs.length:=by omega
  have a1:=h.sl.adr Z1 (k:= .i64) hi;have d1:=h.sl.load hi;have PZ:xs.take n=xs.take (n-1)++[xs[n-1]]:=by have:=Xo hi;rwa[show n-1+1=n by omega]at this
  have Sw:0<n:=by omega
  simp[t3,t0,K7,Sw,Uf (x:=n) (by omega) Sw,a1,d1,Ws];subst Z9;by_cases h0:xs[n-1]=0;·refine Za (t:=true) (by simp[h0]) ?_;apply Zr;subst Zx;apply ZS;apply Zk;simp[t3,Uf (x:=n) (by omega) Sw];apply Y4;refine⟨n-1,by omega,rfl,rfl,by show n-1<=_;omega,?_,by simp[t0],by simp⟩;rw[<-ht,PZ,h0,VE]
  ·refine Za (t:=false) (by simp[h0]) ?_;apply YP;exact fin _ (by simp[t0]) (by simp[t3]) (by rw[PZ];exact S6 _ _ h0)
theorem nO{H:AH}{v:Value}{xs:List Nat}(h:Sl H v xs)(dx:YG Zc xs)(hlen:xs.length<=8000000000000):CW Tryz.prog Zy 17 [v] H fun v' H'=>Zg H H'/\Ym H.n H' v' (ds ZF (dv Zc xs)):=by
 refine Z8 26 Tryz.func17 ?_;have l0:=h.len Yl;obtain⟨a0,H1,RC,k1,o1⟩:=EG (H:=H) Z1 (n:=2*xs.length) (by omega);apply Zb;intro b1 Ze;simp;subst Ze;apply Zb;intro b1 Ze;simp[l0,Aj (x:=xs.length) (by omega),RC];subst Ze;apply Zh;intro b1 Ze;apply Zb;intro b2 Zx;simp[l0];subst Zx;apply ZS;refine YQ (fun m s'=>s'.k=26/\Zg H s'.H/\ ∃(i:Nat) (a:Value),m+i=xs.length/\Ym H.n s'.H a (RU (xs.take i))/\s'.tm.get 3=some a/\s'.tm.get 10=some v/\s'.tm.get 11=some (.int .i64 (xs.length:Int))/\s'.tm.get 12=some (.int .i64 (i:Int))) ?_ xs.length _ ⟨rfl,k1,0,a0,by omega,o1,by simp,by simp,by simp,by simp⟩;rintro m ⟨k,tm,H2⟩ ⟨hk,kH,i,a,Kk,own,t3,t10,t11,t12⟩ Q' Y4;simp only at hk kH own t3 t10 t11 t12;subst hk;apply Zb;intro b3 Z9;simp[t11,t12];subst Z9;apply Zh;intro b3 Z9;by_cases hi:i<xs.length;·refine Za (t:=true) (by simp[hi]) ?_;apply Zr;subst Z9;have s2:=h.keep kH;have a1:=s2.adr Yl (k:= .i64) hi;have d1:=s2.load hi;have hx:xs[i]<Zc:=dx.get (List.getElem?_eq_getElem hi);obtain⟨x,MK⟩:=hid (xs[i]);rw[<-MK]at d1 hx;have hb:=Ck H2 Z1 (x%4294967296) (x/4294967296);have kn:=Zg.new H2 1 ([x%4294967296,x/4294967296].map Uc);have ow:=Ym.new H2 [x%4294967296,x/4294967296];obtain⟨v',H4,Jc,Vz,mod4,VX⟩:=(own.m kn).append (Nat.le_trans kH.n kn.n) ow.sl (by rw[Qm,List.length_take];simp;omega) Z1 Z1;apply Zh;intro b3 Z9;apply ZS;apply Zb;intro b4 Yz;simp[t10,t12,a1,d1];subst Yz;apply Zk;simp[t3,HQ,Dk hx,hb];simp at Jc;simp[Jc];subst Z9;apply Zk;simp[t12,YR (x:=i) (by omega)];apply Y4;refine⟨m-1,by omega,rfl,VX H (kH.trans kn) (Nat.le_refl _),i+1,v',by omega,?_,by simp,by simp[t10],by simp[t11],by simp⟩;rw[Xo hi,Lh,<-MK];exact Vz
 ·refine Za (t:=false) (by simp[hi]) ?_;apply YP;apply Y4;left;refine⟨rfl,?_⟩;obtain rfl:i=xs.length:=by omega
  rw[List.take_length]at own;obtain⟨v5,H5,MR,e5,o5,_⟩:=Vi own (by rw[Qm];omega);subst e5;rw[Xl two32 (O1 dx),MT]at o5;subst Ze;apply Zb;intro b4 Yz;simp[t3,MR];subst Yz;apply Zu;simp;exact⟨kH,o5⟩
theorem Cj{x:Nat}(h:x<ZF):x<Zc:=Nat.lt_trans h (by decide)
theorem C7{H:AH}{v:Value}{ys:List Nat}(h:Sl H v ys)(dy:YG ZF ys)(hlen:ys.length<=17592186000000):CW Tryz.prog Zy 94 [v] H fun v' H'=>Zg H H'/\Ym H.n H' v' (TR ys):=by
 refine Z8 34 Tryz.func94 ?_;have l0:=h.len Z1;apply Zh;intro b1 Ze;apply Zk;simp;subst Ze;apply Zh;intro b1 Ze;apply Zk;simp;subst Ze;apply Zh;intro b1 Ze;apply Zh;intro b2 Zx;apply Zk;simp;subst Zx;apply ZS;refine YQ (fun m s'=>s'.k=34/\Zg H s'.H/\ ∃(i:Nat) (a:Value) (L:List Nat),m=ys.length-i/\i<=ys.length+1/\L.length<=i/\L++TR (ys.drop i)=TR ys/\Ym H.n s'.H a L/\s'.tm.get 0=some v/\s'.tm.get 3=some a/\s'.tm.get 4=some (.int .i64 (i:Int))) ?_ ys.length _ ⟨rfl,.refl H,0,.slice none 0 0,[],by omega,by omega,Nat.le_refl _,by simp,.nil,by simp,by simp,by simp⟩;rintro m ⟨k,tm,H2⟩ ⟨hk,kH,i,a,L,Kk,hiy,hLi,hL,own,t0,t3,t4⟩ Q' Y4;simp only at hk kH own t0 t3 t4;subst hk;apply Zh;intro b3 Z9;apply Zh;intro b4 Yz;apply Zk;simp[t0,t4,l0];subst Yz;by_cases hi:i<ys.length
 ·refine Za (t:=true) (by simp[hi]) ?_;apply Zr;subst Z9;have s2:=h.keep kH;have a1:=s2.adr Z1 (k:= .i64) hi;have d1:=s2.load hi;have hx:ys[i]<ZF:=dy.get (List.getElem?_eq_getElem hi);obtain⟨x,MK⟩: ∃x,x=ys[i]:=⟨_,rfl⟩;obtain⟨w,hw⟩: ∃w,w=x+nth ys (i+1)*4294967296:=⟨_,rfl⟩;have sG:=Bp hi;rw[<-MK]at d1 hx sG;have hpd':TR (ys.drop i)=w::TR (ys.drop (i+2)):=by rw[hw];exact sG
  have hb:=OH H2 Yl w;have kn:=Zg.new H2 1 ([w].map Uc);have ow:=Ym.new H2 [w];obtain⟨v',H4,Jc,Vz,mod4,VX⟩:=(own.m kn).append (Nat.le_trans kH.n kn.n) ow.sl (by simp;omega) Yl Yl;simp at Jc hb;apply Zh;intro b3 Z9;apply ZS;apply Zh;intro b4 Yz;apply Zk;simp[t0,t4,a1,d1];subst Yz;refine Y8 (fun s'=>s'.k=34/\s'.H=H2/\s'.tm.get 0=some v/\s'.tm.get 3=some a/\s'.tm.get 4=some (.int .i64 (i:Int))/\s'.tm.get 5=some (.int .u64 (w:Int))) ?_ ?_
  ·intro Gd We;apply Zh;intro b4 Yz;apply Zk;simp[t0,t4,l0,YR (x:=i) (by omega)];subst Yz;by_cases CP:i+1<ys.length
   ·refine Za (t:=true) (by simp[CP]) ?_;have a2:=s2.adr Z1 (k:= .i64) CP;have d2:=s2.load CP;have hz:ys[i+1]<ZF:=dy.get (List.getElem?_eq_getElem CP);rw[XQ CP]at hw;obtain⟨z,hze⟩: ∃z,z=ys[i+1]:=⟨_,rfl⟩;rw[<-hze]at d2 hz hw;have hz':z<4294967296:=hz;have qV:x<4294967296:=hx;have m1:Zd .mul .u64 (z:Int) 4294967296=some (.int .u64 ((z*4294967296:Nat):Int)):=by rw[mulR,Nat.mod_eq_of_lt (by show _<18446744073709551616;omega)]
    have m2:Zd .add .u64 (x:Int) ((z*4294967296:Nat):Int)=some (.int .u64 (w:Int)):=by rw[hw];exact XD (by show _<18446744073709551616;omega)
    apply Zk;simp[t0,t4,YR (x:=i) (by omega),a2,d2,m1,m2];apply We;exact⟨rfl,rfl,by simp[t0],by simp[t3],by simp[t4],by simp⟩
   ·refine Za (t:=false) (by simp[CP]) ?_;apply Zr;apply We;rw[Vn (by omega),Nat.zero_mul,Nat.add_zero]at hw;exact⟨rfl,rfl,by simp[t0],by simp[t3],by simp[t4],by simp[hw]⟩
  clear t0 t3 t4;rintro⟨k,tm,H3⟩ ⟨hk,hH,t0,t3,t4,t5⟩;simp only at hk hH t0 t3 t4 t5;subst hk;subst hH;apply Zk;simp[t3,t5,hb,Jc];subst Z9;apply Zk;simp[t4,eU (x:=i) (by omega)];apply Y4;refine⟨ys.length-(i+2),by omega,rfl,VX H (kH.trans kn) (Nat.le_refl _),i+2,v',L++[w],rfl,by omega,by simp;omega,?_,Vz,by simp[t0],by simp,by simp⟩;rw[<-hL,hpd'];simp
 ·refine Za (t:=false) (by simp[hi]) ?_;apply YP;apply Y4;left;refine⟨rfl,?_⟩;rw[List.drop_eq_nil_of_le (by omega)]at hL;simp[TR]at hL;subst Ze;apply Zh;intro b4 Yz;apply Zk;simp[t3];subst Yz;apply Zu;simp;rw[<-hL];exact⟨kH,own⟩
theorem mC{H:AH}{v w:Value}{ys zs:List Nat}(h:Sl H v ys)(hw:Sl H w zs)(dy:YG ZF ys)(hlen:ys.length<=17592186000000):CW Tryz.prog Zy 65 [v,w] H fun v' H'=>Zg H H'/\v'= .bool (decide (TR ys=zs)):=by
 refine Z8 29 Tryz.func65 ?_;obtain⟨v1,H1,NR,k1,o1⟩:=C7 h dy hlen;have bU:=HY ys;generalize TR ys=xs at*;have s1:=o1.sl;have s2:=hw.keep k1;have l1:=s1.len Yl;have l2:=s2.len Yl;apply Zh;intro b1 Ze;apply Zk;simp;subst Ze;apply Zh;intro b1 Ze;apply Zk;simp[NR];subst Ze;apply Zh;intro b1 Ze;apply Zh;intro b2 Zx;apply Zk;simp[l1,l2,Kp];subst Zx;by_cases hl:xs.length=zs.length
 ·refine Za (t:=false) (by simp[hl]) ?_;apply Zr;subst Ze;apply Zh;intro b1 Ze;apply Zh;intro b2 Zx;apply Zk;simp[l1];subst Zx;apply ZS;refine YQ (fun m s'=>s'.k=29/\s'.H=H1/\ ∃(i:Nat),m+i=xs.length/\xs.take i=zs.take i/\s'.tm.get 1=some w/\s'.tm.get 5=some v1/\s'.tm.get 15=some (.int .i64 (xs.length:Int))/\s'.tm.get 16=some (.int .i64 (i:Int))) ?_ xs.length _ ⟨rfl,rfl,0,by omega,rfl,by simp,by simp,by simp,by simp⟩;rintro m ⟨k,tm,H2⟩ ⟨hk,hH,i,Kk,he,t1,t5,t15,t16⟩ Q' Y4;simp only at hk hH t1 t5 t15 t16;subst hk;subst hH;apply Zh;intro b3 Z9;apply Zk;simp[t15,t16];subst Z9;apply Zh;intro b3 Z9;by_cases hi:i<xs.length
  ·refine Za (t:=true) (by simp[hi]) ?_;apply Zr;subst Z9;have Ji:i<zs.length:=by omega
   have a1:=s1.adr Yl (k:= .i64) hi;have d1:=s1.load hi;have a2:=s2.adr Yl (k:= .i64) Ji;have d2:=s2.load Ji;apply Zh;intro b3 Z9;apply ZS;apply Zh;intro b4 Yz;apply Zk;simp[t16];subst Yz;apply Zh;intro b4 Yz;apply Ri (by kernel_rfl);simp[t1,t5,a1,a2,d1,d2,Kp];subst Yz;by_cases Ug:xs[i]=zs[i];·refine Za (t:=false) (by simp[Ug]) ?_;apply Zr;subst Z9;apply Zk;simp[t16,YR (x:=i) (by omega)];apply Y4;refine⟨m-1,by omega,rfl,rfl,i+1,by omega,?_,by simp[t1],by simp[t5],by simp[t15],by simp⟩;rw[Xo hi,Xo Ji,he,Ug]
   ·refine Za (t:=true) (by simp[Ug]) ?_;apply Zh;intro b4 Yz;apply Zk;simp;subst Yz;apply Zu;have hd:xs≠zs:=by intro e;apply Ug;subst e;rfl
    apply Y4;simp[Yx,Yn,T5,hd];exact k1
  ·refine Za (t:=false) (by simp[hi]) ?_;apply YP;apply Y4;left;refine⟨rfl,?_⟩;obtain rfl:i=xs.length:=by omega
   have pB:xs=zs:=by rwa[List.take_length,hl,List.take_length]at he
   subst Ze;apply Zh;intro b4 Yz;apply Zk;simp;subst Yz;apply Zu;simp[pB];exact k1
 ·refine Za (t:=true) (by simp[hl]) ?_;apply Zh;intro b2 Zx;apply Zk;simp;subst Zx;apply Zu;have hd:xs≠zs:=fun e=>hl (by rw[e]);simp[Yx,hd];exact k1
theorem dZ{H:AH}{v:Value}{ys:List Nat}(h:Sl H v ys):CW Tryz.prog Zy 19 [v] H fun v' H'=>H'=H/\v'= .bool (decide (ys.length=0)):=by refine Z8 6 Tryz.func19 ?_;have l1:=h.len Z1;apply Zb;intro b1 Ze;simp;subst Ze;apply Zb;intro b1 Ze;simp[l1,Ws];subst Ze;apply Zu;simp
theorem lT{H:AH}{v:Value}{ys:List Nat}(h:Sl H v ys)(i:Nat):CW Tryz.prog Zy 130 [v,.int .i64 (i:Int)] H fun v' H'=>H'=H/\v'= .int .u64 (nth ys i:Int):=by
 refine Z8 13 Tryz.func130 ?_;have l1:=h.len Z1;apply Zb;intro b1 Ze;simp;subst Ze;apply Zh;intro b1 Ze;apply Zb;intro b2 Zx;simp[l1];subst Zx;by_cases hi:i<ys.length;·refine Za (t:=true) (by simp[hi]) ?_;have a1:=h.adr Z1 (k:= .i64) hi;have d1:=h.load hi;apply Zb;intro b2 Zx;simp[a1,d1];subst Zx;apply Zu;simp[Yx,XQ hi]
 ·refine Za (t:=false) (by simp[hi]) ?_;apply Zr;subst Ze;apply Zb;intro b2 Zx;simp;subst Zx;apply Zu;simp[Vn (Nat.le_of_not_lt hi)]
theorem Kd{H:AH}{v:Value}{ys:List Nat}(h:Sl H v ys)(i:Nat):ZY Tryz.prog Zy 130 [v,.int .i64 (i:Int)] H=some (.int .u64 (nth ys i:Int),H):=by obtain⟨_,_,hc,rfl,rfl⟩:=lT h i;exact hc
theorem XS(B:Nat)(xs:List Nat)(i:Nat):dv B (xs.take (i+1))=dv B (xs.take i)+B^i*nth xs i:=by
 by_cases h:i<xs.length;·rw[Xo h,Yt,List.length_take,Nat.min_eq_left (by omega),XQ h];simp[dv]
 ·rw[List.take_of_length_le (by omega),List.take_of_length_le (by omega),Vn (by omega),Nat.mul_zero,Nat.add_zero]
theorem V9{B:Nat}{xs:List Nat}(h:YG B xs)(hB:0<B)(i:Nat):nth xs i<B:=by
 by_cases hi:i<xs.length;·rw[XQ hi];exact h.get (List.getElem?_eq_getElem hi)
 ·rw[Vn (by omega)];exact hB
theorem Uy(B:Nat)(xs:List Nat)(j:Nat)(h:j<=xs.length):dv B xs=dv B (xs.take j)+B^j*dv B (xs.drop j):=by have:=congrArg (dv B) (List.take_append_drop j xs);rw[Yt,List.length_take,Nat.min_eq_left h]at this;exact this.symm
theorem Pd{B:Nat}{xs:List Nat}{k:Nat}(hB:0<B)(h:dv B xs<B^k):dv B (xs.take k)=dv B xs:=by
 rcases Nat.lt_or_ge xs.length k with hk|hk;·rw[List.take_of_length_le (by omega)]
 ·have e:=Uy B xs k hk;have:dv B (xs.drop k)=0:=by
   rcases Nat.eq_zero_or_pos (dv B (xs.drop k))with h0|h0;·exact h0
   ·exfalso;have:B^k*1<=B^k*dv B (xs.drop k):=Nat.mul_le_mul_left _ h0;omega
  rw[this,Nat.mul_zero]at e;omega
theorem Qu{B:Nat}(hB:2<=B){xs ys:List Nat}(hy:YS ys=ys)(dx:YG B xs)(dy:YG B ys)(h:xs.length<ys.length):dv B xs<dv B ys:=by
 have h1:=X3 dx;have e:ys=ds B (dv B ys):=by rw[<-Xl hB dy,hy]
 have Ug:dv B ys≠0:=by intro h0;rw[h0,XY]at e;rw[e]at h;simp at h
 have h2:=fY hB Ug;rw[<-e]at h2;have h3:B^xs.length<=B^(ys.length-1):=Nat.pow_le_pow_right (by omega) (by omega);omega
theorem Ym.fill{n:Nat}{H:AH}{v:Value}{L:List Nat}{m:Nat}(h:Ym n H v (L++List.replicate (m+1) 0)){i:Nat}(hL:L.length=i)(y:Nat): ∃H',YZ Tryz.prog H 101 (adr v i) (.int .u64 (y:Int))=some H'/\Ym n H' v ((L++[y])++List.replicate m 0)/\T0 (YJ v) H H'/\KA n H H':=by obtain⟨H',h1,h2,h3,h4,h5⟩:=h.put (i:=i) (by simp;omega) y;refine⟨H',h1,?_,⟨h3,fun j _ hj=>h4 j hj⟩,h5⟩;rw[List.replicate_succ,WG _ _ _ _ hL]at h2;simpa using h2
theorem Lx{H:AH}{v w:Value}{xs ys:List Nat}(hv:Sl H v xs)(hw:Sl H w ys)(dx:YG ZF xs)(dy:YG ZF ys)(lx:xs.length<=17592186000000)(ly:ys.length<=17592186000000):CW Tryz.prog Zy 91 [v,w] H fun v' H'=>Zg H H'/\Ym H.n H' v' (ds ZF (dv ZF xs+dv ZF ys)):=by
 refine Z8 44 Tryz.func91 ?_;have l1:=hv.len Z1;have l2:=hw.len Z1;obtain⟨n,hn⟩:=hid (max xs.length ys.length);obtain⟨c0,H1,RC,k1,o1,n1⟩:=YL (H:=H) Z1 (n:=n+1) (by omega);apply Zb;intro b1 Ze;simp;subst Ze;apply Zb;intro b1 Ze;simp[l1];subst Ze;refine Y8 (fun s'=>s'.k=44/\s'.H=H/\s'.tm.get 0=some v/\s'.tm.get 1=some w/\s'.tm.get 5=some (.int .i64 (n:Int))) ?_ ?_
 ·intro Q' Y4;apply Zb;intro b1 Ze;simp[l2,WW];subst Ze;by_cases hc:xs.length<ys.length;·refine Za (t:=true) (by simp[hc]) ?_;apply Zk;simp[l2];apply Y4;exact⟨rfl,rfl,by simp,by simp,by simp;omega⟩
  ·refine Za (t:=false) (by simp[hc]) ?_;apply Zr;apply Y4;exact⟨rfl,rfl,by simp,by simp,by simp;omega⟩
 rintro⟨k,tm,H'⟩ ⟨hk,hH,t0,t1,t5⟩;simp only at hk hH t0 t1 t5;subst hk;subst hH;have hmk':VL Tryz.prog H' 37 (.int .i64 ((n+1:Nat):Int)) (.int .i64 ((n+1:Nat):Int))=some (c0,H1):=RC;apply Zb;intro b1 Ze;simp[t5,YR (x:=n) (by omega),hmk'];subst Ze;apply Zb;intro b1 Ze;simp;subst Ze;apply Zh;intro b1 Ze;apply Zb;intro b2 Zx;simp;subst Zx;apply ZS;refine YQ (fun m s'=>s'.k=44/\Zg H' s'.H/\ ∃(i carry:Nat) (L:List Nat),m+i=n+1/\L.length=i/\carry<=1/\YG ZF L/\dv ZF L+ZF^i*carry=dv ZF (xs.take i)+dv ZF (ys.take i)/\Ym H'.n s'.H c0 (L++List.replicate m 0)/\s'.tm.get 0=some v/\s'.tm.get 1=some w/\s'.tm.get 5=some (.int .i64 (n:Int))/\s'.tm.get 6=some c0/\s'.tm.get 7=some (.int .u64 (carry:Int))/\s'.tm.get 8=some (.int .i64 (i:Int))) ?_ (n+1) _ ⟨rfl,k1,0,0,[],by omega,rfl,by omega,.nil _,by simp[dv],by simpa using o1,by simp[t0],by simp[t1],by simp[t5],by simp,by simp,by simp⟩;clear t0 t1 t5;rintro m ⟨k,tm,H2⟩ ⟨hk,kH,i,carry,L,Kk,hL,hc,dL,heq,own,t0,t1,t5,t6,t7,t8⟩ Q' Y4;simp only at hk kH own t0 t1 t5 t6 t7 t8;subst hk;apply Zh;intro b3 Z9;apply Zb;intro b4 Yz;simp[t5,t8,P0];subst Yz;by_cases hi:i<=n
 ·refine Za (t:=true) (by simp[hi]) ?_;apply Zr;subst Z9;obtain⟨m',rfl⟩: ∃m',m=m'+1:=⟨m-1,by omega⟩;have c1:=Kd (hv.keep kH) i;have c2:=Kd (hw.keep kH) i;have hx:nth xs i<4294967296:=V9 dx (by decide) i;have hy:nth ys i<4294967296:=V9 dy (by decide) i;have ex:=XS ZF xs i;have ey:=XS ZF ys i;obtain⟨x,MK⟩:=hid (nth xs i);obtain⟨y,mF⟩:=hid (nth ys i);rw[<-MK]at c1 hx ex;rw[<-mF]at c2 hy ey;have m1:Zd .add .u64 (x:Int) (y:Int)=some (.int .u64 ((x+y:Nat):Int)):=XD (by show _<18446744073709551616;omega);have m2:Zd .add .u64 ((x+y:Nat):Int) (carry:Int)=some (.int .u64 ((x+y+carry:Nat):Int)):=XD (by show _<18446744073709551616;omega);obtain⟨z,hz⟩:=hid (x+y+carry);rw[<-hz]at m2;have CE:z<Zc:=by show z<18446744073709551616;omega
  obtain⟨H3,TJ,Sh,rp,O5⟩:=own.fill hL (z%4294967296);have a3:=own.sl.adr Z1 (k:= .i64) (i:=i) (by simp;omega);apply Zh;intro b3 Z9;apply ZS;apply Zb;intro b4 Yz;simp[t0,t1,t7,t8,c1,c2,m1,m2];subst Yz;apply Zb;intro b4 Yz;simp[t6,t8,HQ,a3,TJ];subst Yz;apply Zk;simp[Dk CE];subst Z9;apply Zk;simp[t8,YR (x:=i) (by omega)];apply Y4;refine⟨m',by omega,rfl,O5 H' kH (Nat.le_refl _),i+1,z/4294967296,L++[z%4294967296],by omega,by simp[hL],by omega,dL.append (.cons (Nat.mod_lt _ (by decide)) (.nil _)),?_,Sh,by simp[t0],by simp[t1],by simp[t5],by simp[t6],by simp,by simp⟩;rw[Yt,hL,ex,ey];simp only[dv,Nat.mul_zero,Nat.add_zero];have e1:ZF^i*(z%4294967296+4294967296*(z/4294967296))=ZF^i*(x+y+carry):=by rw[Nat.mod_add_div,hz]
  rw[Nat.mul_add,<-Nat.mul_assoc,show ZF^i*4294967296=ZF^(i+1)from rfl,Nat.mul_add,Nat.mul_add]at e1;omega
 ·refine Za (t:=false) (by simp[hi]) ?_;apply YP;apply Y4;left;refine⟨rfl,?_⟩;obtain rfl:i=n+1:=by omega
  obtain rfl:m=0:=by omega
  simp at own;rw[List.take_of_length_le (by omega),List.take_of_length_le (by omega)]at heq;have Qn:dv ZF L=dv ZF xs+dv ZF ys:=by
   have h1:=X3 dx;have h2:=X3 dy;have h3:ZF^xs.length<=ZF^n:=Nat.pow_le_pow_right (by decide) (by omega);have h4:ZF^ys.length<=ZF^n:=Nat.pow_le_pow_right (by decide) (by omega);have h5:ZF^(n+1)=ZF^n*4294967296:=rfl;rcases Nat.lt_or_ge carry 1 with h0|h0
   ·obtain rfl:carry=0:=by omega
    rw[Nat.mul_zero]at heq;omega
   ·obtain rfl:carry=1:=by omega
    rw[Nat.mul_one]at heq;omega
  obtain⟨v5,H5,MR,e5,o5,_⟩:=Vi own (by omega);subst e5;rw[Xl two32 dL,Qn]at o5;subst Ze;apply Zb;intro b4 Yz;simp[t6,MR];subst Yz;apply Zu;simp;exact⟨kH,o5⟩
theorem Lz{H:AH}{v w:Value}{xs ys:List Nat}(hv:Sl H v xs)(hw:Sl H w ys)(dx:YG ZF xs)(dy:YG ZF ys)(lx:xs.length<=17592186000000)(hle:dv ZF ys<=dv ZF xs):CW Tryz.prog Zy 93 [v,w] H fun v' H'=>Zg H H'/\Ym H.n H' v' (ds ZF (dv ZF xs-dv ZF ys)):=by
 refine Z8 39 Tryz.func93 ?_;have l1:=hv.len Z1;obtain⟨n,hn⟩:=hid (xs.length);rw[<-hn]at l1;obtain⟨c0,H1,RC,k1,o1,n1⟩:=YL (H:=H) Z1 (n:=n) (by omega);apply Zb;intro b1 Ze;simp;subst Ze;apply Zb;intro b1 Ze;simp[l1,RC];subst Ze;apply Zb;intro b1 Ze;simp;subst Ze;apply Zh;intro b1 Ze;apply Zb;intro b2 Zx;simp[l1];subst Zx;apply ZS;refine YQ (fun m s'=>s'.k=39/\Zg H s'.H/\ ∃(i SY:Nat) (L:List Nat),m+i=n/\L.length=i/\SY<=1/\YG ZF L/\dv ZF L+dv ZF (ys.take i)=dv ZF (xs.take i)+ZF^i*SY/\Ym H.n s'.H c0 (L++List.replicate m 0)/\s'.tm.get 0=some v/\s'.tm.get 1=some w/\s'.tm.get 5=some c0/\s'.tm.get 6=some (.int .u64 (SY:Int))/\s'.tm.get 13=some (.int .i64 (n:Int))/\s'.tm.get 14=some (.int .i64 (i:Int))) ?_ n _ ⟨rfl,k1,0,0,[],by omega,rfl,by omega,.nil _,by simp[dv],by simpa using o1,by simp,by simp,by simp,by simp,by simp,by simp⟩;rintro m ⟨k,tm,H2⟩ ⟨hk,kH,i,SY,L,Kk,hL,hb,dL,heq,own,t0,t1,t5,t6,t13,t14⟩ Q' Y4;simp only at hk kH own t0 t1 t5 t6 t13 t14;subst hk;apply Zb;intro b3 Z9;simp[t13,t14];subst Z9;apply Zh;intro b3 Z9;by_cases hi:i<n
 ·refine Za (t:=true) (by simp[hi]) ?_;apply Zr;subst Z9;obtain⟨m',rfl⟩: ∃m',m=m'+1:=⟨m-1,by omega⟩;have UN:i<xs.length:=by omega
  have sv:=hv.keep kH;have a1:=sv.adr Z1 (k:= .i64) UN;have d1:=sv.top.load UN;have c2:=Kd (hw.keep kH).top i;have hx:nth xs i<4294967296:=V9 dx (by decide) i;have hy:nth ys i<4294967296:=V9 dy (by decide) i;have ex:=XS ZF xs i;have ey:=XS ZF ys i;rw[<-XQ UN]at d1;obtain⟨x,MK⟩:=hid (nth xs i);obtain⟨y,mF⟩:=hid (nth ys i);rw[<-MK]at d1 hx ex;rw[<-mF]at c2 hy ey;have m1:Zd .add .u64 (x:Int) 4294967296=some (.int .u64 ((x+4294967296:Nat):Int)):=XD (y:=4294967296) (by show _<18446744073709551616;omega);have m2:Zd .sub .u64 ((x+4294967296:Nat):Int) (y:Int)=some (.int .u64 ((x+4294967296-y:Nat):Int)):=Sn (by show _<18446744073709551616;omega) (by omega);have m3:Zd .sub .u64 ((x+4294967296-y:Nat):Int) (SY:Int)=some (.int .u64 ((x+4294967296-y-SY:Nat):Int)):=Sn (by show _<18446744073709551616;omega) (by omega);obtain⟨z,hz⟩:=hid (x+4294967296-y-SY);rw[<-hz]at m3;have CE:z<Zc:=by show z<18446744073709551616;omega
  have hz1:z/4294967296<=1:=by omega
  have m4:Zd .sub .u64 1 ((z/4294967296:Nat):Int)=some (.int .u64 ((1-z/4294967296:Nat):Int)):=Sn (x:=1) (by decide) hz1;obtain⟨H3,TJ,Sh,rp,O5⟩:=own.fill hL (z%4294967296);have a3:=own.sl.adr Z1 (k:= .i64) (i:=i) (by simp;omega);apply Zh;intro b3 Z9;apply ZS;apply Zb;intro b4 Yz;simp[t14];subst Yz;apply Zh;intro b4 Yz;apply Nq (by kernel_rfl);simp[t0,t1,t6,a1,d1,c2,m1,m2,m3];subst Yz;apply Zb;intro b4 Yz;simp[t5,HQ,a3,TJ];subst Yz;apply Zk;simp[Dk CE,m4];subst Z9;apply Zk;simp[t14,YR (x:=i) (by omega)];apply Y4;refine⟨m',by omega,rfl,O5 H kH (Nat.le_refl _),i+1,1-z/4294967296,L++[z%4294967296],by omega,by simp[hL],by omega,dL.append (.cons (Nat.mod_lt _ (by decide)) (.nil _)),?_,Sh,by simp[t0],by simp[t1],by simp[t5],by simp,by simp[t13],by simp⟩;rw[Yt,hL,ex,ey];simp only[dv,Nat.mul_zero,Nat.add_zero];have e0:z%4294967296+y+SY=x+4294967296*(1-z/4294967296):=by omega
  have e1:ZF^i*(z%4294967296+y+SY)=ZF^i*(x+4294967296*(1-z/4294967296)):=by rw[e0]
  rw[Nat.mul_add (ZF^i) x,<-Nat.mul_assoc,show ZF^i*4294967296=ZF^(i+1)from rfl,Nat.mul_add,Nat.mul_add]at e1;omega
 ·refine Za (t:=false) (by simp[hi]) ?_;apply YP;apply Y4;left;refine⟨rfl,?_⟩;obtain rfl:i=n:=by omega
  obtain rfl:m=0:=by omega
  simp at own;have tu:=X3 dx;rw[<-hn]at tu;rw[List.take_of_length_le (l:=xs) (by omega),Pd (by decide) (Nat.lt_of_le_of_lt hle tu)]at heq;have Qn:dv ZF L=dv ZF xs-dv ZF ys:=by
   have h1:=X3 dL;rw[hL]at h1;rcases Nat.lt_or_ge SY 1 with h0|h0
   ·obtain rfl:SY=0:=by omega
    rw[Nat.mul_zero]at heq;omega
   ·obtain rfl:SY=1:=by omega
    rw[Nat.mul_one]at heq;omega
  obtain⟨v5,H5,MR,e5,o5,_⟩:=Vi own (by omega);subst e5;rw[Xl two32 dL,Qn]at o5;subst Ze;apply Zb;intro b4 Yz;simp[t5,MR];subst Yz;apply Zu;simp;exact⟨kH,o5⟩
theorem Rs{va vb:Value}{xs ys:List Nat}{H:AH}(s1:Sl H va xs)(s2:Sl H vb ys)(dx:YG ZF xs)(dy:YG ZF ys)(tx:YS xs=xs)(ty:YS ys=ys)(lx:xs.length<=17592186044416)(ly:ys.length<=17592186044416):CW Tryz.prog Zy 60 [va,vb] H fun v H'=>H'=H/\v= .int .i64 (XL (dv ZF xs) (dv ZF ys)):=by
 refine Z8 41 Tryz.func60 ?_;have l1:=s1.len Z1;have l2:=s2.len Z1;apply Zb;intro b1 Ze;simp;subst Ze;apply Zh;intro b1 Ze;apply Zb;intro b2 Zx;simp[l1,l2,Kp];subst Zx;by_cases hl:xs.length=ys.length
 ·refine Za (t:=false) (by simp[hl]) ?_;apply Zr;subst Ze;apply Zh;intro b1 Ze;apply Zh;intro b2 Zx;have w1:Zd .sub .i64 (xs.length:Int) 1=some (.int .i64 ((xs.length:Int)-1)):=by show some (Value.int .i64 (IntKind.i64.wrap ((xs.length:Int)-1)))=_;congr 2;rw[IntKind.wrap_i64];omega
  apply Zk;simp[l1,w1];subst Zx;apply ZS;refine YQ (fun n s=>s.k=41/\s.H=H/\s.tm.get 0=some va/\s.tm.get 1=some vb/\s.tm.get 5=some (.int .i64 ((n:Int)-1))/\n<=xs.length/\xs.drop n=ys.drop n) ?_ xs.length _ ⟨rfl,rfl,by simp,by simp,by simp,Nat.le_refl _,by rw[List.drop_length,hl,List.drop_length]⟩;rintro n ⟨k,tm,H'⟩ ⟨h2,h3,h4,h5,h6,h7,h8⟩ Q' Y4;simp only at h2 h3 h4 h5 h6;subst h2;subst h3;have Sa:Zd .geq .i64 ((n:Int)-1) 0=some (.bool (decide (0<n))):=by show some (Value.bool (decide ((n:Int)-1≥0)))=_;congr 2;apply decide_eq_decide.mpr;omega
  apply Zh;intro b2 Zx;apply Zb;intro b3 Z9;simp[h6,Sa];subst Z9;by_cases hz:n=0
  ·subst hz;refine Za (t:=false) (by simp) ?_;apply YP;apply Y4;left;refine⟨rfl,?_⟩;subst Ze;apply Zb;intro b4 Yz;simp;subst Yz;apply Zu;have:xs=ys:=by simpa using h8
   simp[XL,this]
  ·have e:(n:Int)-1=((n-1:Nat):Int):=by omega
   refine Za (t:=true) (by simp;omega) ?_;apply Zr;subst Zx;have i1:n-1<xs.length:=by omega
   have i2:n-1<ys.length:=by omega
   have a1:=s1.adr Z1 (k:= .i64) i1;have a2:=s2.adr Z1 (k:= .i64) i2;have d1:=s1.load i1;have d2:=s2.load i2;rw[e]at h6;have sx:xs=xs.take (n-1)++xs[n-1]::xs.drop n:=by have:=List.take_append_drop (n-1) xs;rw[List.drop_eq_getElem_cons i1,show n-1+1=n by omega]at this;exact this.symm
   have sy:ys=ys.take (n-1)++ys[n-1]::ys.drop n:=by have:=List.take_append_drop (n-1) ys;rw[List.drop_eq_getElem_cons i2,show n-1+1=n by omega]at this;exact this.symm
   have zJ:(xs.take (n-1)).length=(ys.take (n-1)).length:=by simp[List.length_take,hl]
   apply Zh;intro b4 Yz;apply ZS;apply Zh;intro b5 SP;apply Zh;intro b6 Px;apply Ri (by kernel_rfl);simp[h4,h5,h6,a1,a2,d1,d2];subst Px;by_cases YW:xs[n-1]<ys[n-1]
   ·refine Za (t:=true) (by simp;omega) ?_;apply Zb;intro b7 mz;simp;subst mz;apply Zu;have hd:dv ZF xs<dv ZF ys:=by rw[sx,sy,h8];exact Gp (dx.take _) (dy.take _) zJ YW _
    apply Y4;simp[Yx,Yn,T5,XL,hd]
   ·refine Za (t:=false) (by simp;omega) ?_;apply Zr;subst SP;apply Zh;intro b6 Px;apply Ri (by kernel_rfl);simp[h4,h5,h6,a1,a2,d1,d2,WW];subst Px;by_cases hgt:ys[n-1]<xs[n-1]
    ·refine Za (t:=true) (by simp;omega) ?_;apply Zb;intro b7 mz;simp;subst mz;apply Zu;have hd:dv ZF ys<dv ZF xs:=by rw[sx,sy,h8];exact Gp (dy.take _) (dx.take _) zJ.symm hgt _
     have Kj: ¬dv ZF xs<dv ZF ys:=by omega
     apply Y4;simp[Yx,Yn,T5,XL,hd,Kj]
    ·refine Za (t:=false) (by simp;omega) ?_;apply Zr;subst Yz;have LD:Zd .sub .i64 ((n-1:Nat):Int) 1=some (.int .i64 (((n-1:Nat):Int)-1)):=by show some (Value.int .i64 (IntKind.i64.wrap (((n-1:Nat):Int)-1)))=_;congr 2;rw[IntKind.wrap_i64];omega
     apply Zk;simp[h6,LD];apply Y4;refine⟨n-1,by omega,rfl,rfl,?_⟩;simp[h4,h5];refine⟨by omega,?_⟩;rw[List.drop_eq_getElem_cons i1,List.drop_eq_getElem_cons i2,show n-1+1=n by omega,h8];congr 1;omega
 ·refine Za (t:=true) (by simp;omega) ?_;apply Zh;intro b2 Zx;apply Zb;intro b3 Z9;simp[l1,l2];subst Z9;by_cases YW:xs.length<ys.length;·refine Za (t:=true) (by simp;omega) ?_;apply Zb;intro b3 Z9;simp;subst Z9;apply Zu;have:=Qu two32 ty dx dy YW;simp[Yx,XL,this]
  ·refine Za (t:=false) (by simp;omega) ?_;apply Zr;subst Zx;apply Zb;intro b2 Zx;simp;subst Zx;apply Zu;have:=Qu two32 tx dy dx (by omega);have h2: ¬dv ZF xs<dv ZF ys:=by omega
   simp[Yx,XL,this,h2]
theorem Ks{x y:Nat}(hx:x<9223372036854775808)(hy:0<y):Zd .quo .i64 (x:Int) (y:Int)=some (.int .i64 ((x/y:Nat):Int)):=by
 have hle:x/y<=x:=Nat.div_le_self x y;have h0: ¬ ((y:Int)=0):=by omega
 have e:IntKind.i64.wrap ((x:Int).tdiv (y:Int))=((x/y:Nat):Int):=by rw[IntKind.wrap_i64,Int.tdiv_eq_ediv_of_nonneg (by omega),<-Int.natCast_ediv];generalize x/y=q at*;omega
 show(if(y:Int)=0 then none else some (Value.int .i64 (IntKind.i64.wrap ((x:Int).tdiv (y:Int)))))=_;rw[if_neg h0,e]
theorem aa{x y:Nat}(hy:0<y):Zd .rem .i64 (x:Int) (y:Int)=some (.int .i64 ((x%y:Nat):Int)):=by
 have h0: ¬ ((y:Int)=0):=by omega
 have e:(x:Int).tmod (y:Int)=((x%y:Nat):Int):=by rw[Int.tmod_eq_emod_of_nonneg (by omega),<-Int.natCast_emod]
 show(if(y:Int)=0 then none else some (Value.int .i64 ((x:Int).tmod (y:Int))))=_;rw[if_neg h0,e]
theorem Bu{x:Nat}(hx:x<9223372036854775808):Zd .quo .i64 (x:Int) 32=some (.int .i64 ((x/32:Nat):Int)):=Ks (y:=32) hx (by decide)
theorem Bz{x:Nat} :Zd .rem .i64 (x:Int) 32=some (.int .i64 ((x%32:Nat):Int)):=aa (y:=32) (by decide)
theorem xX{x c s:Nat}(hx:x<ZF)(hs:s<32)(hc:c<2^s):x*2^s%ZF+c<ZF/\x*2^s/ZF<2^s/\x*2^s=x*2^s%ZF+ZF*(x*2^s/ZF)/\x*2^s<Zc:=by
 have e:ZF=2^(32-s)*2^s:=by rw[<-Nat.pow_add,show 32-s+s=32 by omega]
 have hp:=Nat.two_pow_pos s;refine⟨?_,?_,(Nat.mod_add_div _ _).symm,?_⟩
 ·have e1:x*2^s%ZF=x%2^(32-s)*2^s:=by rw[e,Nat.mul_mod_mul_right]
  have h2:x%2^(32-s)<2^(32-s):=Nat.mod_lt _ (Nat.two_pow_pos _);rw[e1];have:(x%2^(32-s)+1)*2^s<=2^(32-s)*2^s:=Nat.mul_le_mul_right _ h2;rw[<-e,Nat.succ_mul]at this;omega
 ·rw[Nat.div_lt_iff_lt_mul (by decide),Nat.mul_comm];exact Nat.mul_lt_mul_of_pos_left hx hp
 ·have h1:2^s<=2^32:=Nat.pow_le_pow_right (by decide) (by omega);have h2:x*2^s<=4294967295*2^32:=Nat.mul_le_mul (by have:x<4294967296:=hx;omega) h1;show _<18446744073709551616;omega
theorem Ru{H:AH}{v:Value}{xs:List Nat}(hv:Sl H v xs)(dx:YG ZF xs)(lx:xs.length<=8000000000000){n:Nat}(hn:n<=8000000000000):CW Tryz.prog Zy 92 [v,.int .i64 (n:Int)] H fun v' H'=>Zg H H'/\Ym H.n H' v' (ds ZF (dv ZF xs*2^n)):=by
 refine Z8 55 Tryz.func92 ?_;have l1:=hv.len Z1;apply Zb;intro b1 Ze;simp;subst Ze;apply Zh;intro b1 Ze;apply Zb;intro b2 Zx;simp[l1,Ws];subst Zx;by_cases h0:xs.length=0;·obtain rfl:xs=[]:=List.length_eq_zero_iff.mp h0;refine Za (t:=true) (by simp) ?_;apply Zb;intro b2 Zx;simp;subst Zx;apply Zu;simp[Yx,dv,XY];exact⟨.refl H,.nil⟩
 ·refine Za (t:=false) (by simp;intro h;exact h0 (by rw[h];rfl)) ?_;apply Zr;subst Ze;obtain⟨w,hw⟩:=hid (n/32);obtain⟨s,hs⟩:=hid (n%32);have tc:s<32:=by omega
  have vP:n=32*w+s:=by omega
  have q1:Zd .quo .i64 (n:Int) 32=some (.int .i64 (w:Int)):=by rw[hw];exact Bu (by omega)
  have q2:Zd .rem .i64 (n:Int) 32=some (.int .i64 (s:Int)):=by rw[hs];exact Bz
  have q3:Zd .add .i64 (xs.length:Int) (w:Int)=some (.int .i64 ((xs.length+w:Nat):Int)):=WK (by omega);obtain⟨c0,H1,RC,k1,o1,n1⟩:=YL (H:=H) Z1 (n:=xs.length+w+1) (by omega);apply Zb;intro b1 Ze;simp[l1,q1,q3,YR (x:=xs.length+w) (by omega),RC];subst Ze;apply Zb;intro b1 Ze;simp[q2];subst Ze;apply Zh;intro b1 Ze;apply Zb;intro b2 Zx;simp[l1];subst Zx;apply ZS;refine YQ (fun m s'=>s'.k=55/\Zg H s'.H/\ ∃(i c:Nat) (L:List Nat),m+i=xs.length/\L.length=i/\c<2^s/\YG ZF L/\dv ZF L+ZF^i*c=dv ZF (xs.take i)*2^s/\Ym H.n s'.H c0 ((List.replicate w 0++L)++c::List.replicate m 0)/\s'.tm.get 1=some (.int .i64 (n:Int))/\s'.tm.get 5=some c0/\s'.tm.get 6=some (.int .i64 (s:Int))/\s'.tm.get 21=some v/\s'.tm.get 22=some (.int .i64 (xs.length:Int))/\s'.tm.get 23=some (.int .i64 (i:Int))) ?_ xs.length _ ⟨rfl,k1,0,0,[],by omega,rfl,Nat.two_pow_pos s,.nil _,by simp[dv],by
   have e:List.replicate (xs.length+w+1) 0=(List.replicate w 0++[])++0::List.replicate xs.length 0:=by rw[List.append_nil,<-List.replicate_succ,List.replicate_append_replicate];congr 1;omega
   rw[<-e];exact o1,by simp,by simp,by simp,by simp,by simp,by simp⟩;rintro m ⟨k,tm,H2⟩ ⟨hk,kH,i,c,L,Kk,hL,hc,dL,heq,own,t1,t5,t6,t21,t22,t23⟩ Q' Y4;simp only at hk kH own t1 t5 t6 t21 t22 t23;subst hk;apply Zb;intro b3 Z9;simp[t22,t23];subst Z9;apply Zh;intro b3 Z9;by_cases hi:i<xs.length
  ·refine Za (t:=true) (by simp[hi]) ?_;apply Zr;subst Z9;obtain⟨m',rfl⟩: ∃m',m=m'+1:=⟨m-1,by omega⟩;have sv:=hv.keep kH;have a1:=sv.adr Z1 (k:= .i64) hi;have d1:=sv.load hi;have hx:xs[i]<ZF:=dx.get (List.getElem?_eq_getElem hi);obtain⟨x,MK⟩:=hid (xs[i]);rw[<-MK]at d1 hx;obtain⟨f1,f2,f3,f4⟩:=xX hx tc hc;obtain⟨p,hp⟩:=hid (x*2^s);rw[<-hp]at f1 f2 f3 f4;have m1:Y0 .shl .u64 (x:Int) (s:Int)=some (.int .u64 (p:Int)):=by rw[Sm (by omega),<-hp,Nat.mod_eq_of_lt f4]
   have m2:Zd .add .i64 (i:Int) (w:Int)=some (.int .i64 ((i+w:Nat):Int)):=WK (by omega);have lp:(List.replicate w 0++L).length=i+w:=by simp[hL];omega
   have m3:Zd .add .u64 (c:Int) ((p%4294967296:Nat):Int)=some (.int .u64 ((p%4294967296+c:Nat):Int)):=by rw[XD (by rw[Nat.add_comm];exact Cj f1),Nat.add_comm]
   have a2:=own.sl.adr Z1 (k:= .i64) (i:=i+w) (by simp[hL];omega);have d2:=own.sl.load (i:=i+w) (by simp[hL];omega);rw[NT _ _ _ lp]at d2;obtain⟨H3,TJ,Sh,n3,rp,O5⟩:=own.put (i:=i+w) (by simp[hL];omega) (p%4294967296+c);rw[WG _ _ _ _ lp]at Sh;have a3:=Sh.sl.adr Z1 (k:= .i64) (i:=i+w+1) (by simp[hL];omega);obtain⟨H4,Wx,Vz,n4,ru,VX⟩:=Sh.put (i:=i+w+1) (by simp[hL];omega) (p/4294967296);have Tj:(List.replicate w 0++L++(p%4294967296+c)::List.replicate (m'+1) 0).set (i+w+1) (p/4294967296)=(List.replicate w 0++(L++[p%4294967296+c]))++(p/4294967296)::List.replicate m' 0:=by rw[show List.replicate w 0++L++(p%4294967296+c)::List.replicate (m'+1) 0=(List.replicate w 0++(L++[p%4294967296+c]))++0::List.replicate m' 0 by simp[List.replicate_succ]];exact WG _ _ _ _ (by simp[hL];omega)
   rw[Tj]at Vz;apply Zh;intro b3 Z9;apply ZS;apply Zb;intro b4 Yz;simp[t21,t23,a1,d1];subst Yz;apply Zh;intro b4 Yz;apply pj (by kernel_rfl);simp[t1,t5,t6,q1,m1,m2,m3,a2,d2,HQ,TJ];subst Yz;apply Zk;simp[t1,t5,t6,q1,m1,m2,YR (x:=i+w) (by omega),a3,Dk f4,Wx];subst Z9;apply Zk;simp[t23,YR (x:=i) (by omega)];apply Y4;refine⟨m',by omega,rfl,VX H (O5 H kH (Nat.le_refl _)) (Nat.le_refl _),i+1,p/4294967296,L++[p%4294967296+c],by omega,by simp[hL],f2,dL.append (.cons f1 (.nil _)),?_,Vz,by simp[t1],by simp[t5],by simp[t6],by simp[t21],by simp[t22],by simp⟩;rw[Yt,hL,Xo hi,Yt,List.length_take,Nat.min_eq_left (by omega),<-MK];simp only[dv,Nat.mul_zero,Nat.add_zero];rw[Nat.add_mul,<-heq,Nat.mul_assoc (ZF^i) x,<-hp];have e1:ZF^i*p=ZF^i*(p%ZF+ZF*(p/ZF)):=by rw[<-f3]
   rw[Nat.mul_add,<-Nat.mul_assoc,show ZF^i*ZF=ZF^(i+1)from rfl]at e1;have e2:ZF^i*(p%4294967296+c)=ZF^i*(p%ZF)+ZF^i*c:=Nat.mul_add _ _ _;have e3:ZF^(i+1)*(p/4294967296)=ZF^(i+1)*(p/ZF):=rfl;omega
  ·refine Za (t:=false) (by simp[hi]) ?_;apply YP;apply Y4;left;refine⟨rfl,?_⟩;obtain rfl:i=xs.length:=by omega
   obtain rfl:m=0:=by omega
   rw[List.take_length]at heq;obtain⟨v5,H5,MR,e5,o5,_⟩:=Vi own (by simp[hL];omega);subst e5;have dall:YG ZF ((List.replicate w 0++L)++[c]):=by
    refine YG.append (YG.append ?_ dL) (.cons ?_ (.nil _));·intro x hx;rw[List.eq_of_mem_replicate hx];decide
    ·exact Nat.lt_of_lt_of_le hc (by show 2^s<=2^32;exact Nat.pow_le_pow_right (by decide) (by omega))
   have hval:dv ZF ((List.replicate w 0++L)++[c])=dv ZF xs*2^n:=by rw[List.append_assoc,Yt,Yt,UF,List.length_replicate,hL];simp only[dv,Nat.mul_zero,Nat.add_zero];rw[heq,Nat.zero_add,vP,Nat.pow_add,Nat.pow_mul];show ZF^w*(dv ZF xs*2^s)=dv ZF xs*(ZF^w*2^s);rw[Nat.mul_left_comm]
   simp only[List.replicate_zero]at o5;rw[Xl two32 dall,hval]at o5;subst Ze;apply Zb;intro b4 Yz;simp[t5,MR];subst Yz;apply Zu;simp;exact⟨kH,o5⟩
end
end
end Go.Proofs.YtmkfecoeghokfaaGreatDoor
