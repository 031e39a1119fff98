/-
  The engine and the walks that the claim's last text leans on, part 4 of 9: Nh, Ni, Nj, Nk, Nq, Nl, Nm, Nr, EvS, Ns, Nt, Nu, Nv, Nw, Nx, Oa, Ob, Oc, Od.
-/
import Derived.Test.YtmkfecoeghokfaaGreatDoorM3
namespace Go.Proofs.YtmkfecoeghokfaaGreatDoor
open Go Ev
set_option linter.unusedVariables false
set_option linter.unusedSimpArgs false
noncomputable section
set_option maxHeartbeats 2000000
set_option maxRecDepth 20000
section
attribute [-simp] Int.natCast_add Int.natCast_mul Int.natCast_ediv Int.natCast_emod Int.natCast_pow
attribute [local simp] strip ZQ Xj gW ZF Ya ZX Yb ZJ Yc Zs Zt Zg ZI Z5 ZN ZB Zk ZH Zh Ze ZC ZD YW Zo Z6 YF Yw ZK plain ZM Tr.get_set Yu Zp Yq ZV sameKind undef Zv ZG Z3 Zu ZA Yh ZW parts ZE Xw DW Yf Zw Zz Zn ZL ZS Xt Yg Zm ZP Zy ZO
theorem WL(L:List Nat)(c y:Nat)(R:List Nat){i:Nat}(h:L.length=i):(L++c::R).set i y=L++y::R:=by subst h;rw[List.set_append_right _ _ (Nat.le_refl _),Nat.sub_self];rfl
theorem Nb(L:List Nat)(c:Nat)(R:List Nat){i:Nat}(h:L.length=i)(hi:i<(L++c::R).length):(L++c::R)[i]=c:=by subst h;simp
theorem Xc{xs:List Nat}{i:Nat}(h:i<xs.length):xs.take (i+1)=xs.take i++[xs[i]]:=(List.take_append_getElem (l:=xs) (i:=i) h).symm
theorem KV{x s:Nat}(hs:s<64):x*2^s=x*2^s%Zc+Zc*(x/2^(64-s)):=by
 have e:Zc=2^(64-s)*2^s:=by rw[<-Nat.pow_add,show 64-s+s=64 by omega]
 have h1:x*2^s/Zc=x/2^(64-s):=by rw[e,Nat.mul_div_mul_right _ _ (Nat.two_pow_pos s)]
 have:=Nat.mod_add_div (x*2^s) Zc;rw[h1]at this;exact this.symm
theorem FG{x s:Nat}(hs:s<64): ∃a,x*2^s%Zc=a*2^s/\a<2^(64-s):=by
 have e:Zc=2^(64-s)*2^s:=by rw[<-Nat.pow_add,show 64-s+s=64 by omega]
 refine⟨x%2^(64-s),?_,Nat.mod_lt _ (Nat.two_pow_pos _)⟩;rw[e,Nat.mul_mod_mul_right]
theorem eO{x c s:Nat}(hs:s<64)(hc:c<2^s):x*2^s%Zc+c<Zc:=by
 obtain⟨a,e1,h⟩:=FG (x:=x) hs;have e:Zc=2^(64-s)*2^s:=by rw[<-Nat.pow_add,show 64-s+s=64 by omega]
 rw[e1,e];have:(a+1)*2^s<=2^(64-s)*2^s:=Nat.mul_le_mul_right _ h;rw[Nat.succ_mul]at this;omega
theorem BG{v:Value}{xs:List Nat}{H:AH}(hs:Sl H v xs)(dx:YH Zc xs)(hlen:xs.length<=17592186044000){s:Nat}(cE:s<64):CW Tryz.prog ZY 217 [v,.int .u64 (s:Int)] H fun v' H'=>Zj H H'/\ ∃ys,Ym H.n H' v' ys/\YH Zc ys/\ys.length=xs.length+1/\dv Zc ys=dv Zc xs*2^s:=by
 refine Yd 39 Tryz.func217 ?_;obtain⟨c0,H1,RH,k1,o1,n1⟩:=YK (H:=H) Zu (n:=xs.length+1) (by omega);have l0:=hs.len Zu;apply Za;intro b1 Zf;simp;subst Zf;apply Za;intro b1 Zf;simp[l0,YU (x:=xs.length) (by omega),RH];subst Zf;apply Zi;intro b1 Zf;apply Za;intro b2 ZT;simp[l0];subst ZT;apply ZR;refine YS (fun m s'=>s'.k=39/\ ∃(i c:Nat) (L:List Nat),m+i=xs.length/\L.length=i/\c<2^s/\YH Zc L/\dv Zc L+Zc^i*c=dv Zc (xs.take i)*2^s/\Zj H s'.H/\Ym H.n s'.H c0 (L++c::List.replicate m 0)/\s'.tm.get 1=some (.int .u64 (s:Int))/\s'.tm.get 5=some c0/\s'.tm.get 12=some v/\s'.tm.get 13=some (.int .i64 (xs.length:Int))/\s'.tm.get 14=some (.int .i64 (i:Int))) ?_ xs.length _ ⟨rfl,0,0,[],by omega,rfl,Nat.two_pow_pos s,.nil _,by simp[dv],k1,o1,by simp,by simp,by simp,by simp,by simp⟩;rintro m ⟨k,tm,H2⟩ ⟨hk,i,c,L,Kv,hL,hc,dL,hv,kH,own,t1,t5,t12,t13,t14⟩ Q' YA;simp only at hk t1 t5 t12 t13 t14 kH own;subst hk;apply Za;intro b3 Z4;simp[t13,t14];subst Z4;apply Zi;intro b3 Z4;by_cases hi:i<xs.length
 ·refine Zb (t:=true) (by simp[hi]) ?_;apply Zr;subst Z4;have s2:=hs.keep kH;have a1:=s2.adr Zu (k:= .i64) hi;have d1:=s2.load hi;have hx:xs[i]<Zc:=dx.get (List.getElem?_eq_getElem hi);obtain⟨m',rfl⟩: ∃m',m=m'+1:=⟨m-1,by omega⟩;have dU:(L++c::List.replicate (m'+1) 0).length=xs.length+1:=by simp;omega
  have xY:=own.sl;have a2:=xY.adr Zu (k:= .i64) (i:=i) (by omega);have d2:=xY.load (i:=i) (by omega);rw[Nb L c _ hL]at d2;have Bd:c<Zc:=Nat.lt_of_lt_of_le hc (by show 2^s<=2^64;exact Nat.pow_le_pow_right (by decide) (by omega));have hm:xs[i]*2^s%Zc<Zc:=Nat.mod_lt _ (by decide);have hor:c|||xs[i]*2^s%Zc=xs[i]*2^s%Zc+c:=by obtain⟨a,e1,_⟩:=FG (x:=xs[i]) cE;rw[Nat.or_comm,e1,Cg hc]
  obtain⟨H3,Sx,Rc,n3,kp3⟩:=own.store (i:=i) (by omega) (xs[i]*2^s%Zc+c);rw[WL L c _ _ hL]at Rc;have a3:=Rc.sl.adr Zu (k:= .i64) (i:=i+1) (by simp;omega);obtain⟨H4,Tq,Vr,n4,wE⟩:=Rc.store (i:=i+1) (by simp;omega) (xs[i]/2^(64-s));have TU:(L++(xs[i]*2^s%Zc+c)::List.replicate (m'+1) 0).set (i+1) (xs[i]/2^(64-s))=(L++[xs[i]*2^s%Zc+c])++(xs[i]/2^(64-s))::List.replicate m' 0:=by rw[show L++(xs[i]*2^s%Zc+c)::List.replicate (m'+1) 0=(L++[xs[i]*2^s%Zc+c])++0::List.replicate m' 0 by simp[List.replicate_succ]];exact WL _ _ _ _ (by simp[hL])
  rw[TU]at Vr;have sh2:YC .shr .u64 ((xs[i]/2:Nat):Int) ((63-s:Nat):Int)=some (.int .u64 ((xs[i]/2^(64-s):Nat):Int)):=by rw[SD (by omega),Nat.div_div_eq_div_mul];rw[show 2*2^(63-s)=2^(64-s) by rw[<-Nat.pow_succ',show(63-s).succ=64-s by omega]]
  have sh1:YC .shr .u64 (xs[i]:Int) 1=some (.int .u64 ((xs[i]/2:Nat):Int)):=SD (s:=1) (by omega);have sb:Zd .sub .u64 63 (s:Int)=some (.int .u64 ((63-s:Nat):Int)):=T1 (x:=63) (by decide) (by omega);apply Zi;intro b3 Z4;apply ZR;apply Za;intro b4 Yy;simp[t12,t14,a1,d1];subst Yy;apply Za;intro b4 Yy;simp[t1,t5,a2,d2,T0 (x:=xs[i]) (s:=s) (by omega),KI Bd hm,hor,Sx];subst Yy;apply Zl;simp[t1,t5,YU (x:=i) (by omega),sh1,sb,sh2,a3,Tq];subst Z4;apply Zl;simp[t14,YU (x:=i) (by omega)];apply YA;refine⟨m',by omega,rfl,i+1,xs[i]/2^(64-s),L++[xs[i]*2^s%Zc+c],by omega,by simp[hL],?_,?_,?_,wE H (kp3 H kH (Nat.le_refl _)) (Nat.le_refl _),?_,?_⟩;·rw[Nat.div_lt_iff_lt_mul (Nat.two_pow_pos _),<-Nat.pow_add,show s+(64-s)=64 by omega];exact hx
  ·exact dL.append (.cons (eO cE hc) (.nil _))
  ·rw[Yn,hL,Xc hi,Yn,List.length_take,Nat.min_eq_left (by omega)];simp only[dv,Nat.mul_zero,Nat.add_zero];have e1:=KV (x:=xs[i]) cE;generalize hq:xs[i]*2^s%Zc=q at e1⊢;generalize xs[i]/2^(64-s)=r at e1⊢;rw[Nat.add_mul,<-hv,Nat.mul_assoc (Zc^i) xs[i],e1,Nat.pow_succ,Nat.mul_assoc (Zc^i) Zc r,Nat.mul_add,Nat.mul_add];omega
  ·simpa using Vr
  ·exact⟨by simp[t1],by simp[t5],by simp[t12],by simp[t13],by simp⟩
 ·refine Zb (t:=false) (by simp[hi]) ?_;apply YN;apply YA;left;refine⟨rfl,?_⟩;have UZ:i=xs.length:=by omega
  obtain rfl:m=0:=by omega
  subst Zf;apply Za;intro b4 Yy;simp[t5];subst Yy;apply ZZ;simp;refine⟨kH,L++[c],by simpa using own,?_,by simp[hL,UZ],?_⟩;·have Bd:c<Zc:=Nat.lt_of_lt_of_le hc (by show 2^s<=2^64;exact Nat.pow_le_pow_right (by decide) (by omega));exact dL.append (.cons Bd (.nil _))
  ·rw[Yn,hL];simp only[dv,Nat.mul_zero,Nat.add_zero];rw[hv,UZ,List.take_length]
theorem GN{x:Nat}(hx:x<Zc):Zd .and .u64 (x:Int) 4294967295=some (.int .u64 ((x%4294967296:Nat):Int)):=by have:=iy (x:=x) (y:=4294967295) hx (by decide);rw[show x&&&4294967295=x%4294967296 from Nat.and_two_pow_sub_one_eq_mod x 32]at this;exact this
theorem fI{x:Nat} :YC .shr .u64 (x:Int) 32=some (.int .u64 ((x/4294967296:Nat):Int)):=SD (x:=x) (s:=32) (by omega)
theorem mul64_arith {x y : Nat} (hx : x < Zc) (hy : y < Zc) :
    let x0 := x % 4294967296; let x1 := x / 4294967296; let y0 := y % 4294967296; let y1 := y / 4294967296
    let w0 := x0 * y0 % Zc
    let t := (x1 * y0 % Zc + w0 / 4294967296) % Zc
    let w1 := (t % 4294967296 + x0 * y1 % Zc) % Zc
    ((x1 * y1 % Zc + t / 4294967296) % Zc + w1 / 4294967296) % Zc = x * y / Zc := by
  intro x0 x1 y0 y1 w0 t w1
  have hx : x < 18446744073709551616 := hx
  have hy : y < 18446744073709551616 := hy
  have a0 : x0 <= 4294967295 := by show x % 4294967296 <= _; omega
  have a1 : x1 <= 4294967295 := by show x / 4294967296 <= _; omega
  have b0 : y0 <= 4294967295 := by show y % 4294967296 <= _; omega
  have b1 : y1 <= 4294967295 := by show y / 4294967296 <= _; omega
  have ex : x = 4294967296 * x1 + x0 := (Nat.div_add_mod x 4294967296).symm
  have ey : y = 4294967296 * y1 + y0 := (Nat.div_add_mod y 4294967296).symm
  have p00 : x0 * y0 <= 18446744065119617025 := Nat.mul_le_mul a0 b0
  have p10 : x1 * y0 <= 18446744065119617025 := Nat.mul_le_mul a1 b0
  have p01 : x0 * y1 <= 18446744065119617025 := Nat.mul_le_mul a0 b1
  have p11 : x1 * y1 <= 18446744065119617025 := Nat.mul_le_mul a1 b1
  have e : x * y = 18446744073709551616 * (x1 * y1) + 4294967296 * (x1 * y0) + 4294967296 * (x0 * y1) + x0 * y0 := by
    rw [ex, ey]
    simp only [Nat.mul_add, Nat.add_mul]
    rw [show 4294967296 * x1 * (4294967296 * y1) = 18446744073709551616 * (x1 * y1) by rw [Nat.mul_mul_mul_comm]]
    rw [Nat.mul_assoc 4294967296 x1 y0, Nat.mul_left_comm x0 4294967296 y1]
    omega
  rw [e]
  show ((x1 * y1 % 18446744073709551616 + t / 4294967296) % 18446744073709551616 + w1 / 4294967296) % 18446744073709551616 = _ / 18446744073709551616
  have js : w0 = x0 * y0 := Nat.mod_eq_of_lt (by show _ < 18446744073709551616; omega)
  have ht : t = x1 * y0 + x0 * y0 / 4294967296 := by
    show (x1 * y0 % 18446744073709551616 + w0 / 4294967296) % 18446744073709551616 = _
    rw [js]; omega
  have Lj : w1 = t % 4294967296 + x0 * y1 := by
    show (t % 4294967296 + x0 * y1 % 18446744073709551616) % 18446744073709551616 = _
    omega
  generalize x1 * y1 = p11 at *
  generalize x1 * y0 = p10 at *
  generalize x0 * y1 = p01 at *
  generalize x0 * y0 = p00 at *
  clear_value t w1
  omega
theorem Ca{x y:Nat}(hx:x<Zc)(hy:y<Zc){H:AH} :CW Tryz.prog ZY 202 [.int .u64 (x:Int),.int .u64 (y:Int)] H fun v H'=>H'=H/\v= .tuple #[.int .u64 ((x*y/Zc:Nat):Int),.int .u64 ((x*y%Zc:Nat):Int)]:=by
 refine Yd 51 Tryz.func202 ?_;have ht: ∀z:Nat,z%Zc<Zc:=fun z=>Nat.mod_lt _ (by decide);have key:=mul64_arith hx hy;simp only at key;iterate 12 apply Za;intro b hb;simp[GN hx,GN hy,fI,TB,Ti,GN (ht _)];subst hb
 apply ZZ;simp;have wH:=key;simp only[Nat.mod_add_mod,Nat.add_mod_mod]at wH;rw[<-wH]
section
theorem Ym.cut{n0:Nat}{H:AH}{v:Value}{xs:List Nat}(h:Ym n0 H v xs){t:TypeId}(ht:LT t){m:Nat}(hm:m<=xs.length)(h0:0<xs.length): ∃v',Ve Tryz.prog H t v none (some (.int .i64 (m:Int))) none=some v'/\Ym n0 H v' (xs.take m):=by cases h with
 |nil=>cases h0
 |mk b o cap xs cs h1 h2 h3 h4 h5 h6=>
  have hl:(xs.take m).length=m:=by rw[List.length_take];omega
  have XG:H.size b=some 1:=by unfold AH.size;rw[h4]
  refine⟨.slice (some ⟨b,o,none⟩) (xs.take m).length cap,?_,.mk b o cap _ cs (by omega) h2 h3 h4 h5 fun i x hx=>h6 i x ?_⟩;·unfold Ve;simp only[ht.1,NX];unfold Jw Xk;simp only[XG,Option.isSome_some,Option.isNone_none,Bool.true_or];rw[if_pos (by omega)];have e1:Nat.ble m cap=true:=Nat.ble_eq.mpr (by omega);simp[Xk,e1,hl]
  ·rw[List.getElem?_take]at hx;split at hx;·exact hx
   ·cases hx
attribute [local simp] strip ZQ Xj gW ZF Ya ZX Yb ZJ Yc Zs Zt Zg ZI Z5 ZN ZH Zh Z6 YF Yw ZK plain ZM Tr.get_set Yu Zp Yq ZV sameKind Zd undef Zv ZG Z3 Zu ZA Yh ZW
theorem EI{v:Value}{xs:List Nat}{H:AH}{n0:Nat}(hs:Ym n0 H v xs)(hlen:xs.length<1152921504606846976):CW Tryz.prog ZY 160 [v] H fun v' H'=>H'=H/\Ym n0 H v' (YZ xs):=by
 refine Yd 21 Tryz.func160 ?_;apply Za;intro b1 Zf;simp;subst Zf;apply Zi;intro b1 Zf;apply ZR;refine I9 (fun n s=>s.k=21/\s.H=H/\ ∃v',s.tm.get 0=some v'/\n<=xs.length/\Ym n0 H v' (xs.take n)/\YZ (xs.take n)=YZ xs) ?_ xs.length _ ⟨rfl,rfl,v,by simp,Nat.le_refl _,by rw[List.take_length];exact hs,by rw[List.take_length]⟩;rintro n ⟨k,tm,H'⟩ ⟨h2,h3,v',h4,h5,h6,h7⟩;simp only at h2 h3 h4;subst h2;subst h3;have hl:(xs.take n).length=n:=by rw[List.length_take];omega
 have Ng:=h6.sl.len Zu;rw[hl]at Ng;apply Zi;intro b2 ZT;apply Za;intro b3 Z4;by_cases hz:n=0;·subst hz;simp[h4,Ng];subst Z4;refine Zb (t:=false) (by simp) ?_;apply YN;left;refine⟨rfl,?_⟩;subst Zf;apply Za;intro b4 Yy;simp[h4];subst Yy;apply ZZ;simp;rw[<-h7];exact h6
 ·have hn:0<n:=Nat.pos_of_ne_zero hz;have hw:IntKind.i64.wrap ((n:Int)-1)=((n-1:Nat):Int):=Mx hn (by omega);have hi:n-1<(xs.take n).length:=by omega
  have ha:=h6.sl.adr Zu (k:= .i64) hi;have Y1:=h6.sl.load hi;simp[h4,Ng,hn,hw,ha,Y1];subst Z4;have hx:n-1<xs.length:=by omega
  have QL:xs.take n=xs.take (n-1)++[xs[n-1]]:=by have:=List.take_append_getElem (l:=xs) (i:=n-1) hx;rw[this,show n-1+1=n by omega]
  by_cases h0:xs[n-1]=0
  ·refine Zb (t:=true) (by simp[h0]) ?_;apply Zr;subst ZT;apply ZR;apply Zl;obtain⟨v2,hv2,DL⟩:=h6.cut Zu (m:=n-1) (by omega) (by omega);simp[h4,Ng,hw,hv2];refine⟨n-1,by omega,rfl,rfl,v2,by simp,by omega,?_,?_⟩;·rw[List.take_take,show min (n-1) n=n-1 by omega]at DL;exact DL
   ·rw[<-h7,QL,h0,VM]
  ·refine Zb (t:=false) (by simp;exact h0) ?_;apply YN;left;refine⟨rfl,?_⟩;subst Zf;apply Za;intro b4 Yy;simp[h4];subst Yy;apply ZZ;simp;rw[<-h7];have:YZ (xs.take n)=xs.take n:=by rw[QL];exact SZ _ _ h0
   rw[this];exact h6
theorem PV{v:Value}{xs:List Nat}{H:AH}{n0:Nat}(hs:Ym n0 H v xs)(dx:YH Zc xs)(hlen:xs.length<=17592186044416):CW Tryz.prog ZY 204 [v] H fun v' H'=>H'=H/\((67108864<Zq (dv Zc xs)/\v'= .tuple #[.slice none 0 0,.int .i64 3])\/(Zq (dv Zc xs)<=67108864/\ ∃u,v'= .tuple #[u,.int .i64 0]/\Ym n0 H u (ds Zc (dv Zc xs)))):=by
 refine Yd 10 Tryz.func204 ?_;obtain⟨v1,H1,Nd,e1,s1⟩:=EI hs (by omega);subst e1;have dt:=XT dx;obtain⟨v2,H2,Jm,e2,e3⟩:=W4 s1.sl dt (Nat.le_trans (XS xs) hlen);subst e2;subst e3;rw[Wp]at Jm;rw[Xi Z2 dx]at s1;apply Zi;intro b1 Zf;apply Zl;simp;subst Zf;apply Zi;intro b1 Zf;apply Zl;simp[Nd];subst Zf;apply Zi;intro b1 Zf;apply Zi;intro b2 ZT;apply Zl;simp[Jm];subst ZT;by_cases h:67108864<Zq (dv Zc xs);·refine Zb (t:=true) (by simp;omega) ?_;apply Zi;intro b2 ZT;apply Zl;simp;subst ZT;apply ZZ;simp[YQ,h]
 ·refine Zb (t:=false) (by simp;omega) ?_;apply Zr;subst Zf;apply Zi;intro b2 ZT;apply Zl;simp;subst ZT;apply ZZ;simp[h];exact⟨by omega,s1⟩
end
def nth(xs:List Nat)(i:Nat):Nat:=xs[i]?.getD 0
theorem XM{xs:List Nat}{i:Nat}(h:i<xs.length):nth xs i=xs[i]:=by unfold nth;rw[List.getElem?_eq_getElem h];rfl
theorem VF{xs:List Nat}{i:Nat}(h:xs.length<=i):nth xs i=0:=by unfold nth;rw[List.getElem?_eq_none h];rfl
theorem Ad{v:Value}{xs:List Nat}{H:AH}(hs:Sl H v xs)(dx:YH Zc xs)(hlen:xs.length<=17592186044000){s:Nat}(cE:s<64):CW Tryz.prog ZY 219 [v,.int .u64 (s:Int)] H fun v' H'=>Zj H H'/\Ym H.n H' v' (ds Zc (dv Zc xs/2^s)):=by
 refine Yd 47 Tryz.func219 ?_;obtain⟨c0,H1,RH,k1,o1,n1⟩:=YK (H:=H) Zu (n:=xs.length) (by omega);have l0:=hs.len Zu;apply Za;intro b1 Zf;simp;subst Zf;apply Za;intro b1 Zf;simp[l0,RH];subst Zf;apply Zi;intro b1 Zf;apply Za;intro b2 ZT;simp[l0];subst ZT;apply ZR;refine YS (fun m s'=>s'.k=47/\ ∃(i:Nat) (L:List Nat),m+i=xs.length/\L.length=i/\YH Zc L/\dv Zc L*2^s+nth xs 0%2^s=dv Zc (xs.take i)+Zc^i*(nth xs i%2^s)/\Zj H s'.H/\Ym H.n s'.H c0 (L++List.replicate m 0)/\s'.tm.get 0=some v/\s'.tm.get 1=some (.int .u64 (s:Int))/\s'.tm.get 5=some c0/\s'.tm.get 11=some v/\s'.tm.get 12=some (.int .i64 (xs.length:Int))/\s'.tm.get 13=some (.int .i64 (i:Int))) ?_ xs.length _ ⟨rfl,0,[],by omega,rfl,.nil _,by simp[dv],k1,o1,by simp,by simp,by simp,by simp,by simp,by simp⟩;rintro m ⟨k,tm,H2⟩ ⟨hk,i,L,Kv,hL,dL,hv,kH,own,t0,t1,t5,t11,t12,t13⟩ Q' YA;simp only at hk t0 t1 t5 t11 t12 t13 kH own;subst hk;apply Za;intro b3 Z4;simp[t12,t13];subst Z4;apply Zi;intro b3 Z4;by_cases hi:i<xs.length
 ·refine Zb (t:=true) (by simp[hi]) ?_;apply Zr;subst Z4;have s2:=hs.keep kH;have a1:=s2.adr Zu (k:= .i64) hi;have d1:=s2.load hi;have hx:xs[i]<Zc:=dx.get (List.getElem?_eq_getElem hi);obtain⟨m',rfl⟩: ∃m',m=m'+1:=⟨m-1,by omega⟩;have xZ:Ym H.n H2 c0 (L++0::List.replicate m' 0):=by rw[List.replicate_succ]at own;exact own
  have a2:=xZ.sl.adr Zu (k:= .i64) (i:=i) (by simp;omega);have hq:xs[i]/2^s<2^(64-s):=by rw[Nat.div_lt_iff_lt_mul (Nat.two_pow_pos _),<-Nat.pow_add,show 64-s+s=64 by omega];exact hx
  have bb:xs[i]/2^s<Zc:=Nat.lt_of_lt_of_le hq (by show _<=2^64;exact Nat.pow_le_pow_right (by decide) (by omega));obtain⟨H3,Sx,Rc,n3,kp3⟩:=xZ.store (i:=i) (by simp;omega) (xs[i]/2^s);rw[WL L 0 _ _ hL]at Rc;have Jp:=kp3 H kH (Nat.le_refl _);apply Zi;intro b3 Z4;have low:nth xs (i+1)%2^s<2^s:=Nat.mod_lt _ (Nat.two_pow_pos _);have e64:2^s*2^(64-s)=Zc:=by rw[<-Nat.pow_add,show s+(64-s)=64 by omega]
  have fin: ∀(kU:Tr Value)(H4:AH),Zj H H4->Ym H.n H4 c0 (L++(nth xs (i+1)%2^s*2^(64-s)+xs[i]/2^s)::List.replicate m' 0)->kU.get 0=some v->kU.get 1=some (.int .u64 (s:Int))->kU.get 5=some c0->kU.get 11=some v->kU.get 12=some (.int .i64 (xs.length:Int))->kU.get 13=some (.int .i64 (i:Int))->W Tryz.prog ZY b3 ⟨47,kU,H4⟩ Q':=fun kU H4 k4 o4 q0 q1 q5 ri q12 q13=>by
   subst Z4;apply Zl;simp[q13,YU (x:=i) (by omega)];apply YA;refine⟨m',by omega,rfl,i+1,L++[nth xs (i+1)%2^s*2^(64-s)+xs[i]/2^s],by omega,by simp[hL],?_,?_,k4,by simpa using o4,by simp[q0],by simp[q1],by simp[q5],by simp[ri],by simp[q12],by simp⟩;·refine dL.append (.cons ?_ (.nil _));have:(nth xs (i+1)%2^s+1)*2^(64-s)<=2^s*2^(64-s):=Nat.mul_le_mul_right _ low;rw[e64,Nat.succ_mul]at this;omega
   ·rw[Yn,hL,Xc hi,Yn,List.length_take,Nat.min_eq_left (by omega)];simp only[dv,Nat.mul_zero,Nat.add_zero];rw[XM hi]at hv;have e1:2^s*(xs[i]/2^s)+xs[i]%2^s=xs[i]:=Nat.div_add_mod _ _;generalize nth xs (i+1)%2^s=u at*;generalize hr:xs[i]%2^s=r at*;generalize hqq:xs[i]/2^s=q at*;have e2:(u*2^(64-s)+q)*2^s=Zc*u+2^s*q:=by rw[Nat.add_mul,Nat.mul_assoc,Nat.mul_comm (2^(64-s)),e64,Nat.mul_comm u,Nat.mul_comm q]
    have e3:Zc^i*xs[i]=Zc^i*(2^s*q)+Zc^i*r:=by rw[<-Nat.mul_add,e1]
    rw[Nat.add_mul,Nat.mul_assoc (Zc^i),e2,Nat.mul_add,e3,Nat.pow_succ,Nat.mul_assoc (Zc^i) Zc u];omega
  apply ZR;apply Za;intro b4 Yy;simp[t11,t13,a1,d1];subst Yy;apply Za;intro b4 Yy;simp[t1,t5,t13,SD (x:=xs[i]) (s:=s) (by omega),a2,Sx];subst Yy;apply Za;intro b4 Yy;simp[t0,l0,YU (x:=i) (by omega)];subst Yy;by_cases Kr:i+1<xs.length
  ·refine Zb (t:=true) (by simp[Kr]) ?_;have s3:=hs.keep Jp;have a4:=s3.adr Zu (k:= .i64) Kr;have d4:=s3.load Kr;have a5:=Rc.sl.adr Zu (k:= .i64) (i:=i) (by simp;omega);have d5:=Rc.sl.load (i:=i) (by simp;omega);rw[Nb L _ _ hL]at d5;have sX:xs[i+1]<Zc:=dx.get (List.getElem?_eq_getElem Kr);have n1:nth xs (i+1)=xs[i+1]:=XM Kr;have sb:Zd .sub .u64 63 (s:Int)=some (.int .u64 ((63-s:Nat):Int)):=T1 (x:=63) (by decide) (by omega);have sh1:YC .shl .u64 (xs[i+1]:Int) 1=some (.int .u64 ((xs[i+1]*2%Zc:Nat):Int)):=T0 (s:=1) (by omega);have em:xs[i+1]*2%Zc*2^(63-s)%Zc=nth xs (i+1)%2^s*2^(64-s):=by rw[n1,Nat.mod_mul_mod,Nat.mul_assoc,show 2*2^(63-s)=2^(64-s) by rw[<-Nat.pow_succ',show(63-s).succ=64-s by omega],<-e64,Nat.mul_mod_mul_right]
   have sh2:YC .shl .u64 ((xs[i+1]*2%Zc:Nat):Int) ((63-s:Nat):Int)=some (.int .u64 ((nth xs (i+1)%2^s*2^(64-s):Nat):Int)):=by rw[T0 (by omega),em]
   have hwB:nth xs (i+1)%2^s*2^(64-s)<Zc:=by rw[<-em];exact Nat.mod_lt _ (by decide)
   have hor:xs[i]/2^s|||nth xs (i+1)%2^s*2^(64-s)=nth xs (i+1)%2^s*2^(64-s)+xs[i]/2^s:=by rw[Nat.or_comm,Cg hq]
   obtain⟨H4,WQ,Vr,n4,wE⟩:=Rc.store (i:=i) (by simp;omega) (nth xs (i+1)%2^s*2^(64-s)+xs[i]/2^s);rw[WL L _ _ _ hL]at Vr;apply lM (by kernel_rfl);simp[t0,t1,t5,a4,d4,a5,d5,YU (x:=i) (by omega),sb,sh1,sh2,KI bb hwB,hor,WQ];exact fin _ _ (wE H Jp (Nat.le_refl _)) Vr (by simp[t0]) (by simp[t1]) (by simp[t5]) (by simp[t11]) (by simp[t12]) (by simp[t13])
  ·refine Zb (t:=false) (by simp[Kr]) ?_;apply Zr;have n0:nth xs (i+1)=0:=VF (by omega);exact fin _ _ Jp (by rw[n0];simpa using Rc) (by simp[t0]) (by simp[t1]) (by simp[t5]) (by simp[t11]) (by simp[t12]) (by simp[t13])
 ·refine Zb (t:=false) (by simp[hi]) ?_;apply YN;apply YA;left;refine⟨rfl,?_⟩;obtain rfl:m=0:=by omega
  have UZ:i=xs.length:=by omega
  obtain⟨v5,H5,N7,k5,o5⟩:=Vl own.sl (by simp;omega);subst Zf;apply Za;intro b4 Yy;simp[t5,N7];subst Yy;apply ZZ;simp;refine⟨kH.trans k5,?_⟩;have e:dv Zc xs/2^s=dv Zc L:=by rw[UZ,VF (Nat.le_refl _),List.take_length,Nat.zero_mod,Nat.mul_zero,Nat.add_zero]at hv;rw[<-hv,Nat.add_comm,Nat.add_mul_div_right _ _ (Nat.two_pow_pos _),Nat.div_eq_of_lt (Nat.mod_lt _ (Nat.two_pow_pos _)),Nat.zero_add]
  rw[e,<-Xi Z2 dL];have zS:Ym H2.n H5 v5 (YZ L):=by simpa using o5
  exact zS.mono kH.n (.refl H5)
end
end
end Go.Proofs.YtmkfecoeghokfaaGreatDoor
namespace Go.Proofs.YtmkfecoeghokfaaGreatDoor
set_option linter.unusedVariables false
set_option maxHeartbeats 2000000
set_option maxRecDepth 20000
theorem C4{b y1 y0 u d q r:Nat}(hq:q*y1+r=u):u*b+d=q*(y1*b)+(b*r+d):=by rw[<-hq,Nat.add_mul,Nat.mul_assoc,Nat.mul_comm r b];omega
theorem cT{b y1 y0 u d q r:Nat}(hq:q*y1+r=u)(hu:u<y1*b+y0)(hd:d<b)(ht:b<=q\/b*r+d<q*y0):(u*b+d)/(y1*b+y0)<q:=by
 have hy:0<y1*b+y0:=by omega
 rw[Nat.div_lt_iff_lt_mul hy];rcases ht with ht|ht;·have h1:(u+1)*b<=(y1*b+y0)*b:=Nat.mul_le_mul_right _ hu;have h2:b*(y1*b+y0)<=q*(y1*b+y0):=Nat.mul_le_mul_right _ ht;rw[Nat.succ_mul]at h1;rw[Nat.mul_comm b]at h2;omega
 ·rw[C4 (y0:=y0) (d:=d) (b:=b) hq,Nat.mul_add];omega
theorem J8{b y1 y0 u d q r:Nat}(hq:q*y1+r=u)(hy:0<y1*b+y0)(ht:q*y0<=b*r+d):q<=(u*b+d)/(y1*b+y0):=by rw[Nat.le_div_iff_mul_le hy,C4 (y0:=y0) (d:=d) (b:=b) hq,Nat.mul_add];omega
theorem Ag{b y1 y0 u d:Nat}(h1:0<y1)(hd:d<b):(u*b+d)/(y1*b+y0)<=u/y1:=by
 have hb:0<b:=by omega
 have hy:0<y1*b+y0:=by have:=Nat.mul_pos h1 hb;omega
 have h2:(u*b+d)/(y1*b+y0)<=(u*b+d)/(y1*b):=by rw[Nat.le_div_iff_mul_le (Nat.mul_pos h1 hb)];have:=Nat.div_mul_le_self (u*b+d) (y1*b+y0);rw[Nat.mul_add]at this;omega
 have h3:(u*b+d)/(y1*b)=u/y1:=by rw[Nat.mul_comm y1 b,<-Nat.div_div_eq_div_mul,Nat.add_comm,Nat.add_mul_div_right _ _ hb,Nat.div_eq_of_lt hd,Nat.zero_add]
 omega
theorem Ah{b y1 y0 u:Nat}(h1:b<=2*y1)(h0:y0<b)(hu:u<y1*b+y0)(hp:0<y1):u/y1<=b+1:=by
 have:u/y1<b+2:=by rw[Nat.div_lt_iff_lt_mul hp,Nat.add_mul,Nat.mul_comm b y1];omega
 omega
end Go.Proofs.YtmkfecoeghokfaaGreatDoor
namespace Go.Proofs.YtmkfecoeghokfaaGreatDoor
open Go Ev
set_option linter.unusedVariables false
set_option linter.unusedSimpArgs false
noncomputable section
set_option maxHeartbeats 2000000
set_option maxRecDepth 20000
section
attribute [-simp] Int.natCast_add Int.natCast_mul Int.natCast_ediv Int.natCast_emod Int.natCast_pow
attribute [local simp] strip ZQ Xj gW ZF Ya ZX Yb ZJ Yc Zs Zt Zg ZI Z5 ZN ZB Zk ZH Zh Ze ZC ZD YW Zo Z6 YF Yw ZK plain ZM Tr.get_set Yu Zp Yq ZV sameKind undef Zv ZG Z3 Zu ZA Yh ZW parts ZE Xw DW Yf Zw Zz Zn ZL ZS Xt Yg Zm ZP Zy ZO
theorem Nz{x y:Nat}(hx:x<Zc)(hy:0<y):Zd .quo .u64 (x:Int) (y:Int)=some (.int .u64 ((x/y:Nat):Int)):=by
 have hx:x<18446744073709551616:=hx;have hle:x/y<=x:=Nat.div_le_self x y;have h0: ¬ ((y:Int)=0):=by omega
 have e:IntKind.u64.wrap ((x:Int).tdiv (y:Int))=((x/y:Nat):Int):=by rw[IntKind.wrap_u64,Int.tdiv_eq_ediv_of_nonneg (by omega),<-Int.natCast_ediv];generalize x/y=q at*;omega
 show(if(y:Int)=0 then none else some (Value.int .u64 (IntKind.u64.wrap ((x:Int).tdiv (y:Int)))))=_;rw[if_neg h0,e]
theorem BR{x y:Nat}(hy:0<y):Zd .rem .u64 (x:Int) (y:Int)=some (.int .u64 ((x%y:Nat):Int)):=by
 have h0: ¬ ((y:Int)=0):=by omega
 have e:(x:Int).tmod (y:Int)=((x%y:Nat):Int):=by rw[Int.tmod_eq_emod_of_nonneg (by omega),<-Int.natCast_emod]
 show(if(y:Int)=0 then none else some (Value.int .u64 ((x:Int).tmod (y:Int))))=_;rw[if_neg h0,e]
theorem EP{x y:Nat}(hy:y<=Zc):Zd .sub .u64 (x:Int) (y:Int)=some (.int .u64 (((x+Zc-y)%Zc:Nat):Int)):=by
 have hy:y<=18446744073709551616:=hy;have e:IntKind.u64.wrap ((x:Int)-(y:Int))=(((x+18446744073709551616-y)%18446744073709551616:Nat):Int):=by rw[IntKind.wrap_u64];omega
 show some (Value.int .u64 (IntKind.u64.wrap ((x:Int)-(y:Int))))=_;rw[e]
theorem Et{u b d q y:Nat}(hy:y<Zc)(Lk:0<y)(hq:q=(u*b+d)/y):((u*b%Zc+d)%Zc+Zc-q*y%Zc)%Zc=(u*b+d)%y:=by have e:=Nat.div_add_mod (u*b+d) y;rw[<-hq,Nat.mul_comm y q]at e;have hr:(u*b+d)%y<y:=Nat.mod_lt _ Lk;generalize(u*b+d)%y=r at*;generalize q*y=p at*;rw[Nat.mod_add_mod,<-e];have hy:y<18446744073709551616:=hy;show((p+r)%18446744073709551616+18446744073709551616-p%18446744073709551616)%18446744073709551616=r;omega
abbrev Yk:Nat:=4294967296
theorem Aq{x:Nat} :Zd .geq .u64 (x:Int) 4294967296=some (.bool (decide (4294967296<=x))):=HW (y:=4294967296)
theorem mulL{x:Nat} :Zd .mul .u64 4294967296 (x:Int)=some (.int .u64 ((4294967296*x%Zc:Nat):Int)):=TB (x:=4294967296)
theorem mulR{x:Nat} :Zd .mul .u64 (x:Int) 4294967296=some (.int .u64 ((x*4294967296%Zc:Nat):Int)):=TB (y:=4294967296)
theorem NW{x:Nat}(hx:x<Zc)(h:0<x):Zd .sub .u64 (x:Int) 1=some (.int .u64 ((x-1:Nat):Int)):=T1 (y:=1) hx h
structure nL (y1 y0 u d q r : Nat) : Prop where
  y1lo : 2147483648 <= y1
  CS : y1 < 4294967296
  lj : y0 < 4294967296
  uhi : u < y1 * 4294967296 + y0
  dhi : d < 4294967296
  eq : q * y1 + r = u
  ge : (u * 4294967296 + d) / (y1 * 4294967296 + y0) <= q
  rhi : r < 4294967296
  qhi : q <= 4294967297
def La(y0 d q r:Nat):Bool:=decide (4294967296<=q)||decide (4294967296*r+d<q*y0)
theorem nL.down{y1 y0 u d q r:Nat}(h:nL y1 y0 u d q r)(ht:La y0 d q r=true):0<q/\(q-1)*y1+(r+y1)=u/\(u*4294967296+d)/(y1*4294967296+y0)<=q-1/\q-1<=4294967296:=by
 have Bm:4294967296<=q\/4294967296*r+d<q*y0:=by simpa[La]using ht
 have h1:=cT h.eq h.uhi h.dhi Bm;have hq:0<q:=Nat.lt_of_le_of_lt (Nat.zero_le _) h1;refine⟨hq,?_,Nat.le_sub_one_of_lt h1,by have:=h.qhi;omega⟩;obtain⟨q',rfl⟩: ∃q',q=q'+1:=⟨q-1,by omega⟩;have:=h.eq;rw[Nat.succ_mul]at this;rw[Nat.add_sub_cancel];omega
theorem nL.stop{y1 y0 u d q r:Nat}(h:nL y1 y0 u d q r)(ht:La y0 d q r=false):q=(u*4294967296+d)/(y1*4294967296+y0)/\q<4294967296:=by
 have Bm:q<4294967296/\q*y0<=4294967296*r+d:=by simpa[La]using ht
 have:=J8 h.eq (by have:=h.y1lo;omega) Bm.2;exact⟨Nat.le_antisymm this h.ge,Bm.1⟩
theorem J7{y1 y0 u d q r:Nat}(y1lo:2147483648<=y1)(lj:y0<4294967296)(uhi:u<y1*4294967296+y0)(dhi:d<4294967296)(eq:q*y1+r=u)(ge:(u*4294967296+d)/(y1*4294967296+y0)<=q)(hr:4294967296<=r)(hq:q<=4294967296):q=(u*4294967296+d)/(y1*4294967296+y0)/\q<4294967296:=by
 have h1:q*y0<=4294967296*r+d:=by have a:q*y0<=4294967296*y0:=Nat.mul_le_mul_right _ hq;omega
 have h2:=J8 eq (show 0<y1*4294967296+y0 by omega) h1;have h3:q=(u*4294967296+d)/(y1*4294967296+y0):=Nat.le_antisymm h2 ge;refine⟨h3,?_⟩;rw[h3,Nat.div_lt_iff_lt_mul (by omega)];have:(u+1)*4294967296<=(y1*4294967296+y0)*4294967296:=Nat.mul_le_mul_right _ uhi;rw[Nat.succ_mul,Nat.mul_comm (y1*4294967296+y0)]at this;omega
theorem J9{y1 y0 u d:Nat}(y1lo:2147483648<=y1)(CS:y1<4294967296)(lj:y0<4294967296)(uhi:u<y1*4294967296+y0)(dhi:d<4294967296):nL y1 y0 u d (u/y1) (u%y1):=⟨y1lo,CS,lj,uhi,dhi,by rw[Nat.mul_comm];exact Nat.div_add_mod u y1,Ag (by omega) dhi,Nat.lt_of_lt_of_le (Nat.mod_lt _ (by omega)) (by omega),Ah (by omega) lj uhi (by omega)⟩
theorem oM{x:Nat} :Zd .eql .u64 (x:Int) 0=some (.bool (decide (x=0))):=Pm (y:=0)
theorem PG{n:Nat}(h:n<Zc):Sh Tryz.prog 3 228 (.int .i64 (n:Int))=some (.int .u64 (n:Int)):=by
 have h:n<18446744073709551616:=h;have e:IntKind.u64.wrap (n:Int)=(n:Int):=by rw[IntKind.wrap_u64];omega
 unfold Sh;simp only[Tryz.underlying3,Tryz.underlying228,e]
theorem aT{U N1 N0 b B yn qh u2 ql r3:Nat}(e1:yn*qh+u2=U*b+N1)(e2:yn*ql+r3=u2*b+N0)(hB:B=b*b):U*B+(N1*b+N0)=yn*(qh*b+ql)+r3:=by
 subst hB;have e3:(yn*qh+u2)*b=(U*b+N1)*b:=by rw[e1]
 rw[Nat.add_mul,Nat.add_mul,Nat.mul_assoc,Nat.mul_assoc]at e3;rw[Nat.mul_add];omega
theorem Dk{h l y:Nat}(hh:h<y)(hl:l<Zc)(hy:y<Zc){H:AH} :CW Tryz.prog ZY 205 [.int .u64 (h:Int),.int .u64 (l:Int),.int .u64 (y:Int)] H fun v H'=>H'=H/\v= .tuple #[.int .u64 (((h*Zc+l)/y:Nat):Int),.int .u64 (((h*Zc+l)%y:Nat):Int)]:=by
 refine Yd 135 Tryz.func205 ?_;have y0:0<y:=by omega
 apply Za;intro b1 Zf;simp;subst Zf;apply Zi;intro b1 Zf;apply Za;intro b2 ZT;simp[oM];subst ZT;refine Zb (t:=false) (by simp;omega) ?_;apply Zr;subst Zf;apply Zi;intro b1 Zf;apply Za;intro b2 ZT;simp[Pq];subst ZT;refine Zb (t:=false) (by simp;omega) ?_;apply Zr;subst Zf;apply Zi;intro b1 Zf;apply Za;intro b2 ZT;simp[oM];subst ZT;by_cases h0:h=0;·subst h0;refine Zb (t:=true) (by simp) ?_;apply Zi;intro b2 ZT;apply SR (by kernel_rfl);simp[Nz hl y0,BR (x:=l) y0];subst ZT;apply ZZ;simp[YQ]
 ·refine Zb (t:=false) (by simp;omega) ?_;apply Zr;subst Zf;obtain⟨v1,H1,Nd,e1,e2⟩:=Bx (H:=H) hy;subst e1;subst e2;have jb:Zq y<=64:=by
   rcases Nat.lt_or_ge 64 (Zq y)with h|h;·have a:=WN (n:=y) (by omega);have b:2^64<=2^(Zq y-1):=Nat.pow_le_pow_right (by decide) (by omega);have hy:y<18446744073709551616:=hy;omega
   ·exact h
  have hbl0:0<Zq y:=by unfold Zq;rw[if_neg (by omega)];omega
  obtain⟨s,hs⟩:=hid (64-Zq y);have cE:s<64:=by omega
  have es:(64-(Zq y:Int))=(s:Int):=by omega
  rw[es]at Nd;have ylt:y<2^(64-s):=by have:=Ww y;rwa[show Zq y=64-s by omega]at this
  have yge:2^(63-s)<=y:=by have:=WN (n:=y) (by omega);rwa[show Zq y-1=63-s by omega]at this
  apply Za;intro b1 Zf;simp[Nd,PG (n:=s) (Nat.lt_trans cE (by decide))];subst Zf;have eB:Zc=2^(64-s)*2^s:=by rw[<-Nat.pow_add,show 64-s+s=64 by omega]
  obtain⟨yn,sV⟩:=hid (y*2^s);have CR:yn<Zc:=by rw[sV,eB];exact Nat.mul_lt_mul_of_pos_right ylt (Nat.two_pow_pos s)
  have ynge:9223372036854775808<=yn:=by have:2^(63-s)*2^s<=y*2^s:=Nat.mul_le_mul_right _ yge;rw[<-Nat.pow_add,show 63-s+s=63 by omega,<-sV]at this;exact this
  have PQ:l/2^(64-s)<2^s:=by rw[Nat.div_lt_iff_lt_mul (Nat.two_pow_pos _),<-Nat.pow_add,show s+(64-s)=64 by omega];exact hl
  obtain⟨u,hu⟩:=hid (h*2^s+l/2^(64-s));have hhs:h*2^s+2^s<=yn:=by rw[sV,<-Nat.succ_mul];exact Nat.mul_le_mul_right _ hh
  have ult:u<yn:=by omega
  obtain⟨n,hn⟩:=hid (l*2^s%Zc);have nlt:n<Zc:=by rw[hn];exact Nat.mod_lt _ (by decide)
  have total:(h*Zc+l)*2^s=u*Zc+n:=by have:=KV (x:=l) cE;rw[<-hn]at this;rw[Nat.add_mul,this,hu,Nat.add_mul,Nat.mul_comm Zc (l/_),Nat.mul_assoc h,Nat.mul_comm Zc,<-Nat.mul_assoc];omega
  obtain⟨y1,sW⟩:=hid (yn/4294967296);obtain⟨w0,js⟩:=hid (yn%4294967296);have yW:yn=y1*4294967296+w0:=by omega
  have ynlt':yn<18446744073709551616:=CR;have y1lo:2147483648<=y1:=by omega
  have CS:y1<4294967296:=by omega
  have aN:w0<4294967296:=by omega
  obtain⟨n1,hn1⟩:=hid (n/4294967296);obtain⟨n0,Sb⟩:=hid (n%4294967296);have nlt':n<18446744073709551616:=nlt;have en:n=n1*4294967296+n0:=by omega
  have n1hi:n1<4294967296:=by omega
  have n0hi:n0<4294967296:=by omega
  have ulB:u<Zc:=Nat.lt_trans ult CR;have vG:=Nat.two_pow_pos s;have hhB:h*2^s<Zc:=by omega
  have hlB:l/2^(64-s)<Zc:=Nat.lt_of_le_of_lt (Nat.div_le_self _ _) hl;have f8:YC .shl .u64 (y:Int) (s:Int)=some (.int .u64 (yn:Int)):=by rw[T0 (by omega),<-sV,Nat.mod_eq_of_lt CR]
  have f9:YC .shr .u64 (yn:Int) 32=some (.int .u64 (y1:Int)):=by rw[fI,<-sW]
  have f10:Zd .and .u64 (yn:Int) 4294967295=some (.int .u64 (w0:Int)):=by rw[GN CR,<-js]
  have f11a:YC .shl .u64 (h:Int) (s:Int)=some (.int .u64 ((h*2^s:Nat):Int)):=by rw[T0 (by omega),Nat.mod_eq_of_lt hhB]
  have f11b:Zd .sub .u64 64 (s:Int)=some (.int .u64 ((64-s:Nat):Int)):=T1 (x:=64) (by decide) (by omega);have f11c:YC .shr .u64 (l:Int) ((64-s:Nat):Int)=some (.int .u64 ((l/2^(64-s):Nat):Int)):=SD (by omega);have f11d:Zd .or .u64 ((h*2^s:Nat):Int) ((l/2^(64-s):Nat):Int)=some (.int .u64 (u:Int)):=by rw[KI hhB hlB,Cg PQ,<-hu]
  have f12:YC .shl .u64 (l:Int) (s:Int)=some (.int .u64 (n:Int)):=by rw[T0 (by omega),<-hn]
  have f13:YC .shr .u64 (n:Int) 32=some (.int .u64 (n1:Int)):=by rw[fI,<-hn1]
  have f14:Zd .and .u64 (n:Int) 4294967295=some (.int .u64 (n0:Int)):=by rw[GN nlt,<-Sb]
  have f15:Zd .quo .u64 (u:Int) (y1:Int)=some (.int .u64 ((u/y1:Nat):Int)):=Nz ulB (by omega);have f16: ∀z:Nat,z<Zc->(Zd .mul .u64 ((z/y1:Nat):Int) (y1:Int)=some (.int .u64 ((z/y1*y1:Nat):Int))/\Zd .sub .u64 (z:Int) ((z/y1*y1:Nat):Int)=some (.int .u64 ((z%y1:Nat):Int))):=fun z hz=>by have a:=Nat.div_mul_le_self z y1;refine⟨by rw[TB,Nat.mod_eq_of_lt (Nat.lt_of_le_of_lt a hz)],?_⟩;rw[T1 hz a];have:=Nat.div_add_mod z y1;rw[Nat.mul_comm]at this;rw[show z-z/y1*y1=z%y1 by omega]
  iterate 9 apply Za;intro b hb;simp[f8,f9,f10,f11a,f11b,f11c,f11d,f12,f13,f14,f15,(f16 u ulB).1,(f16 u ulB).2];subst hb
  refine NL (fun s'=>s'.k=135/\s'.H=H1/\s'.tm.get 2=some (.int .u64 (yn:Int))/\s'.tm.get 8=some (.int .u64 (s:Int))/\s'.tm.get 9=some (.int .u64 (y1:Int))/\s'.tm.get 10=some (.int .u64 (w0:Int))/\s'.tm.get 11=some (.int .u64 (u:Int))/\s'.tm.get 13=some (.int .u64 (n1:Int))/\s'.tm.get 14=some (.int .u64 (n0:Int))/\ ∃q:Nat,q=(u*4294967296+n1)/(y1*4294967296+w0)/\q<4294967296/\s'.tm.get 15=some (.int .u64 (q:Int))) ?_ ?_
  ·apply ZR;refine YS (fun m s'=>s'.k=135/\s'.H=H1/\s'.tm.get 2=some (.int .u64 (yn:Int))/\s'.tm.get 8=some (.int .u64 (s:Int))/\s'.tm.get 9=some (.int .u64 (y1:Int))/\s'.tm.get 10=some (.int .u64 (w0:Int))/\s'.tm.get 11=some (.int .u64 (u:Int))/\s'.tm.get 13=some (.int .u64 (n1:Int))/\s'.tm.get 14=some (.int .u64 (n0:Int))/\ ∃r:Nat,nL y1 w0 u n1 m r/\s'.tm.get 15=some (.int .u64 (m:Int))/\s'.tm.get 16=some (.int .u64 (r:Int))) ?_ (u/y1) _ ⟨rfl,rfl,by simp,by simp,by simp,by simp,by simp,by simp,by simp,_,J9 y1lo CS aN (by rw[<-yW];exact ult) n1hi,by simp,by simp⟩;rintro q ⟨k,tm,H2⟩ ⟨hk,hH,k2,k8,k9,UA,Te,UL,Ra,r,E,tq,tr⟩ Q' YA;simp only at hk hH k2 k8 k9 UA Te UL Ra tq tr;subst hk;subst hH;have bb:q<Zc:=Nat.lt_of_le_of_lt E.qhi (by decide);have hrB:=E.rhi;apply Zi;intro b3 Z4;have qle:=E.qhi;have rB:4294967296*r<Zc:=by show _<18446744073709551616;omega
   have mB:(4294967296*r+n1)%Zc=4294967296*r+n1:=Nat.mod_eq_of_lt (by show _<18446744073709551616;omega);have key: ∀Y7,W Tryz.prog ZY b3 ⟨135,Y7,H2⟩ Q'->W Tryz.prog ZY b3 ⟨135,Y7,H2⟩ Q':=fun _ h=>h;have down:La w0 n1 q r=true-> ∀Y7,Y7.get 2=some (.int .u64 (yn:Int))->Y7.get 8=some (.int .u64 (s:Int))->Y7.get 9=some (.int .u64 (y1:Int))->Y7.get 10=some (.int .u64 (w0:Int))->Y7.get 11=some (.int .u64 (u:Int))->Y7.get 13=some (.int .u64 (n1:Int))->Y7.get 14=some (.int .u64 (n0:Int))->Y7.get 15=some (.int .u64 (q:Int))->Y7.get 16=some (.int .u64 (r:Int))->W Tryz.prog ZY b3 ⟨135,Y7,H2⟩ Q':=fun ht Y7 k2 k8 k9 UA Te UL Ra tq tr=>by
    obtain⟨q0,e1,ug,q1⟩:=E.down ht;have f1:Zd .sub .u64 (q:Int) 1=some (.int .u64 ((q-1:Nat):Int)):=NW bb q0;have f2:Zd .add .u64 (r:Int) (y1:Int)=some (.int .u64 ((r+y1:Nat):Int)):=by rw[Ti,Nat.mod_eq_of_lt (by show _<18446744073709551616;omega)]
    subst Z4;apply ZR;apply Za;intro b4 Yy;simp[tq,f1];subst Yy;apply Za;intro b4 Yy;simp[tr,k9,f2];subst Yy;apply Za;intro b4 Yy;simp[Aq];subst Yy;by_cases hr:4294967296<=r+y1;·refine Zb (t:=true) (by simp[hr]) ?_;apply YN;right;refine⟨by decide,?_⟩;apply YA;left;have:=J7 y1lo aN E.uhi E.dhi e1 ug hr q1;exact⟨rfl,rfl,rfl,rfl,by simp[k2],by simp[k8],by simp[k9],by simp[UA],by simp[Te],by simp[UL],by simp[Ra],q-1,this.1,this.2,by simp⟩
    ·refine Zb (t:=false) (by simp[hr]) ?_;apply Zr;apply YA;exact⟨q-1,by omega,rfl,rfl,by simp[k2],by simp[k8],by simp[k9],by simp[UA],by simp[Te],by simp[UL],by simp[Ra],r+y1,⟨y1lo,CS,aN,E.uhi,E.dhi,e1,ug,by omega,by omega⟩,by simp,by simp⟩
   apply Za;intro b4 Yy;by_cases hq:4294967296<=q;·simp[tq,Aq,hq];subst Yy;refine Zb (t:=true) (by simp) ?_;apply Zr;show W _ _ b3 _ _;exact down (by simp[La,hq]) _ (by simp[k2]) (by simp[k8]) (by simp[k9]) (by simp[UA]) (by simp[Te]) (by simp[UL]) (by simp[Ra]) (by simp[tq]) (by simp[tr])
   ·have hqw:q*w0<Zc:=by have a:q*w0<=4294967295*w0:=Nat.mul_le_mul_right _ (by omega);show _<18446744073709551616;omega
    have g1:Zd .mul .u64 (q:Int) (w0:Int)=some (.int .u64 ((q*w0:Nat):Int)):=by rw[TB,Nat.mod_eq_of_lt hqw]
    have g2:Zd .mul .u64 4294967296 (r:Int)=some (.int .u64 ((4294967296*r:Nat):Int)):=by rw[mulL,Nat.mod_eq_of_lt rB]
    have g3:Zd .add .u64 ((4294967296*r:Nat):Int) (n1:Int)=some (.int .u64 ((4294967296*r+n1:Nat):Int)):=by rw[Ti,mB]
    simp[tq,Aq,hq,tr,UA,UL,g1,g2,g3,W8];subst Yy;by_cases ht:4294967296*r+n1<q*w0;·refine Zb (t:=true) (by simp[ht]) ?_;apply Zr;show W _ _ b3 _ _;exact down (by simp[La,ht]) _ (by simp[k2]) (by simp[k8]) (by simp[k9]) (by simp[UA]) (by simp[Te]) (by simp[UL]) (by simp[Ra]) (by simp[tq]) (by simp[tr])
    ·refine Zb (t:=false) (by simp[ht]) ?_;apply YN;apply YA;left;have:=E.stop (by simp[La,ht];omega);exact⟨rfl,rfl,rfl,rfl,by simp[k2],by simp[k8],by simp[k9],by simp[UA],by simp[Te],by simp[UL],by simp[Ra],q,this.1,this.2,by simp[tq]⟩
  rintro⟨k,tm,H2⟩ ⟨hk,hH,k2,k8,k9,UA,Te,UL,Ra,qh,hqh,hqlt,Qr⟩;simp only at hk hH k2 k8 k9 UA Te UL Ra Qr;subst hk;subst hH;have EG:0<yn:=by omega
  obtain⟨u2,Jo⟩:=hid ((u*4294967296+n1)%yn);have yh:u2<yn:=by rw[Jo];exact Nat.mod_lt _ EG
  have u2B:u2<Zc:=Nat.lt_trans yh CR;rw[<-yW]at hqh;have Ir:=Et (u:=u) (b:=4294967296) (d:=n1) (q:=qh) CR EG hqh;rw[<-Jo]at Ir;obtain⟨pa,hpa⟩:=hid (u*4294967296%Zc);obtain⟨pb,hpb⟩:=hid ((pa+n1)%Zc);obtain⟨pc,hpc⟩:=hid (qh*yn%Zc);rw[<-hpa,<-hpb,<-hpc]at Ir;have g21:Zd .mul .u64 (u:Int) 4294967296=some (.int .u64 (pa:Int)):=by rw[mulR,hpa]
  have g21a:Zd .add .u64 (pa:Int) (n1:Int)=some (.int .u64 (pb:Int)):=by rw[Ti,hpb]
  have g21b:Zd .mul .u64 (qh:Int) (yn:Int)=some (.int .u64 (pc:Int)):=by rw[TB,hpc]
  have g21c:Zd .sub .u64 (pb:Int) (pc:Int)=some (.int .u64 (u2:Int)):=by rw[EP (by rw[hpc];exact Nat.le_of_lt (Nat.mod_lt _ (by decide))),Ir]
  have g22:Zd .quo .u64 (u2:Int) (y1:Int)=some (.int .u64 ((u2/y1:Nat):Int)):=Nz u2B (by omega);apply Za;intro b hb;simp[Te,UL,Qr,k2,g21,g21a,g21b,g21c];subst hb;apply Za;intro b hb;simp[k9,g22];subst hb;apply Za;intro b hb;simp[k9,(f16 u2 u2B).1,(f16 u2 u2B).2];subst hb;refine NL (fun s'=>s'.k=135/\s'.H=H2/\s'.tm.get 2=some (.int .u64 (yn:Int))/\s'.tm.get 8=some (.int .u64 (s:Int))/\s'.tm.get 9=some (.int .u64 (y1:Int))/\s'.tm.get 10=some (.int .u64 (w0:Int))/\s'.tm.get 11=some (.int .u64 (u:Int))/\s'.tm.get 13=some (.int .u64 (n1:Int))/\s'.tm.get 14=some (.int .u64 (n0:Int))/\s'.tm.get 15=some (.int .u64 (qh:Int))/\s'.tm.get 17=some (.int .u64 (u2:Int))/\ ∃q:Nat,q=(u2*4294967296+n0)/(y1*4294967296+w0)/\q<4294967296/\s'.tm.get 18=some (.int .u64 (q:Int))) ?_ ?_
  ·apply ZR;refine YS (fun m s'=>s'.k=135/\s'.H=H2/\s'.tm.get 2=some (.int .u64 (yn:Int))/\s'.tm.get 8=some (.int .u64 (s:Int))/\s'.tm.get 9=some (.int .u64 (y1:Int))/\s'.tm.get 10=some (.int .u64 (w0:Int))/\s'.tm.get 11=some (.int .u64 (u:Int))/\s'.tm.get 13=some (.int .u64 (n1:Int))/\s'.tm.get 14=some (.int .u64 (n0:Int))/\s'.tm.get 15=some (.int .u64 (qh:Int))/\s'.tm.get 17=some (.int .u64 (u2:Int))/\ ∃r:Nat,nL y1 w0 u2 n0 m r/\s'.tm.get 18=some (.int .u64 (m:Int))/\s'.tm.get 16=some (.int .u64 (r:Int))) ?_ (u2/y1) _ ⟨rfl,rfl,by simp[k2],by simp[k8],by simp[k9],by simp[UA],by simp[Te],by simp[UL],by simp[Ra],by simp[Qr],by simp,_,J9 y1lo CS aN (by rw[<-yW];exact yh) n0hi,by simp,by simp⟩;clear k2 k8 k9 UA Te UL Ra Qr;rintro q ⟨k,tm,H3⟩ ⟨hk,hH,k2,k8,k9,UA,Te,UL,Ra,Qr,QK,r,E,tq,tr⟩ Q' YA;simp only at hk hH k2 k8 k9 UA Te UL Ra Qr QK tq tr;subst hk;subst hH;have bb:q<Zc:=Nat.lt_of_le_of_lt E.qhi (by decide);have hrB:=E.rhi;apply Zi;intro b3 Z4;have qle:=E.qhi;have rB:4294967296*r<Zc:=by show _<18446744073709551616;omega
   have mB:(4294967296*r+n0)%Zc=4294967296*r+n0:=Nat.mod_eq_of_lt (by show _<18446744073709551616;omega);have key: ∀Y7,W Tryz.prog ZY b3 ⟨135,Y7,H3⟩ Q'->W Tryz.prog ZY b3 ⟨135,Y7,H3⟩ Q':=fun _ h=>h;have down:La w0 n0 q r=true-> ∀Y7,Y7.get 2=some (.int .u64 (yn:Int))->Y7.get 8=some (.int .u64 (s:Int))->Y7.get 9=some (.int .u64 (y1:Int))->Y7.get 10=some (.int .u64 (w0:Int))->Y7.get 11=some (.int .u64 (u:Int))->Y7.get 13=some (.int .u64 (n1:Int))->Y7.get 14=some (.int .u64 (n0:Int))->Y7.get 15=some (.int .u64 (qh:Int))->Y7.get 17=some (.int .u64 (u2:Int))->Y7.get 18=some (.int .u64 (q:Int))->Y7.get 16=some (.int .u64 (r:Int))->W Tryz.prog ZY b3 ⟨135,Y7,H3⟩ Q':=fun ht Y7 k2 k8 k9 UA Te UL Ra Qr QK tq tr=>by
    obtain⟨q0,e1,ug,q1⟩:=E.down ht;have f1:Zd .sub .u64 (q:Int) 1=some (.int .u64 ((q-1:Nat):Int)):=NW bb q0;have f2:Zd .add .u64 (r:Int) (y1:Int)=some (.int .u64 ((r+y1:Nat):Int)):=by rw[Ti,Nat.mod_eq_of_lt (by show _<18446744073709551616;omega)]
    subst Z4;apply ZR;apply Za;intro b4 Yy;simp[tq,f1];subst Yy;apply Za;intro b4 Yy;simp[tr,k9,f2];subst Yy;apply Za;intro b4 Yy;simp[Aq];subst Yy;by_cases hr:4294967296<=r+y1;·refine Zb (t:=true) (by simp[hr]) ?_;apply YN;right;refine⟨by decide,?_⟩;apply YA;left;have:=J7 y1lo aN E.uhi E.dhi e1 ug hr q1;exact⟨rfl,rfl,rfl,rfl,by simp[k2],by simp[k8],by simp[k9],by simp[UA],by simp[Te],by simp[UL],by simp[Ra],by simp[Qr],by simp[QK],q-1,this.1,this.2,by simp⟩
    ·refine Zb (t:=false) (by simp[hr]) ?_;apply Zr;apply YA;exact⟨q-1,by omega,rfl,rfl,by simp[k2],by simp[k8],by simp[k9],by simp[UA],by simp[Te],by simp[UL],by simp[Ra],by simp[Qr],by simp[QK],r+y1,⟨y1lo,CS,aN,E.uhi,E.dhi,e1,ug,by omega,by omega⟩,by simp,by simp⟩
   apply Za;intro b4 Yy;by_cases hq:4294967296<=q;·simp[tq,Aq,hq];subst Yy;refine Zb (t:=true) (by simp) ?_;apply Zr;show W _ _ b3 _ _;exact down (by simp[La,hq]) _ (by simp[k2]) (by simp[k8]) (by simp[k9]) (by simp[UA]) (by simp[Te]) (by simp[UL]) (by simp[Ra]) (by simp[Qr]) (by simp[QK]) (by simp[tq]) (by simp[tr])
   ·have hqw:q*w0<Zc:=by have a:q*w0<=4294967295*w0:=Nat.mul_le_mul_right _ (by omega);show _<18446744073709551616;omega
    have g1:Zd .mul .u64 (q:Int) (w0:Int)=some (.int .u64 ((q*w0:Nat):Int)):=by rw[TB,Nat.mod_eq_of_lt hqw]
    have g2:Zd .mul .u64 4294967296 (r:Int)=some (.int .u64 ((4294967296*r:Nat):Int)):=by rw[mulL,Nat.mod_eq_of_lt rB]
    have g3:Zd .add .u64 ((4294967296*r:Nat):Int) (n0:Int)=some (.int .u64 ((4294967296*r+n0:Nat):Int)):=by rw[Ti,mB]
    simp[tq,Aq,hq,tr,UA,Ra,g1,g2,g3,W8];subst Yy;by_cases ht:4294967296*r+n0<q*w0;·refine Zb (t:=true) (by simp[ht]) ?_;apply Zr;show W _ _ b3 _ _;exact down (by simp[La,ht]) _ (by simp[k2]) (by simp[k8]) (by simp[k9]) (by simp[UA]) (by simp[Te]) (by simp[UL]) (by simp[Ra]) (by simp[Qr]) (by simp[QK]) (by simp[tq]) (by simp[tr])
    ·refine Zb (t:=false) (by simp[ht]) ?_;apply YN;apply YA;left;have:=E.stop (by simp[La,ht];omega);exact⟨rfl,rfl,rfl,rfl,by simp[k2],by simp[k8],by simp[k9],by simp[UA],by simp[Te],by simp[UL],by simp[Ra],by simp[Qr],by simp[QK],q,this.1,this.2,by simp[tq]⟩
  rintro⟨k,tm,H3⟩ ⟨hk,hH,k2,k8,k9,UA,Te,UL,Ra,Qr,QK,ql,hql,hqllt,Bq⟩;simp only at hk hH k2 k8 k9 UA Te UL Ra Qr QK Bq;subst hk;subst hH;rw[<-yW]at hql;obtain⟨r3,hr3⟩:=hid ((u2*4294967296+n0)%yn);have xM:r3<yn:=by rw[hr3];exact Nat.mod_lt _ EG
  have dE:=Et (u:=u2) (b:=4294967296) (d:=n0) (q:=ql) CR EG hql;obtain⟨pd,vJ⟩:=hid (u2*4294967296%Zc);obtain⟨pe,hpe⟩:=hid ((pd+n0)%Zc);obtain⟨pf,hpf⟩:=hid (ql*yn%Zc);rw[<-hr3,<-vJ,<-hpe,<-hpf]at dE;have j1:Zd .mul .u64 (qh:Int) 4294967296=some (.int .u64 ((qh*4294967296:Nat):Int)):=by rw[mulR,Nat.mod_eq_of_lt (by show _<18446744073709551616;omega)]
  have j2:Zd .add .u64 ((qh*4294967296:Nat):Int) (ql:Int)=some (.int .u64 ((qh*4294967296+ql:Nat):Int)):=by rw[Ti,Nat.mod_eq_of_lt (by show _<18446744073709551616;omega)]
  have j3:Zd .mul .u64 (u2:Int) 4294967296=some (.int .u64 (pd:Int)):=by rw[mulR,vJ]
  have j4:Zd .add .u64 (pd:Int) (n0:Int)=some (.int .u64 (pe:Int)):=by rw[Ti,hpe]
  have j5:Zd .mul .u64 (ql:Int) (yn:Int)=some (.int .u64 (pf:Int)):=by rw[TB,hpf]
  have j6:Zd .sub .u64 (pe:Int) (pf:Int)=some (.int .u64 (r3:Int)):=by rw[EP (by rw[hpf];exact Nat.le_of_lt (Nat.mod_lt _ (by decide))),dE]
  have j7:YC .shr .u64 (r3:Int) (s:Int)=some (.int .u64 ((r3/2^s:Nat):Int)):=SD (by omega);have all:(h*Zc+l)*2^s=yn*(qh*4294967296+ql)+r3:=by have e1:=Nat.div_add_mod (u*4294967296+n1) yn;rw[<-hqh,<-Jo]at e1;have e2:=Nat.div_add_mod (u2*4294967296+n0) yn;rw[<-hql,<-hr3]at e2;rw[total,en];exact aT e1 e2 (by decide)
  have hquo:(h*Zc+l)/y=qh*4294967296+ql:=by rw[<-Nat.mul_div_mul_right _ _ (Nat.two_pow_pos s),all,<-sV,Nat.add_comm,Nat.add_mul_div_left _ _ EG,Nat.div_eq_of_lt xM,Nat.zero_add]
  have hrem:(h*Zc+l)%y=r3/2^s:=by
   have:(h*Zc+l)%y*2^s=r3:=by rw[<-Nat.mul_mod_mul_right,all,<-sV,Nat.add_comm,Nat.add_mul_mod_self_left,Nat.mod_eq_of_lt xM]
   rw[<-this,Nat.mul_div_cancel _ (Nat.two_pow_pos s)]
  rw[hquo,hrem];apply Za;intro b hb;simp[k2,k8,Ra,Qr,QK,Bq,j1,j2,j3,j4,j5,j6,j7];subst hb;apply ZZ;simp
end
end
end Go.Proofs.YtmkfecoeghokfaaGreatDoor
namespace Go.Proofs.YtmkfecoeghokfaaGreatDoor
set_option linter.unusedVariables false
set_option maxHeartbeats 2000000
set_option maxRecDepth 20000
structure I8 (B P V U y1 y0 v' u d u' : Nat) : Prop where
  hV : V = (y1 * B + y0) * P + v'
  hU : U = (u * B + d) * P + u'
  vlt : v' < P
  ult : u' < P
  d_lt : d < B
  y0lt : y0 < B
  y1pos : 0 < y1
section
variable {B P V U y1 y0 v' u d u' q r : Nat}
theorem I8.Ppos(T:I8 B P V U y1 y0 v' u d u'):0<P:=Nat.lt_of_le_of_lt (Nat.zero_le _) T.vlt
theorem I8.Bpos(T:I8 B P V U y1 y0 v' u d u'):0<B:=Nat.lt_of_le_of_lt (Nat.zero_le _) T.d_lt
theorem I8.Vge(T:I8 B P V U y1 y0 v' u d u'):B*P<=V:=by rw[T.hV];have:B*P<=(y1*B+y0)*P:=Nat.mul_le_mul_right _ (by have:1*B<=y1*B:=Nat.mul_le_mul_right _ T.y1pos;omega);omega
theorem I8.Vpos(T:I8 B P V U y1 y0 v' u d u'):0<V:=Nat.lt_of_lt_of_le (Nat.mul_pos T.Bpos T.Ppos) T.Vge
theorem I8.Ult(T:I8 B P V U y1 y0 v' u d u'):U<(u*B+d+1)*P:=by rw[T.hU,Nat.succ_mul];have:=T.ult;omega
theorem I8.first(T:I8 B P V U y1 y0 v' u d u'):U/V<=u/y1:=by
 rw[Nat.le_div_iff_mul_le T.y1pos];have h1:U/V*V<=U:=Nat.div_mul_le_self U V;have h2:U/V*(y1*B*P)<=U/V*V:=Nat.mul_le_mul_left _ (by rw[T.hV,Nat.add_mul];omega);have h3:=T.Ult;have h4:(u*B+d+1)*P<=((u+1)*B)*P:=Nat.mul_le_mul_right _ (by have:=T.d_lt;rw[Nat.succ_mul];omega);have h5:(U/V*y1)*(B*P)<(u+1)*(B*P):=by rw[Nat.mul_assoc]at h2 h4;rw[Nat.mul_assoc];omega
 have:=Nat.lt_of_mul_lt_mul_right h5;omega
theorem I8.high{un LQ:Nat}(T:I8 B P V U y1 y0 v' (un*B+LQ) d u')(h:U<V*B):un<=y1:=by
 rcases Nat.lt_or_ge y1 un with YX|TE
 ·exfalso;have h1:V<(y1+1)*B*P:=by rw[T.hV];have a:(y1*B+y0+1)*P<=(y1+1)*B*P:=Nat.mul_le_mul_right _ (by have:=T.y0lt;rw[Nat.succ_mul];omega);have b:=T.vlt;rw[Nat.succ_mul]at a;omega
  have h2:V*B<=((y1+1)*B*P)*B:=Nat.mul_le_mul_right _ (Nat.le_of_lt h1);have h3:((y1+1)*B*P)*B<=U:=by rw[T.hU];have a:((y1+1)*B)*B<=(un*B)*B:=Nat.mul_le_mul_right _ (Nat.mul_le_mul_right _ YX);have b:((y1+1)*B)*B*P<=((un*B+LQ)*B+d)*P:=Nat.mul_le_mul_right _ (by rw[Nat.add_mul (un*B) LQ B];omega);rw[Nat.mul_right_comm _ P B];omega
  omega
 ·exact TE
theorem I8.true(T:I8 B P V U y1 y0 v' u d u')(hq:q*y1+r=u)(ht:r*B+d<q*y0):U/V<q:=by rw[Nat.div_lt_iff_lt_mul T.Vpos];have h1:q*((y1*B+y0)*P)<=q*V:=Nat.mul_le_mul_left _ (by rw[T.hV];omega);have h2:(u*B+d+1)*P<=(q*(y1*B+y0))*P:=Nat.mul_le_mul_right _ (by rw[<-hq,Nat.add_mul,Nat.mul_add,Nat.mul_assoc];omega);have h3:=T.Ult;rw[Nat.mul_assoc]at h2;omega
theorem I8.false(T:I8 B P V U y1 y0 v' u d u')(hq:q*y1+r=u)(YX:q<B)(ht:q*y0<=r*B+d):q<=U/V+1:=by
 have h1:q*V<=q*((y1*B+y0)*P)+q*P:=by rw[<-Nat.mul_add];exact Nat.mul_le_mul_left _ (by rw[T.hV];have:=T.vlt;omega)
 have h2:(q*(y1*B+y0))*P<=(u*B+d)*P:=Nat.mul_le_mul_right _ (by rw[<-hq,Nat.add_mul,Nat.mul_add,Nat.mul_assoc];omega);rw[Nat.mul_assoc]at h2;have h3:q*P<B*P:=Nat.mul_lt_mul_of_pos_right YX T.Ppos;have h4:=T.Vge;have h5:q*V<U+V:=by have:=T.hU;omega
 have h6:q*V<(U/V+2)*V:=by have a:=Nat.div_add_mod U V;have b:=Nat.mod_lt U T.Vpos;rw[Nat.mul_comm]at a;rw[Nat.add_mul,Nat.two_mul];omega
 have:=Nat.lt_of_mul_lt_mul_right h6;omega
end
theorem aV{N U V q R b:Nat}(hV:0<V)(TE:U/V<=q)(hle:q<=U/V+1)(hU:U<N)(hR:R<N)(hb:b<=1)(e:R+q*V=U+N*b):(b=0/\q=U/V/\R=U%V)\/(b=1/\q=U/V+1/\R+V=N+U%V):=by
 have a:=Nat.div_add_mod U V;have m:=Nat.mod_lt U hV;rw[Nat.mul_comm]at a;rcases Nat.lt_or_ge (U/V) q with h|h
 ·right;obtain rfl:q=U/V+1:=by omega
  rw[Nat.add_mul,Nat.one_mul]at e;have Zf:b=1:=by
   rcases Nat.lt_or_ge b 1 with h0|h0
   ·exfalso;obtain rfl:b=0:=by omega
    rw[Nat.mul_zero]at e;omega
   ·omega
  subst Zf;rw[Nat.mul_one]at e;exact⟨rfl,rfl,by omega⟩
 ·left;obtain rfl:q=U/V:=by omega
  have N5:b=0:=by
   rcases Nat.lt_or_ge b 1 with h0|h0;·omega
   ·exfalso;obtain rfl:b=1:=by omega
    rw[Nat.mul_one]at e;omega
  subst N5;rw[Nat.mul_zero]at e;exact⟨rfl,rfl,by omega⟩
theorem Ge {B x y q carry borrow : Nat} (hx : x < B) (hq : q < B) (hc : carry < B) (hy : y < B) (hb : borrow <= 1) :
    let p := x * q
    let sum := (p % B + carry) % B
    let Qw := p / B + (p % B + carry) / B
    let y' := (y + B - sum - borrow) % B
    let CE := if y < sum + borrow then 1 else 0
    Qw < B /\ y' < B /\ y' + x * q + carry + borrow = y + B * (Qw + CE) := by
  intro p sum Qw y' CE
  have hB : 0 < B := by omega
  have hp : p <= (B - 1) * (B - 1) := Nat.mul_le_mul (by omega) (by omega)
  have e1 := Nat.div_add_mod p B
  have e2 := Nat.div_add_mod (p % B + carry) B
  have hs : sum < B := Nat.mod_lt _ hB
  have hcy : Qw * B + sum = p + carry := by
    show (p / B + (p % B + carry) / B) * B + (p % B + carry) % B = p + carry
    rw [Nat.add_mul, Nat.mul_comm (p / B), Nat.mul_comm ((p % B + carry) / B)]
    omega
  have Bd : Qw < B := by
    have : (B - 1) * (B - 1) + (B - 1) = (B - 1) * B := by
      obtain ⟨b, rfl⟩ : ∃ b, B = b + 1 := ⟨B - 1, by omega⟩
      rw [Nat.add_sub_cancel, Nat.mul_succ]
    have h3 : Qw * B <= (B - 1) * B := by omega
    have := Nat.le_of_mul_le_mul_right h3 hB
    omega
  refine ⟨Bd, Nat.mod_lt _ hB, ?_⟩
  show (y + B - sum - borrow) % B + p + carry + borrow = y + B * (Qw + if y < sum + borrow then 1 else 0)
  have key : (y + B - sum - borrow) % B + sum + borrow = y + B * (if y < sum + borrow then 1 else 0) := by
    by_cases h : y < sum + borrow
    · rw [if_pos h, Nat.mod_eq_of_lt (by omega)]; omega
    · rw [if_neg h]
      have : y + B - sum - borrow = (y - sum - borrow) + B := by omega
      rw [this, Nat.add_mod_right, Nat.mod_eq_of_lt (by omega)]; omega
  rw [Nat.mul_add, Nat.mul_comm B Qw]
  omega
end Go.Proofs.YtmkfecoeghokfaaGreatDoor
namespace Go.Proofs.YtmkfecoeghokfaaGreatDoor.Ev
open Go Go.RowKit
set_option linter.unusedVariables false
set_option linter.unusedSimpArgs false
noncomputable section
set_option maxHeartbeats 2000000
set_option maxRecDepth 20000
def AH.top(H:AH):AH:= { n:=H.n,lw:=H.n,t:=H.t }
def LR(P:Program)(C:Cfg)(k:Nat):List rE->Tr Value->AH->(Tr Value->Prop)->Prop
 |[],tm,_,K=>K tm
 |o::r,tm,H,K=>match gW tm o.grd with
  |some true=>match ZF P C (ZU P C) tm H o.op with
   |some (v,H')=>H'=H/\match o.dst with|none=>LR P C k r tm H K|some d=>d<k/\LR P C k r (tm.set d v) H K
   |none=>False
  |some false=>match o.dst with|none=>LR P C k r tm H K|some d=>d<k/\LR P C k r (tm.set d undef) H K
  |none=>False
section
variable {P : Program} {C : Cfg} {Q : Ex -> St -> Prop} {ops : Array Oper} {k : Nat}
theorem I6: ∀(l:List Oper)(i:Nat)(tm:Tr Value)(H:AH)(K:Tr Value->Prop),LR P C k (ZQ ops l) tm H.top K-> ∃Y7,Xo (X0 ops) P C (ZU P C) ops i false [] l ⟨k,tm,H⟩=some ⟨k,Y7,H⟩/\K Y7
 |[],i,tm,H,K,h=>⟨tm,by simp only[Xo],h⟩
 |o::r,i,tm,H,K,h=>by
  simp only[ZQ,LR]at h;simp only[Xo];rw[Fq];split at h
  ·rename_i hg;rw[hg];split at h
   ·rename_i v H1 YB;obtain⟨e,h⟩:=h;subst e;obtain⟨SS,YT,hl⟩:=Ud (k:=k) (H:=H) (H1:=H) (K1:=fun tm=>LR P C k (ZQ ops r) tm H.top K) h;obtain⟨Y7,h1,h2⟩:=I6 r (i+1) SS H K hl;refine⟨Y7,?_,h2⟩;have hd:Y5 (X0 ops) P C (ZU P C) ops i false [] ⟨k,tm,H⟩ o=some (v,H,false):=by unfold Y5;cases hh:Zw o.op with|true=>rw[cond_true];simp only[X0,hidden,UN];have JU:ZF P C (ZU P C) tm { n:=H.n,lw:=H.n,t:=H.t } o.op=some (v,{ n:=H.n,lw:=H.n,t:=H.t }):=YB;rw[JU];have:Nat.ble H.n H.n=true:=Nat.ble_eq.mpr (Nat.le_refl _);simp only[this,cond_true,Bool.not_false,Bool.and_self,Nat.sub_self,Od]|false=>rw[cond_false];rw[T9 hh YB H]
    simp only[hd,YT,Xu,cond_false];exact h1
   ·exact h.elim
  ·rename_i hg;rw[hg];obtain⟨SS,YT,hl⟩:=Ud (k:=k) (H:=H) (H1:=H) (K1:=fun tm=>LR P C k (ZQ ops r) tm H.top K) h;obtain⟨Y7,h1,h2⟩:=I6 r (i+1) SS H K hl;refine⟨Y7,?_,h2⟩;simp only[YT];exact h1
  ·exact h.elim
theorem OG{id:Nat}{s:St}(hd:(!Ws ops&&VC ops&&!isSplit C ops)=true)(h:LR P C s.k (strip ops) s.tm s.H.top fun Y7=>Q .norm ⟨s.k,Y7,s.H⟩):W P C (.region id ops true) s Q:=by
 obtain⟨k,tm,H⟩:=s;obtain⟨Y7,h1,h2⟩:=I6 _ 0 _ _ _ h;refine⟨.norm,⟨k,Y7,H⟩,?_,h2⟩;rw[VW];simp only[XO];rw[XF]at h1;rw[Bool.and_eq_true,Bool.and_eq_true]at hd;have hm:Ws ops=false:=by simpa using hd.1.1
 have hs:isSplit C ops=false:=by simpa using hd.2
 have:YI P C (YG P C (SY P C)) ops true ⟨k,tm,H⟩=some ⟨k,Y7,H⟩:=by unfold YI WG;rw[hm,hs,hd.1.2];simp only[Bool.and_false,cond_false,cond_true];exact h1
 rw[this]
def low(H H2:AH):AH:= { n:=H2.n,lw:=min H.lw H2.lw,t:=H2.t }
def LX(P:Program)(C:Cfg)(k:Nat):List rE->Tr Value->AH->(Tr Value->AH->Prop)->Prop
 |[],tm,H,K=>K tm H
 |o::r,tm,H,K=>match gW tm o.grd with
  |some true=>match Zz o.op with
   |true=>match ZF P C (ZU P C) tm H.top o.op with
    |some (v,H2)=>(H2.n=H.n/\H2.lw<H.n)/\match o.dst with|none=>LX P C k r tm (low H H2) K|some d=>d<k/\LX P C k r (tm.set d v) (low H H2) K
    |none=>False
   |false=>match ZF P C (ZU P C) tm H.top o.op with
    |some (v,H2)=>H2=H.top/\match o.dst with|none=>LX P C k r tm H K|some d=>d<k/\LX P C k r (tm.set d v) H K
    |none=>False
  |some false=>match o.dst with|none=>LX P C k r tm H K|some d=>d<k/\LX P C k r (tm.set d undef) H K
  |none=>False
def Uj:List Oper->Bool|[]=>true|o::r=>cond (Zz o.op) (r.all fun o=>Zz o.op||!Zw o.op) (Uj r)
def EV(ops:Array Oper):Bool:=(List.range ops.size).all fun i=>match ops[i]? with|some o=>!Zz o.op||alone ops i|none=>true
theorem Lr(RG: ∀i o,ops[i]?=some o->Zz o.op=true->alone ops i=true): ∀(l:List Oper)(i:Nat)(q:Bool)(tm:Tr Value)(H:AH)(K:Tr Value->AH->Prop),(∀j,l[j]?=ops[i+j]?)->(q=true-> ∀o∈l,(Zz o.op||!Zw o.op)=true)->Uj l=true->LX P C k (ZQ ops l) tm H K-> ∃Y7 H',Xo (X0 ops) P C (ZU P C) ops i q [] l ⟨k,tm,H⟩=some ⟨k,Y7,H'⟩/\K Y7 H'
 |[],i,q,tm,H,K,hl,hq,hs,h=>⟨tm,H,by simp only[Xo],h⟩
 |o::r,i,q,tm,H,K,hl,hq,hs,h=>by
  have h0:ops[i]?=some o:=by simpa using(hl 0).symm
  have MQ: ∀j,r[j]?=ops[i+1+j]?:=fun j=>by have:=hl (j+1);simpa[Nat.add_assoc,Nat.add_comm 1 j]using this
  have sZ:q=true-> ∀o∈r,(Zz o.op||!Zw o.op)=true:=fun e o' h'=>hq e o' (List.mem_cons_of_mem _ h');simp only[ZQ,LX]at h;simp only[Xo];rw[Fq];have vB:Uj r=true:=by unfold Uj at hs;cases e:Zz o.op with
   |false=>rw[e,cond_false]at hs;exact hs
   |true=>rw[e,cond_true]at hs;clear h hl MQ hq sZ h0;induction r with
    |nil=>rfl
    |cons x r ih=>rw[List.all_cons,Bool.and_eq_true]at hs;unfold Uj;cases Zz x.op with|false=>rw[cond_false];exact ih hs.2|true=>rw[cond_true];exact hs.2
  split at h
  ·rename_i hg;rw[hg];split at h
   ·rename_i Kx;split at h
    ·rename_i v H2 YB;obtain⟨⟨e1,e2⟩,h⟩:=h;obtain⟨SS,YT,Mb⟩:=Ud (k:=k) (H:=H) (H1:=low H H2) (K1:=fun tm=>LX P C k (ZQ ops r) tm (low H H2) K) h;have Qn: ∀o∈r,(Zz o.op||!Zw o.op)=true:=by unfold Uj at hs;rw[Kx,cond_true]at hs;exact List.all_eq_true.mp hs
     obtain⟨Y7,H',h1,h2⟩:=Lr RG r (i+1) true SS (low H H2) K MQ (fun _=>Qn) vB Mb;refine⟨Y7,H',?_,h2⟩;have hh:Zw o.op=true:=by revert Kx;cases o.op<;>simp[Zz,Zw]
     have hd:Y5 (X0 ops) P C (ZU P C) ops i q [] ⟨k,tm,H⟩ o=some (v,low H H2,true):=by
      unfold Y5;rw[hh,cond_true];simp only[X0,hidden,UN];have JU:ZF P C (ZU P C) tm { n:=H.n,lw:=H.n,t:=H.t } o.op=some (v,H2):=YB;rw[JU];have a1:Nat.ble H.n H2.n=true:=Nat.ble_eq.mpr (by omega);have a2:Nat.ble H.n H2.lw=false:=by cases hb:Nat.ble H.n H2.lw with|false=>rfl|true=>have:=Nat.le_of_ble_eq_true hb;omega
      simp only[a1,a2,cond_true,Bool.and_false,cond_false,RG i o h0 Kx,List.isEmpty_nil,Bool.and_self];rfl
     have hn:Nat.blt H.n (low H H2).n=false:=by show Nat.blt H.n H2.n=false;rw[e1];exact Xu _
     simp only[hd,YT,hn,cond_false];exact h1
    ·exact h.elim
   ·rename_i Kx;split at h
    ·rename_i v H2 YB;obtain⟨e,h⟩:=h;subst e;obtain⟨SS,YT,Mb⟩:=Ud (k:=k) (H:=H) (H1:=H) (K1:=fun tm=>LX P C k (ZQ ops r) tm H K) h;obtain⟨Y7,H',h1,h2⟩:=Lr RG r (i+1) q SS H K MQ sZ vB Mb;refine⟨Y7,H',?_,h2⟩;have hd:Y5 (X0 ops) P C (ZU P C) ops i q [] ⟨k,tm,H⟩ o=some (v,H,q):=by unfold Y5;cases hh:Zw o.op with
      |true=>
       have hqf:q=false:=by cases q with|false=>rfl|true=>have:=hq rfl o (List.mem_cons_self ..);rw[Kx,hh]at this;cases this
       subst hqf;rw[cond_true];simp only[X0,hidden,UN];have JU:ZF P C (ZU P C) tm { n:=H.n,lw:=H.n,t:=H.t } o.op=some (v,{ n:=H.n,lw:=H.n,t:=H.t }):=YB;rw[JU];have:Nat.ble H.n H.n=true:=Nat.ble_eq.mpr (Nat.le_refl _);simp only[this,cond_true,Bool.not_false,Bool.and_self,Nat.sub_self,Od]
      |false=>rw[cond_false];rw[T9 hh YB H]
     simp only[hd,YT,Xu,cond_false];exact h1
    ·exact h.elim
  ·rename_i hg;rw[hg];obtain⟨SS,YT,Mb⟩:=Ud (k:=k) (H:=H) (H1:=H) (K1:=fun tm=>LX P C k (ZQ ops r) tm H K) h;obtain⟨Y7,H',h1,h2⟩:=Lr RG r (i+1) q SS H K MQ sZ vB Mb;refine⟨Y7,H',?_,h2⟩;simp only[YT];exact h1
  ·exact h.elim
theorem tg{id:Nat}{s:St}(hd:(!Ws ops&&(VC ops&&!isSplit C ops)&&EV ops&&Uj ops.toList)=true)(h:LX P C s.k (strip ops) s.tm s.H fun Y7 H'=>Q .norm ⟨s.k,Y7,H'⟩):W P C (.region id ops true) s Q:=by
 obtain⟨k,tm,H⟩:=s;rw[Bool.and_eq_true,Bool.and_eq_true,Bool.and_eq_true]at hd;have RG: ∀i o,ops[i]?=some o->Zz o.op=true->alone ops i=true:=fun i o hi hs=>by have:=List.all_eq_true.mp hd.1.2 i (by simpa using Yp hi);rw[hi]at this;simpa[hs]using this
 obtain⟨Y7,H',h1,h2⟩:=Lr RG _ 0 false _ _ _ (fun j=>by simp) (fun e=>by cases e) hd.2 h;refine⟨.norm,⟨k,Y7,H'⟩,?_,h2⟩;rw[VW];simp only[XO];have hm:Ws ops=false:=by simpa using hd.1.1.1
 have DN:=hd.1.1.2;rw[Bool.and_eq_true]at DN;have hs:isSplit C ops=false:=by simpa using DN.2
 rw[XF]at h1;have:YI P C (YG P C (SY P C)) ops true ⟨k,tm,H⟩=some ⟨k,Y7,H'⟩:=by unfold YI WG;rw[hm,hs,DN.1];simp only[Bool.and_false,cond_false,cond_true];exact h1
 rw[this]
theorem Xd(R:St->Prop){a b:Code}{s:St}(h1: ∀Q':Ex->St->Prop,(∀s',R s'->Q' .norm s')->W P C a s Q')(h2: ∀s',R s'->W P C b s' Q):W P C (.seq a b) s Q:=NL R (h1 _ fun s' h=>⟨rfl,h⟩) h2
end
end
end Go.Proofs.YtmkfecoeghokfaaGreatDoor.Ev
namespace Go.Proofs.YtmkfecoeghokfaaGreatDoor
open Go Ev
set_option linter.unusedVariables false
set_option linter.unusedSimpArgs false
noncomputable section
set_option maxHeartbeats 2000000
set_option maxRecDepth 20000
section
attribute [-simp] Int.natCast_add Int.natCast_mul Int.natCast_ediv Int.natCast_emod Int.natCast_pow
attribute [local simp] strip ZQ Xj LR gW ZF Ya ZX Yb ZJ Yc Zs Zt Zg ZI Z5 ZN ZB Zk ZH Zh Ze ZC ZD YW Zo Z6 YF Yw ZK plain ZM Tr.get_set Yu Zp Yq ZV sameKind undef Zv ZG Z3 Zu ZA Yh ZW parts ZE Xw DW Yf Zw LX Zz Zn ZL ZS Xt Yg Zm ZP Zy ZO
def Yt:Value->Option Nat| .slice (some ⟨b,_,none⟩) _ _=>some b|_=>none
def Vg(v w:Value):Prop:= ∀b,Yt v=some b->Yt w≠some b
structure T4 (b : Option Nat) (H H' : AH) : Prop where
  n : H'.n = H.n
  blk : ∀ j, j < H.n -> b ≠ some j -> H'.blk j = H.blk j
theorem T4.refl(b:Option Nat)(H:AH):T4 b H H:=⟨rfl,fun _ _ _=>rfl⟩
theorem T4.trans{b:Option Nat}{H H1 H2:AH}(x:T4 b H H1)(y:T4 b H1 H2):T4 b H H2:=⟨y.n.trans x.n,fun j hn hj=>(y.blk j (by rw[x.n];exact hn) hj).trans (x.blk j hn hj)⟩
theorem At.but{b:Option Nat}{H H':AH}{c o:Nat}{xs:List Nat}(h:At H c o xs)(k:T4 b H H')(hb:b≠some c):At H' c o xs:=by obtain⟨h1,cs,h2,h3,h4⟩:=h;have e:=k.blk c h1 hb;exact⟨by rw[k.n];exact h1,cs,by unfold AH.cells;rw[e];exact h2,by unfold AH.size;rw[e];exact h3,h4⟩
theorem Sl.but{b:Option Nat}{H H':AH}{v:Value}{xs:List Nat}(h:Sl H v xs)(k:T4 b H H')(hb: ∀c,b=some c->Yt v≠some c):Sl H' v xs:=by cases h with|nil=>exact .nil|emp b=>exact .emp b|mk c o cap xs h1 h2=>exact .mk c o cap xs h1 (h2.but k fun e=>hb c e rfl)
theorem Ym.but{b:Option Nat}{n0:Nat}{H H':AH}{v:Value}{xs:List Nat}(h:Ym n0 H v xs)(k:T4 b H H')(hb: ∀c,b=some c->Yt v≠some c):Ym n0 H' v xs:=by cases h with|nil=>exact .nil|mk c o cap xs cs h1 h2 h3 h4 h5 h6=>exact .mk c o cap xs cs h1 h2 (by rw[k.n];exact h3) (by rw[k.blk c h3 fun e=>hb c e rfl];exact h4) h5 h6
theorem Ym.blk_lo{n0:Nat}{H:AH}{v:Value}{xs:List Nat}(h:Ym n0 H v xs){b:Nat}(hb:Yt v=some b):n0<=b/\b<H.n:=by cases h with|nil=>cases hb|mk c o cap xs cs h1 h2 h3 h4 h5 h6=>cases hb;exact⟨h2,h3⟩
theorem Sl.blk_lt{H:AH}{v:Value}{xs:List Nat}(h:Sl H v xs){b:Nat}(hb:Yt v=some b):b<H.n:=by cases h with|nil=>cases hb|emp _=>cases hb|mk c o cap xs h1 h2=>cases hb;exact h2.1
theorem Ym.put{n:Nat}{H:AH}{v:Value}{xs:List Nat}(h:Ym n H v xs){i:Nat}(hi:i<xs.length)(y:Nat): ∃H',YV Tryz.prog H 101 (adr v i) (.int .u64 (y:Int))=some H'/\Ym n H' v (xs.set i y)/\H'.n=H.n/\(∀j,Yt v≠some j->H'.blk j=H.blk j)/\ ∀H0,Zj H0 H->H0.n<=n->Zj H0 H':=by cases h with
 |nil=>cases hi
 |mk b o cap xs cs h1 h2 h3 h4 h5 h6=>
  have hlen:Nat.ble (o+i+1) cs.length=true:=Nat.ble_eq.mpr (by omega);have e0:(Value.int .u64 (y:Int)).cells=#[.int .u64 (y:Int)]:=rfl;have hw:H.write b (o+i) [.int .u64 (y:Int)]=some { n:=H.n,lw:=min H.lw b,t:=H.t.set b (.rw 1 (cs.take (o+i)++[.int .u64 (y:Int)]++cs.drop (o+i+1))) } :=by rw[AH.write_def,h4];simp only[List.length_singleton,hlen,Bool.true_and];rfl
  refine⟨{ n:=H.n,lw:=min H.lw b,t:=H.t.set b (.rw 1 (cs.take (o+i)++[.int .u64 (y:Int)]++cs.drop (o+i+1))) },?_,?_,rfl,?_,?_⟩;·unfold YV Go.Proofs.YtmkfecoeghokfaaGreatDoor.adr;simp only[NX,e0];rw[show Nat.beq (#[Value.int .u64 (y:Int)]:Array Value).size 1=true from rfl,cond_true];exact hw
  ·have hl:(xs.set i y).length=xs.length:=List.length_set;rw[<-hl];refine .mk b o cap _ (cs.take (o+i)++[.int .u64 (y:Int)]++cs.drop (o+i+1)) (by omega) h2 h3 ?_ ?_ ?_;·unfold AH.blk;simp only[Tr.get_set,if_true]
   ·simp only[List.length_append,List.length_take,List.length_drop,List.length_singleton];omega
   ·intro j x hj;rw[List.getElem?_set]at hj;by_cases e:i=j;·subst e;rw[if_pos rfl,if_pos hi]at hj;cases hj;rw[List.append_assoc,List.getElem?_append_right (by rw[List.length_take];omega)];rw[List.length_take,show o+i-min (o+i) cs.length=0 by omega];rfl
    ·rw[if_neg e]at hj;have:=h6 j x hj;rcases Nat.lt_or_ge (o+j) (o+i)with YX|TE;·rw[List.append_assoc,List.getElem?_append_left (by rw[List.length_take];omega),List.getElem?_take,if_pos YX];exact this
     ·rw[List.getElem?_append_right (by simp only[List.length_append,List.length_take,List.length_singleton];omega),List.getElem?_drop];simp only[List.length_append,List.length_take,List.length_singleton];rw[show o+i+1+(o+j-(min (o+i) cs.length+1))=o+j by omega];exact this
  ·intro j hj;have:j≠b:=fun e=>hj (by rw[e];rfl);unfold AH.blk;simp only[Tr.get_set,if_neg this]
  ·intro H0 k hn;refine⟨k.n,?_,fun j hj=>?_⟩;·have:=k.lw;show min H0.lw H0.n<=min H.lw b;omega
   ·have:j≠b:=by omega
    rw[<-k.blk j hj];unfold AH.blk;simp only[Tr.get_set,if_neg this]
def View(w v:Value)(j m:Nat):Prop:= ∀(t:TypeId),LT t-> ∀(k:IntKind)(i:Nat),i<m->Yi Tryz.prog t w (.int k (i:Int))=some (adr v (j+i))
theorem Sl.part{H:AH}{v:Value}{xs:List Nat}(h:Sl H v xs){t:TypeId}(ht:LT t){j m:Nat}(hm:j+m<=xs.length)(h0:0<m): ∃w,Ve Tryz.prog H t v (some (.int .i64 (j:Int))) (some (.int .i64 ((j+m:Nat):Int))) none=some w/\Sl H w ((xs.drop j).take m)/\View w v j m/\Yt w=Yt v:=by cases h with
 |nil=>simp at hm;omega
 |emp b=>simp at hm;omega
 |mk b o cap xs h1 h2=>
  have hl:((xs.drop j).take m).length=m:=by rw[List.length_take,List.length_drop];omega
  obtain⟨iJ,cs,h3,h4,h5⟩:=h2;refine⟨.slice (some ⟨b,o+j,none⟩) ((xs.drop j).take m).length (cap-j),?_,.mk b (o+j) (cap-j) _ (by omega) ⟨iJ,cs,h3,h4,fun i x hx=>?_,by have:=(List.getElem?_eq_some_iff.mp (h5.1 j _ (List.getElem?_eq_getElem (show j<xs.length by omega)))).1;omega⟩,?_,rfl⟩
  ·unfold Ve;simp only[ht.1,NX];unfold Jw Xk;simp only[h4,Option.isSome_some,Option.isNone_none,Bool.true_or];rw[if_pos (by omega)];have e1:Nat.ble (j+m) cap=true:=Nat.ble_eq.mpr (by omega);have e2:Nat.blt j cap=true:=by rw[Nat.blt_eq];omega
   simp only[Xk,Int.toNat_natCast];rw[if_pos (by omega)];simp[e1,e2,hl]
  ·rw[List.getElem?_take]at hx;split at hx;·rw[List.getElem?_drop]at hx;have:=h5.1 (j+i) x hx;rwa[<-Nat.add_assoc]at this
   ·cases hx
  ·intro t ht k i hi;unfold Yi Go.Proofs.YtmkfecoeghokfaaGreatDoor.adr;simp only[ht.1,NX];rw[if_pos (by omega)];simp[Nat.add_assoc]
def KA(n0:Nat)(H H1:AH):Prop:= ∀H0,Zj H0 H->H0.n<=n0->Zj H0 H1
theorem KA.refl(n0:Nat)(H:AH):KA n0 H H:=fun _ k _=>k
theorem KA.trans{n0:Nat}{H H1 H2:AH}(a:KA n0 H H1)(b:KA n0 H1 H2):KA n0 H H2:=fun H0 k h=>b H0 (a H0 k h) h
theorem Ym.segload{n0:Nat}{H:AH}{U0:Value}{pre us post:List Nat}(h:Ym n0 H U0 (pre++us++post)){j:Nat}(hj:pre.length=j){i:Nat}(hi:i<us.length):Z9 Tryz.prog H 101 (adr U0 (j+i))=some (.int .u64 (us[i]:Nat)):=by subst hj;have:=h.sl.load (i:=pre.length+i) (by simp;omega);rw[this];congr 3;rw[List.getElem_append_left (by simp;omega),List.getElem_append_right (by omega)];simp
theorem Ym.segstore{n0:Nat}{H:AH}{U0:Value}{pre us post:List Nat}(h:Ym n0 H U0 (pre++us++post)){j:Nat}(hj:pre.length=j){i:Nat}(hi:i<us.length)(y:Nat): ∃H',YV Tryz.prog H 101 (adr U0 (j+i)) (.int .u64 (y:Int))=some H'/\Ym n0 H' U0 (pre++us.set i y++post)/\T4 (Yt U0) H H'/\KA n0 H H':=by subst hj;obtain⟨H',h1,h2,h3,h4,h5⟩:=h.put (i:=pre.length+i) (by simp;omega) y;refine⟨H',h1,?_,⟨h3,fun j _=>h4 j⟩,h5⟩;rw[List.set_append_left _ _ (by simp;omega),List.set_append_right _ _ (by omega),Nat.add_sub_cancel_left]at h2;exact h2
theorem Um(x y:Nat)(H:AH):ZU Tryz.prog ZY 203 [.int .u64 (x:Int),.int .u64 (y:Int),.int .u64 0] H=some (.tuple #[.int .u64 (((x+y)%Zc:Nat):Int),.int .u64 (((x+y)/Zc:Nat):Int)],H):=RU x y 0 H (by omega)
theorem RC{x y:Nat}(hx:x<Zc)(hy:y<Zc)(H:AH):ZU Tryz.prog ZY 202 [.int .u64 (x:Int),.int .u64 (y:Int)] H=some (.tuple #[.int .u64 ((x*y/Zc:Nat):Int),.int .u64 ((x*y%Zc:Nat):Int)],H):=by obtain⟨v,H',h,rfl,rfl⟩:=Ca hx hy (H:=H);exact h
theorem Ok{h l y:Nat}(hh:h<y)(hl:l<Zc)(hy:y<Zc)(H:AH):ZU Tryz.prog ZY 205 [.int .u64 (h:Int),.int .u64 (l:Int),.int .u64 (y:Int)] H=some (.tuple #[.int .u64 (((h*Zc+l)/y:Nat):Int),.int .u64 (((h*Zc+l)%y:Nat):Int)],H):=by obtain⟨v,H',h,rfl,rfl⟩:=Dk hh hl hy (H:=H);exact h
theorem Nr{x:Nat} :Zd .neq .u64 (x:Int) 0=some (.bool (decide (x≠0))):=LZ (y:=0)
theorem gd{x:Nat}(h:x<9223372036854775808)(hx:2<=x):Zd .sub .i64 (x:Int) 2=some (.int .i64 ((x-2:Nat):Int)):=LS (x:=x) (y:=2) h hx
theorem X3{x y:Nat}(h:x+y<Zc):Zd .add .u64 (x:Int) (y:Int)=some (.int .u64 ((x+y:Nat):Int)):=by rw[Ti,Nat.mod_eq_of_lt h]
theorem R5{xs:List Nat}{n:Nat}(h:xs.length=n+1):xs=xs.take n++[xs[n]'(by omega)]:=by have:=List.take_append_getElem (l:=xs) (i:=n) (by omega);rw[this,<-h,List.take_length]
theorem rT{us vs:List Nat}{n:Nat}(hu:us.length=n+1)(hv:vs.length=n)(h2:2<=n)(du:YH Zc us)(dv':YH Zc vs)(hp:0<vs[n-1]'(by omega)):I8 Zc (Zc^(n-2)) (dv Zc vs) (dv Zc us) (vs[n-1]'(by omega)) (vs[n-2]'(by omega)) (dv Zc (vs.take (n-2))) ((us[n]'(by omega))*Zc+us[n-1]'(by omega)) (us[n-2]'(by omega)) (dv Zc (us.take (n-2))):=by
 obtain⟨m,rfl⟩: ∃m,n=m+2:=⟨n-2,by omega⟩;simp only[Nat.add_sub_cancel,show m+2-1=m+1 by omega]at hp⊢;have e1:vs=vs.take m++[vs[m]'(by omega),vs[m+1]'(by omega)]:=by have a:=R5 (n:=m+1) hv;have b:=Xc (xs:=vs) (i:=m) (by omega);rw[b,List.append_assoc]at a;exact a
 have e2:us=us.take m++[us[m]'(by omega),us[m+1]'(by omega),us[m+2]'(by omega)]:=by have a:=R5 (n:=m+2) hu;have b:=Xc (xs:=us) (i:=m+1) (by omega);have c:=Xc (xs:=us) (i:=m) (by omega);rw[b,c,List.append_assoc,List.append_assoc]at a;exact a
 have l1:(vs.take m).length=m:=by rw[List.length_take];omega
 have l2:(us.take m).length=m:=by rw[List.length_take];omega
 refine⟨?_,?_,?_,?_,du.get (List.getElem?_eq_getElem (by omega)),dv'.get (List.getElem?_eq_getElem (by omega)),hp⟩;·have:=congrArg (dv Zc) e1;rw[this,Yn,l1];simp only[dv,Nat.mul_zero,Nat.add_zero];rw[Nat.add_comm,Nat.mul_comm (Zc^m),Nat.mul_comm Zc,Nat.add_comm (vs[m])]
 ·have:=congrArg (dv Zc) e2;rw[this,Yn,l2];simp only[dv,Nat.mul_zero,Nat.add_zero];rw[Nat.add_comm,Nat.mul_comm (Zc^m),Nat.mul_comm Zc (us[m+1]+_),Nat.add_comm (us[m+1]),Nat.mul_comm Zc us[m+2],Nat.add_comm (us[m])]
 ·have:=Wh (dv'.take m);rwa[l1]at this
 ·have:=Wh (du.take m);rwa[l2]at this
theorem Ls{x B:Nat}(hB:0<B)(h:x/B=0):x<B:=by
 rcases Nat.lt_or_ge x B with h'|h';·exact h'
 ·have:=Nat.div_pos h' hB;omega
structure lO (V U y1 u q r : Nat) (sure : Bool) : Prop where
  ge : U / V <= q
  lt : q < Zc
  no : sure = false -> q * y1 + r = u /\ r < Zc
  yes : sure = true -> q <= U / V + 1
theorem Dy{n0 n j:Nat}{H:AH}{U0 uv vv:Value}{pre us post vs:List Nat}(hu:Ym n0 H U0 (pre++us++post))(hj:pre.length=j)(hus:us.length=n+1)(FO:View uv U0 j (n+1))(du:YH Zc us)(hv:Sl H vv vs)(N4:Vg U0 vv)(AU:vs.length=n)(h2:2<=n)(hn:n<=17592186044416)(cV:YH Zc vs)(hp:0<vs[n-1]'(by omega))(YX:dv Zc us<dv Zc vs*Zc):CW Tryz.prog ZY 218 [uv,vv] H fun v H'=>v= .int .u64 ((dv Zc us/dv Zc vs:Nat):Int)/\T4 (Yt U0) H H'/\KA n0 H H'/\ ∃Pa,Pa.length=n+1/\YH Zc Pa/\dv Zc Pa=dv Zc us%dv Zc vs/\Ym n0 H' U0 (pre++Pa++post):=by
 refine Yd 195 Tryz.func218 ?_;have T:=rT hus AU h2 du cV hp;have Vpos:=T.Vpos;obtain⟨V,hV⟩:=hid (dv Zc vs);obtain⟨U,hU⟩:=hid (dv Zc us);obtain⟨un,FP⟩:=hid (us[n]'(by omega));obtain⟨LQ,pD⟩:=hid (us[n-1]'(by omega));obtain⟨rJ,pC⟩:=hid (us[n-2]'(by omega));obtain⟨y1,sW⟩:=hid (vs[n-1]'(by omega));obtain⟨y0,Lk⟩:=hid (vs[n-2]'(by omega));rw[<-hV,<-hU,<-FP,<-pD,<-pC,<-sW,<-Lk]at T;rw[<-hV,<-hU]at YX⊢;rw[<-hV]at Vpos;rw[<-sW]at hp;have bun:un<Zc:=by rw[FP];exact du.get (List.getElem?_eq_getElem (by omega))
 have bun1:LQ<Zc:=by rw[pD];exact du.get (List.getElem?_eq_getElem (by omega))
 have bun2:rJ<Zc:=by rw[pC];exact du.get (List.getElem?_eq_getElem (by omega))
 have by1:y1<Zc:=by rw[sW];exact cV.get (List.getElem?_eq_getElem (by omega))
 have by0:y0<Zc:=by rw[Lk];exact cV.get (List.getElem?_eq_getElem (by omega))
 have hQB:U/V<Zc:=by rw[Nat.div_lt_iff_lt_mul Vpos,Nat.mul_comm];exact YX
 have FI:=hv.len Zu;rw[AU]at FI;have s1:Zd .sub .i64 (n:Int) 1=some (.int .i64 ((n-1:Nat):Int)):=V8 (by omega) (by omega);have s2:Zd .sub .i64 (n:Int) 2=some (.int .i64 ((n-2:Nat):Int)):=gd (by omega) h2;have an:Yi Tryz.prog 30 uv (.int .i64 (n:Int))=some (adr U0 (j+n)):=FO _ Zu .i64 n (by omega);have an1:Yi Tryz.prog 30 uv (.int .i64 ((n-1:Nat):Int))=some (adr U0 (j+(n-1))):=FO _ Zu .i64 (n-1) (by omega);have an2:Yi Tryz.prog 30 uv (.int .i64 ((n-2:Nat):Int))=some (adr U0 (j+(n-2))):=FO _ Zu .i64 (n-2) (by omega);have yu:Yi Tryz.prog 30 vv (.int .i64 ((n-1:Nat):Int))=some (adr vv (n-1)):=hv.adr Zu (by omega);have av2:Yi Tryz.prog 30 vv (.int .i64 ((n-2:Nat):Int))=some (adr vv (n-2)):=hv.adr Zu (by omega);have ln:Z9 Tryz.prog H 101 (adr U0 (j+n))=some (.int .u64 (un:Int)):=by rw[FP];exact hu.segload hj (by omega)
 have ln1:Z9 Tryz.prog H 101 (adr U0 (j+(n-1)))=some (.int .u64 (LQ:Int)):=by rw[pD];exact hu.segload hj (by omega)
 have ln2:Z9 Tryz.prog H 101 (adr U0 (j+(n-2)))=some (.int .u64 (rJ:Int)):=by rw[pC];exact hu.segload hj (by omega)
 have zU:Z9 Tryz.prog H 101 (adr vv (n-1))=some (.int .u64 (y1:Int)):=by rw[sW];exact hv.load (by omega)
 have lv2:Z9 Tryz.prog H 101 (adr vv (n-2))=some (.int .u64 (y0:Int)):=by rw[Lk];exact hv.load (by omega)
 have BK: ∀(a:Value),Z9 Tryz.prog H.top 101 a=Z9 Tryz.prog H 101 a:=fun _=>rfl;apply Za;intro b1 Zf;simp;subst Zf;apply Za;intro b1 Zf;simp[FI];subst Zf;apply Za;intro b1 Zf;simp;subst Zf;apply Za;intro b1 Zf;simp;subst Zf;refine Xd (fun s'=>s'.k=195/\s'.H=H/\s'.tm.get 0=some uv/\s'.tm.get 1=some vv/\s'.tm.get 5=some (.int .i64 (n:Int))/\ ∃(q r:Nat) (sure:Bool),lO V U y1 (un*Zc+LQ) q r sure/\s'.tm.get 6=some (.int .u64 (q:Int))/\s'.tm.get 7=some (.int .u64 (r:Int))/\s'.tm.get 8=some (.bool sure)) ?_ ?_
 ·intro Q' YA;apply Zi;intro b1 Zf;apply SR (by kernel_rfl);simp[FI,an,s1,yu,ln,zU,HW];subst Zf;by_cases TE:y1<=un
  ·have hEq:un=y1:=Nat.le_antisymm (T.high YX) TE;refine Zb (t:=true) (by simp[TE]) ?_;apply Za;intro b1 Zf;simp;subst Zf;apply Za;intro b1 Zf;simp;subst Zf;apply Zi;intro b1 Zf;apply OG (by kernel_rfl);simp[s1,an1,yu,BK,ln1,zU,Um];subst Zf;apply Zl;simp[Nr];apply YA;have hB1:((18446744073709551615:Nat):Int)=18446744073709551615:=rfl;have he:18446744073709551615*y1+(LQ+y1)=un*Zc+LQ:=by rw[hEq];show 18446744073709551615*y1+(LQ+y1)=y1*18446744073709551616+LQ;omega
   refine⟨rfl,rfl,by simp,by simp,by simp,18446744073709551615,(LQ+y1)%Zc,decide ((LQ+y1)/Zc≠0),⟨?_,by decide,?_,?_⟩,by simp[hB1],by simp,by simp⟩;·have:U/V<18446744073709551616:=hQB;omega
   ·intro h;have h0:(LQ+y1)/Zc=0:=by have:=of_decide_eq_false h;omega
    have hm:(LQ+y1)%Zc=LQ+y1:=Nat.mod_eq_of_lt (Ls (by decide) h0);rw[hm];refine⟨he,?_⟩;rw[<-hm];exact Nat.mod_lt _ (by decide)
   ·intro h;have h0: ¬ (LQ+y1)/Zc=0:=of_decide_eq_true h;refine T.false he (by decide) ?_;have h1:Zc<=LQ+y1:=by
     rcases Nat.lt_or_ge (LQ+y1) Zc with h'|h';·exact absurd (Nat.div_eq_of_lt h') h0
     ·exact h'
    have h2:Zc*Zc<=(LQ+y1)*Zc:=Nat.mul_le_mul_right _ h1;have h3:18446744073709551615*y0<=Zc*Zc:=Nat.mul_le_mul (by decide) (by omega);omega
  ·refine Zb (t:=false) (by simp;omega) ?_;have vR:un<y1:=by omega
   apply OG (by kernel_rfl);simp[s1,an,an1,yu,BK,ln,ln1,zU,Ok vR bun1 by1];apply YA;refine⟨rfl,rfl,by simp,by simp,by simp,(un*Zc+LQ)/y1,(un*Zc+LQ)%y1,false,⟨T.first,?_,?_,fun h=>by cases h⟩,by simp,by simp,by simp⟩;·rw[Nat.div_lt_iff_lt_mul hp,Nat.mul_comm Zc y1];have:(un+1)*Zc<=y1*Zc:=Nat.mul_le_mul_right _ vR;rw[Nat.succ_mul]at this;omega
   ·intro _;exact⟨by rw[Nat.mul_comm];exact Nat.div_add_mod _ _,Nat.lt_trans (Nat.mod_lt _ hp) by1⟩
 rintro⟨k,tm,H'⟩ ⟨hk,hH,t0,t1,t5,q,r,sure,gT,t6,t7,t8⟩;simp only at hk hH t0 t1 t5 t6 t7 t8;subst hk;subst hH;refine Xd (fun s'=>s'.k=195/\s'.H=H'/\s'.tm.get 0=some uv/\s'.tm.get 1=some vv/\s'.tm.get 5=some (.int .i64 (n:Int))/\ ∃(q:Nat),U/V<=q/\q<=U/V+1/\q<Zc/\s'.tm.get 6=some (.int .u64 (q:Int))) ?_ ?_;·intro Jt XR;apply ZR;refine YS (fun m s'=>s'.k=195/\s'.H=H'/\s'.tm.get 0=some uv/\s'.tm.get 1=some vv/\s'.tm.get 5=some (.int .i64 (n:Int))/\ ∃(r:Nat) (sure:Bool),lO V U y1 (un*Zc+LQ) m r sure/\s'.tm.get 6=some (.int .u64 (m:Int))/\s'.tm.get 7=some (.int .u64 (r:Int))/\s'.tm.get 8=some (.bool sure)) ?_ q _ ⟨rfl,rfl,t0,t1,t5,r,sure,gT,t6,t7,t8⟩;clear t0 t1 t5 t6 t7 t8 gT;rintro q ⟨k,tm,H2⟩ ⟨hk,hH,t0,t1,t5,r,sure,gT,t6,t7,t8⟩ Q' YA;simp only at hk hH t0 t1 t5 t6 t7 t8;subst hk;subst hH;apply Zi;intro b3 Z4;apply Za;intro b4 Yy;simp[t8];subst Yy;cases sure with
  |true=>refine Zb (t:=false) (by simp) ?_;apply YN;apply YA;left;exact⟨rfl,XR _ ⟨rfl,rfl,by simp[t0],by simp[t1],by simp[t5],q,gT.ge,gT.yes rfl,gT.lt,by simp[t6]⟩⟩
  |false=>
   refine Zb (t:=true) (by simp) ?_;apply Zr;subst Z4;obtain⟨dH,hrB⟩:=gT.no rfl;have bb:=gT.lt;apply ZR;apply Za;intro b3 Z4;simp[t6,t1,t5,s2,av2,lv2,RC bb by0];subst Z4;obtain⟨hi,hhi⟩:=hid (q*y0/Zc);obtain⟨lo,hlo⟩:=hid (q*y0%Zc);have ehl:q*y0=Zc*hi+lo:=by rw[hhi,hlo];exact(Nat.div_add_mod _ _).symm
   have hloB:lo<Zc:=by rw[hlo];exact Nat.mod_lt _ (by decide)
   rw[<-hhi,<-hlo];have stop:q*y0<=r*Zc+rJ->q<=U/V+1:=fun h=>T.false dH bb h;have on:r*Zc+rJ<q*y0->0<q/\U/V<=q-1/\(q-1)*y1+(r+y1)=un*Zc+LQ:=fun h=>by have h1:=T.true dH h;have vF:0<q:=Nat.lt_of_le_of_lt (Nat.zero_le _) h1;refine⟨vF,Nat.le_sub_one_of_lt h1,?_⟩;obtain⟨q',rfl⟩: ∃q',q=q'+1:=⟨q-1,by omega⟩;rw[Nat.succ_mul]at dH;rw[Nat.add_sub_cancel];omega
   apply Zi;intro b3 Z4;apply Zi;intro b4 Yy;have ml: ∀Y7,q*y0<=r*Zc+rJ->Y7.get 0=some uv->Y7.get 1=some vv->Y7.get 5=some (.int .i64 (n:Int))->Y7.get 6=some (.int .u64 (q:Int))->Q' (.exit 0) ⟨195,Y7,H2⟩:=fun Y7 h a b c d=>by apply YA;left;exact⟨rfl,XR _ ⟨rfl,rfl,a,b,c,q,gT.ge,stop h,bb,d⟩⟩
   have onk: ∀Y7,r*Zc+rJ<q*y0->Y7.get 0=some uv->Y7.get 1=some vv->Y7.get 5=some (.int .i64 (n:Int))->Y7.get 6=some (.int .u64 (q:Int))->Y7.get 7=some (.int .u64 (r:Int))->Y7.get 8=some (.bool false)->W Tryz.prog ZY b3 ⟨195,Y7,H2⟩ (Yv 1 Q'):=fun Y7 h t0 t1 t5 t6 t7 t8=>by
    obtain⟨vF,TE,heq⟩:=on h;subst Z4;apply Za;intro b3 Z4;simp[t6,NW bb vF];subst Z4;apply Za;intro b3 Z4;simp;subst Z4;apply Za;intro b3 Z4;simp[t7,t1,t5,s1,yu,zU,Um];subst Z4;apply Za;intro b3 Z4;simp[Nr];subst Z4;by_cases sw:(r+y1)/Zc=0;·refine Zb (t:=false) (by simp;exact Ls (by decide) sw) ?_;have hm:(r+y1)%Zc=r+y1:=Nat.mod_eq_of_lt (Ls (by decide) sw);apply Zr;apply YA;refine⟨q-1,by omega,rfl,rfl,by simp[t0],by simp[t1],by simp[t5],(r+y1)%Zc,false,⟨TE,by omega,fun _=>⟨by rw[hm];exact heq,Nat.mod_lt _ (by decide)⟩,fun h=>by cases h⟩,by simp,by simp,by simp[t8]⟩
    ·have h1:Zc<=r+y1:=by
      rcases Nat.lt_or_ge (r+y1) Zc with h'|h';·exact absurd (Nat.div_eq_of_lt h') sw
      ·exact h'
     refine Zb (t:=true) (by simp;exact h1) ?_;apply YN;right;refine⟨by decide,?_⟩;apply YA;left;refine⟨rfl,XR _ ⟨rfl,rfl,by simp[t0],by simp[t1],by simp[t5],q-1,TE,?_,by omega,by simp⟩⟩;refine T.false heq (by omega) ?_;have h2:Zc*Zc<=(r+y1)*Zc:=Nat.mul_le_mul_right _ h1;have h3:(q-1)*y0<=Zc*Zc:=Nat.mul_le_mul (by omega) (by omega);omega
   apply Zl;by_cases c1:hi<r;·simp[t7,c1];subst Yy;refine Zb (t:=true) (by simp) ?_;apply YN;right;refine⟨by decide,ml _ ?_ (by simp[t0]) (by simp[t1]) (by simp[t5]) (by simp[t6])⟩;have:Zc*(hi+1)<=Zc*r:=Nat.mul_le_mul_left _ c1;rw[Nat.mul_succ,Nat.mul_comm Zc r]at this;omega
   ·by_cases c2:hi=r
    ·by_cases c3:lo<=rJ;·simp[t7,t0,t5,c1,Pm,c2,s2,an2,ln2,Pq,c3];subst Yy;refine Zb (t:=true) (by simp) ?_;apply YN;right;refine⟨by decide,ml _ ?_ (by simp[t0]) (by simp[t1]) (by simp[t5]) (by simp[t6])⟩;rw[ehl,c2,Nat.mul_comm];omega
     ·simp[t7,t0,t5,c1,Pm,c2,s2,an2,ln2,Pq,c3];subst Yy;refine Zb (t:=false) (by simp) ?_;apply Zr;show W _ _ b3 _ _;refine onk _ ?_ (by simp[t0]) (by simp[t1]) (by simp[t5]) (by simp[t6]) (by simp[t7]) (by simp[t8]);rw[ehl,c2,Nat.mul_comm];omega
    ·simp[t7,t0,t5,c1,Pm,c2];subst Yy;refine Zb (t:=false) (by simp) ?_;apply Zr;show W _ _ b3 _ _;refine onk _ ?_ (by simp[t0]) (by simp[t1]) (by simp[t5]) (by simp[t6]) (by simp[t7]) (by simp[t8]);have:Zc*(r+1)<=Zc*hi:=Nat.mul_le_mul_left _ (by omega);rw[Nat.mul_succ,Nat.mul_comm Zc r]at this;omega
 clear t0 t1 t5 t6 t7 t8 gT q r sure;rintro⟨k,tm,H2⟩ ⟨hk,hH,t0,t1,t5,q,qge,qle,qB,t6⟩;simp only at hk hH t0 t1 t5 t6;subst hk;subst hH;have mD: ∀{H1:AH},T4 (Yt U0) H2 H1->Sl H1 vv vs:=fun k=>hv.but k N4;apply Za;intro b1 Zf;simp;subst Zf;refine Xd (fun s'=>s'.k=195/\s'.tm.get 0=some uv/\s'.tm.get 1=some vv/\s'.tm.get 5=some (.int .i64 (n:Int))/\s'.tm.get 6=some (.int .u64 (q:Int))/\T4 (Yt U0) H2 s'.H/\KA n0 H2 s'.H/\ ∃(L:List Nat) (carry borrow:Nat),L.length=n/\YH Zc L/\carry<Zc/\borrow<=1/\dv Zc L+q*V=dv Zc (us.take n)+Zc^n*(carry+borrow)/\Ym n0 s'.H U0 (pre++(L++us.drop n)++post)/\s'.tm.get 13=some (.int .u64 (carry:Int))/\s'.tm.get 14=some (.int .u64 (borrow:Int))) ?_ ?_
 ·intro Jt XR;apply Za;intro b1 Zf;simp[t1,FI];subst Zf;apply ZR;refine YS (fun m s'=>s'.k=195/\s'.tm.get 0=some uv/\s'.tm.get 1=some vv/\s'.tm.get 5=some (.int .i64 (n:Int))/\s'.tm.get 6=some (.int .u64 (q:Int))/\T4 (Yt U0) H2 s'.H/\KA n0 H2 s'.H/\s'.tm.get 113=some vv/\s'.tm.get 114=some (.int .i64 (n:Int))/\ ∃(i:Nat) (L:List Nat) (carry borrow:Nat),m+i=n/\L.length=i/\YH Zc L/\carry<Zc/\borrow<=1/\dv Zc L+q*dv Zc (vs.take i)=dv Zc (us.take i)+Zc^i*(carry+borrow)/\Ym n0 s'.H U0 (pre++(L++us.drop i)++post)/\s'.tm.get 13=some (.int .u64 (carry:Int))/\s'.tm.get 14=some (.int .u64 (borrow:Int))/\s'.tm.get 115=some (.int .i64 (i:Int))) ?_ n _ ⟨rfl,by simp[t0],by simp[t1],by simp[t5],by simp[t6],.refl _ _,.refl _ _,by simp[t1],by simp,0,[],0,0,by omega,rfl,.nil _,by decide,by omega,by simp[dv],by simpa using hu,by simp,by simp,by simp⟩;clear t0 t1 t5 t6;rintro m ⟨k,tm,H3⟩ ⟨hk,t0,t1,t5,t6,kb,ka,t113,t114,i,L,carry,borrow,Kv,hL,dL,hc,hb,heq,own,t13,t14,t115⟩ Q' YA;simp only at hk t0 t1 t5 t6 kb ka t113 t114 t13 t14 t115 own;subst hk;apply Za;intro b3 Z4;simp[t114,t115];subst Z4;apply Zi;intro b3 Z4;by_cases hi:i<n
  ·refine Zb (t:=true) (by simp[hi]) ?_;apply Zr;subst Z4;have wj:=mD kb;have a1:Yi Tryz.prog 30 vv (.int .i64 (i:Int))=some (adr vv i):=wj.adr Zu (by omega);have hx:vs[i]<Zc:=cV.get (List.getElem?_eq_getElem (by omega));have d1:Z9 Tryz.prog H3 101 (adr vv i)=some (.int .u64 (vs[i]:Nat)):=wj.load (by omega);have a2:Yi Tryz.prog 30 uv (.int .i64 (i:Int))=some (adr U0 (j+i)):=FO _ Zu .i64 i (by omega);have pE:us.drop i=us[i]::us.drop (i+1):=List.drop_eq_getElem_cons (by omega);have zi:us[i]<Zc:=du.get (List.getElem?_eq_getElem (by omega));have d2:Z9 Tryz.prog H3 101 (adr U0 (j+i))=some (.int .u64 (us[i]:Nat)):=by have:=own.segload hj (i:=i) (by simp;omega);rw[this];congr 3;rw[List.getElem_append_right (by omega)];simp[hL]
   obtain⟨x,Me⟩:=hid (vs[i]);obtain⟨y,ju⟩:=hid (us[i]);rw[<-Me]at hx d1;rw[<-ju]at zi d2 pE;have step:=Ge hx qB hc zi hb;simp only at step;obtain⟨ph,vI⟩:=hid (x*q/Zc);obtain⟨pl,Bi⟩:=hid (x*q%Zc);rw[<-vI,<-Bi]at step;obtain⟨sm,hsm⟩:=hid ((pl+carry)%Zc);obtain⟨ov,sw⟩:=hid ((pl+carry)/Zc);rw[<-hsm,<-sw]at step;obtain⟨y',et⟩: ∃y',y'=(y+Zc-sm-borrow)%Zc:=⟨_,rfl⟩;obtain⟨b',X6⟩: ∃b',b'=(if y<sm+borrow then 1 else 0):=⟨_,rfl⟩;rw[<-et,<-X6]at step;obtain⟨Sx,Tq,Sc⟩:=step;have m1:ZU Tryz.prog ZY 202 [.int .u64 (x:Int),.int .u64 (q:Int)] H3=some (.tuple #[.int .u64 (ph:Int),.int .u64 (pl:Int)],H3):=by rw[vI,Bi];exact RC hx qB H3
   have m2:ZU Tryz.prog ZY 203 [.int .u64 (pl:Int),.int .u64 (carry:Int),.int .u64 0] H3=some (.tuple #[.int .u64 (sm:Int),.int .u64 (ov:Int)],H3):=by rw[hsm,sw];exact Um pl carry H3
   have m3:Zd .add .u64 (ph:Int) (ov:Int)=some (.int .u64 ((ph+ov:Nat):Int)):=X3 Sx;have m4:ZU Tryz.prog ZY 206 [.int .u64 (y:Int),.int .u64 (sm:Int),.int .u64 (borrow:Int)] H3=some (.tuple #[.int .u64 (y':Int),.int .u64 (b':Int)],H3):=by rw[et,X6];exact R7 y sm borrow H3 hb
   obtain⟨H4,xA,Vr,zy,Ua⟩:=own.segstore hj (i:=i) (by simp;omega) y';rw[pE,WL L y y' _ hL]at Vr;apply Zi;intro b3 Z4;apply ZR;apply Za;intro b4 Yy;simp[t113,t115,a1,d1];subst Yy;apply Za;intro b4 Yy;simp[t6,m1];subst Yy;apply Za;intro b4 Yy;simp[t13,m2];subst Yy;apply Za;intro b4 Yy;simp[m3];subst Yy;apply Zl;simp[t0,t14,a2,d2,m4,xA];subst Z4;apply Zl;simp[t115,YU (x:=i) (by omega)];apply YA;refine⟨m-1,by omega,rfl,by simp[t0],by simp[t1],by simp[t5],by simp[t6],kb.trans zy,ka.trans Ua,by simp[t113],by simp[t114],i+1,L++[y'],ph+ov,b',by omega,by simp[hL],dL.append (.cons Tq (.nil _)),Sx,?_,?_,by simpa using Vr,by simp,by simp,by simp⟩;·rw[X6];split<;>omega
   ·rw[Yn,hL,Xc (xs:=vs) (by omega),Xc (xs:=us) (by omega),Yn,Yn,List.length_take,List.length_take,Nat.min_eq_left (by omega),Nat.min_eq_left (by omega),<-Me,<-ju];simp only[dv,Nat.mul_zero,Nat.add_zero];have e1:Zc^i*(y'+x*q+carry+borrow)=Zc^i*(y+Zc*(ph+ov+b')):=by rw[Sc]
    rw[Nat.mul_add (Zc^i) y,<-Nat.mul_assoc (Zc^i) Zc,show Zc^i*Zc=Zc^(i+1)from rfl]at e1;rw[show y'+x*q+carry+borrow=y'+x*q+(carry+borrow) by omega,Nat.mul_add,Nat.mul_add]at e1;rw[Nat.mul_add q,show q*(Zc^i*x)=Zc^i*(x*q) by rw[Nat.mul_left_comm,Nat.mul_comm q x]];omega
  ·refine Zb (t:=false) (by simp[hi]) ?_;apply YN;apply YA;left;obtain rfl:i=n:=by omega
   have e1:vs.take i=vs:=by rw[<-AU,List.take_length]
   rw[e1,<-hV]at heq;exact⟨rfl,XR _ ⟨rfl,by simp[t0],by simp[t1],by simp[t5],by simp[t6],kb,ka,L,carry,borrow,hL,dL,hc,hb,heq,own,by simp[t13],by simp[t14]⟩⟩
 clear t0 t1 t5 t6;rintro⟨k,tm,H3⟩ ⟨hk,t0,t1,t5,t6,kb,ka,L,carry,borrow,hL,dL,hc,hb,heq,own,t13,t14⟩;simp only at hk t0 t1 t5 t6 kb ka own t13 t14;subst hk;have yD:us.drop n=[un]:=by rw[List.drop_eq_getElem_cons (by omega),List.drop_eq_nil_of_le (by omega),<-FP]
 have hUe:U=dv Zc (us.take n)+Zc^n*un:=by have:=congrArg (dv Zc) (R5 hus);rw[Yn,List.length_take,Nat.min_eq_left (by omega),<-FP,<-hU]at this;simpa[dv]using this
 rw[yD]at own;have d2:Z9 Tryz.prog H3 101 (adr U0 (j+n))=some (.int .u64 (un:Int)):=by have:=own.segload hj (i:=n) (by simp;omega);rw[this,Nb L un [] hL]
 obtain⟨y',et⟩: ∃y',y'=(un+Zc-carry-borrow)%Zc:=⟨_,rfl⟩;obtain⟨b',X6⟩: ∃b',b'=(if un<carry+borrow then 1 else 0):=⟨_,rfl⟩;have Zf:b'<=1:=by rw[X6];split<;>omega
 have hy'B:y'<Zc:=by rw[et];exact Nat.mod_lt _ (by decide)
 have RG:y'+(carry+borrow)=un+Zc*b':=by
  by_cases h:un<carry+borrow;·rw[et,X6,if_pos h,Nat.mod_eq_of_lt (by omega)];omega
  ·rw[et,X6,if_neg h];have:un+Zc-carry-borrow=(un-carry-borrow)+Zc:=by omega
   rw[this,Nat.add_mod_right,Nat.mod_eq_of_lt (by omega)];omega
 have m4:ZU Tryz.prog ZY 206 [.int .u64 (un:Int),.int .u64 (carry:Int),.int .u64 (borrow:Int)] H3=some (.tuple #[.int .u64 (y':Int),.int .u64 (b':Int)],H3):=by rw[et,X6];exact R7 un carry borrow H3 hb
 obtain⟨H4,xA,Vr,zy,Ua⟩:=own.segstore hj (i:=n) (by simp;omega) y';rw[WL L un y' [] hL]at Vr;have yy:YH Zc (L++[y']):=dL.append (.cons hy'B (.nil _));have hR:dv Zc (L++[y'])+q*V=U+Zc^(n+1)*b':=by
  rw[Yn,hL];simp only[dv,Nat.mul_zero,Nat.add_zero];have e1:Zc^n*(y'+(carry+borrow))=Zc^n*(un+Zc*b'):=by rw[RG]
  rw[Nat.mul_add,Nat.mul_add (Zc^n) un,<-Nat.mul_assoc (Zc^n) Zc,show Zc^n*Zc=Zc^(n+1)from rfl]at e1;omega
 have uO:dv Zc (L++[y'])<Zc^(n+1):=by have:=Wh yy;simpa[hL]using this
 have uM:U<Zc^(n+1):=by have:=Wh du;rwa[hus,<-hU]at this
 have ta:=aV Vpos qge qle uM uO Zf hR;apply Zi;intro b1 N6;apply Zl;simp[t0,t5,t13,t14,an,d2,m4,xA];subst N6;rcases ta with⟨rfl,rfl,hRe⟩|⟨rfl,gA,hRe⟩;·apply Zi;intro b1 N6;apply Za;intro b2 ZT;simp[Nr];subst ZT;refine Zb (t:=false) (by simp) ?_;apply Zr;subst N6;apply Zi;intro b1 N6;apply Zl;simp[t6];subst N6;apply ZZ;simp;exact⟨kb.trans zy,ka.trans Ua,L++[y'],by simp[hL],yy,hRe,by simpa using Vr⟩
 ·have vF:0<q:=by rw[gA];exact Nat.succ_pos _
  have hqe:q-1=U/V:=by rw[gA];rfl
  apply Zi;intro b1 N6;apply Za;intro b2 ZT;simp[Nr];subst ZT;refine Zb (t:=true) (by simp) ?_;apply Za;intro b2 ZT;simp[t6,NW qB vF];subst ZT;apply Za;intro b2 ZT;simp;subst ZT;obtain⟨Pa,pB⟩: ∃Pa,Pa=L++[y']:=⟨_,rfl⟩;have Za0:Pa.length=n+1:=by rw[pB];simp[hL]
  rw[<-pB]at Vr yy hRe uO;have kb5:=kb.trans zy;have UK:=ka.trans Ua;have seg1:Pa.take n++Pa.drop n=Pa:=List.take_append_drop n Pa;refine Xd (fun s'=>s'.k=195/\s'.tm.get 0=some uv/\s'.tm.get 5=some (.int .i64 (n:Int))/\s'.tm.get 6=some (.int .u64 ((U/V:Nat):Int))/\T4 (Yt U0) H2 s'.H/\KA n0 H2 s'.H/\ ∃(L:List Nat) (back:Nat),L.length=n/\YH Zc L/\back<=1/\dv Zc L+Zc^n*back=dv Zc (Pa.take n)+V/\Ym n0 s'.H U0 (pre++(L++Pa.drop n)++post)/\s'.tm.get 21=some (.int .u64 (back:Int))) ?_ ?_
  ·intro Jt XR;apply Za;intro b3 Z4;simp[t1,FI];subst Z4;apply ZR;refine YS (fun m s'=>s'.k=195/\s'.tm.get 0=some uv/\s'.tm.get 5=some (.int .i64 (n:Int))/\s'.tm.get 6=some (.int .u64 ((U/V:Nat):Int))/\T4 (Yt U0) H2 s'.H/\KA n0 H2 s'.H/\s'.tm.get 166=some vv/\s'.tm.get 167=some (.int .i64 (n:Int))/\ ∃(i:Nat) (L:List Nat) (back:Nat),m+i=n/\L.length=i/\YH Zc L/\back<=1/\dv Zc L+Zc^i*back=dv Zc (Pa.take i)+dv Zc (vs.take i)/\Ym n0 s'.H U0 (pre++(L++Pa.drop i)++post)/\s'.tm.get 21=some (.int .u64 (back:Int))/\s'.tm.get 168=some (.int .i64 (i:Int))) ?_ n _ ⟨rfl,by simp[t0],by simp[t5],by simp[hqe],kb5,UK,by simp[t1],by simp,0,[],0,by omega,rfl,.nil _,by omega,by simp[dv],by simpa using Vr,by simp,by simp⟩;clear t0 t1 t5 t6 t13 t14;rintro m ⟨k,tm,H5⟩ ⟨hk,t0,t5,t6,kb,ka,t166,t167,i,L1,back,Kv,Aw,dL1,si,N8,own,t21,t168⟩ Q' YA;simp only at hk t0 t5 t6 kb ka t166 t167 t21 t168 own;subst hk;apply Za;intro b3 Z4;simp[t167,t168];subst Z4;apply Zi;intro b3 Z4;by_cases hi:i<n
   ·refine Zb (t:=true) (by simp[hi]) ?_;apply Zr;subst Z4;have wj:=mD kb;have a1:Yi Tryz.prog 30 vv (.int .i64 (i:Int))=some (adr vv i):=wj.adr Zu (by omega);have hx:vs[i]<Zc:=cV.get (List.getElem?_eq_getElem (by omega));have d1:Z9 Tryz.prog H5 101 (adr vv i)=some (.int .u64 (vs[i]:Nat)):=wj.load (by omega);have a2:Yi Tryz.prog 30 uv (.int .i64 (i:Int))=some (adr U0 (j+i)):=FO _ Zu .i64 i (by omega);have pE:Pa.drop i=Pa[i]::Pa.drop (i+1):=List.drop_eq_getElem_cons (by omega);have zi:Pa[i]<Zc:=yy.get (List.getElem?_eq_getElem (by omega));have d2:Z9 Tryz.prog H5 101 (adr U0 (j+i))=some (.int .u64 (Pa[i]:Nat)):=by have:=own.segload hj (i:=i) (by simp;omega);rw[this];congr 3;rw[List.getElem_append_right (by omega)];simp[Aw]
    obtain⟨x,Me⟩:=hid (vs[i]);obtain⟨y,ju⟩:=hid (Pa[i]);rw[<-Me]at hx d1;rw[<-ju]at zi d2 pE;obtain⟨y2,hy2⟩:=hid ((y+x+back)%Zc);obtain⟨c2,Jm⟩:=hid ((y+x+back)/Zc);have m4:ZU Tryz.prog ZY 203 [.int .u64 (y:Int),.int .u64 (x:Int),.int .u64 (back:Int)] H5=some (.tuple #[.int .u64 (y2:Int),.int .u64 (c2:Int)],H5):=by rw[hy2,Jm];exact RU y x back H5 si
    have hdm:Zc*c2+y2=y+x+back:=by rw[hy2,Jm];exact Nat.div_add_mod _ _
    have Nd:c2<=1:=by
     have:c2<2:=by rw[Jm,Nat.div_lt_iff_lt_mul (by decide)];omega
     omega
    obtain⟨H6,xA,fz,kb6,Ub⟩:=own.segstore hj (i:=i) (by simp;omega) y2;rw[pE,WL L1 y y2 _ Aw]at fz;apply Zi;intro b3 Z4;apply ZR;apply Za;intro b4 Yy;simp[t166,t168,a1,d1];subst Yy;apply Zl;simp[t0,t21,a2,d2,m4,xA];subst Z4;apply Zl;simp[t168,YU (x:=i) (by omega)];apply YA;refine⟨m-1,by omega,rfl,by simp[t0],by simp[t5],by simp[t6],kb.trans kb6,ka.trans Ub,by simp[t166],by simp[t167],i+1,L1++[y2],c2,by omega,by simp[Aw],dL1.append (.cons (by rw[hy2];exact Nat.mod_lt _ (by decide)) (.nil _)),Nd,?_,by simpa using fz,by simp,by simp⟩;rw[Yn,Aw,Xc (xs:=vs) (by omega),Xc (xs:=Pa) (by omega),Yn,Yn,List.length_take,List.length_take,Nat.min_eq_left (by omega),Nat.min_eq_left (by omega),<-Me,<-ju];simp only[dv,Nat.mul_zero,Nat.add_zero];have e1:Zc^i*(Zc*c2+y2)=Zc^i*(y+x+back):=by rw[hdm]
    rw[Nat.mul_add,<-Nat.mul_assoc (Zc^i) Zc,show Zc^i*Zc=Zc^(i+1)from rfl,Nat.mul_add,Nat.mul_add]at e1;omega
   ·refine Zb (t:=false) (by simp[hi]) ?_;apply YN;apply YA;left;obtain rfl:i=n:=by omega
    have e1:vs.take i=vs:=by rw[<-AU,List.take_length]
    rw[e1,<-hV]at N8;exact⟨rfl,XR _ ⟨rfl,by simp[t0],by simp[t5],by simp[t6],kb,ka,L1,back,Aw,dL1,si,N8,own,by simp[t21]⟩⟩
  clear t0 t1 t5 t6 t13 t14;rintro⟨k,tm,H5⟩ ⟨hk,t0,t5,t6,kb,ka,L2,back,Lw,dL2,si,N8,own,t21⟩;simp only at hk t0 t5 t6 kb ka own t21;subst hk;have uB:Pa.drop n=[y']:=by rw[pB,<-hL];simp
  rw[uB]at own;have d3:Z9 Tryz.prog H5 101 (adr U0 (j+n))=some (.int .u64 (y':Int)):=by have:=own.segload hj (i:=n) (by simp;omega);rw[this,Nb L2 y' [] Lw]
  obtain⟨z,hz⟩:=hid ((y'+back)%Zc);obtain⟨t,ht⟩:=hid ((y'+back)/Zc);have hzt:Zc*t+z=y'+back:=by rw[hz,ht];exact Nat.div_add_mod _ _
  have DK:z<Zc:=by rw[hz];exact Nat.mod_lt _ (by decide)
  have ma:Zd .add .u64 (y':Int) (back:Int)=some (.int .u64 (z:Int)):=by rw[Ti,hz]
  obtain⟨H6,sto6,fz,kb6,Ub⟩:=own.segstore hj (i:=n) (by simp;omega) z;rw[WL L2 y' z [] Lw]at fz;have dz:YH Zc (L2++[z]):=dL2.append (.cons DK (.nil _));have fin:dv Zc (L2++[z])=U%V:=by
   have DP:dv Zc (L2++[z])<Zc^(n+1):=by have:=Wh dz;simpa[Lw]using this
   have hus2:dv Zc Pa=dv Zc (Pa.take n)+Zc^n*y':=by have:=congrArg (dv Zc) seg1;rw[uB,Yn,List.length_take,Nat.min_eq_left (by omega)]at this;rw[<-this];simp[dv]
   have e0:dv Zc (L2++[z])=dv Zc L2+Zc^n*z:=by rw[Yn,Lw];simp[dv]
   have e1:Zc^n*(Zc*t+z)=Zc^n*(y'+back):=by rw[hzt]
   rw[Nat.mul_add,<-Nat.mul_assoc (Zc^n) Zc,show Zc^n*Zc=Zc^(n+1)from rfl,Nat.mul_add]at e1;have ht1:t<=1:=by
    have:t<2:=by rw[ht,Nat.div_lt_iff_lt_mul (by decide)];omega
    omega
   have hm:U%V<Zc^(n+1):=Nat.lt_of_le_of_lt (Nat.mod_le _ _) uM;have FU:U%V<V:=Nat.mod_lt _ Vpos;rcases Nat.lt_or_ge t 1 with h0|h0
   ·exfalso;obtain rfl:t=0:=by omega
    rw[Nat.mul_zero]at e1;omega
   ·obtain rfl:t=1:=by omega
    rw[Nat.mul_one]at e1;omega
  apply Zl;simp[t0,t5,t21,an,d3,ma,sto6];subst N6;apply Zi;intro b1 N6;apply Zl;simp[t6];subst N6;apply ZZ;simp;exact⟨kb.trans kb6,ka.trans Ub,L2++[z],by simp[Lw],dz,fin,by simpa using fz⟩
theorem Zj.top{H0 H:AH}(k:Zj H0 H):Zj H0 H.top:=⟨k.n,by have:=k.n;show min H0.lw H0.n<=H.n;omega,k.blk⟩
theorem XD(H:AH):Zj H H.top:=(Zj.refl H).top
theorem Sl.top{H:AH}{v:Value}{xs:List Nat}(h:Sl H v xs):Sl H.top v xs:=h.keep (XD H)
theorem Ym.top{n:Nat}{H:AH}{v:Value}{xs:List Nat}(h:Ym n H v xs):Ym n H.top v xs:=h.mono (Nat.le_refl _) (XD H)
theorem Z1{H:AH}{bits:Nat}{ms:List (Nat×Nat×Nat)}(h:hidden bits ms=[]):PM H bits ms=H.top:=by unfold PM;rw[h];rfl
theorem OE(t:Tr Qj)(H2:AH)(n:Nat): ∀(k j:Nat),(Od t H2 n k).get j=if n<=j/\j<n+k then some (H2.blk j)else t.get j
 |0,j=>by rw[if_neg (by omega)];rfl
 |k+1,j=>by
  simp only[Od,Tr.get_set];by_cases e:j=n+k;·subst e;rw[if_pos rfl,if_pos (by omega)]
  ·rw[if_neg e,OE t H2 n k j];by_cases c:n<=j/\j<n+k;·rw[if_pos c,if_pos (by omega)]
   ·rw[if_neg c,if_neg (by omega)]
theorem Yz{H H2:AH}(k:Zj H.top H2):T4 none H2 (grown H H2):=by
 refine⟨rfl,fun j hj _=>?_⟩;unfold AH.blk grown;simp only[OE];by_cases c:H.n<=j;·have:=k.n;have:H.n<=H2.n:=this;rw[if_pos (by omega)];rfl
 ·rw[if_neg (by omega)];exact(k.blk j (by show j<H.n;omega)).symm
theorem Yo{H0 H H2:AH}(k0:Zj H0 H)(k:Zj H.top H2):Zj H0 (grown H H2):=by
 refine⟨Nat.le_trans k0.n k.n,k0.lw,fun j hj=>?_⟩;have hn:=k0.n;have:j<H.n:=by omega
 unfold grown AH.blk;simp only[OE];rw[if_neg (by omega)];exact k0.blk j hj
theorem YD{H H2:AH}(k:Zj H.top H2):H.n<=H2.lw:=by have:=k.lw;have:min H.n H.n<=H2.lw:=this;omega
theorem Nn(H H2:AH):T4 none H2 (low H H2):=⟨rfl,fun j _ _=>rfl⟩
theorem eE{n0:Nat}{H H2:AH}(h:KA n0 H.top H2):KA n0 H (low H H2):=fun H0 k hn=>by have k2:=h H0 k.top hn;refine⟨k2.n,?_,k2.blk⟩;have:=k.lw;have:=k2.lw;show min H0.lw H0.n<=min H.lw H2.lw;omega
theorem T4.none{b:Option Nat}{H H' H2:AH}(k:T4 b H H')(k2:T4 none H' H2):T4 b H H2:=⟨k2.n.trans k.n,fun j hn hj=>(k2.blk j (by rw[k.n];exact hn) (fun e=>by cases e)).trans (k.blk j hn hj)⟩
theorem Sl.same{H H':AH}{v:Value}{xs:List Nat}(h:Sl H v xs)(k:T4 none H H'):Sl H' v xs:=h.but k fun c e=>by cases e
theorem Ym.same{n:Nat}{H H':AH}{v:Value}{xs:List Nat}(h:Ym n H v xs)(k:T4 none H H'):Ym n H' v xs:=h.but k fun c e=>by cases e
theorem Ym.gr{H I J:AH}{v:Value}{xs:List Nat}(x:Ym H.top.n I v xs)(k:Zj H.top I)(hJ:J=grown H I):Ym H.n J v xs:=by subst hJ;exact x.same (Yz k)
theorem cg{H I:AH}(k:Zj H.top I): ∃J,J=grown H I/\Zj H J/\H.n<=I.n:=⟨_,rfl,Yo (.refl _) k,k.n⟩
theorem T4.top{b:Option Nat}{H H':AH}(k:T4 b H.top H'):T4 b H H':=⟨k.n,k.blk⟩
theorem Ym.store_lw{n:Nat}{H H':AH}{v:Value}{xs:List Nat}(h:Ym n H v xs){i:Nat}(hi:i<xs.length){y:Nat}(st:YV Tryz.prog H.top 101 (adr v i) (.int .u64 (y:Int))=some H'):H'.lw<H.n:=by cases h with
 |nil=>cases hi
 |mk b o cap xs cs h1 h2 h3 h4 h5 h6=>unfold YV adr at st;simp only[NX]at st;have h4':H.top.blk b= .rw 1 cs:=h4;rw[show Nat.beq (Value.int .u64 (y:Int)).cells.size 1=true from rfl,cond_true,AH.write_def,h4']at st;simp only at st;cases hc:(Nat.ble (o+i+(Value.int .u64 (y:Int)).cells.toList.length) cs.length&&(Value.int .u64 (y:Int)).cells.toList.all one)with|false=>rw[hc]at st;cases st|true=>rw[hc,cond_true]at st;cases st;show min H.n b<H.n;omega
theorem Ym.putTop{n:Nat}{H:AH}{v:Value}{xs:List Nat}(h:Ym n H v xs){i:Nat}(hi:i<xs.length)(y:Nat): ∃H2,YV Tryz.prog H.top 101 (adr v i) (.int .u64 (y:Int))=some H2/\H2.n=H.n/\H2.lw<H.n/\Ym n (low H H2) v (xs.set i y)/\T4 (Yt v) H (low H H2)/\KA n H (low H H2):=by obtain⟨H2,h1,h2,h3,h4,h5⟩:=h.top.put hi y;exact⟨H2,h1,h3,h.store_lw hi h1,h2.same (Nn H H2),(T4.none (b:=Yt v) (H:=H) (H':=H2) ⟨h3,fun j _ hj=>h4 j hj⟩ (Nn H H2)),eE h5⟩
theorem Ip(t:Tr Qj): ∀(hs:List Nat)(j:Nat),j∉hs->(UN t hs).get j=t.get j|[],j,_=>rfl|i::r,j,h=>by simp only[UN,Tr.get_set];rw[if_neg (by intro e;subst e;exact h (List.mem_cons_self ..))];exact Ip t r j (fun h'=>h (List.mem_cons_of_mem _ h'))
theorem Io{n bits:Nat} : ∀{ms:List (Nat×Nat×Nat)},(∀x∈ms,n<=x.2.1)-> ∀i∈hidden bits ms,n<=i
 |[],_,i,h=>by cases h
 |(k,lo,hi)::r,hm,i,h=>by have ih:=Io (bits:=bits) (ms:=r) (fun x hx=>hm x (List.mem_cons_of_mem _ hx)) i;have h0:n<=lo:=hm (k,lo,hi) (List.mem_cons_self ..);unfold hidden at h;cases hb:bits.testBit k with
  |true=>rw[hb,cond_true]at h;exact ih h
  |false=>
   rw[hb,cond_false]at h;rcases List.mem_append.mp h with h|h;·obtain⟨a,_,rfl⟩:=List.mem_map.mp h;omega
   ·exact ih h
theorem Wb{H0 H:AH}{bits:Nat}{ms:List (Nat×Nat×Nat)}(k:Zj H0 H)(h: ∀x∈ms,H0.n<=x.2.1):Zj H0 (PM H bits ms):=by have k2:=k.top;refine⟨k2.n,k2.lw,fun j hj=>?_⟩;rw[<-k.blk j hj];unfold PM AH.blk;simp only;rw[Ip];intro hm;have:=Io h j hm;omega
theorem iP{n:Nat}(h:n<=64):Sh Tryz.prog 3 228 (.int .i64 (64-(n:Int)))=some (.int .u64 ((64-n:Nat):Int)):=by have:=PG (n:=64-n) (by show _<18446744073709551616;omega);rw[<-this];congr 2;omega
theorem bH{x:Nat}(hx:x<Zc):Zq x<=64:=by
 rcases Nat.lt_or_ge 64 (Zq x)with h|h
 ·have h0:x≠0:=by rintro rfl;simp[Zq]at h
  have a:=WN h0;have b:2^64<=2^(Zq x-1):=Nat.pow_le_pow_right (by decide) (by omega);have hx:x<18446744073709551616:=hx;omega
 ·exact h
theorem UQ(xs:List Nat)(j:Nat)(h:j<=xs.length):dv Zc xs=dv Zc (xs.take j)+Zc^j*dv Zc (xs.drop j):=by have:=congrArg (dv Zc) (List.take_append_drop j xs);rw[Yn,List.length_take,Nat.min_eq_left h]at this;exact this.symm
theorem KL{xs:List Nat}(dx:YH Zc xs)(tx:YZ xs=xs)(h:0<xs.length):0<xs[xs.length-1]:=by
 rcases Nat.eq_zero_or_pos (xs[xs.length-1])with h0|h0
 ·exfalso;have hs:=R5 (n:=xs.length-1) (xs:=xs) (by omega);have e:xs=xs.take (xs.length-1)++[0]:=by rw[h0]at hs;exact hs
  have:=congrArg YZ e;rw[VM,tx]at this;have:=congrArg List.length this;have:=XS (xs.take (xs.length-1));rw[List.length_take]at this;omega
 ·exact h0
theorem Iz{xs:List Nat}(dx:YH Zc xs)(tx:YZ xs=xs)(h:0<xs.length):Zc^(xs.length-1)<=dv Zc xs:=by rw[UQ xs (xs.length-1) (by omega),List.drop_eq_getElem_cons (by omega),List.drop_eq_nil_of_le (by omega)];have:=KL dx tx h;simp only[dv,Nat.mul_zero,Nat.add_zero];have:Zc^(xs.length-1)*1<=Zc^(xs.length-1)*xs[xs.length-1]:=Nat.mul_le_mul_left _ (by omega);omega
theorem A7{xs:List Nat}(dx:YH Zc xs)(tx:YZ xs=xs):xs=ds Zc (dv Zc xs):=by rw[<-Xi Z2 dx,tx]
theorem aY{ys:List Nat}(dy:YH Zc ys)(ty:YZ ys=ys){n:Nat}(hn:ys.length=n)(h2:0<n){s:Nat}(hs:s=64-Zq (ys[n-1]'(by omega))):s<64/\dv Zc ys*2^s<Zc^n:=by
 subst hn;have h0:=KL dy ty (by omega);have hB:=dy.get (List.getElem?_eq_getElem (show ys.length-1<ys.length by omega));have jb:=bH hB;have hbl0:0<Zq (ys[ys.length-1]):=by unfold Zq;rw[if_neg (by omega)];omega
 refine⟨by omega,?_⟩;have YX:=Ww (ys[ys.length-1]);have e:=UQ ys (ys.length-1) (by omega);rw[List.drop_eq_getElem_cons (by omega),List.drop_eq_nil_of_le (by omega)]at e;simp only[dv,Nat.mul_zero,Nat.add_zero]at e;have hl:=Wh (dy.take (ys.length-1));rw[List.length_take,Nat.min_eq_left (by omega)]at hl;generalize ys[ys.length-1]=y at*;have h1:dv Zc ys<Zc^(ys.length-1)*2^Zq y:=by have:Zc^(ys.length-1)*(y+1)<=Zc^(ys.length-1)*2^Zq y:=Nat.mul_le_mul_left _ YX;rw[Nat.mul_succ]at this;omega
 have h3:dv Zc ys*2^s<Zc^(ys.length-1)*2^Zq y*2^s:=Nat.mul_lt_mul_of_pos_right h1 (Nat.two_pow_pos s);have h4:Zc^(ys.length-1)*2^Zq y*2^s=Zc^ys.length:=by rw[Nat.mul_assoc,<-Nat.pow_add,hs,show Zq y+(64-Zq y)=64 by omega];obtain⟨m,hm⟩: ∃m,ys.length=m+1:=⟨ys.length-1,by omega⟩;rw[hm,Nat.add_sub_cancel,show(2:Nat)^64=Zc by decide];rfl
 rwa[h4]at h3
def OI(n0:Nat)(H:AH)(A B:Nat)(v:Value)(H':AH):Prop:=Zj H H'/\ ∃q r,v= .tuple #[q,r]/\Ym H.n H' q (ds Zc (A/B))/\Ym n0 H' r (ds Zc (A%B))/\Vg q r
theorem Un{n m:Nat}{H H':AH}{v w:Value}{xs ys:List Nat}(a:Ym n H v xs)(b:Ym m H' w ys)(h:H.n<=m):Vg v w:=fun c hc S9=>by have:=(a.blk_lo hc).2;have:=(b.blk_lo S9).1;omega
theorem Hm{a b:Nat} :(Wn a b<0)↔a<b:=by
 unfold Wn;split;·simp;assumption
 ·split<;>simp<;>omega
theorem jK{a:Int} :Zd .lss .i64 a 0=some (.bool (decide (a<0))):=rfl
def rz:Code->Code| .seq _ b=>b|c=>c
def LB:Code:=rz (rz (rz (Tryz.f193.body.getD .skip)))
theorem Dm{n0:Nat}{H:AH}{va vb:Value}{xs ys:List Nat}(ha:Ym n0 H va xs)(hb:Sl H vb ys)(Sb:n0<=H.n)(dx:YH Zc xs)(dy:YH Zc ys)(tx:YZ xs=xs)(ty:YZ ys=ys)(lx:xs.length<=17592186040000)(ly:ys.length<=17592186040000)(hy:0<ys.length)(rest: ∀tm:Tr Value,tm.get 0=some va->tm.get 1=some vb->2<=ys.length->dv Zc ys<=dv Zc xs->W Tryz.prog ZY LB ⟨104,tm,H⟩ fun ex s=>(ex= .norm\/ex= .ret)/\ ∃vs,Zv Tryz.prog s Tryz.f193.results.toList=some vs/\OI n0 H (dv Zc xs) (dv Zc ys) (Z3 vs) s.H):CW Tryz.prog ZY 193 [va,vb] H (OI n0 H (dv Zc xs) (dv Zc ys)):=by
 refine Yd 104 Tryz.func193 ?_;obtain⟨v1,H1,Nd,e1,e2⟩:=UR ha.sl hb dx dy (by omega) (by omega);subst e1;subst e2;have Bpos:0<dv Zc ys:=Nat.lt_of_lt_of_le (Nat.pow_pos (by decide)) (Iz dy ty hy);have eP:=hb.len Zu;have eQ:=ha.sl.len Zu;apply Za;intro b1 Zf;simp;subst Zf;apply Zi;intro b1 Zf;apply Za;intro b2 ZT;simp[Nd,jK,Hm];subst ZT;by_cases YX:dv Zc xs<dv Zc ys
 ·refine Zb (t:=true) (by simp[YX]) ?_;apply Za;intro b2 ZT;simp;subst ZT;apply ZZ;simp[YQ];refine⟨.refl H1,_,_,rfl,?_,?_,fun c hc=>by cases hc⟩;·rw[Nat.div_eq_of_lt YX,Xl];exact .nil
  ·rw[Nat.mod_eq_of_lt YX,<-A7 dx tx];exact ha
 ·refine Zb (t:=false) (by simp[YX]) ?_;apply Zr;subst Zf;apply Zi;intro b1 Zf;apply Za;intro b2 ZT;simp[eP];subst ZT;by_cases h1:ys.length=1
  ·refine Zb (t:=true) (by simp[h1]) ?_;obtain⟨y,rfl⟩: ∃y,ys=[y]:=by match ys,h1 with|[y],_=>exact⟨y,rfl⟩
   have AR:y<Zc:=dy.head;have eB:dv Zc [y]=y:=by simp[dv]
   rw[eB]at Bpos YX⊢;obtain⟨q0,H2,RH,k2,o2,n2⟩:=YK (H:=H1) Zu (n:=xs.length) (by omega);have Lx:0<xs.length:=by
    rcases Nat.eq_zero_or_pos xs.length with h|h;·exfalso;have:xs=[]:=List.length_eq_zero_iff.mp h;subst this;exact YX Bpos
    ·exact h
   have w1:Zd .sub .i64 (xs.length:Int) 1=some (.int .i64 ((xs.length:Int)-1)):=by rw[V8 (by omega) Lx];congr 2;omega
   apply Za;intro b2 ZT;simp[eQ,RH];subst ZT;refine Xd (fun s'=>s'.k=104/\Zj H1 s'.H/\ ∃(L:List Nat) (r:Nat),L.length=xs.length/\YH Zc L/\r<y/\dv Zc xs=y*dv Zc L+r/\Ym H1.n s'.H q0 L/\s'.tm.get 6=some q0/\s'.tm.get 7=some (.int .u64 (r:Int))) ?_ ?_
   ·intro Jt XR;apply Za;intro b2 ZT;simp[eQ,w1];subst ZT;apply ZR;refine YS (fun m s'=>s'.k=104/\Zj H1 s'.H/\m<=xs.length/\ ∃(L:List Nat) (r:Nat),L.length+m=xs.length/\YH Zc L/\r<y/\dv Zc (xs.drop m)=y*dv Zc L+r/\Ym H1.n s'.H q0 (List.replicate m 0++L)/\s'.tm.get 0=some va/\s'.tm.get 1=some vb/\s'.tm.get 6=some q0/\s'.tm.get 7=some (.int .u64 (r:Int))/\s'.tm.get 8=some (.int .i64 ((m:Int)-1))) ?_ xs.length _ ⟨rfl,k2,Nat.le_refl _,[],0,by simp,.nil _,Bpos,by simp[dv],by simpa using o2,by simp,by simp,by simp,by simp,by simp⟩;rintro m ⟨k,tm,H3⟩ ⟨hk,k3,hm,L,r,hL,dL,hr,heq,own,t0,t1,t6,t7,t8⟩ Q' YA;simp only at hk k3 own t0 t1 t6 t7 t8;subst hk;apply Zi;intro b3 Z4;apply Za;intro b4 Yy;have TE:Zd .geq .i64 ((m:Int)-1) 0=some (.bool (decide (0<m))):=by show some (Value.bool (decide ((m:Int)-1≥0)))=_;congr 2;apply decide_eq_decide.mpr;omega
    simp[t8,TE];subst Yy;by_cases Gz:m=0;·subst Gz;refine Zb (t:=false) (by simp) ?_;apply YN;apply YA;left;exact⟨rfl,XR _ ⟨rfl,k3,L,r,by omega,dL,hr,by simpa using heq,by simpa using own,by simp[t6],by simp[t7]⟩⟩
    ·refine Zb (t:=true) (by simp;omega) ?_;apply Zr;subst Z4;have em:(m:Int)-1=((m-1:Nat):Int):=by omega
     rw[em]at t8;have hi:m-1<xs.length:=by omega
     have sa:=(ha.sl.keep k3);have sb:=(hb.keep k3);have a1:=sa.adr Zu (k:= .i64) hi;have d1:=sa.top.load hi;have a2:Yi Tryz.prog 30 vb (.int .i64 0)=some (adr vb 0):=sb.adr Zu (k:= .i64) (i:=0) (by simp);have d2:Z9 Tryz.prog H3.top 101 (adr vb 0)=some (.int .u64 (y:Int)):=sb.top.load (i:=0) (by simp);have E8:xs[m-1]<Zc:=dx.get (List.getElem?_eq_getElem hi);obtain⟨x,Me⟩:=hid (xs[m-1]);rw[<-Me]at d1 E8;have dc:=Ok hr E8 AR H3.top;obtain⟨q,hq⟩:=hid ((r*Zc+x)/y);obtain⟨r',pL⟩: ∃r',r'=(r*Zc+x)%y:=⟨_,rfl⟩;rw[<-hq,<-pL]at dc;have a3:=own.sl.adr Zu (k:= .i64) (i:=m-1) (by simp;omega);obtain⟨H4,WQ,n4,jJ,Vr,oW,wE⟩:=own.putTop (i:=m-1) (by simp;omega) q;have Be:xs.drop (m-1)=x::xs.drop m:=by rw[List.drop_eq_getElem_cons hi,show m-1+1=m by omega,<-Me]
     apply Zi;intro b3 Z4;apply ZR;apply tg (by kernel_rfl);simp[t0,t1,t6,t7,t8,a1,a2,d1,d2,dc,a3,WQ,n4,jJ,Zz];subst Z4;have w2:Zd .sub .i64 ((m-1:Nat):Int) 1=some (.int .i64 (((m-1:Nat):Int)-1)):=by show some (Value.int .i64 (IntKind.i64.wrap (((m-1:Nat):Int)-1)))=_;congr 2;rw[IntKind.wrap_i64];omega
     apply Zl;simp[t8,w2];apply YA;refine⟨m-1,by omega,rfl,wE H1 k3 (Nat.le_refl _),by show m-1<=_;omega,q::L,r',by simp;omega,.cons ?_ dL,?_,?_,?_,by simp[t0],by simp[t1],by simp[t6],by simp,by simp⟩;·rw[hq,Nat.div_lt_iff_lt_mul Bpos];have:(r+1)*Zc<=y*Zc:=Nat.mul_le_mul_right _ hr;rw[Nat.succ_mul]at this;rw[Nat.mul_comm Zc y];omega
     ·rw[pL];exact Nat.mod_lt _ Bpos
     ·rw[Be];simp only[dv];rw[heq];have e:=Nat.div_add_mod (r*Zc+x) y;rw[<-hq,<-pL]at e;rw[Nat.mul_add,Nat.mul_add,<-Nat.mul_assoc,Nat.mul_comm Zc y,Nat.mul_assoc];rw[Nat.mul_comm r Zc]at e;omega
     ·have dG:List.replicate m 0++L=List.replicate (m-1) 0++0::L:=by obtain⟨m',rfl⟩: ∃m',m=m'+1:=⟨m-1,by omega⟩;rw[List.replicate_succ'];simp
      rw[dG,WL _ _ _ _ (by simp)]at Vr;exact Vr
   rintro⟨k,tm,H3⟩ ⟨hk,k3,L,r,hL,dL,hr,heq,own,t6,t7⟩;simp only at hk k3 own t6 t7;subst hk;obtain⟨v4,H4,jc,k4,o4⟩:=Vl own.sl (by omega);obtain⟨v5,H5,N7,k5,o5⟩:=Tc (x:=r) (H:=H4) (by omega);apply Za;intro b hb;simp[t6,t7,jc,N7];subst hb;apply ZZ;simp[YQ];have hdiv:dv Zc xs/y=dv Zc L:=by rw[heq,Nat.mul_add_div Bpos,Nat.div_eq_of_lt hr,Nat.add_zero]
   have FU:dv Zc xs%y=r:=by rw[heq,Nat.mul_add_mod,Nat.mod_eq_of_lt hr]
   rw[Xi Z2 dL]at o4;refine⟨(k3.trans k4).trans k5,v4,v5,rfl,?_,?_,Un o4 o5 (Nat.le_refl _)⟩;·rw[hdiv];exact o4.mono k3.n k5
   ·rw[FU];exact o5.mono (Nat.le_trans Sb (k3.trans k4).n) (.refl H5)
  ·refine Zb (t:=false) (by simp;omega) ?_;apply Zr;subst Zf;exact rest _ (by simp) (by simp) (by omega) (Nat.le_of_not_lt YX)
theorem Ym.n_lt{n:Nat}{H:AH}{v:Value}{xs:List Nat}(h:Ym n H v xs)(h0:0<xs.length):n<H.n:=by cases h with|nil=>cases h0|mk b o cap xs cs h1 h2 h3 h4 h5 h6=>omega
theorem ck{a b:Nat}(h:a<b):Nat.blt a b=true:=by rw[Nat.blt_eq];exact h
theorem Yr{bits:Nat} : ∀{ms:List (Nat×Nat×Nat)},(∀x∈ms,bits.testBit x.1=true)->hidden bits ms=[]|[],_=>rfl|(k,lo,hi)::r,h=>by have h1:bits.testBit k=true:=h (k,lo,hi) (List.mem_cons_self ..);unfold hidden;rw[h1,cond_true];exact Yr fun x hx=>h x (List.mem_cons_of_mem _ hx)
def cutTo(v:Value)(m:Nat):Value:=match v with| .slice a _ c=> .slice a m c|v=>v
theorem Sl.cutTo{H:AH}{v:Value}{xs:List Nat}(h:Sl H v xs){t:TypeId}(ht:LT t){m:Nat}(hm:m<=xs.length)(h0:0<xs.length):Ve Tryz.prog H t v none (some (.int .i64 (m:Int))) none=some (cutTo v m)/\Sl H (Go.Proofs.YtmkfecoeghokfaaGreatDoor.cutTo v m) (xs.take m):=by cases h with
 |nil=>cases h0
 |emp b=>cases h0
 |mk b o cap xs h1 h2=>
  have hl:(xs.take m).length=m:=by rw[List.length_take];omega
  obtain⟨iJ,cs,h3,h4,h5⟩:=h2;have hs:Sl H (.slice (some ⟨b,o,none⟩) (xs.take m).length cap) (xs.take m):= .mk b o cap _ (by omega) ⟨iJ,cs,h3,h4,fun i x hx=>h5.1 i x (by
   rw[List.getElem?_take]at hx;split at hx;·exact hx
   ·cases hx),h5.2⟩;rw[hl]at hs;refine⟨?_,hs⟩;unfold Ve;simp only[ht.1,NX];unfold Jw Xk;simp only[h4,Option.isSome_some,Option.isNone_none,Bool.true_or];rw[if_pos (by omega)];have e1:Nat.ble m cap=true:=Nat.ble_eq.mpr (by omega);simp[Xk,e1,Go.Proofs.YtmkfecoeghokfaaGreatDoor.cutTo]
theorem DA{X vs:List Nat}{j n:Nat}(dX:YH Zc X)(hj:j+n+1<=X.length)(cV:YH Zc vs)(AU:vs.length=n)(YX:dv Zc (X.drop (j+1))<dv Zc vs):dv Zc ((X.drop j).take (n+1))=dv Zc (X.drop j)/\dv Zc ((X.drop j).take (n+1))<dv Zc vs*Zc/\dv Zc (X.drop (j+n+1))=0:=by
 have hV:=Wh cV;rw[AU]at hV;have e1:dv Zc (X.drop (j+1))=dv Zc ((X.drop (j+1)).take n)+Zc^n*dv Zc ((X.drop (j+1)).drop n):=UQ _ n (by rw[List.length_drop];omega);have z:dv Zc ((X.drop (j+1)).drop n)=0:=by
  rcases Nat.eq_zero_or_pos (dv Zc ((X.drop (j+1)).drop n))with h|h;·exact h
  ·exfalso;have:Zc^n*1<=Zc^n*dv Zc ((X.drop (j+1)).drop n):=Nat.mul_le_mul_left _ h;omega
 rw[List.drop_drop]at z;have z':dv Zc (X.drop (j+n+1))=0:=by rw[show j+n+1=j+1+n by omega];exact z
 have e2:=UQ (X.drop j) (n+1) (by rw[List.length_drop];omega);rw[List.drop_drop,show j+(n+1)=j+n+1 by omega,z',Nat.mul_zero,Nat.add_zero]at e2;refine⟨e2.symm,?_,z'⟩;rw[<-e2,List.drop_eq_getElem_cons (by omega)];have hx:X[j]<Zc:=dX.get (List.getElem?_eq_getElem (by omega));have:(dv Zc (X.drop (j+1))+1)*Zc<=dv Zc vs*Zc:=Nat.mul_le_mul_right _ YX;rw[Nat.succ_mul]at this;simp only[dv];rw[Nat.mul_comm Zc];omega
theorem GC{n0:Nat}{H:AH}{va vb:Value}{xs ys:List Nat}(ha:Ym n0 H va xs)(hb:Sl H vb ys)(Sb:n0<=H.n)(dx:YH Zc xs)(dy:YH Zc ys)(tx:YZ xs=xs)(ty:YZ ys=ys)(lx:xs.length<=17592186040000)(ly:ys.length<=17592186040000)(tm:Tr Value)(t0:tm.get 0=some va)(t1:tm.get 1=some vb)(h2:2<=ys.length)(TE:dv Zc ys<=dv Zc xs):W Tryz.prog ZY LB ⟨104,tm,H⟩ fun ex s=>(ex= .norm\/ex= .ret)/\ ∃vs,Zv Tryz.prog s Tryz.f193.results.toList=some vs/\OI n0 H (dv Zc xs) (dv Zc ys) (Z3 vs) s.H:=by
 obtain⟨n,hn⟩:=hid (ys.length);have hn2:2<=n:=by omega
 have hxn:n<=xs.length:=by
  rcases Nat.lt_or_ge xs.length n with h|h;·have:=ND tx ty dx dy (by omega);omega
  ·exact h
 have eP:=hb.len Zu;have eQ:=ha.sl.len Zu;rw[<-hn]at eP;have s1:Zd .sub .i64 (n:Int) 1=some (.int .i64 ((n-1:Nat):Int)):=V8 (by omega) (by omega);have a1:=hb.adr Zu (k:= .i64) (i:=n-1) (by omega);have d1:=hb.load (i:=n-1) (by omega);obtain⟨y,hy⟩:=hid (ys[n-1]'(by omega));rw[<-hy]at d1;have AR:y<Zc:=by rw[hy];exact dy.get (List.getElem?_eq_getElem (by omega))
 obtain⟨s,hs⟩:=hid (64-Zq y);have RG:=aY dy ty hn.symm (by omega) (s:=s) (by rw[hs,hy]);obtain⟨cE,hVlt⟩:=RG;have hlz:ZU Tryz.prog ZY 216 [.int .u64 (y:Int)] H=some (.int .i64 (64-(Zq y:Int)),H):=by obtain⟨v,H',h,rfl,rfl⟩:=Bx AR (H:=H);exact h
 have hcv:=iP (bH AR);rw[<-hs]at hcv;have AZ:=Iz dy ty (by omega);rw[<-hn]at AZ;show W _ _ (.seq (.region 10 _ _) _) _ _;apply Za;intro b Zf;simp[t1,eP,s1,a1,d1,hlz,hcv];subst Zf;obtain⟨u0,H2,hu,ku,il,ou,du,lu,vu⟩:=BG (H:=H.top) ha.sl.top dx (by omega) cE;have ou1:Ym H.n (grown H H2) u0 il:=ou.same (Yz ku);have k1:Zj H (grown H H2):=Yo (.refl H) ku;have n1:H.n<H2.n:=ou.n_lt (by omega);obtain⟨G1,Td⟩:=hid (grown H H2);have bf:G1.n=H2.n:=by rw[Td];rfl
 rw[<-Td]at ou1 k1;obtain⟨w0,H3,hw,kw,kI,ow,dw,lw,vw⟩:=BG (H:=G1.top) (hb.keep k1).top dy (by omega) cE;have ow1:Ym G1.n (grown G1 H3) w0 kI:=ow.same (Yz kw);have k2:Zj G1 (grown G1 H3):=Yo (.refl G1) kw;have n2:G1.n<H3.n:=ow.n_lt (by omega);obtain⟨G2,Fw⟩:=hid (grown G1 H3);have nG2:G2.n=H3.n:=by rw[Fw];rfl
 rw[<-Fw]at ow1 k2;obtain⟨wv,mG,ow2⟩:=ow1.top.cut Zu (m:=n) (by omega) (by omega);have xz:Ym G1.n G2 wv (kI.take n):=ow2.same ⟨rfl,fun _ _ _=>rfl⟩;apply Zi;intro b Zf;apply Y8 (by kernel_rfl);simp[t0,t1];refine YJ (v:=u0) (H2:=H2) rfl rfl rfl (by rw[Z1 rfl];simp[t0,hu]) (by omega) (YD ku) ?_;simp[t1,ck n1,<-Td];refine YJ (v:=w0) (H2:=H3) rfl rfl rfl (by rw[Z1 (by kernel_rfl)];simp[t1,hw]) (by omega) (YD kw) ?_;simp[t1,ck n2,<-Fw,eP];refine Z7 (v:=wv) rfl rfl rfl (by rw[Z1 (by kernel_rfl)];simp[mG]) ?_;simp;subst Zf;obtain⟨vs,AU⟩:=hid (kI.take n);rw[<-AU]at xz;have gZ:vs.length=n:=by rw[AU,List.length_take];omega
 have cV:YH Zc vs:=by rw[AU];exact dw.take n
 have tG:dv Zc vs=dv Zc ys*2^s:=by
  have e:=UQ kI n (by omega);rw[vw,<-AU]at e;have:dv Zc (kI.drop n)=0:=by
   rcases Nat.eq_zero_or_pos (dv Zc (kI.drop n))with h|h;·exact h
   ·exfalso;have:Zc^n*1<=Zc^n*dv Zc (kI.drop n):=Nat.mul_le_mul_left _ h;omega
  rw[this]at e;omega
 have Bpos:0<dv Zc ys:=Nat.lt_of_lt_of_le (Nat.pow_pos (by decide)) AZ;have kX:=Nat.two_pow_pos s;have Vge:Zc^(n-1)<=dv Zc vs:=by rw[tG];exact Nat.le_trans AZ (Nat.le_mul_of_pos_right _ kX)
 have Vpos:0<dv Zc vs:=Nat.lt_of_lt_of_le (Nat.pow_pos (by decide)) Vge;have Vlt:dv Zc vs<Zc^n:=by rw[tG];exact hVlt
 have vtop:0<vs[n-1]'(by omega):=by
  rcases Nat.eq_zero_or_pos (vs[n-1]'(by omega))with h|h;·exfalso;have e:=UQ vs (n-1) (by omega);rw[List.drop_eq_getElem_cons (by omega),List.drop_eq_nil_of_le (by omega),h]at e;have hl:=Wh (cV.take (n-1));rw[List.length_take,Nat.min_eq_left (by omega)]at hl;simp[dv]at e;omega
  ·exact h
 have NN:=k1.trans k2;have ou2:Ym H.n G2 u0 il:=ou1.m k2;have tZ:Vg u0 wv:=Un ou1 xz (Nat.le_refl _);have FI:=xz.sl.len Zu;rw[gZ]at FI;obtain⟨M,hM⟩:=hid (xs.length-n+1);have s2:Zd .sub .i64 (xs.length:Int) (n:Int)=some (.int .i64 ((xs.length-n:Nat):Int)):=LS (by omega) hxn;have s3:Zd .add .i64 ((xs.length-n:Nat):Int) 1=some (.int .i64 (M:Int)):=by rw[hM];exact YU (by omega)
 have s4:((xs.length-n:Nat):Int)=(M:Int)-1:=by omega
 obtain⟨q0,H4,RH,kq,oq,nq⟩:=YK (H:=G2) Zu (n:=M) (by omega);have tz:Vg u0 q0:=Un ou2 oq (Nat.le_refl _);apply Za;intro b Zf;simp[FI];subst Zf;apply Za;intro b Zf;simp[t0,eQ,s2,s3,RH];subst Zf;refine Xd (fun s'=>s'.k=104/\Zj H s'.H/\ ∃(X L:List Nat),X.length=xs.length+1/\YH Zc X/\L.length=M/\YH Zc L/\dv Zc X+dv Zc vs*dv Zc L=dv Zc xs*2^s/\dv Zc X<dv Zc vs/\Ym H.n s'.H u0 X/\Ym G2.n s'.H q0 L/\s'.tm.get 9=some (.int .u64 (s:Int))/\s'.tm.get 10=some u0/\s'.tm.get 12=some (.int .i64 (n:Int))/\s'.tm.get 13=some q0) ?_ ?_
 ·intro Jt XR;apply Za;intro b2 ZT;simp[t0,eQ,s2];subst ZT;apply ZR;have start:dv Zc (il.drop M)<dv Zc vs:=by
   have e:=UQ il M (by omega);rw[vu]at e;have hx:=Wh dx;have h1:dv Zc xs*2^s<Zc^xs.length*2^s:=Nat.mul_lt_mul_of_pos_right hx kX;have h3:Zc^xs.length*2^s=Zc^M*(Zc^(n-1)*2^s):=by rw[<-Nat.mul_assoc,<-Nat.pow_add,show M+(n-1)=xs.length by omega]
   have h4:Zc^M*(Zc^(n-1)*2^s)<=Zc^M*dv Zc vs:=Nat.mul_le_mul_left _ (by rw[tG];exact Nat.mul_le_mul_right _ AZ);have h5:Zc^M*dv Zc (il.drop M)<Zc^M*dv Zc vs:=by omega
   exact Nat.lt_of_mul_lt_mul_left h5
  refine YS (fun m s'=>s'.k=104/\Zj G2 H4/\m<=M/\Zj H s'.H/\Sl s'.H wv vs/\ ∃(X L:List Nat),X.length=xs.length+1/\YH Zc X/\L.length+m=M/\YH Zc L/\dv Zc X+Zc^m*(dv Zc vs*dv Zc L)=dv Zc xs*2^s/\dv Zc (X.drop m)<dv Zc vs/\Ym H.n s'.H u0 X/\Ym G2.n s'.H q0 (List.replicate m 0++L)/\s'.tm.get 9=some (.int .u64 (s:Int))/\s'.tm.get 10=some u0/\s'.tm.get 11=some wv/\s'.tm.get 12=some (.int .i64 (n:Int))/\s'.tm.get 13=some q0/\s'.tm.get 14=some (.int .i64 ((m:Int)-1))) ?_ M _ ⟨rfl,kq,Nat.le_refl _,NN.trans kq,xz.sl.keep kq,il,[],by omega,du,by simp,.nil _,by simp[dv,vu],start,ou2.m kq,by simpa using oq,by simp,by simp,by simp,by simp,by simp,by simp[s4]⟩;rintro m ⟨k,tm,H5⟩ ⟨hk,_,hm,kH,sv,X,L,hX,dX,hL,dL,heq,YX,ou,oq,t9,t10,t11,t12,t13,t14⟩ Q' YA;simp only at hk kH sv ou oq t9 t10 t11 t12 t13 t14;subst hk;apply Zi;intro b3 Z4;apply Za;intro b4 Yy;have TE:Zd .geq .i64 ((m:Int)-1) 0=some (.bool (decide (0<m))):=by show some (Value.bool (decide ((m:Int)-1≥0)))=_;congr 2;apply decide_eq_decide.mpr;omega
  simp[t14,TE];subst Yy;by_cases Gz:m=0;·subst Gz;refine Zb (t:=false) (by simp) ?_;apply YN;apply YA;left;exact⟨rfl,XR _ ⟨rfl,kH,X,L,hX,dX,by omega,dL,by simpa using heq,by simpa using YX,ou,by simpa using oq,by simp[t9],by simp[t10],by simp[t12],by simp[t13]⟩⟩
  ·refine Zb (t:=true) (by simp;omega) ?_;apply Zr;subst Z4;obtain⟨j,rfl⟩: ∃j,m=j+1:=⟨m-1,by omega⟩;have em:((j+1:Nat):Int)-1=(j:Int):=by omega
   rw[em]at t14;have hjX:j+n+1<=X.length:=by omega
   obtain⟨K1,K2,K3⟩:=DA dX hjX cV gZ YX;obtain⟨uw,mG,suw,view,bw⟩:=ou.sl.part Zu (j:=j) (m:=n+1) (by omega) (by omega);have i1:Zd .add .i64 (j:Int) (n:Int)=some (.int .i64 ((j+n:Nat):Int)):=WO (by omega);have i2:Zd .add .i64 ((j+n:Nat):Int) 1=some (.int .i64 ((j+(n+1):Nat):Int)):=YU (by omega);have pG:X=X.take j++(X.drop j).take (n+1)++X.drop (j+n+1):=by have a:=List.take_append_drop (n+1) (X.drop j);rw[List.drop_drop,show j+(n+1)=j+n+1 by omega]at a;rw[List.append_assoc,a,List.take_append_drop]
   have ljp:(X.take j).length=j:=by rw[List.length_take];omega
   have lus:((X.drop j).take (n+1)).length=n+1:=by rw[List.length_take,List.length_drop];omega
   have ou':=ou;rw[pG]at ou';obtain⟨r,H6,hg,hr,bt,ka,Pa,lus',dus',yk,ou6⟩:=Dy ou' ljp lus view ((dX.drop j).take (n+1)) sv tZ gZ hn2 (by omega) cV vtop K2;subst hr;rw[K1]at yk hg;have sH:=oq.but bt tz;have dG:List.replicate (j+1) 0++L=List.replicate j 0++0::L:=by rw[List.replicate_succ'];simp
   rw[dG]at sH;have a2:=sH.sl.adr Zu (k:= .i64) (i:=j) (by simp);obtain⟨H7,Qp,oq7,n7,b7,Mg⟩:=sH.put (i:=j) (by simp) (dv Zc (X.drop j)/dv Zc vs);rw[WL _ _ _ _ (by simp)]at oq7;have apqu:Vg q0 u0:=fun c hc S9=>tz c S9 hc;have apvq:Vg q0 wv:=fun c hc S9=>by have x1:=(oq.blk_lo hc).1;have x2:=(xz.blk_lo S9).2;omega
   have bt7:T4 (Yt q0) H6 H7:=⟨n7,fun i _ hi=>b7 i hi⟩;have ou7:Ym H.n H7 u0 (X.take j++Pa++X.drop (j+n+1)):=ou6.but bt7 apqu;have sv7:Sl H7 wv vs:=(sv.but bt tZ).but bt7 apvq;have kH7:Zj H H7:=Mg H (ka H kH (Nat.le_refl _)) (by have:=NN.n;omega);apply Zi;intro b3 Z4;apply ZR;apply Zl;simp[t10,t11,t12,t13,t14,i1,i2,mG,hg,a2,Qp];subst Z4;have w2:Zd .sub .i64 (j:Int) 1=some (.int .i64 ((j:Int)-1)):=by show some (Value.int .i64 (IntKind.i64.wrap ((j:Int)-1)))=_;congr 2;rw[IntKind.wrap_i64];omega
   apply Zl;simp[t14,w2];apply YA;have hdX':(X.take j++Pa++X.drop (j+n+1)).drop j=Pa++X.drop (j+n+1):=by rw[List.append_assoc,List.drop_append_of_le_length (by omega),List.drop_eq_nil_of_le (by omega)];rfl
   have hdv:dv Zc (Pa++X.drop (j+n+1))=dv Zc (X.drop j)%dv Zc vs:=by rw[Yn,K3,Nat.mul_zero,Nat.add_zero,yk]
   refine⟨j,Nat.lt_succ_self j,rfl,kq,by show j<=M;omega,kH7,sv7,X.take j++Pa++X.drop (j+n+1),dv Zc (X.drop j)/dv Zc vs::L,?_,((dX.take j).append dus').append (dX.drop _),by simp;omega,.cons ?_ dL,?_,?_,ou7,oq7,by simp[t9],by simp[t10],by simp[t11],by simp[t12],by simp[t13],by simp⟩;·simp only[List.length_append,List.length_drop];omega
   ·rw[Nat.div_lt_iff_lt_mul Vpos,Nat.mul_comm,<-K1];exact K2
   ·have e1:=UQ X j (by omega);rw[List.append_assoc,Yn,ljp,hdv];have e2:=Nat.div_add_mod (dv Zc (X.drop j)) (dv Zc vs);simp only[dv];generalize dv Zc (X.drop j)/dv Zc vs=q at*;generalize dv Zc (X.drop j)%dv Zc vs=r at*;rw[e1,<-e2]at heq;rw[<-heq];rw[Nat.mul_add (dv Zc vs) q,Nat.mul_add (Zc^j) (dv Zc vs*q) r,Nat.mul_add (Zc^j) (dv Zc vs*q),show Zc^(j+1)=Zc^j*Zc from rfl,Nat.mul_assoc (Zc^j) Zc,Nat.mul_left_comm (dv Zc vs) Zc];omega
   ·rw[hdX',hdv];exact Nat.mod_lt _ Vpos
 rintro⟨k,CX,H5⟩ ⟨hk,kH,X,L,hX,dX,hL,dL,heq,YX,ou,oq,t9,t10,t12,t13⟩;simp only at hk kH ou oq t9 t10 t12 t13;subst hk;have e0:dv Zc xs*2^s=dv Zc vs*dv Zc L+dv Zc X:=by rw[<-heq];omega
 have hdiv:dv Zc xs/dv Zc ys=dv Zc L:=by rw[<-Nat.mul_div_mul_right _ _ kX,e0,<-tG,Nat.mul_add_div Vpos,Nat.div_eq_of_lt YX,Nat.add_zero]
 have FU:dv Zc X/2^s=dv Zc xs%dv Zc ys:=by
  have:dv Zc xs%dv Zc ys*2^s=dv Zc X:=by rw[<-Nat.mul_mod_mul_right,e0,<-tG,Nat.mul_add_mod,Nat.mod_eq_of_lt YX]
  rw[<-this,Nat.mul_div_cancel _ kX]
 have hXn:dv Zc (X.take n)=dv Zc X:=by
  have e:=UQ X n (by omega);have:dv Zc (X.drop n)=0:=by
   rcases Nat.eq_zero_or_pos (dv Zc (X.drop n))with h|h;·exact h
   ·exfalso;have:Zc^n*1<=Zc^n*dv Zc (X.drop n):=Nat.mul_le_mul_left _ h;omega
  rw[this]at e;omega
 obtain⟨qv,H6,hq6,zY,sH⟩:=Vl (H:=H5.top) oq.sl.top (by omega);rw[Xi Z2 dL,<-hdiv]at sH;obtain⟨G6,yR⟩:=hid (grown H5 H6);have zt:Zj H5 G6:=by rw[yR];exact Yo (.refl H5) zY
 have nG6:G6.n=H6.n:=by rw[yR];rfl
 have oqG:Ym H5.n G6 qv (ds Zc (dv Zc xs/dv Zc ys)):=by rw[yR];exact sH.same (Yz zY)
 have ouG:=(ou.sl.keep zt).top;obtain⟨rv,H7,hr7,zX,or7⟩:=Ad (H:=G6.top) (ouG.cutTo Zu (m:=n) (by omega) (by omega)).2 (dX.take n) (by rw[List.length_take];omega) cE;rw[hXn,FU]at or7;have kG7:Zj G6 (grown G6 H7):=Yo (.refl G6) zX;have orG:Ym G6.n (grown G6 H7) rv (ds Zc (dv Zc xs%dv Zc ys)):=or7.same (Yz zX);have h6n:=zY.n;have h7n:=zX.n;apply Zi;intro b Zf;apply Y8 (by kernel_rfl);simp[t13];refine YJ (v:=qv) (H2:=H6) rfl rfl rfl (by rw[Z1 rfl];simp[hq6]) h6n (YD zY) ?_;rw[<-yR];generalize PO:cond (Nat.blt H5.n H6.n) _ _=ms;have X7: ∀x∈ms,x.1=1/\H5.n<=x.2.1:=by intro x hx;rw[<-PO]at hx;cases jb:Nat.blt H5.n H6.n with|true=>rw[jb,cond_true]at hx;simp at hx;subst hx;exact⟨rfl,Nat.le_refl _⟩|false=>rw[jb,cond_false]at hx;cases hx
 simp[t10,t12];refine Z7 (v:=cutTo u0 n) rfl rfl rfl ?_ ?_;·have hsv:=fun bits=>((ou.sl.keep (Wb (bits:=bits) zt fun x hx=>(X7 x hx).2)).cutTo Zu (m:=n) (by omega) (by omega)).1;simp[hsv]
 simp[t9];refine YJ (v:=rv) (H2:=H7) rfl rfl rfl ?_ h7n (YD zX) ?_;·rw[Z1 (Yr fun x hx=>by rw[(X7 x hx).1];kernel_rfl)];simp[t9,hr7]
 simp;subst Zf;apply ZZ;refine⟨.inr rfl,[qv,rv],?_,?_⟩;·simp
 ·exact⟨(kH.trans zt).trans kG7,qv,rv,rfl,oqG.mono kH.n kG7,orG.mono (by have:=(kH.trans zt).n;omega) (.refl _),Un oqG orG (Nat.le_refl _)⟩
theorem GB{n0:Nat}{H:AH}{va vb:Value}{xs ys:List Nat}(ha:Ym n0 H va xs)(hb:Sl H vb ys)(Sb:n0<=H.n)(dx:YH Zc xs)(dy:YH Zc ys)(tx:YZ xs=xs)(ty:YZ ys=ys)(lx:xs.length<=17592186040000)(ly:ys.length<=17592186040000)(hy:0<ys.length):CW Tryz.prog ZY 193 [va,vb] H (OI n0 H (dv Zc xs) (dv Zc ys)):=Dm ha hb Sb dx dy tx ty lx ly hy fun tm t0 t1 h2 TE=>GC ha hb Sb dx dy tx ty lx ly tm t0 t1 h2 TE
structure Mod (b : Option Nat) (H H' : AH) : Prop where
  n : H.n <= H'.n
  blk : ∀ j, j < H.n -> b ≠ some j -> H'.blk j = H.blk j
theorem Mod.refl(b:Option Nat)(H:AH):Mod b H H:=⟨Nat.le_refl _,fun _ _ _=>rfl⟩
theorem Mod.trans{b:Option Nat}{H H1 H2:AH}(x:Mod b H H1)(y:Mod b H1 H2):Mod b H H2:=⟨Nat.le_trans x.n y.n,fun j hn hj=>(y.blk j (Nat.lt_of_lt_of_le hn x.n) hj).trans (x.blk j hn hj)⟩
theorem Zj.mod{H H':AH}(k:Zj H H'):Mod none H H':=⟨k.n,fun j hj _=>k.blk j hj⟩
theorem T4.mod{b:Option Nat}{H H':AH}(k:T4 b H H'):Mod b H H':=⟨Nat.le_of_eq k.n.symm,k.blk⟩
theorem Mod.any{b:Option Nat}{H H':AH}(k:Mod none H H'):Mod b H H':=⟨k.n,fun j hj _=>k.blk j hj (fun e=>by cases e)⟩
theorem Sl.mod{b:Option Nat}{H H':AH}{v:Value}{xs:List Nat}(h:Sl H v xs)(k:Mod b H H')(hb: ∀c,b=some c->Yt v≠some c):Sl H' v xs:=by cases h with|nil=>exact .nil|emp b=>exact .emp b|mk c o cap xs h1 h2=>obtain⟨h3,cs,h4,h5,h6⟩:=h2;have e:=k.blk c h3 fun e=>hb c e rfl;exact .mk c o cap xs h1 ⟨Nat.lt_of_lt_of_le h3 k.n,cs,by unfold AH.cells;rw[e];exact h4,by unfold AH.size;rw[e];exact h5,h6⟩
theorem Ym.mod{b:Option Nat}{n0:Nat}{H H':AH}{v:Value}{xs:List Nat}(h:Ym n0 H v xs)(k:Mod b H H')(hb: ∀c,b=some c->Yt v≠some c):Ym n0 H' v xs:=by cases h with|nil=>exact .nil|mk c o cap xs cs h1 h2 h3 h4 h5 h6=>exact .mk c o cap xs cs h1 h2 (Nat.lt_of_lt_of_le h3 k.n) (by rw[k.blk c h3 fun e=>hb c e rfl];exact h4) h5 h6
theorem AH.blk_kill(H:AH)(i j:Nat):(H.kill i).blk j=if j=i then .dead else H.blk j:=by
 unfold AH.kill AH.blk;simp only[Tr.get_set];by_cases e:j=i;·rw[if_pos e,if_pos e]
 ·rw[if_neg e,if_neg e]
theorem aa(xs:List Nat):(xs.map V6).all one=true:=by rw[List.all_eq_true];intro v hv;obtain⟨x,_,rfl⟩:=List.mem_map.mp hv;rfl
theorem Ym.append{n0:Nat}{H:AH}{v w:Value}{xs ys:List Nat}(h:Ym n0 H v xs)(hn:n0<=H.n)(hw:Sl H w ys)(hl:xs.length+ys.length<=17592186044416){t t2:TypeId}(ht:LT t)(ef:LT t2): ∃v' H',XA Tryz.prog H t t2 v w=some (v',H')/\Ym n0 H' v' (xs++ys)/\Mod (Yt v) H H'/\KA n0 H H':=by
 by_cases h0:ys.length=0
 ·obtain rfl:ys=[]:=List.length_eq_zero_iff.mp h0;refine⟨v,H,?_,by simpa using h,.refl _ _,.refl _ _⟩;have hv: ∃a l c,v= .slice a l c:=by cases h<;>exact⟨_,_,_,rfl⟩
  obtain⟨a,l,c,rfl⟩:=hv;have hwv: ∃a c,w= .slice a 0 c:=by generalize hz:([]:List Nat)=zs at hw;cases hw with|nil=>exact⟨_,_,rfl⟩|emp b=>exact⟨_,_,rfl⟩|mk b o cap xs h1 h2=>subst hz;exact⟨_,_,rfl⟩
  obtain⟨a2,c2,rfl⟩:=hwv;simp[XA,ht.2,ef.2]
 ·have hc:=hw.cells (by omega);obtain⟨a2,cap2,rfl⟩: ∃a cap,w= .slice a ys.length cap:=by cases hw<;>exact⟨_,_,rfl⟩
  have e1:Nat.beq ys.length 0=false:=Y9 h0;cases h with
   |nil=>
    refine⟨.slice (some ⟨H.n,0,none⟩) ys.length ys.length,H.new 1 (ys.map V6),?_,?_,(Zj.new H 1 _).mod,?_⟩;·have e2:Nat.ble (ys.length*8) 140737488355328=true:=Nat.ble_eq.mpr (by simp at hl;omega);have e3:Nat.ble ys.length 281474976710656=true:=Nat.ble_eq.mpr (by simp at hl;omega);simp[XA,ht.2,ef.2,e1,e2,e3,hc,EF,Value.cells]
    ·have:=Ym.new H ys;simp only[List.nil_append];exact this.mono hn (.refl _)
    ·intro H0 k _;exact k.trans (Zj.new H 1 _)
   |mk b o cap xs cs h1 h2 h3 h4 h5 h6=>
    have e2:Nat.ble ((xs.length+ys.length)*8) 140737488355328=true:=Nat.ble_eq.mpr (by omega);have e3:Nat.ble (xs.length+ys.length) 281474976710656=true:=Nat.ble_eq.mpr (by omega);have e4:Nat.ble (o+xs.length) cs.length=true:=Nat.ble_eq.mpr (by omega);have e5:(cs.drop o).take xs.length=xs.map V6:=by
     rcases Nat.eq_zero_or_pos xs.length with h|h;·have:xs=[]:=List.length_eq_zero_iff.mp h;subst this;simp
     ·exact(HI h h6).2
    have eH:(H.kill b).n=H.n:=rfl;refine⟨.slice (some ⟨H.n,0,none⟩) (xs++ys).length (xs++ys).length,(H.kill b).new 1 ((xs++ys).map V6),?_,?_,?_,?_⟩
    ·have e6:Nat.beq 1 1=true:=rfl;have e7:ys.all (one∘V6)=true:=by rw[List.all_eq_true];intro x _;rfl
     simp[XA,ht.2,ef.2,e1,e2,e3,e4,e5,hc,EF,Value.cells,h4,e7]
    ·refine .mk H.n 0 _ _ ((xs++ys).map V6) (Nat.le_refl _) hn ?_ ?_ (by simp) (fun i x h=>by rw[Nat.zero_add,List.getElem?_map,h];rfl);·show H.n<H.n+1;omega
     ·rw[AH.blk_new,if_pos eH.symm]
    ·refine⟨by show H.n<=H.n+1;omega,fun j hj hb=>?_⟩;rw[AH.blk_new,if_neg (by rw[eH];omega),AH.blk_kill,if_neg (by intro e;subst e;exact hb rfl)]
    ·intro H0 k Sb;have:=k.n;refine⟨by show H0.n<=H.n+1;omega,?_,fun j hj=>?_⟩;·have:=k.lw;show min H0.lw H0.n<=min H.lw b;omega
     ·rw[AH.blk_new,if_neg (by rw[eH];omega),AH.blk_kill,if_neg (by omega)];exact k.blk j hj
theorem FA{H:AH}{t:TypeId}(ht:LT t){n:Nat}(hn:n<=17592186044416): ∃v H',VS Tryz.prog H t (.int .i64 0) (.int .i64 (n:Int))=some (v,H')/\Zj H H'/\Ym H.n H' v []:=by
 refine⟨.slice (some ⟨H.n,0,none⟩) 0 n,H.new 1 ((List.replicate n 0).map V6),?_,.new _ _ _,?_⟩;·unfold VS;simp only[ht.2,EF];rw[if_pos (by omega)];simp only[Int.toNat_natCast,Nat.mul_one,Ji];rfl
 ·exact .mk H.n 0 n [] ((List.replicate n 0).map V6) (Nat.zero_le _) (Nat.le_refl _) (Nat.lt_succ_self _) (by rw[AH.blk_new,if_pos rfl]) (by simp) (fun i x h=>by simp at h)
theorem Og(H:AH){t:TypeId}(ht:LT t)(x:Nat):YM Tryz.prog H t 1 [(0,.int .u64 (x:Int))]=some (.slice (some ⟨H.n,0,none⟩) 1 1,H.new 1 ([x].map V6)):=by unfold YM;simp only[ht.2,EF];kernel_rfl
theorem De(H:AH){t:TypeId}(ht:LT t)(x y:Nat):YM Tryz.prog H t 2 [(0,.int .u64 (x:Int)),(1,.int .u64 (y:Int))]=some (.slice (some ⟨H.n,0,none⟩) 2 2,H.new 1 ([x,y].map V6)):=by unfold YM;simp only[ht.2,EF];kernel_rfl
def Ho(v:Value)(m:Nat):Value:=match v with| .slice (some a) _ _=> .slice (some a) m m|v=>v
theorem Ym.cut3{n0:Nat}{H:AH}{v:Value}{xs:List Nat}(h:Ym n0 H v xs){t:TypeId}(ht:LT t){m:Nat}(hm:m<=xs.length):Ve Tryz.prog H t v none (some (.int .i64 (m:Int))) (some (.int .i64 (m:Int)))=some (Ho v m)/\Ym n0 H (Ho v m) (xs.take m)/\Yt (Ho v m)=Yt v:=by cases h with
 |nil=>simp at hm;subst hm;refine⟨?_,.nil,rfl⟩;unfold Ve;simp only[ht.1,NX];rfl
 |mk b o cap xs cs h1 h2 h3 h4 h5 h6=>
  have hl:(xs.take m).length=m:=by rw[List.length_take];omega
  have XG:H.size b=some 1:=by unfold AH.size;rw[h4]
  have ho:Ym n0 H (.slice (some ⟨b,o,none⟩) (xs.take m).length m) (xs.take m):= .mk b o m _ cs (by omega) h2 h3 h4 (by omega) fun i x hx=>h6 i x (by
   rw[List.getElem?_take]at hx;split at hx;·exact hx
   ·cases hx);rw[hl]at ho;refine⟨?_,ho,rfl⟩;unfold Ve;simp only[ht.1,NX];unfold Jw Xk;simp only[XG,Option.isSome_some,Option.isNone_none,Bool.true_or];rw[if_pos (by omega)];have e1:Nat.ble m m=true:=Nat.ble_eq.mpr (Nat.le_refl _);simp[Xk,e1,Ho]
theorem two32:2<=Yk:=by decide
theorem Kl{k:IntKind}{x:Nat} :Zd .gtr k (x:Int) 0=some (.bool (decide (0<x))):=W8 (y:=0)
theorem We{k:IntKind}{x:Nat} :Zd .eql k (x:Int) 0=some (.bool (decide (x=0))):=Pm (y:=0)
theorem Es{x:Nat} :Zd .rem .u64 (x:Int) 4294967296=some (.int .u64 ((x%4294967296:Nat):Int)):=BR (y:=4294967296) (by decide)
theorem Ei{x:Nat}(hx:x<Zc):Zd .quo .u64 (x:Int) 4294967296=some (.int .u64 ((x/4294967296:Nat):Int)):=Nz (y:=4294967296) hx (by decide)
theorem quo2{x:Nat}(hx:x<Zc):Zd .quo .u64 (x:Int) 2=some (.int .u64 ((x/2:Nat):Int)):=Nz (y:=2) hx (by decide)
theorem BZ{x y:Nat}(h:x*y<9223372036854775808):Zd .mul .i64 (x:Int) (y:Int)=some (.int .i64 ((x*y:Nat):Int)):=by
 show some (Value.int .i64 (IntKind.i64.wrap ((x:Int)*(y:Int))))=_;have e:IntKind.i64.wrap ((x:Int)*(y:Int))=((x*y:Nat):Int):=by rw[IntKind.wrap_i64,<-Int.natCast_mul];generalize x*y=z at*;omega
 rw[e]
theorem CA{x:Nat}(h:2*x<9223372036854775808):Zd .mul .i64 2 (x:Int)=some (.int .i64 ((2*x:Nat):Int)):=BZ (x:=2) h
theorem A3{x:Nat}(h:32*x<9223372036854775808):Zd .mul .i64 32 (x:Int)=some (.int .i64 ((32*x:Nat):Int)):=BZ (x:=32) h
theorem bU{x:Nat}(h:x<9223372036854775800):Zd .add .i64 (x:Int) 2=some (.int .i64 ((x+2:Nat):Int)):=WO (y:=2) (by omega)
def S8:List Nat->List Nat|[]=>[]|x::xs=>x%Yk::x/Yk::S8 xs
theorem MR(x:Nat): ∀(xs:List Nat),S8 (xs++[x])=S8 xs++[x%Yk,x/Yk]|[]=>rfl|y::xs=>by simp[S8,MR x xs]
theorem RI: ∀(xs:List Nat),(S8 xs).length=2*xs.length|[]=>rfl|x::xs=>by simp[S8,RI xs];omega
theorem N3: ∀(xs:List Nat),dv Yk (S8 xs)=dv Zc xs|[]=>rfl|x::xs=>by simp only[S8,dv,N3 xs];have:=Nat.mod_add_div x 4294967296;show x%4294967296+4294967296*(x/4294967296+4294967296*dv Zc xs)=x+18446744073709551616*dv Zc xs;omega
theorem Oq: ∀{xs:List Nat},YH Zc xs->YH Yk (S8 xs)|[],_=> .nil _|x::xs,h=>by have hx:x<18446744073709551616:=h.head;exact .cons (Nat.mod_lt _ (by decide)) (.cons (by show x/4294967296<4294967296;omega) (Oq h.tail))
def Ty:List Nat->List Nat|[]=>[]|[x]=>[x]|x::y::r=>(x+y*Yk)::Ty r
theorem fZ(N:Nat):Ty (ds Yk N)=ds Zc N:=by induction N using Nat.strongRecOn with
 |_ N ih=>
  by_cases h0:N=0;·subst h0;rw[Xl,Xl];rfl
  ·rw[TW two32 h0];by_cases h1:N/Yk=0
   ·have hN:N<4294967296:=by have:=Ls (by decide) h1;exact this
    rw[h1,Xl,TW Z2 h0];have e1:N%Yk=N:=Nat.mod_eq_of_lt hN;have e2:N%Zc=N:=Nat.mod_eq_of_lt (Nat.lt_trans hN (by decide));have e3:N/Zc=0:=Nat.div_eq_of_lt (Nat.lt_trans hN (by decide));rw[e1,e2,e3,Xl];rfl
   ·rw[TW two32 h1,TW Z2 h0];simp only[Ty];have e1:N/Yk/Yk=N/Zc:=by rw[Nat.div_div_eq_div_mul,show Yk*Yk=Zc by decide]
    have e2:N%Yk+N/Yk%Yk*Yk=N%Zc:=by show N%4294967296+N/4294967296%4294967296*4294967296=N%18446744073709551616;omega
    rw[e1,e2,ih _ (Nat.div_lt_self (by omega) (by decide))]
theorem Ch{ys:List Nat}{i:Nat}(h:i<ys.length):Ty (ys.drop i)=(ys[i]+nth ys (i+1)*Yk)::Ty (ys.drop (i+2)):=by
 rw[List.drop_eq_getElem_cons h];by_cases h1:i+1<ys.length;·rw[List.drop_eq_getElem_cons h1,XM h1];simp only[Ty]
 ·rw[List.drop_eq_nil_of_le (by omega),VF (by omega),List.drop_eq_nil_of_le (by omega)];simp[Ty]
theorem IY: ∀(ys:List Nat),(Ty ys).length<=ys.length|[]=>Nat.le_refl _|[x]=>Nat.le_refl _|x::y::r=>by simp only[Ty,List.length_cons];have:=IY r;omega
theorem B2{x:Nat}(h:0<x):Zq x=Zq (x/2)+1:=by
 rcases Nat.lt_or_ge x 2 with h1|h1
 ·obtain rfl:x=1:=by omega
  decide
 ·have:=U9 (n:=x) (k:=1) h1;rw[this,Nat.pow_one,Nat.add_comm]
theorem VQ{n0:Nat}{H:AH}{v:Value}{xs:List Nat}(h:Ym n0 H v xs)(hlen:xs.length<1152921504606846976):CW Tryz.prog ZY 57 [v] H fun v' H'=>H'=H/\Ym n0 H v' (YZ xs)/\Yt v'=Yt v:=by
 refine Yd 22 Tryz.func57 ?_;have l0:=h.sl.len ZA;apply Za;intro b1 Zf;simp;subst Zf;apply Za;intro b1 Zf;simp[l0];subst Zf;apply Zi;intro b1 Zf;apply ZR;refine YS (fun n s=>s.k=22/\s.H=H/\n<=xs.length/\YZ (xs.take n)=YZ xs/\s.tm.get 0=some v/\s.tm.get 3=some (.int .i64 (n:Int))) ?_ xs.length _ ⟨rfl,rfl,Nat.le_refl _,by rw[List.take_length],by simp,by simp⟩;rintro n ⟨k,tm,H'⟩ ⟨hk,hH,hn,ht,t0,t3⟩ Q' YA;simp only at hk hH t0 t3;subst hk;subst hH;apply Zi;intro b2 ZT;apply Za;intro b3 Z4;have fin: ∀Y7:Tr Value,Y7.get 0=some v->Y7.get 3=some (.int .i64 (n:Int))->YZ (xs.take n)=xs.take n->Q' (.exit 0) ⟨22,Y7,H'⟩:=fun Y7 t0 t3 he=>by apply YA;left;refine⟨rfl,?_⟩;subst Zf;obtain⟨c1,c2,c3⟩:=h.cut3 ZA hn;apply Za;intro b4 Yy;simp[t0,t3,c1];subst Yy;apply ZZ;simp;rw[<-ht,he];exact⟨c2,c3⟩
 by_cases hz:n=0;·subst hz;simp[t3];subst Z4;refine Zb (t:=false) (by simp) ?_;apply YN;exact fin _ (by simp[t0]) (by simp[t3]) rfl
 ·have hi:n-1<xs.length:=by omega
  have a1:=h.sl.adr ZA (k:= .i64) hi;have d1:=h.sl.load hi;have QL:xs.take n=xs.take (n-1)++[xs[n-1]]:=by have:=Xc hi;rwa[show n-1+1=n by omega]at this
  have Sb:0<n:=by omega
  simp[t3,t0,Kl,Sb,V8 (x:=n) (by omega) Sb,a1,d1,We];subst Z4;by_cases h0:xs[n-1]=0;·refine Zb (t:=true) (by simp[h0]) ?_;apply Zr;subst ZT;apply ZR;apply Zl;simp[t3,V8 (x:=n) (by omega) Sb];apply YA;refine⟨n-1,by omega,rfl,rfl,by show n-1<=_;omega,?_,by simp[t0],by simp⟩;rw[<-ht,QL,h0,VM]
  ·refine Zb (t:=false) (by simp[h0]) ?_;apply YN;exact fin _ (by simp[t0]) (by simp[t3]) (by rw[QL];exact SZ _ _ h0)
theorem jA{H:AH}{v:Value}{xs:List Nat}(h:Sl H v xs)(dx:YH Zc xs)(hlen:xs.length<=8000000000000):CW Tryz.prog ZY 17 [v] H fun v' H'=>Zj H H'/\Ym H.n H' v' (ds Yk (dv Zc xs)):=by
 refine Yd 26 Tryz.func17 ?_;have l0:=h.len Yh;obtain⟨a0,H1,RH,k1,o1⟩:=FA (H:=H) ZA (n:=2*xs.length) (by omega);apply Za;intro b1 Zf;simp;subst Zf;apply Za;intro b1 Zf;simp[l0,CA (x:=xs.length) (by omega),RH];subst Zf;apply Zi;intro b1 Zf;apply Za;intro b2 ZT;simp[l0];subst ZT;apply ZR;refine YS (fun m s'=>s'.k=26/\Zj H s'.H/\ ∃(i:Nat) (a:Value),m+i=xs.length/\Ym H.n s'.H a (S8 (xs.take i))/\s'.tm.get 3=some a/\s'.tm.get 10=some v/\s'.tm.get 11=some (.int .i64 (xs.length:Int))/\s'.tm.get 12=some (.int .i64 (i:Int))) ?_ xs.length _ ⟨rfl,k1,0,a0,by omega,o1,by simp,by simp,by simp,by simp⟩;rintro m ⟨k,tm,H2⟩ ⟨hk,kH,i,a,Kv,own,t3,t10,t11,t12⟩ Q' YA;simp only at hk kH own t3 t10 t11 t12;subst hk;apply Za;intro b3 Z4;simp[t11,t12];subst Z4;apply Zi;intro b3 Z4;by_cases hi:i<xs.length;·refine Zb (t:=true) (by simp[hi]) ?_;apply Zr;subst Z4;have s2:=h.keep kH;have a1:=s2.adr Yh (k:= .i64) hi;have d1:=s2.load hi;have hx:xs[i]<Zc:=dx.get (List.getElem?_eq_getElem hi);obtain⟨x,Me⟩:=hid (xs[i]);rw[<-Me]at d1 hx;have hb:=De H2 ZA (x%4294967296) (x/4294967296);have kn:=Zj.new H2 1 ([x%4294967296,x/4294967296].map V6);have ow:=Ym.new H2 [x%4294967296,x/4294967296];obtain⟨v',H4,N4,Vr,mod4,Ua⟩:=(own.m kn).append (Nat.le_trans kH.n kn.n) ow.sl (by rw[RI,List.length_take];simp;omega) ZA ZA;apply Zi;intro b3 Z4;apply ZR;apply Za;intro b4 Yy;simp[t10,t12,a1,d1];subst Yy;apply Zl;simp[t3,Es,Ei hx,hb];simp at N4;simp[N4];subst Z4;apply Zl;simp[t12,YU (x:=i) (by omega)];apply YA;refine⟨m-1,by omega,rfl,Ua H (kH.trans kn) (Nat.le_refl _),i+1,v',by omega,?_,by simp,by simp[t10],by simp[t11],by simp⟩;rw[Xc hi,MR,<-Me];exact Vr
 ·refine Zb (t:=false) (by simp[hi]) ?_;apply YN;apply YA;left;refine⟨rfl,?_⟩;obtain rfl:i=xs.length:=by omega
  rw[List.take_length]at own;obtain⟨v5,H5,N7,e5,o5,_⟩:=VQ own (by rw[RI];omega);subst e5;rw[Xi two32 (Oq dx),N3]at o5;subst Zf;apply Za;intro b4 Yy;simp[t3,N7];subst Yy;apply ZZ;simp;exact⟨kH,o5⟩
theorem bM{x:Nat}(h:x<Yk):x<Zc:=Nat.lt_trans h (by decide)
theorem D3{H:AH}{v:Value}{ys:List Nat}(h:Sl H v ys)(dy:YH Yk ys)(hlen:ys.length<=17592186000000):CW Tryz.prog ZY 94 [v] H fun v' H'=>Zj H H'/\Ym H.n H' v' (Ty ys):=by
 refine Yd 34 Tryz.func94 ?_;have l0:=h.len ZA;apply Zi;intro b1 Zf;apply Zl;simp;subst Zf;apply Zi;intro b1 Zf;apply Zl;simp;subst Zf;apply Zi;intro b1 Zf;apply Zi;intro b2 ZT;apply Zl;simp;subst ZT;apply ZR;refine YS (fun m s'=>s'.k=34/\Zj H s'.H/\ ∃(i:Nat) (a:Value) (L:List Nat),m=ys.length-i/\i<=ys.length+1/\L.length<=i/\L++Ty (ys.drop i)=Ty ys/\Ym H.n s'.H a L/\s'.tm.get 0=some v/\s'.tm.get 3=some a/\s'.tm.get 4=some (.int .i64 (i:Int))) ?_ ys.length _ ⟨rfl,.refl H,0,.slice none 0 0,[],by omega,by omega,Nat.le_refl _,by simp,.nil,by simp,by simp,by simp⟩;rintro m ⟨k,tm,H2⟩ ⟨hk,kH,i,a,L,Kv,hiy,hLi,hL,own,t0,t3,t4⟩ Q' YA;simp only at hk kH own t0 t3 t4;subst hk;apply Zi;intro b3 Z4;apply Zi;intro b4 Yy;apply Zl;simp[t0,t4,l0];subst Yy;by_cases hi:i<ys.length
 ·refine Zb (t:=true) (by simp[hi]) ?_;apply Zr;subst Z4;have s2:=h.keep kH;have a1:=s2.adr ZA (k:= .i64) hi;have d1:=s2.load hi;have hx:ys[i]<Yk:=dy.get (List.getElem?_eq_getElem hi);obtain⟨x,Me⟩: ∃x,x=ys[i]:=⟨_,rfl⟩;obtain⟨w,hw⟩: ∃w,w=x+nth ys (i+1)*4294967296:=⟨_,rfl⟩;have vJ:=Ch hi;rw[<-Me]at d1 hx vJ;have hpd':Ty (ys.drop i)=w::Ty (ys.drop (i+2)):=by rw[hw];exact vJ
  have hb:=Og H2 Yh w;have kn:=Zj.new H2 1 ([w].map V6);have ow:=Ym.new H2 [w];obtain⟨v',H4,N4,Vr,mod4,Ua⟩:=(own.m kn).append (Nat.le_trans kH.n kn.n) ow.sl (by simp;omega) Yh Yh;simp at N4 hb;apply Zi;intro b3 Z4;apply ZR;apply Zi;intro b4 Yy;apply Zl;simp[t0,t4,a1,d1];subst Yy;refine Xd (fun s'=>s'.k=34/\s'.H=H2/\s'.tm.get 0=some v/\s'.tm.get 3=some a/\s'.tm.get 4=some (.int .i64 (i:Int))/\s'.tm.get 5=some (.int .u64 (w:Int))) ?_ ?_
  ·intro Jt XR;apply Zi;intro b4 Yy;apply Zl;simp[t0,t4,l0,YU (x:=i) (by omega)];subst Yy;by_cases DQ:i+1<ys.length
   ·refine Zb (t:=true) (by simp[DQ]) ?_;have a2:=s2.adr ZA (k:= .i64) DQ;have d2:=s2.load DQ;have hz:ys[i+1]<Yk:=dy.get (List.getElem?_eq_getElem DQ);rw[XM DQ]at hw;obtain⟨z,zl⟩: ∃z,z=ys[i+1]:=⟨_,rfl⟩;rw[<-zl]at d2 hz hw;have hz':z<4294967296:=hz;have mA:x<4294967296:=hx;have m1:Zd .mul .u64 (z:Int) 4294967296=some (.int .u64 ((z*4294967296:Nat):Int)):=by rw[mulR,Nat.mod_eq_of_lt (by show _<18446744073709551616;omega)]
    have m2:Zd .add .u64 (x:Int) ((z*4294967296:Nat):Int)=some (.int .u64 (w:Int)):=by rw[hw];exact X3 (by show _<18446744073709551616;omega)
    apply Zl;simp[t0,t4,YU (x:=i) (by omega),a2,d2,m1,m2];apply XR;exact⟨rfl,rfl,by simp[t0],by simp[t3],by simp[t4],by simp⟩
   ·refine Zb (t:=false) (by simp[DQ]) ?_;apply Zr;apply XR;rw[VF (by omega),Nat.zero_mul,Nat.add_zero]at hw;exact⟨rfl,rfl,by simp[t0],by simp[t3],by simp[t4],by simp[hw]⟩
  clear t0 t3 t4;rintro⟨k,tm,H3⟩ ⟨hk,hH,t0,t3,t4,t5⟩;simp only at hk hH t0 t3 t4 t5;subst hk;subst hH;apply Zl;simp[t3,t5,hb,N4];subst Z4;apply Zl;simp[t4,bU (x:=i) (by omega)];apply YA;refine⟨ys.length-(i+2),by omega,rfl,Ua H (kH.trans kn) (Nat.le_refl _),i+2,v',L++[w],rfl,by omega,by simp;omega,?_,Vr,by simp[t0],by simp,by simp⟩;rw[<-hL,hpd'];simp
 ·refine Zb (t:=false) (by simp[hi]) ?_;apply YN;apply YA;left;refine⟨rfl,?_⟩;rw[List.drop_eq_nil_of_le (by omega)]at hL;simp[Ty]at hL;subst Zf;apply Zi;intro b4 Yy;apply Zl;simp[t3];subst Yy;apply ZZ;simp;rw[<-hL];exact⟨kH,own⟩
theorem jx{H:AH}{v w:Value}{ys zs:List Nat}(h:Sl H v ys)(hw:Sl H w zs)(dy:YH Yk ys)(hlen:ys.length<=17592186000000):CW Tryz.prog ZY 65 [v,w] H fun v' H'=>Zj H H'/\v'= .bool (decide (Ty ys=zs)):=by
 refine Yd 29 Tryz.func65 ?_;obtain⟨v1,H1,Nd,k1,o1⟩:=D3 h dy hlen;have Bi:=IY ys;generalize Ty ys=xs at*;have s1:=o1.sl;have s2:=hw.keep k1;have l1:=s1.len Yh;have l2:=s2.len Yh;apply Zi;intro b1 Zf;apply Zl;simp;subst Zf;apply Zi;intro b1 Zf;apply Zl;simp[Nd];subst Zf;apply Zi;intro b1 Zf;apply Zi;intro b2 ZT;apply Zl;simp[l1,l2,LZ];subst ZT;by_cases hl:xs.length=zs.length
 ·refine Zb (t:=false) (by simp[hl]) ?_;apply Zr;subst Zf;apply Zi;intro b1 Zf;apply Zi;intro b2 ZT;apply Zl;simp[l1];subst ZT;apply ZR;refine YS (fun m s'=>s'.k=29/\s'.H=H1/\ ∃(i:Nat),m+i=xs.length/\xs.take i=zs.take i/\s'.tm.get 1=some w/\s'.tm.get 5=some v1/\s'.tm.get 15=some (.int .i64 (xs.length:Int))/\s'.tm.get 16=some (.int .i64 (i:Int))) ?_ xs.length _ ⟨rfl,rfl,0,by omega,rfl,by simp,by simp,by simp,by simp⟩;rintro m ⟨k,tm,H2⟩ ⟨hk,hH,i,Kv,he,t1,t5,t15,t16⟩ Q' YA;simp only at hk hH t1 t5 t15 t16;subst hk;subst hH;apply Zi;intro b3 Z4;apply Zl;simp[t15,t16];subst Z4;apply Zi;intro b3 Z4;by_cases hi:i<xs.length
  ·refine Zb (t:=true) (by simp[hi]) ?_;apply Zr;subst Z4;have Kr:i<zs.length:=by omega
   have a1:=s1.adr Yh (k:= .i64) hi;have d1:=s1.load hi;have a2:=s2.adr Yh (k:= .i64) Kr;have d2:=s2.load Kr;apply Zi;intro b3 Z4;apply ZR;apply Zi;intro b4 Yy;apply Zl;simp[t16];subst Yy;apply Zi;intro b4 Yy;apply SR (by kernel_rfl);simp[t1,t5,a1,a2,d1,d2,LZ];subst Yy;by_cases Tl:xs[i]=zs[i];·refine Zb (t:=false) (by simp[Tl]) ?_;apply Zr;subst Z4;apply Zl;simp[t16,YU (x:=i) (by omega)];apply YA;refine⟨m-1,by omega,rfl,rfl,i+1,by omega,?_,by simp[t1],by simp[t5],by simp[t15],by simp⟩;rw[Xc hi,Xc Kr,he,Tl]
   ·refine Zb (t:=true) (by simp[Tl]) ?_;apply Zi;intro b4 Yy;apply Zl;simp;subst Yy;apply ZZ;have hd:xs≠zs:=by intro e;apply Tl;subst e;rfl
    apply YA;simp[YQ,Yv,TI,hd];exact k1
  ·refine Zb (t:=false) (by simp[hi]) ?_;apply YN;apply YA;left;refine⟨rfl,?_⟩;obtain rfl:i=xs.length:=by omega
   have uA:xs=zs:=by rwa[List.take_length,hl,List.take_length]at he
   subst Zf;apply Zi;intro b4 Yy;apply Zl;simp;subst Yy;apply ZZ;simp[uA];exact k1
 ·refine Zb (t:=true) (by simp[hl]) ?_;apply Zi;intro b2 ZT;apply Zl;simp;subst ZT;apply ZZ;have hd:xs≠zs:=fun e=>hl (by rw[e]);simp[YQ,hd];exact k1
theorem aH{H:AH}{v:Value}{ys:List Nat}(h:Sl H v ys):CW Tryz.prog ZY 19 [v] H fun v' H'=>H'=H/\v'= .bool (decide (ys.length=0)):=by refine Yd 6 Tryz.func19 ?_;have l1:=h.len ZA;apply Za;intro b1 Zf;simp;subst Zf;apply Za;intro b1 Zf;simp[l1,We];subst Zf;apply ZZ;simp
theorem iz{H:AH}{v:Value}{ys:List Nat}(h:Sl H v ys)(i:Nat):CW Tryz.prog ZY 130 [v,.int .i64 (i:Int)] H fun v' H'=>H'=H/\v'= .int .u64 (nth ys i:Int):=by
 refine Yd 13 Tryz.func130 ?_;have l1:=h.len ZA;apply Za;intro b1 Zf;simp;subst Zf;apply Zi;intro b1 Zf;apply Za;intro b2 ZT;simp[l1];subst ZT;by_cases hi:i<ys.length;·refine Zb (t:=true) (by simp[hi]) ?_;have a1:=h.adr ZA (k:= .i64) hi;have d1:=h.load hi;apply Za;intro b2 ZT;simp[a1,d1];subst ZT;apply ZZ;simp[YQ,XM hi]
 ·refine Zb (t:=false) (by simp[hi]) ?_;apply Zr;subst Zf;apply Za;intro b2 ZT;simp;subst ZT;apply ZZ;simp[VF (Nat.le_of_not_lt hi)]
theorem Hi{H:AH}{v:Value}{ys:List Nat}(h:Sl H v ys)(i:Nat):ZU Tryz.prog ZY 130 [v,.int .i64 (i:Int)] H=some (.int .u64 (nth ys i:Int),H):=by obtain⟨_,_,hc,rfl,rfl⟩:=iz h i;exact hc
theorem Xv(B:Nat)(xs:List Nat)(i:Nat):dv B (xs.take (i+1))=dv B (xs.take i)+B^i*nth xs i:=by
 by_cases h:i<xs.length;·rw[Xc h,Yn,List.length_take,Nat.min_eq_left (by omega),XM h];simp[dv]
 ·rw[List.take_of_length_le (by omega),List.take_of_length_le (by omega),VF (by omega),Nat.mul_zero,Nat.add_zero]
theorem UI{B:Nat}{xs:List Nat}(h:YH B xs)(hB:0<B)(i:Nat):nth xs i<B:=by
 by_cases hi:i<xs.length;·rw[XM hi];exact h.get (List.getElem?_eq_getElem hi)
 ·rw[VF (by omega)];exact hB
theorem T7(B:Nat)(xs:List Nat)(j:Nat)(h:j<=xs.length):dv B xs=dv B (xs.take j)+B^j*dv B (xs.drop j):=by have:=congrArg (dv B) (List.take_append_drop j xs);rw[Yn,List.length_take,Nat.min_eq_left h]at this;exact this.symm
theorem QZ{B:Nat}{xs:List Nat}{k:Nat}(hB:0<B)(h:dv B xs<B^k):dv B (xs.take k)=dv B xs:=by
 rcases Nat.lt_or_ge xs.length k with hk|hk;·rw[List.take_of_length_le (by omega)]
 ·have e:=T7 B xs k hk;have:dv B (xs.drop k)=0:=by
   rcases Nat.eq_zero_or_pos (dv B (xs.drop k))with h0|h0;·exact h0
   ·exfalso;have:B^k*1<=B^k*dv B (xs.drop k):=Nat.mul_le_mul_left _ h0;omega
  rw[this,Nat.mul_zero]at e;omega
theorem RB{B:Nat}(hB:2<=B){xs ys:List Nat}(hy:YZ ys=ys)(dx:YH B xs)(dy:YH B ys)(h:xs.length<ys.length):dv B xs<dv B ys:=by
 have h1:=Wh dx;have e:ys=ds B (dv B ys):=by rw[<-Xi hB dy,hy]
 have Tl:dv B ys≠0:=by intro h0;rw[h0,Xl]at e;rw[e]at h;simp at h
 have h2:=cX hB Tl;rw[<-e]at h2;have h3:B^xs.length<=B^(ys.length-1):=Nat.pow_le_pow_right (by omega) (by omega);omega
theorem Ym.fill{n:Nat}{H:AH}{v:Value}{L:List Nat}{m:Nat}(h:Ym n H v (L++List.replicate (m+1) 0)){i:Nat}(hL:L.length=i)(y:Nat): ∃H',YV Tryz.prog H 101 (adr v i) (.int .u64 (y:Int))=some H'/\Ym n H' v ((L++[y])++List.replicate m 0)/\T4 (Yt v) H H'/\KA n H H':=by obtain⟨H',h1,h2,h3,h4,h5⟩:=h.put (i:=i) (by simp;omega) y;refine⟨H',h1,?_,⟨h3,fun j _ hj=>h4 j hj⟩,h5⟩;rw[List.replicate_succ,WL _ _ _ _ hL]at h2;simpa using h2
theorem El{H:AH}{v w:Value}{xs ys:List Nat}(hv:Sl H v xs)(hw:Sl H w ys)(dx:YH Yk xs)(dy:YH Yk ys)(lx:xs.length<=17592186000000)(ly:ys.length<=17592186000000):CW Tryz.prog ZY 91 [v,w] H fun v' H'=>Zj H H'/\Ym H.n H' v' (ds Yk (dv Yk xs+dv Yk ys)):=by
 refine Yd 44 Tryz.func91 ?_;have l1:=hv.len ZA;have l2:=hw.len ZA;obtain⟨n,hn⟩:=hid (max xs.length ys.length);obtain⟨c0,H1,RH,k1,o1,n1⟩:=YK (H:=H) ZA (n:=n+1) (by omega);apply Za;intro b1 Zf;simp;subst Zf;apply Za;intro b1 Zf;simp[l1];subst Zf;refine Xd (fun s'=>s'.k=44/\s'.H=H/\s'.tm.get 0=some v/\s'.tm.get 1=some w/\s'.tm.get 5=some (.int .i64 (n:Int))) ?_ ?_
 ·intro Q' YA;apply Za;intro b1 Zf;simp[l2,W8];subst Zf;by_cases hc:xs.length<ys.length;·refine Zb (t:=true) (by simp[hc]) ?_;apply Zl;simp[l2];apply YA;exact⟨rfl,rfl,by simp,by simp,by simp;omega⟩
  ·refine Zb (t:=false) (by simp[hc]) ?_;apply Zr;apply YA;exact⟨rfl,rfl,by simp,by simp,by simp;omega⟩
 rintro⟨k,tm,H'⟩ ⟨hk,hH,t0,t1,t5⟩;simp only at hk hH t0 t1 t5;subst hk;subst hH;have hmk':VS Tryz.prog H' 37 (.int .i64 ((n+1:Nat):Int)) (.int .i64 ((n+1:Nat):Int))=some (c0,H1):=RH;apply Za;intro b1 Zf;simp[t5,YU (x:=n) (by omega),hmk'];subst Zf;apply Za;intro b1 Zf;simp;subst Zf;apply Zi;intro b1 Zf;apply Za;intro b2 ZT;simp;subst ZT;apply ZR;refine YS (fun m s'=>s'.k=44/\Zj H' s'.H/\ ∃(i carry:Nat) (L:List Nat),m+i=n+1/\L.length=i/\carry<=1/\YH Yk L/\dv Yk L+Yk^i*carry=dv Yk (xs.take i)+dv Yk (ys.take i)/\Ym H'.n s'.H c0 (L++List.replicate m 0)/\s'.tm.get 0=some v/\s'.tm.get 1=some w/\s'.tm.get 5=some (.int .i64 (n:Int))/\s'.tm.get 6=some c0/\s'.tm.get 7=some (.int .u64 (carry:Int))/\s'.tm.get 8=some (.int .i64 (i:Int))) ?_ (n+1) _ ⟨rfl,k1,0,0,[],by omega,rfl,by omega,.nil _,by simp[dv],by simpa using o1,by simp[t0],by simp[t1],by simp[t5],by simp,by simp,by simp⟩;clear t0 t1 t5;rintro m ⟨k,tm,H2⟩ ⟨hk,kH,i,carry,L,Kv,hL,hc,dL,heq,own,t0,t1,t5,t6,t7,t8⟩ Q' YA;simp only at hk kH own t0 t1 t5 t6 t7 t8;subst hk;apply Zi;intro b3 Z4;apply Za;intro b4 Yy;simp[t5,t8,Pq];subst Yy;by_cases hi:i<=n
 ·refine Zb (t:=true) (by simp[hi]) ?_;apply Zr;subst Z4;obtain⟨m',rfl⟩: ∃m',m=m'+1:=⟨m-1,by omega⟩;have c1:=Hi (hv.keep kH) i;have c2:=Hi (hw.keep kH) i;have hx:nth xs i<4294967296:=UI dx (by decide) i;have hy:nth ys i<4294967296:=UI dy (by decide) i;have ex:=Xv Yk xs i;have ey:=Xv Yk ys i;obtain⟨x,Me⟩:=hid (nth xs i);obtain⟨y,ju⟩:=hid (nth ys i);rw[<-Me]at c1 hx ex;rw[<-ju]at c2 hy ey;have m1:Zd .add .u64 (x:Int) (y:Int)=some (.int .u64 ((x+y:Nat):Int)):=X3 (by show _<18446744073709551616;omega);have m2:Zd .add .u64 ((x+y:Nat):Int) (carry:Int)=some (.int .u64 ((x+y+carry:Nat):Int)):=X3 (by show _<18446744073709551616;omega);obtain⟨z,hz⟩:=hid (x+y+carry);rw[<-hz]at m2;have DK:z<Zc:=by show z<18446744073709551616;omega
  obtain⟨H3,Sc,Rc,rC,Ll⟩:=own.fill hL (z%4294967296);have a3:=own.sl.adr ZA (k:= .i64) (i:=i) (by simp;omega);apply Zi;intro b3 Z4;apply ZR;apply Za;intro b4 Yy;simp[t0,t1,t7,t8,c1,c2,m1,m2];subst Yy;apply Za;intro b4 Yy;simp[t6,t8,Es,a3,Sc];subst Yy;apply Zl;simp[Ei DK];subst Z4;apply Zl;simp[t8,YU (x:=i) (by omega)];apply YA;refine⟨m',by omega,rfl,Ll H' kH (Nat.le_refl _),i+1,z/4294967296,L++[z%4294967296],by omega,by simp[hL],by omega,dL.append (.cons (Nat.mod_lt _ (by decide)) (.nil _)),?_,Rc,by simp[t0],by simp[t1],by simp[t5],by simp[t6],by simp,by simp⟩;rw[Yn,hL,ex,ey];simp only[dv,Nat.mul_zero,Nat.add_zero];have e1:Yk^i*(z%4294967296+4294967296*(z/4294967296))=Yk^i*(x+y+carry):=by rw[Nat.mod_add_div,hz]
  rw[Nat.mul_add,<-Nat.mul_assoc,show Yk^i*4294967296=Yk^(i+1)from rfl,Nat.mul_add,Nat.mul_add]at e1;omega
 ·refine Zb (t:=false) (by simp[hi]) ?_;apply YN;apply YA;left;refine⟨rfl,?_⟩;obtain rfl:i=n+1:=by omega
  obtain rfl:m=0:=by omega
  simp at own;rw[List.take_of_length_le (by omega),List.take_of_length_le (by omega)]at heq;have RF:dv Yk L=dv Yk xs+dv Yk ys:=by
   have h1:=Wh dx;have h2:=Wh dy;have h3:Yk^xs.length<=Yk^n:=Nat.pow_le_pow_right (by decide) (by omega);have h4:Yk^ys.length<=Yk^n:=Nat.pow_le_pow_right (by decide) (by omega);have h5:Yk^(n+1)=Yk^n*4294967296:=rfl;rcases Nat.lt_or_ge carry 1 with h0|h0
   ·obtain rfl:carry=0:=by omega
    rw[Nat.mul_zero]at heq;omega
   ·obtain rfl:carry=1:=by omega
    rw[Nat.mul_one]at heq;omega
  obtain⟨v5,H5,N7,e5,o5,_⟩:=VQ own (by omega);subst e5;rw[Xi two32 dL,RF]at o5;subst Zf;apply Za;intro b4 Yy;simp[t6,N7];subst Yy;apply ZZ;simp;exact⟨kH,o5⟩
theorem Er{H:AH}{v w:Value}{xs ys:List Nat}(hv:Sl H v xs)(hw:Sl H w ys)(dx:YH Yk xs)(dy:YH Yk ys)(lx:xs.length<=17592186000000)(hle:dv Yk ys<=dv Yk xs):CW Tryz.prog ZY 93 [v,w] H fun v' H'=>Zj H H'/\Ym H.n H' v' (ds Yk (dv Yk xs-dv Yk ys)):=by
 refine Yd 39 Tryz.func93 ?_;have l1:=hv.len ZA;obtain⟨n,hn⟩:=hid (xs.length);rw[<-hn]at l1;obtain⟨c0,H1,RH,k1,o1,n1⟩:=YK (H:=H) ZA (n:=n) (by omega);apply Za;intro b1 Zf;simp;subst Zf;apply Za;intro b1 Zf;simp[l1,RH];subst Zf;apply Za;intro b1 Zf;simp;subst Zf;apply Zi;intro b1 Zf;apply Za;intro b2 ZT;simp[l1];subst ZT;apply ZR;refine YS (fun m s'=>s'.k=39/\Zj H s'.H/\ ∃(i Sg:Nat) (L:List Nat),m+i=n/\L.length=i/\Sg<=1/\YH Yk L/\dv Yk L+dv Yk (ys.take i)=dv Yk (xs.take i)+Yk^i*Sg/\Ym H.n s'.H c0 (L++List.replicate m 0)/\s'.tm.get 0=some v/\s'.tm.get 1=some w/\s'.tm.get 5=some c0/\s'.tm.get 6=some (.int .u64 (Sg:Int))/\s'.tm.get 13=some (.int .i64 (n:Int))/\s'.tm.get 14=some (.int .i64 (i:Int))) ?_ n _ ⟨rfl,k1,0,0,[],by omega,rfl,by omega,.nil _,by simp[dv],by simpa using o1,by simp,by simp,by simp,by simp,by simp,by simp⟩;rintro m ⟨k,tm,H2⟩ ⟨hk,kH,i,Sg,L,Kv,hL,hb,dL,heq,own,t0,t1,t5,t6,t13,t14⟩ Q' YA;simp only at hk kH own t0 t1 t5 t6 t13 t14;subst hk;apply Za;intro b3 Z4;simp[t13,t14];subst Z4;apply Zi;intro b3 Z4;by_cases hi:i<n
 ·refine Zb (t:=true) (by simp[hi]) ?_;apply Zr;subst Z4;obtain⟨m',rfl⟩: ∃m',m=m'+1:=⟨m-1,by omega⟩;have UZ:i<xs.length:=by omega
  have sv:=hv.keep kH;have a1:=sv.adr ZA (k:= .i64) UZ;have d1:=sv.top.load UZ;have c2:=Hi (hw.keep kH).top i;have hx:nth xs i<4294967296:=UI dx (by decide) i;have hy:nth ys i<4294967296:=UI dy (by decide) i;have ex:=Xv Yk xs i;have ey:=Xv Yk ys i;rw[<-XM UZ]at d1;obtain⟨x,Me⟩:=hid (nth xs i);obtain⟨y,ju⟩:=hid (nth ys i);rw[<-Me]at d1 hx ex;rw[<-ju]at c2 hy ey;have m1:Zd .add .u64 (x:Int) 4294967296=some (.int .u64 ((x+4294967296:Nat):Int)):=X3 (y:=4294967296) (by show _<18446744073709551616;omega);have m2:Zd .sub .u64 ((x+4294967296:Nat):Int) (y:Int)=some (.int .u64 ((x+4294967296-y:Nat):Int)):=T1 (by show _<18446744073709551616;omega) (by omega);have m3:Zd .sub .u64 ((x+4294967296-y:Nat):Int) (Sg:Int)=some (.int .u64 ((x+4294967296-y-Sg:Nat):Int)):=T1 (by show _<18446744073709551616;omega) (by omega);obtain⟨z,hz⟩:=hid (x+4294967296-y-Sg);rw[<-hz]at m3;have DK:z<Zc:=by show z<18446744073709551616;omega
  have hz1:z/4294967296<=1:=by omega
  have m4:Zd .sub .u64 1 ((z/4294967296:Nat):Int)=some (.int .u64 ((1-z/4294967296:Nat):Int)):=T1 (x:=1) (by decide) hz1;obtain⟨H3,Sc,Rc,rC,Ll⟩:=own.fill hL (z%4294967296);have a3:=own.sl.adr ZA (k:= .i64) (i:=i) (by simp;omega);apply Zi;intro b3 Z4;apply ZR;apply Za;intro b4 Yy;simp[t14];subst Yy;apply Zi;intro b4 Yy;apply OG (by kernel_rfl);simp[t0,t1,t6,a1,d1,c2,m1,m2,m3];subst Yy;apply Za;intro b4 Yy;simp[t5,Es,a3,Sc];subst Yy;apply Zl;simp[Ei DK,m4];subst Z4;apply Zl;simp[t14,YU (x:=i) (by omega)];apply YA;refine⟨m',by omega,rfl,Ll H kH (Nat.le_refl _),i+1,1-z/4294967296,L++[z%4294967296],by omega,by simp[hL],by omega,dL.append (.cons (Nat.mod_lt _ (by decide)) (.nil _)),?_,Rc,by simp[t0],by simp[t1],by simp[t5],by simp,by simp[t13],by simp⟩;rw[Yn,hL,ex,ey];simp only[dv,Nat.mul_zero,Nat.add_zero];have e0:z%4294967296+y+Sg=x+4294967296*(1-z/4294967296):=by omega
  have e1:Yk^i*(z%4294967296+y+Sg)=Yk^i*(x+4294967296*(1-z/4294967296)):=by rw[e0]
  rw[Nat.mul_add (Yk^i) x,<-Nat.mul_assoc,show Yk^i*4294967296=Yk^(i+1)from rfl,Nat.mul_add,Nat.mul_add]at e1;omega
 ·refine Zb (t:=false) (by simp[hi]) ?_;apply YN;apply YA;left;refine⟨rfl,?_⟩;obtain rfl:i=n:=by omega
  obtain rfl:m=0:=by omega
  simp at own;have ia:=Wh dx;rw[<-hn]at ia;rw[List.take_of_length_le (l:=xs) (by omega),QZ (by decide) (Nat.lt_of_le_of_lt hle ia)]at heq;have RF:dv Yk L=dv Yk xs-dv Yk ys:=by
   have h1:=Wh dL;rw[hL]at h1;rcases Nat.lt_or_ge Sg 1 with h0|h0
   ·obtain rfl:Sg=0:=by omega
    rw[Nat.mul_zero]at heq;omega
   ·obtain rfl:Sg=1:=by omega
    rw[Nat.mul_one]at heq;omega
  obtain⟨v5,H5,N7,e5,o5,_⟩:=VQ own (by omega);subst e5;rw[Xi two32 dL,RF]at o5;subst Zf;apply Za;intro b4 Yy;simp[t5,N7];subst Yy;apply ZZ;simp;exact⟨kH,o5⟩
theorem ME{va vb:Value}{xs ys:List Nat}{H:AH}(s1:Sl H va xs)(s2:Sl H vb ys)(dx:YH Yk xs)(dy:YH Yk ys)(tx:YZ xs=xs)(ty:YZ ys=ys)(lx:xs.length<=17592186044416)(ly:ys.length<=17592186044416):CW Tryz.prog ZY 60 [va,vb] H fun v H'=>H'=H/\v= .int .i64 (Wn (dv Yk xs) (dv Yk ys)):=by
 refine Yd 41 Tryz.func60 ?_;have l1:=s1.len ZA;have l2:=s2.len ZA;apply Za;intro b1 Zf;simp;subst Zf;apply Zi;intro b1 Zf;apply Za;intro b2 ZT;simp[l1,l2,LZ];subst ZT;by_cases hl:xs.length=ys.length
 ·refine Zb (t:=false) (by simp[hl]) ?_;apply Zr;subst Zf;apply Zi;intro b1 Zf;apply Zi;intro b2 ZT;have w1:Zd .sub .i64 (xs.length:Int) 1=some (.int .i64 ((xs.length:Int)-1)):=by show some (Value.int .i64 (IntKind.i64.wrap ((xs.length:Int)-1)))=_;congr 2;rw[IntKind.wrap_i64];omega
  apply Zl;simp[l1,w1];subst ZT;apply ZR;refine YS (fun n s=>s.k=41/\s.H=H/\s.tm.get 0=some va/\s.tm.get 1=some vb/\s.tm.get 5=some (.int .i64 ((n:Int)-1))/\n<=xs.length/\xs.drop n=ys.drop n) ?_ xs.length _ ⟨rfl,rfl,by simp,by simp,by simp,Nat.le_refl _,by rw[List.drop_length,hl,List.drop_length]⟩;rintro n ⟨k,tm,H'⟩ ⟨h2,h3,h4,h5,h6,h7,h8⟩ Q' YA;simp only at h2 h3 h4 h5 h6;subst h2;subst h3;have TE:Zd .geq .i64 ((n:Int)-1) 0=some (.bool (decide (0<n))):=by show some (Value.bool (decide ((n:Int)-1≥0)))=_;congr 2;apply decide_eq_decide.mpr;omega
  apply Zi;intro b2 ZT;apply Za;intro b3 Z4;simp[h6,TE];subst Z4;by_cases hz:n=0
  ·subst hz;refine Zb (t:=false) (by simp) ?_;apply YN;apply YA;left;refine⟨rfl,?_⟩;subst Zf;apply Za;intro b4 Yy;simp;subst Yy;apply ZZ;have:xs=ys:=by simpa using h8
   simp[Wn,this]
  ·have e:(n:Int)-1=((n-1:Nat):Int):=by omega
   refine Zb (t:=true) (by simp;omega) ?_;apply Zr;subst ZT;have i1:n-1<xs.length:=by omega
   have i2:n-1<ys.length:=by omega
   have a1:=s1.adr ZA (k:= .i64) i1;have a2:=s2.adr ZA (k:= .i64) i2;have d1:=s1.load i1;have d2:=s2.load i2;rw[e]at h6;have sx:xs=xs.take (n-1)++xs[n-1]::xs.drop n:=by have:=List.take_append_drop (n-1) xs;rw[List.drop_eq_getElem_cons i1,show n-1+1=n by omega]at this;exact this.symm
   have sy:ys=ys.take (n-1)++ys[n-1]::ys.drop n:=by have:=List.take_append_drop (n-1) ys;rw[List.drop_eq_getElem_cons i2,show n-1+1=n by omega]at this;exact this.symm
   have wA:(xs.take (n-1)).length=(ys.take (n-1)).length:=by simp[List.length_take,hl]
   apply Zi;intro b4 Yy;apply ZR;apply Zi;intro b5 SV;apply Zi;intro b6 QN;apply SR (by kernel_rfl);simp[h4,h5,h6,a1,a2,d1,d2];subst QN;by_cases YX:xs[n-1]<ys[n-1]
   ·refine Zb (t:=true) (by simp;omega) ?_;apply Za;intro b7 iA;simp;subst iA;apply ZZ;have hd:dv Yk xs<dv Yk ys:=by rw[sx,sy,h8];exact Hq (dx.take _) (dy.take _) wA YX _
    apply YA;simp[YQ,Yv,TI,Wn,hd]
   ·refine Zb (t:=false) (by simp;omega) ?_;apply Zr;subst SV;apply Zi;intro b6 QN;apply SR (by kernel_rfl);simp[h4,h5,h6,a1,a2,d1,d2,W8];subst QN;by_cases vY:ys[n-1]<xs[n-1]
    ·refine Zb (t:=true) (by simp;omega) ?_;apply Za;intro b7 iA;simp;subst iA;apply ZZ;have hd:dv Yk ys<dv Yk xs:=by rw[sx,sy,h8];exact Hq (dy.take _) (dx.take _) wA.symm vY _
     have Jn: ¬dv Yk xs<dv Yk ys:=by omega
     apply YA;simp[YQ,Yv,TI,Wn,hd,Jn]
    ·refine Zb (t:=false) (by simp;omega) ?_;apply Zr;subst Yy;have Lj:Zd .sub .i64 ((n-1:Nat):Int) 1=some (.int .i64 (((n-1:Nat):Int)-1)):=by show some (Value.int .i64 (IntKind.i64.wrap (((n-1:Nat):Int)-1)))=_;congr 2;rw[IntKind.wrap_i64];omega
     apply Zl;simp[h6,Lj];apply YA;refine⟨n-1,by omega,rfl,rfl,?_⟩;simp[h4,h5];refine⟨by omega,?_⟩;rw[List.drop_eq_getElem_cons i1,List.drop_eq_getElem_cons i2,show n-1+1=n by omega,h8];congr 1;omega
 ·refine Zb (t:=true) (by simp;omega) ?_;apply Zi;intro b2 ZT;apply Za;intro b3 Z4;simp[l1,l2];subst Z4;by_cases YX:xs.length<ys.length;·refine Zb (t:=true) (by simp;omega) ?_;apply Za;intro b3 Z4;simp;subst Z4;apply ZZ;have:=RB two32 ty dx dy YX;simp[YQ,Wn,this]
  ·refine Zb (t:=false) (by simp;omega) ?_;apply Zr;subst ZT;apply Za;intro b2 ZT;simp;subst ZT;apply ZZ;have:=RB two32 tx dy dx (by omega);have h2: ¬dv Yk xs<dv Yk ys:=by omega
   simp[YQ,Wn,this,h2]
end
end
end Go.Proofs.YtmkfecoeghokfaaGreatDoor
