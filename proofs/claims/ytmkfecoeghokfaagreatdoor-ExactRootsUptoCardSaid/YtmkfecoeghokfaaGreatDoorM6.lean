/-
  The engine and the walks that the claim's last text leans on, part 6 of 9: Sc, Sd, Se, Sf, Sg, Sh, Si, Sj, Sk, Sl, Sm, Sn, So, Sp, Sq, Sr, Ss, St, Su, Sv, Sw.
-/
import Derived.Test.YtmkfecoeghokfaaGreatDoorM5
namespace Go.Proofs.YtmkfecoeghokfaaGreatDoor
open Go Ev
set_option linter.unusedVariables false
set_option linter.unusedSimpArgs false
noncomputable section
set_option maxRecDepth 20000
set_option maxHeartbeats 1000000
theorem quo64{x:Nat}(h:x<9223372036854775808):Zd .quo .i64 (x:Int) 64=some (.int .i64 ((x/64:Nat):Int)):=quo_i64 (y:=64) h (by decide)
theorem rem64{x:Nat} :Zd .rem .i64 (x:Int) 64=some (.int .i64 ((x%64:Nat):Int)):=rem_i64 (y:=64) (by decide)
theorem lss_neg{x:Nat} :Zd .lss .i64 (x:Int) 0=some (.bool false):=by rw[lss0,decide_eq_false (by omega)]
theorem pow_limbs{n:Nat}{q s:Nat}(hq:q=n/64)(hs:s=n%64):Dig B64 ((List.replicate (q+2) 0).set q (2^s))∧dv B64 ((List.replicate (q+2) 0).set q (2^s))=2^n:=by
 have hs64:s<64:=by omega
 have hlt:2^s<B64:=by show 2^s<2^64;exact Nat.pow_lt_pow_right (by decide) hs64
 refine⟨(De (by decide) _).set hlt,?_⟩;have h:=dv_set B64 (List.replicate (q+2) 0) q (2^s) (by simp);rw[List.getElem_replicate,Nat.mul_zero,Nat.add_zero]at h;rw[h];have h0:dv B64 (List.replicate (q+2) 0)=0:=dv_zero_of fun x hx=>(List.mem_replicate.mp hx).2;rw[h0,Nat.zero_add];have:B64^q=2^(64*q):=(Nat.pow_mul 2 64 q).symm;rw[this,←Nat.pow_add];congr 1;omega
section
attribute [-simp] Int.natCast_add Int.natCast_mul Int.natCast_ediv Int.natCast_emod Int.natCast_pow
attribute [local simp] strip Yg LW' LR gW Ym Xc Yb Xd Yp Xe Zt Zu Zi Yq Yz Yk Xj Zw Yr Zj Zg Xi Xh Qv Ye Xb opd Qc Yn plain Yj Tr.get_set Qb Zq Xx Yd sameKind undef Zv Ys Yw Zm Yc parts unV DW Xl Zz LX Zy
section
variable {H : AH} {va vb : Value} {xs ys : List Nat}
theorem leftOne_spec{n:Nat}(ha:Sl H va [1])(hn:n≤60000000):CW Tryz.prog Zo 201 [va,.int .i64 (n:Int)] H fun v H'=>Keep H H'∧ ∃u,v= .tuple #[u,.int .i64 0]∧Own H.n H' u (ds B64 (2^n)):=by
 refine Zk 73 (by decide) (by decide) Tryz.func201 rfl rfl ?_;obtain⟨v1,H1,c1,e1,s1⟩:=Up ha (by simp);rw[e1]at c1;have e3:Xm [1]=[1]:=rfl;rw[e3]at s1;have d1:Dig B64 [1]:= .cons (by decide) (.nil _);obtain⟨v2,H2,c2,e2,e2'⟩:=Us s1 d1 (by simp);rw[e2,e2']at c2;have hbl:Ze (dv B64 [1])=1:=by decide
 rw[hbl]at c2;have c2:Zs Tryz.prog Zo 123 [v1] H=some (.int .i64 1,H):=c2;have l1:lenV Tryz.prog 30 v1=some 1:=s1.len Zm;have a0:Yu Tryz.prog 30 v1 (.int .i64 0)=some (adr v1 0):=s1.adr Zm (k:= .i64) (i:=0) (by simp);obtain⟨q,hq⟩: ∃q,q=n/64:=⟨_,rfl⟩;obtain⟨s,hs⟩: ∃s,s=n%64:=⟨_,rfl⟩;obtain⟨c0,H3,hmk,k3,o3,n3⟩:=Xw (H:=H) Zm (n:=q+2) (by omega);have d0:Yt Tryz.prog H3 101 (adr v1 0)=some (.int .u64 1):=(s1.keep k3).load (i:=0) (by simp);have g1:Zd .gtr .i64 (n:Int) 1099511627776=some (.bool false):=by have h:=Uh (k:= .i64) (x:=n) (y:=1099511627776);rw[decide_eq_false (by omega)]at h;exact h
 have g2:Zd .add .i64 1 (n:Int)=some (.int .i64 ((1+n:Nat):Int)):=Jc (x:=1) (y:=n) (by omega);have g3:Zd .gtr .i64 ((1+n:Nat):Int) 67108864=some (.bool false):=by have h:=Uh (k:= .i64) (x:=1+n) (y:=67108864);rw[decide_eq_false (by omega)]at h;exact h
 have g4:Zd .quo .i64 (n:Int) 64=some (.int .i64 (q:Int)):=by rw[hq];exact quo64 (by omega)
 have g5:Zd .rem .i64 (n:Int) 64=some (.int .i64 (s:Int)):=by rw[hs];exact rem64
 have g6:=conv_uint (n:=s) (by omega);have g7:Zd .add .i64 (q:Int) 1=some (.int .i64 ((q+1:Nat):Int)):=Yy (x:=q) (by omega);have g8:Zd .add .i64 ((q+1:Nat):Int) 1=some (.int .i64 ((q+2:Nat):Int)):=Yy (x:=q+1) (by omega);have g9:Zd .add .i64 (q:Int) 0=some (.int .i64 (q:Int)):=Jc (x:=q) (y:=0) (by omega);have hs64:s<64:=by omega
 have hlt:2^s<B64:=by show 2^s<2^64;exact Nat.pow_lt_pow_right (by decide) hs64
 obtain⟨P,hP⟩: ∃P,P=2^s:=⟨_,rfl⟩;have g10:Qj .shl .u64 1 (s:Int)=some (.int .u64 (P:Int)):=by have h:=Db (x:=1) (s:=s) (by omega);rw[Nat.one_mul,Nat.mod_eq_of_lt hlt,←hP]at h;exact h
 have g11:Zd .or .u64 0 (P:Int)=some (.int .u64 (P:Int)):=by have h:=or_u64 (x:=0) (y:=P) (by decide) (by omega);rw[Nat.zero_or]at h;exact h
 have g12:Qj .shr .u64 1 1=some (.int .u64 0):=Cn (x:=1) (s:=1) (by omega);have g13:Zd .sub .u64 63 (s:Int)=some (.int .u64 ((63-s:Nat):Int)):=Dc (x:=63) (y:=s) (by decide) (by omega);have g14:Qj .shr .u64 0 ((63-s:Nat):Int)=some (.int .u64 0):=by have h:=Cn (x:=0) (s:=63-s) (by omega);rw[Nat.zero_div]at h;exact h
 have g15:Zd .or .u64 0 0=some (.int .u64 0):=or_u64 (x:=0) (y:=0) (by decide) (by decide);have i1:=o3.sl.adr Zm (k:= .i64) (i:=q) (by simp);have w1:=o3.sl.load (i:=q) (by simp);rw[List.getElem_replicate]at w1;have w1:Yt Tryz.prog H3 101 (adr c0 q)=some (.int .u64 0):=w1;obtain⟨H4,st4,o4,n4,bt4,ka4⟩:=o3.put (i:=q) (by simp) P;have i2:=o4.sl.adr Zm (k:= .i64) (i:=q+1) (by simp);have w2:=o4.sl.load (i:=q+1) (by simp);rw[List.getElem_set_ne (by omega),List.getElem_replicate]at w2;have w2:Yt Tryz.prog H4 101 (adr c0 (q+1))=some (.int .u64 0):=w2;obtain⟨H5,st5,o5,n5,bt5,ka5⟩:=o4.put (i:=q+1) (by simp) 0;have st5:Xu Tryz.prog H4 101 (adr c0 (q+1)) (.int .u64 0)=some H5:=st5;have eset:((List.replicate (q+2) 0).set q P).set (q+1) 0=(List.replicate (q+2) 0).set q P:=by
  apply List.ext_getElem;·simp
  ·intro i h1 h2;by_cases hi:q+1=i;·subst hi;rw[List.getElem_set_self,List.getElem_set_ne (by omega),List.getElem_replicate]
   ·rw[List.getElem_set_ne hi]
 rw[eset]at o5;obtain⟨p1,p2⟩:=pow_limbs hq hs;rw[←hP]at p1 p2;obtain⟨v6,H6,c6,e6,o6⟩:=trim_own o5 (by simp;omega);subst e6;rw[Qs Yh p1,p2]at o6;have k5:Keep H H6:=ka5 H (ka4 H k3 (Nat.le_refl _)) (Nat.le_refl _);apply Zb;intro b1 hb1;apply Za;simp;subst hb1;apply Zb;intro b1 hb1;apply Zb;intro b2 hb2;apply Za;simp[lss_neg,g1];subst hb2;refine Zc (t:=false) (by simp) ?_;apply Zf;subst hb1;apply Zb;intro b1 hb1;apply Za;simp[c1];subst hb1;apply Zb;intro b1 hb1;apply Zb;intro b2 hb2;apply Za;simp[l1,show Zd .eql .i64 1 0=some (.bool false)from rfl];subst hb2;refine Zc (t:=false) (by simp) ?_;apply Zf;subst hb1;apply Zb;intro b1 hb1;apply Zb;intro b2 hb2;apply Za;simp[c2,g2,g3];subst hb2;refine Zc (t:=false) (by simp) ?_;apply Zf;subst hb1;apply Zb;intro b1 hb1;apply Za;simp[g4,g5,g6];subst hb1;apply Zb;intro b1 hb1;apply Za;simp[l1,g7,g8,hmk];subst hb1;apply Zb;intro b1 hb1;apply Zb;intro b2 hb2;apply Za;simp[l1];subst hb2;apply Zp;apply W_loop1;apply Zb;intro b3 hb3;apply Za;simp[show Zd .lss .i64 0 1=some (.bool true)from rfl];subst hb3;apply Zb;intro b3 hb3;refine Zc (t:=true) (by simp) ?_;apply Zf;subst hb3;apply Zb;intro b3 hb3;apply Zp;apply Zb;intro b4 hb4;apply Za;simp[a0,d0];subst hb4;apply Zb;intro b4 hb4;apply Za;simp[g9,i1,w1,g10,g11,st4];subst hb4;apply Za;simp[g9,g7,i2,w2,g12,g13,g14,g15,st5];subst hb3;apply Za;simp[show Zd .add .i64 0 1=some (.int .i64 1)from rfl];apply W_loop1;apply Zb;intro b3 hb3;apply Za;simp[show Zd .lss .i64 1 1=some (.bool false)from rfl];subst hb3;apply Zb;intro b3 hb3;refine Zc (t:=false) (by simp) ?_;apply Xr;left;refine⟨rfl,?_⟩;subst hb1;apply Zb;intro b4 hb4;apply Za;simp[c6];subst hb4;apply Zn;simp;exact⟨k5,o6⟩
end
section
variable {H : AH} {va vb : Value} {xs ys : List Nat} {A B : Nat}
theorem power_call{n:Nat}(hn:n≤60000000): ∃u H',Zs Tryz.prog Zo 165 [.int .i64 (n:Int)] H=some (u,H')∧Keep H H'∧Own H.n H' u (ds B64 (2^n)):=by suffices h:CW Tryz.prog Zo 165 [.int .i64 (n:Int)] H fun v H'=>Keep H H'∧Own H.n H' v (ds B64 (2^n))from h;obtain⟨v1,H1,c1,k1,o1⟩:=Fk (H:=H) (x:=1) (by decide);rw[ds1 (by decide) (by decide)]at o1;have c1:Zs Tryz.prog Zo 164 [.int .u64 1] H=some (v1,H1):=c1;obtain⟨v2,H2,c2,k2,u,rfl,o2⟩:=leftOne_spec o1.sl hn;refine Zk 12 (by decide) (by decide) Tryz.func165 rfl rfl ?_;apply Zb;intro b1 hb1;apply Za;simp;subst hb1;apply Zb;intro b1 hb1;apply Za;simp[c1,c2];subst hb1;apply Zb;intro b1 hb1;apply Za;simp;subst hb1;apply Zn;simp;exact⟨k1.trans k2,o2.mono k1.n (.refl _)⟩
theorem rootsFits_call(ha:Sl H va xs)(dx:Dig B64 xs)(lx:xs.length≤17592186044416)(hb:Ze (dv B64 xs)≤67108864): ∃u H',Zs Tryz.prog Zo 126 [va] H=some (.tuple #[u,.int .i64 0],H')∧Keep H H'∧Own H.n H' u (ds B64 (dv B64 xs)):=by
 suffices h:CW Tryz.prog Zo 126 [va] H fun v H'=> ∃u,v= .tuple #[u,.int .i64 0]∧Keep H H'∧Own H.n H' u (ds B64 (dv B64 xs)) by obtain⟨v,H',hc,u,rfl,k,o⟩:=h;exact⟨u,H',hc,k,o⟩
 obtain⟨v1,H1,c1,e1,e1'⟩:=Us ha dx lx;rw[e1,e1']at c1;obtain⟨v2,H2,c2,k2,o2⟩:=Kd ha lx;rw[Qs Yh dx]at o2;obtain⟨L,hL⟩: ∃L,L=Ze (dv B64 xs):=⟨_,rfl⟩;rw[←hL]at c1 hb;have g1:Zd .gtr .i64 (L:Int) 67108864=some (.bool false):=by have h:=Uh (k:= .i64) (x:=L) (y:=67108864);rw[decide_eq_false (by omega)]at h;exact h
 refine Zk 9 (by decide) (by decide) Tryz.func126 rfl rfl ?_;apply Zb;intro b1 hb1;apply Za;simp;subst hb1;apply Zb;intro b1 hb1;apply Zb;intro b2 hb2;apply Za;simp[c1,g1];subst hb2;refine Zc (t:=false) (by simp) ?_;apply Zf;subst hb1;apply Zb;intro b1 hb1;apply Za;simp[c2];subst hb1;apply Zn;simp;exact⟨k2,o2⟩
theorem Zp5(ha:Sl H va (ds B64 A))(hb:Sl H vb (ds B64 B))(lA:(ds B64 A).length≤Lim)(lB:(ds B64 B).length≤Lim)(hle:B≤A)(h:Ze A≤67108864): ∃u H',Zs Tryz.prog Zo 170 [va,vb] H=some (.tuple #[u,.int .i64 0],H')∧Keep H H'∧Own H.n H' u (ds B64 (A-B)):=by
 obtain⟨v,H',hc,k,hm⟩:=natSub_spec ha hb (Xg Yh A) (Xg Yh B) (by omega) (by omega) (by rw[Xy Yh,Xy Yh];exact hle);rw[Xy Yh,Xy Yh]at hm;have hmono:=Yf (n:=A-B) (m:=A) (by omega);rcases hm with⟨h1,_⟩|⟨h1,u,rfl,o⟩;·omega
 ·exact⟨u,H',hc,k,o⟩
theorem Zp4(ha:Sl H va (ds B64 A))(hb:Sl H vb (ds B64 B))(lA:(ds B64 A).length≤Lim)(lB:(ds B64 B).length≤Lim)(h:Ze (A+B)≤67108864): ∃u H',Zs Tryz.prog Zo 167 [va,vb] H=some (.tuple #[u,.int .i64 0],H')∧Keep H H'∧Own H.n H' u (ds B64 (A+B)):=by
 obtain⟨v,H',hc,k,hm⟩:=natAdd_spec ha hb (Xg Yh A) (Xg Yh B) (by omega) (by omega);rw[Xy Yh,Xy Yh]at hm;rcases hm with⟨h1,_⟩|⟨h1,u,rfl,o⟩;·omega
 ·exact⟨u,H',hc,k,o⟩
theorem Bc(ha:Sl H va (ds B64 A))(hb:Sl H vb (ds B64 B))(lA:(ds B64 A).length≤Lim)(lB:(ds B64 B).length≤Lim)(h:Ze (A*B)≤67108864): ∃u H',Zs Tryz.prog Zo 146 [va,vb] H=some (.tuple #[u,.int .i64 0],H')∧Keep H H'∧Own H.n H' u (ds B64 (A*B)):=by
 obtain⟨v,H',hc,k,hm⟩:=mul_spec ha hb (Xg Yh A) (Xg Yh B) (by omega) (by omega);rw[Xy Yh,Xy Yh]at hm;rcases hm with⟨h1,_⟩|⟨h1,u,rfl,o⟩;·omega
 ·exact⟨u,H',hc,k,o⟩
theorem Kn(ha:Sl H va (ds B64 A))(hb:Sl H vb (ds B64 B))(lA:(ds B64 A).length≤Lim)(lB:(ds B64 B).length≤Lim)(h0:0<B)(h:Ze A≤67108864): ∃u H',Zs Tryz.prog Zo 141 [va,vb] H=some (.tuple #[u,.int .i64 0],H')∧Keep H H'∧Own H.n H' u (ds B64 (A/B)):=by
 obtain⟨v,H',hc,k,hm⟩:=quo_spec ha hb (Xg Yh A) (Xg Yh B) lA lB;rw[Xy Yh,Xy Yh]at hm;have hmono:=Yf (n:=A/B) (m:=A) (Nat.div_le_self _ _);rcases hm with⟨h1,_⟩|⟨_,h1,_⟩|⟨_,h1,u,rfl,o⟩;·omega
 ·omega
 ·exact⟨u,H',hc,k,o⟩
theorem Zb4(ha:Sl H va (ds B64 A))(hb:Sl H vb (ds B64 B))(lA:(ds B64 A).length≤Lim)(lB:(ds B64 B).length≤Lim): ∃u H',Zs Tryz.prog Zo 139 [va,vb] H=some (u,H')∧Keep H H'∧Own H.n H' u (ds B64 (Nat.gcd A B)):=by obtain⟨v,H',hc,k,o⟩:=gcd_spec ha hb (Xg Yh A) (Xg Yh B) lA lB;rw[Xy Yh,Xy Yh]at o;exact⟨v,H',hc,k,o⟩
theorem Kc(ha:Sl H va xs)(dx:Dig B64 xs)(lx:xs.length≤17592186044416): ∃u H',Zs Tryz.prog Zo 120 [va] H=some (u,H')∧Keep H H'∧Own H.n H' u (ds B64 (dv B64 xs)):=by obtain⟨v,H',hc,k,o⟩:=Kd ha lx;rw[Qs Yh dx]at o;exact⟨v,H',hc,k,o⟩
theorem less_call(ha:Sl H va (ds B64 A))(hb:Sl H vb (ds B64 B))(lA:(ds B64 A).length≤Lim)(lB:(ds B64 B).length≤Lim)(hle:B≤A)(h:Ze A≤67108864): ∃u H',Zs Tryz.prog Zo 129 [va,vb] H=some (u,H')∧Keep H H'∧Own H.n H' u (ds B64 (A-B)):=by suffices hs:CW Tryz.prog Zo 129 [va,vb] H fun v H'=>Keep H H'∧Own H.n H' v (ds B64 (A-B))from hs;obtain⟨u,H1,c1,k1,o1⟩:=Zp5 ha hb lA lB hle h;refine Zk 14 (by decide) (by decide) Tryz.func129 rfl rfl ?_;apply Zb;intro b1 hb1;apply Za;simp;subst hb1;apply Zb;intro b1 hb1;apply Za;simp[c1];subst hb1;apply Zb;intro b1 hb1;apply Za;simp;subst hb1;apply Zn;simp;exact⟨k1,o1⟩
theorem square_call(ha:Sl H va (ds B64 A))(lA:(ds B64 A).length≤Lim)(h:Ze (A*A)≤67108864): ∃u H',Zs Tryz.prog Zo 169 [va] H=some (.tuple #[u,.int .i64 0],H')∧Keep H H'∧Own H.n H' u (ds B64 (A*A)):=by
 suffices hs:CW Tryz.prog Zo 169 [va] H fun v H'=> ∃u,v= .tuple #[u,.int .i64 0]∧Keep H H'∧Own H.n H' u (ds B64 (A*A)) by obtain⟨v,H',hc,u,rfl,k,o⟩:=hs;exact⟨u,H',hc,k,o⟩
 obtain⟨u,H1,c1,k1,o1⟩:=Bc ha ha lA lA h;refine Zk 9 (by decide) (by decide) Tryz.func169 rfl rfl ?_;apply Zb;intro b1 hb1;apply Za;simp;subst hb1;apply Zb;intro b1 hb1;apply Za;simp[c1];subst hb1;apply Zn;simp;exact⟨k1,o1⟩
end
end
theorem shr_i64{x s:Nat}(hs:s≤64):Qj .shr .i64 (x:Int) (s:Int)=some (.int .i64 ((x/2^s:Nat):Int)):=by unfold Qj;rw[if_neg (by omega)];simp only[show IntKind.i64.bits=64 from rfl,Int.toNat_natCast,Nat.min_eq_left hs];rw[Zb3]
theorem and1_i64{x:Nat}(hx:x<9223372036854775808):Zd .and .i64 (x:Int) 1=some (.int .i64 ((x%2:Nat):Int)):=by
 have hx':x<B64:=Nat.lt_trans hx (by decide);have e:(BitVec.ofInt 64 (x:Int)&&&BitVec.ofInt 64 ((1:Nat):Int)).toNat=x&&&1:=by rw[BitVec.toNat_and,bv_nat hx',bv_nat (by decide)]
 show some (Value.int .i64 (IntKind.i64.wrap ((BitVec.ofInt 64 (x:Int)&&&BitVec.ofInt 64 ((1:Nat):Int)).toNat:Nat)))=_;rw[e,Nat.and_one_is_mod,Zd2 (by omega)]
theorem blen_pow{A k:Nat}(hA:0<A):(Ze A-1)*k+1≤Ze (A^k):=by
 have h1:=Uf (n:=A) (by omega);have h2:2^((Ze A-1)*k)≤A^k:=by rw[Nat.pow_mul];exact Nat.pow_le_pow_left h1 k
 have h3:=Vw (A^k);have:=(Nat.pow_lt_pow_iff_right (a:=2) (by decide)).mp (Nat.lt_of_le_of_lt h2 h3);omega
theorem eql1N{x:Nat} :Zd .eql .i64 (x:Int) 1=some (.bool (decide (x=1))):=Zd9 (y:=1)
theorem leq1N{x:Nat} :Zd .leq .i64 (x:Int) 1=some (.bool (decide (x≤1))):=Ze2 (y:=1)
theorem pow_shift{A k i:Nat} :A^(k/2^i)=A^(k/2^(i+1))*A^(k/2^(i+1))*(if k/2^i%2=1 then A else 1):=by
 have h:k/2^i=k/2^(i+1)+k/2^(i+1)+k/2^i%2:=by
  have:k/2^(i+1)=k/2^i/2:=by rw[Nat.pow_succ,Nat.div_div_eq_div_mul]
  omega
 rw[←Nat.pow_add];conv=>lhs;rw[h,Nat.pow_add]
 congr 1;split;·rename_i h1;rw[h1,Nat.pow_one]
 ·rw[show k/2^i%2=0 by omega,Nat.pow_zero]
section
attribute [-simp] Int.natCast_add Int.natCast_mul Int.natCast_ediv Int.natCast_emod Int.natCast_pow
attribute [local simp] strip Yg LW' LR gW Ym Xc Yb Xd Yp Xe Zt Zu Zi Yq Yz Yk Xj Zw Yr Zj Zg Xi Xh Qv Ye Xb opd Qc Yn plain Yj Tr.get_set Qb Zq Xx Yd sameKind undef Zv Ys Yw Zm Yc parts unV DW Xl Zz LX Zy
section
variable {H : AH} {va vb : Value} {xs ys : List Nat} {A B : Nat}
theorem Zl{A:Nat}(h:Ze A≤67108864):(ds B64 A).length≤Lim:=by have h1:A<2^Ze A:=Vw A;have h2:2^Ze A≤B64^(Ze A):=Nat.pow_le_pow_left (by decide) _;have:=Jy Yh (Nat.lt_of_lt_of_le h1 h2);show(ds B64 A).length≤2000000000000;omega
theorem pow_call{k:Nat}(ha:Sl H va (ds B64 A))(hk0:0<k)(hk:k≤67108864)(hb:Ze (A^k)≤67108864): ∃u H',Zs Tryz.prog Zo 128 [va,.int .i64 (k:Int)] H=some (.tuple #[u,.int .i64 0],H')∧Keep H H'∧Own H.n H' u (ds B64 (A^k)):=by
 suffices hs:CW Tryz.prog Zo 128 [va,.int .i64 (k:Int)] H fun v H'=> ∃u,v= .tuple #[u,.int .i64 0]∧Keep H H'∧Own H.n H' u (ds B64 (A^k)) by obtain⟨v,H',hc,u,rfl,k,o⟩:=hs;exact⟨u,H',hc,k,o⟩
 have hbA:Ze A≤67108864:=by
  rcases Nat.eq_zero_or_pos A with h|h;·subst h;decide
  ·exact Nat.le_trans (Yf (Nat.le_self_pow (by omega) A)) hb
 have lA:=Zl hbA;obtain⟨v1,H1,c1,k1,o1⟩:=Kc ha (Xg Yh A) (Nat.le_trans lA (by decide));rw[Xy Yh]at o1;have c2:=Jx o1.sl lA;have e0:Zd .eql .i64 (k:Int) 0=some (.bool false):=by rw[Vg,decide_eq_false (by omega)]
 obtain⟨L,hL⟩: ∃L,L=Ze A:=⟨_,rfl⟩;rw[←hL]at c2;refine Zk 63 (by decide) (by decide) Tryz.func128 rfl rfl ?_;apply Zb;intro b1 hb1;apply Za;simp;subst hb1;apply Zb;intro b1 hb1;apply Zb;intro b2 hb2;apply Za;simp[lss_neg];subst hb2;refine Zc (t:=false) (by simp) ?_;apply Zf;subst hb1;apply Zb;intro b1 hb1;apply Za;simp[c1];subst hb1;apply Zb;intro b1 hb1;apply Zb;intro b2 hb2;apply Za;simp[e0];subst hb2;refine Zc (t:=false) (by simp) ?_;apply Zf;subst hb1;apply Zb;intro b1 hb1;apply Za;simp[c2];subst hb1;apply Zb;intro b1 hb1;apply Zb;intro b2 hb2;apply Za;simp[leq1N (x:=L)];subst hb2;by_cases hL1:L≤1
 ·refine Zc (t:=true) (by simp[hL1]) ?_;apply Zb;intro b2 hb2;apply Za;simp;subst hb2;apply Zn;simp[Xt];refine⟨k1,?_⟩;have:A^k=A:=by
   have h1:=Vw A;rw[←hL]at h1;have:A<2:=Nat.lt_of_lt_of_le h1 (Nat.pow_le_pow_right (n:=2) (by decide) hL1);have:A=0∨A=1:=by omega
   rcases this with rfl|rfl;·exact Nat.zero_pow hk0
   ·exact Nat.one_pow _
  rw[this];exact o1
 ·refine Zc (t:=false) (by simp[hL1]) ?_;apply Zf;subst hb1;have hA0:0<A:=by
   rcases Nat.eq_zero_or_pos A with h|h;·subst h;rw[hL]at hL1;exact absurd (by decide) hL1
   ·exact h
  have hpw:=blen_pow (k:=k) hA0;rw[←hL]at hpw;have gk:Zd .gtr .i64 (k:Int) 67108864=some (.bool false):=by have h:=Uh (k:= .i64) (x:=k) (y:=67108864);rw[decide_eq_false (by omega)]at h;exact h
  have hLk:(L-1)*k+1≤67108864:=Nat.le_trans hpw hb;have g1:=Kz (x:=L) (by omega) (by omega);have g2:=mulN (x:=L-1) (y:=k) (by omega);have g3:=Yy (x:=(L-1)*k) (by omega);have g4:Zd .gtr .i64 (((L-1)*k+1:Nat):Int) 67108864=some (.bool false):=by have h:=Uh (k:= .i64) (x:=(L-1)*k+1) (y:=67108864);rw[decide_eq_false (by omega)]at h;exact h
  obtain⟨v3,H3,c3,k3,o3⟩:=Fk (H:=H1) (x:=1) (by decide);have c3:Zs Tryz.prog Zo 164 [.int .u64 1] H1=some (v3,H3):=c3;apply Zb;intro b1 hb1;apply Zb;intro b2 hb2;apply Za;simp[gk,g1,g2,g3,g4];subst hb2;refine Zc (t:=false) (by simp) ?_;apply Zf;subst hb1;apply Zb;intro b1 hb1;apply Za;simp[c3];subst hb1;apply Zb;intro b1 hb1;apply Zb;intro b2 hb2;apply Za;simp;subst hb2;apply Zp;have k13:=k1.trans k3;have o1':=o1.mono (Nat.le_refl _) k3;have e62:k/2^63=0:=Nat.div_eq_of_lt (Nat.lt_of_le_of_lt hk (by decide));refine Xo (fun m s'=>s'.k=63∧Keep H3 s'.H∧m≤63∧ ∃w,Own H.n s'.H w (ds B64 (A^(k/2^m)))∧s'.tm.get 0=some v1∧s'.tm.get 1=some (.int .i64 (k:Int))∧s'.tm.get 7=some w∧s'.tm.get 8=some (.int .i64 ((m:Int)-1))) ?_ 63 _ ⟨rfl,.refl H3,by omega,v3,by rw[e62,Nat.pow_zero];exact o3.mono k1.n (.refl _),by simp,by simp,by simp,by simp⟩;rintro m ⟨kk,tm,H4⟩ ⟨hkk,kH,hm63,w,ow,t0,t1,t7,t8⟩ Q' hQ';simp only at hkk kH ow t0 t1 t7 t8;subst hkk;apply Zb;intro b3 hb3;apply Zb;intro b4 hb4;apply Za;simp[t8,Zk8 (m:=m)];subst hb4;by_cases hm:0<m
  ·refine Zc (t:=true) (by simp[hm]) ?_;apply Zf;subst hb3;obtain⟨i,rfl⟩: ∃i,m=i+1:=⟨m-1,by omega⟩;have em:((i+1:Nat):Int)-1=(i:Int):=by omega
   rw[em]at t8;have hps:=pow_shift (A:=A) (k:=k) (i:=i);have hle:A^(k/2^i)≤A^k:=Nat.pow_le_pow_right hA0 (Nat.div_le_self _ _);have hbi:Ze (A^(k/2^i))≤67108864:=Nat.le_trans (Yf hle) hb;obtain⟨C,hC⟩: ∃C,C=A^(k/2^(i+1)):=⟨_,rfl⟩;rw[←hC]at ow hps;have hC0:0<C:=by rw[hC];exact Nat.pow_pos hA0
   have hCC:C*C≤A^(k/2^i):=by
    rw[hps];split;·exact Nat.le_mul_of_pos_right _ hA0
    ·rw[Nat.mul_one];exact Nat.le_refl _
   have hbC:Ze (C*C)≤67108864:=Nat.le_trans (Yf hCC) hbi;have hbC1:Ze C≤67108864:=Nat.le_trans (Yf (Nat.le_mul_of_pos_right C hC0)) hbC;obtain⟨u5,H5,c5,k5,o5⟩:=square_call ow.sl (Zl hbC1) hbC;have lw:=ow.sl.len Zm;obtain⟨nw,hnw⟩: ∃nw,nw=(ds B64 C).length:=⟨_,rfl⟩;rw[←hnw]at lw;have hnw0:0<nw:=by rw[hnw];exact(Uu Yh).mpr hC0
   have gl:Zd .gtr .i64 (nw:Int) 0=some (.bool true):=by rw[gtr0,decide_eq_true hnw0]
   have hki:k/2^i<9223372036854775808:=Nat.lt_of_le_of_lt (Nat.div_le_self _ _) (by omega);have gs:=shr_i64 (x:=k) (s:=i) (by omega);have ga:=and1_i64 hki;have ge:=eql1N (x:=k/2^i%2);apply Zb;intro b3 hb3;apply Zp;apply Zb;intro b4 hb4;apply Za;simp;subst hb4;refine Qr (fun s'=>s'.k=63∧s'.H=H5∧s'.tm.get 0=some v1∧s'.tm.get 1=some (.int .i64 (k:Int))∧s'.tm.get 7=some u5∧s'.tm.get 8=some (.int .i64 (i:Int))) ?_ ?_;·intro Q'' hQ'';apply Zb;intro b5 hb5;apply Za;simp[t7,lw,gl];subst hb5;refine Zc (t:=true) (by simp) ?_;apply Zb;intro b5 hb5;apply Za;simp[t7,c5];subst hb5;apply Zb;intro b5 hb5;apply Za;simp[Bd];subst hb5;refine Zc (t:=false) (by simp) ?_;apply Zf;apply hQ'';exact⟨rfl,rfl,by simp[t0],by simp[t1],by simp,by simp[t8]⟩
   clear t0 t1 t7 t8;rintro⟨kk,tm,H6⟩ ⟨hkk,hH,t0,t1,t7,t8⟩;simp only at hkk hH t0 t1 t7 t8;subst hkk;subst hH;apply Zb;intro b4 hb4;apply Za;simp[t1,t8,gs,ga,ge];subst hb4;have kH6:Keep H3 H6:=kH.trans k5;have o1'':=o1'.mono (Nat.le_refl _) kH6;by_cases hbit:k/2^i%2=1
   ·rw[if_pos hbit]at hps;have hbM:Ze (C*C*A)≤67108864:=by rw[←hps];exact hbi
    obtain⟨u7,H7,c7,k7,o7⟩:=Bc o5.sl o1''.sl (Zl hbC) lA hbM;refine Zc (t:=true) (by simp[hbit]) ?_;apply Zb;intro b4 hb4;apply Za;simp[t0,t7,c7];subst hb4;apply Zb;intro b4 hb4;apply Za;simp[Bd];subst hb4;refine Zc (t:=false) (by simp) ?_;apply Zf;subst hb3;apply Za;simp[t8,Ee (m:=i) (by omega)];apply hQ';refine⟨i,by omega,rfl,kH6.trans k7,by omega,u7,?_,by simp[t0],by simp[t1],by simp,by simp⟩;rw[hps];exact o7.mono (Nat.le_trans k13.n kH6.n) (.refl _)
   ·rw[if_neg hbit,Nat.mul_one]at hps;refine Zc (t:=false) (by simp[hbit]) ?_;apply Zf;subst hb3;apply Za;simp[t8,Ee (m:=i) (by omega)];apply hQ';refine⟨i,by omega,rfl,kH6,by omega,u5,?_,by simp[t0],by simp[t1],by simp[t7],by simp⟩;rw[hps];exact o5.mono (Nat.le_trans k13.n kH.n) (.refl _)
  ·refine Zc (t:=false) (by simp[hm]) ?_;apply Xr;apply hQ';left;refine⟨rfl,?_⟩;obtain rfl:m=0:=by omega
   rw[Nat.pow_zero,Nat.div_one]at ow;subst hb1;apply Zb;intro b1 hb1;apply Za;simp[t7];subst hb1;apply Zn;simp;exact⟨k13.trans kH,ow⟩
end
end
def IsRt(A r:Nat):Prop:=r*r≤A∧A<(r+1)*(r+1)
theorem four_mul_le(a b:Nat):4*(a*b)≤(a+b)*(a+b):=by
 rcases Nat.le_total a b with h|h
 ·obtain⟨d,rfl⟩:=Nat.le.dest h;have:(a+(a+d))*(a+(a+d))=4*(a*(a+d))+d*d:=by grind
  omega
 ·obtain⟨d,rfl⟩:=Nat.le.dest h;have:(b+d+b)*(b+d+b)=4*((b+d)*b)+d*d:=by grind
  omega
theorem sq_le{a b:Nat}(h:a≤b):a*a≤b*b:=Nat.mul_le_mul h h
theorem sq_lt{a b:Nat}(h:a<b):a*a<b*b:=Nat.mul_lt_mul'' h h
theorem newton_up{A x:Nat}(hx:0<x):A<((x+A/x)/2+1)*((x+A/x)/2+1):=by
 have h1:A<x*(A/x+1):=by have:=Nat.div_add_mod A x;have:=Nat.mod_lt A hx;rw[Nat.mul_add,Nat.mul_one];omega
 have h2:=four_mul_le x (A/x+1);obtain⟨y,hy⟩: ∃y,y=(x+A/x)/2:=⟨_,rfl⟩;rw[←hy];have h3:x+(A/x+1)≤2*(y+1):=by omega
 have h4:=sq_le h3;have h5:2*(y+1)*(2*(y+1))=4*((y+1)*(y+1)):=by grind
 omega
theorem newton_stop{A x:Nat}(hx:0<x)(hA:A<(x+1)*(x+1))(h:x≤(x+A/x)/2):IsRt A x:=by
 refine⟨?_,hA⟩;have h1:x≤A/x:=by omega
 have h2:x*x≤A/x*x:=Nat.mul_le_mul_right _ h1;exact Nat.le_trans h2 (Nat.div_mul_le_self A x)
theorem div_le_two{A x:Nat}(hx:0<x)(hA:A<(x+1)*(x+1)):A/x≤x+2:=by
 have:A<(x+3)*x:=by
  have:(x+1)*(x+1)=(x+2)*x+1:=by grind
  have:(x+3)*x=(x+2)*x+x:=by grind
  omega
 have:=(Nat.div_lt_iff_lt_mul hx).mpr this;omega
theorem isRt_uniq{A r s:Nat}(h:IsRt A r)(h':IsRt A s):r=s:=by
 obtain⟨a,b⟩:=h;obtain⟨c,d⟩:=h';rcases Nat.lt_trichotomy r s with h|h|h;·have:=sq_le (show r+1≤s from h);omega
 ·exact h
 ·have:=sq_le (show s+1≤r from h);omega
theorem Kb{n k:Nat}(h:n<2^k):Ze n≤k:=by
 rcases Nat.eq_zero_or_pos n with h0|h0;·subst h0;exact Nat.zero_le _
 ·have h1:=Uf (n:=n) (by omega);have:=(Nat.pow_lt_pow_iff_right (a:=2) (by decide)).mp (Nat.lt_of_le_of_lt h1 h);omega
section
attribute [-simp] Int.natCast_add Int.natCast_mul Int.natCast_ediv Int.natCast_emod Int.natCast_pow
attribute [local simp] strip Yg LW' LR gW Ym Xc Yb Xd Yp Xe Zt Zu Zi Yq Yz Yk Xj Zw Yr Zj Zg Xi Xh Qv Ye Xb opd Qc Yn plain Yj Tr.get_set Qb Zq Xx Yd sameKind undef Zv Ys Yw Zm Yc parts unV DW Xl Zz LX Zy
section
variable {H : AH} {va vb : Value} {xs ys : List Nat} {A B : Nat}
theorem newton_call(ha:Sl H va (ds B64 A))(hA:0<A)(hb:Ze A≤67108864): ∃u H',Zs Tryz.prog Zo 127 [va,.int .i64 2] H=some (u,H')∧Keep H H'∧ ∃r,IsRt A r∧Own H.n H' u (ds B64 r):=by
 suffices hs:CW Tryz.prog Zo 127 [va,.int .i64 2] H fun v H'=>Keep H H'∧ ∃r,IsRt A r∧Own H.n H' v (ds B64 r)from hs;have lA:=Zl hb;have c1:=Jx ha lA;obtain⟨L,hL⟩: ∃L,L=Ze A:=⟨_,rfl⟩;rw[←hL]at c1 hb;have hAL:A<2^L:=by rw[hL];exact Vw A
 have g1:Zd .geq .i64 2 (L:Int)=some (.bool (decide (L≤2))):=Bu (k:= .i64) (x:=2) (y:=L);refine Zk 72 (by decide) (by decide) Tryz.func127 rfl rfl ?_;apply Zb;intro b1 hb1;apply Za;simp;subst hb1;apply Zb;intro b1 hb1;apply Za;simp[c1];subst hb1;apply Zb;intro b1 hb1;apply Zb;intro b2 hb2;apply Za;simp[g1];subst hb2;by_cases hL2:L≤2;·obtain⟨v2,H2,c2,k2,o2⟩:=Fk (H:=H) (x:=1) (by decide);have c2:Zs Tryz.prog Zo 164 [.int .u64 1] H=some (v2,H2):=c2;refine Zc (t:=true) (by simp[hL2]) ?_;apply Zb;intro b2 hb2;apply Za;simp[c2];subst hb2;apply Zn;simp[Xt];refine⟨k2,1,⟨by omega,?_⟩,o2⟩;have:A<2^2:=Nat.lt_of_lt_of_le hAL (Nat.pow_le_pow_right (by decide) hL2);omega
 ·refine Zc (t:=false) (by simp[hL2]) ?_;apply Zf;subst hb1;obtain⟨h,hh⟩: ∃h,h=(L+1)/2:=⟨_,rfl⟩;have g2:Zd .add .i64 (L:Int) 2=some (.int .i64 ((L+2:Nat):Int)):=Jc (x:=L) (y:=2) (by omega);have g3:Zd .sub .i64 ((L+2:Nat):Int) 1=some (.int .i64 ((L+1:Nat):Int)):=Kz (x:=L+2) (by omega) (by omega);have g4:Zd .quo .i64 ((L+1:Nat):Int) 2=some (.int .i64 (h:Int)):=by rw[hh];exact quo_i64 (x:=L+1) (y:=2) (by omega) (by decide)
  obtain⟨v2,H2,c2,k2,o2⟩:=power_call (H:=H) (n:=h) (by omega);apply Zb;intro b1 hb1;apply Za;simp[g2,g3,g4,c2];subst hb1;apply Zp;have hX0:A<(2^h+1)*(2^h+1):=by have h1:2^L≤2^(h+h):=Nat.pow_le_pow_right (by decide) (by omega);rw[Nat.pow_add]at h1;have h2:=sq_lt (show 2^h<2^h+1 by omega);omega
  refine Xo (fun m s'=>s'.k=72∧Keep H s'.H∧0<m∧m≤2^h∧A<(m+1)*(m+1)∧ ∃w,Own H.n s'.H w (ds B64 m)∧s'.tm.get 0=some va∧s'.tm.get 1=some (.int .i64 2)∧s'.tm.get 6=some w) ?_ (2^h) _ ⟨rfl,k2,Nat.pow_pos (by decide),Nat.le_refl _,hX0,v2,o2,by simp,by simp,by simp⟩;rintro x ⟨kk,tm,H4⟩ ⟨hkk,kH,hx0,hxX,hAx,w,ow,t0,t1,t6⟩ Q' hQ';simp only at hkk kH ow t0 t1 t6;subst hkk;have hbx:Ze x≤60000000:=by
   have:x<2^(h+1):=by rw[Nat.pow_succ];omega
   have:=Kb this;omega
  obtain⟨v5,H5,c5,k5,o5⟩:=pow_call (k:=1) ow.sl (by decide) (by decide) (by rw[Nat.pow_one];omega);rw[Nat.pow_one]at o5;have c5:Zs Tryz.prog Zo 128 [w,.int .i64 1] H4=some (.tuple #[v5,.int .i64 0],H5):=c5;have k45:=kH.trans k5;obtain⟨v6,H6,c6,k6,o6⟩:=Kn (ha.keep k45) o5.sl lA (Zl (by omega)) hx0 (by omega);have ow5:=(ow.mono (Nat.le_refl _) k5).mono (Nat.le_refl _) k6;obtain⟨v7,H7,c7,k7,m7⟩:=times_spec (y:=1) ow5.sl (Xg Yh x) (by decide) (Nat.le_trans (Zl (A:=x) (by omega)) (by decide));rw[Xy Yh,Nat.mul_one]at m7;have c7:Zs Tryz.prog Zo 166 [w,.int .u64 1] H6=some (v7,H7):=c7;rcases m7 with⟨m7,_⟩|⟨_,u7,rfl,o7⟩;·omega
  have hq2:=div_le_two hx0 hAx;have hs:x+A/x<2^(h+3):=by
   have:2^(h+3)=8*2^h:=by rw[Nat.pow_add];omega
   omega
  have hbs:=Kb hs;obtain⟨v8,H8,c8,k8,o8⟩:=Zp4 o7.sl (o6.sl.keep k7) (Zl (by omega)) (Zl (Nat.le_trans (Yf (Nat.div_le_self A x)) (by omega))) (by omega);obtain⟨v9,H9,c9,k9,m9⟩:=through_spec (y:=2) o8.sl (Xg Yh _) (by decide) (by decide) (Nat.le_trans (Zl (A:=x+A/x) (by omega)) (by decide));rw[Xy Yh]at m9;have hby:Ze ((x+A/x)/2)≤67108864:=Nat.le_trans (Yf (Nat.div_le_self _ 2)) (by omega);rcases m9 with⟨m9,_⟩|⟨_,u9,rfl,o9⟩;·omega
  obtain⟨rr,hrr⟩: ∃rr,rr=(x+A/x)%2:=⟨_,rfl⟩;rw[←hrr]at c9;have c9:Zs Tryz.prog Zo 168 [v8,.int .u64 2] H8=some (.tuple #[u9,.int .u64 (rr:Int),.int .i64 0],H9):=c9;have hup:=newton_up (A:=A) hx0;have hstop:=newton_stop hx0 hAx;obtain⟨y,hy⟩: ∃y,y=(x+A/x)/2:=⟨_,rfl⟩;rw[←hy]at hup hstop hby o9;have ow9:=((ow5.mono (Nat.le_refl _) k7).mono (Nat.le_refl _) k8).mono (Nat.le_refl _) k9;obtain⟨vc,Hc,cc,ec,ec'⟩:=Gv o9.sl ow9.sl (Xg Yh y) (Xg Yh x) (Nat.le_trans (Zl hby) (by decide)) (Nat.le_trans (Zl (A:=x) (by omega)) (by decide));rw[Xy Yh,Xy Yh]at ec';rw[ec,ec']at cc;have gc:=geq_cmp (a:=y) (b:=x);have k49:=(((k45.trans k6).trans k7).trans k8).trans k9;have s1:Zd .sub .i64 2 1=some (.int .i64 1):=rfl;have cv1:Fc Tryz.prog 3 101 (.int .i64 1)=some (.int .u64 1):=Fp (n:=1) (by decide);have cv2:Fc Tryz.prog 3 101 (.int .i64 2)=some (.int .u64 2):=Fp (n:=2) (by decide);apply Zp;apply Zb;intro b3 hb3;apply Za;simp[t1,t6,s1,c5];subst hb3;apply Zb;intro b3 hb3;apply Za;simp[t0,c6];subst hb3;apply Zb;intro b3 hb3;apply Za;simp[t1,t6,s1,cv1,c7];subst hb3;apply Zb;intro b3 hb3;apply Za;simp[c8];subst hb3;apply Zb;intro b3 hb3;apply Za;simp[t1,cv2,c9];subst hb3;apply Zb;intro b3 hb3;apply Zb;intro b4 hb4;apply Za;simp[t6,cc,gc];subst hb4;by_cases hyx:x≤y;·refine Zc (t:=true) (by simp[hyx]) ?_;apply Zb;intro b4 hb4;apply Za;simp[t6];subst hb4;apply Zn;simp[Xt,Xp];apply hQ';simp[Ch,Xp,Xt];exact⟨k49,x,hstop hyx,ow9⟩
  ·refine Zc (t:=false) (by simp[hyx]) ?_;apply Zf;subst hb3;apply Za;simp;apply hQ';refine⟨y,by omega,rfl,k49,?_,by omega,hup,u9,o9.mono (Nat.le_trans (((((kH.trans k5).trans k6).trans k7).trans k8).n) (Nat.le_refl _)) (.refl _),by simp[t0],by simp[t1],by simp⟩;rcases Nat.eq_zero_or_pos y with h0|h0;·subst h0;omega
   ·exact h0
theorem root_call(ha:Sl H va xs)(dx:Dig B64 xs)(lx:xs.length≤17592186044416)(hb:Ze (dv B64 xs)≤67108864): ∃u w H',Zs Tryz.prog Zo 89 [va,.int .i64 2] H=some (.tuple #[u,w,.int .i64 0],H')∧Keep H H'∧ ∃r,IsRt (dv B64 xs) r∧Own H.n H' u (ds B64 r)∧Sl H' w (ds B64 (dv B64 xs-r*r)):=by
 suffices hs:CW Tryz.prog Zo 89 [va,.int .i64 2] H fun v H'=> ∃u w,v= .tuple #[u,w,.int .i64 0]∧Keep H H'∧ ∃r,IsRt (dv B64 xs) r∧Own H.n H' u (ds B64 r)∧Sl H' w (ds B64 (dv B64 xs-r*r)) by obtain⟨v,H',hc,u,w,rfl,k,o⟩:=hs;exact⟨u,w,H',hc,k,o⟩
 obtain⟨v1,H1,c1,k1,o1⟩:=rootsFits_call ha dx lx hb;obtain⟨A,hA⟩: ∃A,A=dv B64 xs:=⟨_,rfl⟩;rw[←hA]at o1 hb⊢;have lA:=Zl hb;have c2:=Jx o1.sl lA;obtain⟨L,hL⟩: ∃L,L=Ze A:=⟨_,rfl⟩;rw[←hL]at c2;have g1:=Vg (k:= .i64) (x:=L);refine Zk 42 (by decide) (by decide) Tryz.func89 rfl rfl ?_;apply Zb;intro b1 hb1;apply Za;simp;subst hb1;apply Zb;intro b1 hb1;apply Zb;intro b2 hb2;apply Za;simp[show Zd .lss .i64 2 1=some (.bool false)from rfl];subst hb2;refine Zc (t:=false) (by simp) ?_;apply Zf;subst hb1;apply Zb;intro b1 hb1;apply Za;simp[c1];subst hb1;apply Zb;intro b1 hb1;apply Zb;intro b2 hb2;apply Za;simp[Bd];subst hb2;refine Zc (t:=false) (by simp) ?_;apply Zf;subst hb1;apply Zb;intro b1 hb1;apply Zb;intro b2 hb2;apply Za;simp[show Zd .eql .i64 2 1=some (.bool false)from rfl,c2,g1];subst hb2;by_cases h0:L=0;·refine Zc (t:=true) (by simp[h0]) ?_;apply Zb;intro b2 hb2;apply Za;simp;subst hb2;apply Zn;simp[Xt];have:A=0:=Fi.mp (by omega);subst this;exact⟨_,_,⟨rfl,rfl⟩,k1,0,⟨by decide,by decide⟩,o1,by rw[show ds B64 (0-0*0)=[]from Jd _];exact .nil⟩
 ·refine Zc (t:=false) (by simp[h0]) ?_;apply Zf;subst hb1;have hA0:0<A:=by
   rcases Nat.eq_zero_or_pos A with h|h;·subst h;exact absurd hL h0
   ·exact h
  obtain⟨v3,H3,c3,k3,r,hr,o3⟩:=newton_call o1.sl hA0 hb;have hrr:Ze (r^2)≤67108864:=by rw[Nat.pow_two];exact Nat.le_trans (Yf hr.1) hb
  obtain⟨v4,H4,c4,k4,o4⟩:=pow_call (k:=2) o3.sl (by decide) (by decide) hrr;rw[Nat.pow_two]at o4 hrr;have c4:Zs Tryz.prog Zo 128 [v3,.int .i64 2] H3=some (.tuple #[v4,.int .i64 0],H4):=c4;obtain⟨v5,H5,c5,k5,o5⟩:=less_call ((o1.sl.keep k3).keep k4) o4.sl lA (Zl hrr) hr.1 hb;apply Zb;intro b1 hb1;apply Za;simp[c3];subst hb1;apply Zb;intro b1 hb1;apply Za;simp[c4];subst hb1;apply Zb;intro b1 hb1;apply Za;simp[c5];subst hb1;apply Zn;simp;exact⟨_,_,⟨rfl,rfl⟩,((k1.trans k3).trans k4).trans k5,r,hr,((o3.mono k1.n k4).mono (Nat.le_refl _) k5),o5.sl⟩
theorem sqrt_call(ha:Sl H va xs)(dx:Dig B64 xs)(lx:xs.length≤17592186044416)(hb:Ze (dv B64 xs)≤67108864): ∃u w H',Zs Tryz.prog Zo 55 [va] H=some (.tuple #[u,w,.int .i64 0],H')∧Keep H H'∧ ∃r,IsRt (dv B64 xs) r∧Own H.n H' u (ds B64 r)∧Sl H' w (ds B64 (dv B64 xs-r*r)):=by
 suffices hs:CW Tryz.prog Zo 55 [va] H fun v H'=> ∃u w,v= .tuple #[u,w,.int .i64 0]∧Keep H H'∧ ∃r,IsRt (dv B64 xs) r∧Own H.n H' u (ds B64 r)∧Sl H' w (ds B64 (dv B64 xs-r*r)) by obtain⟨v,H',hc,u,w,rfl,k,o⟩:=hs;exact⟨u,w,H',hc,k,o⟩
 obtain⟨u,w,H1,c1,k1,o1⟩:=root_call ha dx lx hb;refine Zk 10 (by decide) (by decide) Tryz.func55 rfl rfl ?_;apply Zb;intro b1 hb1;apply Za;simp;subst hb1;apply Zb;intro b1 hb1;apply Za;simp[c1];subst hb1;apply Zn;simp;exact⟨_,_,⟨rfl,rfl⟩,k1,o1⟩
end
end
theorem Jv(H:AH)(sz:Nat)(cs:List Value):(H.new sz cs).n=H.n+1:=rfl
theorem Vn(H:AH)(a:List Value): ∃H',H.new 1 a=H'∧Keep H H'∧H'.n=H.n+1∧H'.blk H.n= .rw 1 a:=⟨_,rfl,.new _ _ _,rfl,by rw[AH.blk_new,if_pos rfl]⟩
theorem Qz(H:AH)(a b:List Value): ∃H',(H.new 1 a).new 1 b=H'∧Keep H H'∧H'.n=H.n+2∧H'.blk H.n= .rw 1 a∧H'.blk (H.n+1)= .rw 1 b:=by obtain⟨H1,e1,k1,n1,q1⟩:=Vn H a;obtain⟨H2,e2,k2,n2,q2⟩:=Vn H1 b;exact⟨H2,by rw[e1,e2],k1.trans k2,by omega,by rw[k2.blk _ (by omega)];exact q1,by rw[←n1];exact q2⟩
theorem Dm(H:AH)(a b c:List Value): ∃H',((H.new 1 a).new 1 b).new 1 c=H'∧Keep H H'∧H'.n=H.n+3∧H'.blk H.n= .rw 1 a∧H'.blk (H.n+1)= .rw 1 b∧H'.blk (H.n+2)= .rw 1 c:=by obtain⟨H1,e1,k1,n1,q1,r1⟩:=Qz H a b;obtain⟨H2,e2,k2,n2,q2⟩:=Vn H1 c;exact⟨H2,by rw[e1,e2],k1.trans k2,by omega,by rw[k2.blk _ (by omega)];exact q1,by rw[k2.blk _ (by omega)];exact r1,by rw[←n1];exact q2⟩
theorem boxes4(H:AH)(a b c d:List Value): ∃H',(((H.new 1 a).new 1 b).new 1 c).new 1 d=H'∧Keep H H'∧H'.n=H.n+4∧H'.blk H.n= .rw 1 a∧H'.blk (H.n+1)= .rw 1 b∧H'.blk (H.n+2)= .rw 1 c∧H'.blk (H.n+3)= .rw 1 d:=by obtain⟨H1,e1,k1,n1,q1,r1⟩:=Qz H a b;obtain⟨H2,e2,k2,n2,q2,r2⟩:=Qz H1 c d;exact⟨H2,by rw[e1,e2],k1.trans k2,by omega,by rw[k2.blk _ (by omega)];exact q1,by rw[k2.blk _ (by omega)];exact r1,by rw[←n1];exact q2,by rw[show H.n+3=H1.n+1 by omega];exact r2⟩
theorem Cu{H:AH}{t:TypeId}{n b:Nat}{cs ws:List Value}(ht:Qu Tryz.prog t=some n)(hb:H.blk b= .rw 1 cs)(hc:cs.length=n){v:Value}(hv:v.cells.toList=ws)(hw:ws.length=n)(h1:ws.all one=true): ∃H',Xu Tryz.prog H t (.pointer (some ⟨b,0,none⟩)) v=some H'∧H'.n=H.n∧H'.blk b= .rw 1 ws∧(∀j,j≠b→H'.blk j=H.blk j)∧KAt b H H':=by obtain⟨H',st,q,n1,o,ka,_⟩:=Bi (o:=0) ht hb hv hw (by omega) h1;refine⟨H',st,n1,?_,o,ka⟩;rw[q,List.take_zero,List.nil_append,List.drop_of_length_le (by omega),List.append_nil]
theorem aWhole:Jn Tryz.prog 32=some true:=by kernel_rfl
theorem sWhole:Qu Tryz.prog 32=some 2:=by kernel_rfl
theorem Cv:Ut Tryz.prog 32=some (.agg #[.bool false,.slice none 0 0]):=by kernel_rfl
theorem putW{H:AH}{b:Nat}{p' q' p q:Value}(hb:H.blk b= .rw 1 [p',q'])(h0:p.cells=#[p])(h1:q.cells=#[q])(h2:one p=true)(h3:one q=true): ∃H',Xu Tryz.prog H 32 (.pointer (some ⟨b,0,none⟩)) (.agg #[p,q])=some H'∧H'.n=H.n∧H'.blk b= .rw 1 [p,q]∧(∀j,j≠b→H'.blk j=H.blk j)∧KAt b H H':=Cu sWhole hb rfl (by simp[Value.cells]) rfl (by simp[h2,h3])
theorem Em{H:AH}{b:Nat}{p q:Value}(hb:H.blk b= .rw 1 [p,q]):Yt Tryz.prog H 32 (.pointer (some ⟨b,0,none⟩))=some (.agg #[p,q]):=by unfold Yt;simp only[aWhole,sWhole,AH.read_def,hb];simp[AH.cells_rw' hb,show Nat.ble 2 2=true from rfl]
theorem Ej{H:AH}{b:Nat}{p q:Value}(hb:H.blk b= .rw 1 [p,q]):Yt Tryz.prog H 4 (.pointer (some ⟨b,0,none⟩))=some p:=Yv aBool (AH.cells_rw' hb (by decide)) rfl
theorem Kw{H:AH}{b:Nat}{p q:Value}(hb:H.blk b= .rw 1 [p,q]):Yt Tryz.prog H 30 (.pointer (some ⟨b,1,none⟩))=some q:=Yv aNat (AH.cells_rw' hb (by decide)) rfl
theorem Gt(b:Nat):Xf Tryz.prog 32 (.pointer (some ⟨b,0,none⟩)) 1=some (.pointer (some ⟨b,1,none⟩)):=faAbs b 0
theorem Cq{b:Bool}{v:Value}(hv: ∃a l c,v= .slice a l c):Ub Tryz.prog 32 [(0,.bool b),(1,v)]=some (.agg #[.bool b,v]):=by obtain⟨a,l,c,rfl⟩:=hv;rfl
theorem Zd6{v:Value}(hv: ∃a l c,v= .slice a l c):Ub Tryz.prog 32 [(1,v)]=some (.agg #[.bool false,v]):=by obtain⟨a,l,c,rfl⟩:=hv;rfl
theorem Own.cells1{n:Nat}{H:AH}{v:Value}{xs:List Nat}(h:Own n H v xs):v.cells=#[v]∧one v=true:=h.isSlice
section
attribute [-simp] Int.natCast_add Int.natCast_mul Int.natCast_ediv Int.natCast_emod Int.natCast_pow
attribute [local simp] strip Yg LW' LR gW Ym Xc Yb Xd Yp Xe Zt Zu Zi Yq Yz Yk Xj Zw Yr Zj Zg Xi Xh Qv Ye Xb opd Qc Yn plain Yj Tr.get_set Qb Zq Xx Yd sameKind undef Zv Ys Yw Zm Yc parts unV DW Xl Zz LX Zy
section
variable {H : AH} {u va vb : Value} {xs ys : List Nat} {A B : Nat}
def sg(neg:Bool)(N:Nat):Bool:=neg&&decide (0<N)
theorem Zi7(neg:Bool)(hs:Sl H u xs)(dx:Dig B64 xs)(lx:xs.length≤17592186044416): ∃a H',Zs Tryz.prog Zo 195 [.agg #[.bool neg,u]] H=some (.agg #[.bool (sg neg (dv B64 xs)),a],H')∧Keep H H'∧Own H.n H' a (ds B64 (dv B64 xs)):=by
 obtain⟨N,hN⟩: ∃N,N=dv B64 xs:=⟨_,rfl⟩;rw[←hN];suffices h:CW Tryz.prog Zo 195 [.agg #[.bool neg,u]] H fun v H'=> ∃a,v= .agg #[.bool (sg neg N),a]∧Keep H H'∧Own H.n H' a (ds B64 N) by obtain⟨v,H',hc,a,rfl,k,o⟩:=h;exact⟨a,H',hc,k,o⟩
 obtain⟨H2,e2,k2,n2,q1,q2⟩:=Qz H [.bool neg,u] [.bool false,.slice none 0 0];obtain⟨w,H3,c3,k3,o3⟩:=Kc (hs.keep k2) dx lx;rw[←hN]at o3;have q1':=k3.blk _ (show H.n<H2.n by omega);rw[q1]at q1';have q2':=k3.blk _ (show H.n+1<H2.n by omega);rw[q2]at q2';obtain⟨i1,i2⟩:=o3.cells1;obtain⟨H4,st4,n4,q4,b4,ka4⟩:=putW (p:= .bool (sg neg N)) (q:=w) q2' rfl i1 rfl i2;have k04:Keep H H4:=ka4 H (k2.trans k3) (by omega);have o4:Own H.n H4 w (ds B64 N):=by have hb:But (some (H.n+1)) H3 H4:=⟨n4,fun j _ hj=>b4 j (fun e=>hj (by rw[e]))⟩;exact(o3.but hb (fun c hc hv=>by cases hc;have:=(o3.blk_lo hv).1;omega)).mono (by omega) (.refl _)
 have l3:=o3.sl.len Zm;obtain⟨m,hm⟩: ∃m,m=(ds B64 N).length:=⟨_,rfl⟩;rw[←hm]at l3;have hmN:(0<m)↔0<N:=by rw[hm];exact Uu Yh
 have hbd:=Cq (b:=sg neg N) o3.shape;have hld:=Em q4;obtain⟨S,hS⟩: ∃S,S=sg neg N:=⟨_,rfl⟩;rw[←hS]at st4 hbd hld⊢;refine Zk 16 (by decide) (by decide) Tryz.func195 rfl rfl ?_;apply Zb;intro b1 hb1;apply Za;simp[Value.cells,Cv,Jv,e2];subst hb1;apply Zb;intro b1 hb1;apply Za;simp[Gt,Kw q1,c3];subst hb1;cases neg with
  |false=>
   have:S=false:=by rw[hS];rfl
   subst this;apply Zb;intro b1 hb1;apply Za;simp[Gl,Ej q1',hbd,st4];subst hb1;apply Zn;simp[hld];exact⟨k04,o4⟩
  |true=>
   have hg:Zd .gtr .i64 (m:Int) 0=some (.bool S):=by rw[gtr0,hS];unfold sg;rw[Bool.true_and,decide_eq_decide.mpr hmN]
   apply Zb;intro b1 hb1;apply Za;simp[Gl,Ej q1',l3,hg,hbd,st4];subst hb1;apply Zn;simp[hld];exact⟨k04,o4⟩
end
end
theorem Own.off{n b:Nat}{H H':AH}{w:Value}{xs:List Nat}(o:Own n H w xs)(hb:b<n)(hn:H'.n=H.n)(h: ∀j,j≠b→H'.blk j=H.blk j):Own n H' w xs:=o.but (b:=some b) ⟨hn,fun j _ hj=>h j (fun e=>hj (by rw[e]))⟩ (fun c hc hv=>by cases hc;have:=(o.blk_lo hv).1;omega)
section
attribute [-simp] Int.natCast_add Int.natCast_mul Int.natCast_ediv Int.natCast_emod Int.natCast_pow
attribute [local simp] strip Yg LW' LR gW Ym Xc Yb Xd Yp Xe Zt Zu Zi Yq Yz Yk Xj Zw Yr Zj Zg Xi Xh Qv Ye Xb opd Qc Yn plain Yj Tr.get_set Qb Zq Xx Yd sameKind undef Zv Ys Yw Zm Yc parts unV DW Xl Zz LX Zy
section
variable {H : AH} {u v va vb : Value} {xs ys : List Nat} {A B : Nat}
theorem wfits_call(neg:Bool)(hs:Sl H u xs)(dx:Dig B64 xs)(lx:xs.length≤17592186044416)(hb:Ze (dv B64 xs)≤67108864): ∃a H',Zs Tryz.prog Zo 220 [.agg #[.bool neg,u]] H=some (.tuple #[.agg #[.bool (sg neg (dv B64 xs)),a],.int .i64 0],H')∧Keep H H'∧Own H.n H' a (ds B64 (dv B64 xs)):=by
 obtain⟨N,hN⟩: ∃N,N=dv B64 xs:=⟨_,rfl⟩;suffices h:CW Tryz.prog Zo 220 [.agg #[.bool neg,u]] H fun v H'=> ∃a,v= .tuple #[.agg #[.bool (sg neg N),a],.int .i64 0]∧Keep H H'∧Own H.n H' a (ds B64 N) by obtain⟨v,H',hc,a,rfl,k,o⟩:=h;rw[←hN];exact⟨a,H',hc,k,o⟩
 obtain⟨i1,i2⟩:=Sl.one1 hs|>fun h=>(⟨by obtain⟨a,l,c,rfl⟩:=hs.shape;rfl,h⟩:u.cells=#[u]∧one u=true);obtain⟨H2,e2,k2,n2,q1,q2⟩:=Qz H [.bool neg,u] [.bool false,.slice none 0 0];obtain⟨v0,H0,c0,e0,e0'⟩:=Us (hs.keep k2) dx lx;rw[e0,e0',←hN]at c0;rw[←hN]at hb;obtain⟨w,H3,c3,k3,o3⟩:=Zi7 neg (hs.keep k2) dx lx;rw[←hN]at c3 o3;have q2':=k3.blk _ (show H.n+1<H2.n by omega);rw[q2]at q2';obtain⟨j1,j2⟩:=o3.cells1;obtain⟨S,hS⟩: ∃S,S=sg neg N:=⟨_,rfl⟩;rw[←hS]at c3⊢;obtain⟨H4,st4,n4,q4,b4,ka4⟩:=putW (p:= .bool S) (q:=w) q2' rfl j1 rfl j2;have k04:Keep H H4:=ka4 H (k2.trans k3) (by omega);have o4:=(o3.off (b:=H.n+1) (by omega) n4 b4).mono (show H.n≤H2.n by omega) (.refl _);have hld:=Em q4;obtain⟨L,hL⟩: ∃L,L=Ze N:=⟨_,rfl⟩;rw[←hL]at c0 hb;have g1:Zd .gtr .i64 (L:Int) 67108864=some (.bool false):=by have h:=Uh (k:= .i64) (x:=L) (y:=67108864);rw[decide_eq_false (by omega)]at h;exact h
 refine Zk 11 (by decide) (by decide) Tryz.func220 rfl rfl ?_;apply Zb;intro b1 hb1;apply Za;simp[Value.cells,Cv,Jv,e2];subst hb1;apply Zb;intro b1 hb1;apply Zb;intro b2 hb2;apply Za;simp[Gt,Kw q1,c0,g1];subst hb2;refine Zc (t:=false) (by simp) ?_;apply Zf;subst hb1;apply Zb;intro b1 hb1;apply Za;simp[Em q1,c3,st4];subst hb1;apply Zn;simp[hld];exact⟨k04,o4⟩
theorem Ar(neg:Bool)(hs:Sl H u xs)(dx:Dig B64 xs)(lx:xs.length≤17592186044416)(hb:Ze (dv B64 xs)≤67108864): ∃a H',Zs Tryz.prog Zo 194 [.bool neg,u,.int .i64 0] H=some (.tuple #[.agg #[.bool (sg neg (dv B64 xs)),a],.int .i64 0],H')∧Keep H H'∧Own H.n H' a (ds B64 (dv B64 xs)):=by
 obtain⟨N,hN⟩: ∃N,N=dv B64 xs:=⟨_,rfl⟩;suffices h:CW Tryz.prog Zo 194 [.bool neg,u,.int .i64 0] H fun v H'=> ∃a,v= .tuple #[.agg #[.bool (sg neg N),a],.int .i64 0]∧Keep H H'∧Own H.n H' a (ds B64 N) by obtain⟨v,H',hc,a,rfl,k,o⟩:=h;rw[←hN];exact⟨a,H',hc,k,o⟩
 obtain⟨H2,e2,k2,n2,q2⟩:=Vn H [.bool false,.slice none 0 0];obtain⟨w,H3,c3,k3,o3⟩:=wfits_call neg (hs.keep k2) dx lx hb;rw[←hN]at c3 o3;have q2':=k3.blk _ (show H.n<H2.n by omega);rw[q2]at q2';obtain⟨j1,j2⟩:=o3.cells1;obtain⟨S,hS⟩: ∃S,S=sg neg N:=⟨_,rfl⟩;rw[←hS]at c3⊢;obtain⟨H4,st4,n4,q4,b4,ka4⟩:=putW (p:= .bool S) (q:=w) q2' rfl j1 rfl j2;have k04:Keep H H4:=ka4 H (k2.trans k3) (by omega);have o4:=(o3.off (b:=H.n) (by omega) n4 b4).mono (show H.n≤H2.n by omega) (.refl _);have hld:=Em q4;have hbd:=Cq (b:=neg) (v:=u) hs.shape;refine Zk 18 (by decide) (by decide) Tryz.func194 rfl rfl ?_;apply Zb;intro b1 hb1;apply Za;simp[Value.cells,Cv,Jv,e2];subst hb1;apply Zb;intro b1 hb1;apply Zb;intro b2 hb2;apply Za;simp[Bd];subst hb2;refine Zc (t:=false) (by simp) ?_;apply Zf;subst hb1;apply Zb;intro b1 hb1;apply Za;simp[hbd,c3,st4];subst hb1;apply Zn;simp[hld];exact⟨k04,o4⟩
theorem wOf_call{n:Nat}(hn:n<9223372036854775808): ∃a H',Zs Tryz.prog Zo 196 [.int .i64 (n:Int)] H=some (.agg #[.bool false,a],H')∧Keep H H'∧Own H.n H' a (ds B64 n):=by
 suffices h:CW Tryz.prog Zo 196 [.int .i64 (n:Int)] H fun v H'=> ∃a,v= .agg #[.bool false,a]∧Keep H H'∧Own H.n H' a (ds B64 n) by obtain⟨v,H',hc,a,rfl,k,o⟩:=h;exact⟨a,H',hc,k,o⟩
 have hnB:n<B64:=Nat.lt_trans hn (by decide);obtain⟨H2,e2,k2,n2,q2⟩:=Vn H [.bool false,.slice none 0 0];obtain⟨w,H3,c3,k3,o3⟩:=Fk (H:=H2) hnB;have q2':=k3.blk _ (show H.n<H2.n by omega);rw[q2]at q2';obtain⟨j1,j2⟩:=o3.cells1;obtain⟨H4,st4,n4,q4,b4,ka4⟩:=putW (p:= .bool false) (q:=w) q2' rfl j1 rfl j2;have k04:Keep H H4:=ka4 H (k2.trans k3) (by omega);have o4:=(o3.off (b:=H.n) (by omega) n4 b4).mono (show H.n≤H2.n by omega) (.refl _);have hld:=Em q4;have hbd:=Zd6 (v:=w) o3.shape;have cv:=Fp hnB;refine Zk 14 (by decide) (by decide) Tryz.func196 rfl rfl ?_;apply Zb;intro b1 hb1;apply Za;simp[Value.cells,Cv,Jv,e2];subst hb1;apply Zb;intro b1 hb1;apply Zb;intro b2 hb2;apply Za;simp[lss_neg];subst hb2;refine Zc (t:=false) (by simp) ?_;apply Zf;subst hb1;apply Zb;intro b1 hb1;apply Za;simp[cv,c3,hbd,st4];subst hb1;apply Zn;simp[hld];exact⟨k04,o4⟩
def Ua(neg:Bool)(N:Nat):Int:=if N=0 then 0 else if neg then-1 else 1
theorem wSign_call(neg:Bool)(hs:Sl H u xs)(dx:Dig B64 xs)(lx:xs.length≤17592186044416): ∃H',Zs Tryz.prog Zo 125 [.agg #[.bool neg,u]] H=some (.int .i64 (Ua neg (dv B64 xs)),H')∧Keep H H':=by
 obtain⟨N,hN⟩: ∃N,N=dv B64 xs:=⟨_,rfl⟩;suffices h:CW Tryz.prog Zo 125 [.agg #[.bool neg,u]] H fun v H'=>v= .int .i64 (Ua neg N)∧Keep H H' by obtain⟨v,H',hc,rfl,k⟩:=h;rw[←hN];exact⟨H',hc,k⟩
 obtain⟨S,hS⟩: ∃S,S=Ua neg N:=⟨_,rfl⟩;rw[←hS];unfold Ua at hS;obtain⟨H2,e2,k2,n2,q1⟩:=Vn H [.bool neg,u];obtain⟨v0,H0,c0,e0,e0'⟩:=Us (hs.keep k2) dx lx;rw[e0,e0',←hN]at c0;obtain⟨L,hL⟩: ∃L,L=Ze N:=⟨_,rfl⟩;rw[←hL]at c0;have g1:=Vg (k:= .i64) (x:=L);have hLN:L=0↔N=0:=by rw[hL];exact Fi
 refine Zk 11 (by decide) (by decide) Tryz.func125 rfl rfl ?_;apply Zb;intro b1 hb1;apply Za;simp[Value.cells,Jv,e2];subst hb1;apply Zb;intro b1 hb1;apply Zp;apply Zb;intro b2 hb2;apply Za;simp[Gt,Kw q1,c0,g1];subst hb2;by_cases h0:L=0;·rw[if_pos (hLN.mp h0)]at hS;subst hS;refine Zc (t:=true) (by simp[h0]) ?_;apply Zb;intro b1 hb1;apply Za;simp;subst hb1;apply Zn;simp[Xt,Xp];exact k2
 ·rw[if_neg (fun h=>h0 (hLN.mpr h))]at hS;refine Zc (t:=false) (by simp[h0]) ?_;apply Zb;intro b2 hb2;apply Za;simp[Gl,Ej q1];subst hb2;cases neg with|true=>rw[if_pos rfl]at hS;subst hS;refine Zc (t:=true) (by simp) ?_;apply Zb;intro b1 hb1;apply Za;simp;subst hb1;apply Zn;simp[Xt,Xp];exact k2|false=>rw[if_neg (by decide)]at hS;subst hS;refine Zc (t:=false) (by simp) ?_;apply Zf;subst hb1;apply Zb;intro b1 hb1;apply Za;simp;subst hb1;apply Zn;simp;exact k2
theorem wMul_call(s t:Bool)(ha:Sl H u (ds B64 A))(hb:Sl H v (ds B64 B))(lA:(ds B64 A).length≤Lim)(lB:(ds B64 B).length≤Lim)(h:Ze (A*B)≤67108864): ∃a H',Zs Tryz.prog Zo 143 [.agg #[.bool s,u],.agg #[.bool t,v]] H=some (.tuple #[.agg #[.bool (sg (s !=t) (A*B)),a],.int .i64 0],H')∧Keep H H'∧Own H.n H' a (ds B64 (A*B)):=by
 suffices h:CW Tryz.prog Zo 143 [.agg #[.bool s,u],.agg #[.bool t,v]] H fun v H'=> ∃a,v= .tuple #[.agg #[.bool (sg (s !=t) (A*B)),a],.int .i64 0]∧Keep H H'∧Own H.n H' a (ds B64 (A*B)) by obtain⟨v,H',hc,a,rfl,k,o⟩:=h;exact⟨a,H',hc,k,o⟩
 obtain⟨H2,e2,k2,n2,q1,q2,q3⟩:=Dm H [.bool s,u] [.bool t,v] [.bool false,.slice none 0 0];obtain⟨w,H3,c3,k3,o3⟩:=Bc (ha.keep k2) (hb.keep k2) lA lB h;have q1':=k3.blk _ (show H.n<H2.n by omega);rw[q1]at q1';have q2':=k3.blk _ (show H.n+1<H2.n by omega);rw[q2]at q2';obtain⟨z,H4,c4,k4,o4⟩:=Ar (s !=t) o3.sl (Xg Yh _) (Nat.le_trans (Zl h) (by decide)) (by rw[Xy Yh];exact h);rw[Xy Yh]at c4 o4;have q3':=(k3.trans k4).blk _ (show H.n+2<H2.n by omega);rw[q3]at q3';obtain⟨j1,j2⟩:=o4.cells1;obtain⟨S,hS⟩: ∃S,S=sg (s !=t) (A*B):=⟨_,rfl⟩;rw[←hS]at c4⊢;obtain⟨H5,st5,n5,q5,b5,ka5⟩:=putW (p:= .bool S) (q:=z) q3' rfl j1 rfl j2;have n3:=k3.n;have k05:Keep H H5:=ka5 H ((k2.trans k3).trans k4) (by omega);have o5:=(o4.off (b:=H.n+2) (by omega) n5 b5).mono (show H.n≤H3.n by omega) (.refl _);have hld:=Em q5;have gne:Xx Tryz.prog .neq 4 (.bool s) (.bool t)=some (.bool (s !=t)):=by cases s<;>cases t<;>rfl
 obtain⟨x,hx⟩: ∃x,x=(s !=t):=⟨_,rfl⟩;rw[←hx]at c4 gne;refine Zk 26 (by decide) (by decide) Tryz.func143 rfl rfl ?_;apply Zb;intro b1 hb1;apply Za;simp[Value.cells,Cv,Jv,e2];subst hb1;apply Zb;intro b1 hb1;apply Za;simp[Gt,Kw q1,Kw q2,c3];subst hb1;apply Zb;intro b1 hb1;apply Za;simp[Gl,Ej q1',Ej q2',-Xx,gne,c4,st5];subst hb1;apply Zn;simp[hld];exact⟨k05,o5⟩
end
end
theorem putL{H:AH}{t:TypeId}{n b:Nat}{cs ws:List Value}(ht:Qu Tryz.prog t=some n)(hb:H.blk b= .rw 1 cs)(hc:cs.length=n){v:Value}(hv:v.cells.toList=ws)(hw:ws.length=n)(h1:ws.all one=true): ∃H',Xu Tryz.prog H t (.pointer (some ⟨b,0,none⟩)) v=some H'∧H'.n=H.n∧H'.blk b= .rw 1 ws∧(∀j,j≠b→H'.blk j=H.blk j)∧KAt b H H'∧H'.lw=min H.lw b:=by obtain⟨H',st,q,n1,o,ka,lw⟩:=Bi (o:=0) ht hb hv hw (by omega) h1;refine⟨H',st,n1,?_,o,ka,lw⟩;rw[q,List.take_zero,List.nil_append,List.drop_of_length_le (by omega),List.append_nil]
theorem Gf{H:AH}{t:TypeId}{n b:Nat}{cs ws:List Value}(ht:Qu Tryz.prog t=some n)(hb:H.blk b= .rw 1 cs)(hbn:b<H.n)(hc:cs.length=n){v:Value}(hv:v.cells.toList=ws)(hw:ws.length=n)(h1:ws.all one=true): ∃H2,Xu Tryz.prog H.top t (.pointer (some ⟨b,0,none⟩)) v=some H2∧H2.n=H.n∧H2.lw<H.n∧(low H H2).n=H.n∧(low H H2).blk b= .rw 1 ws∧(∀j,j≠b→(low H H2).blk j=H.blk j)∧KAt b H (low H H2):=by obtain⟨H2,st,n1,q,o,ka,lw⟩:=putL (H:=H.top) ht hb hc hv hw h1;exact⟨H2,st,n1,by rw[lw];show min H.n b<H.n;omega,n1,q,o,low_kat ka⟩
def sumW(s:Bool)(A:Nat)(t:Bool)(B:Nat):Bool×Nat:=if sg s A=sg t B then(sg s A,A+B)else if A<B then(sg t B,B-A)else(sg s A,A-B)
section
attribute [-simp] Int.natCast_add Int.natCast_mul Int.natCast_ediv Int.natCast_emod Int.natCast_pow
attribute [local simp] strip Yg LW' LR gW Ym Xc Yb Xd Yp Xe Zt Zu Zi Yq Yz Yk Xj Zw Yr Zj Zg Xi Xh Qv Ye Xb opd Qc Yn plain Yj Tr.get_set Qb Zq Xx Yd sameKind undef Zv Ys Yw Zm Yc parts unV DW Xl Zz LX Zy
section
variable {H : AH} {u v va vb : Value} {xs ys : List Nat} {A B : Nat}
theorem wAdd_call(s t:Bool)(ha:Sl H u (ds B64 A))(hb:Sl H v (ds B64 B))(lA:(ds B64 A).length≤Lim)(lB:(ds B64 B).length≤Lim)(h:Ze (A+B)≤67108864): ∃a H',Zs Tryz.prog Zo 144 [.agg #[.bool s,u],.agg #[.bool t,v]] H=some (.tuple #[.agg #[.bool (sg (sumW s A t B).1 (sumW s A t B).2),a],.int .i64 0],H')∧Keep H H'∧Own H.n H' a (ds B64 (sumW s A t B).2):=by
 suffices hs:CW Tryz.prog Zo 144 [.agg #[.bool s,u],.agg #[.bool t,v]] H fun v H'=> ∃a,v= .tuple #[.agg #[.bool (sg (sumW s A t B).1 (sumW s A t B).2),a],.int .i64 0]∧Keep H H'∧Own H.n H' a (ds B64 (sumW s A t B).2) by obtain⟨v,H',hc,a,rfl,k,o⟩:=hs;exact⟨a,H',hc,k,o⟩
 obtain⟨H2,e2,k2,n2,q1,q2,q3⟩:=Dm H [.bool s,u] [.bool t,v] [.bool false,.slice none 0 0];have cA:u.cells=#[u]∧one u=true:=⟨by obtain⟨a,l,c,rfl⟩:=ha.shape;rfl,ha.one1⟩;have cB:v.cells=#[v]∧one v=true:=⟨by obtain⟨a,l,c,rfl⟩:=hb.shape;rfl,hb.one1⟩;obtain⟨w1,E1,c1,kE1,o1⟩:=Zi7 s ((ha.keep k2).top) (Xg Yh A) (Nat.le_trans lA (by decide));rw[Xy Yh]at c1 o1;obtain⟨G1,hG1⟩: ∃G1,G1=grown H2 E1:=⟨_,rfl⟩;have kG1:Keep H2 G1:=by rw[hG1];exact Zr (.refl H2) kE1
 have o1':Own H2.n G1 w1 (ds B64 A):=by rw[hG1];exact o1.same (Ya kE1)
 have nE1:H2.n≤E1.n:=kE1.n;obtain⟨w2,E2,c2,kE2,o2⟩:=Zi7 t ((hb.keep (k2.trans kG1)).top) (Xg Yh B) (Nat.le_trans lB (by decide));rw[Xy Yh]at c2 o2;obtain⟨G2,hG2⟩: ∃G2,G2=grown G1 E2:=⟨_,rfl⟩;have kG2:Keep G1 G2:=by rw[hG2];exact Zr (.refl G1) kE2
 have o2':Own G1.n G2 w2 (ds B64 B):=by rw[hG2];exact o2.same (Ya kE2)
 have nE2:G1.n≤E2.n:=kE2.n;have kH2:=kG1.trans kG2;have ng:=kH2.n;have ng1:=kG1.n;have o1'':=o1'.mono (Nat.le_refl _) kG2;have o2'':=o2'.mono ng1 (.refl _);obtain⟨x,hx⟩: ∃x,x=sg s A:=⟨_,rfl⟩;obtain⟨y,hy⟩: ∃y,y=sg t B:=⟨_,rfl⟩;rw[←hx]at c1;rw[←hy]at c2;have r1:G2.blk H.n= .rw 1 [.bool s,u]:=by rw[kH2.blk _ (by omega)];exact q1
 have r2:G2.blk (H.n+1)= .rw 1 [.bool t,v]:=by rw[kH2.blk _ (by omega)];exact q2
 have r3:G2.blk (H.n+2)= .rw 1 [.bool false,.slice none 0 0]:=by rw[kH2.blk _ (by omega)];exact q3
 obtain⟨i1,i2⟩:=o1''.cells1;obtain⟨i3,i4⟩:=o2''.cells1;obtain⟨S1,st1,sn1,slw1,fn1,fb1,fo1,fk1⟩:=Gf (v:= .agg #[.bool x,w1]) (ws:=[.bool x,w1]) sWhole r1 (by omega) rfl (by simp[Value.cells]) rfl (by simp[i2,show one (Value.bool x)=true from rfl]);obtain⟨F1,hF1⟩: ∃F1,F1=low G2 S1:=⟨_,rfl⟩;rw[←hF1]at fn1 fb1 fo1 fk1;have r2':F1.blk (H.n+1)= .rw 1 [.bool t,v]:=by rw[fo1 _ (by omega)];exact r2
 obtain⟨S2,st2,sn2,slw2,fn2,fb2,fo2,fk2⟩:=Gf (v:= .agg #[.bool y,w2]) (ws:=[.bool y,w2]) sWhole r2' (by omega) rfl (by simp[Value.cells]) rfl (by simp[i4,show one (Value.bool y)=true from rfl]);obtain⟨F,hF⟩: ∃F,F=low F1 S2:=⟨_,rfl⟩;rw[←hF]at fn2 fb2 fo2 fk2;have f1:F.blk H.n= .rw 1 [.bool x,w1]:=by rw[fo2 _ (by omega)];exact fb1
 have f3:F.blk (H.n+2)= .rw 1 [.bool false,.slice none 0 0]:=by rw[fo2 _ (by omega),fo1 _ (by omega)];exact r3
 have kF:Keep H F:=fk2 H (fk1 H (k2.trans kH2) (by omega)) (by omega);have p1:Own H2.n F w1 (ds B64 A):=(o1''.off (b:=H.n) (by omega) fn1 fo1).off (b:=H.n+1) (by omega) fn2 fo2;have p2:Own H2.n F w2 (ds B64 B):=(o2''.off (b:=H.n) (by omega) fn1 fo1).off (b:=H.n+1) (by omega) fn2 fo2;have nF:F.n=G2.n:=by rw[fn2,fn1]
 have l2: ∀bits ms,(∀x∈ms,H2.n≤x.2.1)→Yt Tryz.prog (vis G1 bits ms) 32 (.pointer (some ⟨H.n+1,0,none⟩))=some (.agg #[.bool t,v]):=fun bits ms h=>Em (by rw[(Qq kG1 h).blk _ (by omega)];exact q2);refine Zk 57 (by decide) (by decide) Tryz.func144 rfl rfl ?_;apply Zb;intro b1 hb1;apply Za;simp[Value.cells,Cv,Jv,e2];subst hb1;apply Zb;intro b1 hb1;apply Qk (by kernel_rfl);simp;refine Zx (v:= .agg #[.bool s,u]) rfl rfl rfl (by rw[Zh rfl];simp[Em (H:=H2.top) q1]) ?_;simp;refine Yi (v:= .agg #[.bool x,w1]) (H2:=E1) rfl rfl rfl (by rw[Zh rfl];simp[c1]) nE1 (Yl kE1) ?_;rw[←hG1];generalize hms:cond (Nat.blt H2.n E1.n) _ _=ms;have hms1:=Kx hms;simp;refine Zx (v:= .agg #[.bool t,v]) rfl rfl rfl (by simp[l2 _ ms fun x hx=>(hms1 x hx).2]) ?_;simp;refine Yi (v:= .agg #[.bool y,w2]) (H2:=E2) rfl rfl rfl ?_ nE2 (Yl kE2) ?_;·rw[Zh (Xa fun x hx=>by rw[(hms1 x hx).1];kernel_rfl)];simp[c2]
 rw[←hG2];generalize hms2:cond (Nat.blt G1.n E2.n) _ _=ms2;have hms3: ∀bits:Nat,bits.testBit 1=true→bits.testBit 3=true→ ∀x∈ms2,bits.testBit x.1=true:=fun bits b1 b3 x hx=>by rw[←hms2]at hx;cases hb:Nat.blt G1.n E2.n with
  |false=>rw[hb,cond_false]at hx;rw[(hms1 x hx).1];exact b1
  |true=>
   rw[hb,cond_true]at hx;rcases List.mem_cons.mp hx with e|e;·rw[e];exact b3
   ·rw[(hms1 x e).1];exact b1
 simp;refine Xn (v:= .tuple #[]) (H2:=S1) rfl rfl (by kernel_rfl) (Xa (hms3 _ (by kernel_rfl) (by kernel_rfl))) ?_ (by omega) slw1 ?_;·show Ym _ _ _ _ G2.top _=_;simp[st1]
 rw[show({ n:=S1.n,lw:=min G2.lw S1.lw,t:=S1.t } :AH)=F1 from hF1.symm];rw[show Nat.blt G2.n S1.n=false from by rw[sn1];exact Qh _,cond_false];simp;refine Xn (v:= .tuple #[]) (H2:=S2) rfl rfl (by kernel_rfl) (Xa (hms3 _ (by kernel_rfl) (by kernel_rfl))) ?_ (by omega) slw2 ?_;·show Ym _ _ _ _ F1.top _=_;simp[st2]
 rw[show({ n:=S2.n,lw:=min F1.lw S2.lw,t:=S2.t } :AH)=F from hF.symm];simp;subst hb1;clear hms hms1 hms2 hms3;have hsum:sumW s A t B=if x=y then(x,A+B)else if A<B then(y,B-A)else(x,A-B):=by rw[hx,hy];rfl
 obtain⟨Z,hZ⟩: ∃Z,Z=sumW s A t B:=⟨_,rfl⟩;rw[←hZ]at hsum⊢;clear c1 c2 o1 o2 st1 st2;have geq:Xx Tryz.prog .eql 4 (.bool x) (.bool y)=some (.bool (decide (x=y))):=by cases x<;>cases y<;>rfl
 have hbA:Ze A≤67108864:=Nat.le_trans (Yf (by omega)) h;have hbB:Ze B≤67108864:=Nat.le_trans (Yf (by omega)) h;apply Zb;intro b1 hb1;apply Zb;intro b2 hb2;apply Za;simp[Gl,Ej f1,Ej fb2,-Xx,geq];subst hb2;by_cases hxy:x=y
 ·rw[if_pos hxy]at hsum;subst hsum;obtain⟨w,H3,c3,k3,o3⟩:=Zp4 p1.sl p2.sl lA lB h;obtain⟨z,H4,c4,k4,o4⟩:=Ar x o3.sl (Xg Yh _) (Nat.le_trans (Zl h) (by decide)) (by rw[Xy Yh];exact h);rw[Xy Yh]at c4 o4;have g1:H3.blk H.n= .rw 1 [.bool x,w1]:=by rw[k3.blk _ (by omega)];exact f1
  have g3:H4.blk (H.n+2)= .rw 1 [.bool false,.slice none 0 0]:=by rw[(k3.trans k4).blk _ (by omega)];exact f3
  obtain⟨j1,j2⟩:=o4.cells1;obtain⟨S,hS⟩: ∃S,S=sg x (A+B):=⟨_,rfl⟩;rw[←hS]at c4⊢;obtain⟨H5,st5,n5,q5,b5,ka5⟩:=putW (p:= .bool S) (q:=z) g3 rfl j1 rfl j2;have n3:=k3.n;have k05:Keep H H5:=ka5 H ((kF.trans k3).trans k4) (by omega);have o5:=(o4.off (b:=H.n+2) (by omega) n5 b5).mono (show H.n≤H3.n by omega) (.refl _);have hld:=Em q5;refine Zc (t:=true) (by simp[hxy]) ?_;apply Zb;intro b1 hb1;apply Za;simp[Gt,Kw f1,Kw fb2,c3];subst hb1;apply Zb;intro b2 hb2;apply Za;simp[Gl,Ej g1,c4,st5];subst hb2;apply Zn;simp[Xt,hld];exact⟨k05,o5⟩
 ·rw[if_neg hxy]at hsum;refine Zc (t:=false) (by simp[hxy]) ?_;apply Zf;subst hb1;obtain⟨vc,Hc,cc,ec,ec'⟩:=Gv p1.sl p2.sl (Xg Yh A) (Xg Yh B) (Nat.le_trans lA (by decide)) (Nat.le_trans lB (by decide));rw[Xy Yh,Xy Yh]at ec';rw[ec,ec']at cc;have gc:Zd .lss .i64 (Jq A B) 0=some (.bool (decide (A<B))):=by rw[lss0,decide_eq_decide.mpr cmpN_lt]
  refine Qr (fun s'=>s'.k=57∧ ∃(x':Bool) (A' B':Nat) (w w':Value) (y':Value),Z=(x',A'-B')∧B'≤A'∧A'≤A+B∧F.n=s'.H.n∧Keep H s'.H∧s'.H.blk H.n= .rw 1 [.bool x',w]∧s'.H.blk (H.n+1)= .rw 1 [y',w']∧s'.H.blk (H.n+2)= .rw 1 [.bool false,.slice none 0 0]∧Own H2.n s'.H w (ds B64 A')∧Own H2.n s'.H w' (ds B64 B')∧s'.tm.get 2=some (.pointer (some ⟨H.n,0,none⟩))∧s'.tm.get 3=some (.pointer (some ⟨H.n+1,0,none⟩))∧s'.tm.get 4=some (.pointer (some ⟨H.n+2,0,none⟩))) ?_ ?_
  ·intro Q' hQ';apply Zb;intro b2 hb2;apply Za;simp[Gt,Kw f1,Kw fb2,cc,gc];subst hb2;by_cases hAB:A<B
   ·rw[if_pos hAB]at hsum;obtain⟨H3,st3,n3,g1,b3,ka3⟩:=putW (p:= .bool y) (q:=w2) f1 rfl i3 rfl i4;have g2:H3.blk (H.n+1)= .rw 1 [.bool y,w2]:=by rw[b3 _ (by omega)];exact fb2
    obtain⟨H4,st4,n4,g4,b4,ka4⟩:=putW (p:= .bool x) (q:=w1) g2 rfl i1 rfl i2;refine Zc (t:=true) (by simp[hAB]) ?_;apply Za;simp[Em f1,Em fb2,st3,st4];apply hQ';refine⟨rfl,y,B,A,w2,w1,_,hsum,by omega,by omega,by show F.n=H4.n;omega,ka4 H (ka3 H kF (by omega)) (by omega),?_,g4,?_,?_,?_,by simp,by simp,by simp⟩;·show H4.blk H.n=_;rw[b4 _ (by omega)];exact g1
    ·show H4.blk (H.n+2)=_;rw[b4 _ (by omega),b3 _ (by omega)];exact f3
    ·exact(p2.off (b:=H.n) (by omega) n3 b3).off (b:=H.n+1) (by omega) n4 b4
    ·exact(p1.off (b:=H.n) (by omega) n3 b3).off (b:=H.n+1) (by omega) n4 b4
   ·rw[if_neg hAB]at hsum;refine Zc (t:=false) (by simp[hAB]) ?_;apply Zf;apply hQ';exact⟨rfl,x,A,B,w1,w2,_,hsum,by omega,by omega,rfl,kF,f1,fb2,f3,p1,p2,by simp,by simp,by simp⟩
  clear p1 p2 f1 fb2 f3 cc gc hsum;rintro⟨kk,tm,F'⟩ ⟨hkk,x',A',B',w,w',y',hZ',hle,hlA,hnF,kF',f1,f2,f3,p1,p2,t2,t3,t4⟩;simp only at hkk hnF kF' f1 f2 f3 p1 p2 t2 t3 t4;subst hkk;subst hZ';have hbA':Ze A'≤67108864:=Nat.le_trans (Yf hlA) h;have hbB':Ze B'≤67108864:=Nat.le_trans (Yf hle) hbA';have hbD:Ze (A'-B')≤67108864:=Nat.le_trans (Yf (Nat.sub_le _ _)) hbA';obtain⟨w5,H3,c3,k3,o3⟩:=Zp5 p1.sl p2.sl (Zl hbA') (Zl hbB') hle hbA';obtain⟨z,H4,c4,k4,o4⟩:=Ar x' o3.sl (Xg Yh _) (Nat.le_trans (Zl hbD) (by decide)) (by rw[Xy Yh];exact hbD);rw[Xy Yh]at c4 o4;have g1:H3.blk H.n= .rw 1 [.bool x',w]:=by rw[k3.blk _ (by omega)];exact f1
  have g3:H4.blk (H.n+2)= .rw 1 [.bool false,.slice none 0 0]:=by rw[(k3.trans k4).blk _ (by omega)];exact f3
  obtain⟨j1,j2⟩:=o4.cells1;obtain⟨S,hS⟩: ∃S,S=sg x' (A'-B'):=⟨_,rfl⟩;rw[←hS]at c4;obtain⟨H5,st5,n5,q5,b5,ka5⟩:=putW (p:= .bool S) (q:=z) g3 rfl j1 rfl j2;have n3:=k3.n;have k05:Keep H H5:=ka5 H ((kF'.trans k3).trans k4) (by omega);have o5:=(o4.off (b:=H.n+2) (by omega) n5 b5).mono (show H.n≤H3.n by omega) (.refl _);have hld:=Em q5;apply Zb;intro b1 hb1;apply Za;simp[t2,t3,Gt,Kw f1,Kw f2,c3];subst hb1;apply Zb;intro b1 hb1;apply Za;simp[t2,t4,Gl,Ej g1,c4,st5];subst hb1;apply Zn;simp[t4,hld,hS];exact⟨k05,o5⟩
end
end
theorem aRatio:Jn Tryz.prog 34=some true:=by kernel_rfl
theorem Uz:Qu Tryz.prog 34=some 3:=by kernel_rfl
theorem Qy:Ut Tryz.prog 34=some (.agg #[.bool false,.slice none 0 0,.slice none 0 0]):=by kernel_rfl
theorem Fw(b:Nat):Xf Tryz.prog 34 (.pointer (some ⟨b,0,none⟩)) 0=some (.pointer (some ⟨b,0,none⟩)):=faN b 0
theorem faQ1(b:Nat):Xf Tryz.prog 34 (.pointer (some ⟨b,0,none⟩)) 1=some (.pointer (some ⟨b,2,none⟩)):=faD b 0
theorem Xk{H:AH}{b:Nat}{p q r:Value}(hb:H.blk b= .rw 1 [p,q,r]):Yt Tryz.prog H 34 (.pointer (some ⟨b,0,none⟩))=some (.agg #[p,q,r]):=by unfold Yt;simp only[aRatio,Uz,AH.read_def,hb];simp[AH.cells_rw' hb,show Nat.ble 3 3=true from rfl]
theorem loadQW{H:AH}{b:Nat}{p q r:Value}(hb:H.blk b= .rw 1 [p,q,r]):Yt Tryz.prog H 32 (.pointer (some ⟨b,0,none⟩))=some (.agg #[p,q]):=by unfold Yt;simp only[aWhole,sWhole,AH.read_def,hb];simp[AH.cells_rw' hb,show Nat.ble 2 3=true from rfl]
theorem Zb8{H:AH}{b:Nat}{p q r:Value}(hb:H.blk b= .rw 1 [p,q,r]):Yt Tryz.prog H 4 (.pointer (some ⟨b,0,none⟩))=some p:=Yv aBool (AH.cells_rw' hb (by decide)) rfl
theorem Ud{H:AH}{b:Nat}{p q r:Value}(hb:H.blk b= .rw 1 [p,q,r]):Yt Tryz.prog H 30 (.pointer (some ⟨b,1,none⟩))=some q:=Yv aNat (AH.cells_rw' hb (by decide)) rfl
theorem Uy{H:AH}{b:Nat}{p q r:Value}(hb:H.blk b= .rw 1 [p,q,r]):Yt Tryz.prog H 30 (.pointer (some ⟨b,2,none⟩))=some r:=Yv aNat (AH.cells_rw' hb (by decide)) rfl
theorem gcd_le_l{A B:Nat}(hA:0<A):Nat.gcd A B≤A:=Nat.le_of_dvd hA (Nat.gcd_dvd_left A B)
section
attribute [-simp] Int.natCast_add Int.natCast_mul Int.natCast_ediv Int.natCast_emod Int.natCast_pow
attribute [local simp] strip Yg LW' LR gW Ym Xc Yb Xd Yp Xe Zt Zu Zi Yq Yz Yk Xj Zw Yr Zj Zg Xi Xh Qv Ye Xb opd Qc Yn plain Yj Tr.get_set Qb Zq Xx Yd sameKind undef Zv Ys Yw Zm Yc parts unV DW Xl Zz LX Zy
section
variable {H : AH} {u v va vb : Value} {xs ys : List Nat} {A B : Nat}
theorem Vc(u:Value)(H:AH):Zs Tryz.prog Zo 140 [u,.int .i64 0] H=some (u,H):=by
 suffices h:CW Tryz.prog Zo 140 [u,.int .i64 0] H fun v H'=>v=u∧H'=H by obtain⟨v,H',hc,rfl,rfl⟩:=h;exact hc
 refine Zk 11 (by decide) (by decide) Tryz.func140 rfl rfl ?_;apply Zb;intro b1 hb1;apply Za;simp;subst hb1;apply Zb;intro b1 hb1;apply Zb;intro b2 hb2;apply Za;simp[Bd];subst hb2;refine Zc (t:=false) (by simp) ?_;apply Zf;subst hb1;apply Zb;intro b1 hb1;apply Za;simp;subst hb1;apply Zn;simp
theorem parts_callA(neg:Bool)(ha:Sl H u xs)(hb:Sl H v ys)(dx:Dig B64 xs)(dy:Dig B64 ys)(lx:xs.length≤17592186044416)(ly:ys.length≤17592186044416)(eA:dv B64 xs=A)(eB:dv B64 ys=B)(hA:Ze A≤67108864)(hB:Ze B≤67108864)(hB0:0<B): ∃p q H',Zs Tryz.prog Zo 124 [.agg #[.bool neg,u,v]] H=some (.tuple #[.bool (Yo neg A B).1,p,q],H')∧Keep H H'∧Own H.n H' p (ds B64 (Yo neg A B).2.1)∧Own H.n H' q (ds B64 (Yo neg A B).2.2)∧Uq p q:=by
 obtain⟨r,hr⟩: ∃r,r=Yo neg A B:=⟨_,rfl⟩;rw[←hr];unfold Yo at hr;suffices hs:CW Tryz.prog Zo 124 [.agg #[.bool neg,u,v]] H fun v H'=> ∃p q,v= .tuple #[.bool r.1,p,q]∧Keep H H'∧Own H.n H' p (ds B64 r.2.1)∧Own H.n H' q (ds B64 r.2.2)∧Uq p q by obtain⟨v,H',hc,p,q,rfl,k,o⟩:=hs;exact⟨p,q,H',hc,k,o⟩
 have lA:=Zl hA;have lB:=Zl hB;obtain⟨H2,e2,k2,n2,q1⟩:=Vn H [.bool neg,u,v];obtain⟨w1,E1,c1,kE1,o1⟩:=Kc ((ha.keep k2).top) dx lx;rw[eA]at o1;obtain⟨G1,hG1⟩: ∃G1,G1=grown H2 E1:=⟨_,rfl⟩;have kG1:Keep H2 G1:=by rw[hG1];exact Zr (.refl H2) kE1
 have o1':Own H2.n G1 w1 (ds B64 A):=by rw[hG1];exact o1.same (Ya kE1)
 have nE1:H2.n≤E1.n:=kE1.n;obtain⟨w2,E2,c2,kE2,o2⟩:=Kc ((hb.keep (k2.trans kG1)).top) dy ly;rw[eB]at o2;obtain⟨G2,hG2⟩: ∃G2,G2=grown G1 E2:=⟨_,rfl⟩;have kG2:Keep G1 G2:=by rw[hG2];exact Zr (.refl G1) kE2
 have o2':Own G1.n G2 w2 (ds B64 B):=by rw[hG2];exact o2.same (Ya kE2)
 have nE2:G1.n≤E2.n:=kE2.n;have kH2:=kG1.trans kG2;have ng:=kH2.n;have ng1:=kG1.n;have o1'':=o1'.mono (Nat.le_refl _) kG2;have o2'':=o2'.mono ng1 (.refl _);have l2: ∀bits ms,(∀x∈ms,H2.n≤x.2.1)→Yt Tryz.prog (vis G1 bits ms) 30 (.pointer (some ⟨H.n,2,none⟩))=some v:=fun bits ms h=>Uy (by rw[(Qq kG1 h).blk _ (by omega)];exact q1);have q1':G2.blk H.n= .rw 1 [.bool neg,u,v]:=by rw[kH2.blk _ (by omega)];exact q1
 have kF:=k2.trans kH2;refine Zk 42 (by decide) (by decide) Tryz.func124 rfl rfl ?_;apply Zb;intro b1 hb1;apply Za;simp[Value.cells,Jv,e2];subst hb1;apply Zb;intro b1 hb1;apply Qk (by kernel_rfl);simp[Fw,Gt];refine Zx (v:=u) rfl rfl rfl (by rw[Zh rfl];simp[Ud (H:=H2.top) q1]) ?_;simp;refine Yi (v:=w1) (H2:=E1) rfl rfl rfl (by rw[Zh rfl];simp[c1]) nE1 (Yl kE1) ?_;rw[←hG1];generalize hms:cond (Nat.blt H2.n E1.n) _ _=ms;have hms1:=Kx hms;simp[faQ1];refine Zx (v:=v) rfl rfl rfl (by simp[l2 _ ms fun x hx=>(hms1 x hx).2]) ?_;simp;refine Yi (v:=w2) (H2:=E2) rfl rfl rfl ?_ nE2 (Yl kE2) ?_;·rw[Zh (Xa fun x hx=>by rw[(hms1 x hx).1];kernel_rfl)];simp[c2]
 rw[←hG2];simp;subst hb1;clear hms hms1;have l1:=o1''.sl.len Zm;have l2':=o2''.sl.len Zm;obtain⟨m1,hm1⟩: ∃m,m=(ds B64 A).length:=⟨_,rfl⟩;obtain⟨m2,hm2⟩: ∃m,m=(ds B64 B).length:=⟨_,rfl⟩;rw[←hm1]at l1;rw[←hm2]at l2';have z1:m1=0↔A=0:=by rw[hm1];exact Vh Yh
 have z2:m2=0↔B=0:=by rw[hm2];exact Vh Yh
 have g1:=Vg (k:= .i64) (x:=m1);have g2:Zd .eql .i64 (m2:Int) 0=some (.bool false):=by rw[Vg,decide_eq_false (by omega)]
 apply Zb;intro b1 hb1;apply Zb;intro b2 hb2;apply Za;simp[l2',g2];subst hb2;refine Zc (t:=false) (by simp) ?_;apply Zf;subst hb1;apply Zb;intro b1 hb1;apply Zb;intro b2 hb2;apply Za;simp[l1,g1];subst hb2;by_cases h0:m1=0;·rw[if_pos (z1.mp h0)]at hr;subst hr;obtain⟨w3,H3,c3,k3,o3⟩:=Fk (H:=G2) (x:=1) (by decide);have c3:Zs Tryz.prog Zo 164 [.int .u64 1] G2=some (w3,H3):=c3;refine Zc (t:=true) (by simp[h0]) ?_;apply Zb;intro b2 hb2;apply Za;simp[c3];subst hb2;apply Zn;simp[Xt];exact⟨_,_,⟨rfl,rfl⟩,kF.trans k3,by rw[Jd];exact .nil,o3.mono kF.n (.refl _),fun b hb=>by cases hb⟩
 ·have hA0:0<A:=by have: ¬A=0:=fun h=>h0 (z1.mpr h);omega
  rw[if_neg (by omega)]at hr;subst hr;refine Zc (t:=false) (by simp[h0]) ?_;apply Zf;subst hb1;obtain⟨w3,H3,c3,k3,o3⟩:=Zb4 o1''.sl o2''.sl lA lB;have hg0:0<Nat.gcd A B:=gcd_pos hA0;have hgA:=gcd_le_l (B:=B) hA0;have lg:=Zl (Nat.le_trans (Yf hgA) hA);apply Zb;intro b1 hb1;apply Za;simp[c3];subst hb1;obtain⟨w4,E4,c4,kE4,o4⟩:=Kn ((o1''.sl.keep k3).top) (o3.sl.top) lA lg hg0 hA;obtain⟨G4,hG4⟩: ∃G4,G4=grown H3 E4:=⟨_,rfl⟩;have kG4:Keep H3 G4:=by rw[hG4];exact Zr (.refl H3) kE4
  have o4':Own H3.n G4 w4 (ds B64 (A/Nat.gcd A B)):=by rw[hG4];exact o4.same (Ya kE4)
  have nE4:H3.n≤E4.n:=kE4.n;obtain⟨w5,E5,c5,kE5,o5⟩:=Kn (((o2''.sl.keep k3).keep kG4).top) ((o3.sl.keep kG4).top) lB lg hg0 hB;obtain⟨G5,hG5⟩: ∃G5,G5=grown G4 E5:=⟨_,rfl⟩;have kG5:Keep G4 G5:=by rw[hG5];exact Zr (.refl G4) kE5
  have o5':Own G4.n G5 w5 (ds B64 (B/Nat.gcd A B)):=by rw[hG5];exact o5.same (Ya kE5)
  have nE5:G4.n≤E5.n:=kE5.n;have r1:H3.blk H.n= .rw 1 [.bool neg,u,v]:=by rw[k3.blk _ (by omega)];exact q1'
  have k35:=kG4.trans kG5;apply Zb;intro b1 hb1;apply Qk (by kernel_rfl);simp[Fw,Gl];refine Zx (v:= .bool neg) rfl rfl rfl (by rw[Zh rfl];simp[Zb8 (H:=H3.top) r1]) ?_;simp;refine Yi (v:= .tuple #[w4,.int .i64 0]) (H2:=E4) rfl rfl rfl (by rw[Zh rfl];simp[c4]) nE4 (Yl kE4) ?_;rw[←hG4];generalize hms:cond (Nat.blt H3.n E4.n) _ _=ms;have hms1:=Kx hms;simp;refine Zx (v:=w4) rfl rfl rfl (by simp[Vc]) ?_;simp;refine Yi (v:= .tuple #[w5,.int .i64 0]) (H2:=E5) rfl rfl rfl ?_ nE5 (Yl kE5) ?_;·rw[Zh (Xa fun x hx=>by rw[(hms1 x hx).1];kernel_rfl)];simp[c5]
  rw[←hG5];simp;refine Zx (v:=w5) rfl rfl rfl (by simp[Vc]) ?_;simp;subst hb1;apply Zn;simp;exact⟨_,_,⟨rfl,rfl⟩,(kF.trans k3).trans k35,(o4'.mono (by have:=k3.n;omega) kG5),o5'.mono (by have:=k3.n;have:=kG4.n;omega) (.refl _),fun b hb e=>by have h1:=(o4'.blk_lo hb).2;have h2:=(o5'.blk_lo e).1;omega⟩
end
end
theorem Cp{x:Bool}{p q:Value}(hp: ∃a l c,p= .slice a l c)(hq: ∃a l c,q= .slice a l c):Ub Tryz.prog 34 [(0,.agg #[.bool x,p]),(1,q)]=some (.agg #[.bool x,p,q]):=by obtain⟨a,l,c,rfl⟩:=hp;obtain⟨a',l',c',rfl⟩:=hq;rfl
theorem Ec{H:AH}{b:Nat}{p' q' r' p q r:Value}(hb:H.blk b= .rw 1 [p',q',r'])(h0:p.cells=#[p])(h1:q.cells=#[q])(h1':r.cells=#[r])(h2:one p=true)(h3:one q=true)(h3':one r=true): ∃H',Xu Tryz.prog H 34 (.pointer (some ⟨b,0,none⟩)) (.agg #[p,q,r])=some H'∧H'.n=H.n∧H'.blk b= .rw 1 [p,q,r]∧(∀j,j≠b→H'.blk j=H.blk j)∧KAt b H H':=Cu Uz hb rfl (by simp[Value.cells]) rfl (by simp[h2,h3,h3'])
theorem Own.trio{n:Nat}{H:AH}{v:Value}{xs:List Nat}(h:Own n H v xs):v.cells=#[v]∧one v=true∧ ∃a l c,v= .slice a l c:=⟨h.cells1.1,h.cells1.2,h.shape⟩
theorem sErr:Qu Tryz.prog 23=some 1:=by kernel_rfl
theorem aErr:Jn Tryz.prog 23=some false:=by kernel_rfl
theorem zErr:Ut Tryz.prog 23=some (.int .i64 0):=by kernel_rfl
theorem nilEq:Xx Tryz.prog .eql 20 .nilIface .nilIface=some (.bool true):=by kernel_rfl
section
attribute [-simp] Int.natCast_add Int.natCast_mul Int.natCast_ediv Int.natCast_emod Int.natCast_pow
attribute [local simp] strip Yg LW' LR gW Ym Xc Yb Xd Yp Xe Zt Zu Zi Yq Yz Yk Xj Zw Yr Zj Zg Xi Xh Qv Ye Xb opd Qc Yn plain Yj Tr.get_set Qb Zq Xx Yd sameKind undef Zv Ys Yw Zm Yc parts unV DW Xl Zz LX Zy
section
variable {H : AH} {u v va vb : Value} {xs ys : List Nat} {A B : Nat}
theorem Zq3(neg:Bool)(ha:Sl H u xs)(hb:Sl H v ys)(dx:Dig B64 xs)(dy:Dig B64 ys)(lx:xs.length≤17592186044416)(ly:ys.length≤17592186044416)(eA:dv B64 xs=A)(eB:dv B64 ys=B)(hA:Ze A≤67108864)(hB:Ze B≤67108864)(hB0:0<B): ∃p q H',Zs Tryz.prog Zo 84 [.agg #[.bool neg,u,v]] H=some (.agg #[.bool (Yo neg A B).1,p,q],H')∧Keep H H'∧Own H.n H' p (ds B64 (Yo neg A B).2.1)∧Own H.n H' q (ds B64 (Yo neg A B).2.2)∧Uq p q:=by
 obtain⟨r,hr⟩: ∃r,r=Yo neg A B:=⟨_,rfl⟩;suffices hs:CW Tryz.prog Zo 84 [.agg #[.bool neg,u,v]] H fun v H'=> ∃p q,v= .agg #[.bool r.1,p,q]∧Keep H H'∧Own H.n H' p (ds B64 r.2.1)∧Own H.n H' q (ds B64 r.2.2)∧Uq p q by obtain⟨v,H',hc,p,q,rfl,k,o⟩:=hs;rw[←hr];exact⟨p,q,H',hc,k,o⟩
 obtain⟨H2,e2,k2,n2,q1,q2⟩:=Qz H [.bool neg,u,v] [.bool false,.slice none 0 0,.slice none 0 0];obtain⟨p,q,H3,c3,k3,o3,o4,ap⟩:=parts_callA neg (ha.keep k2) (hb.keep k2) dx dy lx ly eA eB hA hB hB0;rw[←hr]at c3 o3 o4;have q2':=k3.blk _ (show H.n+1<H2.n by omega);rw[q2]at q2';obtain⟨i1,i2,i3⟩:=o3.trio;obtain⟨j1,j2,j3⟩:=o4.trio;obtain⟨S,N,D⟩:=r;simp only at c3 o3 o4⊢;obtain⟨H4,st4,n4,q4,b4,ka4⟩:=Ec (p:= .bool S) (q:=p) (r:=q) q2' rfl i1 j1 rfl i2 j2;have k04:Keep H H4:=ka4 H (k2.trans k3) (by omega);have o5:=(o3.off (b:=H.n+1) (by omega) n4 b4).mono (show H.n≤H2.n by omega) (.refl _);have o6:=(o4.off (b:=H.n+1) (by omega) n4 b4).mono (show H.n≤H2.n by omega) (.refl _);have hld:=Xk q4;refine Zk 17 (by decide) (by decide) Tryz.func84 rfl rfl ?_;apply Zb;intro b1 hb1;apply Za;simp[Value.cells,Qy,Jv,e2];subst hb1;apply Zb;intro b1 hb1;apply Za;simp[Xk q1,c3];subst hb1;apply Zb;intro b1 hb1;apply Za;simp[Cq (b:=S) i3,Cp (x:=S) i3 j3,st4];subst hb1;apply Zn;simp[hld];exact⟨_,_,⟨rfl,rfl⟩,k04,o5,o6,ap⟩
theorem Zq4(neg:Bool)(ha:Sl H u xs)(hb:Sl H v ys)(dx:Dig B64 xs)(dy:Dig B64 ys)(lx:xs.length≤17592186044416)(ly:ys.length≤17592186044416)(eA:dv B64 xs=A)(eB:dv B64 ys=B)(hA:Ze A≤67108864)(hB:Ze B≤67108864)(hB0:0<B): ∃p q H',Zs Tryz.prog Zo 84 [.agg #[.bool neg,u,v]] H=some (.agg #[.bool (Yo neg A B).1,p,q],H')∧Keep H H'∧Own H.n H' p (ds B64 (Yo neg A B).2.1)∧Own H.n H' q (ds B64 (Yo neg A B).2.2):=by obtain⟨p,q,H',h1,h2,h3,h4,_⟩:=Zq3 neg ha hb dx dy lx ly eA eB hA hB hB0;exact⟨p,q,H',h1,h2,h3,h4⟩
theorem Zi1(neg:Bool)(ha:Sl H u (ds B64 A))(hb:Sl H v (ds B64 B))(hA:Ze A≤67108864)(hB:Ze B≤67108864)(hB0:0<B): ∃p q H',Zs Tryz.prog Zo 84 [.agg #[.bool neg,u,v]] H=some (.agg #[.bool (Yo neg A B).1,p,q],H')∧Keep H H'∧Own H.n H' p (ds B64 (Yo neg A B).2.1)∧Own H.n H' q (ds B64 (Yo neg A B).2.2):=Zq4 neg ha hb (Xg Yh A) (Xg Yh B) (Nat.le_trans (Zl hA) (by decide)) (Nat.le_trans (Zl hB) (by decide)) (Xy Yh A) (Xy Yh B) hA hB hB0
def Gu(p q r:Value):Prop:=(∃b,p= .bool b)∧(∃a l c,q= .slice a l c)∧ ∃a l c,r= .slice a l c
theorem Vx{p q r:Value}(ht:Gu p q r)(e:Int)(H:AH): ∃H',Zs Tryz.prog Zo 83 [.nilIface,.agg #[p,q,r],.int .i64 e] H=some (.tuple #[.agg #[p,q,r],.int .i64 e],H')∧Keep H H':=by
 obtain⟨⟨b,rfl⟩,⟨a1,l1,c1,rfl⟩,⟨a2,l2,c2,rfl⟩⟩:=ht;suffices h:CW Tryz.prog Zo 83 [.nilIface,.agg #[.bool b,.slice a1 l1 c1,.slice a2 l2 c2],.int .i64 e] H fun v H'=>v= .tuple #[.agg #[.bool b,.slice a1 l1 c1,.slice a2 l2 c2],.int .i64 e]∧Keep H H' by obtain⟨v,H',hc,rfl,k⟩:=h;exact⟨H',hc,k⟩
 obtain⟨H2,e2,k2,n2,q1,q2⟩:=Qz H [.bool b,.slice a1 l1 c1,.slice a2 l2 c2] [.bool false,.slice none 0 0,.slice none 0 0];obtain⟨H4,st4,n4,q4,b4,ka4⟩:=Ec (p:= .bool b) (q:= .slice a1 l1 c1) (r:= .slice a2 l2 c2) q2 rfl rfl rfl rfl rfl rfl;have k04:Keep H H4:=ka4 H k2 (by omega);have hld:=Xk q4;refine Zk 26 (by decide) (by decide) Tryz.func83 rfl rfl ?_;apply Zb;intro b1 hb1;apply Za;simp[Value.cells,Qy,Jv,e2];subst hb1;apply Zb;intro b1 hb1;apply Zb;intro b2 hb2;apply Za;simp[-Xx,nilEq];subst hb2;refine Zc (t:=true) (by simp) ?_;apply Zb;intro b2 hb2;apply Za;simp[Xk q1,st4];subst hb2;apply Zn;simp[Xt,hld];exact k04
end
section
variable {H : AH} {u v va vb : Value} {xs ys : List Nat} {A B : Nat}
def En(m:Nat)(H H':AH):Prop:=H.n≤H'.n∧(∀j,j<H.n→H'.blk j=H.blk j)∧KAt m H H'
theorem norm1_cwd{b2 b3:Nat}{p q r:Value}{e:Int}{K:AH→Prop}(ht:Gu p q r)(hq:H.blk b2= .rw 1 [p,q,r])(he:H.blk b3= .rw 1 [.int .i64 e])(h2:b2<H.n)(h3:b3<H.n)(hlt:b2<b3)(hK: ∀H',En b2 H H'→K H'):CWD Tryz.prog Zo 82 [.pointer (some ⟨b2,0,none⟩),.pointer (some ⟨b3,0,none⟩)] .nilIface H K:=by
 obtain⟨E1,c1,kE1⟩:=Vx ht e H.top;obtain⟨G1,hG1⟩: ∃G1,G1=grown H E1:=⟨_,rfl⟩;have kG1:Keep H G1:=by rw[hG1];exact Zr (.refl H) kE1
 have nE1:H.n≤E1.n:=kE1.n;have nG1:=kG1.n;have r2:G1.blk b2= .rw 1 [p,q,r]:=by rw[kG1.blk _ h2];exact hq
 have r3:G1.blk b3= .rw 1 [.int .i64 e]:=by rw[kG1.blk _ h3];exact he
 have hcells:(Value.agg #[p,q,r]).cells.toList=[p,q,r]∧[p,q,r].all one=true:=by obtain⟨⟨b,rfl⟩,⟨a1,l1,c1,rfl⟩,⟨a2,l2,c2,rfl⟩⟩:=ht;exact⟨rfl,rfl⟩
 obtain⟨S1,st1,sn1,slw1,fn1,fb1,fo1,fk1⟩:=Gf (v:= .agg #[p,q,r]) (ws:=[p,q,r]) Uz r2 (by omega) rfl hcells.1 rfl hcells.2;obtain⟨F1,hF1⟩: ∃F1,F1=low G1 S1:=⟨_,rfl⟩;rw[←hF1]at fn1 fb1 fo1 fk1;have r3':F1.blk b3= .rw 1 [.int .i64 e]:=by rw[fo1 _ (by omega)];exact r3
 obtain⟨S2,st2,sn2,slw2,fn2,fb2,fo2,fk2⟩:=Gf (v:= .int .i64 e) (ws:=[.int .i64 e]) sErr r3' (by omega) rfl rfl rfl rfl;obtain⟨F,hF⟩: ∃F,F=low F1 S2:=⟨_,rfl⟩;rw[←hF]at fn2 fb2 fo2 fk2;have hS:En b2 H F:=by
  refine⟨by omega,fun j hj=>?_,fun H0 k hn=>fk2 H0 (fk1 H0 (k.trans kG1) hn) (by omega)⟩;by_cases j3:j=b3;·subst j3;rw[fb2];exact he.symm
  ·rw[fo2 _ j3];by_cases j2:j=b2;·subst j2;rw[fb1];exact hq.symm
   ·rw[fo1 _ j2];exact kG1.blk _ hj
 have l1:=Xk (H:=H.top) hq;have l2:Yt Tryz.prog H.top 23 (.pointer (some ⟨b3,0,none⟩))=some (.int .i64 e):=Yv aErr (AH.cells_rw' (H:=H.top) he (by decide)) rfl;refine Vl 9 Tryz.func82 rfl rfl ?_;apply Vm (by kernel_rfl);apply Qk (by kernel_rfl);simp[Vr,isRec];refine Zx (v:= .agg #[p,q,r]) rfl rfl rfl (by rw[Zh rfl];simp[l1]) ?_;simp;refine Zx (v:= .int .i64 e) rfl rfl rfl (by rw[Zh rfl];simp[l2]) ?_;simp;refine Yi (v:= .tuple #[.agg #[p,q,r],.int .i64 e]) (H2:=E1) rfl rfl rfl (by rw[Zh rfl];simp[c1]) nE1 (Yl kE1) ?_;rw[←hG1];generalize hms:cond (Nat.blt H.n E1.n) _ _=ms;have hms1:=Kx hms;simp;refine Xn (v:= .tuple #[]) (H2:=S1) rfl rfl (by kernel_rfl) (Xa fun x hx=>by rw[(hms1 x hx).1];kernel_rfl) ?_ (by omega) slw1 ?_;·show Ym _ _ _ _ G1.top _=_;simp[st1]
 rw[show({ n:=S1.n,lw:=min G1.lw S1.lw,t:=S1.t } :AH)=F1 from hF1.symm];rw[show Nat.blt G1.n S1.n=false from by rw[sn1];exact Qh _,cond_false];simp;refine Xn (v:= .tuple #[]) (H2:=S2) rfl rfl (by kernel_rfl) (Xa fun x hx=>by rw[(hms1 x hx).1];kernel_rfl) ?_ (by omega) slw2 ?_;·show Ym _ _ _ _ F1.top _=_;simp[st2]
 rw[show({ n:=S2.n,lw:=min F1.lw S2.lw,t:=S2.t } :AH)=F from hF.symm];simp;exact hK F hS
end
end
theorem Vt(k:Nat){P:Program}{C:Cfg}{f:FuncId}{fn:Func}{c a:Code}{ops:Array Oper}{o1:Oper}{dc:Call}{rest:Code}{args:List Value}{H:AH}{R:Value→AH→Prop}(ha:Nat.beq f C.add=false)(hs:Nat.beq f C.sub=false)(hf:P.funcs[f]?=some fn)(hb:fn.body=some c)(hk:args.length+(fn.ntmps-args.length)=k)(hd:Bp c=some (a,ops,o1,dc,rest))(h: ∀b,b=rest→W P C a { k:=k,tm:=Qb 0 args .nil,H:=H } fun ex s=>ex= .norm∧LW' P C s.k (Yg ops [o1]) s.tm s.H fun tm2 H2=> ∃g dargs,Qw C tm2 dc=some (g,dargs)∧W P C b ⟨s.k,tm2,H2⟩ fun ex3 s3=> ∃rv,Kh ex3=some rv∧CWD P C g dargs rv s3.H fun H4=> ∃vs,Zv P ⟨s3.k,s3.tm,H4⟩ fn.results.toList=some vs∧R (Yw vs) H4):CW P C f args H R:=CW_defer k ha hs hf hb hk hd (h rest rfl)
theorem putE{H:AH}{b:Nat}{x e:Int}(hb:H.blk b= .rw 1 [.int .i64 x]): ∃H',Xu Tryz.prog H 23 (.pointer (some ⟨b,0,none⟩)) (.int .i64 e)=some H'∧H'.n=H.n∧H'.blk b= .rw 1 [.int .i64 e]∧(∀j,j≠b→H'.blk j=H.blk j)∧KAt b H H':=Cu sErr hb rfl rfl rfl rfl
theorem Fy{H:AH}{b:Nat}{e:Int}(hb:H.blk b= .rw 1 [.int .i64 e]):Yt Tryz.prog H 23 (.pointer (some ⟨b,0,none⟩))=some (.int .i64 e):=Yv aErr (AH.cells_rw' hb (by decide)) rfl
theorem En.own{m n:Nat}{H H':AH}(h:En m H H'){v:Value}{xs:List Nat}(o:Own n H v xs):Own n H' v xs:=o.mod (b:=none) ⟨h.1,fun j hj _=>h.2.1 j hj⟩ (fun c hc=>by cases hc)
theorem En.keep{m:Nat}{H0 H H':AH}(h:En m H H')(k:Keep H0 H)(hn:H0.n≤m):Keep H0 H':=h.2.2 H0 k hn
section
attribute [-simp] Int.natCast_add Int.natCast_mul Int.natCast_ediv Int.natCast_emod Int.natCast_pow
attribute [local simp] strip Yg LW' LR gW Ym Xc Yb Xd Yp Xe Zt Zu Zi Yq Yz Yk Xj Zw Yr Zj Zg Xi Xh Qv Ye Xb opd Qc Yn plain Yj Tr.get_set Qb Zq Xx Yd sameKind undef Zv Ys Yw Zm Yc parts unV DW Xl Zz LX Zy
attribute [local simp] Qi Qw
section
variable {H : AH} {u v va vb : Value} {xs ys : List Nat} {A B : Nat}
theorem Az(neg:Bool)(ha:Sl H u xs)(hb:Sl H v ys)(dx:Dig B64 xs)(dy:Dig B64 ys)(lx:xs.length≤17592186044416)(ly:ys.length≤17592186044416)(eA:dv B64 xs=A)(eB:dv B64 ys=B)(hA:Ze A≤67108864)(hB:Ze B≤67108864)(hB0:0<B): ∃p q H',Zs Tryz.prog Zo 53 [.agg #[.bool neg,u,v]] H=some (.tuple #[.agg #[.bool (Yo neg A B).1,p,q],.int .i64 0],H')∧Keep H H'∧Own H.n H' p (ds B64 (Yo neg A B).2.1)∧Own H.n H' q (ds B64 (Yo neg A B).2.2):=by
 obtain⟨r,hr⟩: ∃r,r=Yo neg A B:=⟨_,rfl⟩;suffices hs:CW Tryz.prog Zo 53 [.agg #[.bool neg,u,v]] H fun v H'=> ∃p q,v= .tuple #[.agg #[.bool r.1,p,q],.int .i64 0]∧Keep H H'∧Own H.n H' p (ds B64 r.2.1)∧Own H.n H' q (ds B64 r.2.2) by obtain⟨v,H',hc,p,q,rfl,k,o⟩:=hs;rw[←hr];exact⟨p,q,H',hc,k,o⟩
 obtain⟨H2,e2,k2,n2,q1,q2,q3⟩:=Dm H [.bool neg,u,v] [.bool false,.slice none 0 0,.slice none 0 0] [.int .i64 0];obtain⟨p,q,H3,c3,k3,o3,o4⟩:=Zq4 neg (ha.keep k2) (hb.keep k2) dx dy lx ly eA eB hA hB hB0;rw[←hr]at c3 o3 o4;have n3:=k3.n;have q2':=k3.blk _ (show H.n+1<H2.n by omega);rw[q2]at q2';have q3':=k3.blk _ (show H.n+2<H2.n by omega);rw[q3]at q3';obtain⟨i1,i2,i3⟩:=o3.trio;obtain⟨j1,j2,j3⟩:=o4.trio;obtain⟨S,N,D⟩:=r;simp only at c3 o3 o4⊢;obtain⟨H4,st4,n4,q4,b4,ka4⟩:=Ec (p:= .bool S) (q:=p) (r:=q) q2' rfl i1 j1 rfl i2 j2;have q3'':H4.blk (H.n+2)= .rw 1 [.int .i64 0]:=by rw[b4 _ (by omega)];exact q3'
 obtain⟨H5,st5,n5,q5,b5,ka5⟩:=putE (e:=0) q3'';have q4':H5.blk (H.n+1)= .rw 1 [.bool S,p,q]:=by rw[b5 _ (by omega)];exact q4
 have k05:Keep H H5:=ka5 H (ka4 H (k2.trans k3) (by omega)) (by omega);have o5:=((o3.off (b:=H.n+1) (by omega) n4 b4).off (b:=H.n+2) (by omega) n5 b5).mono (show H.n≤H2.n by omega) (.refl _);have o6:=((o4.off (b:=H.n+1) (by omega) n4 b4).off (b:=H.n+2) (by omega) n5 b5).mono (show H.n≤H2.n by omega) (.refl _);refine Vt 7 (by decide) (by decide) Tryz.func53 rfl rfl rfl ?_;intro b1 hb1;apply Za;simp[Value.cells,Qy,zErr,Jv,e2];refine⟨_,_,⟨rfl,rfl⟩,?_⟩;subst hb1;apply Zb;intro b1 hb1;apply Za;simp[Xk q1,c3,st4,st5];subst hb1;apply Zn;simp[Kh];refine norm1_cwd ⟨⟨_,rfl⟩,i3,j3⟩ q4' q5 (by omega) (by omega) (by omega) fun H6 hS=>?_;have r4:H6.blk (H.n+1)= .rw 1 [.bool S,p,q]:=by rw[hS.2.1 _ (by omega)];exact q4'
 have r5:H6.blk (H.n+2)= .rw 1 [.int .i64 0]:=by rw[hS.2.1 _ (by omega)];exact q5
 simp[Xk r4,Fy r5];exact⟨_,_,⟨rfl,rfl⟩,hS.keep k05 (by omega),hS.own o5,hS.own o6⟩
end
end
section
attribute [-simp] Int.natCast_add Int.natCast_mul Int.natCast_ediv Int.natCast_emod Int.natCast_pow
attribute [local simp] strip Yg LW' LR gW Ym Xc Yb Xd Yp Xe Zt Zu Zi Yq Yz Yk Xj Zw Yr Zj Zg Xi Xh Qv Ye Xb opd Qc Yn plain Yj Tr.get_set Qb Zq Xx Yd sameKind undef Zv Ys Yw Zm Yc parts unV DW Xl Zz LX Zy
section
variable {H : AH} {u v va vb : Value} {xs ys : List Nat} {A B : Nat}
theorem make1_cwd{b2 b3:Nat}{p q r:Value}{e:Int}{K:AH→Prop}(ht:Gu p q r)(hq:H.blk b2= .rw 1 [p,q,r])(he:H.blk b3= .rw 1 [.int .i64 e])(h2:b2<H.n)(h3:b3<H.n)(hlt:b2<b3)(hK: ∀H',En b2 H H'→K H'):CWD Tryz.prog Zo 90 [.pointer (some ⟨b2,0,none⟩),.pointer (some ⟨b3,0,none⟩)] .nilIface H K:=by
 obtain⟨E1,c1,kE1⟩:=Vx ht e H.top;obtain⟨G1,hG1⟩: ∃G1,G1=grown H E1:=⟨_,rfl⟩;have kG1:Keep H G1:=by rw[hG1];exact Zr (.refl H) kE1
 have nE1:H.n≤E1.n:=kE1.n;have nG1:=kG1.n;have r2:G1.blk b2= .rw 1 [p,q,r]:=by rw[kG1.blk _ h2];exact hq
 have r3:G1.blk b3= .rw 1 [.int .i64 e]:=by rw[kG1.blk _ h3];exact he
 have hcells:(Value.agg #[p,q,r]).cells.toList=[p,q,r]∧[p,q,r].all one=true:=by obtain⟨⟨b,rfl⟩,⟨a1,l1,c1,rfl⟩,⟨a2,l2,c2,rfl⟩⟩:=ht;exact⟨rfl,rfl⟩
 obtain⟨S1,st1,sn1,slw1,fn1,fb1,fo1,fk1⟩:=Gf (v:= .agg #[p,q,r]) (ws:=[p,q,r]) Uz r2 (by omega) rfl hcells.1 rfl hcells.2;obtain⟨F1,hF1⟩: ∃F1,F1=low G1 S1:=⟨_,rfl⟩;rw[←hF1]at fn1 fb1 fo1 fk1;have r3':F1.blk b3= .rw 1 [.int .i64 e]:=by rw[fo1 _ (by omega)];exact r3
 obtain⟨S2,st2,sn2,slw2,fn2,fb2,fo2,fk2⟩:=Gf (v:= .int .i64 e) (ws:=[.int .i64 e]) sErr r3' (by omega) rfl rfl rfl rfl;obtain⟨F,hF⟩: ∃F,F=low F1 S2:=⟨_,rfl⟩;rw[←hF]at fn2 fb2 fo2 fk2;have hS:En b2 H F:=by
  refine⟨by omega,fun j hj=>?_,fun H0 k hn=>fk2 H0 (fk1 H0 (k.trans kG1) hn) (by omega)⟩;by_cases j3:j=b3;·subst j3;rw[fb2];exact he.symm
  ·rw[fo2 _ j3];by_cases j2:j=b2;·subst j2;rw[fb1];exact hq.symm
   ·rw[fo1 _ j2];exact kG1.blk _ hj
 have l1:=Xk (H:=H.top) hq;have l2:Yt Tryz.prog H.top 23 (.pointer (some ⟨b3,0,none⟩))=some (.int .i64 e):=Yv aErr (AH.cells_rw' (H:=H.top) he (by decide)) rfl;refine Vl 9 Tryz.func90 rfl rfl ?_;apply Vm (by kernel_rfl);apply Qk (by kernel_rfl);simp[Vr,isRec];refine Zx (v:= .agg #[p,q,r]) rfl rfl rfl (by rw[Zh rfl];simp[l1]) ?_;simp;refine Zx (v:= .int .i64 e) rfl rfl rfl (by rw[Zh rfl];simp[l2]) ?_;simp;refine Yi (v:= .tuple #[.agg #[p,q,r],.int .i64 e]) (H2:=E1) rfl rfl rfl (by rw[Zh rfl];simp[c1]) nE1 (Yl kE1) ?_;rw[←hG1];generalize hms:cond (Nat.blt H.n E1.n) _ _=ms;have hms1:=Kx hms;simp;refine Xn (v:= .tuple #[]) (H2:=S1) rfl rfl (by kernel_rfl) (Xa fun x hx=>by rw[(hms1 x hx).1];kernel_rfl) ?_ (by omega) slw1 ?_;·show Ym _ _ _ _ G1.top _=_;simp[st1]
 rw[show({ n:=S1.n,lw:=min G1.lw S1.lw,t:=S1.t } :AH)=F1 from hF1.symm];rw[show Nat.blt G1.n S1.n=false from by rw[sn1];exact Qh _,cond_false];simp;refine Xn (v:= .tuple #[]) (H2:=S2) rfl rfl (by kernel_rfl) (Xa fun x hx=>by rw[(hms1 x hx).1];kernel_rfl) ?_ (by omega) slw2 ?_;·show Ym _ _ _ _ F1.top _=_;simp[st2]
 rw[show({ n:=S2.n,lw:=min F1.lw S2.lw,t:=S2.t } :AH)=F from hF.symm];simp;exact hK F hS
theorem neg1_cwd{b2 b3:Nat}{p q r:Value}{e:Int}{K:AH→Prop}(ht:Gu p q r)(hq:H.blk b2= .rw 1 [p,q,r])(he:H.blk b3= .rw 1 [.int .i64 e])(h2:b2<H.n)(h3:b3<H.n)(hlt:b2<b3)(hK: ∀H',En b2 H H'→K H'):CWD Tryz.prog Zo 136 [.pointer (some ⟨b2,0,none⟩),.pointer (some ⟨b3,0,none⟩)] .nilIface H K:=by
 obtain⟨E1,c1,kE1⟩:=Vx ht e H.top;obtain⟨G1,hG1⟩: ∃G1,G1=grown H E1:=⟨_,rfl⟩;have kG1:Keep H G1:=by rw[hG1];exact Zr (.refl H) kE1
 have nE1:H.n≤E1.n:=kE1.n;have nG1:=kG1.n;have r2:G1.blk b2= .rw 1 [p,q,r]:=by rw[kG1.blk _ h2];exact hq
 have r3:G1.blk b3= .rw 1 [.int .i64 e]:=by rw[kG1.blk _ h3];exact he
 have hcells:(Value.agg #[p,q,r]).cells.toList=[p,q,r]∧[p,q,r].all one=true:=by obtain⟨⟨b,rfl⟩,⟨a1,l1,c1,rfl⟩,⟨a2,l2,c2,rfl⟩⟩:=ht;exact⟨rfl,rfl⟩
 obtain⟨S1,st1,sn1,slw1,fn1,fb1,fo1,fk1⟩:=Gf (v:= .agg #[p,q,r]) (ws:=[p,q,r]) Uz r2 (by omega) rfl hcells.1 rfl hcells.2;obtain⟨F1,hF1⟩: ∃F1,F1=low G1 S1:=⟨_,rfl⟩;rw[←hF1]at fn1 fb1 fo1 fk1;have r3':F1.blk b3= .rw 1 [.int .i64 e]:=by rw[fo1 _ (by omega)];exact r3
 obtain⟨S2,st2,sn2,slw2,fn2,fb2,fo2,fk2⟩:=Gf (v:= .int .i64 e) (ws:=[.int .i64 e]) sErr r3' (by omega) rfl rfl rfl rfl;obtain⟨F,hF⟩: ∃F,F=low F1 S2:=⟨_,rfl⟩;rw[←hF]at fn2 fb2 fo2 fk2;have hS:En b2 H F:=by
  refine⟨by omega,fun j hj=>?_,fun H0 k hn=>fk2 H0 (fk1 H0 (k.trans kG1) hn) (by omega)⟩;by_cases j3:j=b3;·subst j3;rw[fb2];exact he.symm
  ·rw[fo2 _ j3];by_cases j2:j=b2;·subst j2;rw[fb1];exact hq.symm
   ·rw[fo1 _ j2];exact kG1.blk _ hj
 have l1:=Xk (H:=H.top) hq;have l2:Yt Tryz.prog H.top 23 (.pointer (some ⟨b3,0,none⟩))=some (.int .i64 e):=Yv aErr (AH.cells_rw' (H:=H.top) he (by decide)) rfl;refine Vl 9 Tryz.func136 rfl rfl ?_;apply Vm (by kernel_rfl);apply Qk (by kernel_rfl);simp[Vr,isRec];refine Zx (v:= .agg #[p,q,r]) rfl rfl rfl (by rw[Zh rfl];simp[l1]) ?_;simp;refine Zx (v:= .int .i64 e) rfl rfl rfl (by rw[Zh rfl];simp[l2]) ?_;simp;refine Yi (v:= .tuple #[.agg #[p,q,r],.int .i64 e]) (H2:=E1) rfl rfl rfl (by rw[Zh rfl];simp[c1]) nE1 (Yl kE1) ?_;rw[←hG1];generalize hms:cond (Nat.blt H.n E1.n) _ _=ms;have hms1:=Kx hms;simp;refine Xn (v:= .tuple #[]) (H2:=S1) rfl rfl (by kernel_rfl) (Xa fun x hx=>by rw[(hms1 x hx).1];kernel_rfl) ?_ (by omega) slw1 ?_;·show Ym _ _ _ _ G1.top _=_;simp[st1]
 rw[show({ n:=S1.n,lw:=min G1.lw S1.lw,t:=S1.t } :AH)=F1 from hF1.symm];rw[show Nat.blt G1.n S1.n=false from by rw[sn1];exact Qh _,cond_false];simp;refine Xn (v:= .tuple #[]) (H2:=S2) rfl rfl (by kernel_rfl) (Xa fun x hx=>by rw[(hms1 x hx).1];kernel_rfl) ?_ (by omega) slw2 ?_;·show Ym _ _ _ _ F1.top _=_;simp[st2]
 rw[show({ n:=S2.n,lw:=min F1.lw S2.lw,t:=S2.t } :AH)=F from hF.symm];simp;exact hK F hS
theorem abs1_cwd{b2 b3:Nat}{p q r:Value}{e:Int}{K:AH→Prop}(ht:Gu p q r)(hq:H.blk b2= .rw 1 [p,q,r])(he:H.blk b3= .rw 1 [.int .i64 e])(h2:b2<H.n)(h3:b3<H.n)(hlt:b2<b3)(hK: ∀H',En b2 H H'→K H'):CWD Tryz.prog Zo 137 [.pointer (some ⟨b2,0,none⟩),.pointer (some ⟨b3,0,none⟩)] .nilIface H K:=by
 obtain⟨E1,c1,kE1⟩:=Vx ht e H.top;obtain⟨G1,hG1⟩: ∃G1,G1=grown H E1:=⟨_,rfl⟩;have kG1:Keep H G1:=by rw[hG1];exact Zr (.refl H) kE1
 have nE1:H.n≤E1.n:=kE1.n;have nG1:=kG1.n;have r2:G1.blk b2= .rw 1 [p,q,r]:=by rw[kG1.blk _ h2];exact hq
 have r3:G1.blk b3= .rw 1 [.int .i64 e]:=by rw[kG1.blk _ h3];exact he
 have hcells:(Value.agg #[p,q,r]).cells.toList=[p,q,r]∧[p,q,r].all one=true:=by obtain⟨⟨b,rfl⟩,⟨a1,l1,c1,rfl⟩,⟨a2,l2,c2,rfl⟩⟩:=ht;exact⟨rfl,rfl⟩
 obtain⟨S1,st1,sn1,slw1,fn1,fb1,fo1,fk1⟩:=Gf (v:= .agg #[p,q,r]) (ws:=[p,q,r]) Uz r2 (by omega) rfl hcells.1 rfl hcells.2;obtain⟨F1,hF1⟩: ∃F1,F1=low G1 S1:=⟨_,rfl⟩;rw[←hF1]at fn1 fb1 fo1 fk1;have r3':F1.blk b3= .rw 1 [.int .i64 e]:=by rw[fo1 _ (by omega)];exact r3
 obtain⟨S2,st2,sn2,slw2,fn2,fb2,fo2,fk2⟩:=Gf (v:= .int .i64 e) (ws:=[.int .i64 e]) sErr r3' (by omega) rfl rfl rfl rfl;obtain⟨F,hF⟩: ∃F,F=low F1 S2:=⟨_,rfl⟩;rw[←hF]at fn2 fb2 fo2 fk2;have hS:En b2 H F:=by
  refine⟨by omega,fun j hj=>?_,fun H0 k hn=>fk2 H0 (fk1 H0 (k.trans kG1) hn) (by omega)⟩;by_cases j3:j=b3;·subst j3;rw[fb2];exact he.symm
  ·rw[fo2 _ j3];by_cases j2:j=b2;·subst j2;rw[fb1];exact hq.symm
   ·rw[fo1 _ j2];exact kG1.blk _ hj
 have l1:=Xk (H:=H.top) hq;have l2:Yt Tryz.prog H.top 23 (.pointer (some ⟨b3,0,none⟩))=some (.int .i64 e):=Yv aErr (AH.cells_rw' (H:=H.top) he (by decide)) rfl;refine Vl 9 Tryz.func137 rfl rfl ?_;apply Vm (by kernel_rfl);apply Qk (by kernel_rfl);simp[Vr,isRec];refine Zx (v:= .agg #[p,q,r]) rfl rfl rfl (by rw[Zh rfl];simp[l1]) ?_;simp;refine Zx (v:= .int .i64 e) rfl rfl rfl (by rw[Zh rfl];simp[l2]) ?_;simp;refine Yi (v:= .tuple #[.agg #[p,q,r],.int .i64 e]) (H2:=E1) rfl rfl rfl (by rw[Zh rfl];simp[c1]) nE1 (Yl kE1) ?_;rw[←hG1];generalize hms:cond (Nat.blt H.n E1.n) _ _=ms;have hms1:=Kx hms;simp;refine Xn (v:= .tuple #[]) (H2:=S1) rfl rfl (by kernel_rfl) (Xa fun x hx=>by rw[(hms1 x hx).1];kernel_rfl) ?_ (by omega) slw1 ?_;·show Ym _ _ _ _ G1.top _=_;simp[st1]
 rw[show({ n:=S1.n,lw:=min G1.lw S1.lw,t:=S1.t } :AH)=F1 from hF1.symm];rw[show Nat.blt G1.n S1.n=false from by rw[sn1];exact Qh _,cond_false];simp;refine Xn (v:= .tuple #[]) (H2:=S2) rfl rfl (by kernel_rfl) (Xa fun x hx=>by rw[(hms1 x hx).1];kernel_rfl) ?_ (by omega) slw2 ?_;·show Ym _ _ _ _ F1.top _=_;simp[st2]
 rw[show({ n:=S2.n,lw:=min F1.lw S2.lw,t:=S2.t } :AH)=F from hF.symm];simp;exact hK F hS
theorem add1_cwd{b2 b3:Nat}{p q r:Value}{e:Int}{K:AH→Prop}(ht:Gu p q r)(hq:H.blk b2= .rw 1 [p,q,r])(he:H.blk b3= .rw 1 [.int .i64 e])(h2:b2<H.n)(h3:b3<H.n)(hlt:b2<b3)(hK: ∀H',En b2 H H'→K H'):CWD Tryz.prog Zo 138 [.pointer (some ⟨b2,0,none⟩),.pointer (some ⟨b3,0,none⟩)] .nilIface H K:=by
 obtain⟨E1,c1,kE1⟩:=Vx ht e H.top;obtain⟨G1,hG1⟩: ∃G1,G1=grown H E1:=⟨_,rfl⟩;have kG1:Keep H G1:=by rw[hG1];exact Zr (.refl H) kE1
 have nE1:H.n≤E1.n:=kE1.n;have nG1:=kG1.n;have r2:G1.blk b2= .rw 1 [p,q,r]:=by rw[kG1.blk _ h2];exact hq
 have r3:G1.blk b3= .rw 1 [.int .i64 e]:=by rw[kG1.blk _ h3];exact he
 have hcells:(Value.agg #[p,q,r]).cells.toList=[p,q,r]∧[p,q,r].all one=true:=by obtain⟨⟨b,rfl⟩,⟨a1,l1,c1,rfl⟩,⟨a2,l2,c2,rfl⟩⟩:=ht;exact⟨rfl,rfl⟩
 obtain⟨S1,st1,sn1,slw1,fn1,fb1,fo1,fk1⟩:=Gf (v:= .agg #[p,q,r]) (ws:=[p,q,r]) Uz r2 (by omega) rfl hcells.1 rfl hcells.2;obtain⟨F1,hF1⟩: ∃F1,F1=low G1 S1:=⟨_,rfl⟩;rw[←hF1]at fn1 fb1 fo1 fk1;have r3':F1.blk b3= .rw 1 [.int .i64 e]:=by rw[fo1 _ (by omega)];exact r3
 obtain⟨S2,st2,sn2,slw2,fn2,fb2,fo2,fk2⟩:=Gf (v:= .int .i64 e) (ws:=[.int .i64 e]) sErr r3' (by omega) rfl rfl rfl rfl;obtain⟨F,hF⟩: ∃F,F=low F1 S2:=⟨_,rfl⟩;rw[←hF]at fn2 fb2 fo2 fk2;have hS:En b2 H F:=by
  refine⟨by omega,fun j hj=>?_,fun H0 k hn=>fk2 H0 (fk1 H0 (k.trans kG1) hn) (by omega)⟩;by_cases j3:j=b3;·subst j3;rw[fb2];exact he.symm
  ·rw[fo2 _ j3];by_cases j2:j=b2;·subst j2;rw[fb1];exact hq.symm
   ·rw[fo1 _ j2];exact kG1.blk _ hj
 have l1:=Xk (H:=H.top) hq;have l2:Yt Tryz.prog H.top 23 (.pointer (some ⟨b3,0,none⟩))=some (.int .i64 e):=Yv aErr (AH.cells_rw' (H:=H.top) he (by decide)) rfl;refine Vl 9 Tryz.func138 rfl rfl ?_;apply Vm (by kernel_rfl);apply Qk (by kernel_rfl);simp[Vr,isRec];refine Zx (v:= .agg #[p,q,r]) rfl rfl rfl (by rw[Zh rfl];simp[l1]) ?_;simp;refine Zx (v:= .int .i64 e) rfl rfl rfl (by rw[Zh rfl];simp[l2]) ?_;simp;refine Yi (v:= .tuple #[.agg #[p,q,r],.int .i64 e]) (H2:=E1) rfl rfl rfl (by rw[Zh rfl];simp[c1]) nE1 (Yl kE1) ?_;rw[←hG1];generalize hms:cond (Nat.blt H.n E1.n) _ _=ms;have hms1:=Kx hms;simp;refine Xn (v:= .tuple #[]) (H2:=S1) rfl rfl (by kernel_rfl) (Xa fun x hx=>by rw[(hms1 x hx).1];kernel_rfl) ?_ (by omega) slw1 ?_;·show Ym _ _ _ _ G1.top _=_;simp[st1]
 rw[show({ n:=S1.n,lw:=min G1.lw S1.lw,t:=S1.t } :AH)=F1 from hF1.symm];rw[show Nat.blt G1.n S1.n=false from by rw[sn1];exact Qh _,cond_false];simp;refine Xn (v:= .tuple #[]) (H2:=S2) rfl rfl (by kernel_rfl) (Xa fun x hx=>by rw[(hms1 x hx).1];kernel_rfl) ?_ (by omega) slw2 ?_;·show Ym _ _ _ _ F1.top _=_;simp[st2]
 rw[show({ n:=S2.n,lw:=min F1.lw S2.lw,t:=S2.t } :AH)=F from hF.symm];simp;exact hK F hS
theorem sub1_cwd{b2 b3:Nat}{p q r:Value}{e:Int}{K:AH→Prop}(ht:Gu p q r)(hq:H.blk b2= .rw 1 [p,q,r])(he:H.blk b3= .rw 1 [.int .i64 e])(h2:b2<H.n)(h3:b3<H.n)(hlt:b2<b3)(hK: ∀H',En b2 H H'→K H'):CWD Tryz.prog Zo 147 [.pointer (some ⟨b2,0,none⟩),.pointer (some ⟨b3,0,none⟩)] .nilIface H K:=by
 obtain⟨E1,c1,kE1⟩:=Vx ht e H.top;obtain⟨G1,hG1⟩: ∃G1,G1=grown H E1:=⟨_,rfl⟩;have kG1:Keep H G1:=by rw[hG1];exact Zr (.refl H) kE1
 have nE1:H.n≤E1.n:=kE1.n;have nG1:=kG1.n;have r2:G1.blk b2= .rw 1 [p,q,r]:=by rw[kG1.blk _ h2];exact hq
 have r3:G1.blk b3= .rw 1 [.int .i64 e]:=by rw[kG1.blk _ h3];exact he
 have hcells:(Value.agg #[p,q,r]).cells.toList=[p,q,r]∧[p,q,r].all one=true:=by obtain⟨⟨b,rfl⟩,⟨a1,l1,c1,rfl⟩,⟨a2,l2,c2,rfl⟩⟩:=ht;exact⟨rfl,rfl⟩
 obtain⟨S1,st1,sn1,slw1,fn1,fb1,fo1,fk1⟩:=Gf (v:= .agg #[p,q,r]) (ws:=[p,q,r]) Uz r2 (by omega) rfl hcells.1 rfl hcells.2;obtain⟨F1,hF1⟩: ∃F1,F1=low G1 S1:=⟨_,rfl⟩;rw[←hF1]at fn1 fb1 fo1 fk1;have r3':F1.blk b3= .rw 1 [.int .i64 e]:=by rw[fo1 _ (by omega)];exact r3
 obtain⟨S2,st2,sn2,slw2,fn2,fb2,fo2,fk2⟩:=Gf (v:= .int .i64 e) (ws:=[.int .i64 e]) sErr r3' (by omega) rfl rfl rfl rfl;obtain⟨F,hF⟩: ∃F,F=low F1 S2:=⟨_,rfl⟩;rw[←hF]at fn2 fb2 fo2 fk2;have hS:En b2 H F:=by
  refine⟨by omega,fun j hj=>?_,fun H0 k hn=>fk2 H0 (fk1 H0 (k.trans kG1) hn) (by omega)⟩;by_cases j3:j=b3;·subst j3;rw[fb2];exact he.symm
  ·rw[fo2 _ j3];by_cases j2:j=b2;·subst j2;rw[fb1];exact hq.symm
   ·rw[fo1 _ j2];exact kG1.blk _ hj
 have l1:=Xk (H:=H.top) hq;have l2:Yt Tryz.prog H.top 23 (.pointer (some ⟨b3,0,none⟩))=some (.int .i64 e):=Yv aErr (AH.cells_rw' (H:=H.top) he (by decide)) rfl;refine Vl 9 Tryz.func147 rfl rfl ?_;apply Vm (by kernel_rfl);apply Qk (by kernel_rfl);simp[Vr,isRec];refine Zx (v:= .agg #[p,q,r]) rfl rfl rfl (by rw[Zh rfl];simp[l1]) ?_;simp;refine Zx (v:= .int .i64 e) rfl rfl rfl (by rw[Zh rfl];simp[l2]) ?_;simp;refine Yi (v:= .tuple #[.agg #[p,q,r],.int .i64 e]) (H2:=E1) rfl rfl rfl (by rw[Zh rfl];simp[c1]) nE1 (Yl kE1) ?_;rw[←hG1];generalize hms:cond (Nat.blt H.n E1.n) _ _=ms;have hms1:=Kx hms;simp;refine Xn (v:= .tuple #[]) (H2:=S1) rfl rfl (by kernel_rfl) (Xa fun x hx=>by rw[(hms1 x hx).1];kernel_rfl) ?_ (by omega) slw1 ?_;·show Ym _ _ _ _ G1.top _=_;simp[st1]
 rw[show({ n:=S1.n,lw:=min G1.lw S1.lw,t:=S1.t } :AH)=F1 from hF1.symm];rw[show Nat.blt G1.n S1.n=false from by rw[sn1];exact Qh _,cond_false];simp;refine Xn (v:= .tuple #[]) (H2:=S2) rfl rfl (by kernel_rfl) (Xa fun x hx=>by rw[(hms1 x hx).1];kernel_rfl) ?_ (by omega) slw2 ?_;·show Ym _ _ _ _ F1.top _=_;simp[st2]
 rw[show({ n:=S2.n,lw:=min F1.lw S2.lw,t:=S2.t } :AH)=F from hF.symm];simp;exact hK F hS
theorem mul1_cwd{b2 b3:Nat}{p q r:Value}{e:Int}{K:AH→Prop}(ht:Gu p q r)(hq:H.blk b2= .rw 1 [p,q,r])(he:H.blk b3= .rw 1 [.int .i64 e])(h2:b2<H.n)(h3:b3<H.n)(hlt:b2<b3)(hK: ∀H',En b2 H H'→K H'):CWD Tryz.prog Zo 149 [.pointer (some ⟨b2,0,none⟩),.pointer (some ⟨b3,0,none⟩)] .nilIface H K:=by
 obtain⟨E1,c1,kE1⟩:=Vx ht e H.top;obtain⟨G1,hG1⟩: ∃G1,G1=grown H E1:=⟨_,rfl⟩;have kG1:Keep H G1:=by rw[hG1];exact Zr (.refl H) kE1
 have nE1:H.n≤E1.n:=kE1.n;have nG1:=kG1.n;have r2:G1.blk b2= .rw 1 [p,q,r]:=by rw[kG1.blk _ h2];exact hq
 have r3:G1.blk b3= .rw 1 [.int .i64 e]:=by rw[kG1.blk _ h3];exact he
 have hcells:(Value.agg #[p,q,r]).cells.toList=[p,q,r]∧[p,q,r].all one=true:=by obtain⟨⟨b,rfl⟩,⟨a1,l1,c1,rfl⟩,⟨a2,l2,c2,rfl⟩⟩:=ht;exact⟨rfl,rfl⟩
 obtain⟨S1,st1,sn1,slw1,fn1,fb1,fo1,fk1⟩:=Gf (v:= .agg #[p,q,r]) (ws:=[p,q,r]) Uz r2 (by omega) rfl hcells.1 rfl hcells.2;obtain⟨F1,hF1⟩: ∃F1,F1=low G1 S1:=⟨_,rfl⟩;rw[←hF1]at fn1 fb1 fo1 fk1;have r3':F1.blk b3= .rw 1 [.int .i64 e]:=by rw[fo1 _ (by omega)];exact r3
 obtain⟨S2,st2,sn2,slw2,fn2,fb2,fo2,fk2⟩:=Gf (v:= .int .i64 e) (ws:=[.int .i64 e]) sErr r3' (by omega) rfl rfl rfl rfl;obtain⟨F,hF⟩: ∃F,F=low F1 S2:=⟨_,rfl⟩;rw[←hF]at fn2 fb2 fo2 fk2;have hS:En b2 H F:=by
  refine⟨by omega,fun j hj=>?_,fun H0 k hn=>fk2 H0 (fk1 H0 (k.trans kG1) hn) (by omega)⟩;by_cases j3:j=b3;·subst j3;rw[fb2];exact he.symm
  ·rw[fo2 _ j3];by_cases j2:j=b2;·subst j2;rw[fb1];exact hq.symm
   ·rw[fo1 _ j2];exact kG1.blk _ hj
 have l1:=Xk (H:=H.top) hq;have l2:Yt Tryz.prog H.top 23 (.pointer (some ⟨b3,0,none⟩))=some (.int .i64 e):=Yv aErr (AH.cells_rw' (H:=H.top) he (by decide)) rfl;refine Vl 9 Tryz.func149 rfl rfl ?_;apply Vm (by kernel_rfl);apply Qk (by kernel_rfl);simp[Vr,isRec];refine Zx (v:= .agg #[p,q,r]) rfl rfl rfl (by rw[Zh rfl];simp[l1]) ?_;simp;refine Zx (v:= .int .i64 e) rfl rfl rfl (by rw[Zh rfl];simp[l2]) ?_;simp;refine Yi (v:= .tuple #[.agg #[p,q,r],.int .i64 e]) (H2:=E1) rfl rfl rfl (by rw[Zh rfl];simp[c1]) nE1 (Yl kE1) ?_;rw[←hG1];generalize hms:cond (Nat.blt H.n E1.n) _ _=ms;have hms1:=Kx hms;simp;refine Xn (v:= .tuple #[]) (H2:=S1) rfl rfl (by kernel_rfl) (Xa fun x hx=>by rw[(hms1 x hx).1];kernel_rfl) ?_ (by omega) slw1 ?_;·show Ym _ _ _ _ G1.top _=_;simp[st1]
 rw[show({ n:=S1.n,lw:=min G1.lw S1.lw,t:=S1.t } :AH)=F1 from hF1.symm];rw[show Nat.blt G1.n S1.n=false from by rw[sn1];exact Qh _,cond_false];simp;refine Xn (v:= .tuple #[]) (H2:=S2) rfl rfl (by kernel_rfl) (Xa fun x hx=>by rw[(hms1 x hx).1];kernel_rfl) ?_ (by omega) slw2 ?_;·show Ym _ _ _ _ F1.top _=_;simp[st2]
 rw[show({ n:=S2.n,lw:=min F1.lw S2.lw,t:=S2.t } :AH)=F from hF.symm];simp;exact hK F hS
theorem quo1_cwd{b2 b3:Nat}{p q r:Value}{e:Int}{K:AH→Prop}(ht:Gu p q r)(hq:H.blk b2= .rw 1 [p,q,r])(he:H.blk b3= .rw 1 [.int .i64 e])(h2:b2<H.n)(h3:b3<H.n)(hlt:b2<b3)(hK: ∀H',En b2 H H'→K H'):CWD Tryz.prog Zo 150 [.pointer (some ⟨b2,0,none⟩),.pointer (some ⟨b3,0,none⟩)] .nilIface H K:=by
 obtain⟨E1,c1,kE1⟩:=Vx ht e H.top;obtain⟨G1,hG1⟩: ∃G1,G1=grown H E1:=⟨_,rfl⟩;have kG1:Keep H G1:=by rw[hG1];exact Zr (.refl H) kE1
 have nE1:H.n≤E1.n:=kE1.n;have nG1:=kG1.n;have r2:G1.blk b2= .rw 1 [p,q,r]:=by rw[kG1.blk _ h2];exact hq
 have r3:G1.blk b3= .rw 1 [.int .i64 e]:=by rw[kG1.blk _ h3];exact he
 have hcells:(Value.agg #[p,q,r]).cells.toList=[p,q,r]∧[p,q,r].all one=true:=by obtain⟨⟨b,rfl⟩,⟨a1,l1,c1,rfl⟩,⟨a2,l2,c2,rfl⟩⟩:=ht;exact⟨rfl,rfl⟩
 obtain⟨S1,st1,sn1,slw1,fn1,fb1,fo1,fk1⟩:=Gf (v:= .agg #[p,q,r]) (ws:=[p,q,r]) Uz r2 (by omega) rfl hcells.1 rfl hcells.2;obtain⟨F1,hF1⟩: ∃F1,F1=low G1 S1:=⟨_,rfl⟩;rw[←hF1]at fn1 fb1 fo1 fk1;have r3':F1.blk b3= .rw 1 [.int .i64 e]:=by rw[fo1 _ (by omega)];exact r3
 obtain⟨S2,st2,sn2,slw2,fn2,fb2,fo2,fk2⟩:=Gf (v:= .int .i64 e) (ws:=[.int .i64 e]) sErr r3' (by omega) rfl rfl rfl rfl;obtain⟨F,hF⟩: ∃F,F=low F1 S2:=⟨_,rfl⟩;rw[←hF]at fn2 fb2 fo2 fk2;have hS:En b2 H F:=by
  refine⟨by omega,fun j hj=>?_,fun H0 k hn=>fk2 H0 (fk1 H0 (k.trans kG1) hn) (by omega)⟩;by_cases j3:j=b3;·subst j3;rw[fb2];exact he.symm
  ·rw[fo2 _ j3];by_cases j2:j=b2;·subst j2;rw[fb1];exact hq.symm
   ·rw[fo1 _ j2];exact kG1.blk _ hj
 have l1:=Xk (H:=H.top) hq;have l2:Yt Tryz.prog H.top 23 (.pointer (some ⟨b3,0,none⟩))=some (.int .i64 e):=Yv aErr (AH.cells_rw' (H:=H.top) he (by decide)) rfl;refine Vl 9 Tryz.func150 rfl rfl ?_;apply Vm (by kernel_rfl);apply Qk (by kernel_rfl);simp[Vr,isRec];refine Zx (v:= .agg #[p,q,r]) rfl rfl rfl (by rw[Zh rfl];simp[l1]) ?_;simp;refine Zx (v:= .int .i64 e) rfl rfl rfl (by rw[Zh rfl];simp[l2]) ?_;simp;refine Yi (v:= .tuple #[.agg #[p,q,r],.int .i64 e]) (H2:=E1) rfl rfl rfl (by rw[Zh rfl];simp[c1]) nE1 (Yl kE1) ?_;rw[←hG1];generalize hms:cond (Nat.blt H.n E1.n) _ _=ms;have hms1:=Kx hms;simp;refine Xn (v:= .tuple #[]) (H2:=S1) rfl rfl (by kernel_rfl) (Xa fun x hx=>by rw[(hms1 x hx).1];kernel_rfl) ?_ (by omega) slw1 ?_;·show Ym _ _ _ _ G1.top _=_;simp[st1]
 rw[show({ n:=S1.n,lw:=min G1.lw S1.lw,t:=S1.t } :AH)=F1 from hF1.symm];rw[show Nat.blt G1.n S1.n=false from by rw[sn1];exact Qh _,cond_false];simp;refine Xn (v:= .tuple #[]) (H2:=S2) rfl rfl (by kernel_rfl) (Xa fun x hx=>by rw[(hms1 x hx).1];kernel_rfl) ?_ (by omega) slw2 ?_;·show Ym _ _ _ _ F1.top _=_;simp[st2]
 rw[show({ n:=S2.n,lw:=min F1.lw S2.lw,t:=S2.t } :AH)=F from hF.symm];simp;exact hK F hS
theorem Zj8(x e:Int)(H:AH): ∃H',Zs Tryz.prog Zo 86 [.nilIface,.int .i64 x,.int .i64 e] H=some (.tuple #[.int .i64 x,.int .i64 e],H')∧Keep H H':=by
 suffices h:CW Tryz.prog Zo 86 [.nilIface,.int .i64 x,.int .i64 e] H fun v H'=>v= .tuple #[.int .i64 x,.int .i64 e]∧Keep H H' by obtain⟨v,H',hc,rfl,k⟩:=h;exact⟨H',hc,k⟩
 refine Zk 26 (by decide) (by decide) Tryz.func86 rfl rfl ?_;apply Zb;intro b1 hb1;apply Za;simp;subst hb1;apply Zb;intro b1 hb1;apply Zb;intro b2 hb2;apply Za;simp[-Xx,nilEq];subst hb2;refine Zc (t:=true) (by simp) ?_;apply Zb;intro b2 hb2;apply Za;simp;subst hb2;apply Zn;simp[Xt];exact .refl H
theorem sign1_cwd{b2 b3:Nat}{x e:Int}{K:AH→Prop}(hq:H.blk b2= .rw 1 [.int .i64 x])(he:H.blk b3= .rw 1 [.int .i64 e])(h2:b2<H.n)(h3:b3<H.n)(hlt:b2<b3)(hK: ∀H',En b2 H H'→K H'):CWD Tryz.prog Zo 85 [.pointer (some ⟨b2,0,none⟩),.pointer (some ⟨b3,0,none⟩)] .nilIface H K:=by
 obtain⟨E1,c1,kE1⟩:=Zj8 x e H.top;obtain⟨G1,hG1⟩: ∃G1,G1=grown H E1:=⟨_,rfl⟩;have kG1:Keep H G1:=by rw[hG1];exact Zr (.refl H) kE1
 have nE1:H.n≤E1.n:=kE1.n;have nG1:=kG1.n;have r2:G1.blk b2= .rw 1 [.int .i64 x]:=by rw[kG1.blk _ h2];exact hq
 have r3:G1.blk b3= .rw 1 [.int .i64 e]:=by rw[kG1.blk _ h3];exact he
 obtain⟨S1,st1,sn1,slw1,fn1,fb1,fo1,fk1⟩:=Gf (v:= .int .i64 x) (ws:=[.int .i64 x]) sInt r2 (by omega) rfl rfl rfl rfl;obtain⟨F1,hF1⟩: ∃F1,F1=low G1 S1:=⟨_,rfl⟩;rw[←hF1]at fn1 fb1 fo1 fk1;have r3':F1.blk b3= .rw 1 [.int .i64 e]:=by rw[fo1 _ (by omega)];exact r3
 obtain⟨S2,st2,sn2,slw2,fn2,fb2,fo2,fk2⟩:=Gf (v:= .int .i64 e) (ws:=[.int .i64 e]) sErr r3' (by omega) rfl rfl rfl rfl;obtain⟨F,hF⟩: ∃F,F=low F1 S2:=⟨_,rfl⟩;rw[←hF]at fn2 fb2 fo2 fk2;have hS:En b2 H F:=by
  refine⟨by omega,fun j hj=>?_,fun H0 k hn=>fk2 H0 (fk1 H0 (k.trans kG1) hn) (by omega)⟩;by_cases j3:j=b3;·subst j3;rw[fb2];exact he.symm
  ·rw[fo2 _ j3];by_cases j2:j=b2;·subst j2;rw[fb1];exact hq.symm
   ·rw[fo1 _ j2];exact kG1.blk _ hj
 have l1:Yt Tryz.prog H.top 3 (.pointer (some ⟨b2,0,none⟩))=some (.int .i64 x):=Yv aInt (AH.cells_rw' (H:=H.top) hq (by decide)) rfl;have l2:Yt Tryz.prog H.top 23 (.pointer (some ⟨b3,0,none⟩))=some (.int .i64 e):=Yv aErr (AH.cells_rw' (H:=H.top) he (by decide)) rfl;refine Vl 9 Tryz.func85 rfl rfl ?_;apply Vm (by kernel_rfl);apply Qk (by kernel_rfl);simp[Vr,isRec];refine Zx (v:= .int .i64 x) rfl rfl rfl (by rw[Zh rfl];simp[l1]) ?_;simp;refine Zx (v:= .int .i64 e) rfl rfl rfl (by rw[Zh rfl];simp[l2]) ?_;simp;refine Yi (v:= .tuple #[.int .i64 x,.int .i64 e]) (H2:=E1) rfl rfl rfl (by rw[Zh rfl];simp[c1]) nE1 (Yl kE1) ?_;rw[←hG1];generalize hms:cond (Nat.blt H.n E1.n) _ _=ms;have hms1:=Kx hms;simp;refine Xn (v:= .tuple #[]) (H2:=S1) rfl rfl (by kernel_rfl) (Xa fun x hx=>by rw[(hms1 x hx).1];kernel_rfl) ?_ (by omega) slw1 ?_;·show Ym _ _ _ _ G1.top _=_;simp[st1]
 rw[show({ n:=S1.n,lw:=min G1.lw S1.lw,t:=S1.t } :AH)=F1 from hF1.symm];rw[show Nat.blt G1.n S1.n=false from by rw[sn1];exact Qh _,cond_false];simp;refine Xn (v:= .tuple #[]) (H2:=S2) rfl rfl (by kernel_rfl) (Xa fun x hx=>by rw[(hms1 x hx).1];kernel_rfl) ?_ (by omega) slw2 ?_;·show Ym _ _ _ _ F1.top _=_;simp[st2]
 rw[show({ n:=S2.n,lw:=min F1.lw S2.lw,t:=S2.t } :AH)=F from hF.symm];simp;exact hK F hS
theorem Bo{b2 b3:Nat}{x e:Int}{K:AH→Prop}(hq:H.blk b2= .rw 1 [.int .i64 x])(he:H.blk b3= .rw 1 [.int .i64 e])(h2:b2<H.n)(h3:b3<H.n)(hlt:b2<b3)(hK: ∀H',En b2 H H'→K H'):CWD Tryz.prog Zo 121 [.pointer (some ⟨b2,0,none⟩),.pointer (some ⟨b3,0,none⟩)] .nilIface H K:=by
 obtain⟨E1,c1,kE1⟩:=Zj8 x e H.top;obtain⟨G1,hG1⟩: ∃G1,G1=grown H E1:=⟨_,rfl⟩;have kG1:Keep H G1:=by rw[hG1];exact Zr (.refl H) kE1
 have nE1:H.n≤E1.n:=kE1.n;have nG1:=kG1.n;have r2:G1.blk b2= .rw 1 [.int .i64 x]:=by rw[kG1.blk _ h2];exact hq
 have r3:G1.blk b3= .rw 1 [.int .i64 e]:=by rw[kG1.blk _ h3];exact he
 obtain⟨S1,st1,sn1,slw1,fn1,fb1,fo1,fk1⟩:=Gf (v:= .int .i64 x) (ws:=[.int .i64 x]) sInt r2 (by omega) rfl rfl rfl rfl;obtain⟨F1,hF1⟩: ∃F1,F1=low G1 S1:=⟨_,rfl⟩;rw[←hF1]at fn1 fb1 fo1 fk1;have r3':F1.blk b3= .rw 1 [.int .i64 e]:=by rw[fo1 _ (by omega)];exact r3
 obtain⟨S2,st2,sn2,slw2,fn2,fb2,fo2,fk2⟩:=Gf (v:= .int .i64 e) (ws:=[.int .i64 e]) sErr r3' (by omega) rfl rfl rfl rfl;obtain⟨F,hF⟩: ∃F,F=low F1 S2:=⟨_,rfl⟩;rw[←hF]at fn2 fb2 fo2 fk2;have hS:En b2 H F:=by
  refine⟨by omega,fun j hj=>?_,fun H0 k hn=>fk2 H0 (fk1 H0 (k.trans kG1) hn) (by omega)⟩;by_cases j3:j=b3;·subst j3;rw[fb2];exact he.symm
  ·rw[fo2 _ j3];by_cases j2:j=b2;·subst j2;rw[fb1];exact hq.symm
   ·rw[fo1 _ j2];exact kG1.blk _ hj
 have l1:Yt Tryz.prog H.top 3 (.pointer (some ⟨b2,0,none⟩))=some (.int .i64 x):=Yv aInt (AH.cells_rw' (H:=H.top) hq (by decide)) rfl;have l2:Yt Tryz.prog H.top 23 (.pointer (some ⟨b3,0,none⟩))=some (.int .i64 e):=Yv aErr (AH.cells_rw' (H:=H.top) he (by decide)) rfl;refine Vl 9 Tryz.func121 rfl rfl ?_;apply Vm (by kernel_rfl);apply Qk (by kernel_rfl);simp[Vr,isRec];refine Zx (v:= .int .i64 x) rfl rfl rfl (by rw[Zh rfl];simp[l1]) ?_;simp;refine Zx (v:= .int .i64 e) rfl rfl rfl (by rw[Zh rfl];simp[l2]) ?_;simp;refine Yi (v:= .tuple #[.int .i64 x,.int .i64 e]) (H2:=E1) rfl rfl rfl (by rw[Zh rfl];simp[c1]) nE1 (Yl kE1) ?_;rw[←hG1];generalize hms:cond (Nat.blt H.n E1.n) _ _=ms;have hms1:=Kx hms;simp;refine Xn (v:= .tuple #[]) (H2:=S1) rfl rfl (by kernel_rfl) (Xa fun x hx=>by rw[(hms1 x hx).1];kernel_rfl) ?_ (by omega) slw1 ?_;·show Ym _ _ _ _ G1.top _=_;simp[st1]
 rw[show({ n:=S1.n,lw:=min G1.lw S1.lw,t:=S1.t } :AH)=F1 from hF1.symm];rw[show Nat.blt G1.n S1.n=false from by rw[sn1];exact Qh _,cond_false];simp;refine Xn (v:= .tuple #[]) (H2:=S2) rfl rfl (by kernel_rfl) (Xa fun x hx=>by rw[(hms1 x hx).1];kernel_rfl) ?_ (by omega) slw2 ?_;·show Ym _ _ _ _ F1.top _=_;simp[st2]
 rw[show({ n:=S2.n,lw:=min F1.lw S2.lw,t:=S2.t } :AH)=F from hF.symm];simp;exact hK F hS
end
end
theorem uQs:Tryz.prog.underlying 157=some (.slice 34):=by kernel_rfl
theorem sQs:Un Tryz.prog 157=some (34,3,56):=by kernel_rfl
theorem lenQs(b m:Nat):lenV Tryz.prog 157 (.slice (some ⟨b,0,none⟩) m m)=some m:=by unfold lenV;simp only[uQs]
theorem adrQs(b m:Nat){i:Nat}(hi:i<m):Yu Tryz.prog 157 (.slice (some ⟨b,0,none⟩) m m) (.int .i64 (i:Int))=some (.pointer (some ⟨b,i*3,none⟩)):=by unfold Yu;simp only[uQs,Uz];rw[if_pos (by omega)];simp
theorem buildQ1(H:AH)(p q r:Value):Xv Tryz.prog H 157 1 [(0,.agg #[p,q,r])]=some (.slice (some ⟨H.n,0,none⟩) 1 1,H.new 3 [p,q,r]):=by unfold Xv;simp only[sQs,Qy];kernel_rfl
theorem Zj5(H:AH)(p q r p' q' r':Value):Xv Tryz.prog H 157 2 [(0,.agg #[p,q,r]),(1,.agg #[p',q',r'])]=some (.slice (some ⟨H.n,0,none⟩) 2 2,H.new 3 [p,q,r,p',q',r']):=by unfold Xv;simp only[sQs,Qy];kernel_rfl
theorem Zh3{H:AH}{b o:Nat}{cs vs:List Value}(h:H.cells b=some cs)(hk:(cs.drop o).take 3=vs)(hl:vs.length=3):Yt Tryz.prog H 34 (.pointer (some ⟨b,o,none⟩))=some (.agg vs.toArray):=by
 unfold Yt;simp only[aRatio,Uz,AH.read_def,h];have:o+3≤cs.length:=by have:=congrArg List.length hk;rw[List.length_take,List.length_drop,hl]at this;omega
 rw[Nat.ble_eq.mpr this,cond_true,hk]
section
attribute [-simp] Int.natCast_add Int.natCast_mul Int.natCast_ediv Int.natCast_emod Int.natCast_pow
attribute [local simp] strip Yg LW' LR gW Ym Xc Yb Xd Yp Xe Zt Zu Zi Yq Yz Yk Xj Zw Yr Zj Zg Xi Xh Qv Ye Xb opd Qc Yn plain Yj Tr.get_set Qb Zq Xx Yd sameKind undef Zv Ys Yw Zm Yc parts unV DW Xl Zz LX Zy
attribute [local simp] Qi Qw
section
variable {H : AH} {u v va vb : Value} {xs ys : List Nat} {A B : Nat}
def Looks(H:AH)(b m:Nat):Prop:= ∀i,i<m→ ∃(p q r:Value) (D:Nat),(∀H',Keep H H'→Yt Tryz.prog H' 34 (.pointer (some ⟨b,i*3,none⟩))=some (.agg #[p,q,r]))∧Gu p q r∧Sl H r (ds B64 D)∧Ze D≤67108864∧0<D
theorem Gn{b m:Nat}(hl:Looks H b m)(hm:m≤1000): ∃H',Zs Tryz.prog Zo 87 [.slice (some ⟨b,0,none⟩) m m] H=some (.tuple #[],H')∧Keep H H':=by
 suffices h:CW Tryz.prog Zo 87 [.slice (some ⟨b,0,none⟩) m m] H fun v H'=>v= .tuple #[]∧Keep H H' by obtain⟨v,H',hc,rfl,k⟩:=h;exact⟨H',hc,k⟩
 have lq:=lenQs b m;refine Zk 17 (by decide) (by decide) Tryz.func87 rfl rfl ?_;apply Zb;intro b1 hb1;apply Za;simp[lq];subst hb1;apply Zp;refine Xo (fun n s'=>s'.k=17∧Keep H s'.H∧ ∃i:Nat,n+i=m∧s'.tm.get 4=some (.slice (some ⟨b,0,none⟩) m m)∧s'.tm.get 5=some (.int .i64 (m:Int))∧s'.tm.get 6=some (.int .i64 (i:Int))) ?_ m _ ⟨rfl,.refl H,0,by omega,by simp,by simp,by simp⟩;rintro n ⟨k,tm,H4⟩ ⟨hk,kH,i,hni,t4,t5,t6⟩ Q' hQ';simp only at hk kH t4 t5 t6;subst hk;apply Zb;intro b3 hb3;apply Za;simp[t5,t6,lssN];subst hb3;apply Zb;intro b3 hb3;by_cases hi:i<m
 ·refine Zc (t:=true) (by simp[hi]) ?_;apply Zf;subst hb3;obtain⟨p,q,r,D,hld,⟨⟨s,rfl⟩,⟨a1,l1,c1,rfl⟩,⟨a2,l2,c2,rfl⟩⟩,hsl,hbD,hD0⟩:=hl i hi;obtain⟨H5,st5,k5,blk5,n5⟩:=Jl (H:=H4) (sz:=1) (zs:=[.bool false,.slice none 0 0,.slice none 0 0]) Uz rfl (v:= .agg #[.bool s,.slice a1 l1 c1,.slice a2 l2 c2]) (ws:=[.bool s,.slice a1 l1 c1,.slice a2 l2 c2]) rfl rfl rfl;have cl:=Jx ((hsl.keep kH).keep k5) (Zl hbD);obtain⟨L,hL⟩: ∃L,L=Ze D:=⟨_,rfl⟩;rw[←hL]at cl;have hL0:L≠0:=fun h=>by rw[hL]at h;have:=Fi.mp h;omega
  have ge:Zd .eql .i64 (L:Int) 0=some (.bool false):=by rw[Vg,decide_eq_false hL0]
  apply Zb;intro b3 hb3;apply Zp;apply Zb;intro b4 hb4;apply Za;simp[t4,t6,adrQs b m hi,hld H4 kH,Qy,Value.cells,st5];subst hb4;apply Zb;intro b4 hb4;apply Za;simp[faQ1,Uy blk5,cl,ge];subst hb4;refine Zc (t:=false) (by simp) ?_;apply Zf;subst hb3;apply Za;simp[t6,add1N (x:=i) (by omega)];apply hQ';exact⟨n-1,by omega,rfl,kH.trans k5,i+1,by omega,by simp[t4],by simp[t5],by simp⟩
 ·refine Zc (t:=false) (by simp[hi]) ?_;apply Xr;apply hQ';left;refine⟨rfl,?_⟩;simp;exact kH
theorem Zh7{x:Bool}(hu: ∃a l c,u= .slice a l c)(H:AH): ∃H',Zs Tryz.prog Zo 142 [.agg #[.bool x,u],.int .i64 0] H=some (.agg #[.bool x,u],H')∧Keep H H':=by
 obtain⟨a,l,c,rfl⟩:=hu;suffices h:CW Tryz.prog Zo 142 [.agg #[.bool x,.slice a l c],.int .i64 0] H fun v H'=>v= .agg #[.bool x,.slice a l c]∧Keep H H' by obtain⟨v,H',hc,rfl,k⟩:=h;exact⟨H',hc,k⟩
 obtain⟨H2,e2,k2,n2,q1,q2⟩:=Qz H [.bool x,.slice a l c] [.bool false,.slice none 0 0];obtain⟨H4,st4,n4,q4,b4,ka4⟩:=putW (p:= .bool x) (q:= .slice a l c) q2 rfl rfl rfl rfl;have k04:Keep H H4:=ka4 H k2 (by omega);have hld:=Em q4;refine Zk 11 (by decide) (by decide) Tryz.func142 rfl rfl ?_;apply Zb;intro b1 hb1;apply Za;simp[Value.cells,Cv,Jv,e2];subst hb1;apply Zb;intro b1 hb1;apply Zb;intro b2 hb2;apply Za;simp[Bd];subst hb2;refine Zc (t:=false) (by simp) ?_;apply Zf;subst hb1;apply Zb;intro b1 hb1;apply Za;simp[Em q1,st4];subst hb1;apply Zn;simp[hld];exact k04
theorem mustQ_call{p q r:Value}(ht:Gu p q r)(H:AH): ∃H',Zs Tryz.prog Zo 148 [.agg #[p,q,r],.int .i64 0] H=some (.agg #[p,q,r],H')∧Keep H H':=by
 obtain⟨⟨s,rfl⟩,⟨a1,l1,c1,rfl⟩,⟨a2,l2,c2,rfl⟩⟩:=ht;suffices h:CW Tryz.prog Zo 148 [.agg #[.bool s,.slice a1 l1 c1,.slice a2 l2 c2],.int .i64 0] H fun v H'=>v= .agg #[.bool s,.slice a1 l1 c1,.slice a2 l2 c2]∧Keep H H' by obtain⟨v,H',hc,rfl,k⟩:=h;exact⟨H',hc,k⟩
 obtain⟨H2,e2,k2,n2,q1,q2⟩:=Qz H [.bool s,.slice a1 l1 c1,.slice a2 l2 c2] [.bool false,.slice none 0 0,.slice none 0 0];obtain⟨H4,st4,n4,q4,b4,ka4⟩:=Ec (p:= .bool s) (q:= .slice a1 l1 c1) (r:= .slice a2 l2 c2) q2 rfl rfl rfl rfl rfl rfl;have k04:Keep H H4:=ka4 H k2 (by omega);have hld:=Xk q4;refine Zk 11 (by decide) (by decide) Tryz.func148 rfl rfl ?_;apply Zb;intro b1 hb1;apply Za;simp[Value.cells,Qy,Jv,e2];subst hb1;apply Zb;intro b1 hb1;apply Zb;intro b2 hb2;apply Za;simp[Bd];subst hb2;refine Zc (t:=false) (by simp) ?_;apply Zf;subst hb1;apply Zb;intro b1 hb1;apply Za;simp[Xk q1,st4];subst hb1;apply Zn;simp[hld];exact k04
theorem Vk{n:Nat}(hn:n<9223372036854775808): ∃p q H',Zs Tryz.prog Zo 145 [.int .i64 (n:Int)] H=some (.agg #[.bool false,p,q],H')∧Keep H H'∧Own H.n H' p (ds B64 n)∧Own H.n H' q (ds B64 1):=by
 suffices h:CW Tryz.prog Zo 145 [.int .i64 (n:Int)] H fun v H'=> ∃p q,v= .agg #[.bool false,p,q]∧Keep H H'∧Own H.n H' p (ds B64 n)∧Own H.n H' q (ds B64 1) by obtain⟨v,H',hc,p,q,rfl,k,o⟩:=h;exact⟨p,q,H',hc,k,o⟩
 obtain⟨H2,e2,k2,n2,q2⟩:=Vn H [.bool false,.slice none 0 0,.slice none 0 0];obtain⟨p,H3,c3,k3,o3⟩:=wOf_call (H:=H2) hn;obtain⟨q,H4,c4,k4,o4⟩:=Fk (H:=H3) (x:=1) (by decide);have c4:Zs Tryz.prog Zo 164 [.int .u64 1] H3=some (q,H4):=c4;have n3:=k3.n;have q2':=(k3.trans k4).blk _ (show H.n<H2.n by omega);rw[q2]at q2';have o3':=o3.mono (Nat.le_refl _) k4;obtain⟨i1,i2,i3⟩:=o3'.trio;obtain⟨j1,j2,j3⟩:=o4.trio;obtain⟨H5,st5,n5,q5,b5,ka5⟩:=Ec (p:= .bool false) (q:=p) (r:=q) q2' rfl i1 j1 rfl i2 j2;have k05:Keep H H5:=ka5 H ((k2.trans k3).trans k4) (by omega);have o5:=(o3'.off (b:=H.n) (by omega) n5 b5).mono (show H.n≤H2.n by omega) (.refl _);have o6:=(o4.off (b:=H.n) (by omega) n5 b5).mono (show H.n≤H3.n by omega) (.refl _);have hld:=Xk q5;refine Zk 7 (by decide) (by decide) Tryz.func145 rfl rfl ?_;apply Zb;intro b1 hb1;apply Za;simp[Value.cells,Qy,Jv,e2];subst hb1;apply Zb;intro b1 hb1;apply Za;simp[c3,c4,Cp (x:=false) i3 j3,st5];subst hb1;apply Zn;simp[hld];exact⟨_,_,⟨rfl,rfl⟩,k05,o5,o6⟩
theorem Zi3(s:Bool)(ha:Sl H u (ds B64 A))(hv: ∃a l c,v= .slice a l c)(hA:Ze A≤67108864): ∃H',Zs Tryz.prog Zo 88 [.agg #[.bool s,u,v]] H=some (.int .i64 (Ua s A),H')∧Keep H H':=by
 suffices h:CW Tryz.prog Zo 88 [.agg #[.bool s,u,v]] H fun w H'=>w= .int .i64 (Ua s A)∧Keep H H' by obtain⟨v,H',hc,rfl,k⟩:=h;exact⟨H',hc,k⟩
 obtain⟨H2,e2,k2,n2,q2⟩:=Vn H [.bool s,u,v];obtain⟨H3,c3,k3⟩:=wSign_call s (ha.keep k2) (Xg Yh A) (Nat.le_trans (Zl hA) (by decide));rw[Xy Yh]at c3;obtain⟨S,hS⟩: ∃S,S=Ua s A:=⟨_,rfl⟩;rw[←hS]at c3⊢;refine Zk 6 (by decide) (by decide) Tryz.func88 rfl rfl ?_;apply Zb;intro b1 hb1;apply Za;simp[Value.cells,Jv,e2];subst hb1;apply Zb;intro b1 hb1;apply Za;simp[Fw,loadQW q2,c3];subst hb1;apply Zn;simp;exact k2.trans k3
end
end
theorem putI{H:AH}{b:Nat}{x e:Int}(hb:H.blk b= .rw 1 [.int .i64 x]): ∃H',Xu Tryz.prog H 3 (.pointer (some ⟨b,0,none⟩)) (.int .i64 e)=some H'∧H'.n=H.n∧H'.blk b= .rw 1 [.int .i64 e]∧(∀j,j≠b→H'.blk j=H.blk j)∧KAt b H H':=Cu sInt hb rfl rfl rfl rfl
theorem loadI{H:AH}{b:Nat}{e:Int}(hb:H.blk b= .rw 1 [.int .i64 e]):Yt Tryz.prog H 3 (.pointer (some ⟨b,0,none⟩))=some (.int .i64 e):=Yv aInt (AH.cells_rw' hb (by decide)) rfl
section
attribute [-simp] Int.natCast_add Int.natCast_mul Int.natCast_ediv Int.natCast_emod Int.natCast_pow
attribute [local simp] strip Yg LW' LR gW Ym Xc Yb Xd Yp Xe Zt Zu Zi Yq Yz Yk Xj Zw Yr Zj Zg Xi Xh Qv Ye Xb opd Qc Yn plain Yj Tr.get_set Qb Zq Xx Yd sameKind undef Zv Ys Yw Zm Yc parts unV DW Xl Zz LX Zy
attribute [local simp] Qi Qw
section
variable {H : AH} {u v va vb : Value} {xs ys : List Nat} {A B : Nat}
theorem looks1{H:AH}{p q r:Value}{D:Nat}(ht:Gu p q r)(hs:Sl (H.new 3 [p,q,r]) r (ds B64 D))(hb:Ze D≤67108864)(h0:0<D):Looks (H.new 3 [p,q,r]) H.n 1:=fun i hi=>by
 obtain rfl:i=0:=by omega
 exact⟨p,q,r,D,fun H' k=>Zh3 (cs:=[p,q,r]) ((Ki k (Nat.lt_succ_self _)).trans (Be H 3 [p,q,r])) rfl rfl,ht,hs,hb,h0⟩
theorem looks2{H:AH}{p q r p' q' r':Value}{D D':Nat}(ht:Gu p q r)(hs:Sl (H.new 3 [p,q,r,p',q',r']) r (ds B64 D))(hb:Ze D≤67108864)(h0:0<D)(ht':Gu p' q' r')(hs':Sl (H.new 3 [p,q,r,p',q',r']) r' (ds B64 D'))(hb':Ze D'≤67108864)(h0':0<D'):Looks (H.new 3 [p,q,r,p',q',r']) H.n 2:=fun i hi=>by
 have hc:=fun{H'} (k:Keep (H.new 3 [p,q,r,p',q',r']) H')=>(Ki k (Nat.lt_succ_self _)).trans (Be H 3 [p,q,r,p',q',r']);have:i=0∨i=1:=by omega
 rcases this with rfl|rfl;·exact⟨p,q,r,D,fun H' k=>Zh3 (hc k) rfl rfl,ht,hs,hb,h0⟩
 ·exact⟨p',q',r',D',fun H' k=>Zh3 (hc k) rfl rfl,ht',hs',hb',h0'⟩
theorem Sl.trio{H:AH}{s:Bool}{xs ys:List Nat}(ha:Sl H u xs)(hb:Sl H v ys):Gu (.bool s) u v:=⟨⟨s,rfl⟩,ha.shape,hb.shape⟩
theorem Zc3(s:Bool)(ha:Sl H u (ds B64 A))(hb:Sl H v (ds B64 B))(hA:Ze A≤67108864)(hB:Ze B≤67108864)(hB0:0<B): ∃H',Zs Tryz.prog Zo 54 [.agg #[.bool s,u,v]] H=some (.tuple #[.int .i64 (Ua s A),.int .i64 0],H')∧Keep H H':=by
 suffices h:CW Tryz.prog Zo 54 [.agg #[.bool s,u,v]] H fun w H'=>w= .tuple #[.int .i64 (Ua s A),.int .i64 0]∧Keep H H' by obtain⟨v,H',hc,rfl,k⟩:=h;exact⟨H',hc,k⟩
 obtain⟨H2,e2,k2,n2,q1,q2,q3⟩:=Dm H [.bool s,u,v] [.int .i64 0] [.int .i64 0];have k3:=Keep.new H2 3 [.bool s,u,v];obtain⟨H4,c4,k4⟩:=Gn (looks1 (ha.trio hb (s:=s)) ((hb.keep k2).keep k3) hB hB0) (by decide);obtain⟨H3,hH3⟩: ∃H3,H3=H2.new 3 [.bool s,u,v]:=⟨_,rfl⟩;rw[←hH3]at k3 c4 k4;have k34:=k3.trans k4;have r1:H4.blk H.n= .rw 1 [.bool s,u,v]:=by rw[k34.blk _ (by omega)];exact q1
 obtain⟨H5,c5,k5⟩:=Zi3 s ((ha.keep k2).keep k34) hb.shape hA;have k35:=k34.trans k5;have r2:H5.blk (H.n+1)= .rw 1 [.int .i64 0]:=by rw[k35.blk _ (by omega)];exact q2
 have r3:H5.blk (H.n+2)= .rw 1 [.int .i64 0]:=by rw[k35.blk _ (by omega)];exact q3
 obtain⟨S,hS⟩: ∃S,S=Ua s A:=⟨_,rfl⟩;rw[←hS]at c5⊢;have n5:=k35.n;obtain⟨H6,st6,n6,p6,b6,ka6⟩:=putI (e:=S) r2;have r3':H6.blk (H.n+2)= .rw 1 [.int .i64 0]:=by rw[b6 _ (by omega)];exact r3
 obtain⟨H7,st7,n7,p7,b7,ka7⟩:=putE (e:=0) r3';have p6':H7.blk (H.n+1)= .rw 1 [.int .i64 S]:=by rw[b7 _ (by omega)];exact p6
 have k07:Keep H H7:=ka7 H (ka6 H (k2.trans k35) (by omega)) (by omega);refine Vt 10 (by decide) (by decide) Tryz.func54 rfl rfl rfl ?_;intro b1 hb1;apply Za;simp[Value.cells,zInt,zErr,Jv,e2];refine⟨_,_,⟨rfl,rfl⟩,?_⟩;subst hb1;apply Zb;intro b1 hb1;apply Za;simp[Xk q1,buildQ1,←hH3,c4];subst hb1;apply Zb;intro b1 hb1;apply Za;simp[Xk r1,c5,st6,st7];subst hb1;apply Zn;simp[Kh];refine sign1_cwd p6' p7 (by omega) (by omega) (by omega) fun H8 hS=>?_;have z4:H8.blk (H.n+1)= .rw 1 [.int .i64 S]:=by rw[hS.2.1 _ (by omega)];exact p6'
 have z5:H8.blk (H.n+2)= .rw 1 [.int .i64 0]:=by rw[hS.2.1 _ (by omega)];exact p7
 simp[loadI z4,Fy z5];exact hS.keep k07 (by omega)
theorem Zr0(s t:Bool)(ha:Sl H u (ds B64 A))(hb:Sl H v (ds B64 B))(hA:Ze A≤67108864)(hB:Ze B≤67108864)(hB0:0<B): ∃p q H',Zs Tryz.prog Zo 56 [.agg #[.bool s,u],.agg #[.bool t,v]] H=some (.tuple #[.agg #[.bool (Yo (s !=t) A B).1,p,q],.int .i64 0],H')∧Keep H H'∧Own H.n H' p (ds B64 (Yo (s !=t) A B).2.1)∧Own H.n H' q (ds B64 (Yo (s !=t) A B).2.2)∧Uq p q:=by
 obtain⟨neg,hneg⟩: ∃neg,neg=(s !=t):=⟨_,rfl⟩;rw[←hneg];obtain⟨r,hr⟩: ∃r,r=Yo neg A B:=⟨_,rfl⟩;suffices hs:CW Tryz.prog Zo 56 [.agg #[.bool s,u],.agg #[.bool t,v]] H fun v H'=> ∃p q,v= .tuple #[.agg #[.bool r.1,p,q],.int .i64 0]∧Keep H H'∧Own H.n H' p (ds B64 r.2.1)∧Own H.n H' q (ds B64 r.2.2)∧Uq p q by obtain⟨v,H',hc,p,q,rfl,k,o⟩:=hs;rw[←hr];exact⟨p,q,H',hc,k,o⟩
 obtain⟨H2,e2,k2,n2,q0,q1,q2,q3⟩:=boxes4 H [.bool s,u] [.bool t,v] [.bool false,.slice none 0 0,.slice none 0 0] [.int .i64 0];obtain⟨p,q,H3,c3,k3,o3,o4,ap⟩:=Zq3 neg (ha.keep k2) (hb.keep k2) (Xg Yh A) (Xg Yh B) (Nat.le_trans (Zl hA) (by decide)) (Nat.le_trans (Zl hB) (by decide)) (Xy Yh A) (Xy Yh B) hA hB hB0;rw[←hr]at c3 o3 o4;have n3:=k3.n;have q2':=k3.blk _ (show H.n+2<H2.n by omega);rw[q2]at q2';have q3':=k3.blk _ (show H.n+3<H2.n by omega);rw[q3]at q3';obtain⟨i1,i2,i3⟩:=o3.trio;obtain⟨j1,j2,j3⟩:=o4.trio;obtain⟨S,N,D⟩:=r;simp only at c3 o3 o4⊢;obtain⟨H4,st4,n4,q4,b4,ka4⟩:=Ec (p:= .bool S) (q:=p) (r:=q) q2' rfl i1 j1 rfl i2 j2;have q3'':H4.blk (H.n+3)= .rw 1 [.int .i64 0]:=by rw[b4 _ (by omega)];exact q3'
 obtain⟨H5,st5,n5,q5,b5,ka5⟩:=putE (e:=0) q3'';have q4':H5.blk (H.n+2)= .rw 1 [.bool S,p,q]:=by rw[b5 _ (by omega)];exact q4
 have k05:Keep H H5:=ka5 H (ka4 H (k2.trans k3) (by omega)) (by omega);have o5:=((o3.off (b:=H.n+2) (by omega) n4 b4).off (b:=H.n+3) (by omega) n5 b5).mono (show H.n≤H2.n by omega) (.refl _);have o6:=((o4.off (b:=H.n+2) (by omega) n4 b4).off (b:=H.n+3) (by omega) n5 b5).mono (show H.n≤H2.n by omega) (.refl _);have gne:Xx Tryz.prog .neq 4 (.bool s) (.bool t)=some (.bool neg):=by rw[hneg];cases s<;>cases t<;>rfl
 refine Vt 21 (by decide) (by decide) Tryz.func56 rfl rfl rfl ?_;intro b1 hb1;apply Za;simp[Value.cells,Qy,zErr,Jv,e2];refine⟨_,_,⟨rfl,rfl⟩,?_⟩;subst hb1;apply Zb;intro b1 hb1;apply Za;simp[Gl,Ej q0,Ej q1,-Xx,gne];subst hb1;apply Zb;intro b1 hb1;apply Za;simp[Gt,Kw q0,Kw q1,Cq (b:=neg) ha.shape,Cp (x:=neg) ha.shape hb.shape,c3,st4,st5];subst hb1;apply Zn;simp[Kh];refine make1_cwd ⟨⟨_,rfl⟩,i3,j3⟩ q4' q5 (by omega) (by omega) (by omega) fun H6 hS=>?_;have r4:H6.blk (H.n+2)= .rw 1 [.bool S,p,q]:=by rw[hS.2.1 _ (by omega)];exact q4'
 have r5:H6.blk (H.n+3)= .rw 1 [.int .i64 0]:=by rw[hS.2.1 _ (by omega)];exact q5
 simp[Xk r4,Fy r5];exact⟨_,_,⟨rfl,rfl⟩,hS.keep k05 (by omega),hS.own o5,hS.own o6,ap⟩
end
end
theorem sBool:Qu Tryz.prog 4=some 1:=by kernel_rfl
theorem putB{H:AH}{b:Nat}{p q r:Value}{x:Bool}(hb:H.blk b= .rw 1 [p,q,r]): ∃H',Xu Tryz.prog H 4 (.pointer (some ⟨b,0,none⟩)) (.bool x)=some H'∧H'.n=H.n∧H'.blk b= .rw 1 [.bool x,q,r]∧(∀j,j≠b→H'.blk j=H.blk j)∧KAt b H H':=by obtain⟨H',st,q1,n1,o,ka,_⟩:=Bi (o:=0) sBool hb (v:= .bool x) (ws:=[.bool x]) rfl rfl (by simp) rfl;exact⟨H',st,n1,q1,o,ka⟩
section
attribute [-simp] Int.natCast_add Int.natCast_mul Int.natCast_ediv Int.natCast_emod Int.natCast_pow
attribute [local simp] strip Yg LW' LR gW Ym Xc Yb Xd Yp Xe Zt Zu Zi Yq Yz Yk Xj Zw Yr Zj Zg Xi Xh Qv Ye Xb opd Qc Yn plain Yj Tr.get_set Qb Zq Xx Yd sameKind undef Zv Ys Yw Zm Yc parts unV DW Xl Zz LX Zy
attribute [local simp] Qi Qw
section
variable {H : AH} {u v va vb : Value} {xs ys : List Nat} {A B : Nat}
theorem ratioAbs_call(neg:Bool)(ha:Sl H u (ds B64 A))(hb:Sl H v (ds B64 B))(hA:Ze A≤67108864)(hB:Ze B≤67108864)(hB0:0<B): ∃p q H',Zs Tryz.prog Zo 109 [.agg #[.bool neg,u,v]] H=some (.tuple #[.agg #[.bool false,p,q],.int .i64 0],H')∧Keep H H'∧Own H.n H' p (ds B64 (Yo neg A B).2.1)∧Own H.n H' q (ds B64 (Yo neg A B).2.2):=by
 obtain⟨r,hr⟩: ∃r,r=Yo neg A B:=⟨_,rfl⟩;suffices hs:CW Tryz.prog Zo 109 [.agg #[.bool neg,u,v]] H fun v H'=> ∃p q,v= .tuple #[.agg #[.bool false,p,q],.int .i64 0]∧Keep H H'∧Own H.n H' p (ds B64 r.2.1)∧Own H.n H' q (ds B64 r.2.2) by obtain⟨v,H',hc,p,q,rfl,k,o⟩:=hs;rw[←hr];exact⟨p,q,H',hc,k,o⟩
 obtain⟨H2,e2,k2,n2,q1,q2,q3⟩:=Dm H [.bool neg,u,v] [.bool false,.slice none 0 0,.slice none 0 0] [.int .i64 0];obtain⟨p,q,H3,c3,k3,o3,o4⟩:=Zi1 neg (ha.keep k2) (hb.keep k2) hA hB hB0;rw[←hr]at c3 o3 o4;have n3:=k3.n;have q2':=k3.blk _ (show H.n+1<H2.n by omega);rw[q2]at q2';have q3':=k3.blk _ (show H.n+2<H2.n by omega);rw[q3]at q3';obtain⟨i1,i2,i3⟩:=o3.trio;obtain⟨j1,j2,j3⟩:=o4.trio;obtain⟨S,N,D⟩:=r;simp only at c3 o3 o4⊢;obtain⟨H4,st4,n4,q4,b4,ka4⟩:=Ec (p:= .bool S) (q:=p) (r:=q) q2' rfl i1 j1 rfl i2 j2;obtain⟨H5,st5,n5,q5,b5,ka5⟩:=putB (x:=false) q4;obtain⟨H6,st6,n6,q6,b6,ka6⟩:=Ec (p:= .bool false) (q:=p) (r:=q) q5 rfl i1 j1 rfl i2 j2;have q3'':H6.blk (H.n+2)= .rw 1 [.int .i64 0]:=by rw[b6 _ (by omega),b5 _ (by omega),b4 _ (by omega)];exact q3'
 obtain⟨H7,st7,n7,q7,b7,ka7⟩:=putE (e:=0) q3'';have q6':H7.blk (H.n+1)= .rw 1 [.bool false,p,q]:=by rw[b7 _ (by omega)];exact q6
 have k07:Keep H H7:=ka7 H (ka6 H (ka5 H (ka4 H (k2.trans k3) (by omega)) (by omega)) (by omega)) (by omega);have o5:=((((o3.off (b:=H.n+1) (by omega) n4 b4).off (b:=H.n+1) (by omega) n5 b5).off (b:=H.n+1) (by omega) n6 b6).off (b:=H.n+2) (by omega) n7 b7).mono (show H.n≤H2.n by omega) (.refl _);have o6:=((((o4.off (b:=H.n+1) (by omega) n4 b4).off (b:=H.n+1) (by omega) n5 b5).off (b:=H.n+1) (by omega) n6 b6).off (b:=H.n+2) (by omega) n7 b7).mono (show H.n≤H2.n by omega) (.refl _);refine Vt 10 (by decide) (by decide) Tryz.func109 rfl rfl rfl ?_;intro b1 hb1;apply Za;simp[Value.cells,Qy,zErr,Jv,e2];refine⟨_,_,⟨rfl,rfl⟩,?_⟩;subst hb1;apply Zb;intro b1 hb1;apply Za;simp[Xk q1,c3,st4];subst hb1;apply Zb;intro b1 hb1;apply Za;simp[Fw,Gl,st5];subst hb1;apply Zb;intro b1 hb1;apply Za;simp[Xk q5,st6,st7];subst hb1;apply Zn;simp[Kh];refine abs1_cwd ⟨⟨_,rfl⟩,i3,j3⟩ q6' q7 (by omega) (by omega) (by omega) fun H8 hS=>?_;have r4:H8.blk (H.n+1)= .rw 1 [.bool false,p,q]:=by rw[hS.2.1 _ (by omega)];exact q6'
 have r5:H8.blk (H.n+2)= .rw 1 [.int .i64 0]:=by rw[hS.2.1 _ (by omega)];exact q7
 simp[Xk r4,Fy r5];exact⟨_,_,⟨rfl,rfl⟩,hS.keep k07 (by omega),hS.own o5,hS.own o6⟩
theorem Zg1(neg:Bool)(ha:Sl H u (ds B64 A))(hb:Sl H v (ds B64 B))(hA:Ze A≤67108864)(hB:Ze B≤67108864)(hB0:0<B): ∃p q H',Zs Tryz.prog Zo 108 [.agg #[.bool neg,u,v]] H=some (.tuple #[.agg #[.bool (sg (!(Yo neg A B).1) (Yo neg A B).2.1),p,q],.int .i64 0],H')∧Keep H H'∧Own H.n H' p (ds B64 (Yo neg A B).2.1)∧Own H.n H' q (ds B64 (Yo neg A B).2.2):=by
 obtain⟨r,hr⟩: ∃r,r=Yo neg A B:=⟨_,rfl⟩;suffices hs:CW Tryz.prog Zo 108 [.agg #[.bool neg,u,v]] H fun v H'=> ∃p q,v= .tuple #[.agg #[.bool (sg (!r.1) r.2.1),p,q],.int .i64 0]∧Keep H H'∧Own H.n H' p (ds B64 r.2.1)∧Own H.n H' q (ds B64 r.2.2) by obtain⟨v,H',hc,p,q,rfl,k,o⟩:=hs;rw[←hr];exact⟨p,q,H',hc,k,o⟩
 obtain⟨H2,e2,k2,n2,q1,q2,q3⟩:=Dm H [.bool neg,u,v] [.bool false,.slice none 0 0,.slice none 0 0] [.int .i64 0];obtain⟨p,q,H3,c3,k3,o3,o4⟩:=Zi1 neg (ha.keep k2) (hb.keep k2) hA hB hB0;rw[←hr]at c3 o3 o4;have n3:=k3.n;have q2':=k3.blk _ (show H.n+1<H2.n by omega);rw[q2]at q2';have q3':=k3.blk _ (show H.n+2<H2.n by omega);rw[q3]at q3';obtain⟨i1,i2,i3⟩:=o3.trio;obtain⟨j1,j2,j3⟩:=o4.trio;obtain⟨S,N,D⟩:=r;simp only at c3 o3 o4⊢;obtain⟨T,hT⟩: ∃T,T=sg (!S) N:=⟨_,rfl⟩;rw[←hT];obtain⟨H4,st4,n4,q4,b4,ka4⟩:=Ec (p:= .bool S) (q:=p) (r:=q) q2' rfl i1 j1 rfl i2 j2;obtain⟨H5,st5,n5,q5,b5,ka5⟩:=putB (x:=T) q4;obtain⟨H6,st6,n6,q6,b6,ka6⟩:=Ec (p:= .bool T) (q:=p) (r:=q) q5 rfl i1 j1 rfl i2 j2;have q3'':H6.blk (H.n+2)= .rw 1 [.int .i64 0]:=by rw[b6 _ (by omega),b5 _ (by omega),b4 _ (by omega)];exact q3'
 obtain⟨H7,st7,n7,q7,b7,ka7⟩:=putE (e:=0) q3'';have q6':H7.blk (H.n+1)= .rw 1 [.bool T,p,q]:=by rw[b7 _ (by omega)];exact q6
 have k07:Keep H H7:=ka7 H (ka6 H (ka5 H (ka4 H (k2.trans k3) (by omega)) (by omega)) (by omega)) (by omega);have l3:=o3.sl.len Zm;obtain⟨m,hm⟩: ∃m,m=(ds B64 N).length:=⟨_,rfl⟩;rw[←hm]at l3;have hmN:(0<m)↔0<N:=by rw[hm];exact Uu Yh
 have o5:=((((o3.off (b:=H.n+1) (by omega) n4 b4).off (b:=H.n+1) (by omega) n5 b5).off (b:=H.n+1) (by omega) n6 b6).off (b:=H.n+2) (by omega) n7 b7).mono (show H.n≤H2.n by omega) (.refl _);have o6:=((((o4.off (b:=H.n+1) (by omega) n4 b4).off (b:=H.n+1) (by omega) n5 b5).off (b:=H.n+1) (by omega) n6 b6).off (b:=H.n+2) (by omega) n7 b7).mono (show H.n≤H2.n by omega) (.refl _);refine Vt 21 (by decide) (by decide) Tryz.func108 rfl rfl rfl ?_;intro b1 hb1;apply Za;simp[Value.cells,Qy,zErr,Jv,e2];refine⟨_,_,⟨rfl,rfl⟩,?_⟩;subst hb1;apply Zb;intro b1 hb1;apply Za;simp[Xk q1,c3,st4];subst hb1;cases S with
  |true=>
   have:T=false:=by rw[hT];rfl
   subst this;apply Zb;intro b1 hb1;apply Za;simp[Fw,Gl,Zb8 q4,st5];subst hb1;apply Zb;intro b1 hb1;apply Za;simp[Xk q5,st6,st7];subst hb1;apply Zn;simp[Kh];refine neg1_cwd ⟨⟨_,rfl⟩,i3,j3⟩ q6' q7 (by omega) (by omega) (by omega) fun H8 hS=>?_;have r4:H8.blk (H.n+1)= .rw 1 [.bool false,p,q]:=by rw[hS.2.1 _ (by omega)];exact q6'
   have r5:H8.blk (H.n+2)= .rw 1 [.int .i64 0]:=by rw[hS.2.1 _ (by omega)];exact q7
   simp[Xk r4,Fy r5];exact⟨_,_,⟨rfl,rfl⟩,hS.keep k07 (by omega),hS.own o5,hS.own o6⟩
  |false=>
   have hg:Zd .gtr .i64 (m:Int) 0=some (.bool T):=by rw[gtr0,hT];unfold sg;rw[Bool.not_false,Bool.true_and,decide_eq_decide.mpr hmN]
   apply Zb;intro b1 hb1;apply Za;simp[Fw,Gl,Gt,Zb8 q4,Ud q4,l3,hg,st5];subst hb1;apply Zb;intro b1 hb1;apply Za;simp[Xk q5,st6,st7];subst hb1;apply Zn;simp[Kh];refine neg1_cwd ⟨⟨_,rfl⟩,i3,j3⟩ q6' q7 (by omega) (by omega) (by omega) fun H8 hS=>?_;have r4:H8.blk (H.n+1)= .rw 1 [.bool T,p,q]:=by rw[hS.2.1 _ (by omega)];exact q6'
   have r5:H8.blk (H.n+2)= .rw 1 [.int .i64 0]:=by rw[hS.2.1 _ (by omega)];exact q7
   simp[Xk r4,Fy r5];exact⟨_,_,⟨rfl,rfl⟩,hS.keep k07 (by omega),hS.own o5,hS.own o6⟩
end
end
theorem cmpN_le1(a b:Nat):Jq a b= -1∨Jq a b=0∨Jq a b=1:=by
 unfold Jq;split;·exact .inl rfl
 ·split;·exact .inr (.inr rfl)
  ·exact .inr (.inl rfl)
theorem Fv{a b:Nat}(h:a<b):Jq a b= -1:=by unfold Jq;rw[if_pos h]
theorem Fu{a b:Nat}(h:b<a):Jq a b=1:=by unfold Jq;rw[if_neg (by omega),if_pos h]
theorem Za6(a:Nat):Jq a a=0:=by unfold Jq;rw[if_neg (by omega),if_neg (by omega)]
theorem cmpN_swap(a b:Nat):Jq a b= -Jq b a:=by
 rcases Nat.lt_trichotomy a b with h|h|h;·rw[Fv h,Fu h]
 ·subst h;rw[Za6];rfl
 ·rw[Fu h,Fv h];rfl
theorem cmpN_add(a b c:Nat):Jq (a+c) (b+c)=Jq a b:=by
 rcases Nat.lt_trichotomy a b with h|h|h;·rw[Fv h,Fv (by omega)]
 ·subst h;rw[Za6,Za6]
 ·rw[Fu h,Fu (by omega)]
theorem cmp_parts{A B C D:Nat}(hB:0<B)(hD:0<D)(h:A/B<C/D):A*D<C*B:=by
 have h1:A<(A/B+1)*B:=by have:=Nat.div_add_mod A B;have:=Nat.mod_lt A hB;rw[Nat.add_mul,Nat.one_mul,Nat.mul_comm];omega
 have h2:C/D*D≤C:=Nat.div_mul_le_self C D;have h3:(A/B+1)*B≤C/D*B:=Nat.mul_le_mul_right _ h;have h4:A<C/D*B:=Nat.lt_of_lt_of_le h1 h3;have h5:A*D<C/D*B*D:=Nat.mul_lt_mul_of_pos_right h4 hD;have h6:C/D*B*D=C/D*D*B:=by rw[Nat.mul_right_comm]
 have h7:C/D*D*B≤C*B:=Nat.mul_le_mul_right _ h2;omega
theorem cmp_step{A B C D:Nat}(hB:0<B)(hD:0<D):Jq (A*D) (C*B)=if A/B=C/D then Jq (A%B*D) (C%D*B)else Jq (A/B) (C/D):=by
 split
 ·rename_i h;have h1:A*D=A%B*D+A/B*(B*D):=by
   conv=>lhs;rw[←Nat.div_add_mod A B]
   rw[Nat.add_mul,Nat.add_comm,Nat.mul_comm B (A/B),Nat.mul_assoc]
  have h2:C*B=C%D*B+A/B*(B*D):=by
   conv=>lhs;rw[←Nat.div_add_mod C D]
   rw[h,Nat.add_mul,Nat.add_comm,Nat.mul_comm D (C/D),Nat.mul_assoc,Nat.mul_comm D B]
  rw[h1,h2,cmpN_add]
 ·rename_i h;rcases Nat.lt_or_ge (A/B) (C/D)with h1|h1;·rw[Fv h1,Fv (cmp_parts hB hD h1)]
  ·have h1:C/D<A/B:=by omega
   rw[Fu h1,Fu (cmp_parts hD hB h1)]
section
attribute [-simp] Int.natCast_add Int.natCast_mul Int.natCast_ediv Int.natCast_emod Int.natCast_pow
attribute [local simp] strip Yg LW' LR gW Ym Xc Yb Xd Yp Xe Zt Zu Zi Yq Yz Yk Xj Zw Yr Zj Zg Xi Xh Qv Ye Xb opd Qc Yn plain Yj Tr.get_set Qb Zq Xx Yd sameKind undef Zv Ys Yw Zm Yc parts unV DW Xl Zz LX Zy
section
variable {H : AH} {u v va vb : Value} {xs ys : List Nat} {A B : Nat}
theorem Zo9(ha:Sl H u (ds B64 A))(hb:Sl H v (ds B64 B))(hA:Ze A≤67108864)(hB:Ze B≤67108864)(hB0:0<B): ∃p q H',Zs Tryz.prog Zo 161 [u,v] H=some (.tuple #[p,q],H')∧Keep H H'∧Own H.n H' p (ds B64 (A/B))∧Own H.n H' q (ds B64 (A%B)):=by
 suffices hs:CW Tryz.prog Zo 161 [u,v] H fun w H'=> ∃p q,w= .tuple #[p,q]∧Keep H H'∧Own H.n H' p (ds B64 (A/B))∧Own H.n H' q (ds B64 (A%B)) by obtain⟨v,H',hc,p,q,rfl,k,o⟩:=hs;exact⟨p,q,H',hc,k,o⟩
 obtain⟨w,H3,c3,k3,hm⟩:=both_spec ha hb (Xg Yh A) (Xg Yh B) (Zl hA) (Zl hB);rw[Xy Yh,Xy Yh]at hm;have h1:=Yf (Nat.div_le_self A B);have h2:=Yf (Nat.mod_le A B);rcases hm with⟨h,_⟩|⟨_,h,_⟩|⟨_,_,_,p,q,rfl,o1,o2,_⟩;·omega
 ·omega
 refine Zk 23 (by decide) (by decide) Tryz.func161 rfl rfl ?_;apply Zb;intro b1 hb1;apply Za;simp;subst hb1;apply Zb;intro b1 hb1;apply Za;simp[c3];subst hb1;apply Zb;intro b1 hb1;apply Zb;intro b2 hb2;apply Za;simp[Bd];subst hb2;refine Zc (t:=false) (by simp) ?_;apply Zf;subst hb1;apply Zb;intro b1 hb1;apply Za;simp;subst hb1;apply Zn;simp;exact⟨_,_,⟨rfl,rfl⟩,k3,o1,o2⟩
end
end
def sI(b:Bool):Int:=if b then-1 else 1
theorem mulS(b:Bool){c:Int}(hc:c= -1∨c=0∨c=1):Zd .mul .i64 (sI b) c=some (.int .i64 (sI b*c)):=by rcases hc with rfl|rfl|rfl<;>cases b<;>rfl
theorem negS(b:Bool):IntKind.i64.wrap (0-sI b)=sI (!b):=by cases b<;>rfl
theorem sI_not(b:Bool):sI (!b)= -sI b:=by cases b<;>rfl
theorem negS'(b:Bool):IntKind.i64.wrap (-sI b)=sI (!b):=by cases b<;>rfl
section
attribute [-simp] Int.natCast_add Int.natCast_mul Int.natCast_ediv Int.natCast_emod Int.natCast_pow
attribute [local simp] strip Yg LW' LR gW Ym Xc Yb Xd Yp Xe Zt Zu Zi Yq Yz Yk Xj Zw Yr Zj Zg Xi Xh Qv Ye Xb opd Qc Yn plain Yj Tr.get_set Qb Zq Xx Yd sameKind undef Zv Ys Yw Zm Yc parts unV DW Xl Zz LX Zy
section
variable {H : AH} {u v va vb : Value} {xs ys : List Nat}
theorem ratcmp_call{A0 B0 C0 D0:Nat}{v0 v1 v2 v3:Value}(h0:Sl H v0 (ds B64 A0))(h1:Sl H v1 (ds B64 B0))(h2:Sl H v2 (ds B64 C0))(h3:Sl H v3 (ds B64 D0))(lA:Ze A0≤67108864)(lB:Ze B0≤67108864)(lC:Ze C0≤67108864)(lD:Ze D0≤67108864)(hB:0<B0)(hD:0<D0): ∃H',Zs Tryz.prog Zo 122 [v0,v1,v2,v3] H=some (.int .i64 (Jq (A0*D0) (C0*B0)),H')∧Keep H H':=by
 obtain⟨R,hR⟩: ∃R,R=Jq (A0*D0) (C0*B0):=⟨_,rfl⟩;suffices h:CW Tryz.prog Zo 122 [v0,v1,v2,v3] H fun v H'=>v= .int .i64 R∧Keep H H' by obtain⟨v,H',hc,rfl,k⟩:=h;rw[←hR];exact⟨H',hc,k⟩
 refine Zk 61 (by decide) (by decide) Tryz.func122 rfl rfl ?_;apply Zb;intro b1 hb1;apply Za;simp;subst hb1;apply Zb;intro b1 hb1;apply Za;simp;subst hb1;apply Zp;refine Xo (fun n s'=>s'.k=61∧Keep H s'.H∧ ∃(A B C D:Nat) (g:Bool) (a b c d:Value),B+D=n∧0<B∧0<D∧Ze A≤67108864∧Ze B≤67108864∧Ze C≤67108864∧Ze D≤67108864∧R=sI g*Jq (A*D) (C*B)∧Sl s'.H a (ds B64 A)∧Sl s'.H b (ds B64 B)∧Sl s'.H c (ds B64 C)∧Sl s'.H d (ds B64 D)∧s'.tm.get 0=some a∧s'.tm.get 1=some b∧s'.tm.get 2=some c∧s'.tm.get 3=some d∧s'.tm.get 9=some (.int .i64 (sI g))) ?_ (B0+D0) _ ⟨rfl,.refl H,A0,B0,C0,D0,false,v0,v1,v2,v3,rfl,hB,hD,lA,lB,lC,lD,by rw[hR];simp[sI],h0,h1,h2,h3,by simp,by simp,by simp,by simp,by simp[sI]⟩;rintro n ⟨k,tm,H1⟩ ⟨hk,kH,A,B,C,D,g,a,b,c,d,hn,hB,hD,lA,lB,lC,lD,hRR,ha,hb,hc,hd,t0,t1,t2,t3,t9⟩ Q' hQ';simp only at hk kH ha hb hc hd t0 t1 t2 t3 t9;subst hk;obtain⟨p,x,H2,c2,k2,op,ox⟩:=Zo9 ha hb lA lB hB;obtain⟨q,y,H3,c3,k3,oq,oy⟩:=Zo9 (hc.keep k2) (hd.keep k2) lC lD hD;have op':=op.sl.keep k3;have ox':=ox.sl.keep k3;have hstep:=cmp_step (A:=A) (C:=C) hB hD;have lx:A%B<B:=Nat.mod_lt _ hB;have ly:C%D<D:=Nat.mod_lt _ hD;have bP:=Nat.le_trans (Yf (Nat.div_le_self A B)) lA;have bQ:=Nat.le_trans (Yf (Nat.div_le_self C D)) lC;have bX:=Nat.le_trans (Yf (Nat.le_of_lt lx)) lB;have bY:=Nat.le_trans (Yf (Nat.le_of_lt ly)) lD;obtain⟨vc,Hc,cc,ec,ec'⟩:=Gv op' oq.sl (Xg Yh _) (Xg Yh _) (Nat.le_trans (Zl bP) (by decide)) (Nat.le_trans (Zl bQ) (by decide));rw[Xy Yh,Xy Yh]at ec';rw[ec,ec']at cc;obtain⟨P,hP⟩: ∃P,P=A/B:=⟨_,rfl⟩;obtain⟨X,hX⟩: ∃X,X=A%B:=⟨_,rfl⟩;obtain⟨Q,hQ⟩: ∃Q,Q=C/D:=⟨_,rfl⟩;obtain⟨Y,hY⟩: ∃Y,Y=C%D:=⟨_,rfl⟩;rw[←hP,←hQ,←hX,←hY]at hstep;rw[←hP,←hQ]at cc;rw[←hX]at ox' lx bX;rw[←hY]at oy ly bY;have hcm:=cmpN_le1 P Q;obtain⟨cm,hcmE⟩: ∃cm,cm=Jq P Q:=⟨_,rfl⟩;rw[←hcmE]at cc hcm hstep;have gn:Zd .neq .i64 cm 0=some (.bool (decide (cm≠0))):=neqZZ;have k03:=kH.trans (k2.trans k3);apply Zb;intro b1 hb1;apply Zp;apply Zb;intro b2 hb2;apply Za;simp[t0,t1,c2];subst hb2;apply Zb;intro b2 hb2;apply Za;simp[t2,t3,c3];subst hb2;apply Zb;intro b2 hb2;apply Zb;intro b3 hb3;apply Za;simp[cc];subst hb3;apply Zb;intro b3 hb3;apply Za;simp[gn];subst hb3;by_cases hz:cm≠0;·have hne:P≠Q:=fun e=>hz (by rw[hcmE,e,Za6]);rw[if_neg hne]at hstep;rw[hstep]at hRR;refine Zc (t:=true) (by simp[hz]) ?_;apply Zb;intro b3 hb3;apply Za;simp[t9,mulS g hcm];subst hb3;apply Zn;simp[Xt,Xp];apply hQ';simp[Ch,Xp,Xt];exact⟨hRR.symm,k03⟩
 ·have hz0:cm=0:=by omega
  have heq:P=Q:=by
   rcases Nat.lt_trichotomy P Q with h|h|h;·rw[Fv h]at hcmE;omega
   ·exact h
   ·rw[Fu h]at hcmE;omega
  rw[if_pos heq]at hstep;rw[hstep]at hRR;refine Zc (t:=false) (by simp[hz0]) ?_;apply Zf;subst hb2;have lx1:=ox'.len Zm;have ly1:=oy.sl.len Zm;obtain⟨m1,hm1⟩: ∃m,m=(ds B64 X).length:=⟨_,rfl⟩;obtain⟨m2,hm2⟩: ∃m,m=(ds B64 Y).length:=⟨_,rfl⟩;rw[←hm1]at lx1;rw[←hm2]at ly1;have z1:m1=0↔X=0:=by rw[hm1];exact Vh Yh
  have z2:m2=0↔Y=0:=by rw[hm2];exact Vh Yh
  have e1:=Vg (k:= .i64) (x:=m1);have e2:=Vg (k:= .i64) (x:=m2);apply Zb;intro b2 hb2;apply Zp;by_cases hx0:m1=0
  ·have hX0:=z1.mp hx0;rw[decide_eq_true hx0]at e1;rw[hX0,Nat.zero_mul]at hRR;by_cases hy0:m2=0;·have hY0:=z2.mp hy0;rw[decide_eq_true hy0]at e2;rw[hY0,Nat.zero_mul,Za6,Int.mul_zero]at hRR;apply Zb;intro b3 hb3;apply Za;simp[lx1,e1,ly1,e2];subst hb3;refine Zc (t:=true) (by simp) ?_;apply Zb;intro b3 hb3;apply Za;simp;subst hb3;apply Zn;simp[Xt,Xp];apply hQ';simp[Ch,Xp,Xt];exact⟨hRR.symm,k03⟩
   ·have hY0:0<Y:=by have: ¬Y=0:=fun h=>hy0 (z2.mpr h);omega
    rw[decide_eq_false hy0]at e2;rw[Fv (Nat.mul_pos hY0 hB)]at hRR;have hRR:R=sI (!g):=by rw[hRR,sI_not];omega
    apply Zb;intro b3 hb3;apply Za;simp[lx1,e1,ly1,e2];subst hb3;refine Zc (t:=false) (by simp) ?_;apply Zb;intro b3 hb3;apply Za;simp[lx1,e1];subst hb3;refine Zc (t:=true) (by simp) ?_;apply Zb;intro b3 hb3;apply Za;simp[t9,negS,negS'];subst hb3;apply Zn;simp[Xt,Xp];apply hQ';simp[Ch,Xp,Xt];exact⟨hRR.symm,k03⟩
  ·have hX0:0<X:=by have: ¬X=0:=fun h=>hx0 (z1.mpr h);omega
   rw[decide_eq_false hx0]at e1;by_cases hy0:m2=0;·have hY0:=z2.mp hy0;rw[decide_eq_true hy0]at e2;rw[hY0,Nat.zero_mul,Fu (Nat.mul_pos hX0 hD),Int.mul_one]at hRR;apply Zb;intro b3 hb3;apply Za;simp[lx1,e1];subst hb3;refine Zc (t:=false) (by simp) ?_;apply Zb;intro b3 hb3;apply Za;simp[lx1,e1];subst hb3;refine Zc (t:=false) (by simp) ?_;apply Zb;intro b3 hb3;apply Za;simp[ly1,e2];subst hb3;refine Zc (t:=true) (by simp) ?_;apply Zb;intro b3 hb3;apply Za;simp[t9];subst hb3;apply Zn;simp[Xt,Xp];apply hQ';simp[Ch,Xp,Xt];exact⟨hRR.symm,k03⟩
   ·have hY0:0<Y:=by have: ¬Y=0:=fun h=>hy0 (z2.mpr h);omega
    rw[decide_eq_false hy0]at e2;have hRR:R=sI (!g)*Jq (B*Y) (D*X):=by rw[hRR,sI_not,cmpN_swap,Nat.mul_comm Y B,Nat.mul_comm X D,Int.neg_mul,Int.mul_neg]
    apply Zb;intro b3 hb3;apply Za;simp[lx1,e1];subst hb3;refine Zc (t:=false) (by simp) ?_;apply Zb;intro b3 hb3;apply Za;simp[lx1,e1];subst hb3;refine Zc (t:=false) (by simp) ?_;apply Zb;intro b3 hb3;apply Za;simp[ly1,e2];subst hb3;refine Zc (t:=false) (by simp) ?_;apply Zf;subst hb2;apply Za;simp[t1,t3];subst hb1;apply Za;simp[t9,negS,negS'];apply hQ';exact⟨X+Y,by omega,rfl,k03,B,X,D,Y,!g,b,x,d,y,rfl,hX0,hY0,lB,bX,lD,bY,hRR,(hb.keep k2).keep k3,ox',(hd.keep k2).keep k3,oy.sl,by simp,by simp,by simp,by simp,by simp⟩
end
end
def Ga(base:Nat)(l:List Nat)(ms:List (Nat×Nat×Nat)):Prop:= ∀x∈ms,x.1∈l∧base≤x.2.1
theorem Ga.nil(base:Nat):Ga base [] []:=fun x hx=>by cases hx
theorem Ga.cons{base i a b:Nat}{l:List Nat}{ms:List (Nat×Nat×Nat)}(h:Ga base l ms)(ha:base≤a):Ga base (i::l) (cond (Nat.blt a b) ((i,a,b)::ms) ms):=fun x hx=>by cases hb:Nat.blt a b with
 |false=>rw[hb,cond_false]at hx;exact⟨List.mem_cons_of_mem _ (h x hx).1,(h x hx).2⟩
 |true=>
  rw[hb,cond_true]at hx;rcases List.mem_cons.mp hx with e|e;·rw[e];exact⟨List.mem_cons_self ..,ha⟩
  ·exact⟨List.mem_cons_of_mem _ (h x e).1,(h x e).2⟩
theorem Ga.hid{base:Nat}{l:List Nat}{ms:List (Nat×Nat×Nat)}(h:Ga base l ms){bits:Nat}(hb:l.all (fun i=>bits.testBit i)=true):hidden bits ms=[]:=Xa fun x hx=>List.all_eq_true.mp hb _ (h x hx).1
theorem Ga.ge{base:Nat}{l:List Nat}{ms:List (Nat×Nat×Nat)}(h:Ga base l ms): ∀x∈ms,base≤x.2.1:=fun x hx=>(h x hx).2
def cmpQ(s:Bool)(A B:Nat)(t:Bool)(C D:Nat):Int:=if Ua s A≠Ua t C then(if Ua s A<Ua t C then-1 else 1)else Ua s A*Jq (A*D) (C*B)
theorem lssZZ{x y:Int} :Zd .lss .i64 x y=some (.bool (decide (x<y))):=rfl
theorem Am(s:Bool)(A:Nat):Ua s A= -1∨Ua s A=0∨Ua s A=1:=by
 unfold Ua;split;·exact .inr (.inl rfl)
 ·split;·exact .inl rfl
  ·exact .inr (.inr rfl)
theorem mulZ3{a c:Int}(ha:a= -1∨a=0∨a=1)(hc:c= -1∨c=0∨c=1):Zd .mul .i64 a c=some (.int .i64 (a*c)):=by rcases ha with rfl|rfl|rfl<;>rcases hc with rfl|rfl|rfl<;>rfl
section
attribute [-simp] Int.natCast_add Int.natCast_mul Int.natCast_ediv Int.natCast_emod Int.natCast_pow
attribute [local simp] strip Yg LW' LR gW Ym Xc Yb Xd Yp Xe Zt Zu Zi Yq Yz Yk Xj Zw Yr Zj Zg Xi Xh Qv Ye Xb opd Qc Yn plain Yj Tr.get_set Qb Zq Xx Yd sameKind undef Zv Ys Yw Zm Yc parts unV DW Xl Zz LX Zy
attribute [local simp] Qi Qw
section
variable {H : AH} {u v w z : Value}
theorem Fa(s t:Bool){A B C D:Nat}(ha:Sl H u (ds B64 A))(hb:Sl H v (ds B64 B))(hc:Sl H w (ds B64 C))(hd:Sl H z (ds B64 D))(lA:Ze A≤67108864)(lB:Ze B≤67108864)(lC:Ze C≤67108864)(lD:Ze D≤67108864)(hB:0<B)(hD:0<D): ∃H',Zs Tryz.prog Zo 80 [.agg #[.bool s,u,v],.agg #[.bool t,w,z]] H=some (.tuple #[.int .i64 (cmpQ s A B t C D),.int .i64 0],H')∧Keep H H':=by
 obtain⟨R,hR⟩: ∃R,R=cmpQ s A B t C D:=⟨_,rfl⟩;suffices h:CW Tryz.prog Zo 80 [.agg #[.bool s,u,v],.agg #[.bool t,w,z]] H fun r H'=>r= .tuple #[.int .i64 R,.int .i64 0]∧Keep H H' by obtain⟨r,H',hc,rfl,k⟩:=h;rw[←hR];exact⟨H',hc,k⟩
 unfold cmpQ at hR;obtain⟨H2,e2,k2,n2,q0,q1,q2,q3⟩:=boxes4 H [.bool s,u,v] [.bool t,w,z] [.int .i64 0] [.int .i64 0];have k3:=Keep.new H2 3 [.bool s,u,v,.bool t,w,z];obtain⟨H4,c4,k4⟩:=Gn (looks2 (ha.trio hb (s:=s)) ((hb.keep k2).keep k3) lB hB (hc.trio hd (s:=t)) ((hd.keep k2).keep k3) lD hD) (by decide);obtain⟨H3,hH3⟩: ∃H3,H3=H2.new 3 [.bool s,u,v,.bool t,w,z]:=⟨_,rfl⟩;rw[←hH3]at k3 c4 k4;have k24:=k3.trans k4;have k04:=k2.trans k24;have n4:=k24.n;have r0:H4.blk H.n= .rw 1 [.bool s,u,v]:=by rw[k24.blk _ (by omega)];exact q0
 have r1:H4.blk (H.n+1)= .rw 1 [.bool t,w,z]:=by rw[k24.blk _ (by omega)];exact q1
 obtain⟨E1,c5,kE1⟩:=Zi3 s ((ha.keep k04).top) hb.shape lA;obtain⟨G1,hG1⟩: ∃G1,G1=grown H4 E1:=⟨_,rfl⟩;have kG1:Keep H4 G1:=by rw[hG1];exact Zr (.refl H4) kE1
 have nE1:H4.n≤E1.n:=kE1.n;obtain⟨E2,c6,kE2⟩:=Zi3 t ((hc.keep (k04.trans kG1)).top) hd.shape lC;obtain⟨G2,hG2⟩: ∃G2,G2=grown G1 E2:=⟨_,rfl⟩;have kG2:Keep G1 G2:=by rw[hG2];exact Zr (.refl G1) kE2
 have nE2:G1.n≤E2.n:=kE2.n;have kH:=kG1.trans kG2;have ng:=kH.n;have sx:=Am s A;obtain⟨x,hx⟩: ∃x,x=Ua s A:=⟨_,rfl⟩;obtain⟨y,hy⟩: ∃y,y=Ua t C:=⟨_,rfl⟩;rw[←hx]at c5 hR sx;rw[←hy]at c6 hR;have l2: ∀bits ms,(∀x∈ms,H4.n≤x.2.1)→Yt Tryz.prog (vis G1 bits ms) 34 (.pointer (some ⟨H.n+1,0,none⟩))=some (.agg #[.bool t,w,z]):=fun bits ms h=>Xk (by rw[(Qq kG1 h).blk _ (by omega)];exact r1);have k0G:=k04.trans kH;have f0:G2.blk H.n= .rw 1 [.bool s,u,v]:=by rw[kH.blk _ (by omega)];exact r0
 have f1:G2.blk (H.n+1)= .rw 1 [.bool t,w,z]:=by rw[kH.blk _ (by omega)];exact r1
 have f2:G2.blk (H.n+2)= .rw 1 [.int .i64 0]:=by rw[(k24.trans kH).blk _ (by omega)];exact q2
 have f3:G2.blk (H.n+3)= .rw 1 [.int .i64 0]:=by rw[(k24.trans kH).blk _ (by omega)];exact q3
 have gn:Zd .neq .i64 x y=some (.bool (decide (x≠y))):=neqZZ;have gl:Zd .lss .i64 x y=some (.bool (decide (x<y))):=lssZZ;have early: ∀a:Int,∃F1 F2,Xu Tryz.prog G2 3 (.pointer (some ⟨H.n+2,0,none⟩)) (.int .i64 a)=some F1∧Xu Tryz.prog F1 23 (.pointer (some ⟨H.n+3,0,none⟩)) (.int .i64 0)=some F2∧F2.blk (H.n+2)= .rw 1 [.int .i64 a]∧F2.blk (H.n+3)= .rw 1 [.int .i64 0]∧Keep H F2∧F2.n=G2.n:=fun a=>by
  obtain⟨F1,st1,m1,p1,b1,ka1⟩:=putI (e:=a) f2;have f3':F1.blk (H.n+3)= .rw 1 [.int .i64 0]:=by rw[b1 _ (by omega)];exact f3
  obtain⟨F2,st2,m2,p2,b2,ka2⟩:=putE (e:=0) f3';exact⟨F1,F2,st1,st2,by rw[b2 _ (by omega)];exact p1,p2,ka2 H (ka1 H k0G (by omega)) (by omega),by omega⟩
 refine Vt 40 (by decide) (by decide) Tryz.func80 rfl rfl rfl ?_;intro b1 hb1;apply Za;simp[Value.cells,zInt,zErr,Jv,e2];refine⟨_,_,⟨rfl,rfl⟩,?_⟩;subst hb1;apply Zb;intro b1 hb1;apply Za;simp[Xk q0,Xk q1,Zj5,←hH3,c4];subst hb1;apply Zb;intro b1 hb1;apply Qk (by kernel_rfl);simp;refine Zx (v:= .agg #[.bool s,u,v]) rfl rfl rfl (by rw[Zh rfl];simp[Xk (H:=H4.top) r0]) ?_;simp;refine Yi (v:= .int .i64 x) (H2:=E1) rfl rfl rfl (by rw[Zh rfl];simp[c5]) nE1 (Yl kE1) ?_;rw[←hG1];have ms1:=(Ga.nil H4.n).cons (i:=1) (a:=H4.n) (b:=E1.n) (Nat.le_refl _);generalize cond (Nat.blt H4.n E1.n) _ _=ms at ms1;simp;refine Zx (v:= .agg #[.bool t,w,z]) rfl rfl rfl (by simp[l2 _ ms ms1.ge]) ?_;simp;refine Yi (v:= .int .i64 y) (H2:=E2) rfl rfl rfl ?_ nE2 (Yl kE2) ?_;·rw[Zh (ms1.hid (by kernel_rfl))];simp[c6]
 rw[←hG2];simp;subst hb1;clear ms1;apply Zb;intro b1 hb1;apply Zb;intro b2 hb2;apply Za;simp[gn];subst hb2;by_cases hxy:x≠y
 ·rw[if_pos hxy]at hR;refine Zc (t:=true) (by simp[hxy]) ?_;apply Zb;intro b2 hb2;apply Zb;intro b3 hb3;apply Za;simp[gl];subst hb3;by_cases hlt:x<y
  ·rw[if_pos hlt]at hR;subst hR;obtain⟨F1,F2,st1,st2,p1,p2,kF,nF⟩:=early (-1);refine Zc (t:=true) (by simp[hlt]) ?_;apply Zb;intro b3 hb3;apply Za;simp[st1,st2];subst hb3;apply Zn;simp[Xt,Kh];refine Bo p1 p2 (by omega) (by omega) (by omega) fun H8 hS=>?_;have z4:H8.blk (H.n+2)= .rw 1 [.int .i64 (-1)]:=by rw[hS.2.1 _ (by omega)];exact p1
   have z5:H8.blk (H.n+3)= .rw 1 [.int .i64 0]:=by rw[hS.2.1 _ (by omega)];exact p2
   simp[loadI z4,Fy z5];exact hS.keep kF (by omega)
  ·rw[if_neg hlt]at hR;subst hR;obtain⟨F1,F2,st1,st2,p1,p2,kF,nF⟩:=early 1;refine Zc (t:=false) (by simp[hlt]) ?_;apply Zf;subst hb2;apply Zb;intro b2 hb2;apply Za;simp[st1,st2];subst hb2;apply Zn;simp[Xt,Kh];refine Bo p1 p2 (by omega) (by omega) (by omega) fun H8 hS=>?_;have z4:H8.blk (H.n+2)= .rw 1 [.int .i64 1]:=by rw[hS.2.1 _ (by omega)];exact p1
   have z5:H8.blk (H.n+3)= .rw 1 [.int .i64 0]:=by rw[hS.2.1 _ (by omega)];exact p2
   simp[loadI z4,Fy z5];exact hS.keep kF (by omega)
 ·have hxy0:x=y:=Decidable.not_not.mp hxy;rw[if_neg hxy]at hR;refine Zc (t:=false) (by simp[hxy0]) ?_;apply Zf;subst hb1;obtain⟨g1,I1,d1,kI1,oI1⟩:=Kc ((ha.keep k0G).top) (Xg Yh A) (Nat.le_trans (Zl lA) (by decide));obtain⟨J1,hJ1⟩: ∃J,J=grown G2 I1:=⟨_,rfl⟩;have kJ1:Keep G2 J1:=by rw[hJ1];exact Zr (.refl _) kI1
  obtain⟨g2,I2,d2,kI2,oI2⟩:=Kc ((hb.keep (k0G.trans kJ1)).top) (Xg Yh B) (Nat.le_trans (Zl lB) (by decide));obtain⟨J2,hJ2⟩: ∃J,J=grown J1 I2:=⟨_,rfl⟩;have kJ2:Keep J1 J2:=by rw[hJ2];exact Zr (.refl _) kI2
  have kk2:=kJ1.trans kJ2;obtain⟨g3,I3,d3,kI3,oI3⟩:=Kc ((hc.keep (k0G.trans kk2)).top) (Xg Yh C) (Nat.le_trans (Zl lC) (by decide));obtain⟨J3,hJ3⟩: ∃J,J=grown J2 I3:=⟨_,rfl⟩;have kJ3:Keep J2 J3:=by rw[hJ3];exact Zr (.refl _) kI3
  have kk3:=kk2.trans kJ3;obtain⟨g4,I4,d4,kI4,oI4⟩:=Kc ((hd.keep (k0G.trans kk3)).top) (Xg Yh D) (Nat.le_trans (Zl lD) (by decide));obtain⟨J4,hJ4⟩: ∃J,J=grown J3 I4:=⟨_,rfl⟩;have kJ4:Keep J3 J4:=by rw[hJ4];exact Zr (.refl _) kI4
  have kk4:=kk3.trans kJ4;rw[Xy Yh]at oI1 oI2 oI3 oI4;have s1:Sl J4 g1 (ds B64 A):=((((by rw[hJ1];exact oI1.same (Ya kI1):Own G2.top.n J1 g1 (ds B64 A)).sl.keep kJ2).keep kJ3).keep kJ4);have s2:Sl J4 g2 (ds B64 B):=(((by rw[hJ2];exact oI2.same (Ya kI2):Own J1.top.n J2 g2 (ds B64 B)).sl.keep kJ3).keep kJ4);have s3:Sl J4 g3 (ds B64 C):=((by rw[hJ3];exact oI3.same (Ya kI3):Own J2.top.n J3 g3 (ds B64 C)).sl.keep kJ4);have s4:Sl J4 g4 (ds B64 D):=(by rw[hJ4];exact oI4.same (Ya kI4):Own J3.top.n J4 g4 (ds B64 D)).sl;obtain⟨I5,d5,kI5⟩:=ratcmp_call s1.top s2.top s3.top s4.top lA lB lC lD hB hD;obtain⟨J5,hJ5⟩: ∃J,J=grown J4 I5:=⟨_,rfl⟩;have kJ5:Keep J4 J5:=by rw[hJ5];exact Zr (.refl _) kI5
  have kk5:=kk4.trans kJ5;have m1:G2.n≤I1.n:=kI1.n;have m2:J1.n≤I2.n:=kI2.n;have m3:J2.n≤I3.n:=kI3.n;have m4:J3.n≤I4.n:=kI4.n;have m5:J4.n≤I5.n:=kI5.n;have nk1:=kJ1.n;have nk2:=kk2.n;have nk3:=kk3.n;have nk4:=kk4.n;have nk5:=kk5.n;obtain⟨cm,hcm⟩: ∃cm,cm=Jq (A*D) (C*B):=⟨_,rfl⟩;rw[←hcm]at d5 hR;have gm:=mulZ3 sx (show cm= -1∨cm=0∨cm=1 by rw[hcm];exact cmpN_le1 _ _);rw[←hR]at gm;have vk: ∀{J:AH}(k:Keep G2 J){bits ms},(∀x∈ms,G2.n≤x.2.1)→ ∀b,b<G2.n→(vis J bits ms).blk b=G2.blk b:=fun k _ _ h b hb=>(Qq k h).blk b hb;have w2:J5.blk (H.n+2)= .rw 1 [.int .i64 0]:=by rw[kk5.blk _ (by omega)];exact f2
  have w3:J5.blk (H.n+3)= .rw 1 [.int .i64 0]:=by rw[kk5.blk _ (by omega)];exact f3
  obtain⟨S1,st1,sn1,slw1,fn1,fb1,fo1,fk1⟩:=Gf (v:= .int .i64 R) (ws:=[.int .i64 R]) sInt w2 (by omega) rfl rfl rfl rfl;obtain⟨F1,hF1⟩: ∃F1,F1=low J5 S1:=⟨_,rfl⟩;rw[←hF1]at fn1 fb1 fo1 fk1;have w3':F1.blk (H.n+3)= .rw 1 [.int .i64 0]:=by rw[fo1 _ (by omega)];exact w3
  obtain⟨S2,st2,sn2,slw2,fn2,fb2,fo2,fk2⟩:=Gf (v:= .int .i64 0) (ws:=[.int .i64 0]) sErr w3' (by omega) rfl rfl rfl rfl;obtain⟨F,hF⟩: ∃F,F=low F1 S2:=⟨_,rfl⟩;rw[←hF]at fn2 fb2 fo2 fk2;have p1:F.blk (H.n+2)= .rw 1 [.int .i64 R]:=by rw[fo2 _ (by omega)];exact fb1
  have kF:Keep H F:=fk2 H (fk1 H (k0G.trans kk5) (by omega)) (by omega);apply Zb;intro b1 hb1;apply Qk (by kernel_rfl);simp[Fw,Gt];refine Zx (v:=u) rfl rfl rfl (by rw[Zh rfl];simp[Ud (H:=G2.top) f0]) ?_;simp;refine Yi (v:=g1) (H2:=I1) rfl rfl rfl (by rw[Zh rfl];simp[d1]) m1 (Yl kI1) ?_;rw[←hJ1];have ms1:=(Ga.nil G2.n).cons (i:=4) (a:=G2.n) (b:=I1.n) (Nat.le_refl _);generalize cond (Nat.blt G2.n I1.n) _ _=ms at ms1;simp[faQ1];refine Zx (v:=v) rfl rfl rfl (by simp[Uy ((vk kJ1 ms1.ge _ (by omega)).trans f0)]) ?_;simp;refine Yi (v:=g2) (H2:=I2) rfl rfl rfl (by rw[Zh (ms1.hid (by kernel_rfl))];simp[d2]) m2 (Yl kI2) ?_;rw[←hJ2];have ms2:=ms1.cons (i:=7) (a:=J1.n) (b:=I2.n) (by omega);generalize cond (Nat.blt J1.n I2.n) _ _=ms' at ms2;simp[Fw,Gt];refine Zx (v:=w) rfl rfl rfl (by simp[Ud ((vk kk2 ms2.ge _ (by omega)).trans f1)]) ?_;simp;refine Yi (v:=g3) (H2:=I3) rfl rfl rfl (by rw[Zh (ms2.hid (by kernel_rfl))];simp[d3]) m3 (Yl kI3) ?_;rw[←hJ3];have ms3:=ms2.cons (i:=11) (a:=J2.n) (b:=I3.n) (by omega);generalize cond (Nat.blt J2.n I3.n) _ _=ms'' at ms3;simp[faQ1];refine Zx (v:=z) rfl rfl rfl (by simp[Uy ((vk kk3 ms3.ge _ (by omega)).trans f1)]) ?_;simp;refine Yi (v:=g4) (H2:=I4) rfl rfl rfl (by rw[Zh (ms3.hid (by kernel_rfl))];simp[d4]) m4 (Yl kI4) ?_;rw[←hJ4];have ms4:=ms3.cons (i:=14) (a:=J3.n) (b:=I4.n) (by omega);generalize cond (Nat.blt J3.n I4.n) _ _=ms4' at ms4;simp;refine Yi (v:= .int .i64 cm) (H2:=I5) rfl rfl rfl (by rw[Zh (ms4.hid (by kernel_rfl))];simp[d5]) m5 (Yl kI5) ?_;rw[←hJ5];have ms5:=ms4.cons (i:=15) (a:=J4.n) (b:=I5.n) (by omega);generalize cond (Nat.blt J4.n I5.n) _ _=ms5' at ms5;simp[gm];refine Xn (v:= .tuple #[]) (H2:=S1) rfl rfl (by kernel_rfl) (ms5.hid (by kernel_rfl)) ?_ (by omega) slw1 ?_;·show Ym _ _ _ _ J5.top _=_;simp[st1]
  rw[show({ n:=S1.n,lw:=min J5.lw S1.lw,t:=S1.t } :AH)=F1 from hF1.symm];rw[show Nat.blt J5.n S1.n=false from by rw[sn1];exact Qh _,cond_false];simp;refine Xn (v:= .tuple #[]) (H2:=S2) rfl rfl (by kernel_rfl) (ms5.hid (by kernel_rfl)) ?_ (by omega) slw2 ?_;·show Ym _ _ _ _ F1.top _=_;simp[st2]
  rw[show({ n:=S2.n,lw:=min F1.lw S2.lw,t:=S2.t } :AH)=F from hF.symm];simp;subst hb1;apply Zn;simp[Kh];refine Bo p1 fb2 (by omega) (by omega) (by omega) fun H8 hS=>?_;have z4:H8.blk (H.n+2)= .rw 1 [.int .i64 R]:=by rw[hS.2.1 _ (by omega)];exact p1
  have z5:H8.blk (H.n+3)= .rw 1 [.int .i64 0]:=by rw[hS.2.1 _ (by omega)];exact fb2
  simp[loadI z4,Fy z5];exact hS.keep kF (by omega)
end
end
theorem aFold:Jn Tryz.prog 57=some true:=by kernel_rfl
theorem Za2:Qu Tryz.prog 57=some 4:=by kernel_rfl
theorem Vf:Ut Tryz.prog 57=some (.agg #[.int .i64 0,.bool false,.slice none 0 0,.slice none 0 0]):=by kernel_rfl
theorem aKind:Jn Tryz.prog 55=some false:=by kernel_rfl
theorem Ax{H:AH}{b:Nat}{k p q r:Value}(hb:H.blk b= .rw 1 [k,p,q,r]):Yt Tryz.prog H 57 (.pointer (some ⟨b,0,none⟩))=some (.agg #[k,p,q,r]):=by unfold Yt;simp only[aFold,Za2,AH.read_def,hb];simp[AH.cells_rw' hb,show Nat.ble 4 4=true from rfl]
theorem Ab{H:AH}{b:Nat}{k p q r:Value}(hb:H.blk b= .rw 1 [k,p,q,r]):Yt Tryz.prog H 55 (.pointer (some ⟨b,0,none⟩))=some k:=Yv aKind (AH.cells_rw' hb (by decide)) rfl
theorem loadFQ{H:AH}{b:Nat}{k p q r:Value}(hb:H.blk b= .rw 1 [k,p,q,r]):Yt Tryz.prog H 34 (.pointer (some ⟨b,1,none⟩))=some (.agg #[p,q,r]):=Zh3 (AH.cells_rw' hb (by decide)) rfl rfl
theorem faF0(b:Nat):Xf Tryz.prog 57 (.pointer (some ⟨b,0,none⟩)) 0=some (.pointer (some ⟨b,0,none⟩)):=by kernel_rfl
theorem faF1(b:Nat):Xf Tryz.prog 57 (.pointer (some ⟨b,0,none⟩)) 1=some (.pointer (some ⟨b,1,none⟩)):=by kernel_rfl
theorem putF{H:AH}{b:Nat}{k' p' q' r' p q r:Value}{k:Int}(hb:H.blk b= .rw 1 [k',p',q',r'])(ht:Gu p q r): ∃H',Xu Tryz.prog H 57 (.pointer (some ⟨b,0,none⟩)) (.agg #[.int .i64 k,p,q,r])=some H'∧H'.n=H.n∧H'.blk b= .rw 1 [.int .i64 k,p,q,r]∧(∀j,j≠b→H'.blk j=H.blk j)∧KAt b H H':=by obtain⟨⟨s,rfl⟩,⟨a1,l1,c1,rfl⟩,⟨a2,l2,c2,rfl⟩⟩:=ht;exact Cu Za2 hb rfl rfl rfl rfl
theorem bFold{p q r:Value}{k:Int}(ht:Gu p q r):Ub Tryz.prog 57 [(0,.int .i64 k),(1,.agg #[p,q,r])]=some (.agg #[.int .i64 k,p,q,r]):=by obtain⟨⟨s,rfl⟩,⟨a1,l1,c1,rfl⟩,⟨a2,l2,c2,rfl⟩⟩:=ht;rfl
theorem bFold0:Ub Tryz.prog 57 []=some (.agg #[.int .i64 0,.bool false,.slice none 0 0,.slice none 0 0]):=by rfl
section
attribute [-simp] Int.natCast_add Int.natCast_mul Int.natCast_ediv Int.natCast_emod Int.natCast_pow
attribute [local simp] strip Yg LW' LR gW Ym Xc Yb Xd Yp Xe Zt Zu Zi Yq Yz Yk Xj Zw Yr Zj Zg Xi Xh Qv Ye Xb opd Qc Yn plain Yj Tr.get_set Qb Zq Xx Yd sameKind undef Zv Ys Yw Zm Yc parts unV DW Xl Zz LX Zy
section
variable {H : AH} {u v w z : Value}
theorem Va(H:AH): ∃H',Zs Tryz.prog Zo 152 [] H=some (.agg #[.int .i64 0,.bool false,.slice none 0 0,.slice none 0 0],H')∧Keep H H':=by
 suffices h:CW Tryz.prog Zo 152 [] H fun v H'=>v= .agg #[.int .i64 0,.bool false,.slice none 0 0,.slice none 0 0]∧Keep H H' by obtain⟨v,H',hc,rfl,k⟩:=h;exact⟨H',hc,k⟩
 obtain⟨H2,e2,k2,n2,q1⟩:=Vn H [.int .i64 0,.bool false,.slice none 0 0,.slice none 0 0];obtain⟨H3,st3,n3,q3,b3,ka3⟩:=putF (k:=0) q1 (p:= .bool false) (q:= .slice none 0 0) (r:= .slice none 0 0) ⟨⟨_,rfl⟩,⟨_,_,_,rfl⟩,⟨_,_,_,rfl⟩⟩;have k03:Keep H H3:=ka3 H k2 (by omega);have hld:=Ax q3;refine Zk 2 (by decide) (by decide) Tryz.func152 rfl rfl ?_;apply Zb;intro b1 hb1;apply Za;simp[Value.cells,Vf,e2];subst hb1;apply Zb;intro b1 hb1;apply Za;simp[bFold0,st3];subst hb1;apply Zn;simp[hld];exact k03
theorem Gr{p q r:Value}(ht:Gu p q r)(H:AH): ∃H',Zs Tryz.prog Zo 151 [.agg #[p,q,r],.int .i64 0] H=some (.agg #[.int .i64 1,p,q,r],H')∧Keep H H':=by
 suffices h:CW Tryz.prog Zo 151 [.agg #[p,q,r],.int .i64 0] H fun v H'=>v= .agg #[.int .i64 1,p,q,r]∧Keep H H' by obtain⟨v,H',hc,rfl,k⟩:=h;exact⟨H',hc,k⟩
 have ht':=ht;obtain⟨H2,e2,k2,n2,q1,q2⟩:=Qz H [p,q,r] [.int .i64 0,.bool false,.slice none 0 0,.slice none 0 0];obtain⟨H3,st3,n3,q3,b3,ka3⟩:=putF (k:=1) q2 ht;have k03:Keep H H3:=ka3 H k2 (by omega);have hld:=Ax q3;have hbd:=bFold (k:=1) ht;obtain⟨⟨s,rfl⟩,⟨a1,l1,c1,rfl⟩,⟨a2,l2,c2,rfl⟩⟩:=ht';refine Zk 10 (by decide) (by decide) Tryz.func151 rfl rfl ?_;apply Zb;intro b1 hb1;apply Za;simp[Value.cells,Vf,Jv,e2];subst hb1;apply Zb;intro b1 hb1;apply Zb;intro b2 hb2;apply Za;simp[Bd];subst hb2;refine Zc (t:=false) (by simp) ?_;apply Zf;subst hb1;apply Zb;intro b1 hb1;apply Za;simp[Xk q1,hbd,st3];subst hb1;apply Zn;simp[hld];exact k03
end
section
variable {H : AH} {u v w z : Value}
theorem Ur(s:Bool){A B:Nat}(ha:Sl H u (ds B64 A))(hb:Sl H v (ds B64 B))(lA:Ze A≤67108864)(lB:Ze B≤67108864)(hB:0<B): ∃H',Zs Tryz.prog Zo 153 [.agg #[.int .i64 1,.bool s,u,v]] H=some (.int .i64 (Ua s A),H')∧Keep H H':=by
 suffices h:CW Tryz.prog Zo 153 [.agg #[.int .i64 1,.bool s,u,v]] H fun r H'=>r= .int .i64 (Ua s A)∧Keep H H' by obtain⟨v,H',hc,rfl,k⟩:=h;exact⟨H',hc,k⟩
 obtain⟨H2,e2,k2,n2,q1⟩:=Vn H [.int .i64 1,.bool s,u,v];obtain⟨H3,c3,k3⟩:=Zc3 s (ha.keep k2) (hb.keep k2) lA lB hB;obtain⟨S,hS⟩: ∃S,S=Ua s A:=⟨_,rfl⟩;rw[←hS]at c3⊢;refine Zk 15 (by decide) (by decide) Tryz.func153 rfl rfl ?_;apply Zb;intro b1 hb1;apply Za;simp[Value.cells,e2];subst hb1;apply Zb;intro b1 hb1;apply Zb;intro b2 hb2;apply Za;simp[faF0,Ab q1,show Zd .neq .i64 1 1=some (.bool false)from rfl];subst hb2;refine Zc (t:=false) (by simp) ?_;apply Zf;subst hb1;apply Zb;intro b1 hb1;apply Za;simp[faF1,loadFQ q1,c3];subst hb1;apply Zb;intro b1 hb1;apply Za;simp;subst hb1;apply Zn;simp;exact k2.trans k3
theorem Uc{k:Int}{p q r:Value}(hk:k≠1)(H:AH): ∃H',Zs Tryz.prog Zo 153 [.agg #[.int .i64 k,p,q,r]] H=some (.int .i64 2,H')∧Keep H H':=by
 suffices h:CW Tryz.prog Zo 153 [.agg #[.int .i64 k,p,q,r]] H fun r H'=>r= .int .i64 2∧Keep H H' by obtain⟨v,H',hc,rfl,k⟩:=h;exact⟨H',hc,k⟩
 obtain⟨H2,e2,k2,n2,q1⟩:=Vn H [.int .i64 k,p,q,r];have gn:Zd .neq .i64 k 1=some (.bool true):=by rw[neqZZ,decide_eq_true hk]
 refine Zk 15 (by decide) (by decide) Tryz.func153 rfl rfl ?_;apply Zb;intro b1 hb1;apply Za;simp[Value.cells,e2];subst hb1;apply Zb;intro b1 hb1;apply Zb;intro b2 hb2;apply Za;simp[faF0,Ab q1,gn];subst hb2;refine Zc (t:=true) (by simp) ?_;apply Zb;intro b2 hb2;apply Za;simp;subst hb2;apply Zn;simp[Xt];exact k2
end
end
theorem gtrZZ{x y:Int} :Zd .gtr .i64 x y=some (.bool (decide (y<x))):=rfl
section
attribute [-simp] Int.natCast_add Int.natCast_mul Int.natCast_ediv Int.natCast_emod Int.natCast_pow
attribute [local simp] strip Yg LW' LR gW Ym Xc Yb Xd Yp Xe Zt Zu Zi Yq Yz Yk Xj Zw Yr Zj Zg Xi Xh Qv Ye Xb opd Qc Yn plain Yj Tr.get_set Qb Zq Xx Yd sameKind undef Zv Ys Yw Zm Yc parts unV DW Xl Zz LX Zy
section
variable {H : AH} {u v w z : Value}
theorem lesser_call(s t:Bool){A B C D:Nat}(ha:Sl H u (ds B64 A))(hb:Sl H v (ds B64 B))(hc:Sl H w (ds B64 C))(hd:Sl H z (ds B64 D))(lA:Ze A≤67108864)(lB:Ze B≤67108864)(lC:Ze C≤67108864)(lD:Ze D≤67108864)(hB:0<B)(hD:0<D): ∃H',Zs Tryz.prog Zo 114 [.agg #[.bool s,u,v],.agg #[.bool t,w,z]] H=some (.tuple #[if 0<cmpQ s A B t C D then .agg #[.bool t,w,z]else .agg #[.bool s,u,v],.int .i64 0],H')∧Keep H H':=by
 obtain⟨R,hR⟩: ∃R,R=(if 0<cmpQ s A B t C D then Value.agg #[.bool t,w,z]else .agg #[.bool s,u,v]):=⟨_,rfl⟩;rw[←hR];suffices h:CW Tryz.prog Zo 114 [.agg #[.bool s,u,v],.agg #[.bool t,w,z]] H fun r H'=>r= .tuple #[R,.int .i64 0]∧Keep H H' by obtain⟨v,H',hc,rfl,k⟩:=h;exact⟨H',hc,k⟩
 obtain⟨i1,i2,i3⟩:u.cells=#[u]∧one u=true∧True:=⟨by obtain⟨a,l,c,rfl⟩:=ha.shape;rfl,ha.one1,trivial⟩;obtain⟨j1,j2,j3⟩:v.cells=#[v]∧one v=true∧True:=⟨by obtain⟨a,l,c,rfl⟩:=hb.shape;rfl,hb.one1,trivial⟩;obtain⟨k1,k2',k3'⟩:w.cells=#[w]∧one w=true∧True:=⟨by obtain⟨a,l,c,rfl⟩:=hc.shape;rfl,hc.one1,trivial⟩;obtain⟨l1,l2,l3⟩:z.cells=#[z]∧one z=true∧True:=⟨by obtain⟨a,l,c,rfl⟩:=hd.shape;rfl,hd.one1,trivial⟩;obtain⟨H2,e2,k2,n2,q0,q1,q2⟩:=Dm H [.bool s,u,v] [.bool t,w,z] [.bool false,.slice none 0 0,.slice none 0 0];obtain⟨H3,c3,k3⟩:=Fa s t (ha.keep k2) (hb.keep k2) (hc.keep k2) (hd.keep k2) lA lB lC lD hB hD;obtain⟨cm,hcm⟩: ∃cm,cm=cmpQ s A B t C D:=⟨_,rfl⟩;rw[←hcm]at c3 hR;have n3:=k3.n;have r0:H3.blk H.n= .rw 1 [.bool s,u,v]:=by rw[k3.blk _ (by omega)];exact q0
 have r1:H3.blk (H.n+1)= .rw 1 [.bool t,w,z]:=by rw[k3.blk _ (by omega)];exact q1
 have r2:H3.blk (H.n+2)= .rw 1 [.bool false,.slice none 0 0,.slice none 0 0]:=by rw[k3.blk _ (by omega)];exact q2
 have gc:Zd .gtr .i64 cm 0=some (.bool (decide (0<cm))):=gtrZZ;refine Zk 18 (by decide) (by decide) Tryz.func114 rfl rfl ?_;apply Zb;intro b1 hb1;apply Za;simp[Value.cells,Qy,Jv,e2];subst hb1;apply Zb;intro b1 hb1;apply Zb;intro b2 hb2;apply Za;simp[Xk q0,Xk q1,c3];subst hb2;apply Zb;intro b2 hb2;apply Za;simp[gc];subst hb2;by_cases h0:0<cm;·rw[if_pos h0]at hR;subst hR;obtain⟨H4,st4,n4,q4,b4,ka4⟩:=Ec (p:= .bool t) (q:=w) (r:=z) r2 rfl k1 l1 rfl k2' l2;have k04:Keep H H4:=ka4 H (k2.trans k3) (by omega);have hld:=Xk q4;refine Zc (t:=true) (by simp[h0]) ?_;apply Zb;intro b2 hb2;apply Za;simp[Xk r1,st4];subst hb2;apply Zn;simp[Xt,hld];exact k04
 ·rw[if_neg h0]at hR;subst hR;obtain⟨H4,st4,n4,q4,b4,ka4⟩:=Ec (p:= .bool s) (q:=u) (r:=v) r2 rfl i1 j1 rfl i2 j2;have k04:Keep H H4:=ka4 H (k2.trans k3) (by omega);have hld:=Xk q4;refine Zc (t:=false) (by simp[h0]) ?_;apply Zf;subst hb1;apply Zb;intro b1 hb1;apply Za;simp[Xk r0,st4];subst hb1;apply Zn;simp[hld];exact k04
theorem greater_call(s t:Bool){A B C D:Nat}(ha:Sl H u (ds B64 A))(hb:Sl H v (ds B64 B))(hc:Sl H w (ds B64 C))(hd:Sl H z (ds B64 D))(lA:Ze A≤67108864)(lB:Ze B≤67108864)(lC:Ze C≤67108864)(lD:Ze D≤67108864)(hB:0<B)(hD:0<D): ∃H',Zs Tryz.prog Zo 115 [.agg #[.bool s,u,v],.agg #[.bool t,w,z]] H=some (.tuple #[if cmpQ s A B t C D<0 then .agg #[.bool t,w,z]else .agg #[.bool s,u,v],.int .i64 0],H')∧Keep H H':=by
 obtain⟨R,hR⟩: ∃R,R=(if cmpQ s A B t C D<0 then Value.agg #[.bool t,w,z]else .agg #[.bool s,u,v]):=⟨_,rfl⟩;rw[←hR];suffices h:CW Tryz.prog Zo 115 [.agg #[.bool s,u,v],.agg #[.bool t,w,z]] H fun r H'=>r= .tuple #[R,.int .i64 0]∧Keep H H' by obtain⟨v,H',hc,rfl,k⟩:=h;exact⟨H',hc,k⟩
 obtain⟨i1,i2,i3⟩:u.cells=#[u]∧one u=true∧True:=⟨by obtain⟨a,l,c,rfl⟩:=ha.shape;rfl,ha.one1,trivial⟩;obtain⟨j1,j2,j3⟩:v.cells=#[v]∧one v=true∧True:=⟨by obtain⟨a,l,c,rfl⟩:=hb.shape;rfl,hb.one1,trivial⟩;obtain⟨k1,k2',k3'⟩:w.cells=#[w]∧one w=true∧True:=⟨by obtain⟨a,l,c,rfl⟩:=hc.shape;rfl,hc.one1,trivial⟩;obtain⟨l1,l2,l3⟩:z.cells=#[z]∧one z=true∧True:=⟨by obtain⟨a,l,c,rfl⟩:=hd.shape;rfl,hd.one1,trivial⟩;obtain⟨H2,e2,k2,n2,q0,q1,q2⟩:=Dm H [.bool s,u,v] [.bool t,w,z] [.bool false,.slice none 0 0,.slice none 0 0];obtain⟨H3,c3,k3⟩:=Fa s t (ha.keep k2) (hb.keep k2) (hc.keep k2) (hd.keep k2) lA lB lC lD hB hD;obtain⟨cm,hcm⟩: ∃cm,cm=cmpQ s A B t C D:=⟨_,rfl⟩;rw[←hcm]at c3 hR;have n3:=k3.n;have r0:H3.blk H.n= .rw 1 [.bool s,u,v]:=by rw[k3.blk _ (by omega)];exact q0
 have r1:H3.blk (H.n+1)= .rw 1 [.bool t,w,z]:=by rw[k3.blk _ (by omega)];exact q1
 have r2:H3.blk (H.n+2)= .rw 1 [.bool false,.slice none 0 0,.slice none 0 0]:=by rw[k3.blk _ (by omega)];exact q2
 have gc:Zd .lss .i64 cm 0=some (.bool (decide (cm<0))):=lssZZ;refine Zk 18 (by decide) (by decide) Tryz.func115 rfl rfl ?_;apply Zb;intro b1 hb1;apply Za;simp[Value.cells,Qy,Jv,e2];subst hb1;apply Zb;intro b1 hb1;apply Zb;intro b2 hb2;apply Za;simp[Xk q0,Xk q1,c3];subst hb2;apply Zb;intro b2 hb2;apply Za;simp[gc];subst hb2;by_cases h0:cm<0;·rw[if_pos h0]at hR;subst hR;obtain⟨H4,st4,n4,q4,b4,ka4⟩:=Ec (p:= .bool t) (q:=w) (r:=z) r2 rfl k1 l1 rfl k2' l2;have k04:Keep H H4:=ka4 H (k2.trans k3) (by omega);have hld:=Xk q4;refine Zc (t:=true) (by simp[h0]) ?_;apply Zb;intro b2 hb2;apply Za;simp[Xk r1,st4];subst hb2;apply Zn;simp[Xt,hld];exact k04
 ·rw[if_neg h0]at hR;subst hR;obtain⟨H4,st4,n4,q4,b4,ka4⟩:=Ec (p:= .bool s) (q:=u) (r:=v) r2 rfl i1 j1 rfl i2 j2;have k04:Keep H H4:=ka4 H (k2.trans k3) (by omega);have hld:=Xk q4;refine Zc (t:=false) (by simp[h0]) ?_;apply Zf;subst hb1;apply Zb;intro b1 hb1;apply Za;simp[Xk r0,st4];subst hb1;apply Zn;simp[hld];exact k04
end
end
end
end Go.Proofs.YtmkfecoeghokfaaGreatDoor
