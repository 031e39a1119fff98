/-
  The engine and the walks that the claim's last text leans on, part 4 of 5: Nm, Nr, EvS, Ns, Nt, Nu, Nv, Nw, Nx, Oa, Ob, Oc, Od, Oe, Of, Og, Ta, Tb, Tc, Td, Te, Ref, Rt, Make, Rc, Rd, Re, Rf, Rg, Oh, Ok, Pa, Pb, Pc, Pd, Pe, Pf, Pg, Sa, Sb, Sc, Sd, Se, Sf, Sg, Sh, Si, Sj, Sk, Sl, Sm, Sn, So, Sp, Sq, Sr, Ss, St, Su, Sv, Sw, Sx, Sy, Sz, Ua.
-/
import Derived.Test.YtjboehpfojpimaaGreatDoorM3
namespace Go.Proofs.YtjboehpfojpimaaGreatDoor
open Go Ev
set_option linter.unusedVariables false
set_option linter.unusedSimpArgs false
noncomputable section
set_option maxHeartbeats 2000000
set_option maxRecDepth 20000
theorem FF{x:Nat} :Zj .eql .u64 (x:Int) 0=some (.bool (decide (x=0))):=Mh (y:=0)
theorem RQ{n:Nat}(h:n<ZB):UY Tryz.prog 3 127 (.int .i64 (n:Int))=some (.int .u64 (n:Int)):=by
 have h:n<18446744073709551616:=h;have e:IntKind.u64.wrap (n:Int)=(n:Int):=by rw[IntKind.wrap_u64];omega
 unfold UY;simp only[Tryz.underlying3,Tryz.underlying127,e]
theorem LQ{U N1 N0 b B yn qh u2 ql r3:Nat}(e1:yn*qh+u2=U*b+N1)(e2:yn*ql+r3=u2*b+N0)(hB:B=b*b):U*B+(N1*b+N0)=yn*(qh*b+ql)+r3:=by
 subst hB;have e3:(yn*qh+u2)*b=(U*b+N1)*b:=by rw[e1]
 rw[Nat.add_mul,Nat.add_mul,Nat.mul_assoc,Nat.mul_assoc]at e3;rw[Nat.mul_add];omega
section
attribute [-simp] Int.natCast_add Int.natCast_mul Int.natCast_ediv Int.natCast_emod Int.natCast_pow
attribute [local simp] strip Zt YR gW ZZ ZO Zk ZN Zv ZM Ze Zf Zb Zw ZT Zs Zx Zc ZS Za Yd ZC Zu plain Zq Tr.get_set ZA Zd Z5 Zl sameKind undef Zh Zy ZR ZU ZD Yq Zm parts Yv
theorem OD{h l y:Nat}(hh:h<y)(hl:l<ZB)(hy:y<ZB){H:AH} :CW Tryz.prog Yf 156 [.int .u64 (h:Int),.int .u64 (l:Int),.int .u64 (y:Int)] H fun v H'=>H'=H/\v= .tuple #[.int .u64 (((h*ZB+l)/y:Nat):Int),.int .u64 (((h*ZB+l)%y:Nat):Int)]:=by
 refine YH 135 Tryz.func156 ?_;have y0:0<y:=by omega
 apply ZX;intro b1 ZH;simp;subst ZH;apply Zz;intro b1 ZH;apply ZX;intro b2 Yy;simp[FF];subst Yy;refine Zp (t:=false) (by simp;omega) ?_;apply ZE;subst ZH;apply Zz;intro b1 ZH;apply ZX;intro b2 Yy;simp[Mw];subst Yy;refine Zp (t:=false) (by simp;omega) ?_;apply ZE;subst ZH;apply Zz;intro b1 ZH;apply ZX;intro b2 Yy;simp[FF];subst Yy;by_cases h0:h=0;·subst h0;refine Zp (t:=true) (by simp) ?_;apply Zz;intro b2 Yy;apply Ug (by kernel_rfl);simp[SP hl y0,MT (x:=l) y0];subst Yy;apply Z8;simp[WA]
 ·refine Zp (t:=false) (by simp;omega) ?_;apply ZE;subst ZH;obtain⟨v1,H1,OT,e1,e2⟩:=Iz (H:=H) hy;subst e1;subst e2;have Cz:Z6 y<=64:=by
   rcases Nat.lt_or_ge 64 (Z6 y)with h|h;·have a:=W1 (n:=y) (by omega);have b:2^64<=2^(Z6 y-1):=Nat.pow_le_pow_right (by decide) (by omega);have hy:y<18446744073709551616:=hy;omega
   ·exact h
  have hbl0:0<Z6 y:=by unfold Z6;rw[if_neg (by omega)];omega
  obtain⟨s,hs⟩:=hid (64-Z6 y);have Ao:s<64:=by omega
  have es:(64-(Z6 y:Int))=(s:Int):=by omega
  rw[es]at OT;have ylt:y<2^(64-s):=by have:=U0 y;rwa[show Z6 y=64-s by omega]at this
  have yge:2^(63-s)<=y:=by have:=W1 (n:=y) (by omega);rwa[show Z6 y-1=63-s by omega]at this
  apply ZX;intro b1 ZH;simp[OT,RQ (n:=s) (Nat.lt_trans Ao (by decide))];subst ZH;have eB:ZB=2^(64-s)*2^s:=by rw[<-Nat.pow_add,show 64-s+s=64 by omega]
  obtain⟨yn,Ft⟩:=hid (y*2^s);have N4:yn<ZB:=by rw[Ft,eB];exact Nat.mul_lt_mul_of_pos_right ylt (Nat.two_pow_pos s)
  have ynge:9223372036854775808<=yn:=by have:2^(63-s)*2^s<=y*2^s:=Nat.mul_le_mul_right _ yge;rw[<-Nat.pow_add,show 63-s+s=63 by omega,<-Ft]at this;exact this
  have Gr:l/2^(64-s)<2^s:=by rw[Nat.div_lt_iff_lt_mul (Nat.two_pow_pos _),<-Nat.pow_add,show s+(64-s)=64 by omega];exact hl
  obtain⟨u,hu⟩:=hid (h*2^s+l/2^(64-s));have hhs:h*2^s+2^s<=yn:=by rw[Ft,<-Nat.succ_mul];exact Nat.mul_le_mul_right _ hh
  have ult:u<yn:=by omega
  obtain⟨n,hn⟩:=hid (l*2^s%ZB);have A5:n<ZB:=by rw[hn];exact Nat.mod_lt _ (by decide)
  have total:(h*ZB+l)*2^s=u*ZB+n:=by have:=Ns (x:=l) Ao;rw[<-hn]at this;rw[Nat.add_mul,this,hu,Nat.add_mul,Nat.mul_comm ZB (l/_),Nat.mul_assoc h,Nat.mul_comm ZB,<-Nat.mul_assoc];omega
  obtain⟨y1,hy1⟩:=hid (yn/4294967296);obtain⟨w0,EK⟩:=hid (yn%4294967296);have Dt:yn=y1*4294967296+w0:=by omega
  have aa:yn<18446744073709551616:=N4;have y1lo:2147483648<=y1:=by omega
  have N3:y1<4294967296:=by omega
  have LO:w0<4294967296:=by omega
  obtain⟨n1,CC⟩:=hid (n/4294967296);obtain⟨n0,Vs⟩:=hid (n%4294967296);have nlt':n<18446744073709551616:=A5;have en:n=n1*4294967296+n0:=by omega
  have BH:n1<4294967296:=by omega
  have BI:n0<4294967296:=by omega
  have Ac:u<ZB:=Nat.lt_trans ult N4;have Bb:=Nat.two_pow_pos s;have AQ:h*2^s<ZB:=by omega
  have hlB:l/2^(64-s)<ZB:=Nat.lt_of_le_of_lt (Nat.div_le_self _ _) hl;have f8:Yr .shl .u64 (y:Int) (s:Int)=some (.int .u64 (yn:Int)):=by rw[TY (by omega),<-Ft,Nat.mod_eq_of_lt N4]
  have f9:Yr .shr .u64 (yn:Int) 32=some (.int .u64 (y1:Int)):=by rw[Jz,<-hy1]
  have f10:Zj .and .u64 (yn:Int) 4294967295=some (.int .u64 (w0:Int)):=by rw[Ps N4,<-EK]
  have Cc:Yr .shl .u64 (h:Int) (s:Int)=some (.int .u64 ((h*2^s:Nat):Int)):=by rw[TY (by omega),Nat.mod_eq_of_lt AQ]
  have Cd:Zj .sub .u64 64 (s:Int)=some (.int .u64 ((64-s:Nat):Int)):=Ut (x:=64) (by decide) (by omega);have Ce:Yr .shr .u64 (l:Int) ((64-s:Nat):Int)=some (.int .u64 ((l/2^(64-s):Nat):Int)):=Pc (by omega);have Cf:Zj .or .u64 ((h*2^s:Nat):Int) ((l/2^(64-s):Nat):Int)=some (.int .u64 (u:Int)):=by rw[GH AQ hlB,GI Gr,<-hu]
  have f12:Yr .shl .u64 (l:Int) (s:Int)=some (.int .u64 (n:Int)):=by rw[TY (by omega),<-hn]
  have f13:Yr .shr .u64 (n:Int) 32=some (.int .u64 (n1:Int)):=by rw[Jz,<-CC]
  have f14:Zj .and .u64 (n:Int) 4294967295=some (.int .u64 (n0:Int)):=by rw[Ps A5,<-Vs]
  have f15:Zj .quo .u64 (u:Int) (y1:Int)=some (.int .u64 ((u/y1:Nat):Int)):=SP Ac (by omega);have f16: ∀z:Nat,z<ZB->(Zj .mul .u64 ((z/y1:Nat):Int) (y1:Int)=some (.int .u64 ((z/y1*y1:Nat):Int))/\Zj .sub .u64 (z:Int) ((z/y1*y1:Nat):Int)=some (.int .u64 ((z%y1:Nat):Int))):=fun z hz=>by have a:=Nat.div_mul_le_self z y1;refine⟨by rw[Wz,Nat.mod_eq_of_lt (Nat.lt_of_le_of_lt a hz)],?_⟩;rw[Ut hz a];have:=Nat.div_add_mod z y1;rw[Nat.mul_comm]at this;rw[show z-z/y1*y1=z%y1 by omega]
  iterate 9 apply ZX;intro b hb;simp[f8,f9,f10,Cc,Cd,Ce,Cf,f12,f13,f14,f15,(f16 u Ac).1,(f16 u Ac).2];subst hb
  refine TQ (fun s'=>s'.k=135/\s'.H=H1/\s'.tm.get 2=some (.int .u64 (yn:Int))/\s'.tm.get 8=some (.int .u64 (s:Int))/\s'.tm.get 9=some (.int .u64 (y1:Int))/\s'.tm.get 10=some (.int .u64 (w0:Int))/\s'.tm.get 11=some (.int .u64 (u:Int))/\s'.tm.get 13=some (.int .u64 (n1:Int))/\s'.tm.get 14=some (.int .u64 (n0:Int))/\ ∃q:Nat,q=(u*4294967296+n1)/(y1*4294967296+w0)/\q<4294967296/\s'.tm.get 15=some (.int .u64 (q:Int))) ?_ ?_
  ·apply Z2;refine Y8 (fun m s'=>s'.k=135/\s'.H=H1/\s'.tm.get 2=some (.int .u64 (yn:Int))/\s'.tm.get 8=some (.int .u64 (s:Int))/\s'.tm.get 9=some (.int .u64 (y1:Int))/\s'.tm.get 10=some (.int .u64 (w0:Int))/\s'.tm.get 11=some (.int .u64 (u:Int))/\s'.tm.get 13=some (.int .u64 (n1:Int))/\s'.tm.get 14=some (.int .u64 (n0:Int))/\ ∃r:Nat,HJ y1 w0 u n1 m r/\s'.tm.get 15=some (.int .u64 (m:Int))/\s'.tm.get 16=some (.int .u64 (r:Int))) ?_ (u/y1) _ ⟨rfl,rfl,by simp,by simp,by simp,by simp,by simp,by simp,by simp,_,R3 y1lo N3 LO (by rw[<-Dt];exact ult) BH,by simp,by simp⟩;rintro q ⟨k,tm,H2⟩ ⟨hk,hH,k2,k8,k9,Rl,RV,Rm,Rn,r,E,tq,tr⟩ Q' WC;simp only at hk hH k2 k8 k9 Rl RV Rm Rn tq tr;subst hk;subst hH;have Bd:q<ZB:=Nat.lt_of_le_of_lt E.qhi (by decide);have hrB:=E.rhi;apply Zz;intro b3 YC;have qle:=E.qhi;have rB:4294967296*r<ZB:=by show _<18446744073709551616;omega
   have mB:(4294967296*r+n1)%ZB=4294967296*r+n1:=Nat.mod_eq_of_lt (by show _<18446744073709551616;omega);have key: ∀YI,W Tryz.prog Yf b3 ⟨135,YI,H2⟩ Q'->W Tryz.prog Yf b3 ⟨135,YI,H2⟩ Q':=fun _ h=>h;have down:Sw w0 n1 q r=true-> ∀YI,YI.get 2=some (.int .u64 (yn:Int))->YI.get 8=some (.int .u64 (s:Int))->YI.get 9=some (.int .u64 (y1:Int))->YI.get 10=some (.int .u64 (w0:Int))->YI.get 11=some (.int .u64 (u:Int))->YI.get 13=some (.int .u64 (n1:Int))->YI.get 14=some (.int .u64 (n0:Int))->YI.get 15=some (.int .u64 (q:Int))->YI.get 16=some (.int .u64 (r:Int))->W Tryz.prog Yf b3 ⟨135,YI,H2⟩ Q':=fun ht YI k2 k8 k9 Rl RV Rm Rn tq tr=>by
    obtain⟨q0,e1,F2,q1⟩:=E.down ht;have f1:Zj .sub .u64 (q:Int) 1=some (.int .u64 ((q-1:Nat):Int)):=Ou Bd q0;have f2:Zj .add .u64 (r:Int) (y1:Int)=some (.int .u64 ((r+y1:Nat):Int)):=by rw[Ww,Nat.mod_eq_of_lt (by show _<18446744073709551616;omega)]
    subst YC;apply Z2;apply ZX;intro b4 YZ;simp[tq,f1];subst YZ;apply ZX;intro b4 YZ;simp[tr,k9,f2];subst YZ;apply ZX;intro b4 YZ;simp[Lb];subst YZ;by_cases hr:4294967296<=r+y1;·refine Zp (t:=true) (by simp[hr]) ?_;apply YM;right;refine⟨by decide,?_⟩;apply WC;left;have:=RA y1lo LO E.uhi E.dhi e1 F2 hr q1;exact⟨rfl,rfl,rfl,rfl,by simp[k2],by simp[k8],by simp[k9],by simp[Rl],by simp[RV],by simp[Rm],by simp[Rn],q-1,this.1,this.2,by simp⟩
    ·refine Zp (t:=false) (by simp[hr]) ?_;apply ZE;apply WC;exact⟨q-1,by omega,rfl,rfl,by simp[k2],by simp[k8],by simp[k9],by simp[Rl],by simp[RV],by simp[Rm],by simp[Rn],r+y1,⟨y1lo,N3,LO,E.uhi,E.dhi,e1,F2,by omega,by omega⟩,by simp,by simp⟩
   apply ZX;intro b4 YZ;by_cases hq:4294967296<=q;·simp[tq,Lb,hq];subst YZ;refine Zp (t:=true) (by simp) ?_;apply ZE;show W _ _ b3 _ _;exact down (by simp[Sw,hq]) _ (by simp[k2]) (by simp[k8]) (by simp[k9]) (by simp[Rl]) (by simp[RV]) (by simp[Rm]) (by simp[Rn]) (by simp[tq]) (by simp[tr])
   ·have Bh:q*w0<ZB:=by have a:q*w0<=4294967295*w0:=Nat.mul_le_mul_right _ (by omega);show _<18446744073709551616;omega
    have g1:Zj .mul .u64 (q:Int) (w0:Int)=some (.int .u64 ((q*w0:Nat):Int)):=by rw[Wz,Nat.mod_eq_of_lt Bh]
    have g2:Zj .mul .u64 4294967296 (r:Int)=some (.int .u64 ((4294967296*r:Nat):Int)):=by rw[mulL,Nat.mod_eq_of_lt rB]
    have g3:Zj .add .u64 ((4294967296*r:Nat):Int) (n1:Int)=some (.int .u64 ((4294967296*r+n1:Nat):Int)):=by rw[Ww,mB]
    simp[tq,Lb,hq,tr,Rl,Rm,g1,g2,g3,VW];subst YZ;by_cases ht:4294967296*r+n1<q*w0;·refine Zp (t:=true) (by simp[ht]) ?_;apply ZE;show W _ _ b3 _ _;exact down (by simp[Sw,ht]) _ (by simp[k2]) (by simp[k8]) (by simp[k9]) (by simp[Rl]) (by simp[RV]) (by simp[Rm]) (by simp[Rn]) (by simp[tq]) (by simp[tr])
    ·refine Zp (t:=false) (by simp[ht]) ?_;apply YM;apply WC;left;have:=E.stop (by simp[Sw,ht];omega);exact⟨rfl,rfl,rfl,rfl,by simp[k2],by simp[k8],by simp[k9],by simp[Rl],by simp[RV],by simp[Rm],by simp[Rn],q,this.1,this.2,by simp[tq]⟩
  rintro⟨k,tm,H2⟩ ⟨hk,hH,k2,k8,k9,Rl,RV,Rm,Rn,qh,Be,hqlt,Nl⟩;simp only at hk hH k2 k8 k9 Rl RV Rm Rn Nl;subst hk;subst hH;have OY:0<yn:=by omega
  obtain⟨u2,Pj⟩:=hid ((u*4294967296+n1)%yn);have Dn:u2<yn:=by rw[Pj];exact Nat.mod_lt _ OY
  have B6:u2<ZB:=Nat.lt_trans Dn N4;rw[<-Dt]at Be;have Qc:=On (u:=u) (b:=4294967296) (d:=n1) (q:=qh) N4 OY Be;rw[<-Pj]at Qc;obtain⟨pa,AM⟩:=hid (u*4294967296%ZB);obtain⟨pb,AL⟩:=hid ((pa+n1)%ZB);obtain⟨pc,C8⟩:=hid (qh*yn%ZB);rw[<-AM,<-AL,<-C8]at Qc;have g21:Zj .mul .u64 (u:Int) 4294967296=some (.int .u64 (pa:Int)):=by rw[mulR,AM]
  have Cj:Zj .add .u64 (pa:Int) (n1:Int)=some (.int .u64 (pb:Int)):=by rw[Ww,AL]
  have Ck:Zj .mul .u64 (qh:Int) (yn:Int)=some (.int .u64 (pc:Int)):=by rw[Wz,C8]
  have Cl:Zj .sub .u64 (pb:Int) (pc:Int)=some (.int .u64 (u2:Int)):=by rw[Oy (by rw[C8];exact Nat.le_of_lt (Nat.mod_lt _ (by decide))),Qc]
  have g22:Zj .quo .u64 (u2:Int) (y1:Int)=some (.int .u64 ((u2/y1:Nat):Int)):=SP B6 (by omega);apply ZX;intro b hb;simp[RV,Rm,Nl,k2,g21,Cj,Ck,Cl];subst hb;apply ZX;intro b hb;simp[k9,g22];subst hb;apply ZX;intro b hb;simp[k9,(f16 u2 B6).1,(f16 u2 B6).2];subst hb;refine TQ (fun s'=>s'.k=135/\s'.H=H2/\s'.tm.get 2=some (.int .u64 (yn:Int))/\s'.tm.get 8=some (.int .u64 (s:Int))/\s'.tm.get 9=some (.int .u64 (y1:Int))/\s'.tm.get 10=some (.int .u64 (w0:Int))/\s'.tm.get 11=some (.int .u64 (u:Int))/\s'.tm.get 13=some (.int .u64 (n1:Int))/\s'.tm.get 14=some (.int .u64 (n0:Int))/\s'.tm.get 15=some (.int .u64 (qh:Int))/\s'.tm.get 17=some (.int .u64 (u2:Int))/\ ∃q:Nat,q=(u2*4294967296+n0)/(y1*4294967296+w0)/\q<4294967296/\s'.tm.get 18=some (.int .u64 (q:Int))) ?_ ?_
  ·apply Z2;refine Y8 (fun m s'=>s'.k=135/\s'.H=H2/\s'.tm.get 2=some (.int .u64 (yn:Int))/\s'.tm.get 8=some (.int .u64 (s:Int))/\s'.tm.get 9=some (.int .u64 (y1:Int))/\s'.tm.get 10=some (.int .u64 (w0:Int))/\s'.tm.get 11=some (.int .u64 (u:Int))/\s'.tm.get 13=some (.int .u64 (n1:Int))/\s'.tm.get 14=some (.int .u64 (n0:Int))/\s'.tm.get 15=some (.int .u64 (qh:Int))/\s'.tm.get 17=some (.int .u64 (u2:Int))/\ ∃r:Nat,HJ y1 w0 u2 n0 m r/\s'.tm.get 18=some (.int .u64 (m:Int))/\s'.tm.get 16=some (.int .u64 (r:Int))) ?_ (u2/y1) _ ⟨rfl,rfl,by simp[k2],by simp[k8],by simp[k9],by simp[Rl],by simp[RV],by simp[Rm],by simp[Rn],by simp[Nl],by simp,_,R3 y1lo N3 LO (by rw[<-Dt];exact Dn) BI,by simp,by simp⟩;clear k2 k8 k9 Rl RV Rm Rn Nl;rintro q ⟨k,tm,H3⟩ ⟨hk,hH,k2,k8,k9,Rl,RV,Rm,Rn,Nl,JJ,r,E,tq,tr⟩ Q' WC;simp only at hk hH k2 k8 k9 Rl RV Rm Rn Nl JJ tq tr;subst hk;subst hH;have Bd:q<ZB:=Nat.lt_of_le_of_lt E.qhi (by decide);have hrB:=E.rhi;apply Zz;intro b3 YC;have qle:=E.qhi;have rB:4294967296*r<ZB:=by show _<18446744073709551616;omega
   have mB:(4294967296*r+n0)%ZB=4294967296*r+n0:=Nat.mod_eq_of_lt (by show _<18446744073709551616;omega);have key: ∀YI,W Tryz.prog Yf b3 ⟨135,YI,H3⟩ Q'->W Tryz.prog Yf b3 ⟨135,YI,H3⟩ Q':=fun _ h=>h;have down:Sw w0 n0 q r=true-> ∀YI,YI.get 2=some (.int .u64 (yn:Int))->YI.get 8=some (.int .u64 (s:Int))->YI.get 9=some (.int .u64 (y1:Int))->YI.get 10=some (.int .u64 (w0:Int))->YI.get 11=some (.int .u64 (u:Int))->YI.get 13=some (.int .u64 (n1:Int))->YI.get 14=some (.int .u64 (n0:Int))->YI.get 15=some (.int .u64 (qh:Int))->YI.get 17=some (.int .u64 (u2:Int))->YI.get 18=some (.int .u64 (q:Int))->YI.get 16=some (.int .u64 (r:Int))->W Tryz.prog Yf b3 ⟨135,YI,H3⟩ Q':=fun ht YI k2 k8 k9 Rl RV Rm Rn Nl JJ tq tr=>by
    obtain⟨q0,e1,F2,q1⟩:=E.down ht;have f1:Zj .sub .u64 (q:Int) 1=some (.int .u64 ((q-1:Nat):Int)):=Ou Bd q0;have f2:Zj .add .u64 (r:Int) (y1:Int)=some (.int .u64 ((r+y1:Nat):Int)):=by rw[Ww,Nat.mod_eq_of_lt (by show _<18446744073709551616;omega)]
    subst YC;apply Z2;apply ZX;intro b4 YZ;simp[tq,f1];subst YZ;apply ZX;intro b4 YZ;simp[tr,k9,f2];subst YZ;apply ZX;intro b4 YZ;simp[Lb];subst YZ;by_cases hr:4294967296<=r+y1;·refine Zp (t:=true) (by simp[hr]) ?_;apply YM;right;refine⟨by decide,?_⟩;apply WC;left;have:=RA y1lo LO E.uhi E.dhi e1 F2 hr q1;exact⟨rfl,rfl,rfl,rfl,by simp[k2],by simp[k8],by simp[k9],by simp[Rl],by simp[RV],by simp[Rm],by simp[Rn],by simp[Nl],by simp[JJ],q-1,this.1,this.2,by simp⟩
    ·refine Zp (t:=false) (by simp[hr]) ?_;apply ZE;apply WC;exact⟨q-1,by omega,rfl,rfl,by simp[k2],by simp[k8],by simp[k9],by simp[Rl],by simp[RV],by simp[Rm],by simp[Rn],by simp[Nl],by simp[JJ],r+y1,⟨y1lo,N3,LO,E.uhi,E.dhi,e1,F2,by omega,by omega⟩,by simp,by simp⟩
   apply ZX;intro b4 YZ;by_cases hq:4294967296<=q;·simp[tq,Lb,hq];subst YZ;refine Zp (t:=true) (by simp) ?_;apply ZE;show W _ _ b3 _ _;exact down (by simp[Sw,hq]) _ (by simp[k2]) (by simp[k8]) (by simp[k9]) (by simp[Rl]) (by simp[RV]) (by simp[Rm]) (by simp[Rn]) (by simp[Nl]) (by simp[JJ]) (by simp[tq]) (by simp[tr])
   ·have Bh:q*w0<ZB:=by have a:q*w0<=4294967295*w0:=Nat.mul_le_mul_right _ (by omega);show _<18446744073709551616;omega
    have g1:Zj .mul .u64 (q:Int) (w0:Int)=some (.int .u64 ((q*w0:Nat):Int)):=by rw[Wz,Nat.mod_eq_of_lt Bh]
    have g2:Zj .mul .u64 4294967296 (r:Int)=some (.int .u64 ((4294967296*r:Nat):Int)):=by rw[mulL,Nat.mod_eq_of_lt rB]
    have g3:Zj .add .u64 ((4294967296*r:Nat):Int) (n0:Int)=some (.int .u64 ((4294967296*r+n0:Nat):Int)):=by rw[Ww,mB]
    simp[tq,Lb,hq,tr,Rl,Rn,g1,g2,g3,VW];subst YZ;by_cases ht:4294967296*r+n0<q*w0;·refine Zp (t:=true) (by simp[ht]) ?_;apply ZE;show W _ _ b3 _ _;exact down (by simp[Sw,ht]) _ (by simp[k2]) (by simp[k8]) (by simp[k9]) (by simp[Rl]) (by simp[RV]) (by simp[Rm]) (by simp[Rn]) (by simp[Nl]) (by simp[JJ]) (by simp[tq]) (by simp[tr])
    ·refine Zp (t:=false) (by simp[ht]) ?_;apply YM;apply WC;left;have:=E.stop (by simp[Sw,ht];omega);exact⟨rfl,rfl,rfl,rfl,by simp[k2],by simp[k8],by simp[k9],by simp[Rl],by simp[RV],by simp[Rm],by simp[Rn],by simp[Nl],by simp[JJ],q,this.1,this.2,by simp[tq]⟩
  rintro⟨k,tm,H3⟩ ⟨hk,hH,k2,k8,k9,Rl,RV,Rm,Rn,Nl,JJ,ql,Bf,AF,A0⟩;simp only at hk hH k2 k8 k9 Rl RV Rm Rn Nl JJ A0;subst hk;subst hH;rw[<-Dt]at Bf;obtain⟨r3,Bi⟩:=hid ((u2*4294967296+n0)%yn);have Dd:r3<yn:=by rw[Bi];exact Nat.mod_lt _ OY
  have KD:=On (u:=u2) (b:=4294967296) (d:=n0) (q:=ql) N4 OY Bf;obtain⟨pd,ES⟩:=hid (u2*4294967296%ZB);obtain⟨pe,AK⟩:=hid ((pd+n0)%ZB);obtain⟨pf,Ba⟩:=hid (ql*yn%ZB);rw[<-Bi,<-ES,<-AK,<-Ba]at KD;have j1:Zj .mul .u64 (qh:Int) 4294967296=some (.int .u64 ((qh*4294967296:Nat):Int)):=by rw[mulR,Nat.mod_eq_of_lt (by show _<18446744073709551616;omega)]
  have j2:Zj .add .u64 ((qh*4294967296:Nat):Int) (ql:Int)=some (.int .u64 ((qh*4294967296+ql:Nat):Int)):=by rw[Ww,Nat.mod_eq_of_lt (by show _<18446744073709551616;omega)]
  have j3:Zj .mul .u64 (u2:Int) 4294967296=some (.int .u64 (pd:Int)):=by rw[mulR,ES]
  have j4:Zj .add .u64 (pd:Int) (n0:Int)=some (.int .u64 (pe:Int)):=by rw[Ww,AK]
  have j5:Zj .mul .u64 (ql:Int) (yn:Int)=some (.int .u64 (pf:Int)):=by rw[Wz,Ba]
  have j6:Zj .sub .u64 (pe:Int) (pf:Int)=some (.int .u64 (r3:Int)):=by rw[Oy (by rw[Ba];exact Nat.le_of_lt (Nat.mod_lt _ (by decide))),KD]
  have j7:Yr .shr .u64 (r3:Int) (s:Int)=some (.int .u64 ((r3/2^s:Nat):Int)):=Pc (by omega);have all:(h*ZB+l)*2^s=yn*(qh*4294967296+ql)+r3:=by have e1:=Nat.div_add_mod (u*4294967296+n1) yn;rw[<-Be,<-Pj]at e1;have e2:=Nat.div_add_mod (u2*4294967296+n0) yn;rw[<-Bf,<-Bi]at e2;rw[total,en];exact LQ e1 e2 (by decide)
  have Bg:(h*ZB+l)/y=qh*4294967296+ql:=by rw[<-Nat.mul_div_mul_right _ _ (Nat.two_pow_pos s),all,<-Ft,Nat.add_comm,Nat.add_mul_div_left _ _ OY,Nat.div_eq_of_lt Dd,Nat.zero_add]
  have Bj:(h*ZB+l)%y=r3/2^s:=by
   have:(h*ZB+l)%y*2^s=r3:=by rw[<-Nat.mul_mod_mul_right,all,<-Ft,Nat.add_comm,Nat.add_mul_mod_self_left,Nat.mod_eq_of_lt Dd]
   rw[<-this,Nat.mul_div_cancel _ (Nat.two_pow_pos s)]
  rw[Bg,Bj];apply ZX;intro b hb;simp[k2,k8,Rn,Nl,JJ,A0,j1,j2,j3,j4,j5,j6,j7];subst hb;apply Z8;simp
end
end
end Go.Proofs.YtjboehpfojpimaaGreatDoor
namespace Go.Proofs.YtjboehpfojpimaaGreatDoor
set_option linter.unusedVariables false
set_option maxHeartbeats 2000000
set_option maxRecDepth 20000
structure OW (B P V U y1 y0 v' u d u' : Nat) : Prop where
  hV : V = (y1 * B + y0) * P + v'
  hU : U = (u * B + d) * P + u'
  vlt : v' < P
  ult : u' < P
  d_lt : d < B
  y0lt : y0 < B
  y1pos : 0 < y1
section
variable {B P V U y1 y0 v' u d u' q r : Nat}
theorem OW.Ppos(T:OW B P V U y1 y0 v' u d u'):0<P:=Nat.lt_of_le_of_lt (Nat.zero_le _) T.vlt
theorem OW.Bpos(T:OW B P V U y1 y0 v' u d u'):0<B:=Nat.lt_of_le_of_lt (Nat.zero_le _) T.d_lt
theorem OW.Vge(T:OW B P V U y1 y0 v' u d u'):B*P<=V:=by rw[T.hV];have:B*P<=(y1*B+y0)*P:=Nat.mul_le_mul_right _ (by have:1*B<=y1*B:=Nat.mul_le_mul_right _ T.y1pos;omega);omega
theorem OW.Vpos(T:OW B P V U y1 y0 v' u d u'):0<V:=Nat.lt_of_lt_of_le (Nat.mul_pos T.Bpos T.Ppos) T.Vge
theorem OW.Ult(T:OW B P V U y1 y0 v' u d u'):U<(u*B+d+1)*P:=by rw[T.hU,Nat.succ_mul];have:=T.ult;omega
theorem OW.first(T:OW B P V U y1 y0 v' u d u'):U/V<=u/y1:=by
 rw[Nat.le_div_iff_mul_le T.y1pos];have h1:U/V*V<=U:=Nat.div_mul_le_self U V;have h2:U/V*(y1*B*P)<=U/V*V:=Nat.mul_le_mul_left _ (by rw[T.hV,Nat.add_mul];omega);have h3:=T.Ult;have h4:(u*B+d+1)*P<=((u+1)*B)*P:=Nat.mul_le_mul_right _ (by have:=T.d_lt;rw[Nat.succ_mul];omega);have h5:(U/V*y1)*(B*P)<(u+1)*(B*P):=by rw[Nat.mul_assoc]at h2 h4;rw[Nat.mul_assoc];omega
 have:=Nat.lt_of_mul_lt_mul_right h5;omega
theorem OW.true(T:OW B P V U y1 y0 v' u d u')(hq:q*y1+r=u)(ht:r*B+d<q*y0):U/V<q:=by rw[Nat.div_lt_iff_lt_mul T.Vpos];have h1:q*((y1*B+y0)*P)<=q*V:=Nat.mul_le_mul_left _ (by rw[T.hV];omega);have h2:(u*B+d+1)*P<=(q*(y1*B+y0))*P:=Nat.mul_le_mul_right _ (by rw[<-hq,Nat.add_mul,Nat.mul_add,Nat.mul_assoc];omega);have h3:=T.Ult;rw[Nat.mul_assoc]at h2;omega
theorem OW.false(T:OW B P V U y1 y0 v' u d u')(hq:q*y1+r=u)(Z0:q<B)(ht:q*y0<=r*B+d):q<=U/V+1:=by
 have h1:q*V<=q*((y1*B+y0)*P)+q*P:=by rw[<-Nat.mul_add];exact Nat.mul_le_mul_left _ (by rw[T.hV];have:=T.vlt;omega)
 have h2:(q*(y1*B+y0))*P<=(u*B+d)*P:=Nat.mul_le_mul_right _ (by rw[<-hq,Nat.add_mul,Nat.mul_add,Nat.mul_assoc];omega);rw[Nat.mul_assoc]at h2;have h3:q*P<B*P:=Nat.mul_lt_mul_of_pos_right Z0 T.Ppos;have h4:=T.Vge;have h5:q*V<U+V:=by have:=T.hU;omega
 have h6:q*V<(U/V+2)*V:=by have a:=Nat.div_add_mod U V;have b:=Nat.mod_lt U T.Vpos;rw[Nat.mul_comm]at a;rw[Nat.add_mul,Nat.two_mul];omega
 have:=Nat.lt_of_mul_lt_mul_right h6;omega
end
end Go.Proofs.YtjboehpfojpimaaGreatDoor
namespace Go.Proofs.YtjboehpfojpimaaGreatDoor.Ev
open Go Go.RowKit
set_option linter.unusedVariables false
set_option linter.unusedSimpArgs false
noncomputable section
set_option maxHeartbeats 2000000
set_option maxRecDepth 20000
def AH.top(H:AH):AH:= { n:=H.n,lw:=H.n,t:=H.t }
def LR(P:Program)(C:Cfg)(k:Nat):List G9->Tr Value->AH->(Tr Value->Prop)->Prop
 |[],tm,_,K=>K tm
 |o::r,tm,H,K=>match gW tm o.grd with
  |some true=>match ZZ P C (ZG P C) tm H o.op with
   |some (v,H')=>H'=H/\match o.dst with|none=>LR P C k r tm H K|some d=>d<k/\LR P C k r (tm.set d v) H K
   |none=>False
  |some false=>match o.dst with|none=>LR P C k r tm H K|some d=>d<k/\LR P C k r (tm.set d undef) H K
  |none=>False
section
variable {P : Program} {C : Cfg} {Q : Ex -> St -> Prop} {ops : Array Oper} {k : Nat}
theorem Qu: ∀(l:List Oper)(i:Nat)(tm:Tr Value)(H:AH)(K:Tr Value->Prop),LR P C k (Zt ops l) tm H.top K-> ∃YI,Yx (X0 ops) P C (ZG P C) ops i false [] l ⟨k,tm,H⟩=some ⟨k,YI,H⟩/\K YI
 |[],i,tm,H,K,h=>⟨tm,by simp only[Yx],h⟩
 |o::r,i,tm,H,K,h=>by
  simp only[Zt,LR]at h;simp only[Yx];rw[KZ];split at h
  ·rename_i hg;rw[hg];split at h
   ·rename_i v H1 Yj;obtain⟨e,h⟩:=h;subst e;obtain⟨RZ,ZF,hl⟩:=VO (k:=k) (H:=H) (H1:=H) (K1:=fun tm=>LR P C k (Zt ops r) tm H.top K) h;obtain⟨YI,h1,h2⟩:=Qu r (i+1) RZ H K hl;refine⟨YI,?_,h2⟩;have hd:YX (X0 ops) P C (ZG P C) ops i false [] ⟨k,tm,H⟩ o=some (v,H,false):=by unfold YX;cases hh:Zg o.op with|true=>rw[cond_true];simp only[X0,hidden,WL];have QI:ZZ P C (ZG P C) tm { n:=H.n,lw:=H.n,t:=H.t } o.op=some (v,{ n:=H.n,lw:=H.n,t:=H.t }):=Yj;rw[QI];have:Nat.ble H.n H.n=true:=Nat.ble_eq.mpr (Nat.le_refl _);simp only[this,cond_true,Bool.not_false,Bool.and_self,Nat.sub_self,TP]|false=>rw[cond_false];rw[Vg hh Yj H]
    simp only[hd,ZF,U1,cond_false];exact h1
   ·exact h.elim
  ·rename_i hg;rw[hg];obtain⟨RZ,ZF,hl⟩:=VO (k:=k) (H:=H) (H1:=H) (K1:=fun tm=>LR P C k (Zt ops r) tm H.top K) h;obtain⟨YI,h1,h2⟩:=Qu r (i+1) RZ H K hl;refine⟨YI,?_,h2⟩;simp only[ZF];exact h1
  ·exact h.elim
theorem JD{id:Nat}{s:St}(hd:(!Xc ops&&XC ops&&!isSplit C ops)=true)(h:LR P C s.k (strip ops) s.tm s.H.top fun YI=>Q .norm ⟨s.k,YI,s.H⟩):W P C (.region id ops true) s Q:=by
 obtain⟨k,tm,H⟩:=s;obtain⟨YI,h1,h2⟩:=Qu _ 0 _ _ _ h;refine⟨.norm,⟨k,YI,H⟩,?_,h2⟩;rw[X5];simp only[YT];rw[XS]at h1;rw[Bool.and_eq_true,Bool.and_eq_true]at hd;have hm:Xc ops=false:=by simpa using hd.1.1
 have hs:isSplit C ops=false:=by simpa using hd.2
 have:Z1 P C (Z7 P C (VC P C)) ops true ⟨k,tm,H⟩=some ⟨k,YI,H⟩:=by unfold Z1 Xe;rw[hm,hs,hd.1.2];simp only[Bool.and_false,cond_false,cond_true];exact h1
 rw[this]
def low(H H2:AH):AH:= { n:=H2.n,lw:=min H.lw H2.lw,t:=H2.t }
def LX(P:Program)(C:Cfg)(k:Nat):List G9->Tr Value->AH->(Tr Value->AH->Prop)->Prop
 |[],tm,H,K=>K tm H
 |o::r,tm,H,K=>match gW tm o.grd with
  |some true=>match Zo o.op with
   |true=>match ZZ P C (ZG P C) tm H.top o.op with
    |some (v,H2)=>(H2.n=H.n/\H2.lw<H.n)/\match o.dst with|none=>LX P C k r tm (low H H2) K|some d=>d<k/\LX P C k r (tm.set d v) (low H H2) K
    |none=>False
   |false=>match ZZ P C (ZG P C) tm H.top o.op with
    |some (v,H2)=>H2=H.top/\match o.dst with|none=>LX P C k r tm H K|some d=>d<k/\LX P C k r (tm.set d v) H K
    |none=>False
  |some false=>match o.dst with|none=>LX P C k r tm H K|some d=>d<k/\LX P C k r (tm.set d undef) H K
  |none=>False
theorem SW(R:St->Prop){a b:Code}{s:St}(h1: ∀Q':Ex->St->Prop,(∀s',R s'->Q' .norm s')->W P C a s Q')(h2: ∀s',R s'->W P C b s' Q):W P C (.seq a b) s Q:=TQ R (h1 _ fun s' h=>⟨rfl,h⟩) h2
end
end
end Go.Proofs.YtjboehpfojpimaaGreatDoor.Ev
namespace Go.Proofs.YtjboehpfojpimaaGreatDoor
open Go Ev
set_option linter.unusedVariables false
set_option linter.unusedSimpArgs false
noncomputable section
set_option maxHeartbeats 2000000
set_option maxRecDepth 20000
def XV:Value->Option Nat| .slice (some ⟨b,_,none⟩) _ _=>some b|_=>none
def L5(v w:Value):Prop:= ∀b,XV v=some b->XV w≠some b
structure TS (b : Option Nat) (H H' : AH) : Prop where
  n : H'.n = H.n
  blk : ∀ j, j < H.n -> b ≠ some j -> H'.blk j = H.blk j
theorem TS.refl(b:Option Nat)(H:AH):TS b H H:=⟨rfl,fun _ _ _=>rfl⟩
theorem TS.trans{b:Option Nat}{H H1 H2:AH}(x:TS b H H1)(y:TS b H1 H2):TS b H H2:=⟨y.n.trans x.n,fun j hn hj=>(y.blk j (by rw[x.n];exact hn) hj).trans (x.blk j hn hj)⟩
theorem At.but{b:Option Nat}{H H':AH}{c o:Nat}{xs:List Nat}(h:At H c o xs)(k:TS b H H')(hb:b≠some c):At H' c o xs:=by obtain⟨h1,cs,h2,h3,h4⟩:=h;have e:=k.blk c h1 hb;exact⟨by rw[k.n];exact h1,cs,by unfold AH.cells;rw[e];exact h2,by unfold AH.size;rw[e];exact h3,h4⟩
theorem Sl.but{b:Option Nat}{H H':AH}{v:Value}{xs:List Nat}(h:Sl H v xs)(k:TS b H H')(hb: ∀c,b=some c->XV v≠some c):Sl H' v xs:=by cases h with|nil=>exact .nil|emp b=>exact .emp b|mk c o cap xs h1 h2=>exact .mk c o cap xs h1 (h2.but k fun e=>hb c e rfl)
theorem Yl.but{b:Option Nat}{n0:Nat}{H H':AH}{v:Value}{xs:List Nat}(h:Yl n0 H v xs)(k:TS b H H')(hb: ∀c,b=some c->XV v≠some c):Yl n0 H' v xs:=by cases h with|nil=>exact .nil|mk c o cap xs cs h1 h2 h3 h4 h5 h6=>exact .mk c o cap xs cs h1 h2 (by rw[k.n];exact h3) (by rw[k.blk c h3 fun e=>hb c e rfl];exact h4) h5 h6
theorem Yl.blk_lo{n0:Nat}{H:AH}{v:Value}{xs:List Nat}(h:Yl n0 H v xs){b:Nat}(hb:XV v=some b):n0<=b/\b<H.n:=by cases h with|nil=>cases hb|mk c o cap xs cs h1 h2 h3 h4 h5 h6=>cases hb;exact⟨h2,h3⟩
theorem Sl.blk_lt{H:AH}{v:Value}{xs:List Nat}(h:Sl H v xs){b:Nat}(hb:XV v=some b):b<H.n:=by cases h with|nil=>cases hb|emp _=>cases hb|mk c o cap xs h1 h2=>cases hb;exact h2.1
theorem Yl.put{n:Nat}{H:AH}{v:Value}{xs:List Nat}(h:Yl n H v xs){i:Nat}(hi:i<xs.length)(y:Nat): ∃H',YP Tryz.prog H 82 (adr v i) (.int .u64 (y:Int))=some H'/\Yl n H' v (xs.set i y)/\H'.n=H.n/\(∀j,XV v≠some j->H'.blk j=H.blk j)/\ ∀H0,ZQ H0 H->H0.n<=n->ZQ H0 H':=by cases h with
 |nil=>cases hi
 |mk b o cap xs cs h1 h2 h3 h4 h5 h6=>
  have hlen:Nat.ble (o+i+1) cs.length=true:=Nat.ble_eq.mpr (by omega);have e0:(Value.int .u64 (y:Int)).cells=#[.int .u64 (y:Int)]:=rfl;have hw:H.write b (o+i) [.int .u64 (y:Int)]=some { n:=H.n,lw:=min H.lw b,t:=H.t.set b (.rw 1 (cs.take (o+i)++[.int .u64 (y:Int)]++cs.drop (o+i+1))) } :=by rw[AH.write_def,h4];simp only[List.length_singleton,hlen,Bool.true_and];rfl
  refine⟨{ n:=H.n,lw:=min H.lw b,t:=H.t.set b (.rw 1 (cs.take (o+i)++[.int .u64 (y:Int)]++cs.drop (o+i+1))) },?_,?_,rfl,?_,?_⟩;·unfold YP Go.Proofs.YtjboehpfojpimaaGreatDoor.adr;simp only[RI,e0];rw[show Nat.beq (#[Value.int .u64 (y:Int)]:Array Value).size 1=true from rfl,cond_true];exact hw
  ·have hl:(xs.set i y).length=xs.length:=List.length_set;rw[<-hl];refine .mk b o cap _ (cs.take (o+i)++[.int .u64 (y:Int)]++cs.drop (o+i+1)) (by omega) h2 h3 ?_ ?_ ?_;·unfold AH.blk;simp only[Tr.get_set,if_true]
   ·simp only[List.length_append,List.length_take,List.length_drop,List.length_singleton];omega
   ·intro j x hj;rw[List.getElem?_set]at hj;by_cases e:i=j;·subst e;rw[if_pos rfl,if_pos hi]at hj;cases hj;rw[List.append_assoc,List.getElem?_append_right (by rw[List.length_take];omega)];rw[List.length_take,show o+i-min (o+i) cs.length=0 by omega];rfl
    ·rw[if_neg e]at hj;have:=h6 j x hj;rcases Nat.lt_or_ge (o+j) (o+i)with Z0|Ti;·rw[List.append_assoc,List.getElem?_append_left (by rw[List.length_take];omega),List.getElem?_take,if_pos Z0];exact this
     ·rw[List.getElem?_append_right (by simp only[List.length_append,List.length_take,List.length_singleton];omega),List.getElem?_drop];simp only[List.length_append,List.length_take,List.length_singleton];rw[show o+i+1+(o+j-(min (o+i) cs.length+1))=o+j by omega];exact this
  ·intro j hj;have:j≠b:=fun e=>hj (by rw[e];rfl);unfold AH.blk;simp only[Tr.get_set,if_neg this]
  ·intro H0 k hn;refine⟨k.n,?_,fun j hj=>?_⟩;·have:=k.lw;show min H0.lw H0.n<=min H.lw b;omega
   ·have:j≠b:=by omega
    rw[<-k.blk j hj];unfold AH.blk;simp only[Tr.get_set,if_neg this]
def View(w v:Value)(j m:Nat):Prop:= ∀(t:TypeId),LT t-> ∀(k:IntKind)(i:Nat),i<m->YS Tryz.prog t w (.int k (i:Int))=some (adr v (j+i))
theorem Sl.part{H:AH}{v:Value}{xs:List Nat}(h:Sl H v xs){t:TypeId}(ht:LT t){j m:Nat}(hm:j+m<=xs.length)(h0:0<m): ∃w,X9 Tryz.prog H t v (some (.int .i64 (j:Int))) (some (.int .i64 ((j+m:Nat):Int))) none=some w/\Sl H w ((xs.drop j).take m)/\View w v j m/\XV w=XV v:=by cases h with
 |nil=>simp at hm;omega
 |emp b=>simp at hm;omega
 |mk b o cap xs h1 h2=>
  have hl:((xs.drop j).take m).length=m:=by rw[List.length_take,List.length_drop];omega
  obtain⟨F4,cs,h3,h4,h5⟩:=h2;refine⟨.slice (some ⟨b,o+j,none⟩) ((xs.drop j).take m).length (cap-j),?_,.mk b (o+j) (cap-j) _ (by omega) ⟨F4,cs,h3,h4,fun i x hx=>?_,by have:=(List.getElem?_eq_some_iff.mp (h5.1 j _ (List.getElem?_eq_getElem (show j<xs.length by omega)))).1;omega⟩,?_,rfl⟩
  ·unfold X9;simp only[ht.1,RI];unfold OG Yt;simp only[h4,Option.isSome_some,Option.isNone_none,Bool.true_or];rw[if_pos (by omega)];have e1:Nat.ble (j+m) cap=true:=Nat.ble_eq.mpr (by omega);have e2:Nat.blt j cap=true:=by rw[Nat.blt_eq];omega
   simp only[Yt,Int.toNat_natCast];rw[if_pos (by omega)];simp[e1,e2,hl]
  ·rw[List.getElem?_take]at hx;split at hx;·rw[List.getElem?_drop]at hx;have:=h5.1 (j+i) x hx;rwa[<-Nat.add_assoc]at this
   ·cases hx
  ·intro t ht k i hi;unfold YS Go.Proofs.YtjboehpfojpimaaGreatDoor.adr;simp only[ht.1,RI];rw[if_pos (by omega)];simp[Nat.add_assoc]
def KA(n0:Nat)(H H1:AH):Prop:= ∀H0,ZQ H0 H->H0.n<=n0->ZQ H0 H1
theorem KA.refl(n0:Nat)(H:AH):KA n0 H H:=fun _ k _=>k
theorem KA.trans{n0:Nat}{H H1 H2:AH}(a:KA n0 H H1)(b:KA n0 H1 H2):KA n0 H H2:=fun H0 k h=>b H0 (a H0 k h) h
theorem NY{x y:Nat}(hx:x<ZB)(hy:y<ZB)(H:AH):ZG Tryz.prog Yf 161 [.int .u64 (x:Int),.int .u64 (y:Int)] H=some (.tuple #[.int .u64 ((x*y/ZB:Nat):Int),.int .u64 ((x*y%ZB:Nat):Int)],H):=by obtain⟨v,H',h,rfl,rfl⟩:=NX hx hy (H:=H);exact h
theorem OE{h l y:Nat}(hh:h<y)(hl:l<ZB)(hy:y<ZB)(H:AH):ZG Tryz.prog Yf 156 [.int .u64 (h:Int),.int .u64 (l:Int),.int .u64 (y:Int)] H=some (.tuple #[.int .u64 (((h*ZB+l)/y:Nat):Int),.int .u64 (((h*ZB+l)%y:Nat):Int)],H):=by obtain⟨v,H',h,rfl,rfl⟩:=OD hh hl hy (H:=H);exact h
theorem Xm{x y:Nat}(h:x+y<ZB):Zj .add .u64 (x:Int) (y:Int)=some (.int .u64 ((x+y:Nat):Int)):=by rw[Ww,Nat.mod_eq_of_lt h]
section
attribute [-simp] Int.natCast_add Int.natCast_mul Int.natCast_ediv Int.natCast_emod Int.natCast_pow
attribute [local simp] strip Zt YR LR gW ZZ ZO Zk ZN Zv ZM Ze Zf Zb Zw ZT Zs Zx Zc ZS Za Yd ZC Zu plain Zq Tr.get_set ZA Zd Z5 Zl sameKind undef Zh Zy ZR ZU ZD Yq Zm parts Yv Xd
theorem J9{x B:Nat}(hB:0<B)(h:x/B=0):x<B:=by
 rcases Nat.lt_or_ge x B with h'|h';·exact h'
 ·have:=Nat.div_pos h' hB;omega
end
theorem ZQ.top{H0 H:AH}(k:ZQ H0 H):ZQ H0 H.top:=⟨k.n,by have:=k.n;show min H0.lw H0.n<=H.n;omega,k.blk⟩
theorem P2(H:AH):ZQ H H.top:=(ZQ.refl H).top
theorem Sl.top{H:AH}{v:Value}{xs:List Nat}(h:Sl H v xs):Sl H.top v xs:=h.keep (P2 H)
theorem Yl.top{n:Nat}{H:AH}{v:Value}{xs:List Nat}(h:Yl n H v xs):Yl n H.top v xs:=h.mono (Nat.le_refl _) (P2 H)
theorem YD{H:AH}{bits:Nat}{ms:List (Nat×Nat×Nat)}(h:hidden bits ms=[]):Pe H bits ms=H.top:=by unfold Pe;rw[h];rfl
theorem UB(t:Tr VA)(H2:AH)(n:Nat): ∀(k j:Nat),(TP t H2 n k).get j=if n<=j/\j<n+k then some (H2.blk j)else t.get j
 |0,j=>by rw[if_neg (by omega)];rfl
 |k+1,j=>by
  simp only[TP,Tr.get_set];by_cases e:j=n+k;·subst e;rw[if_pos rfl,if_pos (by omega)]
  ·rw[if_neg e,UB t H2 n k j];by_cases c:n<=j/\j<n+k;·rw[if_pos c,if_pos (by omega)]
   ·rw[if_neg c,if_neg (by omega)]
theorem Vj{H H2:AH}(k:ZQ H.top H2):TS none H2 (grown H H2):=by
 refine⟨rfl,fun j hj _=>?_⟩;unfold AH.blk grown;simp only[UB];by_cases c:H.n<=j;·have:=k.n;have:H.n<=H2.n:=this;rw[if_pos (by omega)];rfl
 ·rw[if_neg (by omega)];exact(k.blk j (by show j<H.n;omega)).symm
theorem Xb{H0 H H2:AH}(k0:ZQ H0 H)(k:ZQ H.top H2):ZQ H0 (grown H H2):=by
 refine⟨Nat.le_trans k0.n k.n,k0.lw,fun j hj=>?_⟩;have hn:=k0.n;have:j<H.n:=by omega
 unfold grown AH.blk;simp only[UB];rw[if_neg (by omega)];exact k0.blk j hj
theorem Wi{H H2:AH}(k:ZQ H.top H2):H.n<=H2.lw:=by have:=k.lw;have:min H.n H.n<=H2.lw:=this;omega
theorem TS.none{b:Option Nat}{H H' H2:AH}(k:TS b H H')(k2:TS none H' H2):TS b H H2:=⟨k2.n.trans k.n,fun j hn hj=>(k2.blk j (by rw[k.n];exact hn) (fun e=>by cases e)).trans (k.blk j hn hj)⟩
theorem Sl.same{H H':AH}{v:Value}{xs:List Nat}(h:Sl H v xs)(k:TS none H H'):Sl H' v xs:=h.but k fun c e=>by cases e
theorem Yl.same{n:Nat}{H H':AH}{v:Value}{xs:List Nat}(h:Yl n H v xs)(k:TS none H H'):Yl n H' v xs:=h.but k fun c e=>by cases e
theorem Yl.gr{H I J:AH}{v:Value}{xs:List Nat}(x:Yl H.top.n I v xs)(k:ZQ H.top I)(hJ:J=grown H I):Yl H.n J v xs:=by subst hJ;exact x.same (Vj k)
theorem cg{H I:AH}(k:ZQ H.top I): ∃J,J=grown H I/\ZQ H J/\H.n<=I.n:=⟨_,rfl,Xb (.refl _) k,k.n⟩
theorem TS.top{b:Option Nat}{H H':AH}(k:TS b H.top H'):TS b H H':=⟨k.n,k.blk⟩
theorem Qa(t:Tr VA): ∀(hs:List Nat)(j:Nat),j∉hs->(WL t hs).get j=t.get j|[],j,_=>rfl|i::r,j,h=>by simp only[WL,Tr.get_set];rw[if_neg (by intro e;subst e;exact h (List.mem_cons_self ..))];exact Qa t r j (fun h'=>h (List.mem_cons_of_mem _ h'))
theorem R9{n bits:Nat} : ∀{ms:List (Nat×Nat×Nat)},(∀x∈ms,n<=x.2.1)-> ∀i∈hidden bits ms,n<=i
 |[],_,i,h=>by cases h
 |(k,lo,hi)::r,hm,i,h=>by have ih:=R9 (bits:=bits) (ms:=r) (fun x hx=>hm x (List.mem_cons_of_mem _ hx)) i;have h0:n<=lo:=hm (k,lo,hi) (List.mem_cons_self ..);unfold hidden at h;cases hb:bits.testBit k with
  |true=>rw[hb,cond_true]at h;exact ih h
  |false=>
   rw[hb,cond_false]at h;rcases List.mem_append.mp h with h|h;·obtain⟨a,_,rfl⟩:=List.mem_map.mp h;omega
   ·exact ih h
theorem Uc{H0 H:AH}{bits:Nat}{ms:List (Nat×Nat×Nat)}(k:ZQ H0 H)(h: ∀x∈ms,H0.n<=x.2.1):ZQ H0 (Pe H bits ms):=by have k2:=k.top;refine⟨k2.n,k2.lw,fun j hj=>?_⟩;rw[<-k.blk j hj];unfold Pe AH.blk;simp only;rw[Qa];intro hm;have:=R9 h j hm;omega
section
attribute [-simp] Int.natCast_add Int.natCast_mul Int.natCast_ediv Int.natCast_emod Int.natCast_pow
attribute [local simp] strip Zt YR LR gW ZZ ZO Zk ZN Zv ZM Ze Zf Zb Zw ZT Zs Zx Zc ZS Za Yd ZC Zu plain Zq Tr.get_set ZA Zd Z5 Zl sameKind undef Zh Zy ZR ZU ZD Yq Zm parts Yv Xd DW ZL Zg LX Zo
theorem MK{n m:Nat}{H H':AH}{v w:Value}{xs ys:List Nat}(a:Yl n H v xs)(b:Yl m H' w ys)(h:H.n<=m):L5 v w:=fun c hc Hp=>by have:=(a.blk_lo hc).2;have:=(b.blk_lo Hp).1;omega
theorem BN{a:Int} :Zj .lss .i64 a 0=some (.bool (decide (a<0))):=rfl
end
theorem VU{bits:Nat} : ∀{ms:List (Nat×Nat×Nat)},(∀x∈ms,bits.testBit x.1=true)->hidden bits ms=[]|[],_=>rfl|(k,lo,hi)::r,h=>by have h1:bits.testBit k=true:=h (k,lo,hi) (List.mem_cons_self ..);unfold hidden;rw[h1,cond_true];exact VU fun x hx=>h x (List.mem_cons_of_mem _ hx)
section
attribute [-simp] Int.natCast_add Int.natCast_mul Int.natCast_ediv Int.natCast_emod Int.natCast_pow
attribute [local simp] strip Zt YR LR gW ZZ ZO Zk ZN Zv ZM Ze Zf Zb Zw ZT Zs Zx Zc ZS Za Yd ZC Zu plain Zq Tr.get_set ZA Zd Z5 Zl sameKind undef Zh Zy ZR ZU ZD Yq Zm parts Yv Xd DW ZL Zg LX Zo
end
structure Mod (b : Option Nat) (H H' : AH) : Prop where
  n : H.n <= H'.n
  blk : ∀ j, j < H.n -> b ≠ some j -> H'.blk j = H.blk j
theorem Mod.refl(b:Option Nat)(H:AH):Mod b H H:=⟨Nat.le_refl _,fun _ _ _=>rfl⟩
theorem Mod.trans{b:Option Nat}{H H1 H2:AH}(x:Mod b H H1)(y:Mod b H1 H2):Mod b H H2:=⟨Nat.le_trans x.n y.n,fun j hn hj=>(y.blk j (Nat.lt_of_lt_of_le hn x.n) hj).trans (x.blk j hn hj)⟩
theorem ZQ.mod{H H':AH}(k:ZQ H H'):Mod none H H':=⟨k.n,fun j hj _=>k.blk j hj⟩
theorem TS.mod{b:Option Nat}{H H':AH}(k:TS b H H'):Mod b H H':=⟨Nat.le_of_eq k.n.symm,k.blk⟩
theorem Mod.any{b:Option Nat}{H H':AH}(k:Mod none H H'):Mod b H H':=⟨k.n,fun j hj _=>k.blk j hj (fun e=>by cases e)⟩
theorem Sl.mod{b:Option Nat}{H H':AH}{v:Value}{xs:List Nat}(h:Sl H v xs)(k:Mod b H H')(hb: ∀c,b=some c->XV v≠some c):Sl H' v xs:=by cases h with|nil=>exact .nil|emp b=>exact .emp b|mk c o cap xs h1 h2=>obtain⟨h3,cs,h4,h5,h6⟩:=h2;have e:=k.blk c h3 fun e=>hb c e rfl;exact .mk c o cap xs h1 ⟨Nat.lt_of_lt_of_le h3 k.n,cs,by unfold AH.cells;rw[e];exact h4,by unfold AH.size;rw[e];exact h5,h6⟩
theorem Yl.mod{b:Option Nat}{n0:Nat}{H H':AH}{v:Value}{xs:List Nat}(h:Yl n0 H v xs)(k:Mod b H H')(hb: ∀c,b=some c->XV v≠some c):Yl n0 H' v xs:=by cases h with|nil=>exact .nil|mk c o cap xs cs h1 h2 h3 h4 h5 h6=>exact .mk c o cap xs cs h1 h2 (Nat.lt_of_lt_of_le h3 k.n) (by rw[k.blk c h3 fun e=>hb c e rfl];exact h4) h5 h6
theorem AH.blk_kill(H:AH)(i j:Nat):(H.kill i).blk j=if j=i then .dead else H.blk j:=by
 unfold AH.kill AH.blk;simp only[Tr.get_set];by_cases e:j=i;·rw[if_pos e,if_pos e]
 ·rw[if_neg e,if_neg e]
theorem Lw(xs:List Nat):(xs.map XP).all one=true:=by rw[List.all_eq_true];intro v hv;obtain⟨x,_,rfl⟩:=List.mem_map.mp hv;rfl
theorem Yl.append{n0:Nat}{H:AH}{v w:Value}{xs ys:List Nat}(h:Yl n0 H v xs)(hn:n0<=H.n)(hw:Sl H w ys)(hl:xs.length+ys.length<=17592186044416){t t2:TypeId}(ht:LT t)(K4:LT t2): ∃v' H',Y9 Tryz.prog H t t2 v w=some (v',H')/\Yl n0 H' v' (xs++ys)/\Mod (XV v) H H'/\KA n0 H H':=by
 by_cases h0:ys.length=0
 ·obtain rfl:ys=[]:=List.length_eq_zero_iff.mp h0;refine⟨v,H,?_,by simpa using h,.refl _ _,.refl _ _⟩;have hv: ∃a l c,v= .slice a l c:=by cases h<;>exact⟨_,_,_,rfl⟩
  obtain⟨a,l,c,rfl⟩:=hv;have hwv: ∃a c,w= .slice a 0 c:=by generalize hz:([]:List Nat)=zs at hw;cases hw with|nil=>exact⟨_,_,rfl⟩|emp b=>exact⟨_,_,rfl⟩|mk b o cap xs h1 h2=>subst hz;exact⟨_,_,rfl⟩
  obtain⟨a2,c2,rfl⟩:=hwv;simp[Y9,ht.2,K4.2]
 ·have hc:=hw.cells (by omega);obtain⟨a2,D8,rfl⟩: ∃a cap,w= .slice a ys.length cap:=by cases hw<;>exact⟨_,_,rfl⟩
  have e1:Nat.beq ys.length 0=false:=Yg h0;cases h with
   |nil=>
    refine⟨.slice (some ⟨H.n,0,none⟩) ys.length ys.length,H.new 1 (ys.map XP),?_,?_,(ZQ.new H 1 _).mod,?_⟩;·have e2:Nat.ble (ys.length*8) 140737488355328=true:=Nat.ble_eq.mpr (by simp at hl;omega);have e3:Nat.ble ys.length 281474976710656=true:=Nat.ble_eq.mpr (by simp at hl;omega);simp[Y9,ht.2,K4.2,e1,e2,e3,hc,N5,Value.cells]
    ·have:=Yl.new H ys;simp only[List.nil_append];exact this.mono hn (.refl _)
    ·intro H0 k _;exact k.trans (ZQ.new H 1 _)
   |mk b o cap xs cs h1 h2 h3 h4 h5 h6=>
    have e2:Nat.ble ((xs.length+ys.length)*8) 140737488355328=true:=Nat.ble_eq.mpr (by omega);have e3:Nat.ble (xs.length+ys.length) 281474976710656=true:=Nat.ble_eq.mpr (by omega);have e4:Nat.ble (o+xs.length) cs.length=true:=Nat.ble_eq.mpr (by omega);have e5:(cs.drop o).take xs.length=xs.map XP:=by
     rcases Nat.eq_zero_or_pos xs.length with h|h;·have:xs=[]:=List.length_eq_zero_iff.mp h;subst this;simp
     ·exact(Mx h h6).2
    have eH:(H.kill b).n=H.n:=rfl;refine⟨.slice (some ⟨H.n,0,none⟩) (xs++ys).length (xs++ys).length,(H.kill b).new 1 ((xs++ys).map XP),?_,?_,?_,?_⟩
    ·have e6:Nat.beq 1 1=true:=rfl;have e7:ys.all (one∘XP)=true:=by rw[List.all_eq_true];intro x _;rfl
     simp[Y9,ht.2,K4.2,e1,e2,e3,e4,e5,hc,N5,Value.cells,h4,e7]
    ·refine .mk H.n 0 _ _ ((xs++ys).map XP) (Nat.le_refl _) hn ?_ ?_ (by simp) (fun i x h=>by rw[Nat.zero_add,List.getElem?_map,h];rfl);·show H.n<H.n+1;omega
     ·rw[AH.blk_new,if_pos eH.symm]
    ·refine⟨by show H.n<=H.n+1;omega,fun j hj hb=>?_⟩;rw[AH.blk_new,if_neg (by rw[eH];omega),AH.blk_kill,if_neg (by intro e;subst e;exact hb rfl)]
    ·intro H0 k Vs;have:=k.n;refine⟨by show H0.n<=H.n+1;omega,?_,fun j hj=>?_⟩;·have:=k.lw;show min H0.lw H0.n<=min H.lw b;omega
     ·rw[AH.blk_new,if_neg (by rw[eH];omega),AH.blk_kill,if_neg (by omega)];exact k.blk j hj
theorem P7{H:AH}{t:TypeId}(ht:LT t){n:Nat}(hn:n<=17592186044416): ∃v H',Xr Tryz.prog H t (.int .i64 0) (.int .i64 (n:Int))=some (v,H')/\ZQ H H'/\Yl H.n H' v []:=by
 refine⟨.slice (some ⟨H.n,0,none⟩) 0 n,H.new 1 ((List.replicate n 0).map XP),?_,.new _ _ _,?_⟩;·unfold Xr;simp only[ht.2,N5];rw[if_pos (by omega)];simp only[Int.toNat_natCast,Nat.mul_one,RY];rfl
 ·exact .mk H.n 0 n [] ((List.replicate n 0).map XP) (Nat.zero_le _) (Nat.le_refl _) (Nat.lt_succ_self _) (by rw[AH.blk_new,if_pos rfl]) (by simp) (fun i x h=>by simp at h)
theorem UP(H:AH){t:TypeId}(ht:LT t)(x:Nat):Y6 Tryz.prog H t 1 [(0,.int .u64 (x:Int))]=some (.slice (some ⟨H.n,0,none⟩) 1 1,H.new 1 ([x].map XP)):=by unfold Y6;simp only[ht.2,N5];kernel_rfl
theorem OK(H:AH){t:TypeId}(ht:LT t)(x y:Nat):Y6 Tryz.prog H t 2 [(0,.int .u64 (x:Int)),(1,.int .u64 (y:Int))]=some (.slice (some ⟨H.n,0,none⟩) 2 2,H.new 1 ([x,y].map XP)):=by unfold Y6;simp only[ht.2,N5];kernel_rfl
def QR(v:Value)(m:Nat):Value:=match v with| .slice (some a) _ _=> .slice (some a) m m|v=>v
theorem Yl.cut3{n0:Nat}{H:AH}{v:Value}{xs:List Nat}(h:Yl n0 H v xs){t:TypeId}(ht:LT t){m:Nat}(hm:m<=xs.length):X9 Tryz.prog H t v none (some (.int .i64 (m:Int))) (some (.int .i64 (m:Int)))=some (QR v m)/\Yl n0 H (QR v m) (xs.take m)/\XV (QR v m)=XV v:=by cases h with
 |nil=>simp at hm;subst hm;refine⟨?_,.nil,rfl⟩;unfold X9;simp only[ht.1,RI];rfl
 |mk b o cap xs cs h1 h2 h3 h4 h5 h6=>
  have hl:(xs.take m).length=m:=by rw[List.length_take];omega
  have Yz:H.size b=some 1:=by unfold AH.size;rw[h4]
  have ho:Yl n0 H (.slice (some ⟨b,o,none⟩) (xs.take m).length m) (xs.take m):= .mk b o m _ cs (by omega) h2 h3 h4 (by omega) fun i x hx=>h6 i x (by
   rw[List.getElem?_take]at hx;split at hx;·exact hx
   ·cases hx);rw[hl]at ho;refine⟨?_,ho,rfl⟩;unfold X9;simp only[ht.1,RI];unfold OG Yt;simp only[Yz,Option.isSome_some,Option.isNone_none,Bool.true_or];rw[if_pos (by omega)];have e1:Nat.ble m m=true:=Nat.ble_eq.mpr (Nat.le_refl _);simp[Yt,e1,QR]
theorem two32:2<=ZV:=by decide
theorem Co{k:IntKind}{x:Nat} :Zj .gtr k (x:Int) 0=some (.bool (decide (0<x))):=VW (y:=0)
theorem QO{k:IntKind}{x:Nat} :Zj .eql k (x:Int) 0=some (.bool (decide (x=0))):=Mh (y:=0)
theorem Om{x:Nat} :Zj .rem .u64 (x:Int) 4294967296=some (.int .u64 ((x%4294967296:Nat):Int)):=MT (y:=4294967296) (by decide)
theorem Og{x:Nat}(hx:x<ZB):Zj .quo .u64 (x:Int) 4294967296=some (.int .u64 ((x/4294967296:Nat):Int)):=SP (y:=4294967296) hx (by decide)
theorem IX{x y:Nat}(h:x*y<9223372036854775808):Zj .mul .i64 (x:Int) (y:Int)=some (.int .i64 ((x*y:Nat):Int)):=by
 show some (Value.int .i64 (IntKind.i64.wrap ((x:Int)*(y:Int))))=_;have e:IntKind.i64.wrap ((x:Int)*(y:Int))=((x*y:Nat):Int):=by rw[IntKind.wrap_i64,<-Int.natCast_mul];generalize x*y=z at*;omega
 rw[e]
theorem J8{x:Nat}(h:2*x<9223372036854775808):Zj .mul .i64 2 (x:Int)=some (.int .i64 ((2*x:Nat):Int)):=IX (x:=2) h
theorem Kd{x:Nat}(h:x<9223372036854775800):Zj .add .i64 (x:Int) 2=some (.int .i64 ((x+2:Nat):Int)):=Vu (y:=2) (by omega)
def W9:List Nat->List Nat|[]=>[]|x::xs=>x%ZV::x/ZV::W9 xs
theorem Sa(x:Nat): ∀(xs:List Nat),W9 (xs++[x])=W9 xs++[x%ZV,x/ZV]|[]=>rfl|y::xs=>by simp[W9,Sa x xs]
theorem VV: ∀(xs:List Nat),(W9 xs).length=2*xs.length|[]=>rfl|x::xs=>by simp[W9,VV xs];omega
theorem TI: ∀(xs:List Nat),dv ZV (W9 xs)=dv ZB xs|[]=>rfl|x::xs=>by simp only[W9,dv,TI xs];have:=Nat.mod_add_div x 4294967296;show x%4294967296+4294967296*(x/4294967296+4294967296*dv ZB xs)=x+18446744073709551616*dv ZB xs;omega
theorem UL: ∀{xs:List Nat},Y7 ZB xs->Y7 ZV (W9 xs)|[],_=> .nil _|x::xs,h=>by have hx:x<18446744073709551616:=h.head;exact .cons (Nat.mod_lt _ (by decide)) (.cons (by show x/4294967296<4294967296;omega) (UL h.tail))
def Wn:List Nat->List Nat|[]=>[]|[x]=>[x]|x::y::r=>(x+y*ZV)::Wn r
theorem Jq(N:Nat):Wn (ds ZV N)=ds ZB N:=by induction N using Nat.strongRecOn with
 |_ N ih=>
  by_cases h0:N=0;·subst h0;rw[Y1,Y1];rfl
  ·rw[W7 two32 h0];by_cases h1:N/ZV=0
   ·have hN:N<4294967296:=by have:=J9 (by decide) h1;exact this
    rw[h1,Y1,W7 Qr h0];have e1:N%ZV=N:=Nat.mod_eq_of_lt hN;have e2:N%ZB=N:=Nat.mod_eq_of_lt (Nat.lt_trans hN (by decide));have e3:N/ZB=0:=Nat.div_eq_of_lt (Nat.lt_trans hN (by decide));rw[e1,e2,e3,Y1];rfl
   ·rw[W7 two32 h1,W7 Qr h0];simp only[Wn];have e1:N/ZV/ZV=N/ZB:=by rw[Nat.div_div_eq_div_mul,show ZV*ZV=ZB by decide]
    have e2:N%ZV+N/ZV%ZV*ZV=N%ZB:=by show N%4294967296+N/4294967296%4294967296*4294967296=N%18446744073709551616;omega
    rw[e1,e2,ih _ (Nat.div_lt_self (by omega) (by decide))]
theorem NO{ys:List Nat}{i:Nat}(h:i<ys.length):Wn (ys.drop i)=(ys[i]+nth ys (i+1)*ZV)::Wn (ys.drop (i+2)):=by
 rw[List.drop_eq_getElem_cons h];by_cases h1:i+1<ys.length;·rw[List.drop_eq_getElem_cons h1,WZ h1];simp only[Wn]
 ·rw[List.drop_eq_nil_of_le (by omega),Un (by omega),List.drop_eq_nil_of_le (by omega)];simp[Wn]
theorem Qh: ∀(ys:List Nat),(Wn ys).length<=ys.length|[]=>Nat.le_refl _|[x]=>Nat.le_refl _|x::y::r=>by simp only[Wn,List.length_cons];have:=Qh r;omega
section
attribute [-simp] Int.natCast_add Int.natCast_mul Int.natCast_ediv Int.natCast_emod Int.natCast_pow
attribute [local simp] strip Zt YR LR gW ZZ ZO Zk ZN Zv ZM Ze Zf Zb Zw ZT Zs Zx Zc ZS Za Yd ZC Zu plain Zq Tr.get_set ZA Zd Z5 Zl sameKind undef Zh Zy ZR ZU ZD Yq Zm parts Yv Xd DW ZL Zg LX Zo
theorem Xt{n0:Nat}{H:AH}{v:Value}{xs:List Nat}(h:Yl n0 H v xs)(hlen:xs.length<1152921504606846976):CW Tryz.prog Yf 86 [v] H fun v' H'=>H'=H/\Yl n0 H v' (ZP xs)/\XV v'=XV v:=by
 refine YH 22 Tryz.func86 ?_;have l0:=h.sl.len ZD;apply ZX;intro b1 ZH;simp;subst ZH;apply ZX;intro b1 ZH;simp[l0];subst ZH;apply Zz;intro b1 ZH;apply Z2;refine Y8 (fun n s=>s.k=22/\s.H=H/\n<=xs.length/\ZP (xs.take n)=ZP xs/\s.tm.get 0=some v/\s.tm.get 3=some (.int .i64 (n:Int))) ?_ xs.length _ ⟨rfl,rfl,Nat.le_refl _,by rw[List.take_length],by simp,by simp⟩;rintro n ⟨k,tm,H'⟩ ⟨hk,hH,hn,ht,t0,t3⟩ Q' WC;simp only at hk hH t0 t3;subst hk;subst hH;apply Zz;intro b2 Yy;apply ZX;intro b3 YC;have fin: ∀YI:Tr Value,YI.get 0=some v->YI.get 3=some (.int .i64 (n:Int))->ZP (xs.take n)=xs.take n->Q' (.exit 0) ⟨22,YI,H'⟩:=fun YI t0 t3 he=>by apply WC;left;refine⟨rfl,?_⟩;subst ZH;obtain⟨c1,c2,c3⟩:=h.cut3 ZD hn;apply ZX;intro b4 YZ;simp[t0,t3,c1];subst YZ;apply Z8;simp;rw[<-ht,he];exact⟨c2,c3⟩
 by_cases hz:n=0;·subst hz;simp[t3];subst YC;refine Zp (t:=false) (by simp) ?_;apply YM;exact fin _ (by simp[t0]) (by simp[t3]) rfl
 ·have hi:n-1<xs.length:=by omega
  have a1:=h.sl.adr ZD (k:= .i64) hi;have d1:=h.sl.load hi;have Sb:xs.take n=xs.take (n-1)++[xs[n-1]]:=by have:=XA hi;rwa[show n-1+1=n by omega]at this
  have Vs:0<n:=by omega
  simp[t3,t0,Co,Vs,Ot (x:=n) (by omega) Vs,a1,d1,QO];subst YC;by_cases h0:xs[n-1]=0;·refine Zp (t:=true) (by simp[h0]) ?_;apply ZE;subst Yy;apply Z2;apply Zr;simp[t3,Ot (x:=n) (by omega) Vs];apply WC;refine⟨n-1,by omega,rfl,rfl,by show n-1<=_;omega,?_,by simp[t0],by simp⟩;rw[<-ht,Sb,h0,Wp]
  ·refine Zp (t:=false) (by simp[h0]) ?_;apply YM;exact fin _ (by simp[t0]) (by simp[t3]) (by rw[Sb];exact VI _ _ h0)
theorem IV{H:AH}{v:Value}{xs:List Nat}(h:Sl H v xs)(dx:Y7 ZB xs)(hlen:xs.length<=8000000000000):CW Tryz.prog Yf 53 [v] H fun v' H'=>ZQ H H'/\Yl H.n H' v' (ds ZV (dv ZB xs)):=by
 refine YH 26 Tryz.func53 ?_;have l0:=h.len Yq;obtain⟨a0,H1,KM,k1,o1⟩:=P7 (H:=H) ZD (n:=2*xs.length) (by omega);apply ZX;intro b1 ZH;simp;subst ZH;apply ZX;intro b1 ZH;simp[l0,J8 (x:=xs.length) (by omega),KM];subst ZH;apply Zz;intro b1 ZH;apply ZX;intro b2 Yy;simp[l0];subst Yy;apply Z2;refine Y8 (fun m s'=>s'.k=26/\ZQ H s'.H/\ ∃(i:Nat) (a:Value),m+i=xs.length/\Yl H.n s'.H a (W9 (xs.take i))/\s'.tm.get 3=some a/\s'.tm.get 10=some v/\s'.tm.get 11=some (.int .i64 (xs.length:Int))/\s'.tm.get 12=some (.int .i64 (i:Int))) ?_ xs.length _ ⟨rfl,k1,0,a0,by omega,o1,by simp,by simp,by simp,by simp⟩;rintro m ⟨k,tm,H2⟩ ⟨hk,kH,i,a,LB,own,t3,t10,t11,t12⟩ Q' WC;simp only at hk kH own t3 t10 t11 t12;subst hk;apply ZX;intro b3 YC;simp[t11,t12];subst YC;apply Zz;intro b3 YC;by_cases hi:i<xs.length;·refine Zp (t:=true) (by simp[hi]) ?_;apply ZE;subst YC;have s2:=h.keep kH;have a1:=s2.adr Yq (k:= .i64) hi;have d1:=s2.load hi;have hx:xs[i]<ZB:=dx.get (List.getElem?_eq_getElem hi);obtain⟨x,Pk⟩:=hid (xs[i]);rw[<-Pk]at d1 hx;have hb:=OK H2 ZD (x%4294967296) (x/4294967296);have kn:=ZQ.new H2 1 ([x%4294967296,x/4294967296].map XP);have ow:=Yl.new H2 [x%4294967296,x/4294967296];obtain⟨v',H4,Ed,Tv,BM,Iu⟩:=(own.m kn).append (Nat.le_trans kH.n kn.n) ow.sl (by rw[VV,List.length_take];simp;omega) ZD ZD;apply Zz;intro b3 YC;apply Z2;apply ZX;intro b4 YZ;simp[t10,t12,a1,d1];subst YZ;apply Zr;simp[t3,Om,Og hx,hb];simp at Ed;simp[Ed];subst YC;apply Zr;simp[t12,Y4 (x:=i) (by omega)];apply WC;refine⟨m-1,by omega,rfl,Iu H (kH.trans kn) (Nat.le_refl _),i+1,v',by omega,?_,by simp,by simp[t10],by simp[t11],by simp⟩;rw[XA hi,Sa,<-Pk];exact Tv
 ·refine Zp (t:=false) (by simp[hi]) ?_;apply YM;apply WC;left;refine⟨rfl,?_⟩;obtain rfl:i=xs.length:=by omega
  rw[List.take_length]at own;obtain⟨v5,H5,Lh,e5,o5,_⟩:=Xt own (by rw[VV];omega);subst e5;rw[XN two32 (UL dx),TI]at o5;subst ZH;apply ZX;intro b4 YZ;simp[t3,Lh];subst YZ;apply Z8;simp;exact⟨kH,o5⟩
end
theorem HE{x:Nat}(h:x<ZV):x<ZB:=Nat.lt_trans h (by decide)
section
attribute [-simp] Int.natCast_add Int.natCast_mul Int.natCast_ediv Int.natCast_emod Int.natCast_pow
attribute [local simp] strip Zt YR LR gW ZZ ZO Zk ZN Zv ZM Ze Zf Zb Zw ZT Zs Zx Zc ZS Za Yd ZC Zu plain Zq Tr.get_set ZA Zd Z5 Zl sameKind undef Zh Zy ZR ZU ZD Yq Zm parts Yv Xd DW ZL Zg LX Zo
theorem Nt{H:AH}{v:Value}{ys:List Nat}(h:Sl H v ys)(dy:Y7 ZV ys)(hlen:ys.length<=17592186000000):CW Tryz.prog Yf 54 [v] H fun v' H'=>ZQ H H'/\Yl H.n H' v' (Wn ys):=by
 refine YH 34 Tryz.func54 ?_;have l0:=h.len ZD;apply Zz;intro b1 ZH;apply Zr;simp;subst ZH;apply Zz;intro b1 ZH;apply Zr;simp;subst ZH;apply Zz;intro b1 ZH;apply Zz;intro b2 Yy;apply Zr;simp;subst Yy;apply Z2;refine Y8 (fun m s'=>s'.k=34/\ZQ H s'.H/\ ∃(i:Nat) (a:Value) (L:List Nat),m=ys.length-i/\i<=ys.length+1/\L.length<=i/\L++Wn (ys.drop i)=Wn ys/\Yl H.n s'.H a L/\s'.tm.get 0=some v/\s'.tm.get 3=some a/\s'.tm.get 4=some (.int .i64 (i:Int))) ?_ ys.length _ ⟨rfl,.refl H,0,.slice none 0 0,[],by omega,by omega,Nat.le_refl _,by simp,.nil,by simp,by simp,by simp⟩;rintro m ⟨k,tm,H2⟩ ⟨hk,kH,i,a,L,LB,hiy,hLi,hL,own,t0,t3,t4⟩ Q' WC;simp only at hk kH own t0 t3 t4;subst hk;apply Zz;intro b3 YC;apply Zz;intro b4 YZ;apply Zr;simp[t0,t4,l0];subst YZ;by_cases hi:i<ys.length
 ·refine Zp (t:=true) (by simp[hi]) ?_;apply ZE;subst YC;have s2:=h.keep kH;have a1:=s2.adr ZD (k:= .i64) hi;have d1:=s2.load hi;have hx:ys[i]<ZV:=dy.get (List.getElem?_eq_getElem hi);obtain⟨x,Pk⟩: ∃x,x=ys[i]:=⟨_,rfl⟩;obtain⟨w,hw⟩: ∃w,w=x+nth ys (i+1)*4294967296:=⟨_,rfl⟩;have ES:=NO hi;rw[<-Pk]at d1 hx ES;have C9:Wn (ys.drop i)=w::Wn (ys.drop (i+2)):=by rw[hw];exact ES
  have hb:=UP H2 Yq w;have kn:=ZQ.new H2 1 ([w].map XP);have ow:=Yl.new H2 [w];obtain⟨v',H4,Ed,Tv,BM,Iu⟩:=(own.m kn).append (Nat.le_trans kH.n kn.n) ow.sl (by simp;omega) Yq Yq;simp at Ed hb;apply Zz;intro b3 YC;apply Z2;apply Zz;intro b4 YZ;apply Zr;simp[t0,t4,a1,d1];subst YZ;refine SW (fun s'=>s'.k=34/\s'.H=H2/\s'.tm.get 0=some v/\s'.tm.get 3=some a/\s'.tm.get 4=some (.int .i64 (i:Int))/\s'.tm.get 5=some (.int .u64 (w:Int))) ?_ ?_
  ·intro Ae O6;apply Zz;intro b4 YZ;apply Zr;simp[t0,t4,l0,Y4 (x:=i) (by omega)];subst YZ;by_cases Nf:i+1<ys.length
   ·refine Zp (t:=true) (by simp[Nf]) ?_;have a2:=s2.adr ZD (k:= .i64) Nf;have d2:=s2.load Nf;have hz:ys[i+1]<ZV:=dy.get (List.getElem?_eq_getElem Nf);rw[WZ Nf]at hw;obtain⟨z,DP⟩: ∃z,z=ys[i+1]:=⟨_,rfl⟩;rw[<-DP]at d2 hz hw;have hz':z<4294967296:=hz;have Fq:x<4294967296:=hx;have m1:Zj .mul .u64 (z:Int) 4294967296=some (.int .u64 ((z*4294967296:Nat):Int)):=by rw[mulR,Nat.mod_eq_of_lt (by show _<18446744073709551616;omega)]
    have m2:Zj .add .u64 (x:Int) ((z*4294967296:Nat):Int)=some (.int .u64 (w:Int)):=by rw[hw];exact Xm (by show _<18446744073709551616;omega)
    apply Zr;simp[t0,t4,Y4 (x:=i) (by omega),a2,d2,m1,m2];apply O6;exact⟨rfl,rfl,by simp[t0],by simp[t3],by simp[t4],by simp⟩
   ·refine Zp (t:=false) (by simp[Nf]) ?_;apply ZE;apply O6;rw[Un (by omega),Nat.zero_mul,Nat.add_zero]at hw;exact⟨rfl,rfl,by simp[t0],by simp[t3],by simp[t4],by simp[hw]⟩
  clear t0 t3 t4;rintro⟨k,tm,H3⟩ ⟨hk,hH,t0,t3,t4,t5⟩;simp only at hk hH t0 t3 t4 t5;subst hk;subst hH;apply Zr;simp[t3,t5,hb,Ed];subst YC;apply Zr;simp[t4,Kd (x:=i) (by omega)];apply WC;refine⟨ys.length-(i+2),by omega,rfl,Iu H (kH.trans kn) (Nat.le_refl _),i+2,v',L++[w],rfl,by omega,by simp;omega,?_,Tv,by simp[t0],by simp,by simp⟩;rw[<-hL,C9];simp
 ·refine Zp (t:=false) (by simp[hi]) ?_;apply YM;apply WC;left;refine⟨rfl,?_⟩;rw[List.drop_eq_nil_of_le (by omega)]at hL;simp[Wn]at hL;subst ZH;apply Zz;intro b4 YZ;apply Zr;simp[t3];subst YZ;apply Z8;simp;rw[<-hL];exact⟨kH,own⟩
theorem Is{H:AH}{v w:Value}{ys zs:List Nat}(h:Sl H v ys)(hw:Sl H w zs)(dy:Y7 ZV ys)(hlen:ys.length<=17592186000000):CW Tryz.prog Yf 16 [v,w] H fun v' H'=>ZQ H H'/\v'= .bool (decide (Wn ys=zs)):=by
 refine YH 29 Tryz.func16 ?_;obtain⟨v1,H1,OT,k1,o1⟩:=Nt h dy hlen;have AJ:=Qh ys;generalize Wn ys=xs at*;have s1:=o1.sl;have s2:=hw.keep k1;have l1:=s1.len Yq;have l2:=s2.len Yq;apply Zz;intro b1 ZH;apply Zr;simp;subst ZH;apply Zz;intro b1 ZH;apply Zr;simp[OT];subst ZH;apply Zz;intro b1 ZH;apply Zz;intro b2 Yy;apply Zr;simp[l1,l2,Q0];subst Yy;by_cases hl:xs.length=zs.length
 ·refine Zp (t:=false) (by simp[hl]) ?_;apply ZE;subst ZH;apply Zz;intro b1 ZH;apply Zz;intro b2 Yy;apply Zr;simp[l1];subst Yy;apply Z2;refine Y8 (fun m s'=>s'.k=29/\s'.H=H1/\ ∃(i:Nat),m+i=xs.length/\xs.take i=zs.take i/\s'.tm.get 1=some w/\s'.tm.get 5=some v1/\s'.tm.get 15=some (.int .i64 (xs.length:Int))/\s'.tm.get 16=some (.int .i64 (i:Int))) ?_ xs.length _ ⟨rfl,rfl,0,by omega,rfl,by simp,by simp,by simp,by simp⟩;rintro m ⟨k,tm,H2⟩ ⟨hk,hH,i,LB,he,t1,t5,t15,t16⟩ Q' WC;simp only at hk hH t1 t5 t15 t16;subst hk;subst hH;apply Zz;intro b3 YC;apply Zr;simp[t15,t16];subst YC;apply Zz;intro b3 YC;by_cases hi:i<xs.length
  ·refine Zp (t:=true) (by simp[hi]) ?_;apply ZE;subst YC;have OS:i<zs.length:=by omega
   have a1:=s1.adr Yq (k:= .i64) hi;have d1:=s1.load hi;have a2:=s2.adr Yq (k:= .i64) OS;have d2:=s2.load OS;apply Zz;intro b3 YC;apply Z2;apply Zz;intro b4 YZ;apply Zr;simp[t16];subst YZ;apply Zz;intro b4 YZ;apply Ug (by kernel_rfl);simp[t1,t5,a1,a2,d1,d2,Q0];subst YZ;by_cases Wq:xs[i]=zs[i];·refine Zp (t:=false) (by simp[Wq]) ?_;apply ZE;subst YC;apply Zr;simp[t16,Y4 (x:=i) (by omega)];apply WC;refine⟨m-1,by omega,rfl,rfl,i+1,by omega,?_,by simp[t1],by simp[t5],by simp[t15],by simp⟩;rw[XA hi,XA OS,he,Wq]
   ·refine Zp (t:=true) (by simp[Wq]) ?_;apply Zz;intro b4 YZ;apply Zr;simp;subst YZ;apply Z8;have hd:xs≠zs:=by intro e;apply Wq;subst e;rfl
    apply WC;simp[WA,TM,Ro,hd];exact k1
  ·refine Zp (t:=false) (by simp[hi]) ?_;apply YM;apply WC;left;refine⟨rfl,?_⟩;obtain rfl:i=xs.length:=by omega
   have El:xs=zs:=by rwa[List.take_length,hl,List.take_length]at he
   subst ZH;apply Zz;intro b4 YZ;apply Zr;simp;subst YZ;apply Z8;simp[El];exact k1
 ·refine Zp (t:=true) (by simp[hl]) ?_;apply Zz;intro b2 Yy;apply Zr;simp;subst Yy;apply Z8;have hd:xs≠zs:=fun e=>hl (by rw[e]);simp[WA,hd];exact k1
theorem LM{H:AH}{v:Value}{ys:List Nat}(h:Sl H v ys):CW Tryz.prog Yf 91 [v] H fun v' H'=>H'=H/\v'= .bool (decide (ys.length=0)):=by refine YH 6 Tryz.func91 ?_;have l1:=h.len ZD;apply ZX;intro b1 ZH;simp;subst ZH;apply ZX;intro b1 ZH;simp[l1,QO];subst ZH;apply Z8;simp
theorem JA{H:AH}{v:Value}{ys:List Nat}(h:Sl H v ys)(i:Nat):CW Tryz.prog Yf 155 [v,.int .i64 (i:Int)] H fun v' H'=>H'=H/\v'= .int .u64 (nth ys i:Int):=by
 refine YH 13 Tryz.func155 ?_;have l1:=h.len ZD;apply ZX;intro b1 ZH;simp;subst ZH;apply Zz;intro b1 ZH;apply ZX;intro b2 Yy;simp[l1];subst Yy;by_cases hi:i<ys.length;·refine Zp (t:=true) (by simp[hi]) ?_;have a1:=h.adr ZD (k:= .i64) hi;have d1:=h.load hi;apply ZX;intro b2 Yy;simp[a1,d1];subst Yy;apply Z8;simp[WA,WZ hi]
 ·refine Zp (t:=false) (by simp[hi]) ?_;apply ZE;subst ZH;apply ZX;intro b2 Yy;simp;subst Yy;apply Z8;simp[Un (Nat.le_of_not_lt hi)]
theorem QZ{H:AH}{v:Value}{ys:List Nat}(h:Sl H v ys)(i:Nat):ZG Tryz.prog Yf 155 [v,.int .i64 (i:Int)] H=some (.int .u64 (nth ys i:Int),H):=by obtain⟨_,_,hc,rfl,rfl⟩:=JA h i;exact hc
end
theorem W2(B:Nat)(xs:List Nat)(i:Nat):dv B (xs.take (i+1))=dv B (xs.take i)+B^i*nth xs i:=by
 by_cases h:i<xs.length;·rw[XA h,YW,List.length_take,Nat.min_eq_left (by omega),WZ h];simp[dv]
 ·rw[List.take_of_length_le (by omega),List.take_of_length_le (by omega),Un (by omega),Nat.mul_zero,Nat.add_zero]
theorem Q4{B:Nat}{xs:List Nat}(h:Y7 B xs)(hB:0<B)(i:Nat):nth xs i<B:=by
 by_cases hi:i<xs.length;·rw[WZ hi];exact h.get (List.getElem?_eq_getElem hi)
 ·rw[Un (by omega)];exact hB
theorem MA(B:Nat)(xs:List Nat)(j:Nat)(h:j<=xs.length):dv B xs=dv B (xs.take j)+B^j*dv B (xs.drop j):=by have:=congrArg (dv B) (List.take_append_drop j xs);rw[YW,List.length_take,Nat.min_eq_left h]at this;exact this.symm
theorem PS{B:Nat}{xs:List Nat}{k:Nat}(hB:0<B)(h:dv B xs<B^k):dv B (xs.take k)=dv B xs:=by
 rcases Nat.lt_or_ge xs.length k with hk|hk;·rw[List.take_of_length_le (by omega)]
 ·have e:=MA B xs k hk;have:dv B (xs.drop k)=0:=by
   rcases Nat.eq_zero_or_pos (dv B (xs.drop k))with h0|h0;·exact h0
   ·exfalso;have:B^k*1<=B^k*dv B (xs.drop k):=Nat.mul_le_mul_left _ h0;omega
  rw[this,Nat.mul_zero]at e;omega
theorem Tq{B:Nat}(hB:2<=B){xs ys:List Nat}(hy:ZP ys=ys)(dx:Y7 B xs)(dy:Y7 B ys)(h:xs.length<ys.length):dv B xs<dv B ys:=by
 have h1:=Ve dx;have e:ys=ds B (dv B ys):=by rw[<-XN hB dy,hy]
 have Wq:dv B ys≠0:=by intro h0;rw[h0,Y1]at e;rw[e]at h;simp at h
 have h2:=Hj hB Wq;rw[<-e]at h2;have h3:B^xs.length<=B^(ys.length-1):=Nat.pow_le_pow_right (by omega) (by omega);omega
theorem Yl.fill{n:Nat}{H:AH}{v:Value}{L:List Nat}{m:Nat}(h:Yl n H v (L++List.replicate (m+1) 0)){i:Nat}(hL:L.length=i)(y:Nat): ∃H',YP Tryz.prog H 82 (adr v i) (.int .u64 (y:Int))=some H'/\Yl n H' v ((L++[y])++List.replicate m 0)/\TS (XV v) H H'/\KA n H H':=by obtain⟨H',h1,h2,h3,h4,h5⟩:=h.put (i:=i) (by simp;omega) y;refine⟨H',h1,?_,⟨h3,fun j _ hj=>h4 j hj⟩,h5⟩;rw[List.replicate_succ,SM _ _ _ _ hL]at h2;simpa using h2
section
attribute [-simp] Int.natCast_add Int.natCast_mul Int.natCast_ediv Int.natCast_emod Int.natCast_pow
attribute [local simp] strip Zt YR LR gW ZZ ZO Zk ZN Zv ZM Ze Zf Zb Zw ZT Zs Zx Zc ZS Za Yd ZC Zu plain Zq Tr.get_set ZA Zd Z5 Zl sameKind undef Zh Zy ZR ZU ZD Yq Zm parts Yv Xd DW ZL Zg LX Zo
theorem Oh{H:AH}{v w:Value}{xs ys:List Nat}(hv:Sl H v xs)(hw:Sl H w ys)(dx:Y7 ZV xs)(dy:Y7 ZV ys)(lx:xs.length<=17592186000000)(ly:ys.length<=17592186000000):CW Tryz.prog Yf 115 [v,w] H fun v' H'=>ZQ H H'/\Yl H.n H' v' (ds ZV (dv ZV xs+dv ZV ys)):=by
 refine YH 44 Tryz.func115 ?_;have l1:=hv.len ZD;have l2:=hw.len ZD;obtain⟨n,hn⟩:=hid (max xs.length ys.length);obtain⟨c0,H1,KM,k1,o1,n1⟩:=XO (H:=H) ZD (n:=n+1) (by omega);apply ZX;intro b1 ZH;simp;subst ZH;apply ZX;intro b1 ZH;simp[l1];subst ZH;refine SW (fun s'=>s'.k=44/\s'.H=H/\s'.tm.get 0=some v/\s'.tm.get 1=some w/\s'.tm.get 5=some (.int .i64 (n:Int))) ?_ ?_
 ·intro Q' WC;apply ZX;intro b1 ZH;simp[l2,VW];subst ZH;by_cases hc:xs.length<ys.length;·refine Zp (t:=true) (by simp[hc]) ?_;apply Zr;simp[l2];apply WC;exact⟨rfl,rfl,by simp,by simp,by simp;omega⟩
  ·refine Zp (t:=false) (by simp[hc]) ?_;apply ZE;apply WC;exact⟨rfl,rfl,by simp,by simp,by simp;omega⟩
 rintro⟨k,tm,H'⟩ ⟨hk,hH,t0,t1,t5⟩;simp only at hk hH t0 t1 t5;subst hk;subst hH;have CD:Xr Tryz.prog H' 48 (.int .i64 ((n+1:Nat):Int)) (.int .i64 ((n+1:Nat):Int))=some (c0,H1):=KM;apply ZX;intro b1 ZH;simp[t5,Y4 (x:=n) (by omega),CD];subst ZH;apply ZX;intro b1 ZH;simp;subst ZH;apply Zz;intro b1 ZH;apply ZX;intro b2 Yy;simp;subst Yy;apply Z2;refine Y8 (fun m s'=>s'.k=44/\ZQ H' s'.H/\ ∃(i carry:Nat) (L:List Nat),m+i=n+1/\L.length=i/\carry<=1/\Y7 ZV L/\dv ZV L+ZV^i*carry=dv ZV (xs.take i)+dv ZV (ys.take i)/\Yl H'.n s'.H c0 (L++List.replicate m 0)/\s'.tm.get 0=some v/\s'.tm.get 1=some w/\s'.tm.get 5=some (.int .i64 (n:Int))/\s'.tm.get 6=some c0/\s'.tm.get 7=some (.int .u64 (carry:Int))/\s'.tm.get 8=some (.int .i64 (i:Int))) ?_ (n+1) _ ⟨rfl,k1,0,0,[],by omega,rfl,by omega,.nil _,by simp[dv],by simpa using o1,by simp[t0],by simp[t1],by simp[t5],by simp,by simp,by simp⟩;clear t0 t1 t5;rintro m ⟨k,tm,H2⟩ ⟨hk,kH,i,carry,L,LB,hL,hc,dL,heq,own,t0,t1,t5,t6,t7,t8⟩ Q' WC;simp only at hk kH own t0 t1 t5 t6 t7 t8;subst hk;apply Zz;intro b3 YC;apply ZX;intro b4 YZ;simp[t5,t8,Mw];subst YZ;by_cases hi:i<=n
 ·refine Zp (t:=true) (by simp[hi]) ?_;apply ZE;subst YC;obtain⟨m',rfl⟩: ∃m',m=m'+1:=⟨m-1,by omega⟩;have c1:=QZ (hv.keep kH) i;have c2:=QZ (hw.keep kH) i;have hx:nth xs i<4294967296:=Q4 dx (by decide) i;have hy:nth ys i<4294967296:=Q4 dy (by decide) i;have ex:=W2 ZV xs i;have ey:=W2 ZV ys i;obtain⟨x,Pk⟩:=hid (nth xs i);obtain⟨y,Bz⟩:=hid (nth ys i);rw[<-Pk]at c1 hx ex;rw[<-Bz]at c2 hy ey;have m1:Zj .add .u64 (x:Int) (y:Int)=some (.int .u64 ((x+y:Nat):Int)):=Xm (by show _<18446744073709551616;omega);have m2:Zj .add .u64 ((x+y:Nat):Int) (carry:Int)=some (.int .u64 ((x+y+carry:Nat):Int)):=Xm (by show _<18446744073709551616;omega);obtain⟨z,hz⟩:=hid (x+y+carry);rw[<-hz]at m2;have BX:z<ZB:=by show z<18446744073709551616;omega
  obtain⟨H3,HN,Q8,Ak,EE⟩:=own.fill hL (z%4294967296);have a3:=own.sl.adr ZD (k:= .i64) (i:=i) (by simp;omega);apply Zz;intro b3 YC;apply Z2;apply ZX;intro b4 YZ;simp[t0,t1,t7,t8,c1,c2,m1,m2];subst YZ;apply ZX;intro b4 YZ;simp[t6,t8,Om,a3,HN];subst YZ;apply Zr;simp[Og BX];subst YC;apply Zr;simp[t8,Y4 (x:=i) (by omega)];apply WC;refine⟨m',by omega,rfl,EE H' kH (Nat.le_refl _),i+1,z/4294967296,L++[z%4294967296],by omega,by simp[hL],by omega,dL.append (.cons (Nat.mod_lt _ (by decide)) (.nil _)),?_,Q8,by simp[t0],by simp[t1],by simp[t5],by simp[t6],by simp,by simp⟩;rw[YW,hL,ex,ey];simp only[dv,Nat.mul_zero,Nat.add_zero];have e1:ZV^i*(z%4294967296+4294967296*(z/4294967296))=ZV^i*(x+y+carry):=by rw[Nat.mod_add_div,hz]
  rw[Nat.mul_add,<-Nat.mul_assoc,show ZV^i*4294967296=ZV^(i+1)from rfl,Nat.mul_add,Nat.mul_add]at e1;omega
 ·refine Zp (t:=false) (by simp[hi]) ?_;apply YM;apply WC;left;refine⟨rfl,?_⟩;obtain rfl:i=n+1:=by omega
  obtain rfl:m=0:=by omega
  simp at own;rw[List.take_of_length_le (by omega),List.take_of_length_le (by omega)]at heq;have GX:dv ZV L=dv ZV xs+dv ZV ys:=by
   have h1:=Ve dx;have h2:=Ve dy;have h3:ZV^xs.length<=ZV^n:=Nat.pow_le_pow_right (by decide) (by omega);have h4:ZV^ys.length<=ZV^n:=Nat.pow_le_pow_right (by decide) (by omega);have h5:ZV^(n+1)=ZV^n*4294967296:=rfl;rcases Nat.lt_or_ge carry 1 with h0|h0
   ·obtain rfl:carry=0:=by omega
    rw[Nat.mul_zero]at heq;omega
   ·obtain rfl:carry=1:=by omega
    rw[Nat.mul_one]at heq;omega
  obtain⟨v5,H5,Lh,e5,o5,_⟩:=Xt own (by omega);subst e5;rw[XN two32 dL,GX]at o5;subst ZH;apply ZX;intro b4 YZ;simp[t6,Lh];subst YZ;apply Z8;simp;exact⟨kH,o5⟩
theorem Ol{H:AH}{v w:Value}{xs ys:List Nat}(hv:Sl H v xs)(hw:Sl H w ys)(dx:Y7 ZV xs)(dy:Y7 ZV ys)(lx:xs.length<=17592186000000)(hle:dv ZV ys<=dv ZV xs):CW Tryz.prog Yf 117 [v,w] H fun v' H'=>ZQ H H'/\Yl H.n H' v' (ds ZV (dv ZV xs-dv ZV ys)):=by
 refine YH 39 Tryz.func117 ?_;have l1:=hv.len ZD;obtain⟨n,hn⟩:=hid (xs.length);rw[<-hn]at l1;obtain⟨c0,H1,KM,k1,o1,n1⟩:=XO (H:=H) ZD (n:=n) (by omega);apply ZX;intro b1 ZH;simp;subst ZH;apply ZX;intro b1 ZH;simp[l1,KM];subst ZH;apply ZX;intro b1 ZH;simp;subst ZH;apply Zz;intro b1 ZH;apply ZX;intro b2 Yy;simp[l1];subst Yy;apply Z2;refine Y8 (fun m s'=>s'.k=39/\ZQ H s'.H/\ ∃(i LJ:Nat) (L:List Nat),m+i=n/\L.length=i/\LJ<=1/\Y7 ZV L/\dv ZV L+dv ZV (ys.take i)=dv ZV (xs.take i)+ZV^i*LJ/\Yl H.n s'.H c0 (L++List.replicate m 0)/\s'.tm.get 0=some v/\s'.tm.get 1=some w/\s'.tm.get 5=some c0/\s'.tm.get 6=some (.int .u64 (LJ:Int))/\s'.tm.get 13=some (.int .i64 (n:Int))/\s'.tm.get 14=some (.int .i64 (i:Int))) ?_ n _ ⟨rfl,k1,0,0,[],by omega,rfl,by omega,.nil _,by simp[dv],by simpa using o1,by simp,by simp,by simp,by simp,by simp,by simp⟩;rintro m ⟨k,tm,H2⟩ ⟨hk,kH,i,LJ,L,LB,hL,hb,dL,heq,own,t0,t1,t5,t6,t13,t14⟩ Q' WC;simp only at hk kH own t0 t1 t5 t6 t13 t14;subst hk;apply ZX;intro b3 YC;simp[t13,t14];subst YC;apply Zz;intro b3 YC;by_cases hi:i<n
 ·refine Zp (t:=true) (by simp[hi]) ?_;apply ZE;subst YC;obtain⟨m',rfl⟩: ∃m',m=m'+1:=⟨m-1,by omega⟩;have UU:i<xs.length:=by omega
  have sv:=hv.keep kH;have a1:=sv.adr ZD (k:= .i64) UU;have d1:=sv.top.load UU;have c2:=QZ (hw.keep kH).top i;have hx:nth xs i<4294967296:=Q4 dx (by decide) i;have hy:nth ys i<4294967296:=Q4 dy (by decide) i;have ex:=W2 ZV xs i;have ey:=W2 ZV ys i;rw[<-WZ UU]at d1;obtain⟨x,Pk⟩:=hid (nth xs i);obtain⟨y,Bz⟩:=hid (nth ys i);rw[<-Pk]at d1 hx ex;rw[<-Bz]at c2 hy ey;have m1:Zj .add .u64 (x:Int) 4294967296=some (.int .u64 ((x+4294967296:Nat):Int)):=Xm (y:=4294967296) (by show _<18446744073709551616;omega);have m2:Zj .sub .u64 ((x+4294967296:Nat):Int) (y:Int)=some (.int .u64 ((x+4294967296-y:Nat):Int)):=Ut (by show _<18446744073709551616;omega) (by omega);have m3:Zj .sub .u64 ((x+4294967296-y:Nat):Int) (LJ:Int)=some (.int .u64 ((x+4294967296-y-LJ:Nat):Int)):=Ut (by show _<18446744073709551616;omega) (by omega);obtain⟨z,hz⟩:=hid (x+4294967296-y-LJ);rw[<-hz]at m3;have BX:z<ZB:=by show z<18446744073709551616;omega
  have BZ:z/4294967296<=1:=by omega
  have m4:Zj .sub .u64 1 ((z/4294967296:Nat):Int)=some (.int .u64 ((1-z/4294967296:Nat):Int)):=Ut (x:=1) (by decide) BZ;obtain⟨H3,HN,Q8,Ak,EE⟩:=own.fill hL (z%4294967296);have a3:=own.sl.adr ZD (k:= .i64) (i:=i) (by simp;omega);apply Zz;intro b3 YC;apply Z2;apply ZX;intro b4 YZ;simp[t14];subst YZ;apply Zz;intro b4 YZ;apply JD (by kernel_rfl);simp[t0,t1,t6,a1,d1,c2,m1,m2,m3];subst YZ;apply ZX;intro b4 YZ;simp[t5,Om,a3,HN];subst YZ;apply Zr;simp[Og BX,m4];subst YC;apply Zr;simp[t14,Y4 (x:=i) (by omega)];apply WC;refine⟨m',by omega,rfl,EE H kH (Nat.le_refl _),i+1,1-z/4294967296,L++[z%4294967296],by omega,by simp[hL],by omega,dL.append (.cons (Nat.mod_lt _ (by decide)) (.nil _)),?_,Q8,by simp[t0],by simp[t1],by simp[t5],by simp,by simp[t13],by simp⟩;rw[YW,hL,ex,ey];simp only[dv,Nat.mul_zero,Nat.add_zero];have e0:z%4294967296+y+LJ=x+4294967296*(1-z/4294967296):=by omega
  have e1:ZV^i*(z%4294967296+y+LJ)=ZV^i*(x+4294967296*(1-z/4294967296)):=by rw[e0]
  rw[Nat.mul_add (ZV^i) x,<-Nat.mul_assoc,show ZV^i*4294967296=ZV^(i+1)from rfl,Nat.mul_add,Nat.mul_add]at e1;omega
 ·refine Zp (t:=false) (by simp[hi]) ?_;apply YM;apply WC;left;refine⟨rfl,?_⟩;obtain rfl:i=n:=by omega
  obtain rfl:m=0:=by omega
  simp at own;have AD:=Ve dx;rw[<-hn]at AD;rw[List.take_of_length_le (l:=xs) (by omega),PS (by decide) (Nat.lt_of_le_of_lt hle AD)]at heq;have GX:dv ZV L=dv ZV xs-dv ZV ys:=by
   have h1:=Ve dL;rw[hL]at h1;rcases Nat.lt_or_ge LJ 1 with h0|h0
   ·obtain rfl:LJ=0:=by omega
    rw[Nat.mul_zero]at heq;omega
   ·obtain rfl:LJ=1:=by omega
    rw[Nat.mul_one]at heq;omega
  obtain⟨v5,H5,Lh,e5,o5,_⟩:=Xt own (by omega);subst e5;rw[XN two32 dL,GX]at o5;subst ZH;apply ZX;intro b4 YZ;simp[t5,Lh];subst YZ;apply Z8;simp;exact⟨kH,o5⟩
theorem V8{va vb:Value}{xs ys:List Nat}{H:AH}(s1:Sl H va xs)(s2:Sl H vb ys)(dx:Y7 ZV xs)(dy:Y7 ZV ys)(tx:ZP xs=xs)(ty:ZP ys=ys)(lx:xs.length<=17592186044416)(ly:ys.length<=17592186044416):CW Tryz.prog Yf 62 [va,vb] H fun v H'=>H'=H/\v= .int .i64 (WB (dv ZV xs) (dv ZV ys)):=by
 refine YH 41 Tryz.func62 ?_;have l1:=s1.len ZD;have l2:=s2.len ZD;apply ZX;intro b1 ZH;simp;subst ZH;apply Zz;intro b1 ZH;apply ZX;intro b2 Yy;simp[l1,l2,Q0];subst Yy;by_cases hl:xs.length=ys.length
 ·refine Zp (t:=false) (by simp[hl]) ?_;apply ZE;subst ZH;apply Zz;intro b1 ZH;apply Zz;intro b2 Yy;have w1:Zj .sub .i64 (xs.length:Int) 1=some (.int .i64 ((xs.length:Int)-1)):=by show some (Value.int .i64 (IntKind.i64.wrap ((xs.length:Int)-1)))=_;congr 2;rw[IntKind.wrap_i64];omega
  apply Zr;simp[l1,w1];subst Yy;apply Z2;refine Y8 (fun n s=>s.k=41/\s.H=H/\s.tm.get 0=some va/\s.tm.get 1=some vb/\s.tm.get 5=some (.int .i64 ((n:Int)-1))/\n<=xs.length/\xs.drop n=ys.drop n) ?_ xs.length _ ⟨rfl,rfl,by simp,by simp,by simp,Nat.le_refl _,by rw[List.drop_length,hl,List.drop_length]⟩;rintro n ⟨k,tm,H'⟩ ⟨h2,h3,h4,h5,h6,h7,h8⟩ Q' WC;simp only at h2 h3 h4 h5 h6;subst h2;subst h3;have Ti:Zj .geq .i64 ((n:Int)-1) 0=some (.bool (decide (0<n))):=by show some (Value.bool (decide ((n:Int)-1≥0)))=_;congr 2;apply decide_eq_decide.mpr;omega
  apply Zz;intro b2 Yy;apply ZX;intro b3 YC;simp[h6,Ti];subst YC;by_cases hz:n=0
  ·subst hz;refine Zp (t:=false) (by simp) ?_;apply YM;apply WC;left;refine⟨rfl,?_⟩;subst ZH;apply ZX;intro b4 YZ;simp;subst YZ;apply Z8;have:xs=ys:=by simpa using h8
   simp[WB,this]
  ·have e:(n:Int)-1=((n-1:Nat):Int):=by omega
   refine Zp (t:=true) (by simp;omega) ?_;apply ZE;subst Yy;have i1:n-1<xs.length:=by omega
   have i2:n-1<ys.length:=by omega
   have a1:=s1.adr ZD (k:= .i64) i1;have a2:=s2.adr ZD (k:= .i64) i2;have d1:=s1.load i1;have d2:=s2.load i2;rw[e]at h6;have sx:xs=xs.take (n-1)++xs[n-1]::xs.drop n:=by have:=List.take_append_drop (n-1) xs;rw[List.drop_eq_getElem_cons i1,show n-1+1=n by omega]at this;exact this.symm
   have sy:ys=ys.take (n-1)++ys[n-1]::ys.drop n:=by have:=List.take_append_drop (n-1) ys;rw[List.drop_eq_getElem_cons i2,show n-1+1=n by omega]at this;exact this.symm
   have E0:(xs.take (n-1)).length=(ys.take (n-1)).length:=by simp[List.length_take,hl]
   apply Zz;intro b4 YZ;apply Z2;apply Zz;intro b5 Pg;apply Zz;intro b6 Rc;apply Ug (by kernel_rfl);simp[h4,h5,h6,a1,a2,d1,d2];subst Rc;by_cases Z0:xs[n-1]<ys[n-1]
   ·refine Zp (t:=true) (by simp;omega) ?_;apply ZX;intro b7 Gh;simp;subst Gh;apply Z8;have hd:dv ZV xs<dv ZV ys:=by rw[sx,sy,h8];exact QP (dx.take _) (dy.take _) E0 Z0 _
    apply WC;simp[WA,TM,Ro,WB,hd]
   ·refine Zp (t:=false) (by simp;omega) ?_;apply ZE;subst Pg;apply Zz;intro b6 Rc;apply Ug (by kernel_rfl);simp[h4,h5,h6,a1,a2,d1,d2,VW];subst Rc;by_cases CM:ys[n-1]<xs[n-1]
    ·refine Zp (t:=true) (by simp;omega) ?_;apply ZX;intro b7 Gh;simp;subst Gh;apply Z8;have hd:dv ZV ys<dv ZV xs:=by rw[sx,sy,h8];exact QP (dy.take _) (dx.take _) E0.symm CM _
     have Li: ¬dv ZV xs<dv ZV ys:=by omega
     apply WC;simp[WA,TM,Ro,WB,hd,Li]
    ·refine Zp (t:=false) (by simp;omega) ?_;apply ZE;subst YZ;have SZ:Zj .sub .i64 ((n-1:Nat):Int) 1=some (.int .i64 (((n-1:Nat):Int)-1)):=by show some (Value.int .i64 (IntKind.i64.wrap (((n-1:Nat):Int)-1)))=_;congr 2;rw[IntKind.wrap_i64];omega
     apply Zr;simp[h6,SZ];apply WC;refine⟨n-1,by omega,rfl,rfl,?_⟩;simp[h4,h5];refine⟨by omega,?_⟩;rw[List.drop_eq_getElem_cons i1,List.drop_eq_getElem_cons i2,show n-1+1=n by omega,h8];congr 1;omega
 ·refine Zp (t:=true) (by simp;omega) ?_;apply Zz;intro b2 Yy;apply ZX;intro b3 YC;simp[l1,l2];subst YC;by_cases Z0:xs.length<ys.length;·refine Zp (t:=true) (by simp;omega) ?_;apply ZX;intro b3 YC;simp;subst YC;apply Z8;have:=Tq two32 ty dx dy Z0;simp[WA,WB,this]
  ·refine Zp (t:=false) (by simp;omega) ?_;apply ZE;subst Yy;apply ZX;intro b2 Yy;simp;subst Yy;apply Z8;have:=Tq two32 tx dy dx (by omega);have h2: ¬dv ZV xs<dv ZV ys:=by omega
   simp[WA,WB,this,h2]
end
theorem IL{x y:Nat}(hx:x<9223372036854775808)(hy:0<y):Zj .quo .i64 (x:Int) (y:Int)=some (.int .i64 ((x/y:Nat):Int)):=by
 have hle:x/y<=x:=Nat.div_le_self x y;have h0: ¬ ((y:Int)=0):=by omega
 have e:IntKind.i64.wrap ((x:Int).tdiv (y:Int))=((x/y:Nat):Int):=by rw[IntKind.wrap_i64,Int.tdiv_eq_ediv_of_nonneg (by omega),<-Int.natCast_ediv];generalize x/y=q at*;omega
 show(if(y:Int)=0 then none else some (Value.int .i64 (IntKind.i64.wrap ((x:Int).tdiv (y:Int)))))=_;rw[if_neg h0,e]
theorem IJ{x y:Nat}(hy:0<y):Zj .rem .i64 (x:Int) (y:Int)=some (.int .i64 ((x%y:Nat):Int)):=by
 have h0: ¬ ((y:Int)=0):=by omega
 have e:(x:Int).tmod (y:Int)=((x%y:Nat):Int):=by rw[Int.tmod_eq_emod_of_nonneg (by omega),<-Int.natCast_emod]
 show(if(y:Int)=0 then none else some (Value.int .i64 ((x:Int).tmod (y:Int))))=_;rw[if_neg h0,e]
theorem GB{x:Nat}(hx:x<9223372036854775808):Zj .quo .i64 (x:Int) 32=some (.int .i64 ((x/32:Nat):Int)):=IL (y:=32) hx (by decide)
theorem GA{x:Nat} :Zj .rem .i64 (x:Int) 32=some (.int .i64 ((x%32:Nat):Int)):=IJ (y:=32) (by decide)
theorem F0{x c s:Nat}(hx:x<ZV)(hs:s<32)(hc:c<2^s):x*2^s%ZV+c<ZV/\x*2^s/ZV<2^s/\x*2^s=x*2^s%ZV+ZV*(x*2^s/ZV)/\x*2^s<ZB:=by
 have e:ZV=2^(32-s)*2^s:=by rw[<-Nat.pow_add,show 32-s+s=32 by omega]
 have hp:=Nat.two_pow_pos s;refine⟨?_,?_,(Nat.mod_add_div _ _).symm,?_⟩
 ·have e1:x*2^s%ZV=x%2^(32-s)*2^s:=by rw[e,Nat.mul_mod_mul_right]
  have h2:x%2^(32-s)<2^(32-s):=Nat.mod_lt _ (Nat.two_pow_pos _);rw[e1];have:(x%2^(32-s)+1)*2^s<=2^(32-s)*2^s:=Nat.mul_le_mul_right _ h2;rw[<-e,Nat.succ_mul]at this;omega
 ·rw[Nat.div_lt_iff_lt_mul (by decide),Nat.mul_comm];exact Nat.mul_lt_mul_of_pos_left hx hp
 ·have h1:2^s<=2^32:=Nat.pow_le_pow_right (by decide) (by omega);have h2:x*2^s<=4294967295*2^32:=Nat.mul_le_mul (by have:x<4294967296:=hx;omega) h1;show _<18446744073709551616;omega
section
attribute [-simp] Int.natCast_add Int.natCast_mul Int.natCast_ediv Int.natCast_emod Int.natCast_pow
attribute [local simp] strip Zt YR LR gW ZZ ZO Zk ZN Zv ZM Ze Zf Zb Zw ZT Zs Zx Zc ZS Za Yd ZC Zu plain Zq Tr.get_set ZA Zd Z5 Zl sameKind undef Zh Zy ZR ZU ZD Yq Zm parts Yv Xd DW ZL Zg LX Zo
theorem Sp{H:AH}{v:Value}{xs:List Nat}(hv:Sl H v xs)(dx:Y7 ZV xs)(lx:xs.length<=8000000000000){n:Nat}(hn:n<=8000000000000):CW Tryz.prog Yf 116 [v,.int .i64 (n:Int)] H fun v' H'=>ZQ H H'/\Yl H.n H' v' (ds ZV (dv ZV xs*2^n)):=by
 refine YH 55 Tryz.func116 ?_;have l1:=hv.len ZD;apply ZX;intro b1 ZH;simp;subst ZH;apply Zz;intro b1 ZH;apply ZX;intro b2 Yy;simp[l1,QO];subst Yy;by_cases h0:xs.length=0;·obtain rfl:xs=[]:=List.length_eq_zero_iff.mp h0;refine Zp (t:=true) (by simp) ?_;apply ZX;intro b2 Yy;simp;subst Yy;apply Z8;simp[WA,dv,Y1];exact⟨.refl H,.nil⟩
 ·refine Zp (t:=false) (by simp;intro h;exact h0 (by rw[h];rfl)) ?_;apply ZE;subst ZH;obtain⟨w,hw⟩:=hid (n/32);obtain⟨s,hs⟩:=hid (n%32);have Bm:s<32:=by omega
  have hnw:n=32*w+s:=by omega
  have q1:Zj .quo .i64 (n:Int) 32=some (.int .i64 (w:Int)):=by rw[hw];exact GB (by omega)
  have q2:Zj .rem .i64 (n:Int) 32=some (.int .i64 (s:Int)):=by rw[hs];exact GA
  have q3:Zj .add .i64 (xs.length:Int) (w:Int)=some (.int .i64 ((xs.length+w:Nat):Int)):=Vu (by omega);obtain⟨c0,H1,KM,k1,o1,n1⟩:=XO (H:=H) ZD (n:=xs.length+w+1) (by omega);apply ZX;intro b1 ZH;simp[l1,q1,q3,Y4 (x:=xs.length+w) (by omega),KM];subst ZH;apply ZX;intro b1 ZH;simp[q2];subst ZH;apply Zz;intro b1 ZH;apply ZX;intro b2 Yy;simp[l1];subst Yy;apply Z2;refine Y8 (fun m s'=>s'.k=55/\ZQ H s'.H/\ ∃(i c:Nat) (L:List Nat),m+i=xs.length/\L.length=i/\c<2^s/\Y7 ZV L/\dv ZV L+ZV^i*c=dv ZV (xs.take i)*2^s/\Yl H.n s'.H c0 ((List.replicate w 0++L)++c::List.replicate m 0)/\s'.tm.get 1=some (.int .i64 (n:Int))/\s'.tm.get 5=some c0/\s'.tm.get 6=some (.int .i64 (s:Int))/\s'.tm.get 21=some v/\s'.tm.get 22=some (.int .i64 (xs.length:Int))/\s'.tm.get 23=some (.int .i64 (i:Int))) ?_ xs.length _ ⟨rfl,k1,0,0,[],by omega,rfl,Nat.two_pow_pos s,.nil _,by simp[dv],by
   have e:List.replicate (xs.length+w+1) 0=(List.replicate w 0++[])++0::List.replicate xs.length 0:=by rw[List.append_nil,<-List.replicate_succ,List.replicate_append_replicate];congr 1;omega
   rw[<-e];exact o1,by simp,by simp,by simp,by simp,by simp,by simp⟩;rintro m ⟨k,tm,H2⟩ ⟨hk,kH,i,c,L,LB,hL,hc,dL,heq,own,t1,t5,t6,t21,t22,t23⟩ Q' WC;simp only at hk kH own t1 t5 t6 t21 t22 t23;subst hk;apply ZX;intro b3 YC;simp[t22,t23];subst YC;apply Zz;intro b3 YC;by_cases hi:i<xs.length
  ·refine Zp (t:=true) (by simp[hi]) ?_;apply ZE;subst YC;obtain⟨m',rfl⟩: ∃m',m=m'+1:=⟨m-1,by omega⟩;have sv:=hv.keep kH;have a1:=sv.adr ZD (k:= .i64) hi;have d1:=sv.load hi;have hx:xs[i]<ZV:=dx.get (List.getElem?_eq_getElem hi);obtain⟨x,Pk⟩:=hid (xs[i]);rw[<-Pk]at d1 hx;obtain⟨f1,f2,f3,f4⟩:=F0 hx Bm hc;obtain⟨p,hp⟩:=hid (x*2^s);rw[<-hp]at f1 f2 f3 f4;have m1:Yr .shl .u64 (x:Int) (s:Int)=some (.int .u64 (p:Int)):=by rw[TY (by omega),<-hp,Nat.mod_eq_of_lt f4]
   have m2:Zj .add .i64 (i:Int) (w:Int)=some (.int .i64 ((i+w:Nat):Int)):=Vu (by omega);have lp:(List.replicate w 0++L).length=i+w:=by simp[hL];omega
   have m3:Zj .add .u64 (c:Int) ((p%4294967296:Nat):Int)=some (.int .u64 ((p%4294967296+c:Nat):Int)):=by rw[Xm (by rw[Nat.add_comm];exact HE f1),Nat.add_comm]
   have a2:=own.sl.adr ZD (k:= .i64) (i:=i+w) (by simp[hL];omega);have d2:=own.sl.load (i:=i+w) (by simp[hL];omega);rw[Ic _ _ _ lp]at d2;obtain⟨H3,HN,Q8,n3,Ak,EE⟩:=own.put (i:=i+w) (by simp[hL];omega) (p%4294967296+c);rw[SM _ _ _ _ lp]at Q8;have a3:=Q8.sl.adr ZD (k:= .i64) (i:=i+w+1) (by simp[hL];omega);obtain⟨H4,IB,Tv,n4,Al,Iu⟩:=Q8.put (i:=i+w+1) (by simp[hL];omega) (p/4294967296);have WJ:(List.replicate w 0++L++(p%4294967296+c)::List.replicate (m'+1) 0).set (i+w+1) (p/4294967296)=(List.replicate w 0++(L++[p%4294967296+c]))++(p/4294967296)::List.replicate m' 0:=by rw[show List.replicate w 0++L++(p%4294967296+c)::List.replicate (m'+1) 0=(List.replicate w 0++(L++[p%4294967296+c]))++0::List.replicate m' 0 by simp[List.replicate_succ]];exact SM _ _ _ _ (by simp[hL];omega)
   rw[WJ]at Tv;apply Zz;intro b3 YC;apply Z2;apply ZX;intro b4 YZ;simp[t21,t23,a1,d1];subst YZ;apply Zz;intro b4 YZ;apply FV (by kernel_rfl);simp[t1,t5,t6,q1,m1,m2,m3,a2,d2,Om,HN];subst YZ;apply Zr;simp[t1,t5,t6,q1,m1,m2,Y4 (x:=i+w) (by omega),a3,Og f4,IB];subst YC;apply Zr;simp[t23,Y4 (x:=i) (by omega)];apply WC;refine⟨m',by omega,rfl,Iu H (EE H kH (Nat.le_refl _)) (Nat.le_refl _),i+1,p/4294967296,L++[p%4294967296+c],by omega,by simp[hL],f2,dL.append (.cons f1 (.nil _)),?_,Tv,by simp[t1],by simp[t5],by simp[t6],by simp[t21],by simp[t22],by simp⟩;rw[YW,hL,XA hi,YW,List.length_take,Nat.min_eq_left (by omega),<-Pk];simp only[dv,Nat.mul_zero,Nat.add_zero];rw[Nat.add_mul,<-heq,Nat.mul_assoc (ZV^i) x,<-hp];have e1:ZV^i*p=ZV^i*(p%ZV+ZV*(p/ZV)):=by rw[<-f3]
   rw[Nat.mul_add,<-Nat.mul_assoc,show ZV^i*ZV=ZV^(i+1)from rfl]at e1;have e2:ZV^i*(p%4294967296+c)=ZV^i*(p%ZV)+ZV^i*c:=Nat.mul_add _ _ _;have e3:ZV^(i+1)*(p/4294967296)=ZV^(i+1)*(p/ZV):=rfl;omega
  ·refine Zp (t:=false) (by simp[hi]) ?_;apply YM;apply WC;left;refine⟨rfl,?_⟩;obtain rfl:i=xs.length:=by omega
   obtain rfl:m=0:=by omega
   rw[List.take_length]at heq;obtain⟨v5,H5,Lh,e5,o5,_⟩:=Xt own (by simp[hL];omega);subst e5;have D9:Y7 ZV ((List.replicate w 0++L)++[c]):=by
    refine Y7.append (Y7.append ?_ dL) (.cons ?_ (.nil _));·intro x hx;rw[List.eq_of_mem_replicate hx];decide
    ·exact Nat.lt_of_lt_of_le hc (by show 2^s<=2^32;exact Nat.pow_le_pow_right (by decide) (by omega))
   have Bt:dv ZV ((List.replicate w 0++L)++[c])=dv ZV xs*2^n:=by rw[List.append_assoc,YW,YW,SB,List.length_replicate,hL];simp only[dv,Nat.mul_zero,Nat.add_zero];rw[heq,Nat.zero_add,hnw,Nat.pow_add,Nat.pow_mul];show ZV^w*(dv ZV xs*2^s)=dv ZV xs*(ZV^w*2^s);rw[Nat.mul_left_comm]
   simp only[List.replicate_zero]at o5;rw[XN two32 D9,Bt]at o5;subst ZH;apply ZX;intro b4 YZ;simp[t5,Lh];subst YZ;apply Z8;simp;exact⟨kH,o5⟩
end
theorem R6{H:AH}{bits:Nat}{ms:List (Nat×Nat×Nat)}{sz:Nat}{cs:List Value} :TS none (H.new sz cs) (grown H ((Pe H bits ms).new sz cs)):=by
 refine⟨rfl,fun j hj _=>?_⟩;have Ik:j<H.n+1:=hj;rw[AH.blk_new];have e:(grown H ((Pe H bits ms).new sz cs)).blk j=if H.n<=j then((Pe H bits ms).new sz cs).blk j else H.blk j:=by
  unfold grown;show(match(TP H.t ((Pe H bits ms).new sz cs) H.n (H.n+1-H.n)).get j with|some b=>b|none=>VA.dead)=_;rw[UB];by_cases c:H.n<=j;·rw[if_pos (by omega),if_pos c]
  ·rw[if_neg (by omega),if_neg c];rfl
 rw[e];by_cases c:j=H.n;·rw[if_pos (by omega),if_pos c,AH.blk_new,if_pos (show j=(Pe H bits ms).n from c)]
 ·rw[if_neg (by omega),if_neg c]
theorem Ra{H:AH}{bits:Nat}{ms:List (Nat×Nat×Nat)}{sz:Nat}{cs:List Value} :ZQ H (grown H ((Pe H bits ms).new sz cs)):=by refine⟨Nat.le_succ _,Nat.min_le_left _ _,fun j hj=>?_⟩;have:=(R6 (H:=H) (bits:=bits) (ms:=ms) (sz:=sz) (cs:=cs)).blk j (show j<H.n+1 by omega) (fun e=>by cases e);rw[this,AH.blk_new,if_neg (by omega)]
theorem MN{X:Xs}{P:Program}{C:Cfg}{ops:Array Oper}{k i:Nat}{q:Bool}{ms:List (Nat×Nat×Nat)}{tm:Tr Value}{H:AH}{K:Tr Value->AH->Prop}{o:Oper}{r:List Oper}(x:Nat)(hg:gW tm (ZL ops o)=some true)(hh:Zg o.op=true)(hq:q=false)(he: ∀Hv:AH,ZZ P C (ZG P C) tm Hv o.op=some (.slice (some ⟨Hv.n,0,none⟩) 1 1,Hv.new 1 [XP x]))(h: ∀G2:AH,Yl H.n G2 (.slice (some ⟨H.n,0,none⟩) 1 1) [x]->ZQ H G2->G2.n=H.n+1->match o.dst with|none=>DW X P C ops k (i+1) q ((i,H.n,H.n+1)::ms) r tm G2 K|some d=>d<k/\DW X P C ops k (i+1) q ((i,H.n,H.n+1)::ms) r (tm.set d (.slice (some ⟨H.n,0,none⟩) 1 1)) G2 K)(hf:X.fv i=none:=by first|rfl|kernel_rfl):DG X P C ops k i q ms (o::r) tm H K:=by
 refine X2 (v:= .slice (some ⟨H.n,0,none⟩) 1 1) (H2:=(Pe H ((before ops).getD i 0) ms).new 1 [XP x]) hg hh hq (he _) (Nat.le_succ _) (Nat.le_refl _) ?_ hf;have CY:Nat.blt H.n ((Pe H ((before ops).getD i 0) ms).new 1 [XP x]).n=true:=by rw[Nat.blt_eq];exact Nat.lt_succ_self _
 rw[CY];exact h _ ((Yl.new H [x]).same R6) Ra rfl
theorem GP{i a b:Nat}{ms:List (Nat×Nat×Nat)}(h:cond (Nat.blt a b) [(i,a,b)] []=ms): ∀x∈ms,x.1=i/\a<=x.2.1:=by intro x hx;rw[<-h]at hx;cases Cz:Nat.blt a b with|true=>rw[Cz,cond_true]at hx;simp at hx;subst hx;exact⟨rfl,Nat.le_refl _⟩|false=>rw[Cz,cond_false]at hx;cases hx
theorem O8{B R q r k:Nat}(e:R=B*q+r)(hr:r<B*2^(k+1))(hq:q+2^(k+1)<=4294967296):(B*2^k<=r->R=B*(q+2^k)+(r-B*2^k)/\r-B*2^k<B*2^k/\q+2^k+2^k<=4294967296)/\(r<B*2^k->q+2^k<=4294967296):=by
 have e2:2^(k+1)=2^k+2^k:=by rw[Nat.pow_succ];omega
 rw[e2]at hq;rw[e2,Nat.mul_add]at hr;have hp:=Nat.two_pow_pos k;refine⟨fun h=>⟨?_,by omega,by omega⟩,fun h=>by omega⟩;rw[e,Nat.mul_add];omega
theorem TW{m:Nat}(h:m<9223372036854775807):Zj .sub .i64 (m:Int) 1=some (.int .i64 ((m:Int)-1)):=by show some (Value.int .i64 (IntKind.i64.wrap ((m:Int)-1)))=_;congr 2;rw[IntKind.wrap_i64];omega
theorem PJ{m:Nat} :Zj .geq .i64 ((m:Int)-1) 0=some (.bool (decide (0<m))):=by show some (Value.bool (decide ((m:Int)-1≥0)))=_;congr 2;apply decide_eq_decide.mpr;omega
theorem Mo{a b:Nat} :Zj .geq .i64 (WB a b) 0=some (.bool (decide (b<=a))):=by
 show some (Value.bool (decide (WB a b≥0)))=_;congr 2;apply decide_eq_decide.mpr;unfold WB;split;·omega
 ·split<;>omega
section
attribute [-simp] Int.natCast_add Int.natCast_mul Int.natCast_ediv Int.natCast_emod Int.natCast_pow
attribute [local simp] strip Zt YR LR gW ZZ ZO Zk ZN Zv ZM Ze Zf Zb Zw ZT Zs Zx Zc ZS Za Yd ZC Zu plain Zq Tr.get_set ZA Zd Z5 Zl sameKind undef Zh Zy ZR ZU ZD Yq Zm parts Yv Xd DW ZL Zg LX Zo
theorem Oi{H:AH}{va vb:Value}{xs ys:List Nat}(ha:Sl H va xs)(hb:Sl H vb ys)(dx:Y7 ZV xs)(dy:Y7 ZV ys)(ty:ZP ys=ys)(lx:xs.length<=4000000000000)(ly:ys.length<=4000000000000)(hy:0<dv ZV ys):CW Tryz.prog Yf 93 [va,vb] H fun v' H'=>ZQ H H'/\ ∃q r,v'= .tuple #[q,r]/\Yl H.n H' q (ds ZV (dv ZV xs/dv ZV ys))/\Yl H.n H' r (ds ZV (dv ZV xs%dv ZV ys)):=by
 refine YH 60 Tryz.func93 ?_;have l1:=ha.len ZD;obtain⟨n,hn⟩:=hid (xs.length);rw[<-hn]at l1;obtain⟨B,hB⟩:=hid (dv ZV ys);rw[<-hB]at hy;have Ie:B<ZV^ys.length:=by have h1:=Ve dy;rwa[<-hB]at h1
 obtain⟨c0,H1,KM,k1,o1,n1⟩:=XO (H:=H) ZD (n:=n) (by omega);apply ZX;intro b1 ZH;simp;subst ZH;apply ZX;intro b1 ZH;simp;subst ZH;apply ZX;intro b1 ZH;simp[l1,KM];subst ZH;apply Zz;intro b1 ZH;apply ZX;intro b2 Yy;simp[l1,TW (m:=n) (by omega)];subst Yy;apply Z2;refine Y8 (fun m s'=>s'.k=60/\ZQ H s'.H/\m<=n/\ ∃(L:List Nat) (R:Nat) (rv:Value),L.length+m=n/\Y7 ZV L/\R<B/\dv ZV (xs.drop m)=B*dv ZV L+R/\Yl H.n s'.H c0 (List.replicate m 0++L)/\H1.n<=s'.H.n/\Yl H1.n s'.H rv (ds ZV R)/\s'.tm.get 0=some va/\s'.tm.get 1=some vb/\s'.tm.get 6=some rv/\s'.tm.get 7=some c0/\s'.tm.get 8=some (.int .i64 ((m:Int)-1))) ?_ n _ ⟨rfl,k1,Nat.le_refl _,[],0,.slice none 0 0,by simp,.nil _,hy,by simp[hn,dv],by simpa using o1,Nat.le_refl _,by rw[Y1];exact .nil,by simp,by simp,by simp,by simp,by simp⟩;rintro m ⟨k,tm,H2⟩ ⟨hk,kH,hm,L,R,rv,hL,dL,hR,heq,own,CC,ro,t0,t1,t6,t7,t8⟩ Q' WC;simp only at hk kH own CC ro t0 t1 t6 t7 t8;subst hk;apply Zz;intro b3 YC;apply ZX;intro b4 YZ;simp[t8,PJ];subst YZ;by_cases Fk:m=0
 ·subst Fk;refine Zp (t:=false) (by simp) ?_;apply YM;apply WC;left;refine⟨rfl,?_⟩;simp at own heq;have hdiv:dv ZV xs/B=dv ZV L:=by rw[heq,Nat.mul_add_div hy,Nat.div_eq_of_lt hR,Nat.add_zero]
  have Gs:dv ZV xs%B=R:=by rw[heq,Nat.mul_add_mod,Nat.mod_eq_of_lt hR]
  obtain⟨v5,H5,Lh,e5,o5,_⟩:=Xt own (by omega);subst e5;rw[XN two32 dL]at o5;subst ZH;apply ZX;intro b4 YZ;simp[t6,t7,Lh];subst YZ;apply Z8;simp;rw[<-hB,hdiv,Gs];exact⟨kH,v5,rv,⟨rfl,rfl⟩,o5,ro.mono k1.n (.refl _)⟩
 ·refine Zp (t:=true) (by simp;omega) ?_;apply ZE;subst YC;obtain⟨i,rfl⟩: ∃i,m=i+1:=⟨m-1,by omega⟩;have em:((i+1:Nat):Int)-1=(i:Int):=by omega
  rw[em]at t8;have hi:i<xs.length:=by omega
  have hx:xs[i]<ZV:=dx.get (List.getElem?_eq_getElem hi);have Hq:xs.drop i=xs[i]::xs.drop (i+1):=List.drop_eq_getElem_cons hi;have lR:(ds ZV R).length<=ys.length:=YJ two32 (Nat.lt_trans hR Ie);obtain⟨v1,H3,OT,k3,o3⟩:=Sp (H:=H2.top) ro.sl.top (Xo two32 R) (by omega) (n:=32) (by decide);have CX:ZG Tryz.prog Yf 116 [rv,.int .i64 32] H2.top=some (v1,H3):=OT;rw[X4 two32]at o3;obtain⟨G1,JN⟩:=hid (grown H2 H3);have JI:ZQ H2 G1:=by rw[JN];exact Xb (.refl H2) k3
  have DJ:Yl H2.n G1 v1 (ds ZV (R*2^32)):=by rw[JN];exact o3.same (Vj k3)
  have h3n:H2.n<=H3.n:=k3.n;have nG1:G1.n=H3.n:=by rw[JN];rfl
  obtain⟨x,Pk⟩:=hid (xs[i]);rw[<-Pk]at hx Hq;have a1:YS Tryz.prog 48 va (.int .i64 (i:Int))=some (adr va i):=ha.adr ZD hi;apply Zz;intro b3 YC;apply Z2;apply Zz;intro b4 YZ;apply SJ (by kernel_rfl);simp[t6];refine X2 (v:=v1) (H2:=H3) rfl rfl rfl (by rw[YD rfl];simp[t6,CX]) h3n (Wi k3) ?_;rw[<-JN];generalize hms:cond (Nat.blt H2.n H3.n) _ _=ms;have Gt:=GP hms;simp[t0,t8,a1];have Rg:=fun bits=>(ha.keep (kH.trans (Uc (bits:=bits) JI fun x hx=>(Gt x hx).2))).load hi;rw[<-Pk]at Rg;refine YG (v:= .int .u64 (x:Int)) rfl rfl rfl (by simp[Rg]) ?_;simp;refine MN x rfl rfl rfl (fun Hv=>by simp[UP _ ZD]) ?_;intro G2 oG2 HV nG2;obtain⟨v7,H7,CV,e7,o7,_⟩:=Xt oG2.top (by simp);subst e7;have BD:Yl H2.n G2 v1 (ds ZV (R*2^32)):=DJ.m HV;have h1x:Y7 ZV [x]:= .cons hx (.nil _);have Ct:R*2^32<ZV^(ys.length+1):=by have:R*2^32<ZV^ys.length*2^32:=Nat.mul_lt_mul_of_pos_right (Nat.lt_trans hR Ie) (by decide);rw[show ZV^(ys.length+1)=ZV^ys.length*ZV from rfl,show ZV=2^32 by decide];exact this
  obtain⟨v8,H8,hc8,k8,o8⟩:=Oh (H:=G2.top) BD.sl.top o7.sl (Xo two32 _) (Vq h1x) (Nat.le_trans (YJ two32 (k:=ys.length+1) Ct) (by omega)) (by have:=WV [x];simp at this;omega);rw[X4 two32,Vf,show dv ZV [x]=x by simp[dv]]at o8;obtain⟨G3,F7⟩:=hid (grown G2 H8);have DN:ZQ G2 G3:=by rw[F7];exact Xb (.refl G2) k8
  obtain⟨R1,Au⟩:=hid (R*2^32+x);rw[<-Au]at o8;have o8':Yl G2.n G3 v8 (ds ZV R1):=by rw[F7];exact o8.same (Vj k8)
  have h8n:G2.n<=H8.n:=k8.n;simp;refine YG (v:=v7) rfl rfl rfl ?_ ?_
  ·rw[YD (VU fun x hx=>?_)];·simp[CV]
   ·rcases List.mem_cons.mp hx with e|e;·rw[e];kernel_rfl
    ·rw[(Gt x e).1];kernel_rfl
  simp;refine X2 (v:=v8) (H2:=H8) rfl rfl rfl ?_ h8n (Wi k8) ?_
  ·rw[YD (VU fun x hx=>?_)];·simp[hc8]
   ·rcases List.mem_cons.mp hx with e|e;·rw[e];kernel_rfl
    ·rw[(Gt x e).1];kernel_rfl
  rw[<-F7];simp;subst YZ;have JH:ZQ H G3:=((kH.trans JI).trans HV).trans DN;have Q8:=own.mono (Nat.le_refl _) ((JI.trans HV).trans DN);have DI:Yl H1.n G3 v8 (ds ZV R1):=o8'.mono (by have:=JI.n;have:=HV.n;omega) (.refl G3);have FX:R1<B*2^32:=by have h1:(R+1)*2^32<=B*2^32:=Nat.mul_le_mul_right _ hR;have h2:x<2^32:=hx;rw[Nat.succ_mul]at h1;omega
  apply ZX;intro b4 YZ;simp;subst YZ;refine SW (fun s'=>s'.k=60/\ZQ G3 s'.H/\ ∃(q r:Nat) (Jx:Value),q<4294967296/\R1=B*q+r/\r<B/\Yl H1.n s'.H Jx (ds ZV r)/\s'.tm.get 0=some va/\s'.tm.get 1=some vb/\s'.tm.get 6=some Jx/\s'.tm.get 7=some c0/\s'.tm.get 8=some (.int .i64 (i:Int))/\s'.tm.get 9=some (.int .u64 (q:Int))) ?_ ?_
  ·intro Ae O6;have Av:=hb.keep JH;have hB1:(ds ZV R1).length<=ys.length+1:=YJ two32 (by have h2:B*2^32<ZV^ys.length*2^32:=Nat.mul_lt_mul_of_pos_right Ie (by decide);rw[show ZV^(ys.length+1)=ZV^ys.length*ZV from rfl,show ZV=2^32 by decide];rw[show ZV=2^32 by decide]at h2;exact Nat.lt_trans FX h2);obtain⟨v9,H9,Ay,e9,e9'⟩:=V8 DI.sl Av (Xo two32 R1) dy (Uh two32 R1) ty (by omega) (by omega);subst e9;subst e9';rw[X4 two32,<-hB]at Ay;apply ZX;intro b4 YZ;simp[t1,Ay,Mo];subst YZ;by_cases Ti:B<=R1
   ·refine Zp (t:=true) (by simp[Ti]) ?_;apply ZX;intro b4 YZ;simp;subst YZ;apply Z2;refine Y8 (fun kk s'=>s'.k=60/\ZQ H9 s'.H/\kk<=32/\ ∃(q r:Nat) (Jx:Value),q+2^kk<=4294967296/\R1=B*q+r/\r<B*2^kk/\Yl H1.n s'.H Jx (ds ZV r)/\s'.tm.get 0=some va/\s'.tm.get 1=some vb/\s'.tm.get 6=some Jx/\s'.tm.get 7=some c0/\s'.tm.get 8=some (.int .i64 (i:Int))/\s'.tm.get 9=some (.int .u64 (q:Int))/\s'.tm.get 10=some (.int .i64 ((kk:Int)-1))) ?_ 32 _ ⟨rfl,.refl _,Nat.le_refl _,0,R1,v8,by decide,by simp,FX,DI,by simp[t0],by simp[t1],by simp,by simp[t7],by simp[t8],by simp,by simp⟩;clear t0 t1 t6 t7 t8;rintro kk ⟨k,tm,H4⟩ ⟨hk,k4,hkk,q,r,Jx,hq,Fm,hr,GJ,t0,t1,t6,t7,t8,t9,t10⟩ Q5 Ff;simp only at hk k4 GJ t0 t1 t6 t7 t8 t9 t10;subst hk;apply Zz;intro b5 Pg;apply ZX;intro b6 Rc;simp[t10,PJ];subst Rc;by_cases JL:kk=0;·subst JL;refine Zp (t:=false) (by simp) ?_;apply YM;apply Ff;left;exact⟨rfl,O6 _ ⟨rfl,k4,q,r,Jx,by omega,Fm,by simpa using hr,GJ,by simp[t0],by simp[t1],by simp[t6],by simp[t7],by simp[t8],by simp[t9]⟩⟩
    ·refine Zp (t:=true) (by simp;omega) ?_;apply ZE;subst Pg;obtain⟨s,rfl⟩: ∃s,kk=s+1:=⟨kk-1,by omega⟩;have es:((s+1:Nat):Int)-1=(s:Int):=by omega
     rw[es]at t10;obtain⟨B0,Di⟩:=O8 Fm hr hq;have Cw:=Av.keep k4;obtain⟨v5,H5,Lh,k5,o5⟩:=Sp (H:=H4) Cw dy (by omega) (n:=s) (by omega);rw[<-hB]at o5;have BC:=GJ.m k5;have rlt:r<=R1:=by rw[Fm];omega
     have lr:(ds ZV r).length<=ys.length+1:=by have h1:=Mg two32 R1;have h2:ZV^(ds ZV R1).length<=ZV^(ys.length+1):=Nat.pow_le_pow_right (by decide) hB1;exact YJ two32 (by omega)
     have lbs:(ds ZV (B*2^s)).length<=ys.length+1:=YJ two32 (by have h1:B*2^s<=B*2^32:=Nat.mul_le_mul_left _ (Nat.pow_le_pow_right (by decide) (by omega));have h2:B*2^32<ZV^ys.length*2^32:=Nat.mul_lt_mul_of_pos_right Ie (by decide);rw[show ZV^(ys.length+1)=ZV^ys.length*ZV from rfl,show ZV=2^32 by decide];rw[show ZV=2^32 by decide]at h2;exact Nat.lt_of_le_of_lt h1 h2);obtain⟨v6,H6,Ax,e6,e6'⟩:=V8 BC.sl o5.sl (Xo two32 r) (Xo two32 _) (Uh two32 r) (Uh two32 _) (by omega) (by omega);subst e6;subst e6';rw[X4 two32,X4 two32]at Ax;apply Zz;intro b5 Pg;apply Z2;apply ZX;intro b6 Rc;simp[t1,t10,Lh];subst Rc;apply ZX;intro b6 Rc;simp[t6,Ax,Mo];subst Rc;by_cases hs:B*2^s<=r
     ·obtain⟨g1,g2,g3⟩:=B0 hs;obtain⟨v7,H7,CV,k7,o7⟩:=Ol BC.sl o5.sl (Xo two32 r) (Xo two32 _) (by omega) (by rw[X4 two32,X4 two32];exact hs);rw[X4 two32,X4 two32]at o7;have sp:=Nat.two_pow_pos s;have m1:Yr .shl .u64 1 (s:Int)=some (.int .u64 ((2^s:Nat):Int)):=by have:=TY (x:=1) (s:=s) (by omega);rw[Nat.one_mul,Nat.mod_eq_of_lt (by show _<18446744073709551616;omega)]at this;exact this
      have m2:Zj .add .u64 (q:Int) ((2^s:Nat):Int)=some (.int .u64 ((q+2^s:Nat):Int)):=Xm (by show _<18446744073709551616;omega);refine Zp (t:=true) (by simp[hs]) ?_;apply ZX;intro b6 Rc;simp[t6,CV];subst Rc;apply Zr;simp[t9,t10,m1,m2];subst Pg;apply Zr;simp[t10,TW (m:=s) (by omega)];apply Ff;exact⟨s,Nat.lt_succ_self s,rfl,(k4.trans k5).trans k7,by show s<=32;omega,q+2^s,r-B*2^s,v7,g3,g1,g2,o7.mono (by have:=JI.n;have:=HV.n;have:=DN.n;have:=k4.n;have:=k5.n;omega) (.refl _),by simp[t0],by simp[t1],by simp,by simp[t7],by simp[t8],by simp,by simp⟩
     ·refine Zp (t:=false) (by simp[hs]) ?_;apply ZE;subst Pg;apply Zr;simp[t10,TW (m:=s) (by omega)];apply Ff;exact⟨s,Nat.lt_succ_self s,rfl,k4.trans k5,by show s<=32;omega,q,r,Jx,Di (by omega),Fm,by omega,BC,by simp[t0],by simp[t1],by simp[t6],by simp[t7],by simp[t8],by simp[t9],by simp⟩
   ·refine Zp (t:=false) (by simp[Ti]) ?_;apply ZE;apply O6;exact⟨rfl,.refl _,0,R1,v8,by decide,by simp,by omega,DI,by simp[t0],by simp[t1],by simp,by simp[t7],by simp[t8],by simp⟩
  clear t0 t1 t6 t7 t8;rintro⟨k,tm,H4⟩ ⟨hk,k4,q,r,Jx,hq,Fm,hr,GJ,t0,t1,t6,t7,t8,t9⟩;simp only at hk k4 GJ t0 t1 t6 t7 t8 t9;subst hk;have Tv:=Q8.m k4;have Bk:List.replicate (i+1) 0++L=List.replicate i 0++0::L:=by rw[List.replicate_succ'];simp
  rw[Bk]at Tv;have a3:=Tv.sl.adr ZD (k:= .i64) (i:=i) (by simp);obtain⟨H5,B1,Db,n5,b5,BP⟩:=Tv.put (i:=i) (by simp) q;rw[SM _ _ _ _ (by simp)]at Db;have bt5:TS (XV c0) H4 H5:=⟨n5,fun j _ hj=>b5 j hj⟩;have ap:L5 c0 Jx:=MK o1 GJ (Nat.le_refl _);apply Zr;simp[t7,t8,t9,a3,B1];subst YC;apply Zr;simp[t8,TW (m:=i) (by omega)];apply WC;refine⟨i,Nat.lt_succ_self i,rfl,BP H (JH.trans k4) (Nat.le_refl _),by show i<=n;omega,q::L,r,Jx,by simp;omega,.cons hq dL,hr,?_,Db,by rw[n5];have:=JI.n;have:=HV.n;have:=DN.n;have:=k4.n;omega,GJ.but bt5 ap,by simp[t0],by simp[t1],by simp[t6],by simp[t7],by simp⟩;rw[Hq];simp only[dv];rw[heq,Nat.mul_add ZV,Nat.mul_add B,Nat.mul_left_comm B ZV];rw[Fm]at Au;have e1:R*2^32=ZV*R:=by rw[Nat.mul_comm]
  omega
end
theorem DB:XT Tryz.prog 27=some false:=by kernel_rfl
structure Fy (n0 : Nat) (H : AH) (b : Nat) (vs : List Value) (f : Nat -> List Nat) : Prop where
  lo : n0 <= b
  hi : b < H.n
  blk : H.blk b = .rw 1 vs
  own : ∀ (i : Nat) (v : Value), vs[i]? = some v -> Yl n0 H v (f i)
  ap : ∀ (i j : Nat) (v w : Value), i ≠ j -> vs[i]? = some v -> vs[j]? = some w -> L5 v w
  out : ∀ (i : Nat) (v : Value), vs[i]? = some v -> XV v ≠ some b
theorem Yl.isSlice{n0:Nat}{H:AH}{v:Value}{xs:List Nat}(h:Yl n0 H v xs):v.cells=#[v]/\one v=true:=by cases h<;>exact⟨rfl,rfl⟩
section
variable {n0 : Nat} {H : AH} {b : Nat} {vs : List Value} {f : Nat -> List Nat}
theorem Fy.load(g:Fy n0 H b vs f){i:Nat}(hi:i<vs.length):Yk Tryz.prog H 27 (.pointer (some ⟨b,i,none⟩))=some vs[i]:=by unfold Yk;simp only[DB];unfold AH.cells;rw[g.blk];exact List.getElem?_eq_getElem hi
theorem Fy.step(g:Fy n0 H b vs f){H':AH}{i:Nat}(hi:i<vs.length){ys:List Nat}(bt:TS (XV vs[i]) H H')(o:Yl n0 H' vs[i] ys):Fy n0 H' b vs (fun j=>if j=i then ys else f j):=by
 have gi:vs[i]?=some vs[i]:=List.getElem?_eq_getElem hi;refine⟨g.lo,by rw[bt.n];exact g.hi,by rw[bt.blk b g.hi (g.out i _ gi)];exact g.blk,fun j v hj=>?_,g.ap,g.out⟩;by_cases e:j=i;·subst e;rw[if_pos rfl];obtain rfl:=Option.some.inj (gi.symm.trans hj);exact o
 ·rw[if_neg e];exact(g.own j v hj).but bt fun c hc=>g.ap i j _ _ (Ne.symm e) gi hj c hc
end
def RU(b:Nat)(vs:List Value)(H H':AH):Prop:=H.n<=H'.n/\ ∀j,j<H.n->j≠b->(∀v∈vs,XV v≠some j)->H'.blk j=H.blk j
theorem RU.refl(b:Nat)(vs:List Value)(H:AH):RU b vs H H:=⟨Nat.le_refl _,fun _ _ _ _=>rfl⟩
theorem RU.trans{b:Nat}{vs:List Value}{H H1 H2:AH}(x:RU b vs H H1)(y:RU b vs H1 H2):RU b vs H H2:=⟨Nat.le_trans x.1 y.1,fun j hj h1 h2=>(y.2 j (Nat.lt_of_lt_of_le hj x.1) h1 h2).trans (x.2 j hj h1 h2)⟩
theorem RU.but{b i:Nat}{vs:List Value}{v:Value}{H H':AH}(hi:vs[i]?=some v)(bt:TS (XV v) H H'):RU b vs H H':=⟨Nat.le_of_eq bt.n.symm,fun j hj _ h2=>bt.blk j hj (h2 v (List.mem_of_getElem? hi))⟩
theorem RU.mod{b i:Nat}{vs:List Value}{v:Value}{H H4 H5:AH}(hi:vs[i]?=some v)(md:Mod (XV v) H H4)(h5:H5.n=H4.n/\ ∀j,j≠b->H5.blk j=H4.blk j):RU b vs H H5:=⟨by have:=md.n;omega,fun j hj h1 h2=>(h5.2 j h1).trans (md.blk j hj (h2 v (List.mem_of_getElem? hi)))⟩
theorem Mf{n:Nat}(h:n<ZB):UY Tryz.prog 3 82 (.int .i64 (n:Int))=some (.int .u64 (n:Int)):=by
 have h:n<18446744073709551616:=h;have e:IntKind.u64.wrap (n:Int)=(n:Int):=by rw[IntKind.wrap_u64];omega
 unfold UY;simp only[Tryz.underlying3,Tryz.underlying82,e]
section
attribute [-simp] Int.natCast_add Int.natCast_mul Int.natCast_ediv Int.natCast_emod Int.natCast_pow
attribute [local simp] strip Zt YR LR gW ZZ ZO Zk ZN Zv ZM Ze Zf Zb Zw ZT Zs Zx Zc ZS Za Yd ZC Zu plain Zq Tr.get_set ZA Zd Z5 Zl sameKind undef Zh Zy ZR ZU ZD Yq Zm parts Yv Xd DW ZL Zg LX Zo
end
inductive ET where|node(op:Int)(neg:Bool)(abs den:List Nat)(args:List ET)
mutual def ET.nodes:ET->Nat| .node _ _ _ _ args=>1+V6 args def V6:List ET->Nat|[]=>0|t::ts=>t.nodes+V6 ts end
mutual def ET.depth:ET->Nat| .node _ _ _ _ args=>max 1 (PU args) def PU:List ET->Nat|[]=>0|t::ts=>max (t.depth+1) (PU ts) end
def arity(n:Nat):Nat:=[0,0,1,2,2,2,2,1,2,2,1,1,1,1,1,1][n]?.getD 0
def ET.good:ET->Bool| .node op neg abs den args=>decide (0<=op/\op<16/\args.length=arity op.toNat)&&(if op=0 then decide (0<dv ZB den)else decide (abs.length=0)&&decide (den.length=0)&&!neg)
mutual def ET.allGood:ET->Bool| .node op neg abs den args=>(ET.node op neg abs den args).good&&Mp args def Mp:List ET->Bool|[]=>true|t::ts=>t.allGood&&Mp ts end
mutual def ET.wide(L:Nat):ET->Prop| .node _ _ abs den args=>abs.length<=L/\den.length<=L/\Y7 ZB abs/\Y7 ZB den/\MO L args def MO(L:Nat):List ET->Prop|[]=>True|t::ts=>t.wide L/\MO L ts end
theorem Lu(t:ET):0<t.nodes:=by cases t;simp only[ET.nodes];omega
theorem Q1{xs:List ET}{i:Nat}{t:ET}(hi:xs[i]?=some t):t.nodes<=V6 xs:=by induction xs generalizing i with
 |nil=>simp at hi
 |cons x xs ih=>cases i with|zero=>simp at hi;subst hi;simp[V6]|succ i=>simp at hi;have:=ih hi;simp only[V6];omega
mutual inductive Ex(H:AH):List Value->ET->Prop|mk{op:Int}{neg:Bool}{va vd vx:Value}{abs den:List Nat}{args:List ET} :Sl H va abs->Sl H vd den->Xs H vx args->Ex H [.int .i64 op,.bool neg,va,vd,vx] (.node op neg abs den args) inductive Xs(H:AH):Value->List ET->Prop|nil:Xs H (.slice none 0 0) []|emp(b:Nat):Xs H (.slice (some ⟨b,0,some 0⟩) 0 0) []|mk(b o cap:Nat){cs:List Value}{args:List ET} :b<H.n->H.cells b=some cs->args.length<=cap->(∀(i:Nat)(t:ET),args[i]?=some t->Ex H ((cs.drop (o+i*5)).take 5) t)->Xs H (.slice (some ⟨b,o,none⟩) args.length cap) args end
theorem UO{H H':AH}(k:ZQ H H'){b:Nat}(hb:b<H.n):H'.cells b=H.cells b:=by unfold AH.cells;rw[k.blk b hb]
theorem Iv{H H':AH}(k:ZQ H H'): ∀n(t:ET),t.nodes<=n-> ∀vs,Ex H vs t->Ex H' vs t:=by intro n;induction n with
 |zero=>intro t h;have:=Lu t;omega
 |succ n ih=>intro t h vs hx;cases hx with
  |mk h1 h2 h3=>simp only[ET.nodes]at h;refine .mk (h1.keep k) (h2.keep k) ?_;cases h3 with
   |nil=>exact .nil
   |emp b=>exact .emp b
   |mk b o cap hb hc hl hf=>
    rename_i cs;refine .mk b o cap (cs:=cs) (Nat.lt_of_lt_of_le hb k.n) ?_ hl fun i t hi=>?_;·rw[UO k hb];exact hc
    ·have:=Q1 hi;exact ih t (by omega) _ (hf i t hi)
theorem Ex.keep{H H':AH}{vs:List Value}{t:ET}(h:Ex H vs t)(k:ZQ H H'):Ex H' vs t:=Iv k _ t (Nat.le_refl _) vs h
theorem Xs.len{H:AH}{v:Value}{args:List ET}(h:Xs H v args):RM Tryz.prog 33 v=some args.length:=by
 have u:Tryz.prog.underlying 33=some (.slice 35):=by kernel_rfl
 unfold RM;rw[u];cases h<;>rfl
theorem FT:XT Tryz.prog 35=some true:=by kernel_rfl
theorem HO:YE Tryz.prog 35=some 5:=by kernel_rfl
theorem DA:XT Tryz.prog 28=some false:=by kernel_rfl
theorem Hg:XT Tryz.prog 4=some false:=by kernel_rfl
theorem Vm{H:AH}{t:TypeId}(ht:XT Tryz.prog t=some false){b o:Nat}{cs:List Value}{v:Value}(h:H.cells b=some cs)(hk:cs[o]?=some v):Yk Tryz.prog H t (.pointer (some ⟨b,o,none⟩))=some v:=by unfold Yk;simp only[ht,h,hk]
theorem Lr{H:AH}{b o:Nat}{cs vs:List Value}(h:H.cells b=some cs)(hk:(cs.drop o).take 5=vs)(hl:vs.length=5):Yk Tryz.prog H 35 (.pointer (some ⟨b,o,none⟩))=some (.agg vs.toArray):=by
 unfold Yk;simp only[FT,HO,AH.read_def,h];have:o+5<=cs.length:=by have:=congrArg List.length hk;rw[List.length_take,List.length_drop,hl]at this;omega
 rw[Nat.ble_eq.mpr this,cond_true,hk]
theorem Ex.len{H:AH}{vs:List Value}{t:ET}(h:Ex H vs t):vs.length=5:=by cases h;rfl
theorem Xs.at{H:AH}{v:Value}{args:List ET}(h:Xs H v args){i:Nat}{t:ET}(hi:args[i]?=some t): ∃(p:Value) (vs:List Value),YS Tryz.prog 33 v (.int .i64 (i:Int))=some p/\(∀H',ZQ H H'->Yk Tryz.prog H' 35 p=some (.agg vs.toArray))/\Ex H vs t:=by
 have u:Tryz.prog.underlying 33=some (.slice 35):=by kernel_rfl
 have Z0:i<args.length:=by
  rcases Nat.lt_or_ge i args.length with h'|h';·exact h'
  ·rw[List.getElem?_eq_none h']at hi;cases hi
 cases h with|nil=>simp at hi|emp b=>simp at hi|mk b o cap hb hc hl hf=>have hE:=hf i t hi;refine⟨.pointer (some ⟨b,o+i*5,none⟩),_,?_,fun H' k=>Lr ((UO k hb).trans hc) rfl hE.len,hE⟩;unfold YS;simp only[u,HO];rw[if_pos (by omega)];simp
theorem FC(b o:Nat):Yp Tryz.prog 30 (.pointer (some ⟨b,o,none⟩)) 0=some (.pointer (some ⟨b,o,none⟩)):=by kernel_rfl
theorem FE(b o:Nat):Yp Tryz.prog 30 (.pointer (some ⟨b,o,none⟩)) 1=some (.pointer (some ⟨b,o+1,none⟩)):=by kernel_rfl
theorem Qf(H:AH)(sz:Nat)(cs:List Value)(hz:sz≠0:=by decide):(H.new sz cs).cells H.n=some cs:=AH.cells_rw' (by rw[AH.blk_new,if_pos rfl]) hz
def RowsIn(H:AH):Prop:=1<H.n/\H.cells 1=some Xg
theorem RowsIn.keep{H H':AH}(h:RowsIn H)(k:ZQ H H'):RowsIn H':=⟨Nat.lt_of_lt_of_le h.1 k.n,by rw[UO k h.1];exact h.2⟩
section
attribute [-simp] Int.natCast_add Int.natCast_mul Int.natCast_ediv Int.natCast_emod Int.natCast_pow
attribute [local simp] strip Zt YR LR gW ZZ ZO Zk ZN Zv ZM Ze Zf Zb Zw ZT Zs ZI Zi Zx Zc Za ZJ ZK Yo Zn ZS Yd ZC Zu plain Zq Tr.get_set ZA Zd Z5 Zl sameKind undef Zh Zy ZR ZU Zm parts Xd DW ZL Zg LX Zo
end
def LK(n0:Nat)(H H1:AH):Prop:= ∀H0,ZQ H0 H->H0.n<=n0->ZQ H0 H1
theorem LK.refl(n0:Nat)(H:AH):LK n0 H H:=fun _ k _=>k
theorem LK.trans{n0:Nat}{H H1 H2:AH}(a:LK n0 H H1)(b:LK n0 H1 H2):LK n0 H H2:=fun H0 k h=>b H0 (a H0 k h) h
section
attribute [-simp] Int.natCast_add Int.natCast_mul Int.natCast_ediv Int.natCast_emod Int.natCast_pow
attribute [local simp] strip Zt YR LR gW ZZ ZO Zk ZN Zv ZM Ze Zf Zb Zw ZT Zs ZI Zi Zx Zc Za ZJ ZK Yo Zn ZS Yd ZC Zu plain Zq Tr.get_set ZA Zd Z5 Zl sameKind undef Zh Zy ZR ZU Zm parts Xd DW ZL Zg LX Zo
end
structure Qw (H : AH) (vs : List Value) (t : ET) : Prop where
  ex : Ex H vs t
  rows : RowsIn H
  wide : t.wide 1048576
  nodes : t.nodes <= 2000000
theorem Qw.keep{H H':AH}{vs:List Value}{t:ET}(h:Qw H vs t)(k:ZQ H H'):Qw H' vs t:=⟨h.ex.keep k,h.rows.keep k,h.wide,h.nodes⟩
section
attribute [-simp] Int.natCast_add Int.natCast_mul Int.natCast_ediv Int.natCast_emod Int.natCast_pow
attribute [local simp] strip Zt YR LR gW ZZ ZO Zk ZN Zv ZM Ze Zf Zb Zw ZT Zs ZI Zi Zx Zc Za ZJ ZK Yo Zn ZS Yd ZC Zu plain Zq Tr.get_set ZA Zd Z5 Zl sameKind undef Zh Zy ZR ZU Zm parts Xd DW ZL Zg LX Zo
section
variable {H : AH} {vs : List Value} {t : ET}
end
section
variable {H : AH} {vs : List Value} {t : ET}
end
end
abbrev Su:Nat:=2000000000000
theorem T6{B:Nat}(hB:2<=B){n m:Nat}(h:n<=m):(ds B n).length<=(ds B m).length:=YJ hB (Nat.lt_of_le_of_lt h (Mg hB m))
theorem OC{B n:Nat}(hB:2<=B):0<(ds B n).length↔0<n:=by
 constructor
 ·intro h;rcases Nat.eq_zero_or_pos n with h0|h0;·subst h0;rw[Y1]at h;cases h
  ·exact h0
 ·intro h;rw[W7 hB (by omega)];simp
theorem PT{B n:Nat}(hB:2<=B):(ds B n).length=0↔n=0:=by have:=OC (n:=n) hB;omega
theorem Ca{x:Nat}(h:x<ZB):Y7 ZB [x]:= .cons h (.nil _)
theorem dv1(x:Nat):dv ZB [x]=x:=by simp[dv]
section
attribute [-simp] Int.natCast_add Int.natCast_mul Int.natCast_ediv Int.natCast_emod Int.natCast_pow
attribute [local simp] strip Zt YR LR gW ZZ ZO Zk ZN Zv ZM Ze Zf Zb Zw ZT Zs Zx Zc ZS Za Yd ZC Zu plain Zq Tr.get_set ZA Zd Z5 Zl sameKind undef Zh Zy ZR ZU ZD Yq Zm parts Yv Xd DW ZL Zg LX Zo
theorem PZ(H:AH){t:TypeId}(ht:LT t)(x:Nat): ∃v N,Y6 Tryz.prog H t 1 [(0,.int .u64 (x:Int))]=some (v,N)/\ZQ H N/\Yl H.n N v [x]:=⟨_,_,UP H ht x,.new _ _ _,Yl.new H [x]⟩
theorem T3{H:AH}{v:Value}{N:Nat}(h:Sl H v (ds ZV N)):ZG Tryz.prog Yf 91 [v] H=some (.bool (decide (N=0)),H):=by obtain⟨_,_,hc,rfl,rfl⟩:=LM h;rw[hc];congr 3;exact decide_eq_decide.mpr (PT two32)
theorem V9{H:AH}{va vb:Value}{A B:Nat}(ha:Sl H va (ds ZV A))(hb:Sl H vb (ds ZV B))(lA:(ds ZV A).length<=2*Su)(lB:(ds ZV B).length<=2*Su)(hB:0<B): ∃q r H',ZG Tryz.prog Yf 93 [va,vb] H=some (.tuple #[q,r],H')/\ZQ H H'/\Yl H.n H' q (ds ZV (A/B))/\Yl H.n H' r (ds ZV (A%B)):=by obtain⟨v,H',hc,k,q,r,e,o1,o2⟩:=Oi ha hb (Xo two32 A) (Xo two32 B) (Uh two32 B) (Nat.le_trans lA (by decide)) (Nat.le_trans lB (by decide)) (by rw[X4 two32];exact hB);subst e;rw[X4 two32,X4 two32]at o1 o2;exact⟨q,r,H',hc,k,o1,o2⟩
section
variable {H : AH} {va vb : Value} {A B : Nat}
theorem Oj(ha:Sl H va (ds ZV A))(hb:Sl H vb (ds ZV B))(lA:(ds ZV A).length<=2*Su)(lB:(ds ZV B).length<=2*Su):CW Tryz.prog Yf 92 [va,vb] H fun v H'=>ZQ H H'/\Sl H' v (ds ZV (Nat.gcd A B)):=by
 refine YH 19 Tryz.func92 ?_;apply ZX;intro b1 ZH;simp;subst ZH;apply Zz;intro b1 ZH;apply Z2;refine Y8 (fun m s'=>s'.k=19/\ZQ H s'.H/\ ∃(a:Nat) (av bv:Value),Nat.gcd a m=Nat.gcd A B/\(ds ZV a).length<=2*Su/\(ds ZV m).length<=2*Su/\Sl s'.H av (ds ZV a)/\Sl s'.H bv (ds ZV m)/\s'.tm.get 0=some av/\s'.tm.get 1=some bv) ?_ B _ ⟨rfl,.refl H,A,va,vb,rfl,lA,lB,ha,hb,by simp,by simp⟩;rintro m ⟨k,tm,H3⟩ ⟨hk,k3,a,av,bv,hg,la,lm,oa,ob,t0,t1⟩ Q' WC;simp only at hk k3 oa ob t0 t1;subst hk;have z:=T3 ob;apply Zz;intro b3 YC;apply ZX;intro b4 YZ;simp[t1,z];subst YZ;by_cases hm:m=0;·refine Zp (t:=false) (by simp[hm]) ?_;apply YM;apply WC;left;refine⟨rfl,?_⟩;subst hm;rw[Nat.gcd_zero_right]at hg;subst ZH;apply ZX;intro b4 YZ;simp[t0];subst YZ;apply Z8;simp;rw[<-hg];exact⟨k3,oa⟩
 ·refine Zp (t:=true) (by simp[hm]) ?_;apply ZE;subst YC;obtain⟨q,r,H4,c4,k4,oq,orr⟩:=V9 oa ob la lm (by omega);apply Z2;apply ZX;intro b3 YC;simp[t0,t1,c4];subst YC;apply Zr;simp[t1];apply WC;refine⟨a%m,Nat.mod_lt _ (by omega),rfl,k3.trans k4,m,bv,r,?_,lm,Nat.le_trans (T6 two32 (Nat.mod_le a m)) la,ob.keep k4,orr.sl,by simp,by simp⟩;rw[<-hg,Nat.gcd_comm a m,Nat.gcd_rec m a,Nat.gcd_comm]
theorem MY{H:AH}{v:Value}{xs:List Nat}(h:Sl H v xs)(dx:Y7 ZB xs)(hl:xs.length<=Su): ∃v' H',ZG Tryz.prog Yf 53 [v] H=some (v',H')/\ZQ H H'/\Yl H.n H' v' (ds ZV (dv ZB xs))/\(ds ZV (dv ZB xs)).length<=2*Su:=by
 obtain⟨v',H',hc,k,o⟩:=IV h dx (Nat.le_trans hl (by decide));refine⟨v',H',hc,k,o,?_⟩;have h1:dv ZB xs<ZV^(2*xs.length):=by have:=Ve (UL dx);rwa[TI,VV]at this
 have:=YJ two32 h1;have hl:xs.length<=2000000000000:=hl;show _<=2*2000000000000;omega
end
end
inductive RT where|node(op:Int)(neg:Bool)(N D:Nat)(bad:Bool)(args:List RT)
mutual def RT.nodes:RT->Nat| .node _ _ _ _ _ args=>1+Vp args def Vp:List RT->Nat|[]=>0|t::ts=>t.nodes+Vp ts end
mutual def RT.depth:RT->Nat| .node _ _ _ _ _ args=>Qk args+1 def Qk:List RT->Nat|[]=>0|t::ts=>max t.depth (Qk ts) end
def Dg(op:Int)(bad:Bool)(n:Nat):Bool:=!bad&&decide (0<=op/\op<16/\n=arity op.toNat)
mutual def RT.right:RT->Bool| .node op _ _ _ bad args=>Dg op bad args.length&&Qm args def Qm:List RT->Bool|[]=>true|t::ts=>t.right&&Qm ts end
def Xv(neg:Bool)(n d:Nat):Bool×Nat×Nat:=if n=0 then(false,0,1)else(neg,n/Nat.gcd n d,d/Nat.gcd n d)
theorem NI(t:RT):0<t.nodes:=by cases t;simp only[RT.nodes];omega
theorem RJ{xs:List RT}{i:Nat}{t:RT}(hi:xs[i]?=some t):t.nodes<=Vp xs:=by induction xs generalizing i with
 |nil=>simp at hi
 |cons x xs ih=>cases i with|zero=>simp at hi;subst hi;simp[Vp]|succ i=>simp at hi;have:=ih hi;simp only[Vp];omega
def Af(Q:Nat->Prop)(H:AH)(v:Value)(xs:List Nat):Prop:=Sl H v xs/\ ∀c,XV v=some c->Q c
def Fw(Q:Nat->Prop)(H H':AH):Prop:=H.n<=H'.n/\ ∀j,Q j->j<H.n->H'.blk j=H.blk j
theorem Sl.agr{Q:Nat->Prop}{H H':AH}{v:Value}{xs:List Nat}(h:Sl H v xs)(hq: ∀c,XV v=some c->Q c)(k:Fw Q H H'):Sl H' v xs:=by cases h with|nil=>exact .nil|emp b=>exact .emp b|mk b o cap xs h1 h2=>obtain⟨h3,cs,h4,h5,h6⟩:=h2;have e:=k.2 b (hq b rfl) h3;exact .mk b o cap xs h1 ⟨Nat.lt_of_lt_of_le h3 k.1,cs,by unfold AH.cells;rw[e];exact h4,by unfold AH.size;rw[e];exact h5,h6⟩
mutual inductive Rx(Q:Nat->Prop)(H:AH):List Value->RT->Prop|mk{op:Int}{neg bad:Bool}{vn vd vx:Value}{N D:Nat}{args:List RT} :Af Q H vn (ds ZV N)->Af Q H vd (ds ZV D)->FW Q H vx args->Rx Q H [.int .i64 op,.bool neg,vn,vd,.bool bad,vx] (.node op neg N D bad args) inductive FW(Q:Nat->Prop)(H:AH):Value->List RT->Prop|nil:FW Q H (.slice none 0 0) []|mk(b cap:Nat){cs:List Value}{args:List RT} :Q b->b<H.n->H.blk b= .rw 6 cs->args.length<=cap->(∀(i:Nat)(t:RT),args[i]?=some t->Rx Q H ((cs.drop (i*6)).take 6) t)->FW Q H (.slice (some ⟨b,0,none⟩) args.length cap) args end
theorem G4{Q Q':Nat->Prop}{H H':AH}(k:Fw Q H H')(hQ: ∀j,j<H.n->Q j->Q' j): ∀n(t:RT),t.nodes<=n-> ∀vs,Rx Q H vs t->Rx Q' H' vs t:=by intro n;induction n with
 |zero=>intro t h;have:=NI t;omega
 |succ n ih=>intro t h vs hx;cases hx with
  |mk h1 h2 h3=>simp only[RT.nodes]at h;refine .mk ⟨h1.1.agr h1.2 k,fun c hc=>hQ c (h1.1.blk_lt hc) (h1.2 c hc)⟩ ⟨h2.1.agr h2.2 k,fun c hc=>hQ c (h2.1.blk_lt hc) (h2.2 c hc)⟩ ?_;cases h3 with
   |nil=>exact .nil
   |mk b cap hq hb hc hl hf=>
    rename_i cs;refine .mk b cap (cs:=cs) (hQ b hb hq) (Nat.lt_of_lt_of_le hb k.1) ?_ hl fun i t hi=>?_;·rw[k.2 b hq hb];exact hc
    ·have:=RJ hi;exact ih t (by omega) _ (hf i t hi)
theorem Rx.agr{Q Q':Nat->Prop}{H H':AH}{vs:List Value}{t:RT}(h:Rx Q H vs t)(k:Fw Q H H')(hQ: ∀j,j<H.n->Q j->Q' j):Rx Q' H' vs t:=G4 k hQ _ t (Nat.le_refl _) vs h
theorem ZQ.agr{H H':AH}(k:ZQ H H')(Q:Nat->Prop):Fw Q H H':=⟨k.n,fun j _ hj=>k.blk j hj⟩
theorem Rx.keep{Q:Nat->Prop}{H H':AH}{vs:List Value}{t:RT}(h:Rx Q H vs t)(k:ZQ H H'):Rx Q H' vs t:=h.agr (k.agr Q) fun _ _ h=>h
theorem Rx.len{Q:Nat->Prop}{H:AH}{vs:List Value}{t:RT}(h:Rx Q H vs t):vs.length=6:=by cases h;rfl
theorem Sl.one1{H:AH}{v:Value}{xs:List Nat}(h:Sl H v xs):one v=true:=by cases h<;>rfl
theorem FW.one1{Q:Nat->Prop}{H:AH}{v:Value}{l:List RT}(h:FW Q H v l):one v=true:=by cases h<;>rfl
theorem FQ:XT Tryz.prog 48=some false:=by kernel_rfl
theorem feN(b o:Nat):Yp Tryz.prog 54 (.pointer (some ⟨b,o,none⟩)) 1=some (.pointer (some ⟨b,o+1,none⟩)):=by kernel_rfl
theorem feD(b o:Nat):Yp Tryz.prog 54 (.pointer (some ⟨b,o,none⟩)) 2=some (.pointer (some ⟨b,o+2,none⟩)):=by kernel_rfl
theorem Sl.shape{H:AH}{v:Value}{xs:List Nat}(h:Sl H v xs): ∃a l c,v= .slice a l c:=by cases h<;>exact⟨_,_,_,rfl⟩
theorem Yl.shape{n:Nat}{H:AH}{v:Value}{xs:List Nat}(h:Yl n H v xs): ∃a l c,v= .slice a l c:=h.sl.shape
theorem J6(a:Option Addr)(l c:Nat):V1 Tryz.prog 54 [(2,.slice a l c)]=some (.agg #[.bool false,.slice none 0 0,.slice a l c]):=by kernel_rfl
theorem J7(n:Bool)(a a':Option Addr)(l c l' c':Nat):V1 Tryz.prog 54 [(0,.bool n),(1,.slice a l c),(2,.slice a' l' c')]=some (.agg #[.bool n,.slice a l c,.slice a' l' c']):=by kernel_rfl
theorem zR:Wv Tryz.prog 54=some (.agg #[.bool false,.slice none 0 0,.slice none 0 0]):=by kernel_rfl
theorem sR:YE Tryz.prog 54=some 3:=by kernel_rfl
theorem aR:XT Tryz.prog 54=some true:=by kernel_rfl
theorem Nx{H:AH}{b o:Nat}{cs vs:List Value}(h:H.cells b=some cs)(hk:(cs.drop o).take 3=vs)(hl:vs.length=3):Yk Tryz.prog H 54 (.pointer (some ⟨b,o,none⟩))=some (.agg vs.toArray):=by
 unfold Yk;simp only[aR,sR,AH.read_def,h];have:o+3<=cs.length:=by have:=congrArg List.length hk;rw[List.length_take,List.length_drop,hl]at this;omega
 rw[Nat.ble_eq.mpr this,cond_true,hk]
theorem TX{H:AH}{sz:Nat}{cs ws:List Value}{t:TypeId}{n b o:Nat}(ht:YE Tryz.prog t=some n)(hb:H.blk b= .rw sz cs){v:Value}(hv:v.cells.toList=ws)(hw:ws.length=n)(ho:o+n<=cs.length)(h1:ws.all one=true)(AB:sz≠0:=by decide): ∃H',YP Tryz.prog H t (.pointer (some ⟨b,o,none⟩)) v=some H'/\H'.blk b= .rw sz (cs.take o++ws++cs.drop (o+n))/\H'.n=H.n/\(∀j,j≠b->H'.blk j=H.blk j)/\LK b H H'/\H'.lw=min H.lw b:=by
 obtain⟨sz,rfl⟩: ∃k,sz=k+1:=⟨sz-1,by omega⟩;have hs:v.cells.size=n:=by rw[<-hw,<-hv];simp
 have hle:Nat.ble (o+n) cs.length=true:=Nat.ble_eq.mpr ho;refine⟨{ n:=H.n,lw:=min H.lw b,t:=H.t.set b (.rw (sz+1) (cs.take o++ws++cs.drop (o+n))) },?_,?_,rfl,fun j hj=>?_,fun H0 k hn=>⟨k.n,?_,fun j hj=>?_⟩,rfl⟩;·unfold YP;simp only[ht,hs,hv];rw[show Nat.beq n n=true from by simp,cond_true,AH.write_def,hb];simp only[hw,hle,h1,Bool.and_self,cond_true]
 ·unfold AH.blk;simp only[Tr.get_set,if_true]
 ·unfold AH.blk;simp only[Tr.get_set];rw[if_neg hj]
 ·have:=k.lw;show min H0.lw H0.n<=min H.lw b;omega
 ·unfold AH.blk;simp only[Tr.get_set];rw[if_neg (by omega)];exact k.blk j hj
section
attribute [-simp] Int.natCast_add Int.natCast_mul Int.natCast_ediv Int.natCast_emod Int.natCast_pow
attribute [local simp] strip Zt YR LR gW ZZ ZO Zk ZN Zv ZM Ze Zf Zb Zw ZT Zs ZI Zi Zx Zc Za ZJ ZK Yo Zn ZS Yd ZC Zu plain Zq Tr.get_set ZA Zd Z5 Zl sameKind undef Zh Zy ZR ZU Zm parts Xd DW ZL Zg LX Zo
section
variable {H : AH} {va vb vm : Value}
theorem W4(x:Nat)(hx:x<ZB): ∃v H',ZG Tryz.prog Yf 15 [.int .i64 (x:Int)] H=some (v,H')/\ZQ H H'/\Yl H.n H' v (ds ZV x)/\(ds ZV x).length<=2*Su:=by
 obtain⟨v1,H1,c1,k1,o1⟩:=PZ H Yq x;obtain⟨v2,H2,c2,k2,o2,l2⟩:=MY o1.sl (Ca hx) (show 1<=2000000000000 by decide);rw[dv1]at o2 l2;suffices hs:CW Tryz.prog Yf 15 [.int .i64 (x:Int)] H fun v H'=>v=v2/\H'=H2 by obtain⟨_,_,hc,rfl,rfl⟩:=hs;exact⟨_,_,hc,k1.trans k2,o2.mono k1.n (.refl _),l2⟩
 refine YH 7 Tryz.func15 ?_;apply ZX;intro b1 ZH;simp;subst ZH;apply ZX;intro b1 ZH;simp[Mf hx,c1,c2];subst ZH;apply Z8;simp
def Pn(n:Nat)(H:AH)(us:List Value)(r:Bool×Nat×Nat):Prop:= ∃a b,us=[.bool r.1,a,b]/\Yl n H a (ds ZV r.2.1)/\Yl n H b (ds ZV r.2.2)
theorem Ls{vn vd:Value}{N D:Nat}(neg:Bool)(hn:Sl H vn (ds ZV N))(hd:Sl H vd (ds ZV D))(lN:(ds ZV N).length<=2*Su)(lD:(ds ZV D).length<=2*Su)(h0:0<D): ∃us H',ZG Tryz.prog Yf 60 [.bool neg,vn,vd] H=some (.agg us.toArray,H')/\ZQ H H'/\Pn H.n H' us (Xv neg N D):=by
 suffices hs:CW Tryz.prog Yf 60 [.bool neg,vn,vd] H fun v H'=> ∃us:List Value,v= .agg us.toArray/\ZQ H H'/\Pn H.n H' us (Xv neg N D) by obtain⟨_,H',hc,us,rfl,h⟩:=hs;exact⟨us,H',hc,h⟩
 obtain⟨r,hr⟩:=hid (Xv neg N D);rw[<-hr];unfold Xv at hr;refine YH 31 Tryz.func60 ?_;have kB:=ZQ.new H 1 [.bool false,.slice none 0 0,.slice none 0 0];have bB:(H.new 1 [.bool false,.slice none 0 0,.slice none 0 0]).blk H.n= .rw 1 [.bool false,.slice none 0 0,.slice none 0 0]:=by rw[AH.blk_new,if_pos rfl]
 have nB:(H.new 1 [.bool false,.slice none 0 0,.slice none 0 0]).n=H.n+1:=rfl;obtain⟨HB,Aq⟩:=hid (H.new 1 [.bool false,.slice none 0 0,.slice none 0 0]);rw[<-Aq]at kB bB nB;have z:=T3 (hn.keep kB);apply ZX;intro b1 ZH;simp[zR,Value.cells,<-Aq];subst ZH;apply Zz;intro b1 ZH;apply ZX;intro b2 Yy;simp[z];subst Yy;by_cases hN:N=0;·refine Zp (t:=true) (by simp[hN]) ?_;rw[if_pos hN]at hr;obtain⟨v1,H1,c1,k1,o1,_⟩:=W4 (H:=HB) 1 (by decide);obtain⟨x,l,c,rfl⟩:=o1.shape;obtain⟨H2,st,blk,n2,Da,ka,_⟩:=TX (H:=H1) (b:=H.n) (cs:=[.bool false,.slice none 0 0,.slice none 0 0]) (sz:=1) (o:=0) sR (by rw[k1.blk _ (by omega)];exact bB) (v:= .agg #[.bool false,.slice none 0 0,.slice x l c]) (ws:=[.bool false,.slice none 0 0,.slice x l c]) rfl rfl (by simp) rfl;have c1:ZG Tryz.prog Yf 15 [.int .i64 1] HB=some (.slice x l c,H1):=c1;apply ZX;intro b1 ZH;simp[c1,J6,st];subst ZH;apply Z8;have ld:Yk Tryz.prog H2 54 (.pointer (some ⟨H.n,0,none⟩))=some (.agg #[.bool false,.slice none 0 0,.slice x l c]):=Nx (vs:=[.bool false,.slice none 0 0,.slice x l c]) (by unfold AH.cells;rw[blk]) rfl rfl;simp[WA,ld];refine⟨ka H (kB.trans k1) (Nat.le_refl _),_,_,by rw[hr],by rw[hr,Y1];exact .nil,?_⟩;rw[hr];exact(o1.mono (m:=H.n) (by omega) (.refl _)).but (b:=some H.n) ⟨n2,fun j _ hj=>Da j (fun e=>hj (by rw[e]))⟩ fun c' e h=>by cases e;have:=o1.blk_lo h;omega
 ·refine Zp (t:=false) (by simp[hN]) ?_;rw[if_neg hN]at hr;apply ZE;subst ZH;obtain⟨_,H1,c1,k1,s1⟩:=Oj (hn.keep kB) (hd.keep kB) lN lD;obtain⟨g,hg⟩:=hid (Nat.gcd N D);rw[<-hg]at s1 hr;have g0:0<g:=by rw[hg];exact Nat.gcd_pos_of_pos_right _ h0
  have gl:(ds ZV g).length<=2*Su:=Nat.le_trans (T6 two32 (by rw[hg];exact Nat.le_of_dvd h0 (Nat.gcd_dvd_right N D))) lD;obtain⟨q1,r1,H2,c2,k2,o2,_⟩:=V9 (hn.keep (kB.trans k1)) s1 lN gl g0;obtain⟨q2,r2,H3,c3,k3,o3,_⟩:=V9 (hd.keep ((kB.trans k1).trans k2)) (s1.keep k2) lD gl g0;have n1:=k1.n;have n2:=k2.n;obtain⟨x,l,c,rfl⟩:=o2.shape;obtain⟨x',l',c',rfl⟩:=o3.shape;obtain⟨H4,st,blk,n4,Da,ka,_⟩:=TX (H:=H3) (b:=H.n) (cs:=[.bool false,.slice none 0 0,.slice none 0 0]) (sz:=1) (o:=0) sR (by rw[k3.blk _ (by omega),k2.blk _ (by omega),k1.blk _ (by omega)];exact bB) (v:= .agg #[.bool neg,.slice x l c,.slice x' l' c']) (ws:=[.bool neg,.slice x l c,.slice x' l' c']) rfl rfl (by simp) rfl;apply ZX;intro b1 ZH;simp[c1];subst ZH;apply ZX;intro b1 ZH;simp[c2];subst ZH;apply ZX;intro b1 ZH;simp[c3];subst ZH;apply ZX;intro b1 ZH;simp[J7,st];subst ZH;apply Z8;have ld:Yk Tryz.prog H4 54 (.pointer (some ⟨H.n,0,none⟩))=some (.agg #[.bool neg,.slice x l c,.slice x' l' c']):=Nx (vs:=[.bool neg,.slice x l c,.slice x' l' c']) (by unfold AH.cells;rw[blk]) rfl rfl;simp[ld];have bt:TS (some H.n) H3 H4:=⟨n4,fun j _ hj=>Da j (fun e=>hj (by rw[e]))⟩;refine⟨ka H (((kB.trans k1).trans k2).trans k3) (Nat.le_refl _),_,_,by rw[hr],?_,?_⟩;·rw[hr];exact(o2.mono (m:=H.n) (by omega) k3).but bt fun c' e h=>by cases e;have:=o2.blk_lo h;omega
  ·rw[hr];exact(o3.mono (m:=H.n) (by omega) (.refl _)).but bt fun c' e h=>by cases e;have:=o3.blk_lo h;omega
end
end
theorem E6{x y:Int} :Zj .neq .i64 x y=some (.bool (decide (x≠y))):=by
 show some (Value.bool (x !=y))=_;congr 2;by_cases h:x=y;·subst h;simp
 ·rw[decide_eq_true h];simp[bne];omega
section
attribute [-simp] Int.natCast_add Int.natCast_mul Int.natCast_ediv Int.natCast_emod Int.natCast_pow
attribute [local simp] strip Zt YR LR gW ZZ ZO Zk ZN Zv ZM Ze Zf Zb Zw ZT Zs ZI Zi Zx Zc Za ZJ ZK Yo Zn ZS Yd ZC Zu plain Zq Tr.get_set ZA Zd Z5 Zl sameKind undef Zh Zy ZR ZU Zm parts Xd DW ZL Zg LX Zo
section
variable {Q : Nat -> Prop}
end
section
variable {Q : Nat -> Prop}
section
variable {H : AH} {vs : List Value} {t : RT}
end
end
end
theorem Iw{n0 b:Nat}{H:AH}{sz:Nat}{cs:List Value}(h:n0<=b):LK n0 H ((H.kill b).new sz cs):=fun H0 k Vs=>by
 have:=k.n;have eH:(H.kill b).n=H.n:=rfl;refine⟨by show H0.n<=H.n+1;omega,?_,fun j hj=>?_⟩;·have:=k.lw;show min H0.lw H0.n<=min H.lw b;omega
 ·rw[AH.blk_new,if_neg (by rw[eH];omega),AH.blk_kill,if_neg (by omega)];exact k.blk j hj
def OP(nh:Nat)(H:AH)(xv:Value)(l:List RT):Prop:=(xv= .slice none 0 0/\l=[])\/ ∃b cs,xv= .slice (some ⟨b,0,none⟩) l.length l.length/\nh<=b/\b<H.n/\H.blk b= .rw 6 cs/\cs.length=l.length*6/\ ∀(j:Nat)(u:RT),l[j]?=some u->Rx (fun j=>nh<=j/\j≠b) H ((cs.drop (j*6)).take 6) u
theorem OP.one1{nh:Nat}{H:AH}{xv:Value}{l:List RT}(h:OP nh H xv l):one xv=true/\xv.cells.toList=[xv]:=by rcases h with⟨rfl,_⟩|⟨b,cs,rfl,_⟩<;>exact⟨rfl,rfl⟩
theorem OP.agr{nh:Nat}{H H':AH}{xv:Value}{l:List RT}(h:OP nh H xv l)(hn:H.n<=H'.n)(k: ∀j,nh<=j->j<H.n->H'.blk j=H.blk j):OP nh H' xv l:=by
 rcases h with h|⟨b,cs,h1,h2,h3,h4,h5,h6⟩;·exact .inl h
 ·exact .inr ⟨b,cs,h1,h2,by omega,by rw[k b h2 h3];exact h4,h5,fun j u hu=>(h6 j u hu).agr ⟨hn,fun i hi Ng=>k i hi.1 Ng⟩ fun _ _ h=>h⟩
theorem OP.blk{nh:Nat}{H:AH}{xv:Value}{l:List RT}(h:OP nh H xv l){b:Nat}(hb:XV xv=some b):nh<=b/\b<H.n:=by
 rcases h with⟨rfl,_⟩|⟨b',cs,rfl,h2,h3,_⟩;·cases hb
 ·cases hb;exact⟨h2,h3⟩
section
attribute [-simp] Int.natCast_add Int.natCast_mul Int.natCast_ediv Int.natCast_emod Int.natCast_pow
attribute [local simp] strip Zt YR LR gW ZZ ZO Zk ZN Zv ZM Ze Zf Zb Zw ZT Zs ZI Zi Zx Zc Za ZJ ZK Yo Zn ZS Yd ZC Zu plain Zq Tr.get_set ZA Zd Z5 Zl sameKind undef Zh Zy ZR ZU Zm parts Xd DW ZL Zg LX Zo
theorem DI(a b c:Bool):(a||b||c)=(a||(b||c)):=Bool.or_assoc ..
end
section
attribute [-simp] Int.natCast_add Int.natCast_mul Int.natCast_ediv Int.natCast_emod Int.natCast_pow
attribute [local simp] strip Zt YR LR gW ZZ ZO Zk ZN Zv ZM Ze Zf Zb Zw ZT Zs Zx Zc ZS Za Yd ZC Zu plain Zq Tr.get_set ZA Zd Z5 Zl sameKind undef Zh Zy ZR ZU ZD Yq Zm parts Yv Xd DW ZL Zg LX Zo
section
variable {H : AH} {va vb : Value} {xs ys : List Nat}
end
end
theorem OB(B:Nat): ∀(xs:List Nat)(i y:Nat)(h:i<xs.length),dv B (xs.set i y)+B^i*xs[i]=dv B xs+B^i*y
 |x::xs,0,y,_=>by simp[dv];omega
 |x::xs,i+1,y,h=>by
  have h':i<xs.length:=by simpa using h
  have ih:=OB B xs i y h';simp only[List.set_cons_succ,dv,List.getElem_cons_succ,Nat.pow_succ];have e:B*(dv B (xs.set i y)+B^i*xs[i])=B*(dv B xs+B^i*y):=by rw[ih]
  rw[Nat.mul_add,Nat.mul_add]at e;rw[Nat.mul_comm (B^i) B,Nat.mul_assoc,Nat.mul_assoc];omega
theorem Y7.set{B:Nat}{xs:List Nat}(h:Y7 B xs){i y:Nat}(hy:y<B):Y7 B (xs.set i y):=fun x hx=>by
 rcases List.mem_or_eq_of_mem_set hx with h'|h';·exact h x h'
 ·rw[h'];exact hy
theorem MZ{xs:List Nat}{i j y:Nat}(h:i≠j):nth (xs.set i y) j=nth xs j:=by unfold nth;rw[List.getElem?_set,if_neg h]
theorem Yl.copy{n:Nat}{H:AH}{v w:Value}{zs xs:List Nat}(h:Yl n H v zs)(hw:Sl H w xs)(hl:xs.length<=zs.length){t t2:TypeId}(ht:LT t)(K4:LT t2): ∃u H',copyV Tryz.prog H t t2 v w=some (u,H')/\Yl n H' v (xs++zs.drop xs.length)/\TS (XV v) H H'/\KA n H H':=by
 have hc:YB H 1 w xs.length=some (xs.map XP):=by
  rcases Nat.eq_zero_or_pos xs.length with h0|h0;·obtain rfl:xs=[]:=List.length_eq_zero_iff.mp h0;generalize hz:([]:List Nat)=ys at hw;cases hw with|nil=>rfl|emp b=>rfl|mk b o cap xs h1 h2=>subst hz;obtain⟨_,cs,h3,h4,h5⟩:=h2;have:Nat.ble o cs.length=true:=Nat.ble_eq.mpr h5.2;simp[YB,AH.read_def,h3,this]
  ·exact hw.cells h0
 obtain⟨a2,D8,rfl⟩: ∃a cap,w= .slice a xs.length cap:=by cases hw<;>exact⟨_,_,rfl⟩
 cases h with
  |nil=>obtain rfl:xs=[]:=List.length_eq_zero_iff.mp (by simpa using hl);refine⟨.int .i64 0,H,?_,by simpa using Yl.nil,.refl _ _,.refl _ _⟩;simp[copyV,ht.2,K4.2]
  |mk b o cap zs cs h1 h2 h3 h4 h5 h6=>
   have CE:Nat.min xs.length zs.length=xs.length:=Nat.min_eq_left hl;have hle:Nat.ble (o+xs.length) cs.length=true:=Nat.ble_eq.mpr (by omega);have GW:H.write b o (xs.map XP)=some { n:=H.n,lw:=min H.lw b,t:=H.t.set b (.rw 1 (cs.take o++xs.map XP++cs.drop (o+xs.length))) } :=by rw[AH.write_def,h4];simp only[List.length_map,hle,Lw,Bool.and_self,cond_true]
   obtain⟨H',Du⟩: ∃H':AH,H'= { n:=H.n,lw:=min H.lw b,t:=H.t.set b (.rw 1 (cs.take o++xs.map XP++cs.drop (o+xs.length))) } :=⟨_,rfl⟩;rw[<-Du]at GW;have Y0: ∀j,H'.blk j=if j=b then .rw 1 (cs.take o++xs.map XP++cs.drop (o+xs.length))else H.blk j:=fun j=>by
    rw[Du];show(match(H.t.set b _).get j with|some b=>b|none=>VA.dead)=_;rw[Tr.get_set];by_cases e:j=b;·rw[if_pos e,if_pos e]
    ·rw[if_neg e,if_neg e];rfl
   have hn:H'.n=H.n:=by rw[Du]
   refine⟨.int .i64 (Nat.min xs.length zs.length),H',?_,?_,⟨hn,fun j _ hj=>?_⟩,?_⟩;·unfold copyV;simp only[ht.2,K4.2,CE,hc,GW]
   ·have hlen:(xs++zs.drop xs.length).length=zs.length:=by simp;omega
    rw[<-hlen];refine .mk b o cap _ (cs.take o++xs.map XP++cs.drop (o+xs.length)) (by omega) h2 (by rw[hn];exact h3) (by rw[Y0,if_pos rfl]) ?_ ?_;·simp only[List.length_append,List.length_take,List.length_drop,List.length_map];omega
    ·intro i x hi;rw[List.append_assoc,List.getElem?_append_right (by rw[List.length_take];omega),List.length_take,show o+i-min o cs.length=i by omega];rw[List.getElem?_append]at hi;rw[List.getElem?_append,List.length_map];by_cases AP:i<xs.length;·rw[if_pos AP]at hi⊢;rw[List.getElem?_map,hi];rfl
     ·rw[if_neg AP]at hi⊢;rw[List.getElem?_drop]at hi⊢;have:=h6 _ x hi;rw[show o+xs.length+(i-xs.length)=o+(xs.length+(i-xs.length)) by omega];exact this
   ·rw[Y0,if_neg (fun e=>hj (by rw[e];rfl))]
   ·intro H0 k Vs;have:=k.lw;refine⟨by rw[hn];exact k.n,by rw[Du];show min H0.lw H0.n<=min H.lw b;omega,fun j hj=>?_⟩;rw[Y0,if_neg (by omega)];exact k.blk j hj
theorem Yl.loadAt{n:Nat}{H:AH}{v:Value}{L zs:List Nat}{i:Nat}(h:Yl n H v (L++zs.drop i))(hL:L.length=i)(hi:i<zs.length):Yk Tryz.prog H 82 (adr v i)=some (.int .u64 (nth zs i:Int)):=by have:=h.sl.load (i:=i) (by simp;omega);rw[this,WZ hi];congr 3;rw[List.getElem_append_right (by omega)];simp[hL]
section
attribute [-simp] Int.natCast_add Int.natCast_mul Int.natCast_ediv Int.natCast_emod Int.natCast_pow
attribute [local simp] strip Zt YR LR gW ZZ ZO Zk ZN Zv ZM Ze Zf Zb Zw ZT Zs Zx Zc ZS Za Yd ZC Zu plain Zq Tr.get_set ZA Zd Z5 Zl sameKind undef Zh Zy ZR ZU ZD Yq Zm parts Yv Xd DW ZL Zg LX Zo
section
variable {H : AH} {va vb : Value} {xs ys : List Nat}
theorem MB{B:Nat}(hB:0<B)(n:Nat):Y7 B (List.replicate n 0):=fun x hx=>by rw[List.eq_of_mem_replicate hx];exact hB
end
section
variable {H : AH} {va vb : Value} {xs ys : List Nat}
end
section
variable {H : AH} {va vb : Value} {xs ys : List Nat}
end
end
theorem NW{x y o c:Nat}(hx:x<ZV)(hy:y<ZV)(ho:o<ZV)(hc:c<ZV):x*y<ZB/\x*y+o<ZB/\x*y+o+c<ZB/\(x*y+o+c)/4294967296<ZV/\(x*y+o+c)%4294967296+ZV*((x*y+o+c)/4294967296)=o+x*y+c:=by have hx:x<4294967296:=hx;have hy:y<4294967296:=hy;have ho:o<4294967296:=ho;have hc:c<4294967296:=hc;have hp:x*y<=4294967295*4294967295:=Nat.mul_le_mul (by omega) (by omega);show x*y<18446744073709551616/\x*y+o<18446744073709551616/\x*y+o+c<18446744073709551616/\(x*y+o+c)/4294967296<4294967296/\(x*y+o+c)%4294967296+4294967296*((x*y+o+c)/4294967296)=o+x*y+c;generalize x*y=p at*;omega
section
attribute [-simp] Int.natCast_add Int.natCast_mul Int.natCast_ediv Int.natCast_emod Int.natCast_pow
attribute [local simp] strip Zt YR LR gW ZZ ZO Zk ZN Zv ZM Ze Zf Zb Zw ZT Zs Zx Zc ZS Za Yd ZC Zu plain Zq Tr.get_set ZA Zd Z5 Zl sameKind undef Zh Zy ZR ZU ZD Yq Zm parts Yv Xd DW ZL Zg LX Zo
section
variable {H : AH} {va vb : Value}
theorem Ok{xs ys:List Nat}(ha:Sl H va xs)(hb:Sl H vb ys)(dx:Y7 ZV xs)(dy:Y7 ZV ys)(lx:xs.length<=8000000000000)(ly:ys.length<=8000000000000):CW Tryz.prog Yf 63 [va,vb] H fun v H'=>ZQ H H'/\Yl H.n H' v (ds ZV (dv ZV xs*dv ZV ys)):=by
 refine YH 65 Tryz.func63 ?_;have l1:=ha.len ZD;have l2:=hb.len ZD;obtain⟨la,hla⟩:=hid (xs.length);obtain⟨lb,hlb⟩:=hid (ys.length);rw[<-hla]at l1;rw[<-hlb]at l2;obtain⟨c0,H1,KM,k1,o1,n1⟩:=XO (H:=H) ZD (n:=la+lb+1) (by omega);have ad:Zj .add .i64 (la:Int) (lb:Int)=some (.int .i64 ((la+lb:Nat):Int)):=Vu (by omega);apply ZX;intro b1 ZH;simp;subst ZH;apply ZX;intro b1 ZH;simp[l1,l2,ad,Y4 (x:=la+lb) (by omega),KM];subst ZH;apply Zz;intro b1 ZH;apply ZX;intro b2 Yy;simp[l1];subst Yy;apply Z2;refine Y8 (fun m s'=>s'.k=65/\ZQ H s'.H/\ ∃(i:Nat) (O:List Nat),m+i=la/\O.length=la+lb+1/\Y7 ZV O/\(∀j,i+lb<=j->nth O j=0)/\dv ZV O=dv ZV (xs.take i)*dv ZV ys/\Yl H.n s'.H c0 O/\s'.tm.get 1=some vb/\s'.tm.get 5=some c0/\s'.tm.get 19=some va/\s'.tm.get 20=some (.int .i64 (la:Int))/\s'.tm.get 21=some (.int .i64 (i:Int))) ?_ la _ ⟨rfl,k1,0,List.replicate (la+lb+1) 0,by omega,by simp,MB (by decide) _,fun j _=>by
  by_cases hj:j<(List.replicate (la+lb+1) 0).length;·rw[WZ hj];simp
  ·exact Un (by omega),by simp[dv,SB],o1,by simp,by simp,by simp,by simp,by simp⟩;rintro m ⟨k,tm,H2⟩ ⟨hk,kH,i,O,LB,hO,dO,hz,heq,own,t1,t5,t19,t20,t21⟩ Q' WC;simp only at hk kH own t1 t5 t19 t20 t21;subst hk;apply ZX;intro b3 YC;simp[t20,t21];subst YC;apply Zz;intro b3 YC;by_cases hi:i<la
 ·refine Zp (t:=true) (by simp[hi]) ?_;apply ZE;subst YC;have UU:i<xs.length:=by omega
  have sa:=ha.keep kH;have a1:=sa.adr ZD (k:= .i64) UU;have d1:=sa.load UU;obtain⟨x,hx⟩:=hid (xs[i]);have hxB:x<ZV:=by rw[hx];exact dx.get (List.getElem?_eq_getElem UU)
  rw[<-hx]at d1;apply Zz;intro b3 YC;apply Z2;apply ZX;intro b4 YZ;simp[t19,t21,a1,d1];subst YZ;apply ZX;intro b4 YZ;simp;subst YZ;refine SW (fun s'=>s'.k=65/\ZQ H s'.H/\ ∃(c:Nat) (O2:List Nat),c<ZV/\O2.length=la+lb+1/\Y7 ZV O2/\(∀j,i+lb<=j->nth O2 j=0)/\dv ZV O2+ZV^(i+lb)*c=dv ZV O+ZV^i*(x*dv ZV ys)/\Yl H.n s'.H c0 O2/\s'.tm.get 1=some vb/\s'.tm.get 5=some c0/\s'.tm.get 6=some (.int .i64 (i:Int))/\s'.tm.get 8=some (.int .u64 (c:Int))/\s'.tm.get 19=some va/\s'.tm.get 20=some (.int .i64 (la:Int))/\s'.tm.get 21=some (.int .i64 (i:Int))) ?_ ?_
  ·intro Ae O6;apply ZX;intro b4 YZ;simp[t1,l2];subst YZ;apply Z2;refine Y8 (fun m s'=>s'.k=65/\ZQ H s'.H/\ ∃(j c:Nat) (O2:List Nat),m+j=lb/\c<ZV/\O2.length=la+lb+1/\Y7 ZV O2/\(∀j,i+lb<=j->nth O2 j=0)/\dv ZV O2+ZV^(i+j)*c=dv ZV O+ZV^i*(x*dv ZV (ys.take j))/\Yl H.n s'.H c0 O2/\s'.tm.get 1=some vb/\s'.tm.get 5=some c0/\s'.tm.get 6=some (.int .i64 (i:Int))/\s'.tm.get 7=some (.int .u64 (x:Int))/\s'.tm.get 8=some (.int .u64 (c:Int))/\s'.tm.get 19=some va/\s'.tm.get 20=some (.int .i64 (la:Int))/\s'.tm.get 21=some (.int .i64 (i:Int))/\s'.tm.get 26=some vb/\s'.tm.get 27=some (.int .i64 (lb:Int))/\s'.tm.get 28=some (.int .i64 (j:Int))) ?_ lb _ ⟨rfl,kH,0,0,O,by omega,by decide,hO,dO,hz,by simp[dv],own,by simp[t1],by simp[t5],by simp,by simp,by simp,by simp[t19],by simp[t20],by simp[t21],by simp[t1],by simp,by simp⟩;clear t1 t5 t19 t20 t21;rintro m2 ⟨k,tm,H3⟩ ⟨hk,JH,j,c,O2,hmj,hc,Dx,FI,K7,Ij,Q7,t1,t5,t6,t7,t8,t19,t20,t21,t26,t27,t28⟩ Q5 Ff;simp only at hk JH Q7 t1 t5 t6 t7 t8 t19 t20 t21 t26 t27 t28;subst hk;apply ZX;intro b5 Pg;simp[t27,t28];subst Pg;apply Zz;intro b5 Pg;by_cases hj:j<lb
   ·refine Zp (t:=true) (by simp[hj]) ?_;apply ZE;subst Pg;have Ik:j<ys.length:=by omega
    have A8:=hb.keep JH;have a2:=A8.adr ZD (k:= .i64) Ik;have d2:=A8.load Ik;obtain⟨y,hy⟩:=hid (ys[j]);have hyB:y<ZV:=by rw[hy];exact dy.get (List.getElem?_eq_getElem Ik)
    rw[<-hy]at d2;have LF:i+j<O2.length:=by omega
    have a3:=Q7.sl.adr ZD (k:= .i64) LF;have d3:=Q7.sl.load LF;obtain⟨o,ho⟩:=hid (O2[i+j]);have hoB:o<ZV:=by rw[ho];exact FI.get (List.getElem?_eq_getElem LF)
    rw[<-ho]at d3;obtain⟨st0,B0,Di,HN,Dj⟩:=NW hxB hyB hoB hc;have e1:Zj .mul .u64 (x:Int) (y:Int)=some (.int .u64 ((x*y:Nat):Int)):=by rw[Wz,Nat.mod_eq_of_lt st0]
    have e2:Zj .add .u64 ((x*y:Nat):Int) (o:Int)=some (.int .u64 ((x*y+o:Nat):Int)):=Xm B0;have e3:Zj .add .u64 ((x*y+o:Nat):Int) (c:Int)=some (.int .u64 ((x*y+o+c:Nat):Int)):=Xm Di;obtain⟨v,hv⟩:=hid (x*y+o+c);rw[<-hv]at e3 Di HN Dj;have e6:Zj .add .i64 (i:Int) (j:Int)=some (.int .i64 ((i+j:Nat):Int)):=Vu (by omega);obtain⟨H4,IB,Tv,n4,Al,Iu⟩:=Q7.put (i:=i+j) LF (v%4294967296);apply Zz;intro b5 Pg;apply Z2;apply ZX;intro b6 Rc;simp[t26,t28,a2,d2];subst Rc;apply ZX;intro b6 Rc;simp[t5,t6,t7,t8,e6,a3,d3,e1,e2,e3];subst Rc;apply ZX;intro b6 Rc;simp[t5,t6,e6,a3,Om,IB];subst Rc;apply Zr;simp[Og Di];subst Pg;apply Zr;simp[t28,Y4 (x:=j) (by omega)];apply Ff;refine⟨m2-1,by omega,rfl,Iu H JH (Nat.le_refl _),j+1,v/4294967296,O2.set (i+j) (v%4294967296),by omega,HN,by simp[Dx],FI.set (Nat.mod_lt _ (by decide)),fun q hq=>by rw[MZ (by omega)];exact K7 q hq,?_,Tv,by simp[t1],by simp[t5],by simp[t6],by simp[t7],by simp,by simp[t19],by simp[t20],by simp[t21],by simp[t26],by simp[t27],by simp⟩;have ds:=OB ZV O2 (i+j) (v%4294967296) LF;rw[<-ho]at ds;rw[XA Ik,YW,List.length_take,Nat.min_eq_left (by omega),<-hy];simp only[dv,Nat.mul_zero,Nat.add_zero];generalize v/4294967296=cc at*;generalize v%4294967296=o' at*;have f1:ZV^(i+j)*(o'+ZV*cc)=ZV^(i+j)*(o+x*y+c):=by rw[Dj]
    rw[Nat.mul_add,<-Nat.mul_assoc (ZV^(i+j)) ZV,show ZV^(i+j)*ZV=ZV^(i+(j+1))from rfl,Nat.mul_add,Nat.mul_add]at f1;have f2:ZV^i*(x*(dv ZV (ys.take j)+ZV^j*y))=ZV^i*(x*dv ZV (ys.take j))+ZV^(i+j)*(x*y):=by rw[Nat.mul_add x,Nat.mul_add (ZV^i),Nat.pow_add,Nat.mul_left_comm x (ZV^j) y,Nat.mul_assoc (ZV^i)]
    rw[f2];omega
   ·refine Zp (t:=false) (by simp[hj]) ?_;apply YM;apply Ff;left;obtain rfl:j=lb:=by omega
    rw[List.take_of_length_le (by omega)]at Ij;exact⟨rfl,O6 _ ⟨rfl,JH,c,O2,hc,Dx,FI,K7,Ij,Q7,by simp[t1],by simp[t5],by simp[t6],by simp[t8],by simp[t19],by simp[t20],by simp[t21]⟩⟩
  clear t1 t5 t19 t20 t21;rintro⟨k,tm,H3⟩ ⟨hk,JH,c,O2,hc,Dx,FI,K7,Ij,Q7,t1,t5,t6,t8,t19,t20,t21⟩;simp only at hk JH Q7 t1 t5 t6 t8 t19 t20 t21;subst hk;have LF:i+lb<O2.length:=by omega
  have a3:=Q7.sl.adr ZD (k:= .i64) LF;have e6:Zj .add .i64 (i:Int) (lb:Int)=some (.int .i64 ((i+lb:Nat):Int)):=Vu (by omega);obtain⟨H4,IB,Tv,n4,Al,Iu⟩:=Q7.put (i:=i+lb) LF c;apply Zr;simp[t1,t5,t6,t8,l2,e6,a3,IB];subst YC;apply Zr;simp[t21,Y4 (x:=i) (by omega)];apply WC;refine⟨m-1,by omega,rfl,Iu H JH (Nat.le_refl _),i+1,O2.set (i+lb) c,by omega,by simp[Dx],FI.set hc,fun q hq=>by rw[MZ (by omega)];exact K7 q (by omega),?_,Tv,by simp[t1],by simp[t5],by simp[t19],by simp[t20],by simp⟩;have ds:=OB ZV O2 (i+lb) c LF;have h0:=K7 (i+lb) (Nat.le_refl _);rw[WZ LF]at h0;rw[h0,Nat.mul_zero,Nat.add_zero]at ds;rw[ds,Ij,heq,XA UU,YW,List.length_take,Nat.min_eq_left (by omega),<-hx,Nat.add_mul];simp only[dv,Nat.mul_zero,Nat.add_zero];rw[Nat.mul_assoc (ZV^i)]
 ·refine Zp (t:=false) (by simp[hi]) ?_;apply YM;apply WC;left;refine⟨rfl,?_⟩;obtain rfl:i=la:=by omega
  rw[List.take_of_length_le (by omega)]at heq;obtain⟨v5,H5,Lh,e5,o5,_⟩:=Xt own (by omega);subst e5;rw[XN two32 dO,heq]at o5;subst ZH;apply ZX;intro b4 YZ;simp[t5,Lh];subst YZ;apply Z8;simp;exact⟨kH,o5⟩
theorem U6{A B:Nat} :(ds ZV (A*B)).length<=(ds ZV A).length+(ds ZV B).length:=by have h1:=Mg two32 A;have h2:=Mg two32 B;refine YJ two32 ?_;rw[Nat.pow_add];exact Nat.mul_lt_mul'' h1 h2
theorem So{A B:Nat}(ha:Sl H va (ds ZV A))(hb:Sl H vb (ds ZV B))(lA:(ds ZV A).length<=2*Su)(lB:(ds ZV B).length<=2*Su): ∃v H',ZG Tryz.prog Yf 63 [va,vb] H=some (v,H')/\ZQ H H'/\Yl H.n H' v (ds ZV (A*B)):=by obtain⟨v,H',hc,k,o⟩:=Ok ha hb (Xo two32 A) (Xo two32 B) (Nat.le_trans lA (by decide)) (Nat.le_trans lB (by decide));rw[X4 two32,X4 two32]at o;exact⟨v,H',hc,k,o⟩
end
end
section
attribute [-simp] Int.natCast_add Int.natCast_mul Int.natCast_ediv Int.natCast_emod Int.natCast_pow
attribute [local simp] strip Zt YR LR gW ZZ ZO Zk ZN Zv ZM Ze Zf Zb Zw ZT Zs ZI Zi Zx Zc Za ZJ ZK Yo Zn ZS Yd ZC Zu plain Zq Tr.get_set ZA Zd Z5 Zl sameKind undef Zh Zy ZR ZU Zm parts Xd DW ZL Zg LX Zo
section
variable {H : AH} {va vb : Value} {xs ys : List Nat}
end
section
variable {H : AH} {va vb : Value} {xs ys : List Nat}
end
end
theorem Iy{x:Nat} :Zj .lss .i64 (x:Int) 0=some (.bool false):=by rw[BN,decide_eq_false (by omega)]
section
attribute [-simp] Int.natCast_add Int.natCast_mul Int.natCast_ediv Int.natCast_emod Int.natCast_pow
attribute [local simp] strip Zt YR LR gW ZZ ZO Zk ZN Zv ZM Ze Zf Zb Zw ZT Zs ZI Zi Zx Zc Za ZJ ZK Yo Zn ZS Yd ZC Zu plain Zq Tr.get_set ZA Zd Z5 Zl sameKind undef Zh Zy ZR ZU Zm parts Xd DW ZL Zg LX Zo
section
variable {H : AH} {va vb : Value} {xs ys : List Nat}
end
section
variable {H : AH} {va vb : Value} {xs ys : List Nat} {A B : Nat}
end
section
variable {H : AH} {va vb : Value} {xs ys : List Nat} {A B : Nat}
end
def DE(A r:Nat):Prop:=r*r<=A/\A<(r+1)*(r+1)
section
variable {H : AH} {va vb : Value} {xs ys : List Nat} {A B : Nat}
end
end
theorem E7(H:AH)(sz:Nat)(cs:List Value):(H.new sz cs).n=H.n+1:=rfl
theorem QX(H:AH)(a:List Value): ∃H',H.new 1 a=H'/\ZQ H H'/\H'.n=H.n+1/\H'.blk H.n= .rw 1 a:=⟨_,rfl,.new _ _ _,rfl,by rw[AH.blk_new,if_pos rfl]⟩
theorem Kg(H:AH)(a b:List Value): ∃H',(H.new 1 a).new 1 b=H'/\ZQ H H'/\H'.n=H.n+2/\H'.blk H.n= .rw 1 a/\H'.blk (H.n+1)= .rw 1 b:=by obtain⟨H1,e1,k1,n1,q1⟩:=QX H a;obtain⟨H2,e2,k2,n2,q2⟩:=QX H1 b;exact⟨H2,by rw[e1,e2],k1.trans k2,by omega,by rw[k2.blk _ (by omega)];exact q1,by rw[<-n1];exact q2⟩
theorem GD{H:AH}{t:TypeId}{n b:Nat}{cs ws:List Value}(ht:YE Tryz.prog t=some n)(hb:H.blk b= .rw 1 cs)(hc:cs.length=n){v:Value}(hv:v.cells.toList=ws)(hw:ws.length=n)(h1:ws.all one=true): ∃H',YP Tryz.prog H t (.pointer (some ⟨b,0,none⟩)) v=some H'/\H'.n=H.n/\H'.blk b= .rw 1 ws/\(∀j,j≠b->H'.blk j=H.blk j)/\LK b H H':=by obtain⟨H',st,q,n1,o,ka,_⟩:=TX (o:=0) ht hb hv hw (by omega) h1;refine⟨H',st,n1,?_,o,ka⟩;rw[q,List.take_zero,List.nil_append,List.drop_of_length_le (by omega),List.append_nil]
theorem HF:XT Tryz.prog 30=some true:=by kernel_rfl
theorem G5:YE Tryz.prog 30=some 2:=by kernel_rfl
theorem EB{H:AH}{b:Nat}{p q:Value}(hb:H.blk b= .rw 1 [p,q]):Yk Tryz.prog H 30 (.pointer (some ⟨b,0,none⟩))=some (.agg #[p,q]):=by unfold Yk;simp only[HF,G5,AH.read_def,hb];simp[AH.cells_rw' hb,show Nat.ble 2 2=true from rfl]
theorem GR{H:AH}{b:Nat}{p q:Value}(hb:H.blk b= .rw 1 [p,q]):Yk Tryz.prog H 4 (.pointer (some ⟨b,0,none⟩))=some p:=Vm Hg (AH.cells_rw' hb (by decide)) rfl
theorem Nw{H:AH}{b:Nat}{p q:Value}(hb:H.blk b= .rw 1 [p,q]):Yk Tryz.prog H 28 (.pointer (some ⟨b,1,none⟩))=some q:=Vm DA (AH.cells_rw' hb (by decide)) rfl
theorem Gd(b:Nat):Yp Tryz.prog 30 (.pointer (some ⟨b,0,none⟩)) 1=some (.pointer (some ⟨b,1,none⟩)):=FE b 0
theorem Yl.cells1{n:Nat}{H:AH}{v:Value}{xs:List Nat}(h:Yl n H v xs):v.cells=#[v]/\one v=true:=h.isSlice
section
attribute [-simp] Int.natCast_add Int.natCast_mul Int.natCast_ediv Int.natCast_emod Int.natCast_pow
attribute [local simp] strip Zt YR LR gW ZZ ZO Zk ZN Zv ZM Ze Zf Zb Zw ZT Zs ZI Zi Zx Zc Za ZJ ZK Yo Zn ZS Yd ZC Zu plain Zq Tr.get_set ZA Zd Z5 Zl sameKind undef Zh Zy ZR ZU Zm parts Xd DW ZL Zg LX Zo
section
variable {H : AH} {u va vb : Value} {xs ys : List Nat} {A B : Nat}
def sg(neg:Bool)(N:Nat):Bool:=neg&&decide (0<N)
end
end
theorem Yl.off{n b:Nat}{H H':AH}{w:Value}{xs:List Nat}(o:Yl n H w xs)(hb:b<n)(hn:H'.n=H.n)(h: ∀j,j≠b->H'.blk j=H.blk j):Yl n H' w xs:=o.but (b:=some b) ⟨hn,fun j _ hj=>h j (fun e=>hj (by rw[e]))⟩ (fun c hc hv=>by cases hc;have:=(o.blk_lo hv).1;omega)
section
attribute [-simp] Int.natCast_add Int.natCast_mul Int.natCast_ediv Int.natCast_emod Int.natCast_pow
attribute [local simp] strip Zt YR LR gW ZZ ZO Zk ZN Zv ZM Ze Zf Zb Zw ZT Zs ZI Zi Zx Zc Za ZJ ZK Yo Zn ZS Yd ZC Zu plain Zq Tr.get_set ZA Zd Z5 Zl sameKind undef Zh Zy ZR ZU Zm parts Xd DW ZL Zg LX Zo
section
variable {H : AH} {u v va vb : Value} {xs ys : List Nat} {A B : Nat}
def VB(neg:Bool)(N:Nat):Int:=if N=0 then 0 else if neg then-1 else 1
end
section
variable {H : AH} {u v va vb : Value} {xs ys : List Nat} {A B : Nat}
end
section
variable {H : AH} {u v va vb : Value} {xs ys : List Nat} {A B : Nat}
end
end
theorem Yl.trio{n:Nat}{H:AH}{v:Value}{xs:List Nat}(h:Yl n H v xs):v.cells=#[v]/\one v=true/\ ∃a l c,v= .slice a l c:=⟨h.cells1.1,h.cells1.2,h.shape⟩
section
attribute [-simp] Int.natCast_add Int.natCast_mul Int.natCast_ediv Int.natCast_emod Int.natCast_pow
attribute [local simp] strip Zt YR LR gW ZZ ZO Zk ZN Zv ZM Ze Zf Zb Zw ZT Zs ZI Zi Zx Zc Za ZJ ZK Yo Zn ZS Yd ZC Zu plain Zq Tr.get_set ZA Zd Z5 Zl sameKind undef Zh Zy ZR ZU Zm parts Xd DW ZL Zg LX Zo
section
variable {H : AH} {u v va vb : Value} {xs ys : List Nat} {A B : Nat}
def Kb(p q r:Value):Prop:=(∃b,p= .bool b)/\(∃a l c,q= .slice a l c)/\ ∃a l c,r= .slice a l c
end
section
variable {H : AH} {u v va vb : Value} {xs ys : List Nat} {A B : Nat}
def JF(m:Nat)(H H':AH):Prop:=H.n<=H'.n/\(∀j,j<H.n->H'.blk j=H.blk j)/\LK m H H'
end
end
theorem JF.own{m n:Nat}{H H':AH}(h:JF m H H'){v:Value}{xs:List Nat}(o:Yl n H v xs):Yl n H' v xs:=o.mod (b:=none) ⟨h.1,fun j hj _=>h.2.1 j hj⟩ (fun c hc=>by cases hc)
theorem JF.keep{m:Nat}{H0 H H':AH}(h:JF m H H')(k:ZQ H0 H)(hn:H0.n<=m):ZQ H0 H':=h.2.2 H0 k hn
section
attribute [-simp] Int.natCast_add Int.natCast_mul Int.natCast_ediv Int.natCast_emod Int.natCast_pow
attribute [local simp] strip Zt YR LR gW ZZ ZO Zk ZN Zv ZM Ze Zf Zb Zw ZT Zs ZI Zi Zx Zc Za ZJ ZK Yo Zn ZS Yd ZC Zu plain Zq Tr.get_set ZA Zd Z5 Zl sameKind undef Zh Zy ZR ZU Zm parts Xd DW ZL Zg LX Zo
attribute [local simp] Z4 Yn
section
variable {H : AH} {u v va vb : Value} {xs ys : List Nat} {A B : Nat}
end
end
section
attribute [-simp] Int.natCast_add Int.natCast_mul Int.natCast_ediv Int.natCast_emod Int.natCast_pow
attribute [local simp] strip Zt YR LR gW ZZ ZO Zk ZN Zv ZM Ze Zf Zb Zw ZT Zs ZI Zi Zx Zc Za ZJ ZK Yo Zn ZS Yd ZC Zu plain Zq Tr.get_set ZA Zd Z5 Zl sameKind undef Zh Zy ZR ZU Zm parts Xd DW ZL Zg LX Zo
section
variable {H : AH} {u v va vb : Value} {xs ys : List Nat} {A B : Nat}
end
end
section
attribute [-simp] Int.natCast_add Int.natCast_mul Int.natCast_ediv Int.natCast_emod Int.natCast_pow
attribute [local simp] strip Zt YR LR gW ZZ ZO Zk ZN Zv ZM Ze Zf Zb Zw ZT Zs ZI Zi Zx Zc Za ZJ ZK Yo Zn ZS Yd ZC Zu plain Zq Tr.get_set ZA Zd Z5 Zl sameKind undef Zh Zy ZR ZU Zm parts Xd DW ZL Zg LX Zo
attribute [local simp] Z4 Yn
section
variable {H : AH} {u v va vb : Value} {xs ys : List Nat} {A B : Nat}
end
section
variable {H : AH} {u v va vb : Value} {xs ys : List Nat} {A B : Nat}
theorem Sl.trio{H:AH}{s:Bool}{xs ys:List Nat}(ha:Sl H u xs)(hb:Sl H v ys):Kb (.bool s) u v:=⟨⟨s,rfl⟩,ha.shape,hb.shape⟩
end
section
variable {H : AH} {u v va vb : Value} {xs ys : List Nat} {A B : Nat}
end
end
theorem Ki(a b:Nat):WB a b= -1\/WB a b=0\/WB a b=1:=by
 unfold WB;split;·exact .inl rfl
 ·split;·exact .inr (.inr rfl)
  ·exact .inr (.inl rfl)
section
attribute [-simp] Int.natCast_add Int.natCast_mul Int.natCast_ediv Int.natCast_emod Int.natCast_pow
attribute [local simp] strip Zt YR LR gW ZZ ZO Zk ZN Zv ZM Ze Zf Zb Zw ZT Zs ZI Zi Zx Zc Za ZJ ZK Yo Zn ZS Yd ZC Zu plain Zq Tr.get_set ZA Zd Z5 Zl sameKind undef Zh Zy ZR ZU Zm parts Xd DW ZL Zg LX Zo
section
variable {H : AH} {u v va vb : Value} {xs ys : List Nat} {A B : Nat}
end
section
variable {H : AH} {u v va vb : Value} {xs ys : List Nat}
end
end
def Uv(base:Nat)(l:List Nat)(ms:List (Nat×Nat×Nat)):Prop:= ∀x∈ms,x.1∈l/\base<=x.2.1
theorem Uv.nil(base:Nat):Uv base [] []:=fun x hx=>by cases hx
theorem Uv.cons{base i a b:Nat}{l:List Nat}{ms:List (Nat×Nat×Nat)}(h:Uv base l ms)(ha:base<=a):Uv base (i::l) (cond (Nat.blt a b) ((i,a,b)::ms) ms):=fun x hx=>by cases hb:Nat.blt a b with
 |false=>rw[hb,cond_false]at hx;exact⟨List.mem_cons_of_mem _ (h x hx).1,(h x hx).2⟩
 |true=>
  rw[hb,cond_true]at hx;rcases List.mem_cons.mp hx with e|e;·rw[e];exact⟨List.mem_cons_self ..,ha⟩
  ·exact⟨List.mem_cons_of_mem _ (h x e).1,(h x e).2⟩
theorem Uv.hid{base:Nat}{l:List Nat}{ms:List (Nat×Nat×Nat)}(h:Uv base l ms){bits:Nat}(hb:l.all (fun i=>bits.testBit i)=true):hidden bits ms=[]:=VU fun x hx=>List.all_eq_true.mp hb _ (h x hx).1
theorem Uv.ge{base:Nat}{l:List Nat}{ms:List (Nat×Nat×Nat)}(h:Uv base l ms): ∀x∈ms,base<=x.2.1:=fun x hx=>(h x hx).2
section
variable {P : Program} {C : Ev.Cfg} {X : Ev.Xs} {ops : Array Oper} {k i : Nat} {q : Bool} {ms : List (Nat × Nat × Nat)} {tm : Tr Value} {H : AH} {K : Tr Value -> AH -> Prop}
theorem I7{o:Oper}{r:List Oper}{v:Value}(he:ZZ P C (ZG P C) tm H.top o.op=some (v,H.top))(h:match o.dst with|none=>DW X P C ops k (i+1) false [] r tm H K|some d=>d<k/\DW X P C ops k (i+1) false [] r (tm.set d v) H K)(hg:gW tm (ZL ops o)=some true:=by exact rfl)(hh:Zg o.op=true:=by exact rfl)(hf:X.fv i=none:=by first|rfl|kernel_rfl):DG X P C ops k i false [] (o::r) tm H K:=YG hg hh rfl (by rw[YD rfl];exact he) h hf
theorem SL{base:Nat}{l:List Nat}{o:Oper}{r:List Oper}{v:Value}{H2 J:AH}(M:Uv base l ms)(k2:ZQ H.top H2)(hJ:J=grown H H2)(he:ZZ P C (ZG P C) tm H.top o.op=some (v,H2))(h: ∀DK,Uv base (i::l) DK->match o.dst with|none=>DW X P C ops k (i+1) false DK r tm J K|some d=>d<k/\DW X P C ops k (i+1) false DK r (tm.set d v) J K)(hb:base<=H.n:=by omega)(hl:l.all (fun j=>((before ops).getD i 0).testBit j)=true:=by kernel_rfl)(hg:gW tm (ZL ops o)=some true:=by exact rfl)(hh:Zg o.op=true:=by exact rfl)(hf:X.fv i=none:=by first|rfl|kernel_rfl):DG X P C ops k i false ms (o::r) tm H K:=by subst hJ;exact X2 hg hh rfl (H2:=H2) (by rw[YD (M.hid hl)];exact he) k2.n (Wi k2) (h _ (M.cons hb)) hf
end
def PX(s:Bool)(A B:Nat)(t:Bool)(C D:Nat):Int:=if VB s A≠VB t C then(if VB s A<VB t C then-1 else 1)else VB s A*WB (A*D) (C*B)
theorem EA{x y:Int} :Zj .lss .i64 x y=some (.bool (decide (x<y))):=rfl
theorem NG(s:Bool)(A:Nat):VB s A= -1\/VB s A=0\/VB s A=1:=by
 unfold VB;split;·exact .inr (.inl rfl)
 ·split;·exact .inl rfl
  ·exact .inr (.inr rfl)
theorem E5{a c:Int}(ha:a= -1\/a=0\/a=1)(hc:c= -1\/c=0\/c=1):Zj .mul .i64 a c=some (.int .i64 (a*c)):=by rcases ha with rfl|rfl|rfl<;>rcases hc with rfl|rfl|rfl<;>rfl
section
attribute [-simp] Int.natCast_add Int.natCast_mul Int.natCast_ediv Int.natCast_emod Int.natCast_pow
attribute [local simp] strip Zt YR LR gW ZZ ZO Zk ZN Zv ZM Ze Zf Zb Zw ZT Zs ZI Zi Zx Zc Za ZJ ZK Yo Zn ZS Yd ZC Zu plain Zq Tr.get_set ZA Zd Z5 Zl sameKind undef Zh Zy ZR ZU Zm parts Xd DW ZL Zg LX Zo
attribute [local simp] Z4 Yn
section
variable {H : AH} {u v w z : Value}
end
end
section
attribute [-simp] Int.natCast_add Int.natCast_mul Int.natCast_ediv Int.natCast_emod Int.natCast_pow
attribute [local simp] strip Zt YR LR gW ZZ ZO Zk ZN Zv ZM Ze Zf Zb Zw ZT Zs ZI Zi Zx Zc Za ZJ ZK Yo Zn ZS Yd ZC Zu plain Zq Tr.get_set ZA Zd Z5 Zl sameKind undef Zh Zy ZR ZU Zm parts Xd DW ZL Zg LX Zo
section
variable {H : AH} {u v w z : Value}
end
section
variable {H : AH} {u v w z : Value}
end
section
variable {H : AH} {u v w z : Value}
end
end
theorem Tn{H:AH}{b:Nat}{p q r:Value}(hb:H.blk b= .rw 1 [p,q,r]):Yk Tryz.prog H 54 (.pointer (some ⟨b,0,none⟩))=some (.agg #[p,q,r]):=Nx (AH.cells_rw' hb (by decide)) rfl rfl
theorem GS{H:AH}{b:Nat}{p q r:Value}(hb:H.blk b= .rw 1 [p,q,r]):Yk Tryz.prog H 4 (.pointer (some ⟨b,0,none⟩))=some p:=Vm Hg (AH.cells_rw' hb (by decide)) rfl
theorem Nv{H:AH}{b:Nat}{p q r:Value}(hb:H.blk b= .rw 1 [p,q,r]):Yk Tryz.prog H 48 (.pointer (some ⟨b,1,none⟩))=some q:=Vm FQ (AH.cells_rw' hb (by decide)) rfl
theorem Jg{H:AH}{b:Nat}{p q r:Value}(hb:H.blk b= .rw 1 [p,q,r]):Yk Tryz.prog H 48 (.pointer (some ⟨b,2,none⟩))=some r:=Vm FQ (AH.cells_rw' hb (by decide)) rfl
theorem Cg(b:Nat):Yp Tryz.prog 54 (.pointer (some ⟨b,0,none⟩)) 0=some (.pointer (some ⟨b,0,none⟩)):=by kernel_rfl
theorem Gc(b:Nat):Yp Tryz.prog 54 (.pointer (some ⟨b,0,none⟩)) 1=some (.pointer (some ⟨b,1,none⟩)):=feN b 0
theorem FB(b:Nat):Yp Tryz.prog 54 (.pointer (some ⟨b,0,none⟩)) 2=some (.pointer (some ⟨b,2,none⟩)):=feD b 0
theorem BB{H:AH}{b:Nat}{p' q' r' p q r:Value}(hb:H.blk b= .rw 1 [p',q',r'])(ht:Kb p q r): ∃H',YP Tryz.prog H 54 (.pointer (some ⟨b,0,none⟩)) (.agg #[p,q,r])=some H'/\H'.n=H.n/\H'.blk b= .rw 1 [p,q,r]/\(∀j,j≠b->H'.blk j=H.blk j)/\LK b H H':=by obtain⟨⟨s,rfl⟩,⟨a1,l1,c1,rfl⟩,⟨a2,l2,c2,rfl⟩⟩:=ht;exact GD sR hb rfl rfl rfl rfl
section
attribute [-simp] Int.natCast_add Int.natCast_mul Int.natCast_ediv Int.natCast_emod Int.natCast_pow
attribute [local simp] strip Zt YR LR gW ZZ ZO Zk ZN Zv ZM Ze Zf Zb Zw ZT Zs ZI Zi Zx Zc Za ZJ ZK Yo Zn ZS Yd ZC Zu plain Zq Tr.get_set ZA Zd Z5 Zl sameKind undef Zh Zy ZR ZU Zm parts Xd DW ZL Zg LX Zo
section
variable {H : AH} {u v w z : Value}
theorem WY(s:Bool){N:Nat}(ha:Sl H u (ds ZV N))(v:Value): ∃H',ZG Tryz.prog Yf 61 [.agg #[.bool s,u,v]] H=some (.int .i64 (VB s N),H')/\ZQ H H':=by
 suffices h:CW Tryz.prog Yf 61 [.agg #[.bool s,u,v]] H fun r H'=>r= .int .i64 (VB s N)/\ZQ H H' by obtain⟨v,H',hc,rfl,k⟩:=h;exact⟨H',hc,k⟩
 obtain⟨S,hS⟩:=hid (VB s N);rw[<-hS];unfold VB at hS;obtain⟨H2,e2,k2,n2,q1⟩:=QX H [.bool s,u,v];have c3:=T3 (ha.keep k2);refine YH 8 Tryz.func61 ?_;apply ZX;intro b1 ZH;simp[Value.cells,e2];subst ZH;apply Zz;intro b1 ZH;apply ZX;intro b2 Yy;simp[Gc,Nv q1,c3];subst Yy;by_cases h0:N=0;·rw[if_pos h0]at hS;subst hS;refine Zp (t:=true) (by simp[h0]) ?_;apply ZX;intro b2 Yy;simp;subst Yy;apply Z8;simp[WA];exact k2
 ·rw[if_neg h0]at hS;refine Zp (t:=false) (by simp[h0]) ?_;apply ZE;subst ZH;apply Zz;intro b1 ZH;apply ZX;intro b2 Yy;simp[Cg,GS q1];subst Yy;cases s with|true=>rw[if_pos rfl]at hS;subst hS;refine Zp (t:=true) (by simp) ?_;apply ZX;intro b2 Yy;simp;subst Yy;apply Z8;simp[WA];exact k2|false=>rw[if_neg (by decide)]at hS;subst hS;refine Zp (t:=false) (by simp) ?_;apply ZE;subst ZH;apply ZX;intro b1 ZH;simp;subst ZH;apply Z8;simp;exact k2
end
end
theorem D3{p q:Value}(hp: ∃a l c,p= .slice a l c)(hq: ∃a l c,q= .slice a l c):V1 Tryz.prog 54 [(1,p),(2,q)]=some (.agg #[.bool false,p,q]):=by obtain⟨a,l,c,rfl⟩:=hp;obtain⟨a',l',c',rfl⟩:=hq;rfl
section
attribute [-simp] Int.natCast_add Int.natCast_mul Int.natCast_ediv Int.natCast_emod Int.natCast_pow
attribute [local simp] strip Zt YR LR gW ZZ ZO Zk ZN Zv ZM Ze Zf Zb Zw ZT Zs ZI Zi Zx Zc Za ZJ ZK Yo Zn ZS Yd ZC Zu plain Zq Tr.get_set ZA Zd Z5 Zl sameKind undef Zh Zy ZR ZU Zm parts Xd DW ZL Zg LX Zo
section
variable {H : AH} {u v w z : Value}
end
end
theorem Pn.mono{n m:Nat}{H H':AH}{us:List Value}{r:Bool×Nat×Nat}(o:Pn n H us r)(h:m<=n)(k:ZQ H H'):Pn m H' us r:=by obtain⟨a,b,rfl,o1,o2⟩:=o;exact⟨a,b,rfl,o1.mono h k,o2.mono h k⟩
section
attribute [-simp] Int.natCast_add Int.natCast_mul Int.natCast_ediv Int.natCast_emod Int.natCast_pow
attribute [local simp] strip Zt YR LR gW ZZ ZO Zk ZN Zv ZM Ze Zf Zb Zw ZT Zs ZI Zi Zx Zc Za ZJ ZK Yo Zn ZS Yd ZC Zu plain Zq Tr.get_set ZA Zd Z5 Zl sameKind undef Zh Zy ZR ZU Zm parts Xd DW ZL Zg LX Zo
section
variable {H : AH} {u v w z : Value}
theorem Pn.m{n:Nat}{H H':AH}{us:List Value}{r:Bool×Nat×Nat}(o:Pn n H us r)(k:ZQ H H'):Pn n H' us r:=o.mono Nat.le.refl k
end
section
variable {H : AH} {u v w z : Value}
end
end
end
end Go.Proofs.YtjboehpfojpimaaGreatDoor
