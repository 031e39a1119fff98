/-
  The engine and the walks that the claim's last text leans on, part 4 of 5: Nm, Nr, EvS, Ns, Nt, Nu, Nv, Nw, Nx, Oa, Ob, Oc, Od, Oe, Of, Og, Ta, Tb, Tc, Td, Te, Ref, Rt, Make, Rc, Rd, Re, Rf, Rg, Oh, Ok, Pa, Pb, Pc, Pd, Pe, Pf, Pg, Sa, Sb, Sc, Sd, Se, Sf, Sg, Sh, Si, Sj, Sk, Sl, Sm, Sn, So, Sp, Sq, Sr, Ss, St, Su, Sv, Sw, Sx, Sy, Sz, Ua.
-/
import Derived.Test.YtjboehpfojpimaaGreatDoorM3
namespace Go.Proofs.YtjboehpfojpimaaGreatDoor
open Go Ev
set_option linter.unusedVariables false
set_option linter.unusedSimpArgs false
noncomputable section
set_option maxHeartbeats 2000000
set_option maxRecDepth 20000
theorem FN{x:Nat} :Zj .eql .u64 (x:Int) 0=some (.bool (decide (x=0))):=Ma (y:=0)
theorem RP{n:Nat}(h:n<ZB):UZ Tryz.prog 3 127 (.int .i64 (n:Int))=some (.int .u64 (n:Int)):=by
 have h:n<18446744073709551616:=h;have e:IntKind.u64.wrap (n:Int)=(n:Int):=by rw[IntKind.wrap_u64];omega
 unfold UZ;simp only[Tryz.underlying3,Tryz.underlying127,e]
theorem Lw{U N1 N0 b B yn qh u2 ql r3:Nat}(e1:yn*qh+u2=U*b+N1)(e2:yn*ql+r3=u2*b+N0)(hB:B=b*b):U*B+(N1*b+N0)=yn*(qh*b+ql)+r3:=by
 subst hB;have e3:(yn*qh+u2)*b=(U*b+N1)*b:=by rw[e1]
 rw[Nat.add_mul,Nat.add_mul,Nat.mul_assoc,Nat.mul_assoc]at e3;rw[Nat.mul_add];omega
section
attribute [-simp] Int.natCast_add Int.natCast_mul Int.natCast_ediv Int.natCast_emod Int.natCast_pow
attribute [local simp] strip Zt YR gW ZZ ZO Zk ZN Zv ZM Ze Zf Zb Zw ZT Zs Zx Zc ZS Za Yd ZC Zu plain Zq Tr.get_set ZA Zd Z5 Zl sameKind undef Zh Zy ZR ZU ZD Yq Zm parts Yv
theorem OE{h l y:Nat}(hh:h<y)(hl:l<ZB)(hy:y<ZB){H:AH} :CW Tryz.prog Yg 156 [.int .u64 (h:Int),.int .u64 (l:Int),.int .u64 (y:Int)] H fun v H'=>H'=H/\v= .tuple #[.int .u64 (((h*ZB+l)/y:Nat):Int),.int .u64 (((h*ZB+l)%y:Nat):Int)]:=by
 refine YH 135 Tryz.func156 ?_;have y0:0<y:=by omega
 apply ZX;intro b1 ZH;simp;subst ZH;apply Zz;intro b1 ZH;apply ZX;intro b2 Yy;simp[FN];subst Yy;refine Zp (t:=false) (by simp;omega) ?_;apply ZE;subst ZH;apply Zz;intro b1 ZH;apply ZX;intro b2 Yy;simp[Mp];subst Yy;refine Zp (t:=false) (by simp;omega) ?_;apply ZE;subst ZH;apply Zz;intro b1 ZH;apply ZX;intro b2 Yy;simp[FN];subst Yy;by_cases h0:h=0;·subst h0;refine Zp (t:=true) (by simp) ?_;apply Zz;intro b2 Yy;apply Ug (by kernel_rfl);simp[SP hl y0,My (x:=l) y0];subst Yy;apply Z8;simp[WA]
 ·refine Zp (t:=false) (by simp;omega) ?_;apply ZE;subst ZH;obtain⟨v1,H1,OW,e1,e2⟩:=Iq (H:=H) hy;subst e1;subst e2;have Cr:Z6 y<=64:=by
   rcases Nat.lt_or_ge 64 (Z6 y)with h|h;·have a:=W1 (n:=y) (by omega);have b:2^64<=2^(Z6 y-1):=Nat.pow_le_pow_right (by decide) (by omega);have hy:y<18446744073709551616:=hy;omega
   ·exact h
  have hbl0:0<Z6 y:=by unfold Z6;rw[if_neg (by omega)];omega
  obtain⟨s,hs⟩:=hid (64-Z6 y);have Af:s<64:=by omega
  have es:(64-(Z6 y:Int))=(s:Int):=by omega
  rw[es]at OW;have ylt:y<2^(64-s):=by have:=UA y;rwa[show Z6 y=64-s by omega]at this
  have yge:2^(63-s)<=y:=by have:=W1 (n:=y) (by omega);rwa[show Z6 y-1=63-s by omega]at this
  apply ZX;intro b1 ZH;simp[OW,RP (n:=s) (Nat.lt_trans Af (by decide))];subst ZH;have eB:ZB=2^(64-s)*2^s:=by rw[<-Nat.pow_add,show 64-s+s=64 by omega]
  obtain⟨yn,Fj⟩:=hid (y*2^s);have NF:yn<ZB:=by rw[Fj,eB];exact Nat.mul_lt_mul_of_pos_right ylt (Nat.two_pow_pos s)
  have ynge:9223372036854775808<=yn:=by have:2^(63-s)*2^s<=y*2^s:=Nat.mul_le_mul_right _ yge;rw[<-Nat.pow_add,show 63-s+s=63 by omega,<-Fj]at this;exact this
  have Gj:l/2^(64-s)<2^s:=by rw[Nat.div_lt_iff_lt_mul (Nat.two_pow_pos _),<-Nat.pow_add,show s+(64-s)=64 by omega];exact hl
  obtain⟨u,hu⟩:=hid (h*2^s+l/2^(64-s));have hhs:h*2^s+2^s<=yn:=by rw[Fj,<-Nat.succ_mul];exact Nat.mul_le_mul_right _ hh
  have ult:u<yn:=by omega
  obtain⟨n,hn⟩:=hid (l*2^s%ZB);have AD:n<ZB:=by rw[hn];exact Nat.mod_lt _ (by decide)
  have total:(h*ZB+l)*2^s=u*ZB+n:=by have:=Nq (x:=l) Af;rw[<-hn]at this;rw[Nat.add_mul,this,hu,Nat.add_mul,Nat.mul_comm ZB (l/_),Nat.mul_assoc h,Nat.mul_comm ZB,<-Nat.mul_assoc];omega
  obtain⟨y1,hy1⟩:=hid (yn/4294967296);obtain⟨w0,EU⟩:=hid (yn%4294967296);have Dk:yn=y1*4294967296+w0:=by omega
  have A2:yn<18446744073709551616:=NF;have y1lo:2147483648<=y1:=by omega
  have NG:y1<4294967296:=by omega
  have Ly:w0<4294967296:=by omega
  obtain⟨n1,CK⟩:=hid (n/4294967296);obtain⟨n0,Vs⟩:=hid (n%4294967296);have nlt':n<18446744073709551616:=AD;have en:n=n1*4294967296+n0:=by omega
  have BP:n1<4294967296:=by omega
  have BQ:n0<4294967296:=by omega
  have B4:u<ZB:=Nat.lt_trans ult NF;have C3:=Nat.two_pow_pos s;have Ay:h*2^s<ZB:=by omega
  have hlB:l/2^(64-s)<ZB:=Nat.lt_of_le_of_lt (Nat.div_le_self _ _) hl;have f8:Yr .shl .u64 (y:Int) (s:Int)=some (.int .u64 (yn:Int)):=by rw[TZ (by omega),<-Fj,Nat.mod_eq_of_lt NF]
  have f9:Yr .shr .u64 (yn:Int) 32=some (.int .u64 (y1:Int)):=by rw[Jq,<-hy1]
  have f10:Zj .and .u64 (yn:Int) 4294967295=some (.int .u64 (w0:Int)):=by rw[Pr NF,<-EU]
  have D4:Yr .shl .u64 (h:Int) (s:Int)=some (.int .u64 ((h*2^s:Nat):Int)):=by rw[TZ (by omega),Nat.mod_eq_of_lt Ay]
  have D5:Zj .sub .u64 64 (s:Int)=some (.int .u64 ((64-s:Nat):Int)):=Ut (x:=64) (by decide) (by omega);have D6:Yr .shr .u64 (l:Int) ((64-s:Nat):Int)=some (.int .u64 ((l/2^(64-s):Nat):Int)):=Pb (by omega);have D7:Zj .or .u64 ((h*2^s:Nat):Int) ((l/2^(64-s):Nat):Int)=some (.int .u64 (u:Int)):=by rw[GQ Ay hlB,GR Gj,<-hu]
  have f12:Yr .shl .u64 (l:Int) (s:Int)=some (.int .u64 (n:Int)):=by rw[TZ (by omega),<-hn]
  have f13:Yr .shr .u64 (n:Int) 32=some (.int .u64 (n1:Int)):=by rw[Jq,<-CK]
  have f14:Zj .and .u64 (n:Int) 4294967295=some (.int .u64 (n0:Int)):=by rw[Pr AD,<-Vs]
  have f15:Zj .quo .u64 (u:Int) (y1:Int)=some (.int .u64 ((u/y1:Nat):Int)):=SP B4 (by omega);have f16: ∀z:Nat,z<ZB->(Zj .mul .u64 ((z/y1:Nat):Int) (y1:Int)=some (.int .u64 ((z/y1*y1:Nat):Int))/\Zj .sub .u64 (z:Int) ((z/y1*y1:Nat):Int)=some (.int .u64 ((z%y1:Nat):Int))):=fun z hz=>by have a:=Nat.div_mul_le_self z y1;refine⟨by rw[Wz,Nat.mod_eq_of_lt (Nat.lt_of_le_of_lt a hz)],?_⟩;rw[Ut hz a];have:=Nat.div_add_mod z y1;rw[Nat.mul_comm]at this;rw[show z-z/y1*y1=z%y1 by omega]
  iterate 9 apply ZX;intro b hb;simp[f8,f9,f10,D4,D5,D6,D7,f12,f13,f14,f15,(f16 u B4).1,(f16 u B4).2];subst hb
  refine TR (fun s'=>s'.k=135/\s'.H=H1/\s'.tm.get 2=some (.int .u64 (yn:Int))/\s'.tm.get 8=some (.int .u64 (s:Int))/\s'.tm.get 9=some (.int .u64 (y1:Int))/\s'.tm.get 10=some (.int .u64 (w0:Int))/\s'.tm.get 11=some (.int .u64 (u:Int))/\s'.tm.get 13=some (.int .u64 (n1:Int))/\s'.tm.get 14=some (.int .u64 (n0:Int))/\ ∃q:Nat,q=(u*4294967296+n1)/(y1*4294967296+w0)/\q<4294967296/\s'.tm.get 15=some (.int .u64 (q:Int))) ?_ ?_
  ·apply Z1;refine Y8 (fun m s'=>s'.k=135/\s'.H=H1/\s'.tm.get 2=some (.int .u64 (yn:Int))/\s'.tm.get 8=some (.int .u64 (s:Int))/\s'.tm.get 9=some (.int .u64 (y1:Int))/\s'.tm.get 10=some (.int .u64 (w0:Int))/\s'.tm.get 11=some (.int .u64 (u:Int))/\s'.tm.get 13=some (.int .u64 (n1:Int))/\s'.tm.get 14=some (.int .u64 (n0:Int))/\ ∃r:Nat,HQ y1 w0 u n1 m r/\s'.tm.get 15=some (.int .u64 (m:Int))/\s'.tm.get 16=some (.int .u64 (r:Int))) ?_ (u/y1) _ ⟨rfl,rfl,by simp,by simp,by simp,by simp,by simp,by simp,by simp,_,R3 y1lo NG Ly (by rw[<-Dk];exact ult) BP,by simp,by simp⟩;rintro q ⟨k,tm,H2⟩ ⟨hk,hH,k2,k8,k9,Rl,RU,Rm,Rn,r,E,tq,tr⟩ Q' WC;simp only at hk hH k2 k8 k9 Rl RU Rm Rn tq tr;subst hk;subst hH;have C5:q<ZB:=Nat.lt_of_le_of_lt E.qhi (by decide);have hrB:=E.rhi;apply Zz;intro b3 YC;have qle:=E.qhi;have rB:4294967296*r<ZB:=by show _<18446744073709551616;omega
   have mB:(4294967296*r+n1)%ZB=4294967296*r+n1:=Nat.mod_eq_of_lt (by show _<18446744073709551616;omega);have key: ∀YI,W Tryz.prog Yg b3 ⟨135,YI,H2⟩ Q'->W Tryz.prog Yg b3 ⟨135,YI,H2⟩ Q':=fun _ h=>h;have down:Sw w0 n1 q r=true-> ∀YI,YI.get 2=some (.int .u64 (yn:Int))->YI.get 8=some (.int .u64 (s:Int))->YI.get 9=some (.int .u64 (y1:Int))->YI.get 10=some (.int .u64 (w0:Int))->YI.get 11=some (.int .u64 (u:Int))->YI.get 13=some (.int .u64 (n1:Int))->YI.get 14=some (.int .u64 (n0:Int))->YI.get 15=some (.int .u64 (q:Int))->YI.get 16=some (.int .u64 (r:Int))->W Tryz.prog Yg b3 ⟨135,YI,H2⟩ Q':=fun ht YI k2 k8 k9 Rl RU Rm Rn tq tr=>by
    obtain⟨q0,e1,FG,q1⟩:=E.down ht;have f1:Zj .sub .u64 (q:Int) 1=some (.int .u64 ((q-1:Nat):Int)):=Oq C5 q0;have f2:Zj .add .u64 (r:Int) (y1:Int)=some (.int .u64 ((r+y1:Nat):Int)):=by rw[Ww,Nat.mod_eq_of_lt (by show _<18446744073709551616;omega)]
    subst YC;apply Z1;apply ZX;intro b4 YZ;simp[tq,f1];subst YZ;apply ZX;intro b4 YZ;simp[tr,k9,f2];subst YZ;apply ZX;intro b4 YZ;simp[M3];subst YZ;by_cases hr:4294967296<=r+y1;·refine Zp (t:=true) (by simp[hr]) ?_;apply YM;right;refine⟨by decide,?_⟩;apply WC;left;have:=RA y1lo Ly E.uhi E.dhi e1 FG hr q1;exact⟨rfl,rfl,rfl,rfl,by simp[k2],by simp[k8],by simp[k9],by simp[Rl],by simp[RU],by simp[Rm],by simp[Rn],q-1,this.1,this.2,by simp⟩
    ·refine Zp (t:=false) (by simp[hr]) ?_;apply ZE;apply WC;exact⟨q-1,by omega,rfl,rfl,by simp[k2],by simp[k8],by simp[k9],by simp[Rl],by simp[RU],by simp[Rm],by simp[Rn],r+y1,⟨y1lo,NG,Ly,E.uhi,E.dhi,e1,FG,by omega,by omega⟩,by simp,by simp⟩
   apply ZX;intro b4 YZ;by_cases hq:4294967296<=q;·simp[tq,M3,hq];subst YZ;refine Zp (t:=true) (by simp) ?_;apply ZE;show W _ _ b3 _ _;exact down (by simp[Sw,hq]) _ (by simp[k2]) (by simp[k8]) (by simp[k9]) (by simp[Rl]) (by simp[RU]) (by simp[Rm]) (by simp[Rn]) (by simp[tq]) (by simp[tr])
   ·have C9:q*w0<ZB:=by have a:q*w0<=4294967295*w0:=Nat.mul_le_mul_right _ (by omega);show _<18446744073709551616;omega
    have g1:Zj .mul .u64 (q:Int) (w0:Int)=some (.int .u64 ((q*w0:Nat):Int)):=by rw[Wz,Nat.mod_eq_of_lt C9]
    have g2:Zj .mul .u64 4294967296 (r:Int)=some (.int .u64 ((4294967296*r:Nat):Int)):=by rw[mulL,Nat.mod_eq_of_lt rB]
    have g3:Zj .add .u64 ((4294967296*r:Nat):Int) (n1:Int)=some (.int .u64 ((4294967296*r+n1:Nat):Int)):=by rw[Ww,mB]
    simp[tq,M3,hq,tr,Rl,Rm,g1,g2,g3,VW];subst YZ;by_cases ht:4294967296*r+n1<q*w0;·refine Zp (t:=true) (by simp[ht]) ?_;apply ZE;show W _ _ b3 _ _;exact down (by simp[Sw,ht]) _ (by simp[k2]) (by simp[k8]) (by simp[k9]) (by simp[Rl]) (by simp[RU]) (by simp[Rm]) (by simp[Rn]) (by simp[tq]) (by simp[tr])
    ·refine Zp (t:=false) (by simp[ht]) ?_;apply YM;apply WC;left;have:=E.stop (by simp[Sw,ht];omega);exact⟨rfl,rfl,rfl,rfl,by simp[k2],by simp[k8],by simp[k9],by simp[Rl],by simp[RU],by simp[Rm],by simp[Rn],q,this.1,this.2,by simp[tq]⟩
  rintro⟨k,tm,H2⟩ ⟨hk,hH,k2,k8,k9,Rl,RU,Rm,Rn,qh,C6,hqlt,Nj⟩;simp only at hk hH k2 k8 k9 Rl RU Rm Rn Nj;subst hk;subst hH;have Oz:0<yn:=by omega
  obtain⟨u2,Ph⟩:=hid ((u*4294967296+n1)%yn);have De:u2<yn:=by rw[Ph];exact Nat.mod_lt _ Oz
  have BB:u2<ZB:=Nat.lt_trans De NF;rw[<-Dk]at C6;have Qc:=Ol (u:=u) (b:=4294967296) (d:=n1) (q:=qh) NF Oz C6;rw[<-Ph]at Qc;obtain⟨pa,AX⟩:=hid (u*4294967296%ZB);obtain⟨pb,AW⟩:=hid ((pa+n1)%ZB);obtain⟨pc,CC⟩:=hid (qh*yn%ZB);rw[<-AX,<-AW,<-CC]at Qc;have g21:Zj .mul .u64 (u:Int) 4294967296=some (.int .u64 (pa:Int)):=by rw[mulR,AX]
  have Cb:Zj .add .u64 (pa:Int) (n1:Int)=some (.int .u64 (pb:Int)):=by rw[Ww,AW]
  have Cc:Zj .mul .u64 (qh:Int) (yn:Int)=some (.int .u64 (pc:Int)):=by rw[Wz,CC]
  have Cd:Zj .sub .u64 (pb:Int) (pc:Int)=some (.int .u64 (u2:Int)):=by rw[Ow (by rw[CC];exact Nat.le_of_lt (Nat.mod_lt _ (by decide))),Qc]
  have g22:Zj .quo .u64 (u2:Int) (y1:Int)=some (.int .u64 ((u2/y1:Nat):Int)):=SP BB (by omega);apply ZX;intro b hb;simp[RU,Rm,Nj,k2,g21,Cb,Cc,Cd];subst hb;apply ZX;intro b hb;simp[k9,g22];subst hb;apply ZX;intro b hb;simp[k9,(f16 u2 BB).1,(f16 u2 BB).2];subst hb;refine TR (fun s'=>s'.k=135/\s'.H=H2/\s'.tm.get 2=some (.int .u64 (yn:Int))/\s'.tm.get 8=some (.int .u64 (s:Int))/\s'.tm.get 9=some (.int .u64 (y1:Int))/\s'.tm.get 10=some (.int .u64 (w0:Int))/\s'.tm.get 11=some (.int .u64 (u:Int))/\s'.tm.get 13=some (.int .u64 (n1:Int))/\s'.tm.get 14=some (.int .u64 (n0:Int))/\s'.tm.get 15=some (.int .u64 (qh:Int))/\s'.tm.get 17=some (.int .u64 (u2:Int))/\ ∃q:Nat,q=(u2*4294967296+n0)/(y1*4294967296+w0)/\q<4294967296/\s'.tm.get 18=some (.int .u64 (q:Int))) ?_ ?_
  ·apply Z1;refine Y8 (fun m s'=>s'.k=135/\s'.H=H2/\s'.tm.get 2=some (.int .u64 (yn:Int))/\s'.tm.get 8=some (.int .u64 (s:Int))/\s'.tm.get 9=some (.int .u64 (y1:Int))/\s'.tm.get 10=some (.int .u64 (w0:Int))/\s'.tm.get 11=some (.int .u64 (u:Int))/\s'.tm.get 13=some (.int .u64 (n1:Int))/\s'.tm.get 14=some (.int .u64 (n0:Int))/\s'.tm.get 15=some (.int .u64 (qh:Int))/\s'.tm.get 17=some (.int .u64 (u2:Int))/\ ∃r:Nat,HQ y1 w0 u2 n0 m r/\s'.tm.get 18=some (.int .u64 (m:Int))/\s'.tm.get 16=some (.int .u64 (r:Int))) ?_ (u2/y1) _ ⟨rfl,rfl,by simp[k2],by simp[k8],by simp[k9],by simp[Rl],by simp[RU],by simp[Rm],by simp[Rn],by simp[Nj],by simp,_,R3 y1lo NG Ly (by rw[<-Dk];exact De) BQ,by simp,by simp⟩;clear k2 k8 k9 Rl RU Rm Rn Nj;rintro q ⟨k,tm,H3⟩ ⟨hk,hH,k2,k8,k9,Rl,RU,Rm,Rn,Nj,JS,r,E,tq,tr⟩ Q' WC;simp only at hk hH k2 k8 k9 Rl RU Rm Rn Nj JS tq tr;subst hk;subst hH;have C5:q<ZB:=Nat.lt_of_le_of_lt E.qhi (by decide);have hrB:=E.rhi;apply Zz;intro b3 YC;have qle:=E.qhi;have rB:4294967296*r<ZB:=by show _<18446744073709551616;omega
   have mB:(4294967296*r+n0)%ZB=4294967296*r+n0:=Nat.mod_eq_of_lt (by show _<18446744073709551616;omega);have key: ∀YI,W Tryz.prog Yg b3 ⟨135,YI,H3⟩ Q'->W Tryz.prog Yg b3 ⟨135,YI,H3⟩ Q':=fun _ h=>h;have down:Sw w0 n0 q r=true-> ∀YI,YI.get 2=some (.int .u64 (yn:Int))->YI.get 8=some (.int .u64 (s:Int))->YI.get 9=some (.int .u64 (y1:Int))->YI.get 10=some (.int .u64 (w0:Int))->YI.get 11=some (.int .u64 (u:Int))->YI.get 13=some (.int .u64 (n1:Int))->YI.get 14=some (.int .u64 (n0:Int))->YI.get 15=some (.int .u64 (qh:Int))->YI.get 17=some (.int .u64 (u2:Int))->YI.get 18=some (.int .u64 (q:Int))->YI.get 16=some (.int .u64 (r:Int))->W Tryz.prog Yg b3 ⟨135,YI,H3⟩ Q':=fun ht YI k2 k8 k9 Rl RU Rm Rn Nj JS tq tr=>by
    obtain⟨q0,e1,FG,q1⟩:=E.down ht;have f1:Zj .sub .u64 (q:Int) 1=some (.int .u64 ((q-1:Nat):Int)):=Oq C5 q0;have f2:Zj .add .u64 (r:Int) (y1:Int)=some (.int .u64 ((r+y1:Nat):Int)):=by rw[Ww,Nat.mod_eq_of_lt (by show _<18446744073709551616;omega)]
    subst YC;apply Z1;apply ZX;intro b4 YZ;simp[tq,f1];subst YZ;apply ZX;intro b4 YZ;simp[tr,k9,f2];subst YZ;apply ZX;intro b4 YZ;simp[M3];subst YZ;by_cases hr:4294967296<=r+y1;·refine Zp (t:=true) (by simp[hr]) ?_;apply YM;right;refine⟨by decide,?_⟩;apply WC;left;have:=RA y1lo Ly E.uhi E.dhi e1 FG hr q1;exact⟨rfl,rfl,rfl,rfl,by simp[k2],by simp[k8],by simp[k9],by simp[Rl],by simp[RU],by simp[Rm],by simp[Rn],by simp[Nj],by simp[JS],q-1,this.1,this.2,by simp⟩
    ·refine Zp (t:=false) (by simp[hr]) ?_;apply ZE;apply WC;exact⟨q-1,by omega,rfl,rfl,by simp[k2],by simp[k8],by simp[k9],by simp[Rl],by simp[RU],by simp[Rm],by simp[Rn],by simp[Nj],by simp[JS],r+y1,⟨y1lo,NG,Ly,E.uhi,E.dhi,e1,FG,by omega,by omega⟩,by simp,by simp⟩
   apply ZX;intro b4 YZ;by_cases hq:4294967296<=q;·simp[tq,M3,hq];subst YZ;refine Zp (t:=true) (by simp) ?_;apply ZE;show W _ _ b3 _ _;exact down (by simp[Sw,hq]) _ (by simp[k2]) (by simp[k8]) (by simp[k9]) (by simp[Rl]) (by simp[RU]) (by simp[Rm]) (by simp[Rn]) (by simp[Nj]) (by simp[JS]) (by simp[tq]) (by simp[tr])
   ·have C9:q*w0<ZB:=by have a:q*w0<=4294967295*w0:=Nat.mul_le_mul_right _ (by omega);show _<18446744073709551616;omega
    have g1:Zj .mul .u64 (q:Int) (w0:Int)=some (.int .u64 ((q*w0:Nat):Int)):=by rw[Wz,Nat.mod_eq_of_lt C9]
    have g2:Zj .mul .u64 4294967296 (r:Int)=some (.int .u64 ((4294967296*r:Nat):Int)):=by rw[mulL,Nat.mod_eq_of_lt rB]
    have g3:Zj .add .u64 ((4294967296*r:Nat):Int) (n0:Int)=some (.int .u64 ((4294967296*r+n0:Nat):Int)):=by rw[Ww,mB]
    simp[tq,M3,hq,tr,Rl,Rn,g1,g2,g3,VW];subst YZ;by_cases ht:4294967296*r+n0<q*w0;·refine Zp (t:=true) (by simp[ht]) ?_;apply ZE;show W _ _ b3 _ _;exact down (by simp[Sw,ht]) _ (by simp[k2]) (by simp[k8]) (by simp[k9]) (by simp[Rl]) (by simp[RU]) (by simp[Rm]) (by simp[Rn]) (by simp[Nj]) (by simp[JS]) (by simp[tq]) (by simp[tr])
    ·refine Zp (t:=false) (by simp[ht]) ?_;apply YM;apply WC;left;have:=E.stop (by simp[Sw,ht];omega);exact⟨rfl,rfl,rfl,rfl,by simp[k2],by simp[k8],by simp[k9],by simp[Rl],by simp[RU],by simp[Rm],by simp[Rn],by simp[Nj],by simp[JS],q,this.1,this.2,by simp[tq]⟩
  rintro⟨k,tm,H3⟩ ⟨hk,hH,k2,k8,k9,Rl,RU,Rm,Rn,Nj,JS,ql,C7,AQ,AK⟩;simp only at hk hH k2 k8 k9 Rl RU Rm Rn Nj JS AK;subst hk;subst hH;rw[<-Dk]at C7;obtain⟨r3,Ba⟩:=hid ((u2*4294967296+n0)%yn);have E5:r3<yn:=by rw[Ba];exact Nat.mod_lt _ Oz
  have KO:=Ol (u:=u2) (b:=4294967296) (d:=n0) (q:=ql) NF Oz C7;obtain⟨pd,Ey⟩:=hid (u2*4294967296%ZB);obtain⟨pe,AV⟩:=hid ((pd+n0)%ZB);obtain⟨pf,CA⟩:=hid (ql*yn%ZB);rw[<-Ba,<-Ey,<-AV,<-CA]at KO;have j1:Zj .mul .u64 (qh:Int) 4294967296=some (.int .u64 ((qh*4294967296:Nat):Int)):=by rw[mulR,Nat.mod_eq_of_lt (by show _<18446744073709551616;omega)]
  have j2:Zj .add .u64 ((qh*4294967296:Nat):Int) (ql:Int)=some (.int .u64 ((qh*4294967296+ql:Nat):Int)):=by rw[Ww,Nat.mod_eq_of_lt (by show _<18446744073709551616;omega)]
  have j3:Zj .mul .u64 (u2:Int) 4294967296=some (.int .u64 (pd:Int)):=by rw[mulR,Ey]
  have j4:Zj .add .u64 (pd:Int) (n0:Int)=some (.int .u64 (pe:Int)):=by rw[Ww,AV]
  have j5:Zj .mul .u64 (ql:Int) (yn:Int)=some (.int .u64 (pf:Int)):=by rw[Wz,CA]
  have j6:Zj .sub .u64 (pe:Int) (pf:Int)=some (.int .u64 (r3:Int)):=by rw[Ow (by rw[CA];exact Nat.le_of_lt (Nat.mod_lt _ (by decide))),KO]
  have j7:Yr .shr .u64 (r3:Int) (s:Int)=some (.int .u64 ((r3/2^s:Nat):Int)):=Pb (by omega);have all:(h*ZB+l)*2^s=yn*(qh*4294967296+ql)+r3:=by have e1:=Nat.div_add_mod (u*4294967296+n1) yn;rw[<-C6,<-Ph]at e1;have e2:=Nat.div_add_mod (u2*4294967296+n0) yn;rw[<-C7,<-Ba]at e2;rw[total,en];exact Lw e1 e2 (by decide)
  have C8:(h*ZB+l)/y=qh*4294967296+ql:=by rw[<-Nat.mul_div_mul_right _ _ (Nat.two_pow_pos s),all,<-Fj,Nat.add_comm,Nat.add_mul_div_left _ _ Oz,Nat.div_eq_of_lt E5,Nat.zero_add]
  have Bb:(h*ZB+l)%y=r3/2^s:=by
   have:(h*ZB+l)%y*2^s=r3:=by rw[<-Nat.mul_mod_mul_right,all,<-Fj,Nat.add_comm,Nat.add_mul_mod_self_left,Nat.mod_eq_of_lt E5]
   rw[<-this,Nat.mul_div_cancel _ (Nat.two_pow_pos s)]
  rw[C8,Bb];apply ZX;intro b hb;simp[k2,k8,Rn,Nj,JS,AK,j1,j2,j3,j4,j5,j6,j7];subst hb;apply Z8;simp
end
end
end Go.Proofs.YtjboehpfojpimaaGreatDoor
namespace Go.Proofs.YtjboehpfojpimaaGreatDoor
set_option linter.unusedVariables false
set_option maxHeartbeats 2000000
set_option maxRecDepth 20000
structure OY (B P V U y1 y0 v' u d u' : Nat) : Prop where
  hV : V = (y1 * B + y0) * P + v'
  hU : U = (u * B + d) * P + u'
  vlt : v' < P
  ult : u' < P
  d_lt : d < B
  y0lt : y0 < B
  y1pos : 0 < y1
section
variable {B P V U y1 y0 v' u d u' q r : Nat}
theorem OY.Ppos(T:OY B P V U y1 y0 v' u d u'):0<P:=Nat.lt_of_le_of_lt (Nat.zero_le _) T.vlt
theorem OY.Bpos(T:OY B P V U y1 y0 v' u d u'):0<B:=Nat.lt_of_le_of_lt (Nat.zero_le _) T.d_lt
theorem OY.Vge(T:OY B P V U y1 y0 v' u d u'):B*P<=V:=by rw[T.hV];have:B*P<=(y1*B+y0)*P:=Nat.mul_le_mul_right _ (by have:1*B<=y1*B:=Nat.mul_le_mul_right _ T.y1pos;omega);omega
theorem OY.Vpos(T:OY B P V U y1 y0 v' u d u'):0<V:=Nat.lt_of_lt_of_le (Nat.mul_pos T.Bpos T.Ppos) T.Vge
theorem OY.Ult(T:OY B P V U y1 y0 v' u d u'):U<(u*B+d+1)*P:=by rw[T.hU,Nat.succ_mul];have:=T.ult;omega
theorem OY.first(T:OY B P V U y1 y0 v' u d u'):U/V<=u/y1:=by
 rw[Nat.le_div_iff_mul_le T.y1pos];have h1:U/V*V<=U:=Nat.div_mul_le_self U V;have h2:U/V*(y1*B*P)<=U/V*V:=Nat.mul_le_mul_left _ (by rw[T.hV,Nat.add_mul];omega);have h3:=T.Ult;have h4:(u*B+d+1)*P<=((u+1)*B)*P:=Nat.mul_le_mul_right _ (by have:=T.d_lt;rw[Nat.succ_mul];omega);have h5:(U/V*y1)*(B*P)<(u+1)*(B*P):=by rw[Nat.mul_assoc]at h2 h4;rw[Nat.mul_assoc];omega
 have:=Nat.lt_of_mul_lt_mul_right h5;omega
theorem OY.true(T:OY B P V U y1 y0 v' u d u')(hq:q*y1+r=u)(ht:r*B+d<q*y0):U/V<q:=by rw[Nat.div_lt_iff_lt_mul T.Vpos];have h1:q*((y1*B+y0)*P)<=q*V:=Nat.mul_le_mul_left _ (by rw[T.hV];omega);have h2:(u*B+d+1)*P<=(q*(y1*B+y0))*P:=Nat.mul_le_mul_right _ (by rw[<-hq,Nat.add_mul,Nat.mul_add,Nat.mul_assoc];omega);have h3:=T.Ult;rw[Nat.mul_assoc]at h2;omega
theorem OY.false(T:OY B P V U y1 y0 v' u d u')(hq:q*y1+r=u)(Z3:q<B)(ht:q*y0<=r*B+d):q<=U/V+1:=by
 have h1:q*V<=q*((y1*B+y0)*P)+q*P:=by rw[<-Nat.mul_add];exact Nat.mul_le_mul_left _ (by rw[T.hV];have:=T.vlt;omega)
 have h2:(q*(y1*B+y0))*P<=(u*B+d)*P:=Nat.mul_le_mul_right _ (by rw[<-hq,Nat.add_mul,Nat.mul_add,Nat.mul_assoc];omega);rw[Nat.mul_assoc]at h2;have h3:q*P<B*P:=Nat.mul_lt_mul_of_pos_right Z3 T.Ppos;have h4:=T.Vge;have h5:q*V<U+V:=by have:=T.hU;omega
 have h6:q*V<(U/V+2)*V:=by have a:=Nat.div_add_mod U V;have b:=Nat.mod_lt U T.Vpos;rw[Nat.mul_comm]at a;rw[Nat.add_mul,Nat.two_mul];omega
 have:=Nat.lt_of_mul_lt_mul_right h6;omega
end
end Go.Proofs.YtjboehpfojpimaaGreatDoor
namespace Go.Proofs.YtjboehpfojpimaaGreatDoor.Ev
open Go Go.RowKit
set_option linter.unusedVariables false
set_option linter.unusedSimpArgs false
noncomputable section
set_option maxHeartbeats 2000000
set_option maxRecDepth 20000
def AH.top(H:AH):AH:= { n:=H.n,lw:=H.n,t:=H.t }
def LR(P:Program)(C:Cfg)(k:Nat):List GB->Tr Value->AH->(Tr Value->Prop)->Prop
 |[],tm,_,K=>K tm
 |o::r,tm,H,K=>match gW tm o.grd with
  |some true=>match ZZ P C (ZF P C) tm H o.op with
   |some (v,H')=>H'=H/\match o.dst with|none=>LR P C k r tm H K|some d=>d<k/\LR P C k r (tm.set d v) H K
   |none=>False
  |some false=>match o.dst with|none=>LR P C k r tm H K|some d=>d<k/\LR P C k r (tm.set d undef) H K
  |none=>False
section
variable {P : Program} {C : Cfg} {Q : Ex -> St -> Prop} {ops : Array Oper} {k : Nat}
theorem Qu: ∀(l:List Oper)(i:Nat)(tm:Tr Value)(H:AH)(K:Tr Value->Prop),LR P C k (Zt ops l) tm H.top K-> ∃YI,Yx (X0 ops) P C (ZF P C) ops i false [] l ⟨k,tm,H⟩=some ⟨k,YI,H⟩/\K YI
 |[],i,tm,H,K,h=>⟨tm,by simp only[Yx],h⟩
 |o::r,i,tm,H,K,h=>by
  simp only[Zt,LR]at h;simp only[Yx];rw[Kq];split at h
  ·rename_i hg;rw[hg];split at h
   ·rename_i v H1 Yj;obtain⟨e,h⟩:=h;subst e;obtain⟨RY,ZG,hl⟩:=VO (k:=k) (H:=H) (H1:=H) (K1:=fun tm=>LR P C k (Zt ops r) tm H.top K) h;obtain⟨YI,h1,h2⟩:=Qu r (i+1) RY H K hl;refine⟨YI,?_,h2⟩;have hd:YX (X0 ops) P C (ZF P C) ops i false [] ⟨k,tm,H⟩ o=some (v,H,false):=by unfold YX;cases hh:Zg o.op with|true=>rw[cond_true];simp only[X0,hidden,WL];have QI:ZZ P C (ZF P C) tm { n:=H.n,lw:=H.n,t:=H.t } o.op=some (v,{ n:=H.n,lw:=H.n,t:=H.t }):=Yj;rw[QI];have:Nat.ble H.n H.n=true:=Nat.ble_eq.mpr (Nat.le_refl _);simp only[this,cond_true,Bool.not_false,Bool.and_self,Nat.sub_self,TQ]|false=>rw[cond_false];rw[Vg hh Yj H]
    simp only[hd,ZG,U0,cond_false];exact h1
   ·exact h.elim
  ·rename_i hg;rw[hg];obtain⟨RY,ZG,hl⟩:=VO (k:=k) (H:=H) (H1:=H) (K1:=fun tm=>LR P C k (Zt ops r) tm H.top K) h;obtain⟨YI,h1,h2⟩:=Qu r (i+1) RY H K hl;refine⟨YI,?_,h2⟩;simp only[ZG];exact h1
  ·exact h.elim
theorem JM{id:Nat}{s:St}(hd:(!Xc ops&&XC ops&&!isSplit C ops)=true)(h:LR P C s.k (strip ops) s.tm s.H.top fun YI=>Q .norm ⟨s.k,YI,s.H⟩):W P C (.region id ops true) s Q:=by
 obtain⟨k,tm,H⟩:=s;obtain⟨YI,h1,h2⟩:=Qu _ 0 _ _ _ h;refine⟨.norm,⟨k,YI,H⟩,?_,h2⟩;rw[X6];simp only[YT];rw[XS]at h1;rw[Bool.and_eq_true,Bool.and_eq_true]at hd;have hm:Xc ops=false:=by simpa using hd.1.1
 have hs:isSplit C ops=false:=by simpa using hd.2
 have:Z0 P C (Z7 P C (VC P C)) ops true ⟨k,tm,H⟩=some ⟨k,YI,H⟩:=by unfold Z0 Xe;rw[hm,hs,hd.1.2];simp only[Bool.and_false,cond_false,cond_true];exact h1
 rw[this]
def low(H H2:AH):AH:= { n:=H2.n,lw:=min H.lw H2.lw,t:=H2.t }
def LX(P:Program)(C:Cfg)(k:Nat):List GB->Tr Value->AH->(Tr Value->AH->Prop)->Prop
 |[],tm,H,K=>K tm H
 |o::r,tm,H,K=>match gW tm o.grd with
  |some true=>match Zo o.op with
   |true=>match ZZ P C (ZF P C) tm H.top o.op with
    |some (v,H2)=>(H2.n=H.n/\H2.lw<H.n)/\match o.dst with|none=>LX P C k r tm (low H H2) K|some d=>d<k/\LX P C k r (tm.set d v) (low H H2) K
    |none=>False
   |false=>match ZZ P C (ZF P C) tm H.top o.op with
    |some (v,H2)=>H2=H.top/\match o.dst with|none=>LX P C k r tm H K|some d=>d<k/\LX P C k r (tm.set d v) H K
    |none=>False
  |some false=>match o.dst with|none=>LX P C k r tm H K|some d=>d<k/\LX P C k r (tm.set d undef) H K
  |none=>False
theorem SW(R:St->Prop){a b:Code}{s:St}(h1: ∀Q':Ex->St->Prop,(∀s',R s'->Q' .norm s')->W P C a s Q')(h2: ∀s',R s'->W P C b s' Q):W P C (.seq a b) s Q:=TR R (h1 _ fun s' h=>⟨rfl,h⟩) h2
end
end
end Go.Proofs.YtjboehpfojpimaaGreatDoor.Ev
namespace Go.Proofs.YtjboehpfojpimaaGreatDoor
open Go Ev
set_option linter.unusedVariables false
set_option linter.unusedSimpArgs false
noncomputable section
set_option maxHeartbeats 2000000
set_option maxRecDepth 20000
def XV:Value->Option Nat| .slice (some ⟨b,_,none⟩) _ _=>some b|_=>none
def LK(v w:Value):Prop:= ∀b,XV v=some b->XV w≠some b
structure TT (b : Option Nat) (H H' : AH) : Prop where
  n : H'.n = H.n
  blk : ∀ j, j < H.n -> b ≠ some j -> H'.blk j = H.blk j
theorem TT.refl(b:Option Nat)(H:AH):TT b H H:=⟨rfl,fun _ _ _=>rfl⟩
theorem TT.trans{b:Option Nat}{H H1 H2:AH}(x:TT b H H1)(y:TT b H1 H2):TT b H H2:=⟨y.n.trans x.n,fun j hn hj=>(y.blk j (by rw[x.n];exact hn) hj).trans (x.blk j hn hj)⟩
theorem At.but{b:Option Nat}{H H':AH}{c o:Nat}{xs:List Nat}(h:At H c o xs)(k:TT b H H')(hb:b≠some c):At H' c o xs:=by obtain⟨h1,cs,h2,h3,h4⟩:=h;have e:=k.blk c h1 hb;exact⟨by rw[k.n];exact h1,cs,by unfold AH.cells;rw[e];exact h2,by unfold AH.size;rw[e];exact h3,h4⟩
theorem Sl.but{b:Option Nat}{H H':AH}{v:Value}{xs:List Nat}(h:Sl H v xs)(k:TT b H H')(hb: ∀c,b=some c->XV v≠some c):Sl H' v xs:=by cases h with|nil=>exact .nil|emp b=>exact .emp b|mk c o cap xs h1 h2=>exact .mk c o cap xs h1 (h2.but k fun e=>hb c e rfl)
theorem Yl.but{b:Option Nat}{n0:Nat}{H H':AH}{v:Value}{xs:List Nat}(h:Yl n0 H v xs)(k:TT b H H')(hb: ∀c,b=some c->XV v≠some c):Yl n0 H' v xs:=by cases h with|nil=>exact .nil|mk c o cap xs cs h1 h2 h3 h4 h5 h6=>exact .mk c o cap xs cs h1 h2 (by rw[k.n];exact h3) (by rw[k.blk c h3 fun e=>hb c e rfl];exact h4) h5 h6
theorem Yl.blk_lo{n0:Nat}{H:AH}{v:Value}{xs:List Nat}(h:Yl n0 H v xs){b:Nat}(hb:XV v=some b):n0<=b/\b<H.n:=by cases h with|nil=>cases hb|mk c o cap xs cs h1 h2 h3 h4 h5 h6=>cases hb;exact⟨h2,h3⟩
theorem Sl.blk_lt{H:AH}{v:Value}{xs:List Nat}(h:Sl H v xs){b:Nat}(hb:XV v=some b):b<H.n:=by cases h with|nil=>cases hb|emp _=>cases hb|mk c o cap xs h1 h2=>cases hb;exact h2.1
theorem Yl.put{n:Nat}{H:AH}{v:Value}{xs:List Nat}(h:Yl n H v xs){i:Nat}(hi:i<xs.length)(y:Nat): ∃H',YP Tryz.prog H 82 (adr v i) (.int .u64 (y:Int))=some H'/\Yl n H' v (xs.set i y)/\H'.n=H.n/\(∀j,XV v≠some j->H'.blk j=H.blk j)/\ ∀H0,ZQ H0 H->H0.n<=n->ZQ H0 H':=by cases h with
 |nil=>cases hi
 |mk b o cap xs cs h1 h2 h3 h4 h5 h6=>
  have hlen:Nat.ble (o+i+1) cs.length=true:=Nat.ble_eq.mpr (by omega);have e0:(Value.int .u64 (y:Int)).cells=#[.int .u64 (y:Int)]:=rfl;have hw:H.write b (o+i) [.int .u64 (y:Int)]=some { n:=H.n,lw:=min H.lw b,t:=H.t.set b (.rw 1 (cs.take (o+i)++[.int .u64 (y:Int)]++cs.drop (o+i+1))) } :=by rw[AH.write_def,h4];simp only[List.length_singleton,hlen,Bool.true_and];rfl
  refine⟨{ n:=H.n,lw:=min H.lw b,t:=H.t.set b (.rw 1 (cs.take (o+i)++[.int .u64 (y:Int)]++cs.drop (o+i+1))) },?_,?_,rfl,?_,?_⟩;·unfold YP Go.Proofs.YtjboehpfojpimaaGreatDoor.adr;simp only[RH,e0];rw[show Nat.beq (#[Value.int .u64 (y:Int)]:Array Value).size 1=true from rfl,cond_true];exact hw
  ·have hl:(xs.set i y).length=xs.length:=List.length_set;rw[<-hl];refine .mk b o cap _ (cs.take (o+i)++[.int .u64 (y:Int)]++cs.drop (o+i+1)) (by omega) h2 h3 ?_ ?_ ?_;·unfold AH.blk;simp only[Tr.get_set,if_true]
   ·simp only[List.length_append,List.length_take,List.length_drop,List.length_singleton];omega
   ·intro j x hj;rw[List.getElem?_set]at hj;by_cases e:i=j;·subst e;rw[if_pos rfl,if_pos hi]at hj;cases hj;rw[List.append_assoc,List.getElem?_append_right (by rw[List.length_take];omega)];rw[List.length_take,show o+i-min (o+i) cs.length=0 by omega];rfl
    ·rw[if_neg e]at hj;have:=h6 j x hj;rcases Nat.lt_or_ge (o+j) (o+i)with Z3|Th;·rw[List.append_assoc,List.getElem?_append_left (by rw[List.length_take];omega),List.getElem?_take,if_pos Z3];exact this
     ·rw[List.getElem?_append_right (by simp only[List.length_append,List.length_take,List.length_singleton];omega),List.getElem?_drop];simp only[List.length_append,List.length_take,List.length_singleton];rw[show o+i+1+(o+j-(min (o+i) cs.length+1))=o+j by omega];exact this
  ·intro j hj;have:j≠b:=fun e=>hj (by rw[e];rfl);unfold AH.blk;simp only[Tr.get_set,if_neg this]
  ·intro H0 k hn;refine⟨k.n,?_,fun j hj=>?_⟩;·have:=k.lw;show min H0.lw H0.n<=min H.lw b;omega
   ·have:j≠b:=by omega
    rw[<-k.blk j hj];unfold AH.blk;simp only[Tr.get_set,if_neg this]
def View(w v:Value)(j m:Nat):Prop:= ∀(t:TypeId),LT t-> ∀(k:IntKind)(i:Nat),i<m->YS Tryz.prog t w (.int k (i:Int))=some (adr v (j+i))
theorem Sl.part{H:AH}{v:Value}{xs:List Nat}(h:Sl H v xs){t:TypeId}(ht:LT t){j m:Nat}(hm:j+m<=xs.length)(h0:0<m): ∃w,Wa Tryz.prog H t v (some (.int .i64 (j:Int))) (some (.int .i64 ((j+m:Nat):Int))) none=some w/\Sl H w ((xs.drop j).take m)/\View w v j m/\XV w=XV v:=by cases h with
 |nil=>simp at hm;omega
 |emp b=>simp at hm;omega
 |mk b o cap xs h1 h2=>
  have hl:((xs.drop j).take m).length=m:=by rw[List.length_take,List.length_drop];omega
  obtain⟨FE,cs,h3,h4,h5⟩:=h2;refine⟨.slice (some ⟨b,o+j,none⟩) ((xs.drop j).take m).length (cap-j),?_,.mk b (o+j) (cap-j) _ (by omega) ⟨FE,cs,h3,h4,fun i x hx=>?_,by have:=(List.getElem?_eq_some_iff.mp (h5.1 j _ (List.getElem?_eq_getElem (show j<xs.length by omega)))).1;omega⟩,?_,rfl⟩
  ·unfold Wa;simp only[ht.1,RH];unfold OH Yt;simp only[h4,Option.isSome_some,Option.isNone_none,Bool.true_or];rw[if_pos (by omega)];have e1:Nat.ble (j+m) cap=true:=Nat.ble_eq.mpr (by omega);have e2:Nat.blt j cap=true:=by rw[Nat.blt_eq];omega
   simp only[Yt,Int.toNat_natCast];rw[if_pos (by omega)];simp[e1,e2,hl]
  ·rw[List.getElem?_take]at hx;split at hx;·rw[List.getElem?_drop]at hx;have:=h5.1 (j+i) x hx;rwa[<-Nat.add_assoc]at this
   ·cases hx
  ·intro t ht k i hi;unfold YS Go.Proofs.YtjboehpfojpimaaGreatDoor.adr;simp only[ht.1,RH];rw[if_pos (by omega)];simp[Nat.add_assoc]
def KA(n0:Nat)(H H1:AH):Prop:= ∀H0,ZQ H0 H->H0.n<=n0->ZQ H0 H1
theorem KA.refl(n0:Nat)(H:AH):KA n0 H H:=fun _ k _=>k
theorem KA.trans{n0:Nat}{H H1 H2:AH}(a:KA n0 H H1)(b:KA n0 H1 H2):KA n0 H H2:=fun H0 k h=>b H0 (a H0 k h) h
theorem Ny{x y:Nat}(hx:x<ZB)(hy:y<ZB)(H:AH):ZF Tryz.prog Yg 161 [.int .u64 (x:Int),.int .u64 (y:Int)] H=some (.tuple #[.int .u64 ((x*y/ZB:Nat):Int),.int .u64 ((x*y%ZB:Nat):Int)],H):=by obtain⟨v,H',h,rfl,rfl⟩:=Nz hx hy (H:=H);exact h
theorem OG{h l y:Nat}(hh:h<y)(hl:l<ZB)(hy:y<ZB)(H:AH):ZF Tryz.prog Yg 156 [.int .u64 (h:Int),.int .u64 (l:Int),.int .u64 (y:Int)] H=some (.tuple #[.int .u64 (((h*ZB+l)/y:Nat):Int),.int .u64 (((h*ZB+l)%y:Nat):Int)],H):=by obtain⟨v,H',h,rfl,rfl⟩:=OE hh hl hy (H:=H);exact h
theorem Xm{x y:Nat}(h:x+y<ZB):Zj .add .u64 (x:Int) (y:Int)=some (.int .u64 ((x+y:Nat):Int)):=by rw[Ww,Nat.mod_eq_of_lt h]
section
attribute [-simp] Int.natCast_add Int.natCast_mul Int.natCast_ediv Int.natCast_emod Int.natCast_pow
attribute [local simp] strip Zt YR LR gW ZZ ZO Zk ZN Zv ZM Ze Zf Zb Zw ZT Zs Zx Zc ZS Za Yd ZC Zu plain Zq Tr.get_set ZA Zd Z5 Zl sameKind undef Zh Zy ZR ZU ZD Yq Zm parts Yv Xd
theorem JC{x B:Nat}(hB:0<B)(h:x/B=0):x<B:=by
 rcases Nat.lt_or_ge x B with h'|h';·exact h'
 ·have:=Nat.div_pos h' hB;omega
end
theorem ZQ.top{H0 H:AH}(k:ZQ H0 H):ZQ H0 H.top:=⟨k.n,by have:=k.n;show min H0.lw H0.n<=H.n;omega,k.blk⟩
theorem P1(H:AH):ZQ H H.top:=(ZQ.refl H).top
theorem Sl.top{H:AH}{v:Value}{xs:List Nat}(h:Sl H v xs):Sl H.top v xs:=h.keep (P1 H)
theorem Yl.top{n:Nat}{H:AH}{v:Value}{xs:List Nat}(h:Yl n H v xs):Yl n H.top v xs:=h.mono (Nat.le_refl _) (P1 H)
theorem YD{H:AH}{bits:Nat}{ms:List (Nat×Nat×Nat)}(h:hidden bits ms=[]):Pd H bits ms=H.top:=by unfold Pd;rw[h];rfl
theorem UC(t:Tr VA)(H2:AH)(n:Nat): ∀(k j:Nat),(TQ t H2 n k).get j=if n<=j/\j<n+k then some (H2.blk j)else t.get j
 |0,j=>by rw[if_neg (by omega)];rfl
 |k+1,j=>by
  simp only[TQ,Tr.get_set];by_cases e:j=n+k;·subst e;rw[if_pos rfl,if_pos (by omega)]
  ·rw[if_neg e,UC t H2 n k j];by_cases c:n<=j/\j<n+k;·rw[if_pos c,if_pos (by omega)]
   ·rw[if_neg c,if_neg (by omega)]
theorem Vj{H H2:AH}(k:ZQ H.top H2):TT none H2 (grown H H2):=by
 refine⟨rfl,fun j hj _=>?_⟩;unfold AH.blk grown;simp only[UC];by_cases c:H.n<=j;·have:=k.n;have:H.n<=H2.n:=this;rw[if_pos (by omega)];rfl
 ·rw[if_neg (by omega)];exact(k.blk j (by show j<H.n;omega)).symm
theorem Xb{H0 H H2:AH}(k0:ZQ H0 H)(k:ZQ H.top H2):ZQ H0 (grown H H2):=by
 refine⟨Nat.le_trans k0.n k.n,k0.lw,fun j hj=>?_⟩;have hn:=k0.n;have:j<H.n:=by omega
 unfold grown AH.blk;simp only[UC];rw[if_neg (by omega)];exact k0.blk j hj
theorem Wj{H H2:AH}(k:ZQ H.top H2):H.n<=H2.lw:=by have:=k.lw;have:min H.n H.n<=H2.lw:=this;omega
theorem TT.none{b:Option Nat}{H H' H2:AH}(k:TT b H H')(k2:TT none H' H2):TT b H H2:=⟨k2.n.trans k.n,fun j hn hj=>(k2.blk j (by rw[k.n];exact hn) (fun e=>by cases e)).trans (k.blk j hn hj)⟩
theorem Sl.same{H H':AH}{v:Value}{xs:List Nat}(h:Sl H v xs)(k:TT none H H'):Sl H' v xs:=h.but k fun c e=>by cases e
theorem Yl.same{n:Nat}{H H':AH}{v:Value}{xs:List Nat}(h:Yl n H v xs)(k:TT none H H'):Yl n H' v xs:=h.but k fun c e=>by cases e
theorem Yl.gr{H I J:AH}{v:Value}{xs:List Nat}(x:Yl H.top.n I v xs)(k:ZQ H.top I)(hJ:J=grown H I):Yl H.n J v xs:=by subst hJ;exact x.same (Vj k)
theorem cg{H I:AH}(k:ZQ H.top I): ∃J,J=grown H I/\ZQ H J/\H.n<=I.n:=⟨_,rfl,Xb (.refl _) k,k.n⟩
theorem TT.top{b:Option Nat}{H H':AH}(k:TT b H.top H'):TT b H H':=⟨k.n,k.blk⟩
theorem Qa(t:Tr VA): ∀(hs:List Nat)(j:Nat),j∉hs->(WL t hs).get j=t.get j|[],j,_=>rfl|i::r,j,h=>by simp only[WL,Tr.get_set];rw[if_neg (by intro e;subst e;exact h (List.mem_cons_self ..))];exact Qa t r j (fun h'=>h (List.mem_cons_of_mem _ h'))
theorem R9{n bits:Nat} : ∀{ms:List (Nat×Nat×Nat)},(∀x∈ms,n<=x.2.1)-> ∀i∈hidden bits ms,n<=i
 |[],_,i,h=>by cases h
 |(k,lo,hi)::r,hm,i,h=>by have ih:=R9 (bits:=bits) (ms:=r) (fun x hx=>hm x (List.mem_cons_of_mem _ hx)) i;have h0:n<=lo:=hm (k,lo,hi) (List.mem_cons_self ..);unfold hidden at h;cases hb:bits.testBit k with
  |true=>rw[hb,cond_true]at h;exact ih h
  |false=>
   rw[hb,cond_false]at h;rcases List.mem_append.mp h with h|h;·obtain⟨a,_,rfl⟩:=List.mem_map.mp h;omega
   ·exact ih h
theorem Uc{H0 H:AH}{bits:Nat}{ms:List (Nat×Nat×Nat)}(k:ZQ H0 H)(h: ∀x∈ms,H0.n<=x.2.1):ZQ H0 (Pd H bits ms):=by have k2:=k.top;refine⟨k2.n,k2.lw,fun j hj=>?_⟩;rw[<-k.blk j hj];unfold Pd AH.blk;simp only;rw[Qa];intro hm;have:=R9 h j hm;omega
section
attribute [-simp] Int.natCast_add Int.natCast_mul Int.natCast_ediv Int.natCast_emod Int.natCast_pow
attribute [local simp] strip Zt YR LR gW ZZ ZO Zk ZN Zv ZM Ze Zf Zb Zw ZT Zs Zx Zc ZS Za Yd ZC Zu plain Zq Tr.get_set ZA Zd Z5 Zl sameKind undef Zh Zy ZR ZU ZD Yq Zm parts Yv Xd DW ZL Zg LX Zo
theorem MS{n m:Nat}{H H':AH}{v w:Value}{xs ys:List Nat}(a:Yl n H v xs)(b:Yl m H' w ys)(h:H.n<=m):LK v w:=fun c hc Hi=>by have:=(a.blk_lo hc).2;have:=(b.blk_lo Hi).1;omega
theorem BV{a:Int} :Zj .lss .i64 a 0=some (.bool (decide (a<0))):=rfl
end
theorem VU{bits:Nat} : ∀{ms:List (Nat×Nat×Nat)},(∀x∈ms,bits.testBit x.1=true)->hidden bits ms=[]|[],_=>rfl|(k,lo,hi)::r,h=>by have h1:bits.testBit k=true:=h (k,lo,hi) (List.mem_cons_self ..);unfold hidden;rw[h1,cond_true];exact VU fun x hx=>h x (List.mem_cons_of_mem _ hx)
section
attribute [-simp] Int.natCast_add Int.natCast_mul Int.natCast_ediv Int.natCast_emod Int.natCast_pow
attribute [local simp] strip Zt YR LR gW ZZ ZO Zk ZN Zv ZM Ze Zf Zb Zw ZT Zs Zx Zc ZS Za Yd ZC Zu plain Zq Tr.get_set ZA Zd Z5 Zl sameKind undef Zh Zy ZR ZU ZD Yq Zm parts Yv Xd DW ZL Zg LX Zo
end
structure Mod (b : Option Nat) (H H' : AH) : Prop where
  n : H.n <= H'.n
  blk : ∀ j, j < H.n -> b ≠ some j -> H'.blk j = H.blk j
theorem Mod.refl(b:Option Nat)(H:AH):Mod b H H:=⟨Nat.le_refl _,fun _ _ _=>rfl⟩
theorem Mod.trans{b:Option Nat}{H H1 H2:AH}(x:Mod b H H1)(y:Mod b H1 H2):Mod b H H2:=⟨Nat.le_trans x.n y.n,fun j hn hj=>(y.blk j (Nat.lt_of_lt_of_le hn x.n) hj).trans (x.blk j hn hj)⟩
theorem ZQ.mod{H H':AH}(k:ZQ H H'):Mod none H H':=⟨k.n,fun j hj _=>k.blk j hj⟩
theorem TT.mod{b:Option Nat}{H H':AH}(k:TT b H H'):Mod b H H':=⟨Nat.le_of_eq k.n.symm,k.blk⟩
theorem Mod.any{b:Option Nat}{H H':AH}(k:Mod none H H'):Mod b H H':=⟨k.n,fun j hj _=>k.blk j hj (fun e=>by cases e)⟩
theorem Sl.mod{b:Option Nat}{H H':AH}{v:Value}{xs:List Nat}(h:Sl H v xs)(k:Mod b H H')(hb: ∀c,b=some c->XV v≠some c):Sl H' v xs:=by cases h with|nil=>exact .nil|emp b=>exact .emp b|mk c o cap xs h1 h2=>obtain⟨h3,cs,h4,h5,h6⟩:=h2;have e:=k.blk c h3 fun e=>hb c e rfl;exact .mk c o cap xs h1 ⟨Nat.lt_of_lt_of_le h3 k.n,cs,by unfold AH.cells;rw[e];exact h4,by unfold AH.size;rw[e];exact h5,h6⟩
theorem Yl.mod{b:Option Nat}{n0:Nat}{H H':AH}{v:Value}{xs:List Nat}(h:Yl n0 H v xs)(k:Mod b H H')(hb: ∀c,b=some c->XV v≠some c):Yl n0 H' v xs:=by cases h with|nil=>exact .nil|mk c o cap xs cs h1 h2 h3 h4 h5 h6=>exact .mk c o cap xs cs h1 h2 (Nat.lt_of_lt_of_le h3 k.n) (by rw[k.blk c h3 fun e=>hb c e rfl];exact h4) h5 h6
theorem AH.blk_kill(H:AH)(i j:Nat):(H.kill i).blk j=if j=i then .dead else H.blk j:=by
 unfold AH.kill AH.blk;simp only[Tr.get_set];by_cases e:j=i;·rw[if_pos e,if_pos e]
 ·rw[if_neg e,if_neg e]
theorem Ln(xs:List Nat):(xs.map XP).all one=true:=by rw[List.all_eq_true];intro v hv;obtain⟨x,_,rfl⟩:=List.mem_map.mp hv;rfl
theorem Yl.append{n0:Nat}{H:AH}{v w:Value}{xs ys:List Nat}(h:Yl n0 H v xs)(hn:n0<=H.n)(hw:Sl H w ys)(hl:xs.length+ys.length<=17592186044416){t t2:TypeId}(ht:LT t)(KJ:LT t2): ∃v' H',Y9 Tryz.prog H t t2 v w=some (v',H')/\Yl n0 H' v' (xs++ys)/\Mod (XV v) H H'/\KA n0 H H':=by
 by_cases h0:ys.length=0
 ·obtain rfl:ys=[]:=List.length_eq_zero_iff.mp h0;refine⟨v,H,?_,by simpa using h,.refl _ _,.refl _ _⟩;have hv: ∃a l c,v= .slice a l c:=by cases h<;>exact⟨_,_,_,rfl⟩
  obtain⟨a,l,c,rfl⟩:=hv;have hwv: ∃a c,w= .slice a 0 c:=by generalize hz:([]:List Nat)=zs at hw;cases hw with|nil=>exact⟨_,_,rfl⟩|emp b=>exact⟨_,_,rfl⟩|mk b o cap xs h1 h2=>subst hz;exact⟨_,_,rfl⟩
  obtain⟨a2,c2,rfl⟩:=hwv;simp[Y9,ht.2,KJ.2]
 ·have hc:=hw.cells (by omega);obtain⟨a2,D0,rfl⟩: ∃a cap,w= .slice a ys.length cap:=by cases hw<;>exact⟨_,_,rfl⟩
  have e1:Nat.beq ys.length 0=false:=Yf h0;cases h with
   |nil=>
    refine⟨.slice (some ⟨H.n,0,none⟩) ys.length ys.length,H.new 1 (ys.map XP),?_,?_,(ZQ.new H 1 _).mod,?_⟩;·have e2:Nat.ble (ys.length*8) 140737488355328=true:=Nat.ble_eq.mpr (by simp at hl;omega);have e3:Nat.ble ys.length 281474976710656=true:=Nat.ble_eq.mpr (by simp at hl;omega);simp[Y9,ht.2,KJ.2,e1,e2,e3,hc,ND,Value.cells]
    ·have:=Yl.new H ys;simp only[List.nil_append];exact this.mono hn (.refl _)
    ·intro H0 k _;exact k.trans (ZQ.new H 1 _)
   |mk b o cap xs cs h1 h2 h3 h4 h5 h6=>
    have e2:Nat.ble ((xs.length+ys.length)*8) 140737488355328=true:=Nat.ble_eq.mpr (by omega);have e3:Nat.ble (xs.length+ys.length) 281474976710656=true:=Nat.ble_eq.mpr (by omega);have e4:Nat.ble (o+xs.length) cs.length=true:=Nat.ble_eq.mpr (by omega);have e5:(cs.drop o).take xs.length=xs.map XP:=by
     rcases Nat.eq_zero_or_pos xs.length with h|h;·have:xs=[]:=List.length_eq_zero_iff.mp h;subst this;simp
     ·exact(Mq h h6).2
    have eH:(H.kill b).n=H.n:=rfl;refine⟨.slice (some ⟨H.n,0,none⟩) (xs++ys).length (xs++ys).length,(H.kill b).new 1 ((xs++ys).map XP),?_,?_,?_,?_⟩
    ·have e6:Nat.beq 1 1=true:=rfl;have e7:ys.all (one∘XP)=true:=by rw[List.all_eq_true];intro x _;rfl
     simp[Y9,ht.2,KJ.2,e1,e2,e3,e4,e5,hc,ND,Value.cells,h4,e7]
    ·refine .mk H.n 0 _ _ ((xs++ys).map XP) (Nat.le_refl _) hn ?_ ?_ (by simp) (fun i x h=>by rw[Nat.zero_add,List.getElem?_map,h];rfl);·show H.n<H.n+1;omega
     ·rw[AH.blk_new,if_pos eH.symm]
    ·refine⟨by show H.n<=H.n+1;omega,fun j hj hb=>?_⟩;rw[AH.blk_new,if_neg (by rw[eH];omega),AH.blk_kill,if_neg (by intro e;subst e;exact hb rfl)]
    ·intro H0 k Vs;have:=k.n;refine⟨by show H0.n<=H.n+1;omega,?_,fun j hj=>?_⟩;·have:=k.lw;show min H0.lw H0.n<=min H.lw b;omega
     ·rw[AH.blk_new,if_neg (by rw[eH];omega),AH.blk_kill,if_neg (by omega)];exact k.blk j hj
theorem P6{H:AH}{t:TypeId}(ht:LT t){n:Nat}(hn:n<=17592186044416): ∃v H',Xr Tryz.prog H t (.int .i64 0) (.int .i64 (n:Int))=some (v,H')/\ZQ H H'/\Yl H.n H' v []:=by
 refine⟨.slice (some ⟨H.n,0,none⟩) 0 n,H.new 1 ((List.replicate n 0).map XP),?_,.new _ _ _,?_⟩;·unfold Xr;simp only[ht.2,ND];rw[if_pos (by omega)];simp only[Int.toNat_natCast,Nat.mul_one,RX];rfl
 ·exact .mk H.n 0 n [] ((List.replicate n 0).map XP) (Nat.zero_le _) (Nat.le_refl _) (Nat.lt_succ_self _) (by rw[AH.blk_new,if_pos rfl]) (by simp) (fun i x h=>by simp at h)
theorem UP(H:AH){t:TypeId}(ht:LT t)(x:Nat):Y6 Tryz.prog H t 1 [(0,.int .u64 (x:Int))]=some (.slice (some ⟨H.n,0,none⟩) 1 1,H.new 1 ([x].map XP)):=by unfold Y6;simp only[ht.2,ND];kernel_rfl
theorem OL(H:AH){t:TypeId}(ht:LT t)(x y:Nat):Y6 Tryz.prog H t 2 [(0,.int .u64 (x:Int)),(1,.int .u64 (y:Int))]=some (.slice (some ⟨H.n,0,none⟩) 2 2,H.new 1 ([x,y].map XP)):=by unfold Y6;simp only[ht.2,ND];kernel_rfl
def QR(v:Value)(m:Nat):Value:=match v with| .slice (some a) _ _=> .slice (some a) m m|v=>v
theorem Yl.cut3{n0:Nat}{H:AH}{v:Value}{xs:List Nat}(h:Yl n0 H v xs){t:TypeId}(ht:LT t){m:Nat}(hm:m<=xs.length):Wa Tryz.prog H t v none (some (.int .i64 (m:Int))) (some (.int .i64 (m:Int)))=some (QR v m)/\Yl n0 H (QR v m) (xs.take m)/\XV (QR v m)=XV v:=by cases h with
 |nil=>simp at hm;subst hm;refine⟨?_,.nil,rfl⟩;unfold Wa;simp only[ht.1,RH];rfl
 |mk b o cap xs cs h1 h2 h3 h4 h5 h6=>
  have hl:(xs.take m).length=m:=by rw[List.length_take];omega
  have Yz:H.size b=some 1:=by unfold AH.size;rw[h4]
  have ho:Yl n0 H (.slice (some ⟨b,o,none⟩) (xs.take m).length m) (xs.take m):= .mk b o m _ cs (by omega) h2 h3 h4 (by omega) fun i x hx=>h6 i x (by
   rw[List.getElem?_take]at hx;split at hx;·exact hx
   ·cases hx);rw[hl]at ho;refine⟨?_,ho,rfl⟩;unfold Wa;simp only[ht.1,RH];unfold OH Yt;simp only[Yz,Option.isSome_some,Option.isNone_none,Bool.true_or];rw[if_pos (by omega)];have e1:Nat.ble m m=true:=Nat.ble_eq.mpr (Nat.le_refl _);simp[Yt,e1,QR]
theorem two32:2<=ZV:=by decide
theorem Cg{k:IntKind}{x:Nat} :Zj .gtr k (x:Int) 0=some (.bool (decide (0<x))):=VW (y:=0)
theorem QO{k:IntKind}{x:Nat} :Zj .eql k (x:Int) 0=some (.bool (decide (x=0))):=Ma (y:=0)
theorem Ok{x:Nat} :Zj .rem .u64 (x:Int) 4294967296=some (.int .u64 ((x%4294967296:Nat):Int)):=My (y:=4294967296) (by decide)
theorem Oe{x:Nat}(hx:x<ZB):Zj .quo .u64 (x:Int) 4294967296=some (.int .u64 ((x/4294967296:Nat):Int)):=SP (y:=4294967296) hx (by decide)
theorem It{x y:Nat}(h:x*y<9223372036854775808):Zj .mul .i64 (x:Int) (y:Int)=some (.int .i64 ((x*y:Nat):Int)):=by
 show some (Value.int .i64 (IntKind.i64.wrap ((x:Int)*(y:Int))))=_;have e:IntKind.i64.wrap ((x:Int)*(y:Int))=((x*y:Nat):Int):=by rw[IntKind.wrap_i64,<-Int.natCast_mul];generalize x*y=z at*;omega
 rw[e]
theorem JD{x:Nat}(h:2*x<9223372036854775808):Zj .mul .i64 2 (x:Int)=some (.int .i64 ((2*x:Nat):Int)):=It (x:=2) h
theorem LB{x:Nat}(h:x<9223372036854775800):Zj .add .i64 (x:Int) 2=some (.int .i64 ((x+2:Nat):Int)):=Vu (y:=2) (by omega)
def W9:List Nat->List Nat|[]=>[]|x::xs=>x%ZV::x/ZV::W9 xs
theorem T9(x:Nat): ∀(xs:List Nat),W9 (xs++[x])=W9 xs++[x%ZV,x/ZV]|[]=>rfl|y::xs=>by simp[W9,T9 x xs]
theorem VV: ∀(xs:List Nat),(W9 xs).length=2*xs.length|[]=>rfl|x::xs=>by simp[W9,VV xs];omega
theorem TJ: ∀(xs:List Nat),dv ZV (W9 xs)=dv ZB xs|[]=>rfl|x::xs=>by simp only[W9,dv,TJ xs];have:=Nat.mod_add_div x 4294967296;show x%4294967296+4294967296*(x/4294967296+4294967296*dv ZB xs)=x+18446744073709551616*dv ZB xs;omega
theorem UL: ∀{xs:List Nat},Y7 ZB xs->Y7 ZV (W9 xs)|[],_=> .nil _|x::xs,h=>by have hx:x<18446744073709551616:=h.head;exact .cons (Nat.mod_lt _ (by decide)) (.cons (by show x/4294967296<4294967296;omega) (UL h.tail))
def Wn:List Nat->List Nat|[]=>[]|[x]=>[x]|x::y::r=>(x+y*ZV)::Wn r
theorem Jh(N:Nat):Wn (ds ZV N)=ds ZB N:=by induction N using Nat.strongRecOn with
 |_ N ih=>
  by_cases h0:N=0;·subst h0;rw[Y1,Y1];rfl
  ·rw[W7 two32 h0];by_cases h1:N/ZV=0
   ·have hN:N<4294967296:=by have:=JC (by decide) h1;exact this
    rw[h1,Y1,W7 Qr h0];have e1:N%ZV=N:=Nat.mod_eq_of_lt hN;have e2:N%ZB=N:=Nat.mod_eq_of_lt (Nat.lt_trans hN (by decide));have e3:N/ZB=0:=Nat.div_eq_of_lt (Nat.lt_trans hN (by decide));rw[e1,e2,e3,Y1];rfl
   ·rw[W7 two32 h1,W7 Qr h0];simp only[Wn];have e1:N/ZV/ZV=N/ZB:=by rw[Nat.div_div_eq_div_mul,show ZV*ZV=ZB by decide]
    have e2:N%ZV+N/ZV%ZV*ZV=N%ZB:=by show N%4294967296+N/4294967296%4294967296*4294967296=N%18446744073709551616;omega
    rw[e1,e2,ih _ (Nat.div_lt_self (by omega) (by decide))]
theorem NV{ys:List Nat}{i:Nat}(h:i<ys.length):Wn (ys.drop i)=(ys[i]+nth ys (i+1)*ZV)::Wn (ys.drop (i+2)):=by
 rw[List.drop_eq_getElem_cons h];by_cases h1:i+1<ys.length;·rw[List.drop_eq_getElem_cons h1,WZ h1];simp only[Wn]
 ·rw[List.drop_eq_nil_of_le (by omega),Un (by omega),List.drop_eq_nil_of_le (by omega)];simp[Wn]
theorem Qh: ∀(ys:List Nat),(Wn ys).length<=ys.length|[]=>Nat.le_refl _|[x]=>Nat.le_refl _|x::y::r=>by simp only[Wn,List.length_cons];have:=Qh r;omega
section
attribute [-simp] Int.natCast_add Int.natCast_mul Int.natCast_ediv Int.natCast_emod Int.natCast_pow
attribute [local simp] strip Zt YR LR gW ZZ ZO Zk ZN Zv ZM Ze Zf Zb Zw ZT Zs Zx Zc ZS Za Yd ZC Zu plain Zq Tr.get_set ZA Zd Z5 Zl sameKind undef Zh Zy ZR ZU ZD Yq Zm parts Yv Xd DW ZL Zg LX Zo
theorem Xt{n0:Nat}{H:AH}{v:Value}{xs:List Nat}(h:Yl n0 H v xs)(hlen:xs.length<1152921504606846976):CW Tryz.prog Yg 86 [v] H fun v' H'=>H'=H/\Yl n0 H v' (ZP xs)/\XV v'=XV v:=by
 refine YH 22 Tryz.func86 ?_;have l0:=h.sl.len ZD;apply ZX;intro b1 ZH;simp;subst ZH;apply ZX;intro b1 ZH;simp[l0];subst ZH;apply Zz;intro b1 ZH;apply Z1;refine Y8 (fun n s=>s.k=22/\s.H=H/\n<=xs.length/\ZP (xs.take n)=ZP xs/\s.tm.get 0=some v/\s.tm.get 3=some (.int .i64 (n:Int))) ?_ xs.length _ ⟨rfl,rfl,Nat.le_refl _,by rw[List.take_length],by simp,by simp⟩;rintro n ⟨k,tm,H'⟩ ⟨hk,hH,hn,ht,t0,t3⟩ Q' WC;simp only at hk hH t0 t3;subst hk;subst hH;apply Zz;intro b2 Yy;apply ZX;intro b3 YC;have fin: ∀YI:Tr Value,YI.get 0=some v->YI.get 3=some (.int .i64 (n:Int))->ZP (xs.take n)=xs.take n->Q' (.exit 0) ⟨22,YI,H'⟩:=fun YI t0 t3 he=>by apply WC;left;refine⟨rfl,?_⟩;subst ZH;obtain⟨c1,c2,c3⟩:=h.cut3 ZD hn;apply ZX;intro b4 YZ;simp[t0,t3,c1];subst YZ;apply Z8;simp;rw[<-ht,he];exact⟨c2,c3⟩
 by_cases hz:n=0;·subst hz;simp[t3];subst YC;refine Zp (t:=false) (by simp) ?_;apply YM;exact fin _ (by simp[t0]) (by simp[t3]) rfl
 ·have hi:n-1<xs.length:=by omega
  have a1:=h.sl.adr ZD (k:= .i64) hi;have d1:=h.sl.load hi;have Sa:xs.take n=xs.take (n-1)++[xs[n-1]]:=by have:=XA hi;rwa[show n-1+1=n by omega]at this
  have Vs:0<n:=by omega
  simp[t3,t0,Cg,Vs,Oo (x:=n) (by omega) Vs,a1,d1,QO];subst YC;by_cases h0:xs[n-1]=0;·refine Zp (t:=true) (by simp[h0]) ?_;apply ZE;subst Yy;apply Z1;apply Zr;simp[t3,Oo (x:=n) (by omega) Vs];apply WC;refine⟨n-1,by omega,rfl,rfl,by show n-1<=_;omega,?_,by simp[t0],by simp⟩;rw[<-ht,Sa,h0,Wp]
  ·refine Zp (t:=false) (by simp[h0]) ?_;apply YM;exact fin _ (by simp[t0]) (by simp[t3]) (by rw[Sa];exact VI _ _ h0)
theorem Iv{H:AH}{v:Value}{xs:List Nat}(h:Sl H v xs)(dx:Y7 ZB xs)(hlen:xs.length<=8000000000000):CW Tryz.prog Yg 53 [v] H fun v' H'=>ZQ H H'/\Yl H.n H' v' (ds ZV (dv ZB xs)):=by
 refine YH 26 Tryz.func53 ?_;have l0:=h.len Yq;obtain⟨a0,H1,KW,k1,o1⟩:=P6 (H:=H) ZD (n:=2*xs.length) (by omega);apply ZX;intro b1 ZH;simp;subst ZH;apply ZX;intro b1 ZH;simp[l0,JD (x:=xs.length) (by omega),KW];subst ZH;apply Zz;intro b1 ZH;apply ZX;intro b2 Yy;simp[l0];subst Yy;apply Z1;refine Y8 (fun m s'=>s'.k=26/\ZQ H s'.H/\ ∃(i:Nat) (a:Value),m+i=xs.length/\Yl H.n s'.H a (W9 (xs.take i))/\s'.tm.get 3=some a/\s'.tm.get 10=some v/\s'.tm.get 11=some (.int .i64 (xs.length:Int))/\s'.tm.get 12=some (.int .i64 (i:Int))) ?_ xs.length _ ⟨rfl,k1,0,a0,by omega,o1,by simp,by simp,by simp,by simp⟩;rintro m ⟨k,tm,H2⟩ ⟨hk,kH,i,a,LL,own,t3,t10,t11,t12⟩ Q' WC;simp only at hk kH own t3 t10 t11 t12;subst hk;apply ZX;intro b3 YC;simp[t11,t12];subst YC;apply Zz;intro b3 YC;by_cases hi:i<xs.length;·refine Zp (t:=true) (by simp[hi]) ?_;apply ZE;subst YC;have s2:=h.keep kH;have a1:=s2.adr Yq (k:= .i64) hi;have d1:=s2.load hi;have hx:xs[i]<ZB:=dx.get (List.getElem?_eq_getElem hi);obtain⟨x,Pj⟩:=hid (xs[i]);rw[<-Pj]at d1 hx;have hb:=OL H2 ZD (x%4294967296) (x/4294967296);have kn:=ZQ.new H2 1 ([x%4294967296,x/4294967296].map XP);have ow:=Yl.new H2 [x%4294967296,x/4294967296];obtain⟨v',H4,F5,Tu,BU,Ik⟩:=(own.m kn).append (Nat.le_trans kH.n kn.n) ow.sl (by rw[VV,List.length_take];simp;omega) ZD ZD;apply Zz;intro b3 YC;apply Z1;apply ZX;intro b4 YZ;simp[t10,t12,a1,d1];subst YZ;apply Zr;simp[t3,Ok,Oe hx,hb];simp at F5;simp[F5];subst YC;apply Zr;simp[t12,Y4 (x:=i) (by omega)];apply WC;refine⟨m-1,by omega,rfl,Ik H (kH.trans kn) (Nat.le_refl _),i+1,v',by omega,?_,by simp,by simp[t10],by simp[t11],by simp⟩;rw[XA hi,T9,<-Pj];exact Tu
 ·refine Zp (t:=false) (by simp[hi]) ?_;apply YM;apply WC;left;refine⟨rfl,?_⟩;obtain rfl:i=xs.length:=by omega
  rw[List.take_length]at own;obtain⟨v5,H5,M9,e5,o5,_⟩:=Xt own (by rw[VV];omega);subst e5;rw[XN two32 (UL dx),TJ]at o5;subst ZH;apply ZX;intro b4 YZ;simp[t3,M9];subst YZ;apply Z8;simp;exact⟨kH,o5⟩
end
theorem HL{x:Nat}(h:x<ZV):x<ZB:=Nat.lt_trans h (by decide)
section
attribute [-simp] Int.natCast_add Int.natCast_mul Int.natCast_ediv Int.natCast_emod Int.natCast_pow
attribute [local simp] strip Zt YR LR gW ZZ ZO Zk ZN Zv ZM Ze Zf Zb Zw ZT Zs Zx Zc ZS Za Yd ZC Zu plain Zq Tr.get_set ZA Zd Z5 Zl sameKind undef Zh Zy ZR ZU ZD Yq Zm parts Yv Xd DW ZL Zg LX Zo
theorem Nr{H:AH}{v:Value}{ys:List Nat}(h:Sl H v ys)(dy:Y7 ZV ys)(hlen:ys.length<=17592186000000):CW Tryz.prog Yg 54 [v] H fun v' H'=>ZQ H H'/\Yl H.n H' v' (Wn ys):=by
 refine YH 34 Tryz.func54 ?_;have l0:=h.len ZD;apply Zz;intro b1 ZH;apply Zr;simp;subst ZH;apply Zz;intro b1 ZH;apply Zr;simp;subst ZH;apply Zz;intro b1 ZH;apply Zz;intro b2 Yy;apply Zr;simp;subst Yy;apply Z1;refine Y8 (fun m s'=>s'.k=34/\ZQ H s'.H/\ ∃(i:Nat) (a:Value) (L:List Nat),m=ys.length-i/\i<=ys.length+1/\L.length<=i/\L++Wn (ys.drop i)=Wn ys/\Yl H.n s'.H a L/\s'.tm.get 0=some v/\s'.tm.get 3=some a/\s'.tm.get 4=some (.int .i64 (i:Int))) ?_ ys.length _ ⟨rfl,.refl H,0,.slice none 0 0,[],by omega,by omega,Nat.le_refl _,by simp,.nil,by simp,by simp,by simp⟩;rintro m ⟨k,tm,H2⟩ ⟨hk,kH,i,a,L,LL,hiy,hLi,hL,own,t0,t3,t4⟩ Q' WC;simp only at hk kH own t0 t3 t4;subst hk;apply Zz;intro b3 YC;apply Zz;intro b4 YZ;apply Zr;simp[t0,t4,l0];subst YZ;by_cases hi:i<ys.length
 ·refine Zp (t:=true) (by simp[hi]) ?_;apply ZE;subst YC;have s2:=h.keep kH;have a1:=s2.adr ZD (k:= .i64) hi;have d1:=s2.load hi;have hx:ys[i]<ZV:=dy.get (List.getElem?_eq_getElem hi);obtain⟨x,Pj⟩: ∃x,x=ys[i]:=⟨_,rfl⟩;obtain⟨w,hw⟩: ∃w,w=x+nth ys (i+1)*4294967296:=⟨_,rfl⟩;have Ey:=NV hi;rw[<-Pj]at d1 hx Ey;have CB:Wn (ys.drop i)=w::Wn (ys.drop (i+2)):=by rw[hw];exact Ey
  have hb:=UP H2 Yq w;have kn:=ZQ.new H2 1 ([w].map XP);have ow:=Yl.new H2 [w];obtain⟨v',H4,F5,Tu,BU,Ik⟩:=(own.m kn).append (Nat.le_trans kH.n kn.n) ow.sl (by simp;omega) Yq Yq;simp at F5 hb;apply Zz;intro b3 YC;apply Z1;apply Zz;intro b4 YZ;apply Zr;simp[t0,t4,a1,d1];subst YZ;refine SW (fun s'=>s'.k=34/\s'.H=H2/\s'.tm.get 0=some v/\s'.tm.get 3=some a/\s'.tm.get 4=some (.int .i64 (i:Int))/\s'.tm.get 5=some (.int .u64 (w:Int))) ?_ ?_
  ·intro B6 O5;apply Zz;intro b4 YZ;apply Zr;simp[t0,t4,l0,Y4 (x:=i) (by omega)];subst YZ;by_cases Nc:i+1<ys.length
   ·refine Zp (t:=true) (by simp[Nc]) ?_;have a2:=s2.adr ZD (k:= .i64) Nc;have d2:=s2.load Nc;have hz:ys[i+1]<ZV:=dy.get (List.getElem?_eq_getElem Nc);rw[WZ Nc]at hw;obtain⟨z,DY⟩: ∃z,z=ys[i+1]:=⟨_,rfl⟩;rw[<-DY]at d2 hz hw;have hz':z<4294967296:=hz;have Fh:x<4294967296:=hx;have m1:Zj .mul .u64 (z:Int) 4294967296=some (.int .u64 ((z*4294967296:Nat):Int)):=by rw[mulR,Nat.mod_eq_of_lt (by show _<18446744073709551616;omega)]
    have m2:Zj .add .u64 (x:Int) ((z*4294967296:Nat):Int)=some (.int .u64 (w:Int)):=by rw[hw];exact Xm (by show _<18446744073709551616;omega)
    apply Zr;simp[t0,t4,Y4 (x:=i) (by omega),a2,d2,m1,m2];apply O5;exact⟨rfl,rfl,by simp[t0],by simp[t3],by simp[t4],by simp⟩
   ·refine Zp (t:=false) (by simp[Nc]) ?_;apply ZE;apply O5;rw[Un (by omega),Nat.zero_mul,Nat.add_zero]at hw;exact⟨rfl,rfl,by simp[t0],by simp[t3],by simp[t4],by simp[hw]⟩
  clear t0 t3 t4;rintro⟨k,tm,H3⟩ ⟨hk,hH,t0,t3,t4,t5⟩;simp only at hk hH t0 t3 t4 t5;subst hk;subst hH;apply Zr;simp[t3,t5,hb,F5];subst YC;apply Zr;simp[t4,LB (x:=i) (by omega)];apply WC;refine⟨ys.length-(i+2),by omega,rfl,Ik H (kH.trans kn) (Nat.le_refl _),i+2,v',L++[w],rfl,by omega,by simp;omega,?_,Tu,by simp[t0],by simp,by simp⟩;rw[<-hL,CB];simp
 ·refine Zp (t:=false) (by simp[hi]) ?_;apply YM;apply WC;left;refine⟨rfl,?_⟩;rw[List.drop_eq_nil_of_le (by omega)]at hL;simp[Wn]at hL;subst ZH;apply Zz;intro b4 YZ;apply Zr;simp[t3];subst YZ;apply Z8;simp;rw[<-hL];exact⟨kH,own⟩
theorem Ii{H:AH}{v w:Value}{ys zs:List Nat}(h:Sl H v ys)(hw:Sl H w zs)(dy:Y7 ZV ys)(hlen:ys.length<=17592186000000):CW Tryz.prog Yg 16 [v,w] H fun v' H'=>ZQ H H'/\v'= .bool (decide (Wn ys=zs)):=by
 refine YH 29 Tryz.func16 ?_;obtain⟨v1,H1,OW,k1,o1⟩:=Nr h dy hlen;have AU:=Qh ys;generalize Wn ys=xs at*;have s1:=o1.sl;have s2:=hw.keep k1;have l1:=s1.len Yq;have l2:=s2.len Yq;apply Zz;intro b1 ZH;apply Zr;simp;subst ZH;apply Zz;intro b1 ZH;apply Zr;simp[OW];subst ZH;apply Zz;intro b1 ZH;apply Zz;intro b2 Yy;apply Zr;simp[l1,l2,Q0];subst Yy;by_cases hl:xs.length=zs.length
 ·refine Zp (t:=false) (by simp[hl]) ?_;apply ZE;subst ZH;apply Zz;intro b1 ZH;apply Zz;intro b2 Yy;apply Zr;simp[l1];subst Yy;apply Z1;refine Y8 (fun m s'=>s'.k=29/\s'.H=H1/\ ∃(i:Nat),m+i=xs.length/\xs.take i=zs.take i/\s'.tm.get 1=some w/\s'.tm.get 5=some v1/\s'.tm.get 15=some (.int .i64 (xs.length:Int))/\s'.tm.get 16=some (.int .i64 (i:Int))) ?_ xs.length _ ⟨rfl,rfl,0,by omega,rfl,by simp,by simp,by simp,by simp⟩;rintro m ⟨k,tm,H2⟩ ⟨hk,hH,i,LL,he,t1,t5,t15,t16⟩ Q' WC;simp only at hk hH t1 t5 t15 t16;subst hk;subst hH;apply Zz;intro b3 YC;apply Zr;simp[t15,t16];subst YC;apply Zz;intro b3 YC;by_cases hi:i<xs.length
  ·refine Zp (t:=true) (by simp[hi]) ?_;apply ZE;subst YC;have OU:i<zs.length:=by omega
   have a1:=s1.adr Yq (k:= .i64) hi;have d1:=s1.load hi;have a2:=s2.adr Yq (k:= .i64) OU;have d2:=s2.load OU;apply Zz;intro b3 YC;apply Z1;apply Zz;intro b4 YZ;apply Zr;simp[t16];subst YZ;apply Zz;intro b4 YZ;apply Ug (by kernel_rfl);simp[t1,t5,a1,a2,d1,d2,Q0];subst YZ;by_cases Wq:xs[i]=zs[i];·refine Zp (t:=false) (by simp[Wq]) ?_;apply ZE;subst YC;apply Zr;simp[t16,Y4 (x:=i) (by omega)];apply WC;refine⟨m-1,by omega,rfl,rfl,i+1,by omega,?_,by simp[t1],by simp[t5],by simp[t15],by simp⟩;rw[XA hi,XA OU,he,Wq]
   ·refine Zp (t:=true) (by simp[Wq]) ?_;apply Zz;intro b4 YZ;apply Zr;simp;subst YZ;apply Z8;have hd:xs≠zs:=by intro e;apply Wq;subst e;rfl
    apply WC;simp[WA,TN,Ro,hd];exact k1
  ·refine Zp (t:=false) (by simp[hi]) ?_;apply YM;apply WC;left;refine⟨rfl,?_⟩;obtain rfl:i=xs.length:=by omega
   have Ed:xs=zs:=by rwa[List.take_length,hl,List.take_length]at he
   subst ZH;apply Zz;intro b4 YZ;apply Zr;simp;subst YZ;apply Z8;simp[Ed];exact k1
 ·refine Zp (t:=true) (by simp[hl]) ?_;apply Zz;intro b2 Yy;apply Zr;simp;subst Yy;apply Z8;have hd:xs≠zs:=fun e=>hl (by rw[e]);simp[WA,hd];exact k1
theorem LZ{H:AH}{v:Value}{ys:List Nat}(h:Sl H v ys):CW Tryz.prog Yg 91 [v] H fun v' H'=>H'=H/\v'= .bool (decide (ys.length=0)):=by refine YH 6 Tryz.func91 ?_;have l1:=h.len ZD;apply ZX;intro b1 ZH;simp;subst ZH;apply ZX;intro b1 ZH;simp[l1,QO];subst ZH;apply Z8;simp
theorem JJ{H:AH}{v:Value}{ys:List Nat}(h:Sl H v ys)(i:Nat):CW Tryz.prog Yg 155 [v,.int .i64 (i:Int)] H fun v' H'=>H'=H/\v'= .int .u64 (nth ys i:Int):=by
 refine YH 13 Tryz.func155 ?_;have l1:=h.len ZD;apply ZX;intro b1 ZH;simp;subst ZH;apply Zz;intro b1 ZH;apply ZX;intro b2 Yy;simp[l1];subst Yy;by_cases hi:i<ys.length;·refine Zp (t:=true) (by simp[hi]) ?_;have a1:=h.adr ZD (k:= .i64) hi;have d1:=h.load hi;apply ZX;intro b2 Yy;simp[a1,d1];subst Yy;apply Z8;simp[WA,WZ hi]
 ·refine Zp (t:=false) (by simp[hi]) ?_;apply ZE;subst ZH;apply ZX;intro b2 Yy;simp;subst Yy;apply Z8;simp[Un (Nat.le_of_not_lt hi)]
theorem QZ{H:AH}{v:Value}{ys:List Nat}(h:Sl H v ys)(i:Nat):ZF Tryz.prog Yg 155 [v,.int .i64 (i:Int)] H=some (.int .u64 (nth ys i:Int),H):=by obtain⟨_,_,hc,rfl,rfl⟩:=JJ h i;exact hc
end
theorem W2(B:Nat)(xs:List Nat)(i:Nat):dv B (xs.take (i+1))=dv B (xs.take i)+B^i*nth xs i:=by
 by_cases h:i<xs.length;·rw[XA h,YW,List.length_take,Nat.min_eq_left (by omega),WZ h];simp[dv]
 ·rw[List.take_of_length_le (by omega),List.take_of_length_le (by omega),Un (by omega),Nat.mul_zero,Nat.add_zero]
theorem Q3{B:Nat}{xs:List Nat}(h:Y7 B xs)(hB:0<B)(i:Nat):nth xs i<B:=by
 by_cases hi:i<xs.length;·rw[WZ hi];exact h.get (List.getElem?_eq_getElem hi)
 ·rw[Un (by omega)];exact hB
theorem MJ(B:Nat)(xs:List Nat)(j:Nat)(h:j<=xs.length):dv B xs=dv B (xs.take j)+B^j*dv B (xs.drop j):=by have:=congrArg (dv B) (List.take_append_drop j xs);rw[YW,List.length_take,Nat.min_eq_left h]at this;exact this.symm
theorem PT{B:Nat}{xs:List Nat}{k:Nat}(hB:0<B)(h:dv B xs<B^k):dv B (xs.take k)=dv B xs:=by
 rcases Nat.lt_or_ge xs.length k with hk|hk;·rw[List.take_of_length_le (by omega)]
 ·have e:=MJ B xs k hk;have:dv B (xs.drop k)=0:=by
   rcases Nat.eq_zero_or_pos (dv B (xs.drop k))with h0|h0;·exact h0
   ·exfalso;have:B^k*1<=B^k*dv B (xs.drop k):=Nat.mul_le_mul_left _ h0;omega
  rw[this,Nat.mul_zero]at e;omega
theorem Tp{B:Nat}(hB:2<=B){xs ys:List Nat}(hy:ZP ys=ys)(dx:Y7 B xs)(dy:Y7 B ys)(h:xs.length<ys.length):dv B xs<dv B ys:=by
 have h1:=Ve dx;have e:ys=ds B (dv B ys):=by rw[<-XN hB dy,hy]
 have Wq:dv B ys≠0:=by intro h0;rw[h0,Y1]at e;rw[e]at h;simp at h
 have h2:=I8 hB Wq;rw[<-e]at h2;have h3:B^xs.length<=B^(ys.length-1):=Nat.pow_le_pow_right (by omega) (by omega);omega
theorem Yl.fill{n:Nat}{H:AH}{v:Value}{L:List Nat}{m:Nat}(h:Yl n H v (L++List.replicate (m+1) 0)){i:Nat}(hL:L.length=i)(y:Nat): ∃H',YP Tryz.prog H 82 (adr v i) (.int .u64 (y:Int))=some H'/\Yl n H' v ((L++[y])++List.replicate m 0)/\TT (XV v) H H'/\KA n H H':=by obtain⟨H',h1,h2,h3,h4,h5⟩:=h.put (i:=i) (by simp;omega) y;refine⟨H',h1,?_,⟨h3,fun j _ hj=>h4 j hj⟩,h5⟩;rw[List.replicate_succ,SM _ _ _ _ hL]at h2;simpa using h2
section
attribute [-simp] Int.natCast_add Int.natCast_mul Int.natCast_ediv Int.natCast_emod Int.natCast_pow
attribute [local simp] strip Zt YR LR gW ZZ ZO Zk ZN Zv ZM Ze Zf Zb Zw ZT Zs Zx Zc ZS Za Yd ZC Zu plain Zq Tr.get_set ZA Zd Z5 Zl sameKind undef Zh Zy ZR ZU ZD Yq Zm parts Yv Xd DW ZL Zg LX Zo
theorem Of{H:AH}{v w:Value}{xs ys:List Nat}(hv:Sl H v xs)(hw:Sl H w ys)(dx:Y7 ZV xs)(dy:Y7 ZV ys)(lx:xs.length<=17592186000000)(ly:ys.length<=17592186000000):CW Tryz.prog Yg 115 [v,w] H fun v' H'=>ZQ H H'/\Yl H.n H' v' (ds ZV (dv ZV xs+dv ZV ys)):=by
 refine YH 44 Tryz.func115 ?_;have l1:=hv.len ZD;have l2:=hw.len ZD;obtain⟨n,hn⟩:=hid (max xs.length ys.length);obtain⟨c0,H1,KW,k1,o1,n1⟩:=XO (H:=H) ZD (n:=n+1) (by omega);apply ZX;intro b1 ZH;simp;subst ZH;apply ZX;intro b1 ZH;simp[l1];subst ZH;refine SW (fun s'=>s'.k=44/\s'.H=H/\s'.tm.get 0=some v/\s'.tm.get 1=some w/\s'.tm.get 5=some (.int .i64 (n:Int))) ?_ ?_
 ·intro Q' WC;apply ZX;intro b1 ZH;simp[l2,VW];subst ZH;by_cases hc:xs.length<ys.length;·refine Zp (t:=true) (by simp[hc]) ?_;apply Zr;simp[l2];apply WC;exact⟨rfl,rfl,by simp,by simp,by simp;omega⟩
  ·refine Zp (t:=false) (by simp[hc]) ?_;apply ZE;apply WC;exact⟨rfl,rfl,by simp,by simp,by simp;omega⟩
 rintro⟨k,tm,H'⟩ ⟨hk,hH,t0,t1,t5⟩;simp only at hk hH t0 t1 t5;subst hk;subst hH;have CL:Xr Tryz.prog H' 48 (.int .i64 ((n+1:Nat):Int)) (.int .i64 ((n+1:Nat):Int))=some (c0,H1):=KW;apply ZX;intro b1 ZH;simp[t5,Y4 (x:=n) (by omega),CL];subst ZH;apply ZX;intro b1 ZH;simp;subst ZH;apply Zz;intro b1 ZH;apply ZX;intro b2 Yy;simp;subst Yy;apply Z1;refine Y8 (fun m s'=>s'.k=44/\ZQ H' s'.H/\ ∃(i carry:Nat) (L:List Nat),m+i=n+1/\L.length=i/\carry<=1/\Y7 ZV L/\dv ZV L+ZV^i*carry=dv ZV (xs.take i)+dv ZV (ys.take i)/\Yl H'.n s'.H c0 (L++List.replicate m 0)/\s'.tm.get 0=some v/\s'.tm.get 1=some w/\s'.tm.get 5=some (.int .i64 (n:Int))/\s'.tm.get 6=some c0/\s'.tm.get 7=some (.int .u64 (carry:Int))/\s'.tm.get 8=some (.int .i64 (i:Int))) ?_ (n+1) _ ⟨rfl,k1,0,0,[],by omega,rfl,by omega,.nil _,by simp[dv],by simpa using o1,by simp[t0],by simp[t1],by simp[t5],by simp,by simp,by simp⟩;clear t0 t1 t5;rintro m ⟨k,tm,H2⟩ ⟨hk,kH,i,carry,L,LL,hL,hc,dL,heq,own,t0,t1,t5,t6,t7,t8⟩ Q' WC;simp only at hk kH own t0 t1 t5 t6 t7 t8;subst hk;apply Zz;intro b3 YC;apply ZX;intro b4 YZ;simp[t5,t8,Mp];subst YZ;by_cases hi:i<=n
 ·refine Zp (t:=true) (by simp[hi]) ?_;apply ZE;subst YC;obtain⟨m',rfl⟩: ∃m',m=m'+1:=⟨m-1,by omega⟩;have c1:=QZ (hv.keep kH) i;have c2:=QZ (hw.keep kH) i;have hx:nth xs i<4294967296:=Q3 dx (by decide) i;have hy:nth ys i<4294967296:=Q3 dy (by decide) i;have ex:=W2 ZV xs i;have ey:=W2 ZV ys i;obtain⟨x,Pj⟩:=hid (nth xs i);obtain⟨y,Bq⟩:=hid (nth ys i);rw[<-Pj]at c1 hx ex;rw[<-Bq]at c2 hy ey;have m1:Zj .add .u64 (x:Int) (y:Int)=some (.int .u64 ((x+y:Nat):Int)):=Xm (by show _<18446744073709551616;omega);have m2:Zj .add .u64 ((x+y:Nat):Int) (carry:Int)=some (.int .u64 ((x+y+carry:Nat):Int)):=Xm (by show _<18446744073709551616;omega);obtain⟨z,hz⟩:=hid (x+y+carry);rw[<-hz]at m2;have Bs:z<ZB:=by show z<18446744073709551616;omega
  obtain⟨H3,HU,Q7,Ab,EM⟩:=own.fill hL (z%4294967296);have a3:=own.sl.adr ZD (k:= .i64) (i:=i) (by simp;omega);apply Zz;intro b3 YC;apply Z1;apply ZX;intro b4 YZ;simp[t0,t1,t7,t8,c1,c2,m1,m2];subst YZ;apply ZX;intro b4 YZ;simp[t6,t8,Ok,a3,HU];subst YZ;apply Zr;simp[Oe Bs];subst YC;apply Zr;simp[t8,Y4 (x:=i) (by omega)];apply WC;refine⟨m',by omega,rfl,EM H' kH (Nat.le_refl _),i+1,z/4294967296,L++[z%4294967296],by omega,by simp[hL],by omega,dL.append (.cons (Nat.mod_lt _ (by decide)) (.nil _)),?_,Q7,by simp[t0],by simp[t1],by simp[t5],by simp[t6],by simp,by simp⟩;rw[YW,hL,ex,ey];simp only[dv,Nat.mul_zero,Nat.add_zero];have e1:ZV^i*(z%4294967296+4294967296*(z/4294967296))=ZV^i*(x+y+carry):=by rw[Nat.mod_add_div,hz]
  rw[Nat.mul_add,<-Nat.mul_assoc,show ZV^i*4294967296=ZV^(i+1)from rfl,Nat.mul_add,Nat.mul_add]at e1;omega
 ·refine Zp (t:=false) (by simp[hi]) ?_;apply YM;apply WC;left;refine⟨rfl,?_⟩;obtain rfl:i=n+1:=by omega
  obtain rfl:m=0:=by omega
  simp at own;rw[List.take_of_length_le (by omega),List.take_of_length_le (by omega)]at heq;have Gv:dv ZV L=dv ZV xs+dv ZV ys:=by
   have h1:=Ve dx;have h2:=Ve dy;have h3:ZV^xs.length<=ZV^n:=Nat.pow_le_pow_right (by decide) (by omega);have h4:ZV^ys.length<=ZV^n:=Nat.pow_le_pow_right (by decide) (by omega);have h5:ZV^(n+1)=ZV^n*4294967296:=rfl;rcases Nat.lt_or_ge carry 1 with h0|h0
   ·obtain rfl:carry=0:=by omega
    rw[Nat.mul_zero]at heq;omega
   ·obtain rfl:carry=1:=by omega
    rw[Nat.mul_one]at heq;omega
  obtain⟨v5,H5,M9,e5,o5,_⟩:=Xt own (by omega);subst e5;rw[XN two32 dL,Gv]at o5;subst ZH;apply ZX;intro b4 YZ;simp[t6,M9];subst YZ;apply Z8;simp;exact⟨kH,o5⟩
theorem Oj{H:AH}{v w:Value}{xs ys:List Nat}(hv:Sl H v xs)(hw:Sl H w ys)(dx:Y7 ZV xs)(dy:Y7 ZV ys)(lx:xs.length<=17592186000000)(hle:dv ZV ys<=dv ZV xs):CW Tryz.prog Yg 117 [v,w] H fun v' H'=>ZQ H H'/\Yl H.n H' v' (ds ZV (dv ZV xs-dv ZV ys)):=by
 refine YH 39 Tryz.func117 ?_;have l1:=hv.len ZD;obtain⟨n,hn⟩:=hid (xs.length);rw[<-hn]at l1;obtain⟨c0,H1,KW,k1,o1,n1⟩:=XO (H:=H) ZD (n:=n) (by omega);apply ZX;intro b1 ZH;simp;subst ZH;apply ZX;intro b1 ZH;simp[l1,KW];subst ZH;apply ZX;intro b1 ZH;simp;subst ZH;apply Zz;intro b1 ZH;apply ZX;intro b2 Yy;simp[l1];subst Yy;apply Z1;refine Y8 (fun m s'=>s'.k=39/\ZQ H s'.H/\ ∃(i LU:Nat) (L:List Nat),m+i=n/\L.length=i/\LU<=1/\Y7 ZV L/\dv ZV L+dv ZV (ys.take i)=dv ZV (xs.take i)+ZV^i*LU/\Yl H.n s'.H c0 (L++List.replicate m 0)/\s'.tm.get 0=some v/\s'.tm.get 1=some w/\s'.tm.get 5=some c0/\s'.tm.get 6=some (.int .u64 (LU:Int))/\s'.tm.get 13=some (.int .i64 (n:Int))/\s'.tm.get 14=some (.int .i64 (i:Int))) ?_ n _ ⟨rfl,k1,0,0,[],by omega,rfl,by omega,.nil _,by simp[dv],by simpa using o1,by simp,by simp,by simp,by simp,by simp,by simp⟩;rintro m ⟨k,tm,H2⟩ ⟨hk,kH,i,LU,L,LL,hL,hb,dL,heq,own,t0,t1,t5,t6,t13,t14⟩ Q' WC;simp only at hk kH own t0 t1 t5 t6 t13 t14;subst hk;apply ZX;intro b3 YC;simp[t13,t14];subst YC;apply Zz;intro b3 YC;by_cases hi:i<n
 ·refine Zp (t:=true) (by simp[hi]) ?_;apply ZE;subst YC;obtain⟨m',rfl⟩: ∃m',m=m'+1:=⟨m-1,by omega⟩;have UW:i<xs.length:=by omega
  have sv:=hv.keep kH;have a1:=sv.adr ZD (k:= .i64) UW;have d1:=sv.top.load UW;have c2:=QZ (hw.keep kH).top i;have hx:nth xs i<4294967296:=Q3 dx (by decide) i;have hy:nth ys i<4294967296:=Q3 dy (by decide) i;have ex:=W2 ZV xs i;have ey:=W2 ZV ys i;rw[<-WZ UW]at d1;obtain⟨x,Pj⟩:=hid (nth xs i);obtain⟨y,Bq⟩:=hid (nth ys i);rw[<-Pj]at d1 hx ex;rw[<-Bq]at c2 hy ey;have m1:Zj .add .u64 (x:Int) 4294967296=some (.int .u64 ((x+4294967296:Nat):Int)):=Xm (y:=4294967296) (by show _<18446744073709551616;omega);have m2:Zj .sub .u64 ((x+4294967296:Nat):Int) (y:Int)=some (.int .u64 ((x+4294967296-y:Nat):Int)):=Ut (by show _<18446744073709551616;omega) (by omega);have m3:Zj .sub .u64 ((x+4294967296-y:Nat):Int) (LU:Int)=some (.int .u64 ((x+4294967296-y-LU:Nat):Int)):=Ut (by show _<18446744073709551616;omega) (by omega);obtain⟨z,hz⟩:=hid (x+4294967296-y-LU);rw[<-hz]at m3;have Bs:z<ZB:=by show z<18446744073709551616;omega
  have Br:z/4294967296<=1:=by omega
  have m4:Zj .sub .u64 1 ((z/4294967296:Nat):Int)=some (.int .u64 ((1-z/4294967296:Nat):Int)):=Ut (x:=1) (by decide) Br;obtain⟨H3,HU,Q7,Ab,EM⟩:=own.fill hL (z%4294967296);have a3:=own.sl.adr ZD (k:= .i64) (i:=i) (by simp;omega);apply Zz;intro b3 YC;apply Z1;apply ZX;intro b4 YZ;simp[t14];subst YZ;apply Zz;intro b4 YZ;apply JM (by kernel_rfl);simp[t0,t1,t6,a1,d1,c2,m1,m2,m3];subst YZ;apply ZX;intro b4 YZ;simp[t5,Ok,a3,HU];subst YZ;apply Zr;simp[Oe Bs,m4];subst YC;apply Zr;simp[t14,Y4 (x:=i) (by omega)];apply WC;refine⟨m',by omega,rfl,EM H kH (Nat.le_refl _),i+1,1-z/4294967296,L++[z%4294967296],by omega,by simp[hL],by omega,dL.append (.cons (Nat.mod_lt _ (by decide)) (.nil _)),?_,Q7,by simp[t0],by simp[t1],by simp[t5],by simp,by simp[t13],by simp⟩;rw[YW,hL,ex,ey];simp only[dv,Nat.mul_zero,Nat.add_zero];have e0:z%4294967296+y+LU=x+4294967296*(1-z/4294967296):=by omega
  have e1:ZV^i*(z%4294967296+y+LU)=ZV^i*(x+4294967296*(1-z/4294967296)):=by rw[e0]
  rw[Nat.mul_add (ZV^i) x,<-Nat.mul_assoc,show ZV^i*4294967296=ZV^(i+1)from rfl,Nat.mul_add,Nat.mul_add]at e1;omega
 ·refine Zp (t:=false) (by simp[hi]) ?_;apply YM;apply WC;left;refine⟨rfl,?_⟩;obtain rfl:i=n:=by omega
  obtain rfl:m=0:=by omega
  simp at own;have AN:=Ve dx;rw[<-hn]at AN;rw[List.take_of_length_le (l:=xs) (by omega),PT (by decide) (Nat.lt_of_le_of_lt hle AN)]at heq;have Gv:dv ZV L=dv ZV xs-dv ZV ys:=by
   have h1:=Ve dL;rw[hL]at h1;rcases Nat.lt_or_ge LU 1 with h0|h0
   ·obtain rfl:LU=0:=by omega
    rw[Nat.mul_zero]at heq;omega
   ·obtain rfl:LU=1:=by omega
    rw[Nat.mul_one]at heq;omega
  obtain⟨v5,H5,M9,e5,o5,_⟩:=Xt own (by omega);subst e5;rw[XN two32 dL,Gv]at o5;subst ZH;apply ZX;intro b4 YZ;simp[t5,M9];subst YZ;apply Z8;simp;exact⟨kH,o5⟩
theorem V8{va vb:Value}{xs ys:List Nat}{H:AH}(s1:Sl H va xs)(s2:Sl H vb ys)(dx:Y7 ZV xs)(dy:Y7 ZV ys)(tx:ZP xs=xs)(ty:ZP ys=ys)(lx:xs.length<=17592186044416)(ly:ys.length<=17592186044416):CW Tryz.prog Yg 62 [va,vb] H fun v H'=>H'=H/\v= .int .i64 (WB (dv ZV xs) (dv ZV ys)):=by
 refine YH 41 Tryz.func62 ?_;have l1:=s1.len ZD;have l2:=s2.len ZD;apply ZX;intro b1 ZH;simp;subst ZH;apply Zz;intro b1 ZH;apply ZX;intro b2 Yy;simp[l1,l2,Q0];subst Yy;by_cases hl:xs.length=ys.length
 ·refine Zp (t:=false) (by simp[hl]) ?_;apply ZE;subst ZH;apply Zz;intro b1 ZH;apply Zz;intro b2 Yy;have w1:Zj .sub .i64 (xs.length:Int) 1=some (.int .i64 ((xs.length:Int)-1)):=by show some (Value.int .i64 (IntKind.i64.wrap ((xs.length:Int)-1)))=_;congr 2;rw[IntKind.wrap_i64];omega
  apply Zr;simp[l1,w1];subst Yy;apply Z1;refine Y8 (fun n s=>s.k=41/\s.H=H/\s.tm.get 0=some va/\s.tm.get 1=some vb/\s.tm.get 5=some (.int .i64 ((n:Int)-1))/\n<=xs.length/\xs.drop n=ys.drop n) ?_ xs.length _ ⟨rfl,rfl,by simp,by simp,by simp,Nat.le_refl _,by rw[List.drop_length,hl,List.drop_length]⟩;rintro n ⟨k,tm,H'⟩ ⟨h2,h3,h4,h5,h6,h7,h8⟩ Q' WC;simp only at h2 h3 h4 h5 h6;subst h2;subst h3;have Th:Zj .geq .i64 ((n:Int)-1) 0=some (.bool (decide (0<n))):=by show some (Value.bool (decide ((n:Int)-1≥0)))=_;congr 2;apply decide_eq_decide.mpr;omega
  apply Zz;intro b2 Yy;apply ZX;intro b3 YC;simp[h6,Th];subst YC;by_cases hz:n=0
  ·subst hz;refine Zp (t:=false) (by simp) ?_;apply YM;apply WC;left;refine⟨rfl,?_⟩;subst ZH;apply ZX;intro b4 YZ;simp;subst YZ;apply Z8;have:xs=ys:=by simpa using h8
   simp[WB,this]
  ·have e:(n:Int)-1=((n-1:Nat):Int):=by omega
   refine Zp (t:=true) (by simp;omega) ?_;apply ZE;subst Yy;have i1:n-1<xs.length:=by omega
   have i2:n-1<ys.length:=by omega
   have a1:=s1.adr ZD (k:= .i64) i1;have a2:=s2.adr ZD (k:= .i64) i2;have d1:=s1.load i1;have d2:=s2.load i2;rw[e]at h6;have sx:xs=xs.take (n-1)++xs[n-1]::xs.drop n:=by have:=List.take_append_drop (n-1) xs;rw[List.drop_eq_getElem_cons i1,show n-1+1=n by omega]at this;exact this.symm
   have sy:ys=ys.take (n-1)++ys[n-1]::ys.drop n:=by have:=List.take_append_drop (n-1) ys;rw[List.drop_eq_getElem_cons i2,show n-1+1=n by omega]at this;exact this.symm
   have EH:(xs.take (n-1)).length=(ys.take (n-1)).length:=by simp[List.length_take,hl]
   apply Zz;intro b4 YZ;apply Z1;apply Zz;intro b5 Pf;apply Zz;intro b6 Rc;apply Ug (by kernel_rfl);simp[h4,h5,h6,a1,a2,d1,d2];subst Rc;by_cases Z3:xs[n-1]<ys[n-1]
   ·refine Zp (t:=true) (by simp;omega) ?_;apply ZX;intro b7 Ga;simp;subst Ga;apply Z8;have hd:dv ZV xs<dv ZV ys:=by rw[sx,sy,h8];exact QP (dx.take _) (dy.take _) EH Z3 _
    apply WC;simp[WA,TN,Ro,WB,hd]
   ·refine Zp (t:=false) (by simp;omega) ?_;apply ZE;subst Pf;apply Zz;intro b6 Rc;apply Ug (by kernel_rfl);simp[h4,h5,h6,a1,a2,d1,d2,VW];subst Rc;by_cases CU:ys[n-1]<xs[n-1]
    ·refine Zp (t:=true) (by simp;omega) ?_;apply ZX;intro b7 Ga;simp;subst Ga;apply Z8;have hd:dv ZV ys<dv ZV xs:=by rw[sx,sy,h8];exact QP (dy.take _) (dx.take _) EH.symm CU _
     have La: ¬dv ZV xs<dv ZV ys:=by omega
     apply WC;simp[WA,TN,Ro,WB,hd,La]
    ·refine Zp (t:=false) (by simp;omega) ?_;apply ZE;subst YZ;have SZ:Zj .sub .i64 ((n-1:Nat):Int) 1=some (.int .i64 (((n-1:Nat):Int)-1)):=by show some (Value.int .i64 (IntKind.i64.wrap (((n-1:Nat):Int)-1)))=_;congr 2;rw[IntKind.wrap_i64];omega
     apply Zr;simp[h6,SZ];apply WC;refine⟨n-1,by omega,rfl,rfl,?_⟩;simp[h4,h5];refine⟨by omega,?_⟩;rw[List.drop_eq_getElem_cons i1,List.drop_eq_getElem_cons i2,show n-1+1=n by omega,h8];congr 1;omega
 ·refine Zp (t:=true) (by simp;omega) ?_;apply Zz;intro b2 Yy;apply ZX;intro b3 YC;simp[l1,l2];subst YC;by_cases Z3:xs.length<ys.length;·refine Zp (t:=true) (by simp;omega) ?_;apply ZX;intro b3 YC;simp;subst YC;apply Z8;have:=Tp two32 ty dx dy Z3;simp[WA,WB,this]
  ·refine Zp (t:=false) (by simp;omega) ?_;apply ZE;subst Yy;apply ZX;intro b2 Yy;simp;subst Yy;apply Z8;have:=Tp two32 tx dy dx (by omega);have h2: ¬dv ZV xs<dv ZV ys:=by omega
   simp[WA,WB,this,h2]
end
theorem IX{x y:Nat}(hx:x<9223372036854775808)(hy:0<y):Zj .quo .i64 (x:Int) (y:Int)=some (.int .i64 ((x/y:Nat):Int)):=by
 have hle:x/y<=x:=Nat.div_le_self x y;have h0: ¬ ((y:Int)=0):=by omega
 have e:IntKind.i64.wrap ((x:Int).tdiv (y:Int))=((x/y:Nat):Int):=by rw[IntKind.wrap_i64,Int.tdiv_eq_ediv_of_nonneg (by omega),<-Int.natCast_ediv];generalize x/y=q at*;omega
 show(if(y:Int)=0 then none else some (Value.int .i64 (IntKind.i64.wrap ((x:Int).tdiv (y:Int)))))=_;rw[if_neg h0,e]
theorem IV{x y:Nat}(hy:0<y):Zj .rem .i64 (x:Int) (y:Int)=some (.int .i64 ((x%y:Nat):Int)):=by
 have h0: ¬ ((y:Int)=0):=by omega
 have e:(x:Int).tmod (y:Int)=((x%y:Nat):Int):=by rw[Int.tmod_eq_emod_of_nonneg (by omega),<-Int.natCast_emod]
 show(if(y:Int)=0 then none else some (Value.int .i64 ((x:Int).tmod (y:Int))))=_;rw[if_neg h0,e]
theorem GK{x:Nat}(hx:x<9223372036854775808):Zj .quo .i64 (x:Int) 32=some (.int .i64 ((x/32:Nat):Int)):=IX (y:=32) hx (by decide)
theorem GJ{x:Nat} :Zj .rem .i64 (x:Int) 32=some (.int .i64 ((x%32:Nat):Int)):=IV (y:=32) (by decide)
theorem FI{x c s:Nat}(hx:x<ZV)(hs:s<32)(hc:c<2^s):x*2^s%ZV+c<ZV/\x*2^s/ZV<2^s/\x*2^s=x*2^s%ZV+ZV*(x*2^s/ZV)/\x*2^s<ZB:=by
 have e:ZV=2^(32-s)*2^s:=by rw[<-Nat.pow_add,show 32-s+s=32 by omega]
 have hp:=Nat.two_pow_pos s;refine⟨?_,?_,(Nat.mod_add_div _ _).symm,?_⟩
 ·have e1:x*2^s%ZV=x%2^(32-s)*2^s:=by rw[e,Nat.mul_mod_mul_right]
  have h2:x%2^(32-s)<2^(32-s):=Nat.mod_lt _ (Nat.two_pow_pos _);rw[e1];have:(x%2^(32-s)+1)*2^s<=2^(32-s)*2^s:=Nat.mul_le_mul_right _ h2;rw[<-e,Nat.succ_mul]at this;omega
 ·rw[Nat.div_lt_iff_lt_mul (by decide),Nat.mul_comm];exact Nat.mul_lt_mul_of_pos_left hx hp
 ·have h1:2^s<=2^32:=Nat.pow_le_pow_right (by decide) (by omega);have h2:x*2^s<=4294967295*2^32:=Nat.mul_le_mul (by have:x<4294967296:=hx;omega) h1;show _<18446744073709551616;omega
section
attribute [-simp] Int.natCast_add Int.natCast_mul Int.natCast_ediv Int.natCast_emod Int.natCast_pow
attribute [local simp] strip Zt YR LR gW ZZ ZO Zk ZN Zv ZM Ze Zf Zb Zw ZT Zs Zx Zc ZS Za Yd ZC Zu plain Zq Tr.get_set ZA Zd Z5 Zl sameKind undef Zh Zy ZR ZU ZD Yq Zm parts Yv Xd DW ZL Zg LX Zo
theorem Sp{H:AH}{v:Value}{xs:List Nat}(hv:Sl H v xs)(dx:Y7 ZV xs)(lx:xs.length<=8000000000000){n:Nat}(hn:n<=8000000000000):CW Tryz.prog Yg 116 [v,.int .i64 (n:Int)] H fun v' H'=>ZQ H H'/\Yl H.n H' v' (ds ZV (dv ZV xs*2^n)):=by
 refine YH 55 Tryz.func116 ?_;have l1:=hv.len ZD;apply ZX;intro b1 ZH;simp;subst ZH;apply Zz;intro b1 ZH;apply ZX;intro b2 Yy;simp[l1,QO];subst Yy;by_cases h0:xs.length=0;·obtain rfl:xs=[]:=List.length_eq_zero_iff.mp h0;refine Zp (t:=true) (by simp) ?_;apply ZX;intro b2 Yy;simp;subst Yy;apply Z8;simp[WA,dv,Y1];exact⟨.refl H,.nil⟩
 ·refine Zp (t:=false) (by simp;intro h;exact h0 (by rw[h];rfl)) ?_;apply ZE;subst ZH;obtain⟨w,hw⟩:=hid (n/32);obtain⟨s,hs⟩:=hid (n%32);have Be:s<32:=by omega
  have hnw:n=32*w+s:=by omega
  have q1:Zj .quo .i64 (n:Int) 32=some (.int .i64 (w:Int)):=by rw[hw];exact GK (by omega)
  have q2:Zj .rem .i64 (n:Int) 32=some (.int .i64 (s:Int)):=by rw[hs];exact GJ
  have q3:Zj .add .i64 (xs.length:Int) (w:Int)=some (.int .i64 ((xs.length+w:Nat):Int)):=Vu (by omega);obtain⟨c0,H1,KW,k1,o1,n1⟩:=XO (H:=H) ZD (n:=xs.length+w+1) (by omega);apply ZX;intro b1 ZH;simp[l1,q1,q3,Y4 (x:=xs.length+w) (by omega),KW];subst ZH;apply ZX;intro b1 ZH;simp[q2];subst ZH;apply Zz;intro b1 ZH;apply ZX;intro b2 Yy;simp[l1];subst Yy;apply Z1;refine Y8 (fun m s'=>s'.k=55/\ZQ H s'.H/\ ∃(i c:Nat) (L:List Nat),m+i=xs.length/\L.length=i/\c<2^s/\Y7 ZV L/\dv ZV L+ZV^i*c=dv ZV (xs.take i)*2^s/\Yl H.n s'.H c0 ((List.replicate w 0++L)++c::List.replicate m 0)/\s'.tm.get 1=some (.int .i64 (n:Int))/\s'.tm.get 5=some c0/\s'.tm.get 6=some (.int .i64 (s:Int))/\s'.tm.get 21=some v/\s'.tm.get 22=some (.int .i64 (xs.length:Int))/\s'.tm.get 23=some (.int .i64 (i:Int))) ?_ xs.length _ ⟨rfl,k1,0,0,[],by omega,rfl,Nat.two_pow_pos s,.nil _,by simp[dv],by
   have e:List.replicate (xs.length+w+1) 0=(List.replicate w 0++[])++0::List.replicate xs.length 0:=by rw[List.append_nil,<-List.replicate_succ,List.replicate_append_replicate];congr 1;omega
   rw[<-e];exact o1,by simp,by simp,by simp,by simp,by simp,by simp⟩;rintro m ⟨k,tm,H2⟩ ⟨hk,kH,i,c,L,LL,hL,hc,dL,heq,own,t1,t5,t6,t21,t22,t23⟩ Q' WC;simp only at hk kH own t1 t5 t6 t21 t22 t23;subst hk;apply ZX;intro b3 YC;simp[t22,t23];subst YC;apply Zz;intro b3 YC;by_cases hi:i<xs.length
  ·refine Zp (t:=true) (by simp[hi]) ?_;apply ZE;subst YC;obtain⟨m',rfl⟩: ∃m',m=m'+1:=⟨m-1,by omega⟩;have sv:=hv.keep kH;have a1:=sv.adr ZD (k:= .i64) hi;have d1:=sv.load hi;have hx:xs[i]<ZV:=dx.get (List.getElem?_eq_getElem hi);obtain⟨x,Pj⟩:=hid (xs[i]);rw[<-Pj]at d1 hx;obtain⟨f1,f2,f3,f4⟩:=FI hx Be hc;obtain⟨p,hp⟩:=hid (x*2^s);rw[<-hp]at f1 f2 f3 f4;have m1:Yr .shl .u64 (x:Int) (s:Int)=some (.int .u64 (p:Int)):=by rw[TZ (by omega),<-hp,Nat.mod_eq_of_lt f4]
   have m2:Zj .add .i64 (i:Int) (w:Int)=some (.int .i64 ((i+w:Nat):Int)):=Vu (by omega);have lp:(List.replicate w 0++L).length=i+w:=by simp[hL];omega
   have m3:Zj .add .u64 (c:Int) ((p%4294967296:Nat):Int)=some (.int .u64 ((p%4294967296+c:Nat):Int)):=by rw[Xm (by rw[Nat.add_comm];exact HL f1),Nat.add_comm]
   have a2:=own.sl.adr ZD (k:= .i64) (i:=i+w) (by simp[hL];omega);have d2:=own.sl.load (i:=i+w) (by simp[hL];omega);rw[J0 _ _ _ lp]at d2;obtain⟨H3,HU,Q7,n3,Ab,EM⟩:=own.put (i:=i+w) (by simp[hL];omega) (p%4294967296+c);rw[SM _ _ _ _ lp]at Q7;have a3:=Q7.sl.adr ZD (k:= .i64) (i:=i+w+1) (by simp[hL];omega);obtain⟨H4,IJ,Tu,n4,Ac,Ik⟩:=Q7.put (i:=i+w+1) (by simp[hL];omega) (p/4294967296);have WJ:(List.replicate w 0++L++(p%4294967296+c)::List.replicate (m'+1) 0).set (i+w+1) (p/4294967296)=(List.replicate w 0++(L++[p%4294967296+c]))++(p/4294967296)::List.replicate m' 0:=by rw[show List.replicate w 0++L++(p%4294967296+c)::List.replicate (m'+1) 0=(List.replicate w 0++(L++[p%4294967296+c]))++0::List.replicate m' 0 by simp[List.replicate_succ]];exact SM _ _ _ _ (by simp[hL];omega)
   rw[WJ]at Tu;apply Zz;intro b3 YC;apply Z1;apply ZX;intro b4 YZ;simp[t21,t23,a1,d1];subst YZ;apply Zz;intro b4 YZ;apply Fw (by kernel_rfl);simp[t1,t5,t6,q1,m1,m2,m3,a2,d2,Ok,HU];subst YZ;apply Zr;simp[t1,t5,t6,q1,m1,m2,Y4 (x:=i+w) (by omega),a3,Oe f4,IJ];subst YC;apply Zr;simp[t23,Y4 (x:=i) (by omega)];apply WC;refine⟨m',by omega,rfl,Ik H (EM H kH (Nat.le_refl _)) (Nat.le_refl _),i+1,p/4294967296,L++[p%4294967296+c],by omega,by simp[hL],f2,dL.append (.cons f1 (.nil _)),?_,Tu,by simp[t1],by simp[t5],by simp[t6],by simp[t21],by simp[t22],by simp⟩;rw[YW,hL,XA hi,YW,List.length_take,Nat.min_eq_left (by omega),<-Pj];simp only[dv,Nat.mul_zero,Nat.add_zero];rw[Nat.add_mul,<-heq,Nat.mul_assoc (ZV^i) x,<-hp];have e1:ZV^i*p=ZV^i*(p%ZV+ZV*(p/ZV)):=by rw[<-f3]
   rw[Nat.mul_add,<-Nat.mul_assoc,show ZV^i*ZV=ZV^(i+1)from rfl]at e1;have e2:ZV^i*(p%4294967296+c)=ZV^i*(p%ZV)+ZV^i*c:=Nat.mul_add _ _ _;have e3:ZV^(i+1)*(p/4294967296)=ZV^(i+1)*(p/ZV):=rfl;omega
  ·refine Zp (t:=false) (by simp[hi]) ?_;apply YM;apply WC;left;refine⟨rfl,?_⟩;obtain rfl:i=xs.length:=by omega
   obtain rfl:m=0:=by omega
   rw[List.take_length]at heq;obtain⟨v5,H5,M9,e5,o5,_⟩:=Xt own (by simp[hL];omega);subst e5;have D1:Y7 ZV ((List.replicate w 0++L)++[c]):=by
    refine Y7.append (Y7.append ?_ dL) (.cons ?_ (.nil _));·intro x hx;rw[List.eq_of_mem_replicate hx];decide
    ·exact Nat.lt_of_lt_of_le hc (by show 2^s<=2^32;exact Nat.pow_le_pow_right (by decide) (by omega))
   have Bl:dv ZV ((List.replicate w 0++L)++[c])=dv ZV xs*2^n:=by rw[List.append_assoc,YW,YW,SB,List.length_replicate,hL];simp only[dv,Nat.mul_zero,Nat.add_zero];rw[heq,Nat.zero_add,hnw,Nat.pow_add,Nat.pow_mul];show ZV^w*(dv ZV xs*2^s)=dv ZV xs*(ZV^w*2^s);rw[Nat.mul_left_comm]
   simp only[List.replicate_zero]at o5;rw[XN two32 D1,Bl]at o5;subst ZH;apply ZX;intro b4 YZ;simp[t5,M9];subst YZ;apply Z8;simp;exact⟨kH,o5⟩
end
theorem R6{H:AH}{bits:Nat}{ms:List (Nat×Nat×Nat)}{sz:Nat}{cs:List Value} :TT none (H.new sz cs) (grown H ((Pd H bits ms).new sz cs)):=by
 refine⟨rfl,fun j hj _=>?_⟩;have J9:j<H.n+1:=hj;rw[AH.blk_new];have e:(grown H ((Pd H bits ms).new sz cs)).blk j=if H.n<=j then((Pd H bits ms).new sz cs).blk j else H.blk j:=by
  unfold grown;show(match(TQ H.t ((Pd H bits ms).new sz cs) H.n (H.n+1-H.n)).get j with|some b=>b|none=>VA.dead)=_;rw[UC];by_cases c:H.n<=j;·rw[if_pos (by omega),if_pos c]
  ·rw[if_neg (by omega),if_neg c];rfl
 rw[e];by_cases c:j=H.n;·rw[if_pos (by omega),if_pos c,AH.blk_new,if_pos (show j=(Pd H bits ms).n from c)]
 ·rw[if_neg (by omega),if_neg c]
theorem Ra{H:AH}{bits:Nat}{ms:List (Nat×Nat×Nat)}{sz:Nat}{cs:List Value} :ZQ H (grown H ((Pd H bits ms).new sz cs)):=by refine⟨Nat.le_succ _,Nat.min_le_left _ _,fun j hj=>?_⟩;have:=(R6 (H:=H) (bits:=bits) (ms:=ms) (sz:=sz) (cs:=cs)).blk j (show j<H.n+1 by omega) (fun e=>by cases e);rw[this,AH.blk_new,if_neg (by omega)]
theorem MV{X:Xs}{P:Program}{C:Cfg}{ops:Array Oper}{k i:Nat}{q:Bool}{ms:List (Nat×Nat×Nat)}{tm:Tr Value}{H:AH}{K:Tr Value->AH->Prop}{o:Oper}{r:List Oper}(x:Nat)(hg:gW tm (ZL ops o)=some true)(hh:Zg o.op=true)(hq:q=false)(he: ∀Hv:AH,ZZ P C (ZF P C) tm Hv o.op=some (.slice (some ⟨Hv.n,0,none⟩) 1 1,Hv.new 1 [XP x]))(h: ∀G2:AH,Yl H.n G2 (.slice (some ⟨H.n,0,none⟩) 1 1) [x]->ZQ H G2->G2.n=H.n+1->match o.dst with|none=>DW X P C ops k (i+1) q ((i,H.n,H.n+1)::ms) r tm G2 K|some d=>d<k/\DW X P C ops k (i+1) q ((i,H.n,H.n+1)::ms) r (tm.set d (.slice (some ⟨H.n,0,none⟩) 1 1)) G2 K)(hf:X.fv i=none:=by first|rfl|kernel_rfl):DG X P C ops k i q ms (o::r) tm H K:=by
 refine X2 (v:= .slice (some ⟨H.n,0,none⟩) 1 1) (H2:=(Pd H ((before ops).getD i 0) ms).new 1 [XP x]) hg hh hq (he _) (Nat.le_succ _) (Nat.le_refl _) ?_ hf;have Ct:Nat.blt H.n ((Pd H ((before ops).getD i 0) ms).new 1 [XP x]).n=true:=by rw[Nat.blt_eq];exact Nat.lt_succ_self _
 rw[Ct];exact h _ ((Yl.new H [x]).same R6) Ra rfl
theorem GY{i a b:Nat}{ms:List (Nat×Nat×Nat)}(h:cond (Nat.blt a b) [(i,a,b)] []=ms): ∀x∈ms,x.1=i/\a<=x.2.1:=by intro x hx;rw[<-h]at hx;cases Cr:Nat.blt a b with|true=>rw[Cr,cond_true]at hx;simp at hx;subst hx;exact⟨rfl,Nat.le_refl _⟩|false=>rw[Cr,cond_false]at hx;cases hx
theorem O7{B R q r k:Nat}(e:R=B*q+r)(hr:r<B*2^(k+1))(hq:q+2^(k+1)<=4294967296):(B*2^k<=r->R=B*(q+2^k)+(r-B*2^k)/\r-B*2^k<B*2^k/\q+2^k+2^k<=4294967296)/\(r<B*2^k->q+2^k<=4294967296):=by
 have e2:2^(k+1)=2^k+2^k:=by rw[Nat.pow_succ];omega
 rw[e2]at hq;rw[e2,Nat.mul_add]at hr;have hp:=Nat.two_pow_pos k;refine⟨fun h=>⟨?_,by omega,by omega⟩,fun h=>by omega⟩;rw[e,Nat.mul_add];omega
theorem TX{m:Nat}(h:m<9223372036854775807):Zj .sub .i64 (m:Int) 1=some (.int .i64 ((m:Int)-1)):=by show some (Value.int .i64 (IntKind.i64.wrap ((m:Int)-1)))=_;congr 2;rw[IntKind.wrap_i64];omega
theorem PK{m:Nat} :Zj .geq .i64 ((m:Int)-1) 0=some (.bool (decide (0<m))):=by show some (Value.bool (decide ((m:Int)-1≥0)))=_;congr 2;apply decide_eq_decide.mpr;omega
theorem Mh{a b:Nat} :Zj .geq .i64 (WB a b) 0=some (.bool (decide (b<=a))):=by
 show some (Value.bool (decide (WB a b≥0)))=_;congr 2;apply decide_eq_decide.mpr;unfold WB;split;·omega
 ·split<;>omega
section
attribute [-simp] Int.natCast_add Int.natCast_mul Int.natCast_ediv Int.natCast_emod Int.natCast_pow
attribute [local simp] strip Zt YR LR gW ZZ ZO Zk ZN Zv ZM Ze Zf Zb Zw ZT Zs Zx Zc ZS Za Yd ZC Zu plain Zq Tr.get_set ZA Zd Z5 Zl sameKind undef Zh Zy ZR ZU ZD Yq Zm parts Yv Xd DW ZL Zg LX Zo
theorem Og{H:AH}{va vb:Value}{xs ys:List Nat}(ha:Sl H va xs)(hb:Sl H vb ys)(dx:Y7 ZV xs)(dy:Y7 ZV ys)(ty:ZP ys=ys)(lx:xs.length<=4000000000000)(ly:ys.length<=4000000000000)(hy:0<dv ZV ys):CW Tryz.prog Yg 93 [va,vb] H fun v' H'=>ZQ H H'/\ ∃q r,v'= .tuple #[q,r]/\Yl H.n H' q (ds ZV (dv ZV xs/dv ZV ys))/\Yl H.n H' r (ds ZV (dv ZV xs%dv ZV ys)):=by
 refine YH 60 Tryz.func93 ?_;have l1:=ha.len ZD;obtain⟨n,hn⟩:=hid (xs.length);rw[<-hn]at l1;obtain⟨B,hB⟩:=hid (dv ZV ys);rw[<-hB]at hy;have J4:B<ZV^ys.length:=by have h1:=Ve dy;rwa[<-hB]at h1
 obtain⟨c0,H1,KW,k1,o1,n1⟩:=XO (H:=H) ZD (n:=n) (by omega);apply ZX;intro b1 ZH;simp;subst ZH;apply ZX;intro b1 ZH;simp;subst ZH;apply ZX;intro b1 ZH;simp[l1,KW];subst ZH;apply Zz;intro b1 ZH;apply ZX;intro b2 Yy;simp[l1,TX (m:=n) (by omega)];subst Yy;apply Z1;refine Y8 (fun m s'=>s'.k=60/\ZQ H s'.H/\m<=n/\ ∃(L:List Nat) (R:Nat) (rv:Value),L.length+m=n/\Y7 ZV L/\R<B/\dv ZV (xs.drop m)=B*dv ZV L+R/\Yl H.n s'.H c0 (List.replicate m 0++L)/\H1.n<=s'.H.n/\Yl H1.n s'.H rv (ds ZV R)/\s'.tm.get 0=some va/\s'.tm.get 1=some vb/\s'.tm.get 6=some rv/\s'.tm.get 7=some c0/\s'.tm.get 8=some (.int .i64 ((m:Int)-1))) ?_ n _ ⟨rfl,k1,Nat.le_refl _,[],0,.slice none 0 0,by simp,.nil _,hy,by simp[hn,dv],by simpa using o1,Nat.le_refl _,by rw[Y1];exact .nil,by simp,by simp,by simp,by simp,by simp⟩;rintro m ⟨k,tm,H2⟩ ⟨hk,kH,hm,L,R,rv,hL,dL,hR,heq,own,CK,ro,t0,t1,t6,t7,t8⟩ Q' WC;simp only at hk kH own CK ro t0 t1 t6 t7 t8;subst hk;apply Zz;intro b3 YC;apply ZX;intro b4 YZ;simp[t8,PK];subst YZ;by_cases Fb:m=0
 ·subst Fb;refine Zp (t:=false) (by simp) ?_;apply YM;apply WC;left;refine⟨rfl,?_⟩;simp at own heq;have hdiv:dv ZV xs/B=dv ZV L:=by rw[heq,Nat.mul_add_div hy,Nat.div_eq_of_lt hR,Nat.add_zero]
  have Gk:dv ZV xs%B=R:=by rw[heq,Nat.mul_add_mod,Nat.mod_eq_of_lt hR]
  obtain⟨v5,H5,M9,e5,o5,_⟩:=Xt own (by omega);subst e5;rw[XN two32 dL]at o5;subst ZH;apply ZX;intro b4 YZ;simp[t6,t7,M9];subst YZ;apply Z8;simp;rw[<-hB,hdiv,Gk];exact⟨kH,v5,rv,⟨rfl,rfl⟩,o5,ro.mono k1.n (.refl _)⟩
 ·refine Zp (t:=true) (by simp;omega) ?_;apply ZE;subst YC;obtain⟨i,rfl⟩: ∃i,m=i+1:=⟨m-1,by omega⟩;have em:((i+1:Nat):Int)-1=(i:Int):=by omega
  rw[em]at t8;have hi:i<xs.length:=by omega
  have hx:xs[i]<ZV:=dx.get (List.getElem?_eq_getElem hi);have Hj:xs.drop i=xs[i]::xs.drop (i+1):=List.drop_eq_getElem_cons hi;have lR:(ds ZV R).length<=ys.length:=YJ two32 (Nat.lt_trans hR J4);obtain⟨v1,H3,OW,k3,o3⟩:=Sp (H:=H2.top) ro.sl.top (Xo two32 R) (by omega) (n:=32) (by decide);have Cu:ZF Tryz.prog Yg 116 [rv,.int .i64 32] H2.top=some (v1,H3):=OW;rw[X5 two32]at o3;obtain⟨G1,JW⟩:=hid (grown H2 H3);have JR:ZQ H2 G1:=by rw[JW];exact Xb (.refl H2) k3
  have DR:Yl H2.n G1 v1 (ds ZV (R*2^32)):=by rw[JW];exact o3.same (Vj k3)
  have h3n:H2.n<=H3.n:=k3.n;have nG1:G1.n=H3.n:=by rw[JW];rfl
  obtain⟨x,Pj⟩:=hid (xs[i]);rw[<-Pj]at hx Hj;have a1:YS Tryz.prog 48 va (.int .i64 (i:Int))=some (adr va i):=ha.adr ZD hi;apply Zz;intro b3 YC;apply Z1;apply Zz;intro b4 YZ;apply SJ (by kernel_rfl);simp[t6];refine X2 (v:=v1) (H2:=H3) rfl rfl rfl (by rw[YD rfl];simp[t6,Cu]) h3n (Wj k3) ?_;rw[<-JW];generalize hms:cond (Nat.blt H2.n H3.n) _ _=ms;have Gl:=GY hms;simp[t0,t8,a1];have Rg:=fun bits=>(ha.keep (kH.trans (Uc (bits:=bits) JR fun x hx=>(Gl x hx).2))).load hi;rw[<-Pj]at Rg;refine YG (v:= .int .u64 (x:Int)) rfl rfl rfl (by simp[Rg]) ?_;simp;refine MV x rfl rfl rfl (fun Hv=>by simp[UP _ ZD]) ?_;intro G2 oG2 Hu nG2;obtain⟨v7,H7,Cv,e7,o7,_⟩:=Xt oG2.top (by simp);subst e7;have BL:Yl H2.n G2 v1 (ds ZV (R*2^32)):=DR.m Hu;have h1x:Y7 ZV [x]:= .cons hx (.nil _);have Cl:R*2^32<ZV^(ys.length+1):=by have:R*2^32<ZV^ys.length*2^32:=Nat.mul_lt_mul_of_pos_right (Nat.lt_trans hR J4) (by decide);rw[show ZV^(ys.length+1)=ZV^ys.length*ZV from rfl,show ZV=2^32 by decide];exact this
  obtain⟨v8,H8,hc8,k8,o8⟩:=Of (H:=G2.top) BL.sl.top o7.sl (Xo two32 _) (Vq h1x) (Nat.le_trans (YJ two32 (k:=ys.length+1) Cl) (by omega)) (by have:=WV [x];simp at this;omega);rw[X5 two32,Vf,show dv ZV [x]=x by simp[dv]]at o8;obtain⟨G3,FA⟩:=hid (grown G2 H8);have DV:ZQ G2 G3:=by rw[FA];exact Xb (.refl G2) k8
  obtain⟨R1,Ak⟩:=hid (R*2^32+x);rw[<-Ak]at o8;have o8':Yl G2.n G3 v8 (ds ZV R1):=by rw[FA];exact o8.same (Vj k8)
  have h8n:G2.n<=H8.n:=k8.n;simp;refine YG (v:=v7) rfl rfl rfl ?_ ?_
  ·rw[YD (VU fun x hx=>?_)];·simp[Cv]
   ·rcases List.mem_cons.mp hx with e|e;·rw[e];kernel_rfl
    ·rw[(Gl x e).1];kernel_rfl
  simp;refine X2 (v:=v8) (H2:=H8) rfl rfl rfl ?_ h8n (Wj k8) ?_
  ·rw[YD (VU fun x hx=>?_)];·simp[hc8]
   ·rcases List.mem_cons.mp hx with e|e;·rw[e];kernel_rfl
    ·rw[(Gl x e).1];kernel_rfl
  rw[<-FA];simp;subst YZ;have JQ:ZQ H G3:=((kH.trans JR).trans Hu).trans DV;have Q7:=own.mono (Nat.le_refl _) ((JR.trans Hu).trans DV);have DQ:Yl H1.n G3 v8 (ds ZV R1):=o8'.mono (by have:=JR.n;have:=Hu.n;omega) (.refl G3);have Fu:R1<B*2^32:=by have h1:(R+1)*2^32<=B*2^32:=Nat.mul_le_mul_right _ hR;have h2:x<2^32:=hx;rw[Nat.succ_mul]at h1;omega
  apply ZX;intro b4 YZ;simp;subst YZ;refine SW (fun s'=>s'.k=60/\ZQ G3 s'.H/\ ∃(q r:Nat) (Jo:Value),q<4294967296/\R1=B*q+r/\r<B/\Yl H1.n s'.H Jo (ds ZV r)/\s'.tm.get 0=some va/\s'.tm.get 1=some vb/\s'.tm.get 6=some Jo/\s'.tm.get 7=some c0/\s'.tm.get 8=some (.int .i64 (i:Int))/\s'.tm.get 9=some (.int .u64 (q:Int))) ?_ ?_
  ·intro B6 O5;have Al:=hb.keep JQ;have hB1:(ds ZV R1).length<=ys.length+1:=YJ two32 (by have h2:B*2^32<ZV^ys.length*2^32:=Nat.mul_lt_mul_of_pos_right J4 (by decide);rw[show ZV^(ys.length+1)=ZV^ys.length*ZV from rfl,show ZV=2^32 by decide];rw[show ZV=2^32 by decide]at h2;exact Nat.lt_trans Fu h2);obtain⟨v9,H9,Ao,e9,e9'⟩:=V8 DQ.sl Al (Xo two32 R1) dy (Uh two32 R1) ty (by omega) (by omega);subst e9;subst e9';rw[X5 two32,<-hB]at Ao;apply ZX;intro b4 YZ;simp[t1,Ao,Mh];subst YZ;by_cases Th:B<=R1
   ·refine Zp (t:=true) (by simp[Th]) ?_;apply ZX;intro b4 YZ;simp;subst YZ;apply Z1;refine Y8 (fun kk s'=>s'.k=60/\ZQ H9 s'.H/\kk<=32/\ ∃(q r:Nat) (Jo:Value),q+2^kk<=4294967296/\R1=B*q+r/\r<B*2^kk/\Yl H1.n s'.H Jo (ds ZV r)/\s'.tm.get 0=some va/\s'.tm.get 1=some vb/\s'.tm.get 6=some Jo/\s'.tm.get 7=some c0/\s'.tm.get 8=some (.int .i64 (i:Int))/\s'.tm.get 9=some (.int .u64 (q:Int))/\s'.tm.get 10=some (.int .i64 ((kk:Int)-1))) ?_ 32 _ ⟨rfl,.refl _,Nat.le_refl _,0,R1,v8,by decide,by simp,Fu,DQ,by simp[t0],by simp[t1],by simp,by simp[t7],by simp[t8],by simp,by simp⟩;clear t0 t1 t6 t7 t8;rintro kk ⟨k,tm,H4⟩ ⟨hk,k4,hkk,q,r,Jo,hq,Fe,hr,GS,t0,t1,t6,t7,t8,t9,t10⟩ Q5 G6;simp only at hk k4 GS t0 t1 t6 t7 t8 t9 t10;subst hk;apply Zz;intro b5 Pf;apply ZX;intro b6 Rc;simp[t10,PK];subst Rc;by_cases JU:kk=0;·subst JU;refine Zp (t:=false) (by simp) ?_;apply YM;apply G6;left;exact⟨rfl,O5 _ ⟨rfl,k4,q,r,Jo,by omega,Fe,by simpa using hr,GS,by simp[t0],by simp[t1],by simp[t6],by simp[t7],by simp[t8],by simp[t9]⟩⟩
    ·refine Zp (t:=true) (by simp;omega) ?_;apply ZE;subst Pf;obtain⟨s,rfl⟩: ∃s,kk=s+1:=⟨kk-1,by omega⟩;have es:((s+1:Nat):Int)-1=(s:Int):=by omega
     rw[es]at t10;obtain⟨BH,E9⟩:=O7 Fe hr hq;have Co:=Al.keep k4;obtain⟨v5,H5,M9,k5,o5⟩:=Sp (H:=H4) Co dy (by omega) (n:=s) (by omega);rw[<-hB]at o5;have BK:=GS.m k5;have rlt:r<=R1:=by rw[Fe];omega
     have lr:(ds ZV r).length<=ys.length+1:=by have h1:=N9 two32 R1;have h2:ZV^(ds ZV R1).length<=ZV^(ys.length+1):=Nat.pow_le_pow_right (by decide) hB1;exact YJ two32 (by omega)
     have lbs:(ds ZV (B*2^s)).length<=ys.length+1:=YJ two32 (by have h1:B*2^s<=B*2^32:=Nat.mul_le_mul_left _ (Nat.pow_le_pow_right (by decide) (by omega));have h2:B*2^32<ZV^ys.length*2^32:=Nat.mul_lt_mul_of_pos_right J4 (by decide);rw[show ZV^(ys.length+1)=ZV^ys.length*ZV from rfl,show ZV=2^32 by decide];rw[show ZV=2^32 by decide]at h2;exact Nat.lt_of_le_of_lt h1 h2);obtain⟨v6,H6,An,e6,e6'⟩:=V8 BK.sl o5.sl (Xo two32 r) (Xo two32 _) (Uh two32 r) (Uh two32 _) (by omega) (by omega);subst e6;subst e6';rw[X5 two32,X5 two32]at An;apply Zz;intro b5 Pf;apply Z1;apply ZX;intro b6 Rc;simp[t1,t10,M9];subst Rc;apply ZX;intro b6 Rc;simp[t6,An,Mh];subst Rc;by_cases hs:B*2^s<=r
     ·obtain⟨g1,g2,g3⟩:=BH hs;obtain⟨v7,H7,Cv,k7,o7⟩:=Oj BK.sl o5.sl (Xo two32 r) (Xo two32 _) (by omega) (by rw[X5 two32,X5 two32];exact hs);rw[X5 two32,X5 two32]at o7;have sp:=Nat.two_pow_pos s;have m1:Yr .shl .u64 1 (s:Int)=some (.int .u64 ((2^s:Nat):Int)):=by have:=TZ (x:=1) (s:=s) (by omega);rw[Nat.one_mul,Nat.mod_eq_of_lt (by show _<18446744073709551616;omega)]at this;exact this
      have m2:Zj .add .u64 (q:Int) ((2^s:Nat):Int)=some (.int .u64 ((q+2^s:Nat):Int)):=Xm (by show _<18446744073709551616;omega);refine Zp (t:=true) (by simp[hs]) ?_;apply ZX;intro b6 Rc;simp[t6,Cv];subst Rc;apply Zr;simp[t9,t10,m1,m2];subst Pf;apply Zr;simp[t10,TX (m:=s) (by omega)];apply G6;exact⟨s,Nat.lt_succ_self s,rfl,(k4.trans k5).trans k7,by show s<=32;omega,q+2^s,r-B*2^s,v7,g3,g1,g2,o7.mono (by have:=JR.n;have:=Hu.n;have:=DV.n;have:=k4.n;have:=k5.n;omega) (.refl _),by simp[t0],by simp[t1],by simp,by simp[t7],by simp[t8],by simp,by simp⟩
     ·refine Zp (t:=false) (by simp[hs]) ?_;apply ZE;subst Pf;apply Zr;simp[t10,TX (m:=s) (by omega)];apply G6;exact⟨s,Nat.lt_succ_self s,rfl,k4.trans k5,by show s<=32;omega,q,r,Jo,E9 (by omega),Fe,by omega,BK,by simp[t0],by simp[t1],by simp[t6],by simp[t7],by simp[t8],by simp[t9],by simp⟩
   ·refine Zp (t:=false) (by simp[Th]) ?_;apply ZE;apply O5;exact⟨rfl,.refl _,0,R1,v8,by decide,by simp,by omega,DQ,by simp[t0],by simp[t1],by simp,by simp[t7],by simp[t8],by simp⟩
  clear t0 t1 t6 t7 t8;rintro⟨k,tm,H4⟩ ⟨hk,k4,q,r,Jo,hq,Fe,hr,GS,t0,t1,t6,t7,t8,t9⟩;simp only at hk k4 GS t0 t1 t6 t7 t8 t9;subst hk;have Tu:=Q7.m k4;have Bc:List.replicate (i+1) 0++L=List.replicate i 0++0::L:=by rw[List.replicate_succ'];simp
  rw[Bc]at Tu;have a3:=Tu.sl.adr ZD (k:= .i64) (i:=i) (by simp);obtain⟨H5,BG,E3,n5,b5,BX⟩:=Tu.put (i:=i) (by simp) q;rw[SM _ _ _ _ (by simp)]at E3;have bt5:TT (XV c0) H4 H5:=⟨n5,fun j _ hj=>b5 j hj⟩;have ap:LK c0 Jo:=MS o1 GS (Nat.le_refl _);apply Zr;simp[t7,t8,t9,a3,BG];subst YC;apply Zr;simp[t8,TX (m:=i) (by omega)];apply WC;refine⟨i,Nat.lt_succ_self i,rfl,BX H (JQ.trans k4) (Nat.le_refl _),by show i<=n;omega,q::L,r,Jo,by simp;omega,.cons hq dL,hr,?_,E3,by rw[n5];have:=JR.n;have:=Hu.n;have:=DV.n;have:=k4.n;omega,GS.but bt5 ap,by simp[t0],by simp[t1],by simp[t6],by simp[t7],by simp⟩;rw[Hj];simp only[dv];rw[heq,Nat.mul_add ZV,Nat.mul_add B,Nat.mul_left_comm B ZV];rw[Fe]at Ak;have e1:R*2^32=ZV*R:=by rw[Nat.mul_comm]
  omega
end
theorem DK:XT Tryz.prog 27=some false:=by kernel_rfl
structure Fp (n0 : Nat) (H : AH) (b : Nat) (vs : List Value) (f : Nat -> List Nat) : Prop where
  lo : n0 <= b
  hi : b < H.n
  blk : H.blk b = .rw 1 vs
  own : ∀ (i : Nat) (v : Value), vs[i]? = some v -> Yl n0 H v (f i)
  ap : ∀ (i j : Nat) (v w : Value), i ≠ j -> vs[i]? = some v -> vs[j]? = some w -> LK v w
  out : ∀ (i : Nat) (v : Value), vs[i]? = some v -> XV v ≠ some b
theorem Yl.isSlice{n0:Nat}{H:AH}{v:Value}{xs:List Nat}(h:Yl n0 H v xs):v.cells=#[v]/\one v=true:=by cases h<;>exact⟨rfl,rfl⟩
section
variable {n0 : Nat} {H : AH} {b : Nat} {vs : List Value} {f : Nat -> List Nat}
theorem Fp.load(g:Fp n0 H b vs f){i:Nat}(hi:i<vs.length):Yk Tryz.prog H 27 (.pointer (some ⟨b,i,none⟩))=some vs[i]:=by unfold Yk;simp only[DK];unfold AH.cells;rw[g.blk];exact List.getElem?_eq_getElem hi
theorem Fp.step(g:Fp n0 H b vs f){H':AH}{i:Nat}(hi:i<vs.length){ys:List Nat}(bt:TT (XV vs[i]) H H')(o:Yl n0 H' vs[i] ys):Fp n0 H' b vs (fun j=>if j=i then ys else f j):=by
 have gi:vs[i]?=some vs[i]:=List.getElem?_eq_getElem hi;refine⟨g.lo,by rw[bt.n];exact g.hi,by rw[bt.blk b g.hi (g.out i _ gi)];exact g.blk,fun j v hj=>?_,g.ap,g.out⟩;by_cases e:j=i;·subst e;rw[if_pos rfl];obtain rfl:=Option.some.inj (gi.symm.trans hj);exact o
 ·rw[if_neg e];exact(g.own j v hj).but bt fun c hc=>g.ap i j _ _ (Ne.symm e) gi hj c hc
end
def RS(b:Nat)(vs:List Value)(H H':AH):Prop:=H.n<=H'.n/\ ∀j,j<H.n->j≠b->(∀v∈vs,XV v≠some j)->H'.blk j=H.blk j
theorem RS.refl(b:Nat)(vs:List Value)(H:AH):RS b vs H H:=⟨Nat.le_refl _,fun _ _ _ _=>rfl⟩
theorem RS.trans{b:Nat}{vs:List Value}{H H1 H2:AH}(x:RS b vs H H1)(y:RS b vs H1 H2):RS b vs H H2:=⟨Nat.le_trans x.1 y.1,fun j hj h1 h2=>(y.2 j (Nat.lt_of_lt_of_le hj x.1) h1 h2).trans (x.2 j hj h1 h2)⟩
theorem RS.but{b i:Nat}{vs:List Value}{v:Value}{H H':AH}(hi:vs[i]?=some v)(bt:TT (XV v) H H'):RS b vs H H':=⟨Nat.le_of_eq bt.n.symm,fun j hj _ h2=>bt.blk j hj (h2 v (List.mem_of_getElem? hi))⟩
theorem RS.mod{b i:Nat}{vs:List Value}{v:Value}{H H4 H5:AH}(hi:vs[i]?=some v)(md:Mod (XV v) H H4)(h5:H5.n=H4.n/\ ∀j,j≠b->H5.blk j=H4.blk j):RS b vs H H5:=⟨by have:=md.n;omega,fun j hj h1 h2=>(h5.2 j h1).trans (md.blk j hj (h2 v (List.mem_of_getElem? hi)))⟩
theorem N8{n:Nat}(h:n<ZB):UZ Tryz.prog 3 82 (.int .i64 (n:Int))=some (.int .u64 (n:Int)):=by
 have h:n<18446744073709551616:=h;have e:IntKind.u64.wrap (n:Int)=(n:Int):=by rw[IntKind.wrap_u64];omega
 unfold UZ;simp only[Tryz.underlying3,Tryz.underlying82,e]
section
attribute [-simp] Int.natCast_add Int.natCast_mul Int.natCast_ediv Int.natCast_emod Int.natCast_pow
attribute [local simp] strip Zt YR LR gW ZZ ZO Zk ZN Zv ZM Ze Zf Zb Zw ZT Zs Zx Zc ZS Za Yd ZC Zu plain Zq Tr.get_set ZA Zd Z5 Zl sameKind undef Zh Zy ZR ZU ZD Yq Zm parts Yv Xd DW ZL Zg LX Zo
end
inductive ET where|node(op:Int)(neg:Bool)(abs den:List Nat)(args:List ET)
mutual def ET.nodes:ET->Nat| .node _ _ _ _ args=>1+V6 args def V6:List ET->Nat|[]=>0|t::ts=>t.nodes+V6 ts end
mutual def ET.depth:ET->Nat| .node _ _ _ _ args=>max 1 (PV args) def PV:List ET->Nat|[]=>0|t::ts=>max (t.depth+1) (PV ts) end
def arity(n:Nat):Nat:=[0,0,1,2,2,2,2,1,2,2,1,1,1,1,1,1][n]?.getD 0
def ET.good:ET->Bool| .node op neg abs den args=>decide (0<=op/\op<16/\args.length=arity op.toNat)&&(if op=0 then decide (0<dv ZB den)else decide (abs.length=0)&&decide (den.length=0)&&!neg)
mutual def ET.allGood:ET->Bool| .node op neg abs den args=>(ET.node op neg abs den args).good&&Mi args def Mi:List ET->Bool|[]=>true|t::ts=>t.allGood&&Mi ts end
mutual def ET.wide(L:Nat):ET->Prop| .node _ _ abs den args=>abs.length<=L/\den.length<=L/\Y7 ZB abs/\Y7 ZB den/\MW L args def MW(L:Nat):List ET->Prop|[]=>True|t::ts=>t.wide L/\MW L ts end
theorem Lm(t:ET):0<t.nodes:=by cases t;simp only[ET.nodes];omega
theorem Q1{xs:List ET}{i:Nat}{t:ET}(hi:xs[i]?=some t):t.nodes<=V6 xs:=by induction xs generalizing i with
 |nil=>simp at hi
 |cons x xs ih=>cases i with|zero=>simp at hi;subst hi;simp[V6]|succ i=>simp at hi;have:=ih hi;simp only[V6];omega
mutual inductive Ex(H:AH):List Value->ET->Prop|mk{op:Int}{neg:Bool}{va vd vx:Value}{abs den:List Nat}{args:List ET} :Sl H va abs->Sl H vd den->Xs H vx args->Ex H [.int .i64 op,.bool neg,va,vd,vx] (.node op neg abs den args) inductive Xs(H:AH):Value->List ET->Prop|nil:Xs H (.slice none 0 0) []|emp(b:Nat):Xs H (.slice (some ⟨b,0,some 0⟩) 0 0) []|mk(b o cap:Nat){cs:List Value}{args:List ET} :b<H.n->H.cells b=some cs->args.length<=cap->(∀(i:Nat)(t:ET),args[i]?=some t->Ex H ((cs.drop (o+i*5)).take 5) t)->Xs H (.slice (some ⟨b,o,none⟩) args.length cap) args end
theorem UO{H H':AH}(k:ZQ H H'){b:Nat}(hb:b<H.n):H'.cells b=H.cells b:=by unfold AH.cells;rw[k.blk b hb]
theorem Il{H H':AH}(k:ZQ H H'): ∀n(t:ET),t.nodes<=n-> ∀vs,Ex H vs t->Ex H' vs t:=by intro n;induction n with
 |zero=>intro t h;have:=Lm t;omega
 |succ n ih=>intro t h vs hx;cases hx with
  |mk h1 h2 h3=>simp only[ET.nodes]at h;refine .mk (h1.keep k) (h2.keep k) ?_;cases h3 with
   |nil=>exact .nil
   |emp b=>exact .emp b
   |mk b o cap hb hc hl hf=>
    rename_i cs;refine .mk b o cap (cs:=cs) (Nat.lt_of_lt_of_le hb k.n) ?_ hl fun i t hi=>?_;·rw[UO k hb];exact hc
    ·have:=Q1 hi;exact ih t (by omega) _ (hf i t hi)
theorem Ex.keep{H H':AH}{vs:List Value}{t:ET}(h:Ex H vs t)(k:ZQ H H'):Ex H' vs t:=Il k _ t (Nat.le_refl _) vs h
theorem Xs.len{H:AH}{v:Value}{args:List ET}(h:Xs H v args):RL Tryz.prog 33 v=some args.length:=by
 have u:Tryz.prog.underlying 33=some (.slice 35):=by kernel_rfl
 unfold RL;rw[u];cases h<;>rfl
theorem Fy:XT Tryz.prog 35=some true:=by kernel_rfl
theorem HV:YE Tryz.prog 35=some 5:=by kernel_rfl
theorem DJ:XT Tryz.prog 28=some false:=by kernel_rfl
theorem I5:XT Tryz.prog 4=some false:=by kernel_rfl
theorem Vm{H:AH}{t:TypeId}(ht:XT Tryz.prog t=some false){b o:Nat}{cs:List Value}{v:Value}(h:H.cells b=some cs)(hk:cs[o]?=some v):Yk Tryz.prog H t (.pointer (some ⟨b,o,none⟩))=some v:=by unfold Yk;simp only[ht,h,hk]
theorem Lj{H:AH}{b o:Nat}{cs vs:List Value}(h:H.cells b=some cs)(hk:(cs.drop o).take 5=vs)(hl:vs.length=5):Yk Tryz.prog H 35 (.pointer (some ⟨b,o,none⟩))=some (.agg vs.toArray):=by
 unfold Yk;simp only[Fy,HV,AH.read_def,h];have:o+5<=cs.length:=by have:=congrArg List.length hk;rw[List.length_take,List.length_drop,hl]at this;omega
 rw[Nat.ble_eq.mpr this,cond_true,hk]
theorem Ex.len{H:AH}{vs:List Value}{t:ET}(h:Ex H vs t):vs.length=5:=by cases h;rfl
theorem Xs.at{H:AH}{v:Value}{args:List ET}(h:Xs H v args){i:Nat}{t:ET}(hi:args[i]?=some t): ∃(p:Value) (vs:List Value),YS Tryz.prog 33 v (.int .i64 (i:Int))=some p/\(∀H',ZQ H H'->Yk Tryz.prog H' 35 p=some (.agg vs.toArray))/\Ex H vs t:=by
 have u:Tryz.prog.underlying 33=some (.slice 35):=by kernel_rfl
 have Z3:i<args.length:=by
  rcases Nat.lt_or_ge i args.length with h'|h';·exact h'
  ·rw[List.getElem?_eq_none h']at hi;cases hi
 cases h with|nil=>simp at hi|emp b=>simp at hi|mk b o cap hb hc hl hf=>have hE:=hf i t hi;refine⟨.pointer (some ⟨b,o+i*5,none⟩),_,?_,fun H' k=>Lj ((UO k hb).trans hc) rfl hE.len,hE⟩;unfold YS;simp only[u,HV];rw[if_pos (by omega)];simp
theorem FL(b o:Nat):Yp Tryz.prog 30 (.pointer (some ⟨b,o,none⟩)) 0=some (.pointer (some ⟨b,o,none⟩)):=by kernel_rfl
theorem FM(b o:Nat):Yp Tryz.prog 30 (.pointer (some ⟨b,o,none⟩)) 1=some (.pointer (some ⟨b,o+1,none⟩)):=by kernel_rfl
theorem Qf(H:AH)(sz:Nat)(cs:List Value)(hz:sz≠0:=by decide):(H.new sz cs).cells H.n=some cs:=AH.cells_rw' (by rw[AH.blk_new,if_pos rfl]) hz
def RowsIn(H:AH):Prop:=1<H.n/\H.cells 1=some Xg
theorem RowsIn.keep{H H':AH}(h:RowsIn H)(k:ZQ H H'):RowsIn H':=⟨Nat.lt_of_lt_of_le h.1 k.n,by rw[UO k h.1];exact h.2⟩
section
attribute [-simp] Int.natCast_add Int.natCast_mul Int.natCast_ediv Int.natCast_emod Int.natCast_pow
attribute [local simp] strip Zt YR LR gW ZZ ZO Zk ZN Zv ZM Ze Zf Zb Zw ZT Zs ZI Zi Zx Zc Za ZJ ZK Yo Zn ZS Yd ZC Zu plain Zq Tr.get_set ZA Zd Z5 Zl sameKind undef Zh Zy ZR ZU Zm parts Xd DW ZL Zg LX Zo
end
def LV(n0:Nat)(H H1:AH):Prop:= ∀H0,ZQ H0 H->H0.n<=n0->ZQ H0 H1
theorem LV.refl(n0:Nat)(H:AH):LV n0 H H:=fun _ k _=>k
theorem LV.trans{n0:Nat}{H H1 H2:AH}(a:LV n0 H H1)(b:LV n0 H1 H2):LV n0 H H2:=fun H0 k h=>b H0 (a H0 k h) h
section
attribute [-simp] Int.natCast_add Int.natCast_mul Int.natCast_ediv Int.natCast_emod Int.natCast_pow
attribute [local simp] strip Zt YR LR gW ZZ ZO Zk ZN Zv ZM Ze Zf Zb Zw ZT Zs ZI Zi Zx Zc Za ZJ ZK Yo Zn ZS Yd ZC Zu plain Zq Tr.get_set ZA Zd Z5 Zl sameKind undef Zh Zy ZR ZU Zm parts Xd DW ZL Zg LX Zo
end
structure Qw (H : AH) (vs : List Value) (t : ET) : Prop where
  ex : Ex H vs t
  rows : RowsIn H
  wide : t.wide 1048576
  nodes : t.nodes <= 2000000
theorem Qw.keep{H H':AH}{vs:List Value}{t:ET}(h:Qw H vs t)(k:ZQ H H'):Qw H' vs t:=⟨h.ex.keep k,h.rows.keep k,h.wide,h.nodes⟩
section
attribute [-simp] Int.natCast_add Int.natCast_mul Int.natCast_ediv Int.natCast_emod Int.natCast_pow
attribute [local simp] strip Zt YR LR gW ZZ ZO Zk ZN Zv ZM Ze Zf Zb Zw ZT Zs ZI Zi Zx Zc Za ZJ ZK Yo Zn ZS Yd ZC Zu plain Zq Tr.get_set ZA Zd Z5 Zl sameKind undef Zh Zy ZR ZU Zm parts Xd DW ZL Zg LX Zo
section
variable {H : AH} {vs : List Value} {t : ET}
end
section
variable {H : AH} {vs : List Value} {t : ET}
end
end
abbrev Su:Nat:=2000000000000
theorem T5{B:Nat}(hB:2<=B){n m:Nat}(h:n<=m):(ds B n).length<=(ds B m).length:=YJ hB (Nat.lt_of_le_of_lt h (N9 hB m))
theorem OD{B n:Nat}(hB:2<=B):0<(ds B n).length↔0<n:=by
 constructor
 ·intro h;rcases Nat.eq_zero_or_pos n with h0|h0;·subst h0;rw[Y1]at h;cases h
  ·exact h0
 ·intro h;rw[W7 hB (by omega)];simp
theorem PU{B n:Nat}(hB:2<=B):(ds B n).length=0↔n=0:=by have:=OD (n:=n) hB;omega
theorem D2{x:Nat}(h:x<ZB):Y7 ZB [x]:= .cons h (.nil _)
theorem dv1(x:Nat):dv ZB [x]=x:=by simp[dv]
section
attribute [-simp] Int.natCast_add Int.natCast_mul Int.natCast_ediv Int.natCast_emod Int.natCast_pow
attribute [local simp] strip Zt YR LR gW ZZ ZO Zk ZN Zv ZM Ze Zf Zb Zw ZT Zs Zx Zc ZS Za Yd ZC Zu plain Zq Tr.get_set ZA Zd Z5 Zl sameKind undef Zh Zy ZR ZU ZD Yq Zm parts Yv Xd DW ZL Zg LX Zo
theorem Pz(H:AH){t:TypeId}(ht:LT t)(x:Nat): ∃v N,Y6 Tryz.prog H t 1 [(0,.int .u64 (x:Int))]=some (v,N)/\ZQ H N/\Yl H.n N v [x]:=⟨_,_,UP H ht x,.new _ _ _,Yl.new H [x]⟩
theorem T2{H:AH}{v:Value}{N:Nat}(h:Sl H v (ds ZV N)):ZF Tryz.prog Yg 91 [v] H=some (.bool (decide (N=0)),H):=by obtain⟨_,_,hc,rfl,rfl⟩:=LZ h;rw[hc];congr 3;exact decide_eq_decide.mpr (PU two32)
theorem V9{H:AH}{va vb:Value}{A B:Nat}(ha:Sl H va (ds ZV A))(hb:Sl H vb (ds ZV B))(lA:(ds ZV A).length<=2*Su)(lB:(ds ZV B).length<=2*Su)(hB:0<B): ∃q r H',ZF Tryz.prog Yg 93 [va,vb] H=some (.tuple #[q,r],H')/\ZQ H H'/\Yl H.n H' q (ds ZV (A/B))/\Yl H.n H' r (ds ZV (A%B)):=by obtain⟨v,H',hc,k,q,r,e,o1,o2⟩:=Og ha hb (Xo two32 A) (Xo two32 B) (Uh two32 B) (Nat.le_trans lA (by decide)) (Nat.le_trans lB (by decide)) (by rw[X5 two32];exact hB);subst e;rw[X5 two32,X5 two32]at o1 o2;exact⟨q,r,H',hc,k,o1,o2⟩
section
variable {H : AH} {va vb : Value} {A B : Nat}
theorem Oh(ha:Sl H va (ds ZV A))(hb:Sl H vb (ds ZV B))(lA:(ds ZV A).length<=2*Su)(lB:(ds ZV B).length<=2*Su):CW Tryz.prog Yg 92 [va,vb] H fun v H'=>ZQ H H'/\Sl H' v (ds ZV (Nat.gcd A B)):=by
 refine YH 19 Tryz.func92 ?_;apply ZX;intro b1 ZH;simp;subst ZH;apply Zz;intro b1 ZH;apply Z1;refine Y8 (fun m s'=>s'.k=19/\ZQ H s'.H/\ ∃(a:Nat) (av bv:Value),Nat.gcd a m=Nat.gcd A B/\(ds ZV a).length<=2*Su/\(ds ZV m).length<=2*Su/\Sl s'.H av (ds ZV a)/\Sl s'.H bv (ds ZV m)/\s'.tm.get 0=some av/\s'.tm.get 1=some bv) ?_ B _ ⟨rfl,.refl H,A,va,vb,rfl,lA,lB,ha,hb,by simp,by simp⟩;rintro m ⟨k,tm,H3⟩ ⟨hk,k3,a,av,bv,hg,la,lm,oa,ob,t0,t1⟩ Q' WC;simp only at hk k3 oa ob t0 t1;subst hk;have z:=T2 ob;apply Zz;intro b3 YC;apply ZX;intro b4 YZ;simp[t1,z];subst YZ;by_cases hm:m=0;·refine Zp (t:=false) (by simp[hm]) ?_;apply YM;apply WC;left;refine⟨rfl,?_⟩;subst hm;rw[Nat.gcd_zero_right]at hg;subst ZH;apply ZX;intro b4 YZ;simp[t0];subst YZ;apply Z8;simp;rw[<-hg];exact⟨k3,oa⟩
 ·refine Zp (t:=true) (by simp[hm]) ?_;apply ZE;subst YC;obtain⟨q,r,H4,c4,k4,oq,orr⟩:=V9 oa ob la lm (by omega);apply Z1;apply ZX;intro b3 YC;simp[t0,t1,c4];subst YC;apply Zr;simp[t1];apply WC;refine⟨a%m,Nat.mod_lt _ (by omega),rfl,k3.trans k4,m,bv,r,?_,lm,Nat.le_trans (T5 two32 (Nat.mod_le a m)) la,ob.keep k4,orr.sl,by simp,by simp⟩;rw[<-hg,Nat.gcd_comm a m,Nat.gcd_rec m a,Nat.gcd_comm]
theorem Mu{H:AH}{v:Value}{xs:List Nat}(h:Sl H v xs)(dx:Y7 ZB xs)(hl:xs.length<=Su): ∃v' H',ZF Tryz.prog Yg 53 [v] H=some (v',H')/\ZQ H H'/\Yl H.n H' v' (ds ZV (dv ZB xs))/\(ds ZV (dv ZB xs)).length<=2*Su:=by
 obtain⟨v',H',hc,k,o⟩:=Iv h dx (Nat.le_trans hl (by decide));refine⟨v',H',hc,k,o,?_⟩;have h1:dv ZB xs<ZV^(2*xs.length):=by have:=Ve (UL dx);rwa[TJ,VV]at this
 have:=YJ two32 h1;have hl:xs.length<=2000000000000:=hl;show _<=2*2000000000000;omega
end
end
inductive RT where|node(op:Int)(neg:Bool)(N D:Nat)(bad:Bool)(args:List RT)
mutual def RT.nodes:RT->Nat| .node _ _ _ _ _ args=>1+Vp args def Vp:List RT->Nat|[]=>0|t::ts=>t.nodes+Vp ts end
mutual def RT.depth:RT->Nat| .node _ _ _ _ _ args=>Qk args+1 def Qk:List RT->Nat|[]=>0|t::ts=>max t.depth (Qk ts) end
def E7(op:Int)(bad:Bool)(n:Nat):Bool:=!bad&&decide (0<=op/\op<16/\n=arity op.toNat)
mutual def RT.right:RT->Bool| .node op _ _ _ bad args=>E7 op bad args.length&&Qm args def Qm:List RT->Bool|[]=>true|t::ts=>t.right&&Qm ts end
def Xv(neg:Bool)(n d:Nat):Bool×Nat×Nat:=if n=0 then(false,0,1)else(neg,n/Nat.gcd n d,d/Nat.gcd n d)
theorem NP(t:RT):0<t.nodes:=by cases t;simp only[RT.nodes];omega
theorem RI{xs:List RT}{i:Nat}{t:RT}(hi:xs[i]?=some t):t.nodes<=Vp xs:=by induction xs generalizing i with
 |nil=>simp at hi
 |cons x xs ih=>cases i with|zero=>simp at hi;subst hi;simp[Vp]|succ i=>simp at hi;have:=ih hi;simp only[Vp];omega
def B7(Q:Nat->Prop)(H:AH)(v:Value)(xs:List Nat):Prop:=Sl H v xs/\ ∀c,XV v=some c->Q c
def Fm(Q:Nat->Prop)(H H':AH):Prop:=H.n<=H'.n/\ ∀j,Q j->j<H.n->H'.blk j=H.blk j
theorem Sl.agr{Q:Nat->Prop}{H H':AH}{v:Value}{xs:List Nat}(h:Sl H v xs)(hq: ∀c,XV v=some c->Q c)(k:Fm Q H H'):Sl H' v xs:=by cases h with|nil=>exact .nil|emp b=>exact .emp b|mk b o cap xs h1 h2=>obtain⟨h3,cs,h4,h5,h6⟩:=h2;have e:=k.2 b (hq b rfl) h3;exact .mk b o cap xs h1 ⟨Nat.lt_of_lt_of_le h3 k.1,cs,by unfold AH.cells;rw[e];exact h4,by unfold AH.size;rw[e];exact h5,h6⟩
mutual inductive Rx(Q:Nat->Prop)(H:AH):List Value->RT->Prop|mk{op:Int}{neg bad:Bool}{vn vd vx:Value}{N D:Nat}{args:List RT} :B7 Q H vn (ds ZV N)->B7 Q H vd (ds ZV D)->Fv Q H vx args->Rx Q H [.int .i64 op,.bool neg,vn,vd,.bool bad,vx] (.node op neg N D bad args) inductive Fv(Q:Nat->Prop)(H:AH):Value->List RT->Prop|nil:Fv Q H (.slice none 0 0) []|mk(b cap:Nat){cs:List Value}{args:List RT} :Q b->b<H.n->H.blk b= .rw 6 cs->args.length<=cap->(∀(i:Nat)(t:RT),args[i]?=some t->Rx Q H ((cs.drop (i*6)).take 6) t)->Fv Q H (.slice (some ⟨b,0,none⟩) args.length cap) args end
theorem GH{Q Q':Nat->Prop}{H H':AH}(k:Fm Q H H')(hQ: ∀j,j<H.n->Q j->Q' j): ∀n(t:RT),t.nodes<=n-> ∀vs,Rx Q H vs t->Rx Q' H' vs t:=by intro n;induction n with
 |zero=>intro t h;have:=NP t;omega
 |succ n ih=>intro t h vs hx;cases hx with
  |mk h1 h2 h3=>simp only[RT.nodes]at h;refine .mk ⟨h1.1.agr h1.2 k,fun c hc=>hQ c (h1.1.blk_lt hc) (h1.2 c hc)⟩ ⟨h2.1.agr h2.2 k,fun c hc=>hQ c (h2.1.blk_lt hc) (h2.2 c hc)⟩ ?_;cases h3 with
   |nil=>exact .nil
   |mk b cap hq hb hc hl hf=>
    rename_i cs;refine .mk b cap (cs:=cs) (hQ b hb hq) (Nat.lt_of_lt_of_le hb k.1) ?_ hl fun i t hi=>?_;·rw[k.2 b hq hb];exact hc
    ·have:=RI hi;exact ih t (by omega) _ (hf i t hi)
theorem Rx.agr{Q Q':Nat->Prop}{H H':AH}{vs:List Value}{t:RT}(h:Rx Q H vs t)(k:Fm Q H H')(hQ: ∀j,j<H.n->Q j->Q' j):Rx Q' H' vs t:=GH k hQ _ t (Nat.le_refl _) vs h
theorem ZQ.agr{H H':AH}(k:ZQ H H')(Q:Nat->Prop):Fm Q H H':=⟨k.n,fun j _ hj=>k.blk j hj⟩
theorem Rx.keep{Q:Nat->Prop}{H H':AH}{vs:List Value}{t:RT}(h:Rx Q H vs t)(k:ZQ H H'):Rx Q H' vs t:=h.agr (k.agr Q) fun _ _ h=>h
theorem Rx.len{Q:Nat->Prop}{H:AH}{vs:List Value}{t:RT}(h:Rx Q H vs t):vs.length=6:=by cases h;rfl
theorem Sl.one1{H:AH}{v:Value}{xs:List Nat}(h:Sl H v xs):one v=true:=by cases h<;>rfl
theorem Fv.one1{Q:Nat->Prop}{H:AH}{v:Value}{l:List RT}(h:Fv Q H v l):one v=true:=by cases h<;>rfl
theorem FZ:XT Tryz.prog 48=some false:=by kernel_rfl
theorem feN(b o:Nat):Yp Tryz.prog 54 (.pointer (some ⟨b,o,none⟩)) 1=some (.pointer (some ⟨b,o+1,none⟩)):=by kernel_rfl
theorem feD(b o:Nat):Yp Tryz.prog 54 (.pointer (some ⟨b,o,none⟩)) 2=some (.pointer (some ⟨b,o+2,none⟩)):=by kernel_rfl
theorem Sl.shape{H:AH}{v:Value}{xs:List Nat}(h:Sl H v xs): ∃a l c,v= .slice a l c:=by cases h<;>exact⟨_,_,_,rfl⟩
theorem Yl.shape{n:Nat}{H:AH}{v:Value}{xs:List Nat}(h:Yl n H v xs): ∃a l c,v= .slice a l c:=h.sl.shape
theorem JF(a:Option Addr)(l c:Nat):V1 Tryz.prog 54 [(2,.slice a l c)]=some (.agg #[.bool false,.slice none 0 0,.slice a l c]):=by kernel_rfl
theorem JE(n:Bool)(a a':Option Addr)(l c l' c':Nat):V1 Tryz.prog 54 [(0,.bool n),(1,.slice a l c),(2,.slice a' l' c')]=some (.agg #[.bool n,.slice a l c,.slice a' l' c']):=by kernel_rfl
theorem zR:Wv Tryz.prog 54=some (.agg #[.bool false,.slice none 0 0,.slice none 0 0]):=by kernel_rfl
theorem sR:YE Tryz.prog 54=some 3:=by kernel_rfl
theorem aR:XT Tryz.prog 54=some true:=by kernel_rfl
theorem Nv{H:AH}{b o:Nat}{cs vs:List Value}(h:H.cells b=some cs)(hk:(cs.drop o).take 3=vs)(hl:vs.length=3):Yk Tryz.prog H 54 (.pointer (some ⟨b,o,none⟩))=some (.agg vs.toArray):=by
 unfold Yk;simp only[aR,sR,AH.read_def,h];have:o+3<=cs.length:=by have:=congrArg List.length hk;rw[List.length_take,List.length_drop,hl]at this;omega
 rw[Nat.ble_eq.mpr this,cond_true,hk]
theorem TY{H:AH}{sz:Nat}{cs ws:List Value}{t:TypeId}{n b o:Nat}(ht:YE Tryz.prog t=some n)(hb:H.blk b= .rw sz cs){v:Value}(hv:v.cells.toList=ws)(hw:ws.length=n)(ho:o+n<=cs.length)(h1:ws.all one=true)(AM:sz≠0:=by decide): ∃H',YP Tryz.prog H t (.pointer (some ⟨b,o,none⟩)) v=some H'/\H'.blk b= .rw sz (cs.take o++ws++cs.drop (o+n))/\H'.n=H.n/\(∀j,j≠b->H'.blk j=H.blk j)/\LV b H H'/\H'.lw=min H.lw b:=by
 obtain⟨sz,rfl⟩: ∃k,sz=k+1:=⟨sz-1,by omega⟩;have hs:v.cells.size=n:=by rw[<-hw,<-hv];simp
 have hle:Nat.ble (o+n) cs.length=true:=Nat.ble_eq.mpr ho;refine⟨{ n:=H.n,lw:=min H.lw b,t:=H.t.set b (.rw (sz+1) (cs.take o++ws++cs.drop (o+n))) },?_,?_,rfl,fun j hj=>?_,fun H0 k hn=>⟨k.n,?_,fun j hj=>?_⟩,rfl⟩;·unfold YP;simp only[ht,hs,hv];rw[show Nat.beq n n=true from by simp,cond_true,AH.write_def,hb];simp only[hw,hle,h1,Bool.and_self,cond_true]
 ·unfold AH.blk;simp only[Tr.get_set,if_true]
 ·unfold AH.blk;simp only[Tr.get_set];rw[if_neg hj]
 ·have:=k.lw;show min H0.lw H0.n<=min H.lw b;omega
 ·unfold AH.blk;simp only[Tr.get_set];rw[if_neg (by omega)];exact k.blk j hj
section
attribute [-simp] Int.natCast_add Int.natCast_mul Int.natCast_ediv Int.natCast_emod Int.natCast_pow
attribute [local simp] strip Zt YR LR gW ZZ ZO Zk ZN Zv ZM Ze Zf Zb Zw ZT Zs ZI Zi Zx Zc Za ZJ ZK Yo Zn ZS Yd ZC Zu plain Zq Tr.get_set ZA Zd Z5 Zl sameKind undef Zh Zy ZR ZU Zm parts Xd DW ZL Zg LX Zo
section
variable {H : AH} {va vb vm : Value}
theorem W4(x:Nat)(hx:x<ZB): ∃v H',ZF Tryz.prog Yg 15 [.int .i64 (x:Int)] H=some (v,H')/\ZQ H H'/\Yl H.n H' v (ds ZV x)/\(ds ZV x).length<=2*Su:=by
 obtain⟨v1,H1,c1,k1,o1⟩:=Pz H Yq x;obtain⟨v2,H2,c2,k2,o2,l2⟩:=Mu o1.sl (D2 hx) (show 1<=2000000000000 by decide);rw[dv1]at o2 l2;suffices hs:CW Tryz.prog Yg 15 [.int .i64 (x:Int)] H fun v H'=>v=v2/\H'=H2 by obtain⟨_,_,hc,rfl,rfl⟩:=hs;exact⟨_,_,hc,k1.trans k2,o2.mono k1.n (.refl _),l2⟩
 refine YH 7 Tryz.func15 ?_;apply ZX;intro b1 ZH;simp;subst ZH;apply ZX;intro b1 ZH;simp[N8 hx,c1,c2];subst ZH;apply Z8;simp
def Pm(n:Nat)(H:AH)(us:List Value)(r:Bool×Nat×Nat):Prop:= ∃a b,us=[.bool r.1,a,b]/\Yl n H a (ds ZV r.2.1)/\Yl n H b (ds ZV r.2.2)
theorem Lk{vn vd:Value}{N D:Nat}(neg:Bool)(hn:Sl H vn (ds ZV N))(hd:Sl H vd (ds ZV D))(lN:(ds ZV N).length<=2*Su)(lD:(ds ZV D).length<=2*Su)(h0:0<D): ∃us H',ZF Tryz.prog Yg 60 [.bool neg,vn,vd] H=some (.agg us.toArray,H')/\ZQ H H'/\Pm H.n H' us (Xv neg N D):=by
 suffices hs:CW Tryz.prog Yg 60 [.bool neg,vn,vd] H fun v H'=> ∃us:List Value,v= .agg us.toArray/\ZQ H H'/\Pm H.n H' us (Xv neg N D) by obtain⟨_,H',hc,us,rfl,h⟩:=hs;exact⟨us,H',hc,h⟩
 obtain⟨r,hr⟩:=hid (Xv neg N D);rw[<-hr];unfold Xv at hr;refine YH 31 Tryz.func60 ?_;have kB:=ZQ.new H 1 [.bool false,.slice none 0 0,.slice none 0 0];have bB:(H.new 1 [.bool false,.slice none 0 0,.slice none 0 0]).blk H.n= .rw 1 [.bool false,.slice none 0 0,.slice none 0 0]:=by rw[AH.blk_new,if_pos rfl]
 have nB:(H.new 1 [.bool false,.slice none 0 0,.slice none 0 0]).n=H.n+1:=rfl;obtain⟨HB,Ah⟩:=hid (H.new 1 [.bool false,.slice none 0 0,.slice none 0 0]);rw[<-Ah]at kB bB nB;have z:=T2 (hn.keep kB);apply ZX;intro b1 ZH;simp[zR,Value.cells,<-Ah];subst ZH;apply Zz;intro b1 ZH;apply ZX;intro b2 Yy;simp[z];subst Yy;by_cases hN:N=0;·refine Zp (t:=true) (by simp[hN]) ?_;rw[if_pos hN]at hr;obtain⟨v1,H1,c1,k1,o1,_⟩:=W4 (H:=HB) 1 (by decide);obtain⟨x,l,c,rfl⟩:=o1.shape;obtain⟨H2,st,blk,n2,E0,ka,_⟩:=TY (H:=H1) (b:=H.n) (cs:=[.bool false,.slice none 0 0,.slice none 0 0]) (sz:=1) (o:=0) sR (by rw[k1.blk _ (by omega)];exact bB) (v:= .agg #[.bool false,.slice none 0 0,.slice x l c]) (ws:=[.bool false,.slice none 0 0,.slice x l c]) rfl rfl (by simp) rfl;have c1:ZF Tryz.prog Yg 15 [.int .i64 1] HB=some (.slice x l c,H1):=c1;apply ZX;intro b1 ZH;simp[c1,JF,st];subst ZH;apply Z8;have ld:Yk Tryz.prog H2 54 (.pointer (some ⟨H.n,0,none⟩))=some (.agg #[.bool false,.slice none 0 0,.slice x l c]):=Nv (vs:=[.bool false,.slice none 0 0,.slice x l c]) (by unfold AH.cells;rw[blk]) rfl rfl;simp[WA,ld];refine⟨ka H (kB.trans k1) (Nat.le_refl _),_,_,by rw[hr],by rw[hr,Y1];exact .nil,?_⟩;rw[hr];exact(o1.mono (m:=H.n) (by omega) (.refl _)).but (b:=some H.n) ⟨n2,fun j _ hj=>E0 j (fun e=>hj (by rw[e]))⟩ fun c' e h=>by cases e;have:=o1.blk_lo h;omega
 ·refine Zp (t:=false) (by simp[hN]) ?_;rw[if_neg hN]at hr;apply ZE;subst ZH;obtain⟨_,H1,c1,k1,s1⟩:=Oh (hn.keep kB) (hd.keep kB) lN lD;obtain⟨g,hg⟩:=hid (Nat.gcd N D);rw[<-hg]at s1 hr;have g0:0<g:=by rw[hg];exact Nat.gcd_pos_of_pos_right _ h0
  have gl:(ds ZV g).length<=2*Su:=Nat.le_trans (T5 two32 (by rw[hg];exact Nat.le_of_dvd h0 (Nat.gcd_dvd_right N D))) lD;obtain⟨q1,r1,H2,c2,k2,o2,_⟩:=V9 (hn.keep (kB.trans k1)) s1 lN gl g0;obtain⟨q2,r2,H3,c3,k3,o3,_⟩:=V9 (hd.keep ((kB.trans k1).trans k2)) (s1.keep k2) lD gl g0;have n1:=k1.n;have n2:=k2.n;obtain⟨x,l,c,rfl⟩:=o2.shape;obtain⟨x',l',c',rfl⟩:=o3.shape;obtain⟨H4,st,blk,n4,E0,ka,_⟩:=TY (H:=H3) (b:=H.n) (cs:=[.bool false,.slice none 0 0,.slice none 0 0]) (sz:=1) (o:=0) sR (by rw[k3.blk _ (by omega),k2.blk _ (by omega),k1.blk _ (by omega)];exact bB) (v:= .agg #[.bool neg,.slice x l c,.slice x' l' c']) (ws:=[.bool neg,.slice x l c,.slice x' l' c']) rfl rfl (by simp) rfl;apply ZX;intro b1 ZH;simp[c1];subst ZH;apply ZX;intro b1 ZH;simp[c2];subst ZH;apply ZX;intro b1 ZH;simp[c3];subst ZH;apply ZX;intro b1 ZH;simp[JE,st];subst ZH;apply Z8;have ld:Yk Tryz.prog H4 54 (.pointer (some ⟨H.n,0,none⟩))=some (.agg #[.bool neg,.slice x l c,.slice x' l' c']):=Nv (vs:=[.bool neg,.slice x l c,.slice x' l' c']) (by unfold AH.cells;rw[blk]) rfl rfl;simp[ld];have bt:TT (some H.n) H3 H4:=⟨n4,fun j _ hj=>E0 j (fun e=>hj (by rw[e]))⟩;refine⟨ka H (((kB.trans k1).trans k2).trans k3) (Nat.le_refl _),_,_,by rw[hr],?_,?_⟩;·rw[hr];exact(o2.mono (m:=H.n) (by omega) k3).but bt fun c' e h=>by cases e;have:=o2.blk_lo h;omega
  ·rw[hr];exact(o3.mono (m:=H.n) (by omega) (.refl _)).but bt fun c' e h=>by cases e;have:=o3.blk_lo h;omega
end
end
theorem ED{x y:Int} :Zj .neq .i64 x y=some (.bool (decide (x≠y))):=by
 show some (Value.bool (x !=y))=_;congr 2;by_cases h:x=y;·subst h;simp
 ·rw[decide_eq_true h];simp[bne];omega
section
attribute [-simp] Int.natCast_add Int.natCast_mul Int.natCast_ediv Int.natCast_emod Int.natCast_pow
attribute [local simp] strip Zt YR LR gW ZZ ZO Zk ZN Zv ZM Ze Zf Zb Zw ZT Zs ZI Zi Zx Zc Za ZJ ZK Yo Zn ZS Yd ZC Zu plain Zq Tr.get_set ZA Zd Z5 Zl sameKind undef Zh Zy ZR ZU Zm parts Xd DW ZL Zg LX Zo
section
variable {Q : Nat -> Prop}
end
section
variable {Q : Nat -> Prop}
section
variable {H : AH} {vs : List Value} {t : RT}
end
end
end
theorem Im{n0 b:Nat}{H:AH}{sz:Nat}{cs:List Value}(h:n0<=b):LV n0 H ((H.kill b).new sz cs):=fun H0 k Vs=>by
 have:=k.n;have eH:(H.kill b).n=H.n:=rfl;refine⟨by show H0.n<=H.n+1;omega,?_,fun j hj=>?_⟩;·have:=k.lw;show min H0.lw H0.n<=min H.lw b;omega
 ·rw[AH.blk_new,if_neg (by rw[eH];omega),AH.blk_kill,if_neg (by omega)];exact k.blk j hj
def OR(nh:Nat)(H:AH)(xv:Value)(l:List RT):Prop:=(xv= .slice none 0 0/\l=[])\/ ∃b cs,xv= .slice (some ⟨b,0,none⟩) l.length l.length/\nh<=b/\b<H.n/\H.blk b= .rw 6 cs/\cs.length=l.length*6/\ ∀(j:Nat)(u:RT),l[j]?=some u->Rx (fun j=>nh<=j/\j≠b) H ((cs.drop (j*6)).take 6) u
theorem OR.one1{nh:Nat}{H:AH}{xv:Value}{l:List RT}(h:OR nh H xv l):one xv=true/\xv.cells.toList=[xv]:=by rcases h with⟨rfl,_⟩|⟨b,cs,rfl,_⟩<;>exact⟨rfl,rfl⟩
theorem OR.agr{nh:Nat}{H H':AH}{xv:Value}{l:List RT}(h:OR nh H xv l)(hn:H.n<=H'.n)(k: ∀j,nh<=j->j<H.n->H'.blk j=H.blk j):OR nh H' xv l:=by
 rcases h with h|⟨b,cs,h1,h2,h3,h4,h5,h6⟩;·exact .inl h
 ·exact .inr ⟨b,cs,h1,h2,by omega,by rw[k b h2 h3];exact h4,h5,fun j u hu=>(h6 j u hu).agr ⟨hn,fun i hi Nd=>k i hi.1 Nd⟩ fun _ _ h=>h⟩
theorem OR.blk{nh:Nat}{H:AH}{xv:Value}{l:List RT}(h:OR nh H xv l){b:Nat}(hb:XV xv=some b):nh<=b/\b<H.n:=by
 rcases h with⟨rfl,_⟩|⟨b',cs,rfl,h2,h3,_⟩;·cases hb
 ·cases hb;exact⟨h2,h3⟩
section
attribute [-simp] Int.natCast_add Int.natCast_mul Int.natCast_ediv Int.natCast_emod Int.natCast_pow
attribute [local simp] strip Zt YR LR gW ZZ ZO Zk ZN Zv ZM Ze Zf Zb Zw ZT Zs ZI Zi Zx Zc Za ZJ ZK Yo Zn ZS Yd ZC Zu plain Zq Tr.get_set ZA Zd Z5 Zl sameKind undef Zh Zy ZR ZU Zm parts Xd DW ZL Zg LX Zo
theorem DQ(a b c:Bool):(a||b||c)=(a||(b||c)):=Bool.or_assoc ..
end
section
attribute [-simp] Int.natCast_add Int.natCast_mul Int.natCast_ediv Int.natCast_emod Int.natCast_pow
attribute [local simp] strip Zt YR LR gW ZZ ZO Zk ZN Zv ZM Ze Zf Zb Zw ZT Zs Zx Zc ZS Za Yd ZC Zu plain Zq Tr.get_set ZA Zd Z5 Zl sameKind undef Zh Zy ZR ZU ZD Yq Zm parts Yv Xd DW ZL Zg LX Zo
section
variable {H : AH} {va vb : Value} {xs ys : List Nat}
end
end
theorem OC(B:Nat): ∀(xs:List Nat)(i y:Nat)(h:i<xs.length),dv B (xs.set i y)+B^i*xs[i]=dv B xs+B^i*y
 |x::xs,0,y,_=>by simp[dv];omega
 |x::xs,i+1,y,h=>by
  have h':i<xs.length:=by simpa using h
  have ih:=OC B xs i y h';simp only[List.set_cons_succ,dv,List.getElem_cons_succ,Nat.pow_succ];have e:B*(dv B (xs.set i y)+B^i*xs[i])=B*(dv B xs+B^i*y):=by rw[ih]
  rw[Nat.mul_add,Nat.mul_add]at e;rw[Nat.mul_comm (B^i) B,Nat.mul_assoc,Nat.mul_assoc];omega
theorem Y7.set{B:Nat}{xs:List Nat}(h:Y7 B xs){i y:Nat}(hy:y<B):Y7 B (xs.set i y):=fun x hx=>by
 rcases List.mem_or_eq_of_mem_set hx with h'|h';·exact h x h'
 ·rw[h'];exact hy
theorem Mt{xs:List Nat}{i j y:Nat}(h:i≠j):nth (xs.set i y) j=nth xs j:=by unfold nth;rw[List.getElem?_set,if_neg h]
theorem Yl.copy{n:Nat}{H:AH}{v w:Value}{zs xs:List Nat}(h:Yl n H v zs)(hw:Sl H w xs)(hl:xs.length<=zs.length){t t2:TypeId}(ht:LT t)(KJ:LT t2): ∃u H',copyV Tryz.prog H t t2 v w=some (u,H')/\Yl n H' v (xs++zs.drop xs.length)/\TT (XV v) H H'/\KA n H H':=by
 have hc:YB H 1 w xs.length=some (xs.map XP):=by
  rcases Nat.eq_zero_or_pos xs.length with h0|h0;·obtain rfl:xs=[]:=List.length_eq_zero_iff.mp h0;generalize hz:([]:List Nat)=ys at hw;cases hw with|nil=>rfl|emp b=>rfl|mk b o cap xs h1 h2=>subst hz;obtain⟨_,cs,h3,h4,h5⟩:=h2;have:Nat.ble o cs.length=true:=Nat.ble_eq.mpr h5.2;simp[YB,AH.read_def,h3,this]
  ·exact hw.cells h0
 obtain⟨a2,D0,rfl⟩: ∃a cap,w= .slice a xs.length cap:=by cases hw<;>exact⟨_,_,rfl⟩
 cases h with
  |nil=>obtain rfl:xs=[]:=List.length_eq_zero_iff.mp (by simpa using hl);refine⟨.int .i64 0,H,?_,by simpa using Yl.nil,.refl _ _,.refl _ _⟩;simp[copyV,ht.2,KJ.2]
  |mk b o cap zs cs h1 h2 h3 h4 h5 h6=>
   have CM:Nat.min xs.length zs.length=xs.length:=Nat.min_eq_left hl;have hle:Nat.ble (o+xs.length) cs.length=true:=Nat.ble_eq.mpr (by omega);have Gw:H.write b o (xs.map XP)=some { n:=H.n,lw:=min H.lw b,t:=H.t.set b (.rw 1 (cs.take o++xs.map XP++cs.drop (o+xs.length))) } :=by rw[AH.write_def,h4];simp only[List.length_map,hle,Ln,Bool.and_self,cond_true]
   obtain⟨H',Dl⟩: ∃H':AH,H'= { n:=H.n,lw:=min H.lw b,t:=H.t.set b (.rw 1 (cs.take o++xs.map XP++cs.drop (o+xs.length))) } :=⟨_,rfl⟩;rw[<-Dl]at Gw;have Y0: ∀j,H'.blk j=if j=b then .rw 1 (cs.take o++xs.map XP++cs.drop (o+xs.length))else H.blk j:=fun j=>by
    rw[Dl];show(match(H.t.set b _).get j with|some b=>b|none=>VA.dead)=_;rw[Tr.get_set];by_cases e:j=b;·rw[if_pos e,if_pos e]
    ·rw[if_neg e,if_neg e];rfl
   have hn:H'.n=H.n:=by rw[Dl]
   refine⟨.int .i64 (Nat.min xs.length zs.length),H',?_,?_,⟨hn,fun j _ hj=>?_⟩,?_⟩;·unfold copyV;simp only[ht.2,KJ.2,CM,hc,Gw]
   ·have hlen:(xs++zs.drop xs.length).length=zs.length:=by simp;omega
    rw[<-hlen];refine .mk b o cap _ (cs.take o++xs.map XP++cs.drop (o+xs.length)) (by omega) h2 (by rw[hn];exact h3) (by rw[Y0,if_pos rfl]) ?_ ?_;·simp only[List.length_append,List.length_take,List.length_drop,List.length_map];omega
    ·intro i x hi;rw[List.append_assoc,List.getElem?_append_right (by rw[List.length_take];omega),List.length_take,show o+i-min o cs.length=i by omega];rw[List.getElem?_append]at hi;rw[List.getElem?_append,List.length_map];by_cases Az:i<xs.length;·rw[if_pos Az]at hi⊢;rw[List.getElem?_map,hi];rfl
     ·rw[if_neg Az]at hi⊢;rw[List.getElem?_drop]at hi⊢;have:=h6 _ x hi;rw[show o+xs.length+(i-xs.length)=o+(xs.length+(i-xs.length)) by omega];exact this
   ·rw[Y0,if_neg (fun e=>hj (by rw[e];rfl))]
   ·intro H0 k Vs;have:=k.lw;refine⟨by rw[hn];exact k.n,by rw[Dl];show min H0.lw H0.n<=min H.lw b;omega,fun j hj=>?_⟩;rw[Y0,if_neg (by omega)];exact k.blk j hj
theorem Yl.loadAt{n:Nat}{H:AH}{v:Value}{L zs:List Nat}{i:Nat}(h:Yl n H v (L++zs.drop i))(hL:L.length=i)(hi:i<zs.length):Yk Tryz.prog H 82 (adr v i)=some (.int .u64 (nth zs i:Int)):=by have:=h.sl.load (i:=i) (by simp;omega);rw[this,WZ hi];congr 3;rw[List.getElem_append_right (by omega)];simp[hL]
section
attribute [-simp] Int.natCast_add Int.natCast_mul Int.natCast_ediv Int.natCast_emod Int.natCast_pow
attribute [local simp] strip Zt YR LR gW ZZ ZO Zk ZN Zv ZM Ze Zf Zb Zw ZT Zs Zx Zc ZS Za Yd ZC Zu plain Zq Tr.get_set ZA Zd Z5 Zl sameKind undef Zh Zy ZR ZU ZD Yq Zm parts Yv Xd DW ZL Zg LX Zo
section
variable {H : AH} {va vb : Value} {xs ys : List Nat}
theorem MK{B:Nat}(hB:0<B)(n:Nat):Y7 B (List.replicate n 0):=fun x hx=>by rw[List.eq_of_mem_replicate hx];exact hB
end
section
variable {H : AH} {va vb : Value} {xs ys : List Nat}
end
section
variable {H : AH} {va vb : Value} {xs ys : List Nat}
end
end
theorem NZ{x y o c:Nat}(hx:x<ZV)(hy:y<ZV)(ho:o<ZV)(hc:c<ZV):x*y<ZB/\x*y+o<ZB/\x*y+o+c<ZB/\(x*y+o+c)/4294967296<ZV/\(x*y+o+c)%4294967296+ZV*((x*y+o+c)/4294967296)=o+x*y+c:=by have hx:x<4294967296:=hx;have hy:y<4294967296:=hy;have ho:o<4294967296:=ho;have hc:c<4294967296:=hc;have hp:x*y<=4294967295*4294967295:=Nat.mul_le_mul (by omega) (by omega);show x*y<18446744073709551616/\x*y+o<18446744073709551616/\x*y+o+c<18446744073709551616/\(x*y+o+c)/4294967296<4294967296/\(x*y+o+c)%4294967296+4294967296*((x*y+o+c)/4294967296)=o+x*y+c;generalize x*y=p at*;omega
section
attribute [-simp] Int.natCast_add Int.natCast_mul Int.natCast_ediv Int.natCast_emod Int.natCast_pow
attribute [local simp] strip Zt YR LR gW ZZ ZO Zk ZN Zv ZM Ze Zf Zb Zw ZT Zs Zx Zc ZS Za Yd ZC Zu plain Zq Tr.get_set ZA Zd Z5 Zl sameKind undef Zh Zy ZR ZU ZD Yq Zm parts Yv Xd DW ZL Zg LX Zo
section
variable {H : AH} {va vb : Value}
theorem Oi{xs ys:List Nat}(ha:Sl H va xs)(hb:Sl H vb ys)(dx:Y7 ZV xs)(dy:Y7 ZV ys)(lx:xs.length<=8000000000000)(ly:ys.length<=8000000000000):CW Tryz.prog Yg 63 [va,vb] H fun v H'=>ZQ H H'/\Yl H.n H' v (ds ZV (dv ZV xs*dv ZV ys)):=by
 refine YH 65 Tryz.func63 ?_;have l1:=ha.len ZD;have l2:=hb.len ZD;obtain⟨la,hla⟩:=hid (xs.length);obtain⟨lb,hlb⟩:=hid (ys.length);rw[<-hla]at l1;rw[<-hlb]at l2;obtain⟨c0,H1,KW,k1,o1,n1⟩:=XO (H:=H) ZD (n:=la+lb+1) (by omega);have ad:Zj .add .i64 (la:Int) (lb:Int)=some (.int .i64 ((la+lb:Nat):Int)):=Vu (by omega);apply ZX;intro b1 ZH;simp;subst ZH;apply ZX;intro b1 ZH;simp[l1,l2,ad,Y4 (x:=la+lb) (by omega),KW];subst ZH;apply Zz;intro b1 ZH;apply ZX;intro b2 Yy;simp[l1];subst Yy;apply Z1;refine Y8 (fun m s'=>s'.k=65/\ZQ H s'.H/\ ∃(i:Nat) (O:List Nat),m+i=la/\O.length=la+lb+1/\Y7 ZV O/\(∀j,i+lb<=j->nth O j=0)/\dv ZV O=dv ZV (xs.take i)*dv ZV ys/\Yl H.n s'.H c0 O/\s'.tm.get 1=some vb/\s'.tm.get 5=some c0/\s'.tm.get 19=some va/\s'.tm.get 20=some (.int .i64 (la:Int))/\s'.tm.get 21=some (.int .i64 (i:Int))) ?_ la _ ⟨rfl,k1,0,List.replicate (la+lb+1) 0,by omega,by simp,MK (by decide) _,fun j _=>by
  by_cases hj:j<(List.replicate (la+lb+1) 0).length;·rw[WZ hj];simp
  ·exact Un (by omega),by simp[dv,SB],o1,by simp,by simp,by simp,by simp,by simp⟩;rintro m ⟨k,tm,H2⟩ ⟨hk,kH,i,O,LL,hO,dO,hz,heq,own,t1,t5,t19,t20,t21⟩ Q' WC;simp only at hk kH own t1 t5 t19 t20 t21;subst hk;apply ZX;intro b3 YC;simp[t20,t21];subst YC;apply Zz;intro b3 YC;by_cases hi:i<la
 ·refine Zp (t:=true) (by simp[hi]) ?_;apply ZE;subst YC;have UW:i<xs.length:=by omega
  have sa:=ha.keep kH;have a1:=sa.adr ZD (k:= .i64) UW;have d1:=sa.load UW;obtain⟨x,hx⟩:=hid (xs[i]);have hxB:x<ZV:=by rw[hx];exact dx.get (List.getElem?_eq_getElem UW)
  rw[<-hx]at d1;apply Zz;intro b3 YC;apply Z1;apply ZX;intro b4 YZ;simp[t19,t21,a1,d1];subst YZ;apply ZX;intro b4 YZ;simp;subst YZ;refine SW (fun s'=>s'.k=65/\ZQ H s'.H/\ ∃(c:Nat) (O2:List Nat),c<ZV/\O2.length=la+lb+1/\Y7 ZV O2/\(∀j,i+lb<=j->nth O2 j=0)/\dv ZV O2+ZV^(i+lb)*c=dv ZV O+ZV^i*(x*dv ZV ys)/\Yl H.n s'.H c0 O2/\s'.tm.get 1=some vb/\s'.tm.get 5=some c0/\s'.tm.get 6=some (.int .i64 (i:Int))/\s'.tm.get 8=some (.int .u64 (c:Int))/\s'.tm.get 19=some va/\s'.tm.get 20=some (.int .i64 (la:Int))/\s'.tm.get 21=some (.int .i64 (i:Int))) ?_ ?_
  ·intro B6 O5;apply ZX;intro b4 YZ;simp[t1,l2];subst YZ;apply Z1;refine Y8 (fun m s'=>s'.k=65/\ZQ H s'.H/\ ∃(j c:Nat) (O2:List Nat),m+j=lb/\c<ZV/\O2.length=la+lb+1/\Y7 ZV O2/\(∀j,i+lb<=j->nth O2 j=0)/\dv ZV O2+ZV^(i+j)*c=dv ZV O+ZV^i*(x*dv ZV (ys.take j))/\Yl H.n s'.H c0 O2/\s'.tm.get 1=some vb/\s'.tm.get 5=some c0/\s'.tm.get 6=some (.int .i64 (i:Int))/\s'.tm.get 7=some (.int .u64 (x:Int))/\s'.tm.get 8=some (.int .u64 (c:Int))/\s'.tm.get 19=some va/\s'.tm.get 20=some (.int .i64 (la:Int))/\s'.tm.get 21=some (.int .i64 (i:Int))/\s'.tm.get 26=some vb/\s'.tm.get 27=some (.int .i64 (lb:Int))/\s'.tm.get 28=some (.int .i64 (j:Int))) ?_ lb _ ⟨rfl,kH,0,0,O,by omega,by decide,hO,dO,hz,by simp[dv],own,by simp[t1],by simp[t5],by simp,by simp,by simp,by simp[t19],by simp[t20],by simp[t21],by simp[t1],by simp,by simp⟩;clear t1 t5 t19 t20 t21;rintro m2 ⟨k,tm,H3⟩ ⟨hk,JQ,j,c,O2,hmj,hc,Dp,FQ,KF,J8,Q6,t1,t5,t6,t7,t8,t19,t20,t21,t26,t27,t28⟩ Q5 G6;simp only at hk JQ Q6 t1 t5 t6 t7 t8 t19 t20 t21 t26 t27 t28;subst hk;apply ZX;intro b5 Pf;simp[t27,t28];subst Pf;apply Zz;intro b5 Pf;by_cases hj:j<lb
   ·refine Zp (t:=true) (by simp[hj]) ?_;apply ZE;subst Pf;have J9:j<ys.length:=by omega
    have A0:=hb.keep JQ;have a2:=A0.adr ZD (k:= .i64) J9;have d2:=A0.load J9;obtain⟨y,hy⟩:=hid (ys[j]);have hyB:y<ZV:=by rw[hy];exact dy.get (List.getElem?_eq_getElem J9)
    rw[<-hy]at d2;have LO:i+j<O2.length:=by omega
    have a3:=Q6.sl.adr ZD (k:= .i64) LO;have d3:=Q6.sl.load LO;obtain⟨o,ho⟩:=hid (O2[i+j]);have hoB:o<ZV:=by rw[ho];exact FQ.get (List.getElem?_eq_getElem LO)
    rw[<-ho]at d3;obtain⟨st0,BH,E9,HU,Da⟩:=NZ hxB hyB hoB hc;have e1:Zj .mul .u64 (x:Int) (y:Int)=some (.int .u64 ((x*y:Nat):Int)):=by rw[Wz,Nat.mod_eq_of_lt st0]
    have e2:Zj .add .u64 ((x*y:Nat):Int) (o:Int)=some (.int .u64 ((x*y+o:Nat):Int)):=Xm BH;have e3:Zj .add .u64 ((x*y+o:Nat):Int) (c:Int)=some (.int .u64 ((x*y+o+c:Nat):Int)):=Xm E9;obtain⟨v,hv⟩:=hid (x*y+o+c);rw[<-hv]at e3 E9 HU Da;have e6:Zj .add .i64 (i:Int) (j:Int)=some (.int .i64 ((i+j:Nat):Int)):=Vu (by omega);obtain⟨H4,IJ,Tu,n4,Ac,Ik⟩:=Q6.put (i:=i+j) LO (v%4294967296);apply Zz;intro b5 Pf;apply Z1;apply ZX;intro b6 Rc;simp[t26,t28,a2,d2];subst Rc;apply ZX;intro b6 Rc;simp[t5,t6,t7,t8,e6,a3,d3,e1,e2,e3];subst Rc;apply ZX;intro b6 Rc;simp[t5,t6,e6,a3,Ok,IJ];subst Rc;apply Zr;simp[Oe E9];subst Pf;apply Zr;simp[t28,Y4 (x:=j) (by omega)];apply G6;refine⟨m2-1,by omega,rfl,Ik H JQ (Nat.le_refl _),j+1,v/4294967296,O2.set (i+j) (v%4294967296),by omega,HU,by simp[Dp],FQ.set (Nat.mod_lt _ (by decide)),fun q hq=>by rw[Mt (by omega)];exact KF q hq,?_,Tu,by simp[t1],by simp[t5],by simp[t6],by simp[t7],by simp,by simp[t19],by simp[t20],by simp[t21],by simp[t26],by simp[t27],by simp⟩;have ds:=OC ZV O2 (i+j) (v%4294967296) LO;rw[<-ho]at ds;rw[XA J9,YW,List.length_take,Nat.min_eq_left (by omega),<-hy];simp only[dv,Nat.mul_zero,Nat.add_zero];generalize v/4294967296=cc at*;generalize v%4294967296=o' at*;have f1:ZV^(i+j)*(o'+ZV*cc)=ZV^(i+j)*(o+x*y+c):=by rw[Da]
    rw[Nat.mul_add,<-Nat.mul_assoc (ZV^(i+j)) ZV,show ZV^(i+j)*ZV=ZV^(i+(j+1))from rfl,Nat.mul_add,Nat.mul_add]at f1;have f2:ZV^i*(x*(dv ZV (ys.take j)+ZV^j*y))=ZV^i*(x*dv ZV (ys.take j))+ZV^(i+j)*(x*y):=by rw[Nat.mul_add x,Nat.mul_add (ZV^i),Nat.pow_add,Nat.mul_left_comm x (ZV^j) y,Nat.mul_assoc (ZV^i)]
    rw[f2];omega
   ·refine Zp (t:=false) (by simp[hj]) ?_;apply YM;apply G6;left;obtain rfl:j=lb:=by omega
    rw[List.take_of_length_le (by omega)]at J8;exact⟨rfl,O5 _ ⟨rfl,JQ,c,O2,hc,Dp,FQ,KF,J8,Q6,by simp[t1],by simp[t5],by simp[t6],by simp[t8],by simp[t19],by simp[t20],by simp[t21]⟩⟩
  clear t1 t5 t19 t20 t21;rintro⟨k,tm,H3⟩ ⟨hk,JQ,c,O2,hc,Dp,FQ,KF,J8,Q6,t1,t5,t6,t8,t19,t20,t21⟩;simp only at hk JQ Q6 t1 t5 t6 t8 t19 t20 t21;subst hk;have LO:i+lb<O2.length:=by omega
  have a3:=Q6.sl.adr ZD (k:= .i64) LO;have e6:Zj .add .i64 (i:Int) (lb:Int)=some (.int .i64 ((i+lb:Nat):Int)):=Vu (by omega);obtain⟨H4,IJ,Tu,n4,Ac,Ik⟩:=Q6.put (i:=i+lb) LO c;apply Zr;simp[t1,t5,t6,t8,l2,e6,a3,IJ];subst YC;apply Zr;simp[t21,Y4 (x:=i) (by omega)];apply WC;refine⟨m-1,by omega,rfl,Ik H JQ (Nat.le_refl _),i+1,O2.set (i+lb) c,by omega,by simp[Dp],FQ.set hc,fun q hq=>by rw[Mt (by omega)];exact KF q (by omega),?_,Tu,by simp[t1],by simp[t5],by simp[t19],by simp[t20],by simp⟩;have ds:=OC ZV O2 (i+lb) c LO;have h0:=KF (i+lb) (Nat.le_refl _);rw[WZ LO]at h0;rw[h0,Nat.mul_zero,Nat.add_zero]at ds;rw[ds,J8,heq,XA UW,YW,List.length_take,Nat.min_eq_left (by omega),<-hx,Nat.add_mul];simp only[dv,Nat.mul_zero,Nat.add_zero];rw[Nat.mul_assoc (ZV^i)]
 ·refine Zp (t:=false) (by simp[hi]) ?_;apply YM;apply WC;left;refine⟨rfl,?_⟩;obtain rfl:i=la:=by omega
  rw[List.take_of_length_le (by omega)]at heq;obtain⟨v5,H5,M9,e5,o5,_⟩:=Xt own (by omega);subst e5;rw[XN two32 dO,heq]at o5;subst ZH;apply ZX;intro b4 YZ;simp[t5,M9];subst YZ;apply Z8;simp;exact⟨kH,o5⟩
theorem U5{A B:Nat} :(ds ZV (A*B)).length<=(ds ZV A).length+(ds ZV B).length:=by have h1:=N9 two32 A;have h2:=N9 two32 B;refine YJ two32 ?_;rw[Nat.pow_add];exact Nat.mul_lt_mul'' h1 h2
theorem So{A B:Nat}(ha:Sl H va (ds ZV A))(hb:Sl H vb (ds ZV B))(lA:(ds ZV A).length<=2*Su)(lB:(ds ZV B).length<=2*Su): ∃v H',ZF Tryz.prog Yg 63 [va,vb] H=some (v,H')/\ZQ H H'/\Yl H.n H' v (ds ZV (A*B)):=by obtain⟨v,H',hc,k,o⟩:=Oi ha hb (Xo two32 A) (Xo two32 B) (Nat.le_trans lA (by decide)) (Nat.le_trans lB (by decide));rw[X5 two32,X5 two32]at o;exact⟨v,H',hc,k,o⟩
end
end
section
attribute [-simp] Int.natCast_add Int.natCast_mul Int.natCast_ediv Int.natCast_emod Int.natCast_pow
attribute [local simp] strip Zt YR LR gW ZZ ZO Zk ZN Zv ZM Ze Zf Zb Zw ZT Zs ZI Zi Zx Zc Za ZJ ZK Yo Zn ZS Yd ZC Zu plain Zq Tr.get_set ZA Zd Z5 Zl sameKind undef Zh Zy ZR ZU Zm parts Xd DW ZL Zg LX Zo
section
variable {H : AH} {va vb : Value} {xs ys : List Nat}
end
section
variable {H : AH} {va vb : Value} {xs ys : List Nat}
end
end
theorem Ip{x:Nat} :Zj .lss .i64 (x:Int) 0=some (.bool false):=by rw[BV,decide_eq_false (by omega)]
section
attribute [-simp] Int.natCast_add Int.natCast_mul Int.natCast_ediv Int.natCast_emod Int.natCast_pow
attribute [local simp] strip Zt YR LR gW ZZ ZO Zk ZN Zv ZM Ze Zf Zb Zw ZT Zs ZI Zi Zx Zc Za ZJ ZK Yo Zn ZS Yd ZC Zu plain Zq Tr.get_set ZA Zd Z5 Zl sameKind undef Zh Zy ZR ZU Zm parts Xd DW ZL Zg LX Zo
section
variable {H : AH} {va vb : Value} {xs ys : List Nat}
end
section
variable {H : AH} {va vb : Value} {xs ys : List Nat} {A B : Nat}
end
section
variable {H : AH} {va vb : Value} {xs ys : List Nat} {A B : Nat}
end
def DN(A r:Nat):Prop:=r*r<=A/\A<(r+1)*(r+1)
section
variable {H : AH} {va vb : Value} {xs ys : List Nat} {A B : Nat}
end
end
theorem EC(H:AH)(sz:Nat)(cs:List Value):(H.new sz cs).n=H.n+1:=rfl
theorem QX(H:AH)(a:List Value): ∃H',H.new 1 a=H'/\ZQ H H'/\H'.n=H.n+1/\H'.blk H.n= .rw 1 a:=⟨_,rfl,.new _ _ _,rfl,by rw[AH.blk_new,if_pos rfl]⟩
theorem L6(H:AH)(a b:List Value): ∃H',(H.new 1 a).new 1 b=H'/\ZQ H H'/\H'.n=H.n+2/\H'.blk H.n= .rw 1 a/\H'.blk (H.n+1)= .rw 1 b:=by obtain⟨H1,e1,k1,n1,q1⟩:=QX H a;obtain⟨H2,e2,k2,n2,q2⟩:=QX H1 b;exact⟨H2,by rw[e1,e2],k1.trans k2,by omega,by rw[k2.blk _ (by omega)];exact q1,by rw[<-n1];exact q2⟩
theorem GM{H:AH}{t:TypeId}{n b:Nat}{cs ws:List Value}(ht:YE Tryz.prog t=some n)(hb:H.blk b= .rw 1 cs)(hc:cs.length=n){v:Value}(hv:v.cells.toList=ws)(hw:ws.length=n)(h1:ws.all one=true): ∃H',YP Tryz.prog H t (.pointer (some ⟨b,0,none⟩)) v=some H'/\H'.n=H.n/\H'.blk b= .rw 1 ws/\(∀j,j≠b->H'.blk j=H.blk j)/\LV b H H':=by obtain⟨H',st,q,n1,o,ka,_⟩:=TY (o:=0) ht hb hv hw (by omega) h1;refine⟨H',st,n1,?_,o,ka⟩;rw[q,List.take_zero,List.nil_append,List.drop_of_length_le (by omega),List.append_nil]
theorem HM:XT Tryz.prog 30=some true:=by kernel_rfl
theorem GG:YE Tryz.prog 30=some 2:=by kernel_rfl
theorem EJ{H:AH}{b:Nat}{p q:Value}(hb:H.blk b= .rw 1 [p,q]):Yk Tryz.prog H 30 (.pointer (some ⟨b,0,none⟩))=some (.agg #[p,q]):=by unfold Yk;simp only[HM,GG,AH.read_def,hb];simp[AH.cells_rw' hb,show Nat.ble 2 2=true from rfl]
theorem GZ{H:AH}{b:Nat}{p q:Value}(hb:H.blk b= .rw 1 [p,q]):Yk Tryz.prog H 4 (.pointer (some ⟨b,0,none⟩))=some p:=Vm I5 (AH.cells_rw' hb (by decide)) rfl
theorem Nu{H:AH}{b:Nat}{p q:Value}(hb:H.blk b= .rw 1 [p,q]):Yk Tryz.prog H 28 (.pointer (some ⟨b,1,none⟩))=some q:=Vm DJ (AH.cells_rw' hb (by decide)) rfl
theorem HF(b:Nat):Yp Tryz.prog 30 (.pointer (some ⟨b,0,none⟩)) 1=some (.pointer (some ⟨b,1,none⟩)):=FM b 0
theorem Yl.cells1{n:Nat}{H:AH}{v:Value}{xs:List Nat}(h:Yl n H v xs):v.cells=#[v]/\one v=true:=h.isSlice
section
attribute [-simp] Int.natCast_add Int.natCast_mul Int.natCast_ediv Int.natCast_emod Int.natCast_pow
attribute [local simp] strip Zt YR LR gW ZZ ZO Zk ZN Zv ZM Ze Zf Zb Zw ZT Zs ZI Zi Zx Zc Za ZJ ZK Yo Zn ZS Yd ZC Zu plain Zq Tr.get_set ZA Zd Z5 Zl sameKind undef Zh Zy ZR ZU Zm parts Xd DW ZL Zg LX Zo
section
variable {H : AH} {u va vb : Value} {xs ys : List Nat} {A B : Nat}
def sg(neg:Bool)(N:Nat):Bool:=neg&&decide (0<N)
end
end
theorem Yl.off{n b:Nat}{H H':AH}{w:Value}{xs:List Nat}(o:Yl n H w xs)(hb:b<n)(hn:H'.n=H.n)(h: ∀j,j≠b->H'.blk j=H.blk j):Yl n H' w xs:=o.but (b:=some b) ⟨hn,fun j _ hj=>h j (fun e=>hj (by rw[e]))⟩ (fun c hc hv=>by cases hc;have:=(o.blk_lo hv).1;omega)
section
attribute [-simp] Int.natCast_add Int.natCast_mul Int.natCast_ediv Int.natCast_emod Int.natCast_pow
attribute [local simp] strip Zt YR LR gW ZZ ZO Zk ZN Zv ZM Ze Zf Zb Zw ZT Zs ZI Zi Zx Zc Za ZJ ZK Yo Zn ZS Yd ZC Zu plain Zq Tr.get_set ZA Zd Z5 Zl sameKind undef Zh Zy ZR ZU Zm parts Xd DW ZL Zg LX Zo
section
variable {H : AH} {u v va vb : Value} {xs ys : List Nat} {A B : Nat}
def VB(neg:Bool)(N:Nat):Int:=if N=0 then 0 else if neg then-1 else 1
end
section
variable {H : AH} {u v va vb : Value} {xs ys : List Nat} {A B : Nat}
end
section
variable {H : AH} {u v va vb : Value} {xs ys : List Nat} {A B : Nat}
end
end
theorem Yl.trio{n:Nat}{H:AH}{v:Value}{xs:List Nat}(h:Yl n H v xs):v.cells=#[v]/\one v=true/\ ∃a l c,v= .slice a l c:=⟨h.cells1.1,h.cells1.2,h.shape⟩
section
attribute [-simp] Int.natCast_add Int.natCast_mul Int.natCast_ediv Int.natCast_emod Int.natCast_pow
attribute [local simp] strip Zt YR LR gW ZZ ZO Zk ZN Zv ZM Ze Zf Zb Zw ZT Zs ZI Zi Zx Zc Za ZJ ZK Yo Zn ZS Yd ZC Zu plain Zq Tr.get_set ZA Zd Z5 Zl sameKind undef Zh Zy ZR ZU Zm parts Xd DW ZL Zg LX Zo
section
variable {H : AH} {u v va vb : Value} {xs ys : List Nat} {A B : Nat}
def LD(p q r:Value):Prop:=(∃b,p= .bool b)/\(∃a l c,q= .slice a l c)/\ ∃a l c,r= .slice a l c
end
section
variable {H : AH} {u v va vb : Value} {xs ys : List Nat} {A B : Nat}
def JO(m:Nat)(H H':AH):Prop:=H.n<=H'.n/\(∀j,j<H.n->H'.blk j=H.blk j)/\LV m H H'
end
end
theorem JO.own{m n:Nat}{H H':AH}(h:JO m H H'){v:Value}{xs:List Nat}(o:Yl n H v xs):Yl n H' v xs:=o.mod (b:=none) ⟨h.1,fun j hj _=>h.2.1 j hj⟩ (fun c hc=>by cases hc)
theorem JO.keep{m:Nat}{H0 H H':AH}(h:JO m H H')(k:ZQ H0 H)(hn:H0.n<=m):ZQ H0 H':=h.2.2 H0 k hn
section
attribute [-simp] Int.natCast_add Int.natCast_mul Int.natCast_ediv Int.natCast_emod Int.natCast_pow
attribute [local simp] strip Zt YR LR gW ZZ ZO Zk ZN Zv ZM Ze Zf Zb Zw ZT Zs ZI Zi Zx Zc Za ZJ ZK Yo Zn ZS Yd ZC Zu plain Zq Tr.get_set ZA Zd Z5 Zl sameKind undef Zh Zy ZR ZU Zm parts Xd DW ZL Zg LX Zo
attribute [local simp] Z4 Yn
section
variable {H : AH} {u v va vb : Value} {xs ys : List Nat} {A B : Nat}
end
end
section
attribute [-simp] Int.natCast_add Int.natCast_mul Int.natCast_ediv Int.natCast_emod Int.natCast_pow
attribute [local simp] strip Zt YR LR gW ZZ ZO Zk ZN Zv ZM Ze Zf Zb Zw ZT Zs ZI Zi Zx Zc Za ZJ ZK Yo Zn ZS Yd ZC Zu plain Zq Tr.get_set ZA Zd Z5 Zl sameKind undef Zh Zy ZR ZU Zm parts Xd DW ZL Zg LX Zo
section
variable {H : AH} {u v va vb : Value} {xs ys : List Nat} {A B : Nat}
end
end
section
attribute [-simp] Int.natCast_add Int.natCast_mul Int.natCast_ediv Int.natCast_emod Int.natCast_pow
attribute [local simp] strip Zt YR LR gW ZZ ZO Zk ZN Zv ZM Ze Zf Zb Zw ZT Zs ZI Zi Zx Zc Za ZJ ZK Yo Zn ZS Yd ZC Zu plain Zq Tr.get_set ZA Zd Z5 Zl sameKind undef Zh Zy ZR ZU Zm parts Xd DW ZL Zg LX Zo
attribute [local simp] Z4 Yn
section
variable {H : AH} {u v va vb : Value} {xs ys : List Nat} {A B : Nat}
end
section
variable {H : AH} {u v va vb : Value} {xs ys : List Nat} {A B : Nat}
theorem Sl.trio{H:AH}{s:Bool}{xs ys:List Nat}(ha:Sl H u xs)(hb:Sl H v ys):LD (.bool s) u v:=⟨⟨s,rfl⟩,ha.shape,hb.shape⟩
end
section
variable {H : AH} {u v va vb : Value} {xs ys : List Nat} {A B : Nat}
end
end
theorem L8(a b:Nat):WB a b= -1\/WB a b=0\/WB a b=1:=by
 unfold WB;split;·exact .inl rfl
 ·split;·exact .inr (.inr rfl)
  ·exact .inr (.inl rfl)
section
attribute [-simp] Int.natCast_add Int.natCast_mul Int.natCast_ediv Int.natCast_emod Int.natCast_pow
attribute [local simp] strip Zt YR LR gW ZZ ZO Zk ZN Zv ZM Ze Zf Zb Zw ZT Zs ZI Zi Zx Zc Za ZJ ZK Yo Zn ZS Yd ZC Zu plain Zq Tr.get_set ZA Zd Z5 Zl sameKind undef Zh Zy ZR ZU Zm parts Xd DW ZL Zg LX Zo
section
variable {H : AH} {u v va vb : Value} {xs ys : List Nat} {A B : Nat}
end
section
variable {H : AH} {u v va vb : Value} {xs ys : List Nat}
end
end
def Uv(base:Nat)(l:List Nat)(ms:List (Nat×Nat×Nat)):Prop:= ∀x∈ms,x.1∈l/\base<=x.2.1
theorem Uv.nil(base:Nat):Uv base [] []:=fun x hx=>by cases hx
theorem Uv.cons{base i a b:Nat}{l:List Nat}{ms:List (Nat×Nat×Nat)}(h:Uv base l ms)(ha:base<=a):Uv base (i::l) (cond (Nat.blt a b) ((i,a,b)::ms) ms):=fun x hx=>by cases hb:Nat.blt a b with
 |false=>rw[hb,cond_false]at hx;exact⟨List.mem_cons_of_mem _ (h x hx).1,(h x hx).2⟩
 |true=>
  rw[hb,cond_true]at hx;rcases List.mem_cons.mp hx with e|e;·rw[e];exact⟨List.mem_cons_self ..,ha⟩
  ·exact⟨List.mem_cons_of_mem _ (h x e).1,(h x e).2⟩
theorem Uv.hid{base:Nat}{l:List Nat}{ms:List (Nat×Nat×Nat)}(h:Uv base l ms){bits:Nat}(hb:l.all (fun i=>bits.testBit i)=true):hidden bits ms=[]:=VU fun x hx=>List.all_eq_true.mp hb _ (h x hx).1
theorem Uv.ge{base:Nat}{l:List Nat}{ms:List (Nat×Nat×Nat)}(h:Uv base l ms): ∀x∈ms,base<=x.2.1:=fun x hx=>(h x hx).2
section
variable {P : Program} {C : Ev.Cfg} {X : Ev.Xs} {ops : Array Oper} {k i : Nat} {q : Bool} {ms : List (Nat × Nat × Nat)} {tm : Tr Value} {H : AH} {K : Tr Value -> AH -> Prop}
theorem IC{o:Oper}{r:List Oper}{v:Value}(he:ZZ P C (ZF P C) tm H.top o.op=some (v,H.top))(h:match o.dst with|none=>DW X P C ops k (i+1) false [] r tm H K|some d=>d<k/\DW X P C ops k (i+1) false [] r (tm.set d v) H K)(hg:gW tm (ZL ops o)=some true:=by exact rfl)(hh:Zg o.op=true:=by exact rfl)(hf:X.fv i=none:=by first|rfl|kernel_rfl):DG X P C ops k i false [] (o::r) tm H K:=YG hg hh rfl (by rw[YD rfl];exact he) h hf
theorem SL{base:Nat}{l:List Nat}{o:Oper}{r:List Oper}{v:Value}{H2 J:AH}(M:Uv base l ms)(k2:ZQ H.top H2)(hJ:J=grown H H2)(he:ZZ P C (ZF P C) tm H.top o.op=some (v,H2))(h: ∀DS,Uv base (i::l) DS->match o.dst with|none=>DW X P C ops k (i+1) false DS r tm J K|some d=>d<k/\DW X P C ops k (i+1) false DS r (tm.set d v) J K)(hb:base<=H.n:=by omega)(hl:l.all (fun j=>((before ops).getD i 0).testBit j)=true:=by kernel_rfl)(hg:gW tm (ZL ops o)=some true:=by exact rfl)(hh:Zg o.op=true:=by exact rfl)(hf:X.fv i=none:=by first|rfl|kernel_rfl):DG X P C ops k i false ms (o::r) tm H K:=by subst hJ;exact X2 hg hh rfl (H2:=H2) (by rw[YD (M.hid hl)];exact he) k2.n (Wj k2) (h _ (M.cons hb)) hf
end
def PY(s:Bool)(A B:Nat)(t:Bool)(C D:Nat):Int:=if VB s A≠VB t C then(if VB s A<VB t C then-1 else 1)else VB s A*WB (A*D) (C*B)
theorem EI{x y:Int} :Zj .lss .i64 x y=some (.bool (decide (x<y))):=rfl
theorem NN(s:Bool)(A:Nat):VB s A= -1\/VB s A=0\/VB s A=1:=by
 unfold VB;split;·exact .inr (.inl rfl)
 ·split;·exact .inl rfl
  ·exact .inr (.inr rfl)
theorem EE{a c:Int}(ha:a= -1\/a=0\/a=1)(hc:c= -1\/c=0\/c=1):Zj .mul .i64 a c=some (.int .i64 (a*c)):=by rcases ha with rfl|rfl|rfl<;>rcases hc with rfl|rfl|rfl<;>rfl
section
attribute [-simp] Int.natCast_add Int.natCast_mul Int.natCast_ediv Int.natCast_emod Int.natCast_pow
attribute [local simp] strip Zt YR LR gW ZZ ZO Zk ZN Zv ZM Ze Zf Zb Zw ZT Zs ZI Zi Zx Zc Za ZJ ZK Yo Zn ZS Yd ZC Zu plain Zq Tr.get_set ZA Zd Z5 Zl sameKind undef Zh Zy ZR ZU Zm parts Xd DW ZL Zg LX Zo
attribute [local simp] Z4 Yn
section
variable {H : AH} {u v w z : Value}
end
end
section
attribute [-simp] Int.natCast_add Int.natCast_mul Int.natCast_ediv Int.natCast_emod Int.natCast_pow
attribute [local simp] strip Zt YR LR gW ZZ ZO Zk ZN Zv ZM Ze Zf Zb Zw ZT Zs ZI Zi Zx Zc Za ZJ ZK Yo Zn ZS Yd ZC Zu plain Zq Tr.get_set ZA Zd Z5 Zl sameKind undef Zh Zy ZR ZU Zm parts Xd DW ZL Zg LX Zo
section
variable {H : AH} {u v w z : Value}
end
section
variable {H : AH} {u v w z : Value}
end
section
variable {H : AH} {u v w z : Value}
end
end
theorem Tm{H:AH}{b:Nat}{p q r:Value}(hb:H.blk b= .rw 1 [p,q,r]):Yk Tryz.prog H 54 (.pointer (some ⟨b,0,none⟩))=some (.agg #[p,q,r]):=Nv (AH.cells_rw' hb (by decide)) rfl rfl
theorem Gz{H:AH}{b:Nat}{p q r:Value}(hb:H.blk b= .rw 1 [p,q,r]):Yk Tryz.prog H 4 (.pointer (some ⟨b,0,none⟩))=some p:=Vm I5 (AH.cells_rw' hb (by decide)) rfl
theorem Nt{H:AH}{b:Nat}{p q r:Value}(hb:H.blk b= .rw 1 [p,q,r]):Yk Tryz.prog H 48 (.pointer (some ⟨b,1,none⟩))=some q:=Vm FZ (AH.cells_rw' hb (by decide)) rfl
theorem K6{H:AH}{b:Nat}{p q r:Value}(hb:H.blk b= .rw 1 [p,q,r]):Yk Tryz.prog H 48 (.pointer (some ⟨b,2,none⟩))=some r:=Vm FZ (AH.cells_rw' hb (by decide)) rfl
theorem D8(b:Nat):Yp Tryz.prog 54 (.pointer (some ⟨b,0,none⟩)) 0=some (.pointer (some ⟨b,0,none⟩)):=by kernel_rfl
theorem HG(b:Nat):Yp Tryz.prog 54 (.pointer (some ⟨b,0,none⟩)) 1=some (.pointer (some ⟨b,1,none⟩)):=feN b 0
theorem FK(b:Nat):Yp Tryz.prog 54 (.pointer (some ⟨b,0,none⟩)) 2=some (.pointer (some ⟨b,2,none⟩)):=feD b 0
theorem BJ{H:AH}{b:Nat}{p' q' r' p q r:Value}(hb:H.blk b= .rw 1 [p',q',r'])(ht:LD p q r): ∃H',YP Tryz.prog H 54 (.pointer (some ⟨b,0,none⟩)) (.agg #[p,q,r])=some H'/\H'.n=H.n/\H'.blk b= .rw 1 [p,q,r]/\(∀j,j≠b->H'.blk j=H.blk j)/\LV b H H':=by obtain⟨⟨s,rfl⟩,⟨a1,l1,c1,rfl⟩,⟨a2,l2,c2,rfl⟩⟩:=ht;exact GM sR hb rfl rfl rfl rfl
section
attribute [-simp] Int.natCast_add Int.natCast_mul Int.natCast_ediv Int.natCast_emod Int.natCast_pow
attribute [local simp] strip Zt YR LR gW ZZ ZO Zk ZN Zv ZM Ze Zf Zb Zw ZT Zs ZI Zi Zx Zc Za ZJ ZK Yo Zn ZS Yd ZC Zu plain Zq Tr.get_set ZA Zd Z5 Zl sameKind undef Zh Zy ZR ZU Zm parts Xd DW ZL Zg LX Zo
section
variable {H : AH} {u v w z : Value}
theorem WY(s:Bool){N:Nat}(ha:Sl H u (ds ZV N))(v:Value): ∃H',ZF Tryz.prog Yg 61 [.agg #[.bool s,u,v]] H=some (.int .i64 (VB s N),H')/\ZQ H H':=by
 suffices h:CW Tryz.prog Yg 61 [.agg #[.bool s,u,v]] H fun r H'=>r= .int .i64 (VB s N)/\ZQ H H' by obtain⟨v,H',hc,rfl,k⟩:=h;exact⟨H',hc,k⟩
 obtain⟨S,hS⟩:=hid (VB s N);rw[<-hS];unfold VB at hS;obtain⟨H2,e2,k2,n2,q1⟩:=QX H [.bool s,u,v];have c3:=T2 (ha.keep k2);refine YH 8 Tryz.func61 ?_;apply ZX;intro b1 ZH;simp[Value.cells,e2];subst ZH;apply Zz;intro b1 ZH;apply ZX;intro b2 Yy;simp[HG,Nt q1,c3];subst Yy;by_cases h0:N=0;·rw[if_pos h0]at hS;subst hS;refine Zp (t:=true) (by simp[h0]) ?_;apply ZX;intro b2 Yy;simp;subst Yy;apply Z8;simp[WA];exact k2
 ·rw[if_neg h0]at hS;refine Zp (t:=false) (by simp[h0]) ?_;apply ZE;subst ZH;apply Zz;intro b1 ZH;apply ZX;intro b2 Yy;simp[D8,Gz q1];subst Yy;cases s with|true=>rw[if_pos rfl]at hS;subst hS;refine Zp (t:=true) (by simp) ?_;apply ZX;intro b2 Yy;simp;subst Yy;apply Z8;simp[WA];exact k2|false=>rw[if_neg (by decide)]at hS;subst hS;refine Zp (t:=false) (by simp) ?_;apply ZE;subst ZH;apply ZX;intro b1 ZH;simp;subst ZH;apply Z8;simp;exact k2
end
end
theorem DE{p q:Value}(hp: ∃a l c,p= .slice a l c)(hq: ∃a l c,q= .slice a l c):V1 Tryz.prog 54 [(1,p),(2,q)]=some (.agg #[.bool false,p,q]):=by obtain⟨a,l,c,rfl⟩:=hp;obtain⟨a',l',c',rfl⟩:=hq;rfl
section
attribute [-simp] Int.natCast_add Int.natCast_mul Int.natCast_ediv Int.natCast_emod Int.natCast_pow
attribute [local simp] strip Zt YR LR gW ZZ ZO Zk ZN Zv ZM Ze Zf Zb Zw ZT Zs ZI Zi Zx Zc Za ZJ ZK Yo Zn ZS Yd ZC Zu plain Zq Tr.get_set ZA Zd Z5 Zl sameKind undef Zh Zy ZR ZU Zm parts Xd DW ZL Zg LX Zo
section
variable {H : AH} {u v w z : Value}
end
end
theorem Pm.mono{n m:Nat}{H H':AH}{us:List Value}{r:Bool×Nat×Nat}(o:Pm n H us r)(h:m<=n)(k:ZQ H H'):Pm m H' us r:=by obtain⟨a,b,rfl,o1,o2⟩:=o;exact⟨a,b,rfl,o1.mono h k,o2.mono h k⟩
section
attribute [-simp] Int.natCast_add Int.natCast_mul Int.natCast_ediv Int.natCast_emod Int.natCast_pow
attribute [local simp] strip Zt YR LR gW ZZ ZO Zk ZN Zv ZM Ze Zf Zb Zw ZT Zs ZI Zi Zx Zc Za ZJ ZK Yo Zn ZS Yd ZC Zu plain Zq Tr.get_set ZA Zd Z5 Zl sameKind undef Zh Zy ZR ZU Zm parts Xd DW ZL Zg LX Zo
section
variable {H : AH} {u v w z : Value}
theorem Pm.m{n:Nat}{H H':AH}{us:List Value}{r:Bool×Nat×Nat}(o:Pm n H us r)(k:ZQ H H'):Pm n H' us r:=o.mono Nat.le.refl k
end
section
variable {H : AH} {u v w z : Value}
end
end
end
end Go.Proofs.YtjboehpfojpimaaGreatDoor
