/-
  The engine and the walks that the claim's last text leans on, part 5 of 5: Ub, Uc, Ud, Ue, Uf, Ug, Uh, Ui, Uj, Uk, Ul, Um, Un, Uo, Up, Uq, Ur, Us, Ut, Uu, Uv, Uw, OrA, OrB, OrC, OrD, OrE, Ba, LaidB, Bb, Bd, Bg, Kept.
-/
import Derived.Test.YtjboehpfojpimaaGreatDoorM4
import Derived.Carry
namespace Go.Proofs.YtjboehpfojpimaaGreatDoor
open Go Ev
set_option linter.unusedVariables false
set_option linter.unusedSimpArgs false
noncomputable section
set_option maxHeartbeats 2000000
set_option maxRecDepth 20000
section
attribute [-simp] Int.natCast_add Int.natCast_mul Int.natCast_ediv Int.natCast_emod Int.natCast_pow
attribute [local simp] strip Zt YR LR gW ZZ ZO Zk ZN Zv ZM Ze Zf Zb Zw ZT Zs ZI Zi Zx Zc Za ZJ ZK Yo Zn ZS Yd ZC Zu plain Zq Tr.get_set ZA Zd Z5 Zl sameKind undef Zh Zy ZR ZU Zm parts Xd DW ZL Zg LX Zo
section
variable {H : AH} {u v w z : Value}
theorem Tx(s t:Bool){A B C D:Nat}(ha:Sl H u (ds ZV A))(hb:Sl H v (ds ZV B))(hc:Sl H w (ds ZV C))(hd:Sl H z (ds ZV D))(lA:(ds ZV A).length<=Su)(lB:(ds ZV B).length<=Su)(lC:(ds ZV C).length<=Su)(lD:(ds ZV D).length<=Su): ∃H',ZG Tryz.prog Yf 20 [.agg #[.bool s,u,v],.agg #[.bool t,w,z]] H=some (.int .i64 (PX s A B t C D),H')/\ZQ H H':=by
 obtain⟨R,hR⟩:=hid (PX s A B t C D);rw[<-hR];suffices h:CW Tryz.prog Yf 20 [.agg #[.bool s,u,v],.agg #[.bool t,w,z]] H fun x H'=>x= .int .i64 R/\ZQ H H' by obtain⟨x,H',hc,rfl,k⟩:=h;exact⟨H',hc,k⟩
 unfold PX at hR;have hLim:Su=2000000000000:=rfl;obtain⟨H4,e2,BU,n2,r0,r1⟩:=Kg H [.bool s,u,v] [.bool t,w,z];have sx:=NG s A;obtain⟨x,hx⟩:=hid (VB s A);obtain⟨y,hy⟩:=hid (VB t C);rw[<-hx,<-hy]at hR;rw[<-hx]at sx;obtain⟨E1,c5,BT⟩:=WY s ((ha.keep BU).top) v;obtain⟨G1,JN⟩:=hid (grown H4 E1);have JI:ZQ H4 G1:=by rw[JN];exact Xb (.refl H4) BT
 have nE1:H4.n<=E1.n:=BT.n;obtain⟨E2,c6,BS⟩:=WY t ((hc.keep (BU.trans JI)).top) z;obtain⟨G2,F6⟩:=hid (grown G1 E2);have HV:ZQ G1 G2:=by rw[F6];exact Xb (.refl G1) BS
 have nE2:G1.n<=E2.n:=BS.n;have kH:=JI.trans HV;have ng:=kH.n;rw[<-hx]at c5;rw[<-hy]at c6;have l2: ∀bits ms,(∀x∈ms,H4.n<=x.2.1)->Yk Tryz.prog (Pe G1 bits ms) 54 (.pointer (some ⟨H.n+1,0,none⟩))=some (.agg #[.bool t,w,z]):=fun bits ms h=>Tn (by rw[(Uc JI h).blk _ (by omega)];exact r1);have HW:=BU.trans kH;have f0:G2.blk H.n= .rw 1 [.bool s,u,v]:=by rw[kH.blk _ (by omega)];exact r0
 have f1:G2.blk (H.n+1)= .rw 1 [.bool t,w,z]:=by rw[kH.blk _ (by omega)];exact r1
 have gn:Zj .neq .i64 x y=some (.bool (decide (x≠y))):=E6;have gl:Zj .lss .i64 x y=some (.bool (decide (x<y))):=EA;refine YH 29 Tryz.func20 ?_;apply ZX;intro b1 ZH;simp[Value.cells,E7,e2];subst ZH;apply Zz;intro b1 ZH;apply Zz;intro b2 Yy;apply SJ (by kernel_rfl);simp;refine YG (v:= .agg #[.bool s,u,v]) rfl rfl rfl (by rw[YD rfl];simp[Tn (H:=H4.top) r0]) ?_;simp;refine X2 (v:= .int .i64 x) (H2:=E1) rfl rfl rfl (by rw[YD rfl];simp[c5]) nE1 (Wi BT) ?_;rw[<-JN];have My:=(Uv.nil H4.n).cons (i:=1) (a:=H4.n) (b:=E1.n) (Nat.le_refl _);generalize cond (Nat.blt H4.n E1.n) _ _=ms at My;simp;refine YG (v:= .agg #[.bool t,w,z]) rfl rfl rfl (by simp[l2 _ ms My.ge]) ?_;simp;refine X2 (v:= .int .i64 y) (H2:=E2) rfl rfl rfl ?_ nE2 (Wi BS) ?_;·rw[YD (My.hid (by kernel_rfl))];simp[c6]
 rw[<-F6];simp[gn];subst Yy;clear My;obtain⟨I1,d1,DM⟩:=WY s ((ha.keep HW).top) v;rw[<-hx]at d1;obtain⟨J1,Cq⟩:=hid (grown G2 I1);have It:ZQ G2 J1:=by rw[Cq];exact Xb (.refl _) DM
 have m1:G2.n<=I1.n:=DM.n;have nk1:=It.n;have vk: ∀{J:AH}(k:ZQ G2 J){bits ms},(∀x∈ms,G2.n<=x.2.1)-> ∀b,b<G2.n->(Pe J bits ms).blk b=G2.blk b:=fun k _ _ h b hb=>(Uc k h).blk b hb;by_cases Ip:x≠y
 ·rw[if_pos Ip]at hR;refine Zp (t:=true) (by simp[Ip]) ?_;obtain⟨I2,d2,HU⟩:=WY t ((hc.keep (HW.trans It)).top) z;rw[<-hy]at d2;obtain⟨J2,Fe⟩:=hid (grown J1 I2);have BR:ZQ J1 J2:=by rw[Fe];exact Xb (.refl _) HU
  have m2:J1.n<=I2.n:=HU.n;have kF:=HW.trans (It.trans BR);apply Zz;intro b2 Yy;apply Zz;intro b3 YC;apply SJ (by kernel_rfl);simp;refine YG (v:= .agg #[.bool s,u,v]) rfl rfl rfl (by rw[YD rfl];simp[Tn (H:=G2.top) f0]) ?_;simp;refine X2 (v:= .int .i64 x) (H2:=I1) rfl rfl rfl (by rw[YD rfl];simp[d1]) m1 (Wi DM) ?_;rw[<-Cq];have My:=(Uv.nil G2.n).cons (i:=1) (a:=G2.n) (b:=I1.n) (Nat.le_refl _);generalize cond (Nat.blt G2.n I1.n) _ _=ms at My;simp;refine YG (v:= .agg #[.bool t,w,z]) rfl rfl rfl (by simp[Tn ((vk It My.ge _ (by omega)).trans f1)]) ?_;simp;refine X2 (v:= .int .i64 y) (H2:=I2) rfl rfl rfl (by rw[YD (My.hid (by kernel_rfl))];simp[d2]) m2 (Wi HU) ?_;rw[<-Fe];simp[gl];subst YC;by_cases Z0:x<y;·rw[if_pos Z0]at hR;subst hR;refine Zp (t:=true) (by simp[Z0]) ?_;apply ZX;intro b3 YC;simp;subst YC;apply Z8;simp[WA];exact kF
  ·rw[if_neg Z0]at hR;subst hR;refine Zp (t:=false) (by simp[Z0]) ?_;apply ZE;subst Yy;apply ZX;intro b2 Yy;simp;subst Yy;apply Z8;simp[WA];exact kF
 ·have Bw:x=y:=Decidable.not_not.mp Ip;rw[if_neg Ip]at hR;refine Zp (t:=false) (by simp[Bw]) ?_;apply ZE;subst ZH;obtain⟨g1,I2,d2,HU,oI2⟩:=So ((ha.keep (HW.trans It)).top) ((hd.keep (HW.trans It)).top) (by omega) (by omega);obtain⟨J2,Fe⟩:=hid (grown J1 I2);have BR:ZQ J1 J2:=by rw[Fe];exact Xb (.refl _) HU
  have Fu:=It.trans BR;obtain⟨g2,I3,d3,DL,oI3⟩:=So ((hc.keep (HW.trans Fu)).top) ((hb.keep (HW.trans Fu)).top) (by omega) (by omega);obtain⟨J3,Cr⟩:=hid (grown J2 I3);have A1:ZQ J2 J3:=by rw[Cr];exact Xb (.refl _) DL
  have A2:=Fu.trans A1;have s1:Sl J3 g1 (ds ZV (A*D)):=((by rw[Fe];exact oI2.same (Vj HU):Yl J1.top.n J2 g1 (ds ZV (A*D))).sl.keep A1);have s2:Sl J3 g2 (ds ZV (C*B)):=(by rw[Cr];exact oI3.same (Vj DL):Yl J2.top.n J3 g2 (ds ZV (C*B))).sl;have y1:=U6 (A:=A) (B:=D);have y2:=U6 (A:=C) (B:=B);obtain⟨vc,Hc,cc,ec,An⟩:=V8 s1.top s2.top (Xo two32 _) (Xo two32 _) (Uh two32 _) (Uh two32 _) (by omega) (by omega);rw[X4 two32,X4 two32]at An;rw[ec,An]at cc;have m2:J1.n<=I2.n:=HU.n;have m3:J2.n<=I3.n:=DL.n;have nk2:=Fu.n;have nk3:=A2.n;obtain⟨cm,AZ⟩:=hid (WB (A*D) (C*B));rw[<-AZ]at cc hR;have gm:=E5 sx (show cm= -1\/cm=0\/cm=1 by rw[AZ];exact Ki _ _);rw[<-hR]at gm;apply Zz;intro b1 ZH;apply SJ (by kernel_rfl);simp;refine YG (v:= .agg #[.bool s,u,v]) rfl rfl rfl (by rw[YD rfl];simp[Tn (H:=G2.top) f0]) ?_;simp;refine X2 (v:= .int .i64 x) (H2:=I1) rfl rfl rfl (by rw[YD rfl];simp[d1]) m1 (Wi DM) ?_;rw[<-Cq];have My:=(Uv.nil G2.n).cons (i:=1) (a:=G2.n) (b:=I1.n) (Nat.le_refl _);generalize cond (Nat.blt G2.n I1.n) _ _=ms at My;simp[Gc];refine YG (v:=u) rfl rfl rfl (by simp[Nv ((vk It My.ge _ (by omega)).trans f0)]) ?_;simp[FB];refine YG (v:=z) rfl rfl rfl (by simp[Jg ((vk It My.ge _ (by omega)).trans f1)]) ?_;simp;refine X2 (v:=g1) (H2:=I2) rfl rfl rfl (by rw[YD (My.hid (by kernel_rfl))];simp[d2]) m2 (Wi HU) ?_;rw[<-Fe];have E4:=My.cons (i:=6) (a:=J1.n) (b:=I2.n) (by omega);generalize cond (Nat.blt J1.n I2.n) _ _=DK at E4;simp[Gc];refine YG (v:=w) rfl rfl rfl (by simp[Nv ((vk Fu E4.ge _ (by omega)).trans f1)]) ?_;simp[FB];refine YG (v:=v) rfl rfl rfl (by simp[Jg ((vk Fu E4.ge _ (by omega)).trans f0)]) ?_;simp;refine X2 (v:=g2) (H2:=I3) rfl rfl rfl (by rw[YD (E4.hid (by kernel_rfl))];simp[d3]) m3 (Wi DL) ?_;rw[<-Cr];have A4:=E4.cons (i:=11) (a:=J2.n) (b:=I3.n) (by omega);generalize cond (Nat.blt J2.n I3.n) _ _=ms'' at A4;simp;refine YG (v:= .int .i64 cm) rfl rfl rfl (by rw[YD (A4.hid (by kernel_rfl))];simp[cc]) ?_;simp[gm];subst ZH;apply Z8;simp;exact HW.trans A2
end
section
variable {H : AH}
theorem Ty{n:Nat}(hn:n<9223372036854775808): ∃p q H',ZG Tryz.prog Yf 21 [.int .i64 (n:Int)] H=some (.agg #[.bool false,p,q],H')/\ZQ H H'/\Yl H.n H' p (ds ZV n)/\Yl H.n H' q (ds ZV 1):=by
 suffices h:CW Tryz.prog Yf 21 [.int .i64 (n:Int)] H fun v H'=> ∃p q,v= .agg #[.bool false,p,q]/\ZQ H H'/\Yl H.n H' p (ds ZV n)/\Yl H.n H' q (ds ZV 1) by obtain⟨v,H',hc,p,q,rfl,k,o⟩:=h;exact⟨p,q,H',hc,k,o⟩
 obtain⟨H2,e2,k2,n2,q2⟩:=QX H [.bool false,.slice none 0 0,.slice none 0 0];obtain⟨p,H3,c3,k3,o3,_⟩:=W4 (H:=H2) n (Nat.lt_trans hn (by decide));obtain⟨q,H4,c4,k4,o4,_⟩:=W4 (H:=H3) 1 (by decide);have c4:ZG Tryz.prog Yf 15 [.int .i64 1] H3=some (q,H4):=c4;have n3:=k3.n;have Dc:=(k3.trans k4).blk _ (show H.n<H2.n by omega);rw[q2]at Dc;have DJ:=o3.m k4;obtain⟨i1,i2,i3⟩:=DJ.trio;obtain⟨j1,j2,j3⟩:=o4.trio;obtain⟨H5,B1,n5,q5,b5,BP⟩:=BB (p:= .bool false) (q:=p) (r:=q) Dc ⟨⟨_,rfl⟩,i3,j3⟩;have k05:ZQ H H5:=BP H ((k2.trans k3).trans k4) (by omega);have o5:=(DJ.off (b:=H.n) (by omega) n5 b5).mono (show H.n<=H2.n by omega) (.refl _);have o6:=(o4.off (b:=H.n) (by omega) n5 b5).mono (show H.n<=H3.n by omega) (.refl _);have Rg:=Tn q5;refine YH 16 Tryz.func21 ?_;apply ZX;intro b1 ZH;simp[Value.cells,zR,E7,e2];subst ZH;apply Zz;intro b1 ZH;apply ZX;intro b2 Yy;simp[Iy];subst Yy;refine Zp (t:=false) (by simp) ?_;apply ZE;subst ZH;apply ZX;intro b1 ZH;simp[c3,c4,D3 i3 j3,B1];subst ZH;apply Z8;simp[Rg];exact⟨_,_,⟨rfl,rfl⟩,k05,o5,o6⟩
end
end
def Pl(s:Bool)(A B:Nat):Prop:=Xv s A B=(s,A,B)/\0<B
theorem Pl.cop{s:Bool}{A B:Nat}(h:Pl s A B):Nat.gcd A B=1:=by
 obtain⟨h,h0⟩:=h;unfold Xv at h;by_cases hA:A=0
 ·rw[if_pos hA]at h;have:B=1:=by rw[Prod.mk.injEq,Prod.mk.injEq]at h;exact h.2.2.symm
  rw[hA,this];rfl
 ·rw[if_neg hA]at h;rw[Prod.mk.injEq,Prod.mk.injEq]at h;have h1:B/Nat.gcd A B=B:=h.2.2;have g0:0<Nat.gcd A B:=Nat.gcd_pos_of_pos_right _ h0;have h2:Nat.gcd A B*(B/Nat.gcd A B)=B:=Nat.mul_div_cancel' (Nat.gcd_dvd_right A B);rw[h1]at h2;exact Nat.eq_of_mul_eq_mul_right h0 (by rw[h2,Nat.one_mul])
theorem Pl.zero{s:Bool}{A B:Nat}(h:Pl s A B)(hA:A=0):s=false/\B=1:=by have h:=h.1;unfold Xv at h;rw[if_pos hA,Prod.mk.injEq,Prod.mk.injEq]at h;exact⟨h.1.symm,h.2.2.symm⟩
theorem Ny{s:Bool}{A B:Nat}(hA:A≠0)(h0:0<B)(hc:Nat.gcd A B=1):Pl s A B:=by refine⟨?_,h0⟩;unfold Xv;rw[if_neg hA,hc,Nat.div_one,Nat.div_one]
theorem P6:Pl false 0 1:=⟨rfl,by decide⟩
def Dk(s:Bool)(X:Nat)(t:Bool)(Y:Nat):Bool×Nat:=if s=t then(s,X+Y)else if Y<=X then(s,X-Y)else(t,Y-X)
def FO(s:Bool)(A B:Nat)(t:Bool)(C D:Nat):Bool×Nat×Nat:=Xv (Dk s (A*D) t (C*B)).1 (Dk s (A*D) t (C*B)).2 (B*D)
theorem Yl.one1{n:Nat}{H:AH}{v:Value}{xs:List Nat}(h:Yl n H v xs):one v=true:=h.cells1.2
section
attribute [-simp] Int.natCast_add Int.natCast_mul Int.natCast_ediv Int.natCast_emod Int.natCast_pow
attribute [local simp] strip Zt YR LR gW ZZ ZO Zk ZN Zv ZM Ze Zf Zb Zw ZT Zs ZI Zi Zx Zc Za ZJ ZK Yo Zn ZS Yd ZC Zu plain Zq Tr.get_set ZA Zd Z5 Zl sameKind undef Zh Zy ZR ZU Zm parts Xd DW ZL Zg LX Zo
attribute [local simp] Z4 Yn
section
variable {H : AH} {u v w z : Value}
end
section
variable {H : AH} {u v w z : Value}
end
end
theorem Pl.neg{t:Bool}{C D:Nat}(h:Pl t C D):Pl (sg (!t) C) C D:=by
 by_cases hC:C=0;·obtain⟨h1,h2⟩:=h.zero hC;rw[hC,h2];simp[sg];exact P6
 ·exact Ny hC h.2 h.cop
theorem Pl.inv{t:Bool}{C D:Nat}(h:Pl t C D)(hC:0<C):Pl t D C:=Ny (by have:=h.2;omega) hC (by rw[Nat.gcd_comm];exact h.cop)
section
attribute [-simp] Int.natCast_add Int.natCast_mul Int.natCast_ediv Int.natCast_emod Int.natCast_pow
attribute [local simp] strip Zt YR LR gW ZZ ZO Zk ZN Zv ZM Ze Zf Zb Zw ZT Zs ZI Zi Zx Zc Za ZJ ZK Yo Zn ZS Yd ZC Zu plain Zq Tr.get_set ZA Zd Z5 Zl sameKind undef Zh Zy ZR ZU Zm parts Xd DW ZL Zg LX Zo
attribute [local simp] Z4 Yn
section
variable {H : AH} {u v w z : Value}
end
end
def G6(op:Int):Option (Bool×FuncId):=if op=2 then some (false,143)else if op=7 then some (false,144)else if op=3 then some (true,145)else if op=4 then some (true,146)else if op=5 then some (true,147)else if op=6 then some (true,148)else if op=8 then some (true,149)else if op=9 then some (true,150)else none
def fv(f:FuncId):Value:= .func (.func f) #[] #[]
def clo(two:Bool)(b:Nat):Value:= .func (.func (cond two 140 142)) #[] #[.pointer (some ⟨b,0,none⟩)]
def Qy(H:AH)(m:Nat):Prop:=m<H.n/\ ∃cs,H.blk m= .rw 0 cs/\ ∀op two f,G6 op=some (two,f)-> ∃i b,Tc .i64 op cs=some (some (i,clo two b))/\b<H.n/\H.blk b= .rw 1 [fv f]
theorem Qy.keep{H H':AH}{m:Nat}(h:Qy H m)(k:ZQ H H'):Qy H' m:=by obtain⟨hm,cs,hb,hw⟩:=h;refine⟨Nat.lt_of_lt_of_le hm k.n,cs,(k.blk _ hm).trans hb,fun op two f h=>?_⟩;obtain⟨i,b,h1,h2,h3⟩:=hw op two f h;exact⟨i,b,h1,Nat.lt_of_lt_of_le h2 k.n,(k.blk _ h2).trans h3⟩
section
attribute [-simp] Int.natCast_add Int.natCast_mul Int.natCast_ediv Int.natCast_emod Int.natCast_pow
attribute [local simp] strip Zt YR LR gW ZZ ZO Zk ZN Zv ZM Ze Zf Zb Zw ZT Zs ZI Zi Zx Zc Za ZJ ZK Yo Zn ZS Yd ZC Zu plain Zq Tr.get_set ZA Zd Z5 Zl sameKind undef Zh Zy ZR ZU Zm parts Xd DW ZL Zg LX Zo
attribute [local simp] Z4 Yn Vn VQ
section
variable {H : AH} {u v w z : Value}
end
end
def E8:Value->Bool| .int .u64 _=>false|_=>true
def noU(cs:List Value):Bool:=cs.all E8
def Fr(H H':AH):Prop:=H.n<=H'.n/\ ∀j,j<H.n->H'.blk j=H.blk j\/(∃sz cs,H.blk j= .rw sz cs/\sz≠1)\/ ∃cs cs',H.blk j= .rw 1 cs/\H'.blk j= .rw 1 cs'/\cs.length=cs'.length/\noU cs=true/\noU cs'=true
theorem Fr.refl(H:AH):Fr H H:=⟨Nat.le_refl _,fun j hj=> .inl rfl⟩
theorem Fr.trans{H H1 H2:AH}(a:Fr H H1)(b:Fr H1 H2):Fr H H2:=by
 refine⟨Nat.le_trans a.1 b.1,fun j hj=>?_⟩;have hb:=b.2 j (Nat.lt_of_lt_of_le hj a.1);rcases a.2 j hj with e|e|⟨cs,cs',e1,e2,e3,e4,e5⟩;·rw[e]at hb;exact hb
 ·exact .inr (.inl e)
 ·refine .inr (.inr ?_);rcases hb with x|⟨sz,c,x,hz⟩|⟨c,c',x1,x2,x3,x4,x5⟩;·exact⟨cs,cs',e1,x.trans e2,e3,e4,e5⟩
  ·rw[e2]at x;injection x with x _;exact absurd x.symm hz
  ·rw[e2]at x1;injection x1 with _ x1;subst x1;exact⟨cs,c',e1,x2,e3.trans x3,e4,x5⟩
theorem ZQ.fr{H H':AH}(k:ZQ H H'):Fr H H':=⟨k.n,fun j hj=> .inl (k.blk j hj)⟩
theorem Fr.put{H H':AH}{b:Nat}{cs cs':List Value}(hb:H.blk b= .rw 1 cs)(Xi:H'.blk b= .rw 1 cs')(hn:H'.n=H.n)(ho: ∀j,j≠b->H'.blk j=H.blk j)(hl:cs.length=cs'.length)(h1:noU cs=true)(h2:noU cs'=true):Fr H H':=by
 refine⟨Nat.le_of_eq hn.symm,fun j hj=>?_⟩;by_cases e:j=b;·subst e;exact .inr (.inr ⟨cs,cs',hb,Xi,hl,h1,h2⟩)
 ·exact .inl (ho j e)
theorem At.fr{H H':AH}{b o:Nat}{xs:List Nat}(h:At H b o xs)(f:Fr H H'):At H' b o xs:=by
 obtain⟨h1,cs,h2,h3,h4,h5⟩:=h;refine⟨Nat.lt_of_lt_of_le h1 f.1,?_⟩;rcases f.2 b h1 with e|⟨sz,c,e,hz⟩|⟨c,c',e1,e2,e3,e4,e5⟩;·exact⟨cs,by unfold AH.cells;rw[e];exact h2,by unfold AH.size;rw[e];exact h3,h4,h5⟩
 ·unfold AH.size at h3;rw[e]at h3;injection h3 with h3;exact absurd h3 hz
 ·unfold AH.cells at h2;rw[e1]at h2;injection h2 with h2;subst h2;refine⟨c',by unfold AH.cells;rw[e2],by unfold AH.size;rw[e2],fun i x hi=>?_,by omega⟩;have:=h4 i x hi;have hm:=List.mem_of_getElem? this;have:=List.all_eq_true.mp e4 _ hm;simp[E8]at this
theorem Sl.fr{H H':AH}{v:Value}{xs:List Nat}(h:Sl H v xs)(f:Fr H H'):Sl H' v xs:=by cases h with|nil=>exact .nil|emp b=>exact .emp b|mk b o cap xs h1 h2=>exact .mk b o cap xs h1 (h2.fr f)
section
attribute [-simp] Int.natCast_add Int.natCast_mul Int.natCast_ediv Int.natCast_emod Int.natCast_pow
attribute [local simp] strip Zt YR LR gW ZZ ZO Zk ZN Zv ZM Ze Zf Zb Zw ZT Zs ZI Zi Zx Zc Za ZJ ZK Yo Zn ZS Yd ZC Zu plain Zq Tr.get_set ZA Zd Z5 Zl sameKind undef Zh Zy ZR ZU Zm parts Xd DW ZL Zg LX Zo
attribute [local simp] Z4 Yn Vn VQ
section
variable {H : AH} {u v w z : Value}
end
end
theorem La(n:Nat): ∃r,DE n r:=by induction n with
 |zero=>exact⟨0,by decide,by decide⟩
 |succ n ih=>
  obtain⟨r,h1,h2⟩:=ih;by_cases h:n+1<(r+1)*(r+1);·exact⟨r,by omega,h⟩
  ·refine⟨r+1,by omega,?_⟩;have:(r+1+1)*(r+1+1)=(r+1)*(r+1)+2*r+3:=by grind
   omega
def rt(n:Nat):Nat:=Classical.choose (La n)
def Dh(r:Bool×Nat×Nat):Option (Bool×Nat×Nat):=if r.1=true then none else if rt r.2.1*rt r.2.1=r.2.1/\rt r.2.2*rt r.2.2=r.2.2 then some (Xv false (rt r.2.1) (rt r.2.2))else none
section
attribute [-simp] Int.natCast_add Int.natCast_mul Int.natCast_ediv Int.natCast_emod Int.natCast_pow
attribute [local simp] strip Zt YR LR gW ZZ ZO Zk ZN Zv ZM Ze Zf Zb Zw ZT Zs ZI Zi Zx Zc Za ZJ ZK Yo Zn ZS Yd ZC Zu plain Zq Tr.get_set ZA Zd Z5 Zl sameKind undef Zh Zy ZR ZU Zm parts Xd DW ZL Zg LX Zo
section
variable {H : AH} {u v w z : Value}
end
end
def SX(sz:Nat)(H:AH)(v:Value)(XZ:List (List Value)):Prop:=(v= .slice none 0 0/\XZ=[])\/ ∃b,v= .slice (some ⟨b,0,none⟩) XZ.length XZ.length/\b<H.n/\H.blk b= .rw sz XZ.flatten/\ ∀cs∈XZ,cs.length=sz
theorem Se{sz:Nat} : ∀{XZ:List (List Value)},(∀cs∈XZ,cs.length=sz)->XZ.flatten.length=XZ.length*sz|[],_=>by simp|c::XZ,h=>by rw[List.flatten_cons,List.length_append,Se (fun x hx=>h x (List.mem_cons_of_mem _ hx)),h c (List.mem_cons_self ..),List.length_cons,Nat.succ_mul];omega
theorem Rp{sz:Nat} : ∀{XZ:List (List Value)}{i:Nat}{cs:List Value},(∀cs∈XZ,cs.length=sz)->XZ[i]?=some cs->(XZ.flatten.drop (i*sz)).take sz=cs|[],i,cs,_,hi=>by simp at hi|c::XZ,0,cs,h,hi=>by simp at hi;subst hi;rw[Nat.zero_mul,List.drop_zero,List.flatten_cons,List.take_append_of_le_length (by rw[h c (List.mem_cons_self ..)];exact Nat.le_refl _),List.take_of_length_le (by rw[h c (List.mem_cons_self ..)];exact Nat.le_refl _)]|c::XZ,i+1,cs,h,hi=>by simp at hi;have hc:c.length=sz:=h c (List.mem_cons_self ..);rw[List.flatten_cons,show(i+1)*sz=c.length+i*sz by rw[Nat.succ_mul,hc];omega,<-List.drop_drop,List.drop_left];exact Rp (fun x hx=>h x (List.mem_cons_of_mem _ hx)) hi
section
variable {sz : Nat} {H H' : AH} {v : Value} {XZ : List (List Value)}
theorem SX.nil:SX sz H (.slice none 0 0) []:= .inl ⟨rfl,rfl⟩
theorem SX.shape(h:SX sz H v XZ): ∃a l c,v= .slice a l c:=by rcases h with⟨rfl,_⟩|⟨b,rfl,_⟩<;>exact⟨_,_,_,rfl⟩
theorem SX.one1(h:SX sz H v XZ):one v=true:=by rcases h with⟨rfl,_⟩|⟨b,rfl,_⟩<;>rfl
theorem SX.blk_lt(h:SX sz H v XZ){b:Nat}(hb:XV v=some b):b<H.n/\H.blk b= .rw sz XZ.flatten:=by
 rcases h with⟨rfl,_⟩|⟨b',rfl,h1,h2,_⟩;·cases hb
 ·cases hb;exact⟨h1,h2⟩
theorem SX.frame(h:SX sz H v XZ)(hn:H.n<=H'.n)(k: ∀b,XV v=some b->H'.blk b=H.blk b):SX sz H' v XZ:=by
 rcases h with h|⟨b,h1,h2,h3,h4⟩;·exact .inl h
 ·exact .inr ⟨b,h1,by omega,by rw[k b (by rw[h1];rfl)];exact h3,h4⟩
theorem SX.keep(h:SX sz H v XZ)(k:ZQ H H'):SX sz H' v XZ:=h.frame k.n fun b hb=>k.blk b (h.blk_lt hb).1
theorem SX.len(h:SX sz H v XZ){t e:TypeId}(ht:Tryz.prog.underlying t=some (.slice e)):RM Tryz.prog t v=some XZ.length:=by unfold RM;rw[ht];rcases h with⟨rfl,rfl⟩|⟨b,rfl,_⟩<;>rfl
theorem SX.at(h:SX sz H v XZ){i:Nat}{cs:List Value}(hi:XZ[i]?=some cs){t e:TypeId}(ht:Tryz.prog.underlying t=some (.slice e))(he:YE Tryz.prog e=some sz)(hz:sz≠0): ∃b,XV v=some b/\YS Tryz.prog t v (.int .i64 (i:Int))=some (.pointer (some ⟨b,i*sz,none⟩))/\b<H.n/\H.blk b= .rw sz XZ.flatten/\cs.length=sz/\(XZ.flatten.drop (i*sz)).take sz=cs:=by
 have Z0:i<XZ.length:=(List.getElem?_eq_some_iff.mp hi).1;rcases h with⟨rfl,rfl⟩|⟨b,rfl,h2,h3,h4⟩;·simp at hi
 ·refine⟨b,rfl,?_,h2,h3,h4 cs (List.mem_of_getElem? hi),Rp h4 hi⟩;unfold YS;simp only[ht,he];rw[if_pos (by omega)];simp
theorem SX.append(h:SX sz H v XZ)(hz:sz≠0){w:Nat}{us:List Value}(hw:H.blk w= .rw sz us)(hu:us.length=sz)(huo:us.all one=true){t e:TypeId}{RE:Nat}(hs:XI Tryz.prog t=some (e,sz,RE))(hby:RE<=1000){z:Value}(DP:Wv Tryz.prog e=some z)(DO:z.cells.size=sz)(hl:XZ.length<1000000000): ∃H',Y9 Tryz.prog H t t v (.slice (some ⟨w,0,none⟩) 1 1)=some (.slice (some ⟨H.n,0,none⟩) (XZ.length+1) (XZ.length+1),H')/\H'.n=H.n+1/\(∀j,j<H.n->XV v≠some j->H'.blk j=H.blk j)/\SX sz H' (.slice (some ⟨H.n,0,none⟩) (XZ.length+1) (XZ.length+1)) (XZ++[us])/\(XV v=none->ZQ H H'/\H'.lw=H.lw)/\(∀b,XV v=some b->LK b H H'/\H'.lw<=b/\b<H.n):=by
 have hc:H.read w 0 sz=some us:=by rw[AH.read_def,AH.cells_rw' hw hz];simp only[Nat.zero_add];rw[Nat.ble_eq.mpr (by omega),cond_true,List.drop_zero,List.take_of_length_le (by omega)]
 have hmul:(XZ.length+1)*RE<=140737488355328:=by have:(XZ.length+1)*RE<=1000000000*1000:=Nat.mul_le_mul (by omega) hby;omega
 have e1:Nat.ble ((XZ.length+1)*RE) 140737488355328=true:=Nat.ble_eq.mpr hmul;have e2:Nat.ble (XZ.length+1) 281474976710656=true:=Nat.ble_eq.mpr (by omega);have e0:Nat.beq z.cells.size sz=true:=by rw[DO];exact Nat.beq_refl _
 rcases h with⟨rfl,rfl⟩|⟨b,rfl,Yy,YC,YZ⟩;·refine⟨H.new sz us,?_,rfl,fun j hj _=>by rw[AH.blk_new,if_neg (by omega)],.inr ⟨H.n,rfl,Nat.lt_succ_self _,by rw[AH.blk_new,if_pos rfl];simp,fun cs UE=>by simp at UE;rw[UE];exact hu⟩,fun _=>⟨ZQ.new H sz us,rfl⟩,fun b hb=>by cases hb⟩;unfold Y9;simp only[List.length_nil,Nat.zero_add]at e1 e2⊢;simp only[hs,DP,YB,Nat.one_mul,hc,e1,e2,e0];rfl
 ·have eH:(H.kill b).n=H.n:=rfl;have DU:=Se YZ;have e3:Nat.ble (0+XZ.length*sz) XZ.flatten.length=true:=Nat.ble_eq.mpr (by omega);have Da: ∀j,j<H.n->j≠b->((H.kill b).new sz (XZ.flatten++us)).blk j=H.blk j:=fun j hj Gn=>by rw[AH.blk_new,if_neg (by rw[eH];omega),AH.blk_kill,if_neg Gn]
  refine⟨(H.kill b).new sz (XZ.flatten++us),?_,rfl,fun j hj Gn=>Da j hj (fun e=>Gn (by rw[e];rfl)),.inr ⟨H.n,by simp,Nat.lt_succ_self _,by rw[AH.blk_new,if_pos eH.symm];simp,fun cs UE=>?_⟩,(fun h=>by cases h),(fun b' Xi=>by cases Xi;exact⟨Iw (Nat.le_refl _),Nat.min_le_right _ _,Yy⟩)⟩;·unfold Y9;simp only[hs,DP,YB,Nat.one_mul,hc,YC,e1,e2,e3,e0,huo,Nat.beq_refl,Bool.and_true,cond_true];rw[show Nat.beq 1 0=false from rfl,cond_false];rw[List.drop_zero,List.take_of_length_le (by omega)]
  ·rcases List.mem_append.mp UE with h|h;·exact YZ cs h
   ·simp at h;rw[h];exact hu
end
inductive FD where|opn|und|rat(s:Bool)(A B:Nat)
def FD.mk(r:Bool×Nat×Nat):FD:= .rat r.1 r.2.1 r.2.2
def FD.isUnd:FD->Bool| .und=>true|_=>false
def FD.w:FD->Nat| .rat _ A B=>max (Z6 A) (Z6 B)+1|_=>1
def FD.ok:FD->Prop| .rat s A B=>Pl s A B|_=>True
def E9(op:Int)(s:Bool)(A B:Nat):FD:=if op=2 then .rat (sg (!s) A) A B else if op=7 then .rat false A B else if op=10 then(if VB s A= -1 then .und else match Dh (s,A,B)with|some R=> .mk R|none=> .opn)else if op=12 then(if VB s A= -1\/VB s A=0 then .und else if PX s A B false 1 1=0 then .rat false 0 1 else .opn)else if op=11\/op=14 then(if A=0 then .rat false 1 1 else .opn)else if op=13\/op=15 then(if A=0 then .rat false 0 1 else .opn)else .opn
def Dm(op:Int)(s:Bool)(A B:Nat)(t:Bool)(C D:Nat):FD:=if op=3 then .mk (FO s A B t C D)else if op=4 then .mk (FO s A B (sg (!t) C) C D)else if op=5 then .mk (Xv (s !=t) (A*C) (B*D))else if op=6 then(if C=0 then .und else .mk (Xv (s !=t) (A*D) (B*C)))else if op=8 then(if 0<PX s A B t C D then .rat t C D else .rat s A B)else if op=9 then(if PX s A B t C D<0 then .rat t C D else .rat s A B)else .opn
def FD.isZero:FD->Bool| .rat _ C _=>decide (C=0)|_=>false
def HM(op:Int)(neg:Bool)(N D:Nat)(fs:List FD):FD:=if op=0 then .mk (Xv neg N D)else match fs with|[.rat s A B]=>E9 op s A B|[.rat s A B,.rat t C D]=>Dm op s A B t C D|[_,g]=>if op=6/\g.isZero=true then .und else .opn|_=> .opn
theorem Pl.abs{s:Bool}{A B:Nat}(h:Pl s A B):Pl false A B:=by
 by_cases hA:A=0;·have:=h.zero hA;rw[hA,this.2];exact P6
 ·exact Ny hA h.2 h.cop
section
variable {H : AH} {u v w z : Value}
end
def N9(H:AH)(vs:List Value):FD->Prop| .opn=>vs=[.int .i64 0,.bool false,.slice none 0 0,.slice none 0 0]| .und=>vs=[.int .i64 2,.bool false,.slice none 0 0,.slice none 0 0]| .rat s A B=> ∃p q,vs=[.int .i64 1,.bool s,p,q]/\Sl H p (ds ZB A)/\Sl H q (ds ZB B)/\Pl s A B
def Vt(H:AH):List (List Value)->List FD->Prop|[],[]=>True|c::cs,f::fs=>N9 H c f/\Vt H cs fs|_,_=>False
section
variable {H H' : AH} {vs : List Value} {f : FD}
def FD.kind:FD->Int| .opn=>0| .und=>2| .rat _ _ _=>1
theorem N9.fr(h:N9 H vs f)(k:Fr H H'):N9 H' vs f:=by cases f with|opn=>exact h|und=>exact h|rat s A B=>obtain⟨p,q,e,h1,h2,h3⟩:=h;exact⟨p,q,e,h1.fr k,h2.fr k,h3⟩
theorem N9.trio(h:N9 H vs f): ∃p q r,vs=[.int .i64 f.kind,p,q,r]/\Kb p q r:=by cases f with|opn=>exact⟨_,_,_,h,⟨_,rfl⟩,⟨_,_,_,rfl⟩,⟨_,_,_,rfl⟩⟩|und=>exact⟨_,_,_,h,⟨_,rfl⟩,⟨_,_,_,rfl⟩,⟨_,_,_,rfl⟩⟩|rat s A B=>obtain⟨p,q,e,h1,h2,h3⟩:=h;exact⟨_,p,q,e,⟨_,rfl⟩,h1.shape,h2.shape⟩
theorem N9.len(h:N9 H vs f):vs.length=4:=by obtain⟨p,q,r,rfl,_⟩:=h.trio;rfl
theorem N9.noU(h:N9 H vs f):noU vs=true:=by obtain⟨p,q,r,rfl,⟨s,rfl⟩,⟨a,l,c,rfl⟩,⟨a',l',c',rfl⟩⟩:=h.trio;rfl
theorem Vt.fr(k:Fr H H'): ∀{XZ:List (List Value)}{fs:List FD},Vt H XZ fs->Vt H' XZ fs|[],[],_=>trivial|c::cs,f::fs,h=>⟨N9.fr h.1 k,Vt.fr k h.2⟩|[],_::_,h=>h.elim|_::_,[],h=>h.elim
theorem Vt.append(h2:N9 H vs f): ∀{XZ:List (List Value)}{fs:List FD},Vt H XZ fs->Vt H (XZ++[vs]) (fs++[f])|[],[],_=>⟨h2,trivial⟩|c::cs,g::fs,h=>⟨h.1,Vt.append h2 h.2⟩|[],_::_,h=>h.elim|_::_,[],h=>h.elim
theorem Vt.len: ∀{XZ:List (List Value)}{fs:List FD},Vt H XZ fs->XZ.length=fs.length|[],[],_=>rfl|c::cs,f::fs,h=>by rw[List.length_cons,List.length_cons,Vt.len h.2]|[],_::_,h=>h.elim|_::_,[],h=>h.elim
theorem Vt.at: ∀{XZ:List (List Value)}{fs:List FD}{i:Nat}{f:FD},Vt H XZ fs->fs[i]?=some f-> ∃vs,XZ[i]?=some vs/\N9 H vs f|[],[],i,f,_,hi=>by simp at hi|c::cs,g::fs,0,f,h,hi=>by simp at hi;subst hi;exact⟨c,rfl,h.1⟩|c::cs,g::fs,i+1,f,h,hi=>by simp at hi;obtain⟨vs,h1,h2⟩:=Vt.at h.2 hi;exact⟨vs,by simpa using h1,h2⟩|[],_::_,i,f,h,_=>h.elim|_::_,[],i,f,h,_=>h.elim
end
theorem SX.pair{sz:Nat}{H:AH}{av:Value}{c d:List Value}(h:SX sz H av [c,d]): ∃b,av= .slice (some ⟨b,0,none⟩) 2 2/\b<H.n/\H.blk b= .rw sz (c++d):=by
 rcases h with⟨_,h⟩|⟨b,h1,h2,h3,_⟩;·cases h
 ·exact⟨b,h1,h2,by rw[h3];simp⟩
section
attribute [-simp] Int.natCast_add Int.natCast_mul Int.natCast_ediv Int.natCast_emod Int.natCast_pow
attribute [local simp] strip Zt YR LR gW ZZ ZO Zk ZN Zv ZM Ze Zf Zb Zw ZT Zs ZI Zi Zx Zc Za ZJ ZK Yo Zn ZS Yd ZC Zu plain Zq Tr.get_set ZA Zd Z5 Zl sameKind undef Zh Zy ZR ZU Zm parts Xd DW ZL Zg LX Zo
attribute [local simp] Z4 Yn
section
variable {H : AH} {fw av : Value}
end
section
variable {H : AH} {fw av : Value}
end
end
theorem Vt.get{H:AH} : ∀{XZ:List (List Value)}{fs:List FD}{i:Nat}{c:List Value},Vt H XZ fs->XZ[i]?=some c-> ∃f,fs[i]?=some f/\N9 H c f|[],[],i,f,_,hi=>by simp at hi|c::cs,g::fs,0,f,h,hi=>by simp at hi;subst hi;exact⟨g,rfl,h.1⟩|c::cs,g::fs,i+1,f,h,hi=>by simp at hi;obtain⟨vs,h1,h2⟩:=Vt.get h.2 hi;exact⟨vs,by simpa using h1,h2⟩|[],_::_,i,f,h,_=>h.elim|_::_,[],i,f,h,_=>h.elim
section
attribute [-simp] Int.natCast_add Int.natCast_mul Int.natCast_ediv Int.natCast_emod Int.natCast_pow
attribute [local simp] strip Zt YR LR gW ZZ ZO Zk ZN Zv ZM Ze Zf Zb Zw ZT Zs ZI Zi Zx Zc Za ZJ ZK Yo Zn ZS Yd ZC Zu plain Zq Tr.get_set ZA Zd Z5 Zl sameKind undef Zh Zy ZR ZU Zm parts Xd DW ZL Zg LX Zo
attribute [local simp] Z4 Yn XW
section
variable {H : AH} {fw av : Value}
end
end
mutual def ET.fold:ET->FD| .node op neg abs den args=>if(Tf args).any FD.isUnd=true then .und else HM op neg (dv ZB abs) (dv ZB den) (Tf args) def Tf:List ET->List FD|[]=>[]|t::ts=>t.fold::Tf ts end
mutual def ET.parts:ET->List FD| .node op neg abs den args=>Oe args++[if(Tf args).any FD.isUnd=true then .und else HM op neg (dv ZB abs) (dv ZB den) (Tf args)] def Oe:List ET->List FD|[]=>[]|t::ts=>t.parts++Oe ts end
mutual def ET.wt:ET->Nat| .node op neg abs den args=>(if op=0 then max (64*abs.length) (64*den.length)else 0)+1+HK args def HK:List ET->Nat|[]=>0|t::ts=>t.wt+HK ts end
section
variable {H : AH}
end
def MM(H:AH)(bw m:Nat)(keep:Bool)(L:List FD)(tv:Value):Prop:=H.blk bw= .rw 1 [.map (some m),tv,.bool keep]/\bw<H.n/\ ∃XZ,SX 4 H tv XZ/\Vt H XZ L
theorem MM.keep{H H':AH}{bw m:Nat}{keep:Bool}{L:List FD}{tv:Value}(h:MM H bw m keep L tv)(k:ZQ H H'):MM H' bw m keep L tv:=by obtain⟨h1,h2,XZ,h3,h4⟩:=h;exact⟨(k.blk _ h2).trans h1,Nat.lt_of_lt_of_le h2 k.n,XZ,h3.keep k,h4.fr k.fr⟩
theorem MM.off{H H':AH}{bw m b:Nat}{keep:Bool}{L:List FD}{tv:Value}(h:MM H bw m keep L tv)(hb:b≠bw)(ht:XV tv≠some b)(hn:H'.n=H.n)(ho: ∀j,j≠b->H'.blk j=H.blk j)(fr:Fr H H'):MM H' bw m keep L tv:=by obtain⟨h1,h2,XZ,h3,h4⟩:=h;exact⟨(ho _ (Ne.symm hb)).trans h1,by omega,XZ,h3.frame (by omega) (fun c hc=>ho c (fun e=>ht (by rw[hc,e]))),h4.fr fr⟩
section
variable {P : Program} {C : Cfg}
end
section
attribute [-simp] Int.natCast_add Int.natCast_mul Int.natCast_ediv Int.natCast_emod Int.natCast_pow
attribute [local simp] strip Zt YR LR gW ZZ ZO Zk ZN Zv ZM Ze Zf Zb Zw ZT Zs ZI Zi Zx Zc Za ZJ ZK Yo Zn ZS Yd ZC Zu plain Zq Tr.get_set ZA Zd Z5 Zl sameKind undef Zh Zy ZR ZU Zm parts Xd DW ZL Zg LX Zo
attribute [local simp] Z4 Yn XW G8 WH Wh
section
end
end
structure OO (H : AH) (vs : List Value) (t : ET) : Prop where
  tin : Qw H vs t
  good : t.allGood = true
  wt : t.wt <= 67108864
theorem OO.keep{H H':AH}{vs:List Value}{t:ET}(h:OO H vs t)(k:ZQ H H'):OO H' vs t:=⟨h.tin.keep k,h.good,h.wt⟩
section
attribute [-simp] Int.natCast_add Int.natCast_mul Int.natCast_ediv Int.natCast_emod Int.natCast_pow
attribute [local simp] strip Zt YR LR gW ZZ ZO Zk ZN Zv ZM Ze Zf Zb Zw ZT Zs ZI Zi Zx Zc Za ZJ ZK Yo Zn ZS Yd ZC Zu plain Zq Tr.get_set ZA Zd Z5 Zl sameKind undef Zh Zy ZR ZU Zm parts Xd DW ZL Zg LX Zo
attribute [local simp] Z4 Yn XW G8 WH Wh Ts
section
variable {H : AH} {vs : List Value} {t : ET}
end
end
def Qv(H:AH)(vs:List Value):FD->Prop| .opn=>vs=[.int .i64 0,.bool false,.slice none 0 0,.slice none 0 0]| .und=>vs=[.int .i64 2,.bool false,.slice none 0 0,.slice none 0 0]| .rat s A B=> ∃p q,vs=[.int .i64 1,.bool s,p,q]/\Sl H p (ds ZV A)/\Sl H q (ds ZV B)
theorem Qv.trio{H:AH}{vs:List Value}{f:FD}(h:Qv H vs f): ∃p q r,vs=[.int .i64 f.kind,p,q,r]/\Kb p q r:=by cases f with|opn=>exact⟨_,_,_,h,⟨_,rfl⟩,⟨_,_,_,rfl⟩,⟨_,_,_,rfl⟩⟩|und=>exact⟨_,_,_,h,⟨_,rfl⟩,⟨_,_,_,rfl⟩,⟨_,_,_,rfl⟩⟩|rat s A B=>obtain⟨p,q,e,h1,h2⟩:=h;exact⟨_,p,q,e,⟨_,rfl⟩,h1.shape,h2.shape⟩
theorem Qv.len{H:AH}{vs:List Value}{f:FD}(h:Qv H vs f):vs.length=4:=by obtain⟨p,q,r,rfl,_⟩:=h.trio;rfl
theorem Qv.noU{H:AH}{vs:List Value}{f:FD}(h:Qv H vs f):noU vs=true:=by obtain⟨p,q,r,rfl,⟨s,rfl⟩,⟨a,l,c,rfl⟩,⟨a',l',c',rfl⟩⟩:=h.trio;rfl
theorem Qv.fr{H H':AH}{vs:List Value}{f:FD}(h:Qv H vs f)(k:Fr H H'):Qv H' vs f:=by cases f with|opn=>exact h|und=>exact h|rat s A B=>obtain⟨p,q,e,h1,h2⟩:=h;exact⟨p,q,e,h1.fr k,h2.fr k⟩
theorem Fz{A:Nat}(h:Z6 A<=67108864):(ds ZV A).length<=Su:=by have h1:A<2^Z6 A:=U0 A;have h2:2^Z6 A<=ZV^(Z6 A):=Nat.pow_le_pow_left (by decide) _;have:=YJ two32 (Nat.lt_of_lt_of_le h1 h2);show(ds ZV A).length<=2000000000000;omega
section
attribute [-simp] Int.natCast_add Int.natCast_mul Int.natCast_ediv Int.natCast_emod Int.natCast_pow
attribute [local simp] strip Zt YR LR gW ZZ ZO Zk ZN Zv ZM Ze Zf Zb Zw ZT Zs ZI Zi Zx Zc Za ZJ ZK Yo Zn ZS Yd ZC Zu plain Zq Tr.get_set ZA Zd Z5 Zl sameKind undef Zh Zy ZR ZU Zm parts Xd DW ZL Zg LX Zo
attribute [local simp] Z4 Yn XW
section
variable {H : AH} {u v w z : Value}
theorem Ir{A:Nat}(h:Sl H v (ds ZV A))(hw:Sl H w (ds ZB A))(lA:Z6 A<=67108864): ∃H',ZG Tryz.prog Yf 16 [v,w] H=some (.bool true,H')/\ZQ H H':=by obtain⟨x,H',hc,k,e⟩:=Is h hw (Xo two32 A) (Nat.le_trans (Fz lA) (by decide));rw[Jq,decide_eq_true rfl]at e;subst e;exact⟨H',hc,k⟩
end
end
theorem Xs.one{H:AH}{vs:List Value}{t:ET}(h:Ex H vs t): ∃H',H'=H.new 5 vs/\ZQ H H'/\Xs H' (.slice (some ⟨H.n,0,none⟩) 1 1) [t]:=by refine⟨_,rfl,ZQ.new _ _ _,?_⟩;have hk:=h.keep (ZQ.new H 5 vs);have hl:=h.len;refine .mk H.n 0 1 (cs:=vs) (args:=[t]) (Nat.lt_succ_self _) (Qf H 5 vs) (Nat.le_refl _) fun i t' hi=>?_;match i,hi with|0,hi=>simp at hi;subst hi;rw[Nat.zero_mul,Nat.add_zero,List.drop_zero,List.take_of_length_le (by omega)];exact hk
theorem Xs.two{H:AH}{vs ws:List Value}{t s:ET}(h:Ex H vs t)(h':Ex H ws s): ∃H',H'=H.new 5 (vs++ws)/\ZQ H H'/\Xs H' (.slice (some ⟨H.n,0,none⟩) 2 2) [t,s]:=by refine⟨_,rfl,ZQ.new _ _ _,?_⟩;have hk:=h.keep (ZQ.new H 5 (vs++ws));have LD:=h'.keep (ZQ.new H 5 (vs++ws));have hl:=h.len;have RN:=h'.len;refine .mk H.n 0 2 (cs:=vs++ws) (args:=[t,s]) (Nat.lt_succ_self _) (Qf H 5 _) (Nat.le_refl _) fun i t' hi=>?_;match i,hi with|0,hi=>simp at hi;subst hi;rw[Nat.zero_mul,Nat.add_zero,List.drop_zero,List.take_append_of_le_length (by omega),List.take_of_length_le (by omega)];exact hk|1,hi=>simp at hi;subst hi;rw[show 0+1*5=vs.length by omega,List.drop_left,List.take_of_length_le (by omega)];exact LD
theorem Xs.shape{H:AH}{v:Value}{l:List ET}(h:Xs H v l): ∃s a c,v= .slice s a c:=by cases h<;>exact⟨_,_,_,rfl⟩
theorem Ex.args{H:AH}{v:Value}{l:List ET}{op:Int}(h:Xs H v l):Ex H [.int .i64 op,.bool false,.slice none 0 0,.slice none 0 0,v] (.node op false [] [] l):= .mk .nil .nil h
section
attribute [-simp] Int.natCast_add Int.natCast_mul Int.natCast_ediv Int.natCast_emod Int.natCast_pow
attribute [local simp] strip Zt YR LR gW ZZ ZO Zk ZN Zv ZM Ze Zf Zb Zw ZT Zs ZI Zi Zx Zc Za ZJ ZK Yo Zn ZS Yd ZC Zu plain Zq Tr.get_set ZA Zd Z5 Zl sameKind undef Zh Zy ZR ZU Zm parts Xd DW ZL Zg LX Zo
attribute [local simp] Z4 Yn XW
section
variable {H : AH} {u v w z : Value}
end
section
variable {H : AH} {u v w z : Value}
end
end
theorem EC(A:Nat):(ds ZV A).length<=Z6 A:=by have h1:A<2^Z6 A:=U0 A;have h2:2^Z6 A<=ZV^(Z6 A):=Nat.pow_le_pow_left (by decide) _;exact YJ two32 (Nat.lt_of_lt_of_le h1 h2)
theorem HT{A:Nat}(h:Z6 A<=1000000000):(ds ZV A).length<=Su:=by have:=EC A;show(ds ZV A).length<=2000000000000;omega
section
attribute [-simp] Int.natCast_add Int.natCast_mul Int.natCast_ediv Int.natCast_emod Int.natCast_pow
attribute [local simp] strip Zt YR LR gW ZZ ZO Zk ZN Zv ZM Ze Zf Zb Zw ZT Zs ZI Zi Zx Zc Za ZJ ZK Yo Zn ZS Yd ZC Zu plain Zq Tr.get_set ZA Zd Z5 Zl sameKind undef Zh Zy ZR ZU Zm parts Xd DW ZL Zg LX Zo
section
variable {H : AH} {u v w z : Value}
theorem NZ{N D:Nat}(neg:Bool)(hn:Sl H u (ds ZV N))(hd:Sl H v (ds ZV D))(lN:Z6 N<=1000000000)(lD:Z6 D<=1000000000)(h0:0<D): ∃p q H',ZG Tryz.prog Yf 60 [.bool neg,u,v] H=some (.agg #[.bool (Xv neg N D).1,p,q],H')/\ZQ H H'/\Yl H.n H' p (ds ZV (Xv neg N D).2.1)/\Yl H.n H' q (ds ZV (Xv neg N D).2.2):=by obtain⟨us,H',hc,k,a,b,rfl,o1,o2⟩:=Ls neg hn hd (Nat.le_trans (HT lN) (by decide)) (Nat.le_trans (HT lD) (by decide)) h0;exact⟨a,b,H',hc,k,o1,o2⟩
end
end
end
end Go.Proofs.YtjboehpfojpimaaGreatDoor
namespace Go.Proofs.YtjboehpfojpimaaGreatDoor.Ev
open Go Go.RowKit
set_option linter.unusedVariables false
set_option linter.unusedSimpArgs false
noncomputable section
set_option maxHeartbeats 2000000
set_option maxRecDepth 20000
def SD(P:Program)(C:Cfg)(UD:FuncId->List Value->AH->Option (Value×AH))(ih:Lv)(f:FuncId)(args:List Value)(H:AH):Option (Value×AH):=match UD f args H with|some r=>some r|none=>Z7 P C ih f args H
def SV(P:Program)(C:Cfg)(UD:FuncId->List Value->AH->Option (Value×AH))(ih:Lv)(c:Code)(s:St):Option (Ex×St):=match c with
 | .skip=>some (.norm,s)
 | .region _ ops draw=>match Z1 P C (SD P C UD ih) ops draw s with|some s'=>some (.norm,s')|none=>cond draw none (WN P C (SD P C UD ih) (Yu P C ih) ops ops.toList s)
 | .seq a b=>match ih.code a s with|some (.norm,s')=>ih.code b s'|r=>r
 | .cond x a b=>match Yd C s.tm x with|some (.bool t)=>ih.code (cond t a b) s|_=>none
 | .block id body=>match ih.code body s with|some (.exit j,s')=>cond (Nat.beq j id) (some (.norm,s')) (some (.exit j,s'))|r=>r
 | .loop body=>match ih.code body s with|some (.norm,s')=>ih.code (.loop body) s'|r=>r
 | .exit id=>some (.exit id,s)
 | .ret=>some (.ret,s)
 |_=>none
def LA(P:Program)(C:Cfg)(UD:FuncId->List Value->AH->Option (Value×AH))(n:Nat):Lv:=Nat.rec ⟨fun _ _=>none,fun _ _ _=>none⟩ (fun _ ih=>⟨SV P C UD ih,SD P C UD ih⟩) n
theorem Jh(P:Program)(C:Cfg)(UD:FuncId->List Value->AH->Option (Value×AH))(n:Nat):LA P C UD (n+1)=⟨SV P C UD (LA P C UD n),SD P C UD (LA P C UD n)⟩:=rfl
section
variable {P : Program} {C : Cfg} {UD : FuncId -> List Value -> AH -> Option (Value × AH)}
theorem SC(ho:Uz UD (ZG P C)){ih:Lv}(h:LLe ih (VC P C)):Uz (SD P C UD ih) (Z7 P C (VC P C)):=by
 intro x a H r he;unfold SD at he;split at he;·rename_i r' hr;obtain rfl:=Option.some.inj he;rw[<-XS];exact ho _ _ _ _ hr
 ·exact XY h _ _ _ _ he
theorem TK(ho:Uz UD (ZG P C)){ih:Lv}(h:LLe ih (VC P C)){ops:Array Oper} : ∀(l:List Oper)(s:St)(r:Ex×St),WN P C (SD P C UD ih) (Yu P C ih) ops l s=some r->WN P C (Z7 P C (VC P C)) (Yu P C (VC P C)) ops l s=some r
 |[],s,r,he=>by cases he
 |o::rest,s,r,he=>by
  simp only[WN]at he⊢;split at he<;>first|(cases he;done)|skip
  ·rename_i hw;split at he;·rename_i v1 H1 hp;rw[Od h hp];exact he
   ·rename_i hp;split at he<;>first|(cases he;done)|skip
    rename_i v1 H1 Yj;split at he<;>first|(cases he;done)|skip
    rename_i s1 ZF;have QI:=YF (SC ho h) Yj;rw[UI (u:=VC P C) (v:=VC P C) ⟨fun _ _ _ h=>h,fun _ _ _ _ h=>h⟩ QI];simp only[QI,ZF];exact TK ho h rest s1 r he
  ·rename_i hw;split at he<;>first|(cases he;done)|skip
   rename_i s1 ZF;try simp only[ZF]
   exact TK ho h rest s1 r he
theorem JY(ho:Uz UD (ZG P C)){ih:Lv}(h:LLe ih (VC P C)):Dr (SV P C UD ih) (O1 P C):=by
 intro c s r he;rw[X5];cases c<;>simp only[SV]at he<;>simp only[YT]<;>first|exact he|skip
 ·rename_i id ops draw;split at he;·rename_i s1 hr;rw[Wl (SC ho h) hr];exact he
  ·cases draw with|true=>cases he|false=>rw[cond_false]at he;have h1:=TK ho h _ _ _ he;have h2:=(V3 (u:=VC P C) (v:=VC P C) ⟨fun _ _ _ h=>h,fun _ _ _ _ h=>h⟩ _ _ _ h1).2;rw[UN,h2];exact h1
 ·split at he;·rename_i s1 hr;rw[h.code _ _ _ hr];exact h.code _ _ _ he
  ·rename_i hn;rw[h.code _ _ _ he];split;·rename_i s1 e;exact absurd (he.trans e) (by intro e';exact hn s1 e')
   ·rfl
 ·split at he<;>first|(cases he;done)|skip
  rename_i hx;rw[hx];exact h.code _ _ _ he
 ·split at he;·rename_i j s1 hr;rw[h.code _ _ _ hr];exact he
  ·rename_i hn;rw[h.code _ _ _ he];split;·rename_i j s1 e;exact absurd (he.trans e) (by intro e';exact hn j s1 e')
   ·rfl
 ·split at he;·rename_i s1 hr;rw[h.code _ _ _ hr];exact h.code _ _ _ he
  ·rename_i hn;rw[h.code _ _ _ he];split;·rename_i s1 e;exact absurd (he.trans e) (by intro e';exact hn s1 e')
   ·rfl
theorem Nz(ho:Uz UD (ZG P C)): ∀n,LLe (LA P C UD n) (VC P C)|0=>⟨(fun c s r h=>by cases h),(fun x a H r h=>by cases h)⟩|n+1=>by have ih:=Nz ho n;rw[Jh];exact⟨JY ho ih,fun x a H r h=>by show ZG P C x a H=_;rw[XS];exact SC ho ih _ _ _ _ h⟩
end
end
end Go.Proofs.YtjboehpfojpimaaGreatDoor.Ev
namespace Go.Proofs.YtjboehpfojpimaaGreatDoor
open Go Ev
set_option linter.unusedVariables false
set_option linter.unusedSimpArgs false
noncomputable section
set_option maxHeartbeats 2000000
set_option maxRecDepth 20000
def WS:Value->Nat->Value| .slice a _ cap,n=> .slice a n cap|v,_=>v
theorem Sl.cutX{H:AH}{v:Value}{xs:List Nat}(h:Sl H v xs){t:TypeId}(ht:LT t){m:Nat}(hm:m<=xs.length)(h0:0<xs.length):X9 Tryz.prog H t v none (some (.int .i64 (m:Int))) none=some (WS v m)/\Sl H (WS v m) (xs.take m):=by cases h with
 |nil=>cases h0
 |emp b=>cases h0
 |mk b o cap xs h1 h2=>
  have hl:(xs.take m).length=m:=by rw[List.length_take];omega
  obtain⟨F4,cs,h3,h4,h5⟩:=h2;have hk:Sl H (.slice (some ⟨b,o,none⟩) (xs.take m).length cap) (xs.take m):= .mk b o cap _ (by omega) ⟨F4,cs,h3,h4,fun i x hx=>h5.1 i x (by
   rw[List.getElem?_take]at hx;split at hx;·exact hx
   ·cases hx),h5.2⟩;rw[hl]at hk;refine⟨?_,hk⟩;unfold X9;simp only[ht.1,RI];unfold OG Yt;simp only[h4,Option.isSome_some,Option.isNone_none,Bool.true_or];rw[if_pos (by omega)];have e1:Nat.ble m cap=true:=Nat.ble_eq.mpr (by omega);simp[Yt,e1,WS]
theorem OH{H:AH}{v:Value}{xs:List Nat}(h:Sl H v xs):WS v xs.length=v:=by cases h<;>rfl
theorem PV(v:Value)(n m:Nat):WS (WS v n) m=WS v m:=by cases v<;>rfl
section
attribute [local simp] strip Zt YR gW ZZ ZO Zk ZN Zv ZM Ze Zf Zb Zw ZT Zs Zx Zc ZS Yd ZC Zu plain Zq Tr.get_set ZA Zd Z5 Zl sameKind Zj undef Zh Zy ZR ZU ZD Yq
theorem N2{v:Value}{xs:List Nat}{H:AH}(hs:Sl H v xs)(hlen:xs.length<1152921504606846976):CW Tryz.prog Yf 81 [v] H fun v' H'=>H'=H/\v'=WS v (ZP xs).length:=by
 refine Vb 21 (by decide) (by decide) Tryz.func81 rfl rfl ?_;apply Zz;intro b1 ZH;apply Zr;simp;subst ZH;apply Zz;intro b1 ZH;apply Z2;refine Qx (fun n s=>s.k=21/\s.H=H/\ ∃v',s.tm.get 0=some v'/\n<=xs.length/\v'=WS v n/\Sl H v' (xs.take n)/\ZP (xs.take n)=ZP xs) ?_ xs.length _ ⟨rfl,rfl,v,by simp,Nat.le_refl _,(OH hs).symm,by rw[List.take_length];exact hs,by rw[List.take_length]⟩;rintro n ⟨k,tm,H'⟩ ⟨h2,h3,v',h4,h5,Gl,h6,h7⟩;simp only at h2 h3 h4;subst h2;subst h3;have hl:(xs.take n).length=n:=by rw[List.length_take];omega
 have Tj:=h6.len ZU;rw[hl]at Tj;apply Zz;intro b2 Yy;apply Zz;intro b3 YC;apply Zr;by_cases hz:n=0;·subst hz;simp[h4,Tj];subst YC;refine Zp (t:=false) (by simp) ?_;apply YM;left;refine⟨rfl,?_⟩;subst ZH;apply Zz;intro b4 YZ;apply Zr;simp[h4];subst YZ;apply Z8;simp;rw[<-h7,Gl];rfl
 ·have hn:0<n:=Nat.pos_of_ne_zero hz;have hw:IntKind.i64.wrap ((n:Int)-1)=((n-1:Nat):Int):=T2 hn (by omega);have hi:n-1<(xs.take n).length:=by omega
  have ha:=h6.adr ZU (k:= .i64) hi;have Rg:=h6.load hi;simp[h4,Tj,hn,hw,ha,Rg];subst YC;have hx:n-1<xs.length:=by omega
  have Sb:xs.take n=xs.take (n-1)++[xs[n-1]]:=by have:=List.take_append_getElem (l:=xs) (i:=n-1) hx;rw[this,show n-1+1=n by omega]
  by_cases h0:xs[n-1]=0
  ·refine Zp (t:=true) (by simp[h0]) ?_;apply ZE;subst Yy;apply Z2;apply Zr;obtain⟨Bs,Ph⟩:=h6.cutX ZU (m:=n-1) (by omega) (by omega);simp[h4,Tj,hw,Bs];refine⟨n-1,by omega,rfl,rfl,WS v' (n-1),by simp,by omega,?_,?_,?_⟩;·rw[Gl,PV]
   ·rw[List.take_take,show min (n-1) n=n-1 by omega]at Ph;exact Ph
   ·rw[<-h7,Sb,h0,Wp]
  ·refine Zp (t:=false) (by simp;exact h0) ?_;apply YM;left;refine⟨rfl,?_⟩;subst ZH;apply Zz;intro b4 YZ;apply Zr;simp[h4];subst YZ;apply Z8;simp;rw[<-h7,Gl];have:ZP (xs.take n)=xs.take n:=by rw[Sb];exact VI _ _ h0
   rw[this,hl]
end
def Mz:List Value->Option (List Nat)
 |[]=>some []
 | .int .u64 (.ofNat n)::r=>cond (Nat.blt n 18446744073709551616) (match Mz r with|some l=>some (n::l)|none=>none) none
 |_=>none
def X7(H:AH)(v:Value):Option (List Nat):=match v with
 | .slice none 0 0=>some []
 | .slice (some ⟨b,o,none⟩) len cap=>cond (Nat.blt b H.n&&Nat.ble len cap&&Nat.ble len 1000000000) (match H.size b,H.read b o len with|some 1,some l=>Mz l|_,_=>none) none
 |_=>none
theorem Rs: ∀(l:List Value)(xs:List Nat),Mz l=some xs->xs.length=l.length/\Y7 ZB xs/\ ∀(i x:Nat),xs[i]?=some x->l[i]?=some (.int .u64 (x:Int))
 |[],xs,h=>by obtain rfl:=Option.some.inj h;exact⟨rfl,.nil _,fun i x hx=>by simp at hx⟩
 |v::r,xs,h=>by
  unfold Mz at h;split at h<;>first|(rename_i e;cases e;done)|skip
  ·rename_i n r' e;injection e with e1 e2;subst e1;subst e2;cases hb:Nat.blt n 18446744073709551616 with
   |false=>rw[hb]at h;cases h
   |true=>
    rw[hb,cond_true]at h;split at h<;>first|(cases h;done)|skip
    rename_i l hl;obtain rfl:=Option.some.inj h;obtain⟨h1,h2,h3⟩:=Rs _ _ hl;refine⟨by simp[h1],.cons (by rw[Nat.blt_eq]at hb;exact hb) h2,fun i x hx=>?_⟩;cases i with|zero=>simp at hx;subst hx;rfl|succ i=>simp at hx⊢;exact h3 i x hx
  ·cases h
theorem YQ{H:AH}{v:Value}{xs:List Nat}(h:X7 H v=some xs):Sl H v xs/\Y7 ZB xs/\xs.length<=1000000000:=by
 unfold X7 at h;split at h<;>first|(cases h;done)|skip
 ·obtain rfl:=Option.some.inj h;exact⟨.nil,.nil _,by simp⟩
 ·rename_i b o len cap;cases hc:(Nat.blt b H.n&&Nat.ble len cap&&Nat.ble len 1000000000)with
  |false=>rw[hc]at h;cases h
  |true=>
   rw[hc,cond_true]at h;rw[Bool.and_eq_true,Bool.and_eq_true,Nat.blt_eq]at hc;have h1:=Nat.le_of_ble_eq_true hc.1.2;have h2:=Nat.le_of_ble_eq_true hc.2;split at h<;>first|(cases h;done)|skip
   rename_i l Yz GZ;obtain⟨e1,e2,e3⟩:=Rs _ _ h;rw[AH.read_def]at GZ;split at GZ<;>first|(cases GZ;done)|skip
   rename_i cs UE;cases hb:Nat.ble (o+len) cs.length with
    |false=>rw[hb]at GZ;cases GZ
    |true=>
     rw[hb,cond_true]at GZ;obtain rfl:=Option.some.inj GZ;have hle:=Nat.le_of_ble_eq_true hb;have hl:xs.length=len:=by rw[e1,List.length_take,List.length_drop];omega
     refine⟨?_,e2,by omega⟩;subst hl;refine .mk b o cap xs h1 ⟨hc.1.1,cs,UE,Yz,fun i x hx=>?_,by omega⟩;have:=e3 i x hx;rw[List.getElem?_take]at this;split at this;·rw[List.getElem?_drop]at this;exact this
     ·cases this
def HL(H:AH):List Value->Option (Value×AH)
 |[v]=>match X7 H v with|some xs=>some (WS v (ZP xs).length,H)|none=>none
 |_=>none
def Mv(H:AH):List Value->Option (Value×AH)
 |[v]=>match X7 H v with|some xs=>some (.int .i64 (.ofNat (Z6 (dv ZB xs))),H)|none=>none
 |_=>none
def PW(H:AH):List Value->Option (Value×AH)
 |[v,u]=>match X7 H v,X7 H u with|some xs,some ys=>some (.int .i64 (WB (dv ZB xs) (dv ZB ys)),H)|_,_=>none
 |_=>none
def Jb(H:AH):List Value->Option (Value×AH)|[.int .u64 (.ofNat x)]=>cond (Nat.blt x 18446744073709551616) (some (.int .i64 (.ofNat (Z6 x)),H)) none|_=>none
def Jl(H:AH):List Value->Option (Value×AH)|[.int .u64 (.ofNat x),.int .u64 (.ofNat y)]=>cond (Nat.blt x 18446744073709551616&&Nat.blt y 18446744073709551616) (some (.tuple #[.int .u64 (.ofNat (x*y/18446744073709551616)),.int .u64 (.ofNat (x*y%18446744073709551616))],H)) none|_=>none
def Kk(H:AH):List Value->Option (Value×AH)|[.int .u64 (.ofNat h),.int .u64 (.ofNat l),.int .u64 (.ofNat y)]=>cond (Nat.blt h y&&Nat.blt l 18446744073709551616&&Nat.blt y 18446744073709551616) (some (.tuple #[.int .u64 (.ofNat ((h*18446744073709551616+l)/y)),.int .u64 (.ofNat ((h*18446744073709551616+l)%y))],H)) none|_=>none
def GG(f:FuncId)(args:List Value)(H:AH):Option (Value×AH):=cond (Nat.beq f 81) (HL H args) (cond (Nat.beq f 49) (Mv H args) (cond (Nat.beq f 73) (PW H args) (cond (Nat.beq f 82) (Jb H args) (cond (Nat.beq f 161) (Jl H args) (cond (Nat.beq f 156) (Kk H args) none)))))
theorem IU:Uz GG (ZG Tryz.prog Yf):=by intro f args H r h;unfold GG at h;cases h1:Nat.beq f 81 with
 |true=>
  rw[h1,cond_true]at h;obtain rfl:=Nat.eq_of_beq_eq_true h1;unfold HL at h;split at h<;>first|(cases h;done)|skip
  split at h<;>first|(cases h;done)|skip
  rename_i v xs hx;obtain rfl:=Option.some.inj h;obtain⟨e1,e2,e3⟩:=YQ hx;obtain⟨_,_,hc,rfl,rfl⟩:=N2 e1 (by omega);exact hc
 |false=>rw[h1,cond_false]at h;cases h1:Nat.beq f 49 with
  |true=>
   rw[h1,cond_true]at h;obtain rfl:=Nat.eq_of_beq_eq_true h1;unfold Mv at h;split at h<;>first|(cases h;done)|skip
   split at h<;>first|(cases h;done)|skip
   rename_i v xs hx;obtain rfl:=Option.some.inj h;obtain⟨e1,e2,e3⟩:=YQ hx;obtain⟨_,_,hc,rfl,rfl⟩:=Sc e1 e2 (by omega);exact hc
  |false=>rw[h1,cond_false]at h;cases h1:Nat.beq f 73 with
   |true=>
    rw[h1,cond_true]at h;obtain rfl:=Nat.eq_of_beq_eq_true h1;unfold PW at h;split at h<;>first|(cases h;done)|skip
    split at h<;>first|(cases h;done)|skip
    rename_i v u xs ys hx hy;obtain rfl:=Option.some.inj h;obtain⟨e1,e2,e3⟩:=YQ hx;obtain⟨f1,f2,f3⟩:=YQ hy;obtain⟨_,_,hc,rfl,rfl⟩:=QT e1 f1 e2 f2 (by omega) (by omega);exact hc
   |false=>rw[h1,cond_false]at h;cases h1:Nat.beq f 82 with
    |true=>
     rw[h1,cond_true]at h;obtain rfl:=Nat.eq_of_beq_eq_true h1;unfold Jb at h;split at h<;>first|(cases h;done)|skip
     rename_i x;cases hb:Nat.blt x 18446744073709551616 with|false=>rw[hb]at h;cases h|true=>rw[hb,cond_true]at h;obtain rfl:=Option.some.inj h;rw[Nat.blt_eq]at hb;obtain⟨_,_,hc,rfl,rfl⟩:=UK (H:=H) hb;exact hc
    |false=>rw[h1,cond_false]at h;cases h1:Nat.beq f 161 with
     |true=>
      rw[h1,cond_true]at h;obtain rfl:=Nat.eq_of_beq_eq_true h1;unfold Jl at h;split at h<;>first|(cases h;done)|skip
      rename_i x y;cases hb:(Nat.blt x 18446744073709551616&&Nat.blt y 18446744073709551616)with|false=>rw[hb]at h;cases h|true=>rw[hb,cond_true]at h;obtain rfl:=Option.some.inj h;rw[Bool.and_eq_true,Nat.blt_eq,Nat.blt_eq]at hb;exact NY hb.1 hb.2 H
     |false=>rw[h1,cond_false]at h;cases h1:Nat.beq f 156 with
      |true=>
       rw[h1,cond_true]at h;obtain rfl:=Nat.eq_of_beq_eq_true h1;unfold Kk at h;split at h<;>first|(cases h;done)|skip
       rename_i x l y;cases hb:(Nat.blt x y&&Nat.blt l 18446744073709551616&&Nat.blt y 18446744073709551616)with|false=>rw[hb]at h;cases h|true=>rw[hb,cond_true]at h;obtain rfl:=Option.some.inj h;rw[Bool.and_eq_true,Bool.and_eq_true,Nat.blt_eq,Nat.blt_eq,Nat.blt_eq]at hb;exact OE hb.1.1 hb.1.2 hb.2 H
      |false=>rw[h1]at h;cases h
end
end Go.Proofs.YtjboehpfojpimaaGreatDoor
namespace Go.Proofs.YtjboehpfojpimaaGreatDoor
open Go Ev
set_option linter.unusedVariables false
noncomputable section
set_option maxHeartbeats 2000000
set_option maxRecDepth 20000
end
end Go.Proofs.YtjboehpfojpimaaGreatDoor
namespace Go.Proofs.YtjboehpfojpimaaGreatDoor
open Go Ev
set_option linter.unusedVariables false
set_option linter.unusedSimpArgs false
noncomputable section
set_option maxHeartbeats 2000000
set_option maxRecDepth 20000
def Wc(H:AH):List Nat->Value×AH|[]=>(.slice none 0 0,H)|y::r=>(.slice (some ⟨H.n,0,none⟩) (r.length+1) (r.length+1),H.new 1 ((y::r).map XP))
theorem FJ{H:AH}{v:Value}{xs:List Nat}(h:Sl H v xs)(hl:xs.length<=17592186044416){t t2:TypeId}(ht:LT t)(K4:LT t2):Y9 Tryz.prog H t t2 (.slice none 0 0) v=some (Wc H xs):=by
 by_cases h0:xs.length=0;·obtain rfl:xs=[]:=List.length_eq_zero_iff.mp h0;show _=some (Value.slice none 0 0,H);generalize hn:([]:List Nat)=ys at h;cases h with|nil=>simp[Y9,ht.2,K4.2]|emp b=>simp[Y9,ht.2,K4.2]|mk b o cap xs h1 h2=>subst hn;simp[Y9,ht.2,K4.2]
 ·have hx:Wc H xs=(.slice (some ⟨H.n,0,none⟩) xs.length xs.length,H.new 1 (xs.map XP)):=by cases xs with|nil=>exact absurd rfl h0|cons y r=>rfl
  rw[hx];have hc:=h.cells (by omega);obtain⟨a,cap,rfl⟩: ∃a cap,v= .slice a xs.length cap:=by cases h<;>exact⟨_,_,rfl⟩
  have e1:Nat.beq xs.length 0=false:=Yg h0;have e2:Nat.ble (xs.length*8) 140737488355328=true:=Nat.ble_eq.mpr (by omega);have e3:Nat.ble xs.length 281474976710656=true:=Nat.ble_eq.mpr (by omega);simp[Y9,ht.2,K4.2,e1,e2,e3,hc,N5,Value.cells]
theorem Oa{H:AH}(xs:List Nat):Sl (Wc H xs).2 (Wc H xs).1 xs/\ZQ H (Wc H xs).2/\H.n<=(Wc H xs).2.n/\one (Wc H xs).1=true/\(∀b sz cs,b<H.n->H.blk b= .rw sz cs->(Wc H xs).2.blk b= .rw sz cs):=by cases xs with|nil=>exact⟨.nil,.refl H,Nat.le_refl _,rfl,fun b sz cs hb h=>h⟩|cons y r=>have o:=Yl.new H (y::r);refine⟨o.sl,.new _ _ _,Nat.le_succ _,rfl,fun b sz cs hb h=>?_⟩;show(H.new 1 _).blk b=_;rw[AH.blk_new,if_neg (by omega)];exact h
def Tz(H:AH)(b:Nat)(ws:List Value):AH:= { n:=H.n,lw:=min H.lw b,t:=H.t.set b (.rw 1 ws) }
theorem TZ(H:AH)(b:Nat)(ws:List Value)(j:Nat):(Tz H b ws).blk j=if j=b then .rw 1 ws else H.blk j:=by
 unfold Tz AH.blk;simp only[Tr.get_set];by_cases h:j=b;·rw[if_pos h,if_pos h]
 ·rw[if_neg h,if_neg h]
theorem JC:XT Tryz.prog 30=some true:=by kernel_rfl
theorem MQ:YE Tryz.prog 30=some 2:=by kernel_rfl
theorem Pf:Wv Tryz.prog 30=some (.agg #[.bool false,.slice none 0 0]):=by kernel_rfl
theorem FR:XT Tryz.prog 28=some false:=by kernel_rfl
theorem HG:XT Tryz.prog 4=some false:=by kernel_rfl
theorem Kx(b o:Nat):Yp Tryz.prog 30 (.pointer (some ⟨b,o,none⟩)) 0=some (.pointer (some ⟨b,o,none⟩)):=by kernel_rfl
theorem Kw(b o:Nat):Yp Tryz.prog 30 (.pointer (some ⟨b,o,none⟩)) 1=some (.pointer (some ⟨b,o+1,none⟩)):=by kernel_rfl
theorem NC{H:AH}{b:Nat}{p q p' q':Value}(hb:H.blk b= .rw 1 [p',q'])(h1:one p=true)(h2:one q=true)(hc:(Value.agg #[p,q]).cells.toList=[p,q]):YP Tryz.prog H 30 (.pointer (some ⟨b,0,none⟩)) (.agg #[p,q])=some (Tz H b [p,q]):=by
 unfold YP;have hs:(Value.agg #[p,q]).cells.size=2:=by have:=congrArg List.length hc;simpa using this
 simp only[MQ,hs,hc];rw[show Nat.beq 2 2=true from rfl,cond_true,AH.write_def,hb];simp[h1,h2,Tz,show Nat.ble 2 2=true from rfl]
theorem QF{H:AH}{b:Nat}{p q:Value}(hb:H.blk b= .rw 1 [p,q]):Yk Tryz.prog H 30 (.pointer (some ⟨b,0,none⟩))=some (.agg #[p,q]):=by unfold Yk;simp only[JC,MQ,AH.read_def,hb];simp[AH.cells_rw' hb,show Nat.ble 2 2=true from rfl]
theorem Je{H:AH}{b:Nat}{p q:Value}(hb:H.blk b= .rw 1 [p,q]):Yk Tryz.prog H 4 (.pointer (some ⟨b,0,none⟩))=some p:=by unfold Yk;simp[HG,AH.cells_rw' hb]
theorem Jf{H:AH}{b:Nat}{p q:Value}(hb:H.blk b= .rw 1 [p,q]):Yk Tryz.prog H 28 (.pointer (some ⟨b,0+1,none⟩))=some q:=by unfold Yk;simp[FR,AH.cells_rw' hb]
section
attribute [-simp] Int.natCast_add Int.natCast_mul Int.natCast_ediv Int.natCast_emod Int.natCast_pow
attribute [local simp] strip Zt YR LR gW ZZ ZO Zk ZN Zv ZM Ze Zf Zb Zw ZT Zs ZI Zi Zx Zc Za ZJ ZK Yo Zn ZS Yd ZC Zu plain Zq Tr.get_set ZA Zd Z5 Zl sameKind undef Zh Zy ZR ZU Zm parts Xd DW ZL Zg LX Zo
section
variable {H : AH} {u : Value} {xs : List Nat}
theorem Rt(hs:Sl H u xs)(hlen:xs.length<=17592186044416):ZG Tryz.prog Yf 95 [u] H=some (Wc H (ZP xs)):=by
 suffices h:CW Tryz.prog Yf 95 [u] H fun v H'=>v=(Wc H (ZP xs)).1/\H'=(Wc H (ZP xs)).2 by obtain⟨v,H',hc,rfl,rfl⟩:=h;exact hc
 refine Vb 6 (by decide) (by decide) Tryz.func95 rfl rfl ?_;obtain⟨v1,H1,OT,e1,PA⟩:=Uu hs (by omega);subst e1;have ha:=FJ PA (by have:=WV xs;omega) ZU ZU;obtain⟨w,H3,hw⟩: ∃w H3,Wc H1 (ZP xs)=(w,H3):=⟨_,_,rfl⟩;rw[hw]at ha⊢;apply Zz;intro b1 ZH;apply Zr;simp;subst ZH;apply Zz;intro b1 ZH;apply Zr;simp[OT,ha];subst ZH;apply Z8;simp
def Xj(neg:Bool)(ys:List Nat):Bool:=neg&&decide (0<ys.length)
def Va(H:AH)(neg:Bool)(u:Value)(ys:List Nat):Value×AH:=match Wc ((H.new 1 [.bool neg,u]).new 1 [.bool false,.slice none 0 0]) ys with|(w,H3)=>(w,Tz H3 (H.n+1) [.bool (Xj neg ys),w])
theorem OI{b:Bool}{v:Value}(h:v.cells=#[v]):(Value.agg #[.bool b,v]).cells.toList=[.bool b,v]:=by simp[Value.cells]
theorem Sl.oneX{H:AH}{v:Value}{xs:List Nat}(h:Sl H v xs):one v=true/\v.cells=#[v]:=by cases h<;>exact⟨rfl,rfl⟩
theorem Ss(neg:Bool)(hs:Sl H u xs)(hlen:xs.length<=17592186044416):ZG Tryz.prog Yf 66 [.agg #[.bool neg,u]] H=some (.agg #[.bool (Xj neg (ZP xs)),(Va H neg u (ZP xs)).1],(Va H neg u (ZP xs)).2):=by
 obtain⟨o1,o2⟩:=hs.oneX;have k1:=ZQ.new H 1 [.bool neg,u];have b1:(H.new 1 [.bool neg,u]).blk H.n= .rw 1 [.bool neg,u]:=by rw[AH.blk_new,if_pos rfl]
 have n1:(H.new 1 [.bool neg,u]).n=H.n+1:=rfl;obtain⟨H1,Hm⟩: ∃H1,H1=H.new 1 [.bool neg,u]:=⟨_,rfl⟩;unfold Va;rw[<-Hm]at k1 b1 n1⊢;have k2:=ZQ.new H1 1 [.bool false,.slice none 0 0];have b2:(H1.new 1 [.bool false,.slice none 0 0]).blk H.n= .rw 1 [.bool neg,u]:=by rw[AH.blk_new,if_neg (by omega)];exact b1
 have Ah:(H1.new 1 [.bool false,.slice none 0 0]).blk (H.n+1)= .rw 1 [.bool false,.slice none 0 0]:=by rw[AH.blk_new,if_pos n1.symm]
 have n2:(H1.new 1 [.bool false,.slice none 0 0]).n=H.n+2:=by show H1.n+1=_;rw[n1]
 obtain⟨H2,F8⟩: ∃H2,H2=H1.new 1 [.bool false,.slice none 0 0]:=⟨_,rfl⟩;rw[<-F8]at k2 b2 Ah n2⊢;have hc:=Rt ((hs.keep k1).keep k2) hlen;obtain⟨s1,s2,s3,s4,s5⟩:=Oa (H:=H2) (ZP xs);obtain⟨w,H3,hw⟩: ∃w H3,Wc H2 (ZP xs)=(w,H3):=⟨_,_,rfl⟩;rw[hw]at hc s1 s2 s3 s4 s5⊢;simp only at s1 s2 s3 s4 s5⊢;obtain⟨t1,t2⟩:=s1.oneX;have b3:=s5 _ _ _ (by omega) b2;have b3':=s5 _ _ _ (by omega) Ah;have hl:=s1.len ZU;have VD:=NC (p:= .bool (Xj neg (ZP xs))) b3' rfl t1 (OI t2);have Rg:Yk Tryz.prog (Tz H3 (H.n+1) [.bool (Xj neg (ZP xs)),w]) 30 (.pointer (some ⟨H.n+1,0,none⟩))=some (.agg #[.bool (Xj neg (ZP xs)),w]):=QF (by rw[TZ,if_pos rfl]);obtain⟨H4,F9⟩: ∃H4,H4=Tz H3 (H.n+1) [.bool (Xj neg (ZP xs)),w]:=⟨_,rfl⟩;rw[<-F9]at VD Rg⊢;obtain⟨sg,Fo⟩: ∃sg,sg=Xj neg (ZP xs):=⟨_,rfl⟩;rw[<-Fo]at VD Rg⊢;suffices h:CW Tryz.prog Yf 66 [.agg #[.bool neg,u]] H fun v H'=>v= .agg #[.bool sg,w]/\H'=H4 by obtain⟨v,H',hc,rfl,rfl⟩:=h;exact hc
 obtain⟨m,hm⟩: ∃m,m=(ZP xs).length:=⟨_,rfl⟩;rw[<-hm]at hl;have Io:sg=(neg&&decide (0<m)):=by rw[Fo,hm];rfl
 have Ih:V1 Tryz.prog 30 [(0,.bool sg),(1,w)]=some (.agg #[.bool sg,w]):=by
  obtain⟨a,l,c,rfl⟩: ∃a l c,w= .slice a l c:=by generalize ZP xs=ys at s1;cases s1<;>exact⟨_,_,_,rfl⟩
  rfl
 refine Vb 16 (by decide) (by decide) Tryz.func66 rfl rfl ?_;apply Zz;intro b1 ZH;apply Zr;simp[Value.cells,Pf,<-Hm,<-F8,n1];subst ZH;apply Zz;intro b1 ZH;apply Zr;simp[Kw,Jf b2,hc];subst ZH;cases neg with
  |false=>rw[Bool.false_and]at Io;subst Io;apply Zz;intro b1 ZH;apply Zr;simp[Kx,Je b3,Ih,VD];subst ZH;apply Z8;simp;simp[Rg]
  |true=>
   rw[Bool.true_and]at Io;have hg:Zj .gtr .i64 (m:Int) 0=some (.bool sg):=by rw[Io];exact VW (y:=0)
   apply Zz;intro b1 ZH;apply Zr;simp[Kx,Je b3,hl,hg,Ih,VD];subst ZH;apply Z8;simp;simp[Rg]
end
section
variable {H : AH} {u : Value} {xs : List Nat}
theorem P9(H:AH)(ys:List Nat): ∃a l c,(Wc H ys).1= .slice a l c:=by cases ys<;>exact⟨_,_,_,rfl⟩
def JQ(n:Nat)(H H':AH):Prop:=H.n<=H'.n/\ ∀b sz cs,b<n->H.blk b= .rw sz cs->H'.blk b= .rw sz cs
theorem JQ.trans{n:Nat}{H H' H2:AH}(a:JQ n H H')(b:JQ n H' H2):JQ n H H2:=⟨Nat.le_trans a.1 b.1,fun j sz cs hj h=>b.2 j sz cs hj (a.2 j sz cs hj h)⟩
theorem SO{n:Nat}(H:AH)(hn:n<=H.n)(cs:List Value):JQ n H (H.new 1 cs):=⟨Nat.le_succ _,fun j sz cs hj h=>by rw[AH.blk_new,if_neg (by omega)];exact h⟩
theorem MR{n b:Nat}(H:AH)(hb:n<=b)(ws:List Value):JQ n H (Tz H b ws):=⟨Nat.le_refl _,fun j sz cs hj h=>by rw[TZ,if_neg (by omega)];exact h⟩
theorem Jy{n:Nat}(H:AH)(hn:n<=H.n)(ys:List Nat):JQ n H (Wc H ys).2:=by obtain⟨_,_,s3,_,s5⟩:=Oa (H:=H) ys;exact⟨s3,fun b sz cs hb h=>s5 b sz cs (by omega) h⟩
theorem Qs(neg:Bool)(ys:List Nat):(∃a l c,(Va H neg u ys).1= .slice a l c)/\JQ H.n H (Va H neg u ys).2:=by unfold Va;obtain⟨a,l,c,hs⟩:=P9 ((H.new 1 [.bool neg,u]).new 1 [.bool false,.slice none 0 0]) ys;have r:=Jy (n:=H.n) ((H.new 1 [.bool neg,u]).new 1 [.bool false,.slice none 0 0]) (by show H.n<=H.n+1+1;omega) ys;obtain⟨w,H3,hw⟩: ∃w H3,Wc ((H.new 1 [.bool neg,u]).new 1 [.bool false,.slice none 0 0]) ys=(w,H3):=⟨_,_,rfl⟩;rw[hw]at hs r⊢;exact⟨⟨a,l,c,hs⟩,(((SO H (Nat.le_refl _) _).trans (SO _ (by show H.n<=H.n+1;omega) _)).trans r).trans (MR _ (by omega) _)⟩
def Te(H:AH)(neg:Bool)(u:Value)(ys:List Nat):Value×AH:=match Va ((H.new 1 [.bool neg,u]).new 1 [.bool false,.slice none 0 0]) neg u ys with|(w,H3)=>(w,Tz H3 (H.n+1) [.bool (Xj neg ys),w])
theorem Kz(neg:Bool)(ys:List Nat):(∃a l c,(Te H neg u ys).1= .slice a l c)/\JQ H.n H (Te H neg u ys).2:=by unfold Te;obtain⟨hs,r⟩:=Qs (H:=(H.new 1 [.bool neg,u]).new 1 [.bool false,.slice none 0 0]) (u:=u) neg ys;have r:JQ H.n _ _:=⟨r.1,fun b sz cs hb h=>r.2 b sz cs (by show b<H.n+1+1;omega) h⟩;obtain⟨w,H3,hw⟩: ∃w H3,Va ((H.new 1 [.bool neg,u]).new 1 [.bool false,.slice none 0 0]) neg u ys=(w,H3):=⟨_,_,rfl⟩;rw[hw]at hs r⊢;exact⟨hs,(((SO H (Nat.le_refl _) _).trans (SO _ (by show H.n<=H.n+1;omega) _)).trans r).trans (MR _ (by omega) _)⟩
theorem S9(neg:Bool)(hs:Sl H u xs)(dx:Y7 ZB xs)(hlen:xs.length<=17592186044416)(hb:Z6 (dv ZB xs)<=67108864):ZG Tryz.prog Yf 96 [.agg #[.bool neg,u]] H=some (.tuple #[.agg #[.bool (Xj neg (ZP xs)),(Te H neg u (ZP xs)).1],.int .i64 0],(Te H neg u (ZP xs)).2):=by
 obtain⟨o1,o2⟩:=hs.oneX;have k1:=ZQ.new H 1 [.bool neg,u];have q1:(H.new 1 [.bool neg,u]).blk H.n= .rw 1 [.bool neg,u]:=by rw[AH.blk_new,if_pos rfl]
 have n1:(H.new 1 [.bool neg,u]).n=H.n+1:=rfl;obtain⟨H1,Hm⟩: ∃H1,H1=H.new 1 [.bool neg,u]:=⟨_,rfl⟩;unfold Te;rw[<-Hm]at k1 q1 n1⊢;have k2:=ZQ.new H1 1 [.bool false,.slice none 0 0];have q2:(H1.new 1 [.bool false,.slice none 0 0]).blk H.n= .rw 1 [.bool neg,u]:=by rw[AH.blk_new,if_neg (by omega)];exact q1
 have Dc:(H1.new 1 [.bool false,.slice none 0 0]).blk (H.n+1)= .rw 1 [.bool false,.slice none 0 0]:=by rw[AH.blk_new,if_pos n1.symm]
 have n2:(H1.new 1 [.bool false,.slice none 0 0]).n=H.n+2:=by show H1.n+1=_;rw[n1]
 obtain⟨H2,F8⟩: ∃H2,H2=H1.new 1 [.bool false,.slice none 0 0]:=⟨_,rfl⟩;rw[<-F8]at k2 q2 Dc n2⊢;have Ph:=(hs.keep k1).keep k2;have hc:=Ss neg Ph hlen;obtain⟨v0,H0,Eg,e0,e1⟩:=Sc Ph dx hlen;rw[e0,e1]at Eg;obtain⟨s1,s2⟩:=Qs (H:=H2) (u:=u) neg (ZP xs);obtain⟨w,H3,hw⟩: ∃w H3,Va H2 neg u (ZP xs)=(w,H3):=⟨_,_,rfl⟩;rw[hw]at hc s1 s2⊢;simp only at s1 s2 hc⊢;obtain⟨a,l,c,rfl⟩:=s1;have BA:=s2.2 _ _ _ (by omega) Dc;have VD:=NC (p:= .bool (Xj neg (ZP xs))) BA rfl rfl (OI (v:= .slice a l c) rfl);have Rg:Yk Tryz.prog (Tz H3 (H.n+1) [.bool (Xj neg (ZP xs)),.slice a l c]) 30 (.pointer (some ⟨H.n+1,0,none⟩))=some (.agg #[.bool (Xj neg (ZP xs)),.slice a l c]):=QF (by rw[TZ,if_pos rfl]);obtain⟨H4,F9⟩: ∃H4,H4=Tz H3 (H.n+1) [.bool (Xj neg (ZP xs)),.slice a l c]:=⟨_,rfl⟩;rw[<-F9]at VD Rg⊢;obtain⟨sg,Fo⟩: ∃sg,sg=Xj neg (ZP xs):=⟨_,rfl⟩;rw[<-Fo]at VD Rg hc⊢;suffices h:CW Tryz.prog Yf 96 [.agg #[.bool neg,u]] H fun v H'=>v= .tuple #[.agg #[.bool sg,.slice a l c],.int .i64 0]/\H'=H4 by obtain⟨v,H',hc,rfl,rfl⟩:=h;exact hc
 obtain⟨B,hB⟩: ∃B,B=Z6 (dv ZB xs):=⟨_,rfl⟩;rw[<-hB]at Eg hb;have hg:Zj .gtr .i64 (B:Int) 67108864=some (.bool false):=by have h:=VW (k:= .i64) (x:=B) (y:=67108864);rw[decide_eq_false (by omega)]at h;exact h
 refine Vb 11 (by decide) (by decide) Tryz.func96 rfl rfl ?_;apply Zz;intro b1 ZH;apply Zr;simp[Value.cells,Pf,<-Hm,<-F8,n1];subst ZH;apply Zz;intro b1 ZH;apply Zz;intro b2 Yy;apply Zr;simp[Kw,Jf q2,Eg,hg];subst Yy;refine Zp (t:=false) (by simp) ?_;apply ZE;subst ZH;apply Zz;intro b1 ZH;apply Zr;simp[QF q2,hc,VD];subst ZH;apply Z8;simp;simp[Rg]
def II(H:AH)(neg:Bool)(u:Value)(ys:List Nat):Value×AH:=match Te (H.new 1 [.bool false,.slice none 0 0]) neg u ys with|(w,H3)=>(w,Tz H3 H.n [.bool (Xj neg ys),w])
theorem LU(neg:Bool)(hs:Sl H u xs)(dx:Y7 ZB xs)(hlen:xs.length<=17592186044416)(hb:Z6 (dv ZB xs)<=67108864):ZG Tryz.prog Yf 68 [.bool neg,u,.int .i64 0] H=some (.tuple #[.agg #[.bool (Xj neg (ZP xs)),(II H neg u (ZP xs)).1],.int .i64 0],(II H neg u (ZP xs)).2):=by
 have k1:=ZQ.new H 1 [.bool false,.slice none 0 0];have q1:(H.new 1 [.bool false,.slice none 0 0]).blk H.n= .rw 1 [.bool false,.slice none 0 0]:=by rw[AH.blk_new,if_pos rfl]
 have n1:(H.new 1 [.bool false,.slice none 0 0]).n=H.n+1:=rfl;obtain⟨H1,Hm⟩: ∃H1,H1=H.new 1 [.bool false,.slice none 0 0]:=⟨_,rfl⟩;unfold II;rw[<-Hm]at k1 q1 n1⊢;have PA:=hs.keep k1;have hc:=S9 neg PA dx hlen hb;obtain⟨s1,s2⟩:=Kz (H:=H1) (u:=u) neg (ZP xs);obtain⟨w,H3,hw⟩: ∃w H3,Te H1 neg u (ZP xs)=(w,H3):=⟨_,_,rfl⟩;rw[hw]at hc s1 s2⊢;simp only at s1 s2 hc⊢;obtain⟨a,l,c,rfl⟩:=s1;have BA:=s2.2 _ _ _ (by omega) q1;have VD:=NC (p:= .bool (Xj neg (ZP xs))) BA rfl rfl (OI (v:= .slice a l c) rfl);have Rg:Yk Tryz.prog (Tz H3 H.n [.bool (Xj neg (ZP xs)),.slice a l c]) 30 (.pointer (some ⟨H.n,0,none⟩))=some (.agg #[.bool (Xj neg (ZP xs)),.slice a l c]):=QF (by rw[TZ,if_pos rfl]);obtain⟨H4,F9⟩: ∃H4,H4=Tz H3 H.n [.bool (Xj neg (ZP xs)),.slice a l c]:=⟨_,rfl⟩;rw[<-F9]at VD Rg⊢;obtain⟨sg,Fo⟩: ∃sg,sg=Xj neg (ZP xs):=⟨_,rfl⟩;rw[<-Fo]at VD Rg hc⊢;suffices h:CW Tryz.prog Yf 68 [.bool neg,u,.int .i64 0] H fun v H'=>v= .tuple #[.agg #[.bool sg,.slice a l c],.int .i64 0]/\H'=H4 by obtain⟨v,H',hc,rfl,rfl⟩:=h;exact hc
 have Ih:V1 Tryz.prog 30 [(0,.bool neg),(1,u)]=some (.agg #[.bool neg,u]):=by
  obtain⟨a,l,c,rfl⟩: ∃a l c,u= .slice a l c:=by cases hs<;>exact⟨_,_,_,rfl⟩
  rfl
 have Wq:Zj .neq .i64 0 0=some (.bool false):=rfl;refine Vb 18 (by decide) (by decide) Tryz.func68 rfl rfl ?_;apply Zz;intro b1 ZH;apply Zr;simp[Value.cells,Pf,<-Hm];subst ZH;apply Zz;intro b1 ZH;apply Zz;intro b2 Yy;apply Zr;simp[Wq];subst Yy;refine Zp (t:=false) (by simp) ?_;apply ZE;subst ZH;apply Zz;intro b1 ZH;apply Zr;simp[Ih,hc,VD];subst ZH;apply Z8;simp;simp[Rg]
end
def HQ(H:AH):List Value->Option (Value×AH)
 |[v]=>match X7 H v with|some xs=>some (Wc H (ZP xs))|none=>none
 |_=>none
def JT(H:AH):List Value->Option (Value×AH)
 |[.agg ⟨[.bool neg,u]⟩]=>match X7 H u with
  |some xs=>match ZP xs with
   |ys=>match Va H neg u ys with|(w,H')=>some (.agg #[.bool (Xj neg ys),w],H')
  |none=>none
 |_=>none
def Hl(H:AH):List Value->Option (Value×AH)
 |[.agg ⟨[.bool neg,u]⟩]=>match X7 H u with
  |some xs=>cond (Nat.ble xs.length 1000) (match ZP xs with
   |ys=>match Te H neg u ys with|(w,H')=>some (.tuple #[.agg #[.bool (Xj neg ys),w],.int .i64 0],H')) none
  |none=>none
 |_=>none
def De(H:AH):List Value->Option (Value×AH)
 |[.bool neg,u,.int .i64 (.ofNat 0)]=>match X7 H u with
  |some xs=>cond (Nat.ble xs.length 1000) (match ZP xs with
   |ys=>match II H neg u ys with|(w,H')=>some (.tuple #[.agg #[.bool (Xj neg ys),w],.int .i64 0],H')) none
  |none=>none
 |_=>none
def Lx(f:FuncId)(args:List Value)(H:AH):Option (Value×AH):=match GG f args H with|some r=>some r|none=>cond (Nat.beq f 95) (HQ H args) (cond (Nat.beq f 66) (JT H args) (cond (Nat.beq f 96) (Hl H args) (cond (Nat.beq f 68) (De H args) none)))
theorem Px{xs:List Nat}(dx:Y7 ZB xs){L:Nat}(lx:xs.length<=L):Z6 (dv ZB xs)<=64*L:=by
 rcases Nat.eq_zero_or_pos (dv ZB xs)with h0|h0;·rw[h0];exact Nat.zero_le _
 ·have h1:=W1 (n:=dv ZB xs) (by omega);have h2:=Ve dx;have h3:ZB^xs.length<=ZB^L:=Nat.pow_le_pow_right (by decide) lx;have h4:ZB^L=2^(64*L):=(Nat.pow_mul 2 64 L).symm;rw[h4]at h3;have:=(Nat.pow_lt_pow_iff_right (a:=2) (by decide)).mp (Nat.lt_of_le_of_lt h1 (Nat.lt_of_lt_of_le h2 h3));omega
theorem RF{xs:List Nat}(dx:Y7 ZB xs)(h:xs.length<=1000):Z6 (dv ZB xs)<=67108864:=by have:=Px dx h;omega
theorem MX:Uz Lx (ZG Tryz.prog Yf):=by
 intro f args H r h;unfold Lx at h;split at h;·rename_i r' hr;obtain rfl:=Option.some.inj h;exact IU _ _ _ _ hr
 ·cases h1:Nat.beq f 95 with
  |true=>
   rw[h1,cond_true]at h;obtain rfl:=Nat.eq_of_beq_eq_true h1;unfold HQ at h;split at h<;>first|(cases h;done)|skip
   split at h<;>first|(cases h;done)|skip
   rename_i v xs hx;obtain rfl:=Option.some.inj h;obtain⟨e1,e2,e3⟩:=YQ hx;exact Rt e1 (by omega)
  |false=>rw[h1,cond_false]at h;cases h1:Nat.beq f 66 with
   |true=>
    rw[h1,cond_true]at h;obtain rfl:=Nat.eq_of_beq_eq_true h1;unfold JT at h;split at h<;>first|(cases h;done)|skip
    split at h<;>first|(cases h;done)|skip
    rename_i neg v xs hx;obtain rfl:=Option.some.inj h;obtain⟨e1,e2,e3⟩:=YQ hx;exact Ss _ e1 (by omega)
   |false=>rw[h1,cond_false]at h;cases h1:Nat.beq f 96 with
    |true=>
     rw[h1,cond_true]at h;obtain rfl:=Nat.eq_of_beq_eq_true h1;unfold Hl at h;split at h<;>first|(cases h;done)|skip
     split at h<;>first|(cases h;done)|skip
     rename_i neg v xs hx;cases hl:Nat.ble xs.length 1000 with|false=>rw[hl]at h;cases h|true=>rw[hl,cond_true]at h;obtain rfl:=Option.some.inj h;obtain⟨e1,e2,e3⟩:=YQ hx;exact S9 _ e1 e2 (by omega) (RF e2 (Nat.le_of_ble_eq_true hl))
    |false=>rw[h1,cond_false]at h;cases h1:Nat.beq f 68 with
     |true=>
      rw[h1,cond_true]at h;obtain rfl:=Nat.eq_of_beq_eq_true h1;unfold De at h;split at h<;>first|(cases h;done)|skip
      split at h<;>first|(cases h;done)|skip
      rename_i neg v xs hx;cases hl:Nat.ble xs.length 1000 with|false=>rw[hl]at h;cases h|true=>rw[hl,cond_true]at h;obtain rfl:=Option.some.inj h;obtain⟨e1,e2,e3⟩:=YQ hx;exact LU _ e1 e2 (by omega) (RF e2 (Nat.le_of_ble_eq_true hl))
     |false=>rw[h1]at h;cases h
end
section
attribute [-simp] Int.natCast_add Int.natCast_mul Int.natCast_ediv Int.natCast_emod Int.natCast_pow
attribute [local simp] strip Zt YR LR gW ZZ ZO Zk ZN Zv ZM Ze Zf Zb Zw ZT Zs ZI Zi Zx Zc Za ZJ ZK Yo Zn ZS Yd ZC Zu plain Zq Tr.get_set ZA Zd Z5 Zl sameKind undef Zh Zy ZR ZU Zm parts Xd DW ZL Zg LX Zo
attribute [local simp] Z4 Yn XW
section
variable {H : AH} {u v w z : Value}
theorem GM(H:AH)(sz:Nat)(cs:List Value):(H.new sz cs).n=H.n+1:=rfl
theorem FA(b:Nat):Yp Tryz.prog 30 (.pointer (some ⟨b,0,none⟩)) 0=some (.pointer (some ⟨b,0,none⟩)):=FC b 0
theorem NR(e:Int)(H:AH):ZG Tryz.prog Yf 7 [.int .i64 e] H=some (.int .i64 e,H):=by
 suffices h:CW Tryz.prog Yf 7 [.int .i64 e] H fun v H'=>v= .int .i64 e/\H'=H by obtain⟨v,H',hc,rfl,rfl⟩:=h;exact hc
 refine YH 4 Tryz.func7 ?_;apply ZX;intro b1 ZH;simp;subst ZH;apply ZX;intro b1 ZH;simp;subst ZH;apply Z8;simp
theorem RK(h:Sl H v [341]): ∃p q H',ZG Tryz.prog Yf 19 [.agg #[.bool false,v]] H=some (.tuple #[.agg #[.bool false,p,q],.bool true],H')/\ZQ H H'/\Yl H.n H' p (ds ZV 341)/\Yl H.n H' q (ds ZV 1):=by
 obtain⟨Po,As⟩: ∃Po:Value->AH->Prop,∀x H',Po x H'↔ ∃p q,x= .tuple #[.agg #[.bool false,p,q],.bool true]/\ZQ H H'/\Yl H.n H' p (ds ZV 341)/\Yl H.n H' q (ds ZV 1):=⟨_,fun _ _=>Iff.rfl⟩;suffices hs:CW Tryz.prog Yf 19 [.agg #[.bool false,v]] H Po by obtain⟨x,H',hc,hh⟩:=hs;obtain⟨p,q,rfl,k⟩:=(As _ _).1 hh;exact⟨p,q,H',hc,k⟩
 have Cb:ds ZB 341=[341]:=by decide+kernel
 have hlv:RM Tryz.prog 28 v=some 1:=h.len ZU;rw[<-Cb]at h;obtain⟨H2,e2,k2,n2,q0,q1⟩:=Kg H [.bool false,v] [.bool false,.slice none 0 0,.slice none 0 0];have K:=k2;have z0:=q0;obtain⟨v3,H3,c3,k3,o3,_⟩:=MY (h.keep K) (Xo Qr 341) (by decide+kernel);have n3:=k3.n;have K:=K.trans k3;replace q0:=k3.q q0;replace q1:=k3.q q1;rw[X4 Qr]at o3;have hR:Xv false 341 1=(false,341,1):=by decide+kernel
 have D1:Z6 341<=1000000000:=by decide+kernel
 have FN:Z6 341<=67108864:=by decide+kernel
 have b1:Z6 1<=1000000000:=by decide+kernel
 obtain⟨Hd,Dv⟩: ∃Hd:AH,Hd= { n:=H3.n,lw:=H3.lw,t:=H3.t.set (H.n+1) .dead } :=⟨_,rfl⟩;have nd:Hd.n=H3.n:=by rw[Dv]
 have lwd:Hd.lw=H3.lw:=by rw[Dv]
 have CT: ∀j,j≠H.n+1->Hd.blk j=H3.blk j:=fun j hj=>by rw[Dv];show(match(H3.t.set (H.n+1) VA.dead).get j with|some y=>y|none=>VA.dead)=_;rw[Tr.get_set,if_neg hj];rfl
 have ag:Fw (fun j=>j≠H.n+1) H3 Hd:=⟨Nat.le_of_eq nd.symm,fun j hj _=>CT j hj⟩;have s3:Sl Hd v3 (ds ZV 341):=o3.sl.agr (fun c hc=>by have:=(o3.blk_lo hc).1;omega) ag;have sv:Sl Hd v (ds ZB 341):=(h.keep K).agr (fun c hc=>by have:=h.blk_lt hc;omega) ag;have q0d:Hd.blk H.n= .rw 1 [.bool false,v]:=(CT _ (by omega)).trans q0;have K3:=K;have K:=(ZQ.refl Hd);have GC:=q0d;have DF: ∀{J:AH}(k:ZQ Hd J){bits ms},(∀x∈ms,Hd.n<=x.2.1)-> ∀b,b<Hd.n->(Pe J bits ms).blk b=Hd.blk b:=fun k _ _ h b hb=>(Uc k h).blk b hb;obtain⟨v4,Ia1,HA,P1,o4,_⟩:=W4 (H:=Hd.top) 1 (by decide);obtain⟨Ja1,Ld,Ln,ma1⟩:=cg P1;have K8:=Ln;have BG:=K8.n;have K:=K.trans Ln;replace o4:=o4.gr P1 Ld;replace HA:ZG _ _ _ [Value.int .i64 1] _=_:=HA;obtain⟨p5,q5,Ia2,Fa,Nm,o5,o6⟩:=NZ false ((s3.keep K).top) o4.sl.top D1 b1 (by decide);obtain⟨Ad,KV,Lo,ma2⟩:=cg Nm;have Nq:=K8.trans Lo;have BF:=Nq.n;have K:=K.trans Lo;replace o5:=o5.gr Nm KV;replace o6:=o6.gr Nm KV;rw[hR]at Fa o5 o6;simp only at Fa o5 o6;obtain⟨Ia3,FH,Nn⟩:=Ir ((s3.keep K).top) ((sv.keep K).top) FN;obtain⟨LL,KU,Np,ma3⟩:=cg Nn;have P3:=Nq.trans Np;have BE:=P3.n;replace o5:=o5.m Np;replace o6:=o6.m Np;have hol:(only LL (H.n+1) (.rw 1 [.bool false,.slice none 0 0,.slice none 0 0])).blk (H.n+1)= .rw 1 [.bool false,.slice none 0 0,.slice none 0 0]:=by rw[Vo,if_pos rfl]
 obtain⟨H4,IB,q4,n4,_,_,A3⟩:=TX (o:=0) sR hol (v:= .agg #[.bool false,p5,q5]) (ws:=[.bool false,p5,q5]) rfl rfl (by decide) (by simp[o5.one1,o6.one1,show one (Value.bool false)=true from rfl]);replace q4:H4.blk (H.n+1)= .rw 1 [.bool false,p5,q5]:=q4;replace n4:H4.n=LL.n:=n4;replace A3:H4.lw=min LL.n (H.n+1):=A3;obtain⟨G,hG⟩: ∃G:AH,G= { n:=LL.n,lw:=min LL.lw H4.lw,t:=LL.t.set (H.n+1) (.rw 1 [.bool false,p5,q5]) } :=⟨_,rfl⟩;have nG:G.n=LL.n:=by rw[hG]
 have bG: ∀j,G.blk j=if j=H.n+1 then .rw 1 [.bool false,p5,q5]else LL.blk j:=fun j=>by
  rw[hG];show(match(LL.t.set (H.n+1) (VA.rw 1 [.bool false,p5,q5])).get j with|some y=>y|none=>VA.dead)=_;rw[Tr.get_set];by_cases e:j=H.n+1;·rw[if_pos e,if_pos e]
  ·rw[if_neg e,if_neg e];rfl
 have D2: ∀j,j≠H.n+1->G.blk j=LL.blk j:=fun j hj=>by rw[bG,if_neg hj]
 have KG:ZQ H G:=by
  have l1:=K3.lw;have l2:=P3.lw;have m1:=K3.n;have m2:=P3.n;refine⟨by omega,?_,fun j hj=>?_⟩;·rw[hG];show min H.lw H.n<=min LL.lw H4.lw;omega
  ·rw[D2 j (by omega),P3.blk j (by omega),CT j (by omega),K3.blk j hj]
 have p5G:=o5.off (b:=H.n+1) (by omega) nG D2;have q5G:=o6.off (b:=H.n+1) (by omega) nG D2;have Rg:=Tn (H:=G) (b:=H.n+1) (by rw[bG,if_pos rfl]);refine YH 28 Tryz.func19 ?_;apply ZX;intro b1 ZH;simp[Value.cells,zR,GM,e2];subst ZH;apply ZX;intro b1 ZH;simp[Gd,Nw z0,c3];subst ZH;apply Zz;intro b1 ZH;refine FU (z:=20) (b:=H.n+1) (sz:=1) (cs:=[.bool false,.slice none 0 0,.slice none 0 0]) (cs2:=[.bool false,p5,q5]) (by kernel_rfl) (by kernel_rfl) rfl q1 ⟨true,by simp[YV]⟩ ?_;rw[show({ n:=H3.n,lw:=H3.lw,t:=H3.t.set (H.n+1) .dead } :AH)=Hd from Dv.symm];simp[FA];refine YG (v:= .bool false) rfl rfl rfl (by rw[YD rfl];simp[GR (H:=AH.top Hd) GC]) ?_;simp;skip;refine SL (v:=v4) (Uv.nil Hd.n) P1 Ld (by simp[HA]) fun BL DD=>?_;simp;refine SL (v:= .agg #[.bool false,p5,q5]) DD Nm KV (by simp[Fa]) fun BK FZ=>?_;simp[Gd];refine YG (v:=v) rfl rfl rfl (by simp[Nw ((DF Nq FZ.ge _ (by omega)).trans GC)]) ?_;simp;refine SL (v:= .bool true) FZ Nn KU (by simp[FH]) fun BJ DC=>?_;simp[Gd];refine YG (v:=v) rfl rfl rfl (by simp[Nw ((DF P3 DC.ge _ (by omega)).trans GC)]) ?_;simp[hlv,show Zj .gtr .i64 1 0=some (.bool true)from rfl];refine JG (v:= .tuple #[]) rfl rfl (by kernel_rfl) ?_;simp;refine⟨H4,by simp[IB],q4,by omega,n4,?_⟩;rw[<-hG];subst ZH;apply Z8;simp[Rg];exact(As _ _).2 ⟨p5,q5,rfl,KG,p5G.mono (by omega) (.refl _),q5G.mono (by omega) (.refl _)⟩
end
end
end
end Go.Proofs.YtjboehpfojpimaaGreatDoor
namespace Go.Proofs.YtjboehpfojpimaaGreatDoor
open Go.ChangeShapes Go.WideShapes Go.ChangeAt Go.RowKit Go.Proofs.YtjboehpfojpimaaGreatDoor.Ev
set_option linter.unusedVariables false
noncomputable section
set_option linter.unusedSimpArgs false
set_option maxHeartbeats 2000000
set_option maxRecDepth 20000
def U4:List Int:=[0,1,56,2,57,49,28,3,61,58,42,50,38,29,17,4,62,47,59,36,45,43,51,22,53,39,33,30,24,18,12,5,63,55,48,27,60,41,37,16,46,35,44,21,52,32,23,11,54,26,40,15,34,20,31,10,25,14,19,9,13,8,7,6]
def XR:List Value:=U4.map fun x=> .int .u8 x
theorem K9{H:Type} :(Rows.laid_math_bits_deBruijn64tab:DataW H)= .agg (U4.map fun x=> .lit (.int .u8 x)):=rfl
theorem Cn:Tryz.prog.globalNamed "math/bits.deBruijn64tab"=some 0:=by kernel_rfl
theorem B2:(Tryz.prog.globals[0]?).map (·.type)=some 174:=by kernel_rfl
theorem B7:Tryz.prog.underlying 174=some (.array 64 5):=by kernel_rfl
theorem uU8:Tryz.prog.underlying 5=some (.int .u8):=by kernel_rfl
theorem cU8:Tryz.prog.cellsOf 5=1:=by kernel_rfl
theorem D5:Tryz.prog.cellsOf 174=64:=by kernel_rfl
section
variable {H : Type} {enc : TypeId × Value -> H} {w : World} {base : Nat} {sp : Nat -> Bool} {held : Bool}
theorem Ga{fuel:Nat}{cs:List Value}{p:List MemPlace}(h:DataW.trod enc Tryz.prog w base sp held fuel 174 cs=some (Rows.laid_math_bits_deBruijn64tab,p)):cs=XR:=by
 obtain⟨xs,m,_,hx,hl,hn,DX⟩:=DataW.trod_array B7 h;rw[D5]at hl;rw[K9]at hx;simp only[Prod.mk.injEq,DataW.agg.injEq]at hx;apply List.ext_getElem?;intro k;by_cases hk:k<64
 ·have h1:=DX k hk;rw[cU8,Nat.mul_one]at h1;have h2:(xs.map (·.1))[k]?=(U4.map fun x=>(DataW.lit (.int .u8 x):DataW H))[k]?:=by rw[<-hx.1]
  rw[List.getElem?_map,List.getElem?_map]at h2;have h3:XR[k]?=(U4[k]?).map fun x=> .int .u8 x:=by unfold XR;rw[List.getElem?_map]
  rw[h3];have hkd:k<U4.length:=hk;rw[List.getElem?_eq_getElem hkd]at h2⊢;cases Fs:xs[k]? with|none=>rw[Fs]at h2;cases h2|some y=>rw[Fs]at h1 h2;obtain⟨y1,y2⟩:=y;simp only[Option.map_some,Option.some.injEq]at h2;subst h2;obtain⟨n0,c0,x0,_⟩:=DataW.trod_int uU8 h1;simp only[Prod.mk.injEq,DataW.lit.injEq,Lit.int.injEq,true_and]at x0;obtain⟨e,_⟩:=x0;have h4:=congrArg (·[0]?) c0;simp only[List.getElem?_take,List.getElem?_drop,Nat.add_zero]at h4;rw[if_pos (by omega)]at h4;rw[h4,e];rfl
 ·rw[List.getElem?_eq_none (by omega),List.getElem?_eq_none (by show XR.length<=k;have:XR.length=64:=rfl;omega)]
end
theorem Jn{W:World}(h:laidMetH Tryz.prog [("math/bits.deBruijn64tab",Rows.laid_math_bits_deBruijn64tab),("surd/expr.rows",Rows.laid_surd_expr_rows)] W):(∀k v,XR[k]?=some v->W.cell? ⟨0,k,none⟩=some v)/\ ∀k v,Xg[k]?=some v->W.cell? ⟨1,k,none⟩=some v:=by
 rw[MakeChecks.laidMetH_plain _ _ _ (by kernel_rfl)]at h;obtain⟨ps,⟨g1,t1,Uw,f1,p1,q1,AU,ht1,hv1,Ek,⟨g0,t0,YK,f0,p0,q0,AV,Fp,hv0,AY,_⟩,_⟩,_,_⟩:=h;obtain rfl:=Option.some.inj (F1.symm.trans AV);obtain rfl:=Option.some.inj (Dl.symm.trans Fp);obtain rfl:=Option.some.inj (Cn.symm.trans AU);obtain rfl:=Option.some.inj (B2.symm.trans ht1);have hc:=IF AY;have OT:=Ga Ek;refine⟨fun k v hk=>?_,fun k v hk=>?_⟩;·rw[World.var?_cell AU hv1 k,<-hk,<-OT];simp
 ·rw[World.var?_cell AV hv0 k,<-hk,<-hc];simp
def Wj:AH:= { n:=1+1,lw:=1+1,t:=(Tr.nil.set 1 (.ro 3 Xg)).set 0 (.ro 1 XR) }
def Pz:Nat->Ev.Loc:=fun i=>cond (Nat.beq i 0) ⟨i,0,1,64⟩ ⟨i,0,3,48⟩
theorem J5:GO Yf Jv Pz:=fun g hg=>⟨hg,by unfold Pz;cases Nat.beq g 0<;>rfl,by unfold Pz;cases Nat.beq g 0<;>rfl⟩
theorem MC:XR.all Zq=true:=rfl
theorem QY{w:World}(h: ∀k v,Xg[k]?=some v->w.cell? ⟨1,k,none⟩=some v)(h': ∀k v,XR[k]?=some v->w.cell? ⟨0,k,none⟩=some v):Inv w.heap.size Jv Pz Wj w:=by
 have Y0: ∀i b,Wj.blk i=b->b≠ .dead->(i=0/\b= .ro 1 XR)\/(i=1/\b= .ro 3 Xg):=by
  intro i b hb hd;by_cases hi:i=0;·subst hi;exact .inl ⟨rfl,by rw[<-hb];rfl⟩
  ·by_cases UU:i=1;·subst UU;exact .inr ⟨rfl,by rw[<-hb];rfl⟩
   ·exfalso;apply hd;rw[<-hb];unfold AH.blk Wj;simp only[Tr.get_set,if_neg hi,if_neg UU,Tr.get_nil]
 have Yz: ∀(g:Nat)(cs:List Value)(v:Value),cs[0]?=some v->(∀k v,cs[k]?=some v->w.cell? ⟨g,k,none⟩=some v)->g<w.heap.size:=by
  intro g cs v hv hh;have h0:=hh 0 _ hv;by_cases hx:g<w.heap.size;·exact hx
  ·exfalso;have:w.heap[g]?=none:=Array.getElem?_eq_none (by omega);simp[World.cell?,this]at h0
 refine⟨fun i sz cs hb=>?_,fun i sz cs hb=>?_,fun i j a b c d hb=>?_,fun i hi=>hi,Nat.le_refl _⟩
 ·rcases Y0 i _ hb (by intro e;cases e)with⟨rfl,he⟩|⟨rfl,he⟩
  ·cases he;refine⟨(by decide:0<1+1),Yz _ _ _ rfl h',rfl,fun k v hk=>⟨v,?_,?_⟩⟩;·show w.cell? ⟨0,0+k,none⟩=some v;rw[Nat.zero_add];exact h' k v hk
   ·exact T1 (List.all_eq_true.mp MC v (List.mem_of_getElem? hk))
  ·cases he;refine⟨Nat.lt_succ_self _,Yz _ _ _ rfl h,rfl,fun k v hk=>⟨v,?_,?_⟩⟩;·show w.cell? ⟨1,0+k,none⟩=some v;rw[Nat.zero_add];exact h k v hk
   ·exact T1 (List.all_eq_true.mp NH v (List.mem_of_getElem? hk))
 ·rcases Y0 i _ hb (by intro e;cases e)with⟨_,he⟩|⟨_,he⟩<;>cases he
 ·rcases Y0 i _ hb (by intro e;cases e)with⟨_,he⟩|⟨_,he⟩<;>cases he
theorem OL{n f:Nat}{fn:Func}{args:List Value}(hf:Tryz.prog.funcs[f]?=some fn)(hb:fn.body.isSome=true)(h:Rz (run Tryz.prog Yf n f args Wj)=true)(hp:args.all Zq=true){w:World}(hL:laidMetH Tryz.prog [("math/bits.deBruijn64tab",Rows.laid_math_bits_deBruijn64tab),("surd/expr.rows",Rows.laid_surd_expr_rows)] w):Calls Tryz.prog f args.toArray w fun e w'=>e= .returned (.bool true)/\Below w.heap.size w w':=by obtain⟨H',hr⟩:=RH h;obtain⟨h1,h2⟩:=Jn hL;have hI:=QY h2 h1;have hv:We Jv Pz args args:=⟨rfl,fun k x y hx hy=>by obtain rfl:=Option.some.inj (hx.symm.trans hy);exact T1 (List.all_eq_true.mp hp x (List.mem_of_getElem? hx))⟩;have:=Qn (HC (1+1)) hr hf hb J5 hI hv;refine this.mono fun e w' ⟨v',he,hg⟩=>?_;have Cy:=hg.below hI;obtain⟨L',_,_,hv⟩:=hg;cases hv;exact⟨he,Cy⟩
end
end Go.Proofs.YtjboehpfojpimaaGreatDoor
namespace Go.Proofs.YtjboehpfojpimaaGreatDoor
open Go Ev
set_option linter.unusedVariables false
set_option linter.unusedSimpArgs false
noncomputable section
set_option maxHeartbeats 2000000
set_option maxRecDepth 20000
def Jw(Ds:St->Bool):Option (Ev.Ex×St)->Bool|some (.norm,s)=>Ds s|_=>false
theorem E3{P:Program}{C:Cfg}{UD:FuncId->List Value->AH->Option (Value×AH)}(ho:Uz UD (ZG P C)){n:Nat}{c:Code}{s:St}{Q:Ev.Ex->St->Prop}(Ds:St->Bool)(h:Jw Ds ((LA P C UD n).code c s)=true)(hq: ∀s',Ds s'=true->Q .norm s'):W P C c s Q:=by cases hr:(LA P C UD n).code c s with
 |none=>rw[hr]at h;cases h
 |some r=>obtain⟨e,s'⟩:=r;rw[hr]at h;cases e with|norm=>exact⟨_,_,(Nz ho n).code _ _ _ hr,hq _ h⟩|exit _=>cases h|ret=>cases h|pan _=>cases h
def Js:Option Value->Option Nat|some (.pointer (some ⟨b,0,none⟩))=>some b|_=>none
theorem NN{v:Option Value}{b:Nat}(h:Js v=some b):v=some (.pointer (some ⟨b,0,none⟩)):=by
 unfold Js at h;split at h;·cases h;rfl
 ·cases h
def JR:Option Value->Bool|some (.int .i64 z)=>decide (z=0)|_=>false
theorem N6{v:Option Value}(h:JR v=true):v=some (.int .i64 0):=by
 unfold JR at h;split at h;·rw[of_decide_eq_true h]
 ·cases h
def NP:VA->Option (Bool×Value)| .rw 1 [.bool x,v]=>some (x,v)|_=>none
theorem Oc{b:VA}{x:Bool}{v:Value}(h:NP b=some (x,v)):b= .rw 1 [.bool x,v]:=by
 unfold NP at h;split at h;·cases h;rfl
 ·cases h
def Kh(s:St):Bool:=Nat.beq s.k 36&&(JR (s.tm.get 2)&&match Js (s.tm.get 1)with
 |some b=>Nat.blt b s.H.n&&(match NP (s.H.blk b)with
  |some (x,v)=>!x&&(match X7 s.H v with|some xs=>decide (xs=[341])|none=>false)
  |none=>false)
 |none=>false)
theorem MG{s:St}(h:Kh s=true):s.k=36/\s.tm.get 2=some (.int .i64 0)/\ ∃b v,s.tm.get 1=some (.pointer (some ⟨b,0,none⟩))/\b<s.H.n/\s.H.blk b= .rw 1 [.bool false,v]/\Sl s.H v [341]:=by
 unfold Kh at h;rw[Bool.and_eq_true,Bool.and_eq_true]at h;obtain⟨h1,h2,h3⟩:=h;refine⟨Nat.eq_of_beq_eq_true h1,N6 h2,?_⟩;split at h3
 ·rename_i b hb;rw[Bool.and_eq_true]at h3;obtain⟨h3,h4⟩:=h3;split at h4
  ·rename_i x v hp;rw[Bool.and_eq_true]at h4;obtain⟨h4,h5⟩:=h4;split at h5;·rename_i xs hx;obtain rfl:=of_decide_eq_true h5;cases x with|true=>cases h4|false=>exact⟨b,v,NN hb,by simpa[Nat.blt_eq]using h3,Oc hp,(YQ hx).1⟩
   ·cases h5
  ·cases h4
 ·cases h3
def ON:Code:=match Tryz.f8.body with|some (.seq _ (.seq r _))=>r|_=> .skip
def OM(H:AH):St:= { k:=36,tm:=Tr.nil.set 0 (.bool false),H:=H }
theorem RS{H:AH}{sz:Nat}{zs ws:List Value}{t:TypeId}{n:Nat}(ht:YE Tryz.prog t=some n)(hz:zs.length=n){v:Value}(hv:v.cells.toList=ws)(hw:ws.length=n)(h1:ws.all one=true)(AB:sz≠0:=by decide): ∃H',YP Tryz.prog (H.new sz zs) t (.pointer (some ⟨H.n,0,none⟩)) v=some H'/\ZQ H H'/\H'.blk H.n= .rw sz ws/\H'.n=H.n+1:=by
 obtain⟨sz,rfl⟩: ∃k,sz=k+1:=⟨sz-1,by omega⟩;have hb:(H.new (sz+1) zs).blk H.n= .rw (sz+1) zs:=by rw[AH.blk_new,if_pos rfl]
 have hs:v.cells.size=n:=by rw[<-hw,<-hv];simp
 have hle:Nat.ble (0+ws.length) zs.length=true:=Nat.ble_eq.mpr (by omega);refine⟨{ n:=H.n+1,lw:=min H.lw H.n,t:=(H.new (sz+1) zs).t.set H.n (.rw (sz+1) ws) },?_,⟨Nat.le_succ _,Nat.le_refl _,fun j hj=>?_⟩,?_,rfl⟩;·unfold YP;simp only[ht,hs,hv];rw[show Nat.beq n n=true from by simp,cond_true,AH.write_def,hb];simp only[hle,h1,Bool.and_self,cond_true,List.take_zero,List.nil_append];rw[List.drop_of_length_le (by omega),List.append_nil];rfl
 ·unfold AH.blk AH.new;simp only[Tr.get_set];rw[if_neg (by omega),if_neg (by omega)]
 ·unfold AH.blk;simp only[Tr.get_set,if_true]
theorem GN{H:AH}{p q r:Value}(h:Kb p q r): ∃H',YP Tryz.prog (H.new 1 [.bool false,.slice none 0 0,.slice none 0 0]) 54 (.pointer (some ⟨H.n,0,none⟩)) (.agg #[p,q,r])=some H'/\ZQ H H'/\H'.blk H.n= .rw 1 [p,q,r]/\H'.n=H.n+1:=by obtain⟨⟨s,rfl⟩,⟨a1,l1,c1,rfl⟩,⟨a2,l2,c2,rfl⟩⟩:=h;exact RS sR rfl rfl rfl rfl
section
attribute [-simp] Int.natCast_add Int.natCast_mul Int.natCast_ediv Int.natCast_emod Int.natCast_pow
attribute [local simp] strip Zt YR LR gW ZZ ZO Zk ZN Zv ZM Ze Zf Zb Zw ZT Zs ZI Zi Zx Zc Za ZJ ZK Yo Zn ZS Yd ZC Zu plain Zq Tr.get_set ZA Zd Z5 Zl sameKind undef Zh Zy ZR ZU Zm parts Xd DW ZL Zg LX Zo
attribute [local simp] Z4 Yn XW
section
theorem Ja:(ds ZV 341).length<=Su:=by decide+kernel
theorem Mu:(ds ZV 1).length<=Su:=by decide+kernel
theorem GV:(ds ZV 340).length<=Su:=by decide+kernel
theorem GU:(ds ZV 343).length<=Su:=by decide+kernel
theorem J0(Ha:AH)(hr:Jw Kh ((LA Tryz.prog Yf Lx 100000).code ON (OM Ha))=true): ∃H',ZG Tryz.prog Yf 8 [] Ha=some (.bool true,H'):=by
 suffices hs:CW Tryz.prog Yf 8 [] Ha fun x H'=>x= .bool true by obtain⟨x,H',hc,rfl⟩:=hs;exact⟨H',hc⟩
 refine YH 36 Tryz.func8 ?_;apply ZX;intro b1 ZH;simp;subst ZH;apply Zz;intro b1 ZH;refine E3 (c:=ON) (s:=OM Ha) MX Kh hr ?_;rintro⟨k,tm,H1⟩ hc;obtain⟨hk,u2,b,v,u1,CZ,hb,hv⟩:=MG hc;simp only at hk u2 u1 CZ hb hv;subst hk;subst ZH;have z1:=EB hb;have K:=(ZQ.refl H1);obtain⟨p,q,H3,c3,k3,o1,o2⟩:=RK (hv.keep K);have n3:=k3.n;replace hb:=k3.q hb;obtain⟨H4,IB,k4,q4,n4⟩:=GN (H:=H3) (p:= .bool false) ⟨⟨_,rfl⟩,o1.shape,o2.shape⟩;replace hb:=k4.q hb;replace o1:=o1.m k4;replace o2:=o2.m k4;have A6:=q4;have DF: ∀{J:AH}(k:ZQ H4 J){bits ms},(∀x∈ms,H4.n<=x.2.1)-> ∀b,b<H4.n->(Pe J bits ms).blk b=H4.blk b:=fun k _ _ h b hb=>(Uc k h).blk b hb;obtain⟨p1,p2,Ia1,HA,P1,y1,y2⟩:=Ty (H:=H4.top) (n:=340) (by decide);obtain⟨Ja1,Ld,Ln,ma1⟩:=cg P1;have K8:=Ln;have BG:=K8.n;replace o1:=o1.m Ln;replace o2:=o2.m Ln;replace y1:=y1.gr P1 Ld;replace y2:=y2.gr P1 Ld;replace HA:ZG _ _ _ [Value.int .i64 340] _=_:=HA;obtain⟨Ia2,Fa,Nm⟩:=Tx false false o1.sl.top o2.sl.top y1.sl.top y2.sl.top Ja Mu GV Mu;obtain⟨Ad,KV,Lo,ma2⟩:=cg Nm;have Nq:=K8.trans Lo;have BF:=Nq.n;replace o1:=o1.m Lo;replace o2:=o2.m Lo;obtain⟨p3,p4,Ia3,FH,Nn,y3,y4⟩:=Ty (H:=Ad.top) (n:=343) (by decide);obtain⟨LL,KU,Np,ma3⟩:=cg Nn;have P3:=Nq.trans Np;have BE:=P3.n;replace o1:=o1.m Np;replace o2:=o2.m Np;replace y3:=y3.gr Nn KU;replace y4:=y4.gr Nn KU;replace FH:ZG _ _ _ [Value.int .i64 343] _=_:=FH;obtain⟨Ia4,Am,EF⟩:=Tx false false o1.sl.top o2.sl.top y3.sl.top y4.sl.top Ja Mu GU Mu;obtain⟨Ja4,Cs,BQ,ma4⟩:=cg EF;have BO:=P3.trans BQ;have nka4:=BO.n;have g1:PX false 341 1 false 340 1=1:=by decide+kernel
 have g2:PX false 341 1 false 343 1= -1:=by decide+kernel
 rw[g1]at Fa;rw[g2]at Am;apply ZX;intro b1 ZH;simp[u1,z1,c3,zR,Value.cells,IB];subst ZH;apply Zz;intro b1 ZH;apply SJ (by kernel_rfl);simp[u2];refine I7 (v:= .int .i64 0) (by simp[NR]) ?_ (hg:=by simp);simp[show Zj .eql .i64 0 0=some (.bool true)from rfl];refine I7 (v:= .agg #[.bool false,p,q]) (by simp[Tn (H:=AH.top H4) A6]) ?_ (hg:=by simp);simp;refine SL (v:= .agg #[.bool false,p1,p2]) (Uv.nil H4.n) P1 Ld (by simp[HA]) (hg:=by simp) fun BL DD=>?_;simp;refine SL (v:= .int .i64 1) DD Nm KV (by simp[Fa]) (hg:=by simp) fun BK FZ=>?_;simp[show Zj .gtr .i64 1 0=some (.bool true)from rfl];refine YG (v:= .agg #[.bool false,p,q]) (by simp) rfl rfl (by simp[Tn ((DF Nq FZ.ge _ (by omega)).trans A6)]) ?_;simp;refine SL (v:= .agg #[.bool false,p3,p4]) FZ Nn KU (by simp[FH]) (hg:=by simp) fun BJ DC=>?_;simp;refine SL (v:= .int .i64 (-1)) DC EF Cs (by simp[Am]) (hg:=by simp) fun msa4 Ma4=>?_;simp[show Zj .lss .i64 (-1) 0=some (.bool true)from rfl];subst ZH;apply Z8;simp
end
end
def NU:Code:=match Tryz.f5.body with|some (.seq _ (.seq c _))=>c|_=> .skip
def NT(n p:Int):St:= { k:=90,tm:=((Tr.nil.set 0 (.int .i64 n)).set 1 (.int .i64 p)).set 4 (.bool false),H:=Wj }
def Nb:Option (Ev.Ex×St)->Option (Nat×AH)|some (.norm,s)=>some (s.k,s.H)|_=>none
def Q2:AH:=match Nb ((LA Tryz.prog Yf Lx 100000).code NU (NT 0 0))with|some (_,H)=>H|none=>Wj
theorem NS(n p:Int):Nb ((LA Tryz.prog Yf Lx 100000).code NU (NT n p))=some (90,Q2):=by kernel_rfl
theorem P8:Jw Kh ((LA Tryz.prog Yf Lx 100000).code ON (OM Q2))=true:=by kernel_rfl
theorem GQ{P:Program}{C:Cfg}{UD:FuncId->List Value->AH->Option (Value×AH)}(ho:Uz UD (ZG P C)){n k:Nat}{c:Code}{s:St}{Q:Ev.Ex->St->Prop}{H:AH}(h:Nb ((LA P C UD n).code c s)=some (k,H))(hq: ∀tm,Q .norm ⟨k,tm,H⟩):W P C c s Q:=by cases hr:(LA P C UD n).code c s with
 |none=>rw[hr]at h;cases h
 |some r=>obtain⟨e,s'⟩:=r;rw[hr]at h;obtain⟨k',tm,H'⟩:=s';cases e with|norm=>injection h with h;injection h with h1 h2;have h1:k'=k:=h1;have h2:H'=H:=h2;subst h1;subst h2;exact⟨_,_,(Nz ho n).code _ _ _ hr,hq tm⟩|exit _=>cases h|ret=>cases h|pan _=>cases h
section
attribute [-simp] Int.natCast_add Int.natCast_mul Int.natCast_ediv Int.natCast_emod Int.natCast_pow
attribute [local simp] strip Zt YR LR gW ZZ ZO Zk ZN Zv ZM Ze Zf Zb Zw ZT Zs ZI Zi Zx Zc Za ZJ ZK Yo Zn ZS Yd ZC Zu plain Zq Tr.get_set ZA Zd Z5 Zl sameKind undef Zh Zy ZR ZU Zm parts Xd DW ZL Zg LX Zo
attribute [local simp] Z4 Yn XW
section
theorem IW(n p:Int): ∃H',ZG Tryz.prog Yf 5 [.int .i64 n,.int .i64 p] Wj=some (.bool true,H'):=by
 suffices hs:CW Tryz.prog Yf 5 [.int .i64 n,.int .i64 p] Wj fun x H'=>x= .bool true by obtain⟨x,H',hc,rfl⟩:=hs;exact⟨H',hc⟩
 obtain⟨H1,c1⟩:=J0 Q2 P8;refine YH 90 Tryz.func5 ?_;apply ZX;intro b1 ZH;simp;subst ZH;apply Zz;intro b1 ZH;refine GQ (c:=NU) (s:=NT n p) MX (NS n p) fun tm=>?_;obtain⟨Hb,hHb⟩:=hid Q2;rw[<-hHb]at c1⊢;subst ZH;apply ZX;intro b1 ZH;simp[c1];subst ZH;apply Z8;simp
end
end
end
end Go.Proofs.YtjboehpfojpimaaGreatDoor
namespace Go.Proofs.YtjboehpfojpimaaGreatDoor
open Go.ChangeShapes Go.WideShapes Go.ChangeAt Go.RowKit Go.Proofs.YtjboehpfojpimaaGreatDoor.Ev
set_option linter.unusedVariables false
set_option maxHeartbeats 2000000
set_option maxRecDepth 20000
theorem laidOut:laidOutB Tryz.prog=true:=by kernel_rfl
theorem RG{P:Program}(hl:laidOutB P=true){H:Type}{enc:TypeId×Value->H}{W W':World}(hb:Below W.heap.size W W'): ∀(ts:List TypeId)(vs:List Value)(ds:List (DataW H))(ps:List MemPlace),(ts.all fun t=>P.readableRec t&&decide (t<P.types.size))=true->DataW.TrodAll enc P W 0 (fun _=>true) true ts vs ds ps->(∀x∈ps,x.block<W.heap.size)->DataW.TrodAll enc P W' 0 (fun b=>decide (b<W.heap.size)) true ts vs ds ps|[],[],[],_,_,h,_=>h|t::ts,v::vs,d::ds,_,ht,⟨p,q,h1,h2,e⟩,Z0=>by subst e;rw[List.all_cons,Bool.and_eq_true,Bool.and_eq_true]at ht;exact⟨p,q,Below.trod hl ht.1.1 (of_decide_eq_true ht.1.2) h1 hb (fun x hx=>Z0 x (List.mem_append_left _ hx)),RG hl hb ts vs ds q ht.2 h2 (fun x hx=>Z0 x (List.mem_append_right _ hx)),rfl⟩
end Go.Proofs.YtjboehpfojpimaaGreatDoor
