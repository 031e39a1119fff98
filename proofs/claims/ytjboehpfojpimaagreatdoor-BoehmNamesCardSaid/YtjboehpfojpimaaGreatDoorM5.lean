/-
  The engine and the walks that the claim's last text leans on, part 5 of 5: Ub, Uc, Ud, Ue, Uf, Ug, Uh, Ui, Uj, Uk, Ul, Um, Un, Uo, Up, Uq, Ur, Us, Ut, Uu, Uv, Uw, OrA, OrB, OrC, OrD, OrE, Ba, LaidB, Bb, Bd, Bc, Bf.
-/
import Derived.Test.YtjboehpfojpimaaGreatDoorM4
namespace Go.Proofs.YtjboehpfojpimaaGreatDoor
open Go Ev
set_option linter.unusedVariables false
set_option linter.unusedSimpArgs false
noncomputable section
set_option maxHeartbeats 2000000
set_option maxRecDepth 20000
section
attribute [-simp] Int.natCast_add Int.natCast_mul Int.natCast_ediv Int.natCast_emod Int.natCast_pow
attribute [local simp] strip Zt YR LR gW ZZ ZO Zk ZN Zv ZM Ze Zf Zb Zw ZT Zs ZI Zi Zx Zc Za ZJ ZK Yo Zn ZS Yd ZC Zu plain Zq Tr.get_set ZA Zd Z5 Zl sameKind undef Zh Zy ZR ZU Zm parts Xd DW ZL Zg LX Zo
section
variable {H : AH} {u v w z : Value}
theorem Tw(s t:Bool){A B C D:Nat}(ha:Sl H u (ds ZV A))(hb:Sl H v (ds ZV B))(hc:Sl H w (ds ZV C))(hd:Sl H z (ds ZV D))(lA:(ds ZV A).length<=Su)(lB:(ds ZV B).length<=Su)(lC:(ds ZV C).length<=Su)(lD:(ds ZV D).length<=Su): ∃H',ZF Tryz.prog Yg 20 [.agg #[.bool s,u,v],.agg #[.bool t,w,z]] H=some (.int .i64 (PY s A B t C D),H')/\ZQ H H':=by
 obtain⟨R,hR⟩:=hid (PY s A B t C D);rw[<-hR];suffices h:CW Tryz.prog Yg 20 [.agg #[.bool s,u,v],.agg #[.bool t,w,z]] H fun x H'=>x= .int .i64 R/\ZQ H H' by obtain⟨x,H',hc,rfl,k⟩:=h;exact⟨H',hc,k⟩
 unfold PY at hR;have hLim:Su=2000000000000:=rfl;obtain⟨H4,e2,Bv,n2,r0,r1⟩:=L6 H [.bool s,u,v] [.bool t,w,z];have sx:=NN s A;obtain⟨x,hx⟩:=hid (VB s A);obtain⟨y,hy⟩:=hid (VB t C);rw[<-hx,<-hy]at hR;rw[<-hx]at sx;obtain⟨E1,c5,Bw⟩:=WY s ((ha.keep Bv).top) v;obtain⟨G1,JW⟩:=hid (grown H4 E1);have JR:ZQ H4 G1:=by rw[JW];exact Xb (.refl H4) Bw
 have nE1:H4.n<=E1.n:=Bw.n;obtain⟨E2,c6,Bx⟩:=WY t ((hc.keep (Bv.trans JR)).top) z;obtain⟨G2,FB⟩:=hid (grown G1 E2);have Hu:ZQ G1 G2:=by rw[FB];exact Xb (.refl G1) Bx
 have nE2:G1.n<=E2.n:=Bx.n;have kH:=JR.trans Hu;have ng:=kH.n;rw[<-hx]at c5;rw[<-hy]at c6;have l2: ∀bits ms,(∀x∈ms,H4.n<=x.2.1)->Yk Tryz.prog (Pd G1 bits ms) 54 (.pointer (some ⟨H.n+1,0,none⟩))=some (.agg #[.bool t,w,z]):=fun bits ms h=>Tm (by rw[(Uc JR h).blk _ (by omega)];exact r1);have Ht:=Bv.trans kH;have f0:G2.blk H.n= .rw 1 [.bool s,u,v]:=by rw[kH.blk _ (by omega)];exact r0
 have f1:G2.blk (H.n+1)= .rw 1 [.bool t,w,z]:=by rw[kH.blk _ (by omega)];exact r1
 have gn:Zj .neq .i64 x y=some (.bool (decide (x≠y))):=ED;have gl:Zj .lss .i64 x y=some (.bool (decide (x<y))):=EI;refine YH 29 Tryz.func20 ?_;apply ZX;intro b1 ZH;simp[Value.cells,EC,e2];subst ZH;apply Zz;intro b1 ZH;apply Zz;intro b2 Yy;apply SJ (by kernel_rfl);simp;refine YG (v:= .agg #[.bool s,u,v]) rfl rfl rfl (by rw[YD rfl];simp[Tm (H:=H4.top) r0]) ?_;simp;refine X2 (v:= .int .i64 x) (H2:=E1) rfl rfl rfl (by rw[YD rfl];simp[c5]) nE1 (Wj Bw) ?_;rw[<-JW];have Mr:=(Uv.nil H4.n).cons (i:=1) (a:=H4.n) (b:=E1.n) (Nat.le_refl _);generalize cond (Nat.blt H4.n E1.n) _ _=ms at Mr;simp;refine YG (v:= .agg #[.bool t,w,z]) rfl rfl rfl (by simp[l2 _ ms Mr.ge]) ?_;simp;refine X2 (v:= .int .i64 y) (H2:=E2) rfl rfl rfl ?_ nE2 (Wj Bx) ?_;·rw[YD (Mr.hid (by kernel_rfl))];simp[c6]
 rw[<-FB];simp[gn];subst Yy;clear Mr;obtain⟨I1,d1,DU⟩:=WY s ((ha.keep Ht).top) v;rw[<-hx]at d1;obtain⟨J1,Ci⟩:=hid (grown G2 I1);have Ij:ZQ G2 J1:=by rw[Ci];exact Xb (.refl _) DU
 have m1:G2.n<=I1.n:=DU.n;have nk1:=Ij.n;have vk: ∀{J:AH}(k:ZQ G2 J){bits ms},(∀x∈ms,G2.n<=x.2.1)-> ∀b,b<G2.n->(Pd J bits ms).blk b=G2.blk b:=fun k _ _ h b hb=>(Uc k h).blk b hb;by_cases Ie:x≠y
 ·rw[if_pos Ie]at hR;refine Zp (t:=true) (by simp[Ie]) ?_;obtain⟨I2,d2,Hw⟩:=WY t ((hc.keep (Ht.trans Ij)).top) z;rw[<-hy]at d2;obtain⟨J2,G5⟩:=hid (grown J1 I2);have Bz:ZQ J1 J2:=by rw[G5];exact Xb (.refl _) Hw
  have m2:J1.n<=I2.n:=Hw.n;have kF:=Ht.trans (Ij.trans Bz);apply Zz;intro b2 Yy;apply Zz;intro b3 YC;apply SJ (by kernel_rfl);simp;refine YG (v:= .agg #[.bool s,u,v]) rfl rfl rfl (by rw[YD rfl];simp[Tm (H:=G2.top) f0]) ?_;simp;refine X2 (v:= .int .i64 x) (H2:=I1) rfl rfl rfl (by rw[YD rfl];simp[d1]) m1 (Wj DU) ?_;rw[<-Ci];have Mr:=(Uv.nil G2.n).cons (i:=1) (a:=G2.n) (b:=I1.n) (Nat.le_refl _);generalize cond (Nat.blt G2.n I1.n) _ _=ms at Mr;simp;refine YG (v:= .agg #[.bool t,w,z]) rfl rfl rfl (by simp[Tm ((vk Ij Mr.ge _ (by omega)).trans f1)]) ?_;simp;refine X2 (v:= .int .i64 y) (H2:=I2) rfl rfl rfl (by rw[YD (Mr.hid (by kernel_rfl))];simp[d2]) m2 (Wj Hw) ?_;rw[<-G5];simp[gl];subst YC;by_cases Z3:x<y;·rw[if_pos Z3]at hR;subst hR;refine Zp (t:=true) (by simp[Z3]) ?_;apply ZX;intro b3 YC;simp;subst YC;apply Z8;simp[WA];exact kF
  ·rw[if_neg Z3]at hR;subst hR;refine Zp (t:=false) (by simp[Z3]) ?_;apply ZE;subst Yy;apply ZX;intro b2 Yy;simp;subst Yy;apply Z8;simp[WA];exact kF
 ·have Bo:x=y:=Decidable.not_not.mp Ie;rw[if_neg Ie]at hR;refine Zp (t:=false) (by simp[Bo]) ?_;apply ZE;subst ZH;obtain⟨g1,I2,d2,Hw,oI2⟩:=So ((ha.keep (Ht.trans Ij)).top) ((hd.keep (Ht.trans Ij)).top) (by omega) (by omega);obtain⟨J2,G5⟩:=hid (grown J1 I2);have Bz:ZQ J1 J2:=by rw[G5];exact Xb (.refl _) Hw
  have Fk:=Ij.trans Bz;obtain⟨g2,I3,d3,DT,oI3⟩:=So ((hc.keep (Ht.trans Fk)).top) ((hb.keep (Ht.trans Fk)).top) (by omega) (by omega);obtain⟨J3,Cj⟩:=hid (grown J2 I3);have AJ:ZQ J2 J3:=by rw[Cj];exact Xb (.refl _) DT
  have AG:=Fk.trans AJ;have s1:Sl J3 g1 (ds ZV (A*D)):=((by rw[G5];exact oI2.same (Vj Hw):Yl J1.top.n J2 g1 (ds ZV (A*D))).sl.keep AJ);have s2:Sl J3 g2 (ds ZV (C*B)):=(by rw[Cj];exact oI3.same (Vj DT):Yl J2.top.n J3 g2 (ds ZV (C*B))).sl;have y1:=U5 (A:=A) (B:=D);have y2:=U5 (A:=C) (B:=B);obtain⟨vc,Hc,cc,ec,Ae⟩:=V8 s1.top s2.top (Xo two32 _) (Xo two32 _) (Uh two32 _) (Uh two32 _) (by omega) (by omega);rw[X5 two32,X5 two32]at Ae;rw[ec,Ae]at cc;have m2:J1.n<=I2.n:=Hw.n;have m3:J2.n<=I3.n:=DT.n;have nk2:=Fk.n;have nk3:=AG.n;obtain⟨cm,Aq⟩:=hid (WB (A*D) (C*B));rw[<-Aq]at cc hR;have gm:=EE sx (show cm= -1\/cm=0\/cm=1 by rw[Aq];exact L8 _ _);rw[<-hR]at gm;apply Zz;intro b1 ZH;apply SJ (by kernel_rfl);simp;refine YG (v:= .agg #[.bool s,u,v]) rfl rfl rfl (by rw[YD rfl];simp[Tm (H:=G2.top) f0]) ?_;simp;refine X2 (v:= .int .i64 x) (H2:=I1) rfl rfl rfl (by rw[YD rfl];simp[d1]) m1 (Wj DU) ?_;rw[<-Ci];have Mr:=(Uv.nil G2.n).cons (i:=1) (a:=G2.n) (b:=I1.n) (Nat.le_refl _);generalize cond (Nat.blt G2.n I1.n) _ _=ms at Mr;simp[HG];refine YG (v:=u) rfl rfl rfl (by simp[Nt ((vk Ij Mr.ge _ (by omega)).trans f0)]) ?_;simp[FK];refine YG (v:=z) rfl rfl rfl (by simp[K6 ((vk Ij Mr.ge _ (by omega)).trans f1)]) ?_;simp;refine X2 (v:=g1) (H2:=I2) rfl rfl rfl (by rw[YD (Mr.hid (by kernel_rfl))];simp[d2]) m2 (Wj Hw) ?_;rw[<-G5];have EF:=Mr.cons (i:=6) (a:=J1.n) (b:=I2.n) (by omega);generalize cond (Nat.blt J1.n I2.n) _ _=DS at EF;simp[HG];refine YG (v:=w) rfl rfl rfl (by simp[Nt ((vk Fk EF.ge _ (by omega)).trans f1)]) ?_;simp[FK];refine YG (v:=v) rfl rfl rfl (by simp[K6 ((vk Fk EF.ge _ (by omega)).trans f0)]) ?_;simp;refine X2 (v:=g2) (H2:=I3) rfl rfl rfl (by rw[YD (EF.hid (by kernel_rfl))];simp[d3]) m3 (Wj DT) ?_;rw[<-Cj];have AE:=EF.cons (i:=11) (a:=J2.n) (b:=I3.n) (by omega);generalize cond (Nat.blt J2.n I3.n) _ _=ms'' at AE;simp;refine YG (v:= .int .i64 cm) rfl rfl rfl (by rw[YD (AE.hid (by kernel_rfl))];simp[cc]) ?_;simp[gm];subst ZH;apply Z8;simp;exact Ht.trans AG
end
section
variable {H : AH}
theorem Tx{n:Nat}(hn:n<9223372036854775808): ∃p q H',ZF Tryz.prog Yg 21 [.int .i64 (n:Int)] H=some (.agg #[.bool false,p,q],H')/\ZQ H H'/\Yl H.n H' p (ds ZV n)/\Yl H.n H' q (ds ZV 1):=by
 suffices h:CW Tryz.prog Yg 21 [.int .i64 (n:Int)] H fun v H'=> ∃p q,v= .agg #[.bool false,p,q]/\ZQ H H'/\Yl H.n H' p (ds ZV n)/\Yl H.n H' q (ds ZV 1) by obtain⟨v,H',hc,p,q,rfl,k,o⟩:=h;exact⟨p,q,H',hc,k,o⟩
 obtain⟨H2,e2,k2,n2,q2⟩:=QX H [.bool false,.slice none 0 0,.slice none 0 0];obtain⟨p,H3,c3,k3,o3,_⟩:=W4 (H:=H2) n (Nat.lt_trans hn (by decide));obtain⟨q,H4,c4,k4,o4,_⟩:=W4 (H:=H3) 1 (by decide);have c4:ZF Tryz.prog Yg 15 [.int .i64 1] H3=some (q,H4):=c4;have n3:=k3.n;have E4:=(k3.trans k4).blk _ (show H.n<H2.n by omega);rw[q2]at E4;have DR:=o3.m k4;obtain⟨i1,i2,i3⟩:=DR.trio;obtain⟨j1,j2,j3⟩:=o4.trio;obtain⟨H5,BG,n5,q5,b5,BX⟩:=BJ (p:= .bool false) (q:=p) (r:=q) E4 ⟨⟨_,rfl⟩,i3,j3⟩;have k05:ZQ H H5:=BX H ((k2.trans k3).trans k4) (by omega);have o5:=(DR.off (b:=H.n) (by omega) n5 b5).mono (show H.n<=H2.n by omega) (.refl _);have o6:=(o4.off (b:=H.n) (by omega) n5 b5).mono (show H.n<=H3.n by omega) (.refl _);have Rg:=Tm q5;refine YH 16 Tryz.func21 ?_;apply ZX;intro b1 ZH;simp[Value.cells,zR,EC,e2];subst ZH;apply Zz;intro b1 ZH;apply ZX;intro b2 Yy;simp[Ip];subst Yy;refine Zp (t:=false) (by simp) ?_;apply ZE;subst ZH;apply ZX;intro b1 ZH;simp[c3,c4,DE i3 j3,BG];subst ZH;apply Z8;simp[Rg];exact⟨_,_,⟨rfl,rfl⟩,k05,o5,o6⟩
end
end
def Pk(s:Bool)(A B:Nat):Prop:=Xv s A B=(s,A,B)/\0<B
theorem Pk.cop{s:Bool}{A B:Nat}(h:Pk s A B):Nat.gcd A B=1:=by
 obtain⟨h,h0⟩:=h;unfold Xv at h;by_cases hA:A=0
 ·rw[if_pos hA]at h;have:B=1:=by rw[Prod.mk.injEq,Prod.mk.injEq]at h;exact h.2.2.symm
  rw[hA,this];rfl
 ·rw[if_neg hA]at h;rw[Prod.mk.injEq,Prod.mk.injEq]at h;have h1:B/Nat.gcd A B=B:=h.2.2;have g0:0<Nat.gcd A B:=Nat.gcd_pos_of_pos_right _ h0;have h2:Nat.gcd A B*(B/Nat.gcd A B)=B:=Nat.mul_div_cancel' (Nat.gcd_dvd_right A B);rw[h1]at h2;exact Nat.eq_of_mul_eq_mul_right h0 (by rw[h2,Nat.one_mul])
theorem Pk.zero{s:Bool}{A B:Nat}(h:Pk s A B)(hA:A=0):s=false/\B=1:=by have h:=h.1;unfold Xv at h;rw[if_pos hA,Prod.mk.injEq,Prod.mk.injEq]at h;exact⟨h.1.symm,h.2.2.symm⟩
theorem Nw{s:Bool}{A B:Nat}(hA:A≠0)(h0:0<B)(hc:Nat.gcd A B=1):Pk s A B:=by refine⟨?_,h0⟩;unfold Xv;rw[if_neg hA,hc,Nat.div_one,Nat.div_one]
theorem P5:Pk false 0 1:=⟨rfl,by decide⟩
def Db(s:Bool)(X:Nat)(t:Bool)(Y:Nat):Bool×Nat:=if s=t then(s,X+Y)else if Y<=X then(s,X-Y)else(t,Y-X)
def FX(s:Bool)(A B:Nat)(t:Bool)(C D:Nat):Bool×Nat×Nat:=Xv (Db s (A*D) t (C*B)).1 (Db s (A*D) t (C*B)).2 (B*D)
theorem Yl.one1{n:Nat}{H:AH}{v:Value}{xs:List Nat}(h:Yl n H v xs):one v=true:=h.cells1.2
section
attribute [-simp] Int.natCast_add Int.natCast_mul Int.natCast_ediv Int.natCast_emod Int.natCast_pow
attribute [local simp] strip Zt YR LR gW ZZ ZO Zk ZN Zv ZM Ze Zf Zb Zw ZT Zs ZI Zi Zx Zc Za ZJ ZK Yo Zn ZS Yd ZC Zu plain Zq Tr.get_set ZA Zd Z5 Zl sameKind undef Zh Zy ZR ZU Zm parts Xd DW ZL Zg LX Zo
attribute [local simp] Z4 Yn
section
variable {H : AH} {u v w z : Value}
end
section
variable {H : AH} {u v w z : Value}
end
end
theorem Pk.neg{t:Bool}{C D:Nat}(h:Pk t C D):Pk (sg (!t) C) C D:=by
 by_cases hC:C=0;·obtain⟨h1,h2⟩:=h.zero hC;rw[hC,h2];simp[sg];exact P5
 ·exact Nw hC h.2 h.cop
theorem Pk.inv{t:Bool}{C D:Nat}(h:Pk t C D)(hC:0<C):Pk t D C:=Nw (by have:=h.2;omega) hC (by rw[Nat.gcd_comm];exact h.cop)
section
attribute [-simp] Int.natCast_add Int.natCast_mul Int.natCast_ediv Int.natCast_emod Int.natCast_pow
attribute [local simp] strip Zt YR LR gW ZZ ZO Zk ZN Zv ZM Ze Zf Zb Zw ZT Zs ZI Zi Zx Zc Za ZJ ZK Yo Zn ZS Yd ZC Zu plain Zq Tr.get_set ZA Zd Z5 Zl sameKind undef Zh Zy ZR ZU Zm parts Xd DW ZL Zg LX Zo
attribute [local simp] Z4 Yn
section
variable {H : AH} {u v w z : Value}
end
end
def GF(op:Int):Option (Bool×FuncId):=if op=2 then some (false,143)else if op=7 then some (false,144)else if op=3 then some (true,145)else if op=4 then some (true,146)else if op=5 then some (true,147)else if op=6 then some (true,148)else if op=8 then some (true,149)else if op=9 then some (true,150)else none
def fv(f:FuncId):Value:= .func (.func f) #[] #[]
def clo(two:Bool)(b:Nat):Value:= .func (.func (cond two 140 142)) #[] #[.pointer (some ⟨b,0,none⟩)]
def Qy(H:AH)(m:Nat):Prop:=m<H.n/\ ∃cs,H.blk m= .rw 0 cs/\ ∀op two f,GF op=some (two,f)-> ∃i b,Tb .i64 op cs=some (some (i,clo two b))/\b<H.n/\H.blk b= .rw 1 [fv f]
theorem Qy.keep{H H':AH}{m:Nat}(h:Qy H m)(k:ZQ H H'):Qy H' m:=by obtain⟨hm,cs,hb,hw⟩:=h;refine⟨Nat.lt_of_lt_of_le hm k.n,cs,(k.blk _ hm).trans hb,fun op two f h=>?_⟩;obtain⟨i,b,h1,h2,h3⟩:=hw op two f h;exact⟨i,b,h1,Nat.lt_of_lt_of_le h2 k.n,(k.blk _ h2).trans h3⟩
section
attribute [-simp] Int.natCast_add Int.natCast_mul Int.natCast_ediv Int.natCast_emod Int.natCast_pow
attribute [local simp] strip Zt YR LR gW ZZ ZO Zk ZN Zv ZM Ze Zf Zb Zw ZT Zs ZI Zi Zx Zc Za ZJ ZK Yo Zn ZS Yd ZC Zu plain Zq Tr.get_set ZA Zd Z5 Zl sameKind undef Zh Zy ZR ZU Zm parts Xd DW ZL Zg LX Zo
attribute [local simp] Z4 Yn Vn VQ
section
variable {H : AH} {u v w z : Value}
end
end
def EB:Value->Bool| .int .u64 _=>false|_=>true
def noU(cs:List Value):Bool:=cs.all EB
def Fr(H H':AH):Prop:=H.n<=H'.n/\ ∀j,j<H.n->H'.blk j=H.blk j\/(∃sz cs,H.blk j= .rw sz cs/\sz≠1)\/ ∃cs cs',H.blk j= .rw 1 cs/\H'.blk j= .rw 1 cs'/\cs.length=cs'.length/\noU cs=true/\noU cs'=true
theorem Fr.refl(H:AH):Fr H H:=⟨Nat.le_refl _,fun j hj=> .inl rfl⟩
theorem Fr.trans{H H1 H2:AH}(a:Fr H H1)(b:Fr H1 H2):Fr H H2:=by
 refine⟨Nat.le_trans a.1 b.1,fun j hj=>?_⟩;have hb:=b.2 j (Nat.lt_of_lt_of_le hj a.1);rcases a.2 j hj with e|e|⟨cs,cs',e1,e2,e3,e4,e5⟩;·rw[e]at hb;exact hb
 ·exact .inr (.inl e)
 ·refine .inr (.inr ?_);rcases hb with x|⟨sz,c,x,hz⟩|⟨c,c',x1,x2,x3,x4,x5⟩;·exact⟨cs,cs',e1,x.trans e2,e3,e4,e5⟩
  ·rw[e2]at x;injection x with x _;exact absurd x.symm hz
  ·rw[e2]at x1;injection x1 with _ x1;subst x1;exact⟨cs,c',e1,x2,e3.trans x3,e4,x5⟩
theorem ZQ.fr{H H':AH}(k:ZQ H H'):Fr H H':=⟨k.n,fun j hj=> .inl (k.blk j hj)⟩
theorem Fr.put{H H':AH}{b:Nat}{cs cs':List Value}(hb:H.blk b= .rw 1 cs)(Xi:H'.blk b= .rw 1 cs')(hn:H'.n=H.n)(ho: ∀j,j≠b->H'.blk j=H.blk j)(hl:cs.length=cs'.length)(h1:noU cs=true)(h2:noU cs'=true):Fr H H':=by
 refine⟨Nat.le_of_eq hn.symm,fun j hj=>?_⟩;by_cases e:j=b;·subst e;exact .inr (.inr ⟨cs,cs',hb,Xi,hl,h1,h2⟩)
 ·exact .inl (ho j e)
theorem At.fr{H H':AH}{b o:Nat}{xs:List Nat}(h:At H b o xs)(f:Fr H H'):At H' b o xs:=by
 obtain⟨h1,cs,h2,h3,h4,h5⟩:=h;refine⟨Nat.lt_of_lt_of_le h1 f.1,?_⟩;rcases f.2 b h1 with e|⟨sz,c,e,hz⟩|⟨c,c',e1,e2,e3,e4,e5⟩;·exact⟨cs,by unfold AH.cells;rw[e];exact h2,by unfold AH.size;rw[e];exact h3,h4,h5⟩
 ·unfold AH.size at h3;rw[e]at h3;injection h3 with h3;exact absurd h3 hz
 ·unfold AH.cells at h2;rw[e1]at h2;injection h2 with h2;subst h2;refine⟨c',by unfold AH.cells;rw[e2],by unfold AH.size;rw[e2],fun i x hi=>?_,by omega⟩;have:=h4 i x hi;have hm:=List.mem_of_getElem? this;have:=List.all_eq_true.mp e4 _ hm;simp[EB]at this
theorem Sl.fr{H H':AH}{v:Value}{xs:List Nat}(h:Sl H v xs)(f:Fr H H'):Sl H' v xs:=by cases h with|nil=>exact .nil|emp b=>exact .emp b|mk b o cap xs h1 h2=>exact .mk b o cap xs h1 (h2.fr f)
section
attribute [-simp] Int.natCast_add Int.natCast_mul Int.natCast_ediv Int.natCast_emod Int.natCast_pow
attribute [local simp] strip Zt YR LR gW ZZ ZO Zk ZN Zv ZM Ze Zf Zb Zw ZT Zs ZI Zi Zx Zc Za ZJ ZK Yo Zn ZS Yd ZC Zu plain Zq Tr.get_set ZA Zd Z5 Zl sameKind undef Zh Zy ZR ZU Zm parts Xd DW ZL Zg LX Zo
attribute [local simp] Z4 Yn Vn VQ
section
variable {H : AH} {u v w z : Value}
end
end
theorem M1(n:Nat): ∃r,DN n r:=by induction n with
 |zero=>exact⟨0,by decide,by decide⟩
 |succ n ih=>
  obtain⟨r,h1,h2⟩:=ih;by_cases h:n+1<(r+1)*(r+1);·exact⟨r,by omega,h⟩
  ·refine⟨r+1,by omega,?_⟩;have:(r+1+1)*(r+1+1)=(r+1)*(r+1)+2*r+3:=by grind
   omega
def rt(n:Nat):Nat:=Classical.choose (M1 n)
def E8(r:Bool×Nat×Nat):Option (Bool×Nat×Nat):=if r.1=true then none else if rt r.2.1*rt r.2.1=r.2.1/\rt r.2.2*rt r.2.2=r.2.2 then some (Xv false (rt r.2.1) (rt r.2.2))else none
section
attribute [-simp] Int.natCast_add Int.natCast_mul Int.natCast_ediv Int.natCast_emod Int.natCast_pow
attribute [local simp] strip Zt YR LR gW ZZ ZO Zk ZN Zv ZM Ze Zf Zb Zw ZT Zs ZI Zi Zx Zc Za ZJ ZK Yo Zn ZS Yd ZC Zu plain Zq Tr.get_set ZA Zd Z5 Zl sameKind undef Zh Zy ZR ZU Zm parts Xd DW ZL Zg LX Zo
section
variable {H : AH} {u v w z : Value}
end
end
def SX(sz:Nat)(H:AH)(v:Value)(XZ:List (List Value)):Prop:=(v= .slice none 0 0/\XZ=[])\/ ∃b,v= .slice (some ⟨b,0,none⟩) XZ.length XZ.length/\b<H.n/\H.blk b= .rw sz XZ.flatten/\ ∀cs∈XZ,cs.length=sz
theorem Sd{sz:Nat} : ∀{XZ:List (List Value)},(∀cs∈XZ,cs.length=sz)->XZ.flatten.length=XZ.length*sz|[],_=>by simp|c::XZ,h=>by rw[List.flatten_cons,List.length_append,Sd (fun x hx=>h x (List.mem_cons_of_mem _ hx)),h c (List.mem_cons_self ..),List.length_cons,Nat.succ_mul];omega
theorem Rp{sz:Nat} : ∀{XZ:List (List Value)}{i:Nat}{cs:List Value},(∀cs∈XZ,cs.length=sz)->XZ[i]?=some cs->(XZ.flatten.drop (i*sz)).take sz=cs|[],i,cs,_,hi=>by simp at hi|c::XZ,0,cs,h,hi=>by simp at hi;subst hi;rw[Nat.zero_mul,List.drop_zero,List.flatten_cons,List.take_append_of_le_length (by rw[h c (List.mem_cons_self ..)];exact Nat.le_refl _),List.take_of_length_le (by rw[h c (List.mem_cons_self ..)];exact Nat.le_refl _)]|c::XZ,i+1,cs,h,hi=>by simp at hi;have hc:c.length=sz:=h c (List.mem_cons_self ..);rw[List.flatten_cons,show(i+1)*sz=c.length+i*sz by rw[Nat.succ_mul,hc];omega,<-List.drop_drop,List.drop_left];exact Rp (fun x hx=>h x (List.mem_cons_of_mem _ hx)) hi
section
variable {sz : Nat} {H H' : AH} {v : Value} {XZ : List (List Value)}
theorem SX.nil:SX sz H (.slice none 0 0) []:= .inl ⟨rfl,rfl⟩
theorem SX.shape(h:SX sz H v XZ): ∃a l c,v= .slice a l c:=by rcases h with⟨rfl,_⟩|⟨b,rfl,_⟩<;>exact⟨_,_,_,rfl⟩
theorem SX.one1(h:SX sz H v XZ):one v=true:=by rcases h with⟨rfl,_⟩|⟨b,rfl,_⟩<;>rfl
theorem SX.blk_lt(h:SX sz H v XZ){b:Nat}(hb:XV v=some b):b<H.n/\H.blk b= .rw sz XZ.flatten:=by
 rcases h with⟨rfl,_⟩|⟨b',rfl,h1,h2,_⟩;·cases hb
 ·cases hb;exact⟨h1,h2⟩
theorem SX.frame(h:SX sz H v XZ)(hn:H.n<=H'.n)(k: ∀b,XV v=some b->H'.blk b=H.blk b):SX sz H' v XZ:=by
 rcases h with h|⟨b,h1,h2,h3,h4⟩;·exact .inl h
 ·exact .inr ⟨b,h1,by omega,by rw[k b (by rw[h1];rfl)];exact h3,h4⟩
theorem SX.keep(h:SX sz H v XZ)(k:ZQ H H'):SX sz H' v XZ:=h.frame k.n fun b hb=>k.blk b (h.blk_lt hb).1
theorem SX.len(h:SX sz H v XZ){t e:TypeId}(ht:Tryz.prog.underlying t=some (.slice e)):RL Tryz.prog t v=some XZ.length:=by unfold RL;rw[ht];rcases h with⟨rfl,rfl⟩|⟨b,rfl,_⟩<;>rfl
theorem SX.at(h:SX sz H v XZ){i:Nat}{cs:List Value}(hi:XZ[i]?=some cs){t e:TypeId}(ht:Tryz.prog.underlying t=some (.slice e))(he:YE Tryz.prog e=some sz)(hz:sz≠0): ∃b,XV v=some b/\YS Tryz.prog t v (.int .i64 (i:Int))=some (.pointer (some ⟨b,i*sz,none⟩))/\b<H.n/\H.blk b= .rw sz XZ.flatten/\cs.length=sz/\(XZ.flatten.drop (i*sz)).take sz=cs:=by
 have Z3:i<XZ.length:=(List.getElem?_eq_some_iff.mp hi).1;rcases h with⟨rfl,rfl⟩|⟨b,rfl,h2,h3,h4⟩;·simp at hi
 ·refine⟨b,rfl,?_,h2,h3,h4 cs (List.mem_of_getElem? hi),Rp h4 hi⟩;unfold YS;simp only[ht,he];rw[if_pos (by omega)];simp
theorem SX.append(h:SX sz H v XZ)(hz:sz≠0){w:Nat}{us:List Value}(hw:H.blk w= .rw sz us)(hu:us.length=sz)(huo:us.all one=true){t e:TypeId}{RE:Nat}(hs:XI Tryz.prog t=some (e,sz,RE))(hby:RE<=1000){z:Value}(DY:Wv Tryz.prog e=some z)(DX:z.cells.size=sz)(hl:XZ.length<1000000000): ∃H',Y9 Tryz.prog H t t v (.slice (some ⟨w,0,none⟩) 1 1)=some (.slice (some ⟨H.n,0,none⟩) (XZ.length+1) (XZ.length+1),H')/\H'.n=H.n+1/\(∀j,j<H.n->XV v≠some j->H'.blk j=H.blk j)/\SX sz H' (.slice (some ⟨H.n,0,none⟩) (XZ.length+1) (XZ.length+1)) (XZ++[us])/\(XV v=none->ZQ H H'/\H'.lw=H.lw)/\(∀b,XV v=some b->LV b H H'/\H'.lw<=b/\b<H.n):=by
 have hc:H.read w 0 sz=some us:=by rw[AH.read_def,AH.cells_rw' hw hz];simp only[Nat.zero_add];rw[Nat.ble_eq.mpr (by omega),cond_true,List.drop_zero,List.take_of_length_le (by omega)]
 have hmul:(XZ.length+1)*RE<=140737488355328:=by have:(XZ.length+1)*RE<=1000000000*1000:=Nat.mul_le_mul (by omega) hby;omega
 have e1:Nat.ble ((XZ.length+1)*RE) 140737488355328=true:=Nat.ble_eq.mpr hmul;have e2:Nat.ble (XZ.length+1) 281474976710656=true:=Nat.ble_eq.mpr (by omega);have e0:Nat.beq z.cells.size sz=true:=by rw[DX];exact Nat.beq_refl _
 rcases h with⟨rfl,rfl⟩|⟨b,rfl,Yy,YC,YZ⟩;·refine⟨H.new sz us,?_,rfl,fun j hj _=>by rw[AH.blk_new,if_neg (by omega)],.inr ⟨H.n,rfl,Nat.lt_succ_self _,by rw[AH.blk_new,if_pos rfl];simp,fun cs UE=>by simp at UE;rw[UE];exact hu⟩,fun _=>⟨ZQ.new H sz us,rfl⟩,fun b hb=>by cases hb⟩;unfold Y9;simp only[List.length_nil,Nat.zero_add]at e1 e2⊢;simp only[hs,DY,YB,Nat.one_mul,hc,e1,e2,e0];rfl
 ·have eH:(H.kill b).n=H.n:=rfl;have Dw:=Sd YZ;have e3:Nat.ble (0+XZ.length*sz) XZ.flatten.length=true:=Nat.ble_eq.mpr (by omega);have E0: ∀j,j<H.n->j≠b->((H.kill b).new sz (XZ.flatten++us)).blk j=H.blk j:=fun j hj Gg=>by rw[AH.blk_new,if_neg (by rw[eH];omega),AH.blk_kill,if_neg Gg]
  refine⟨(H.kill b).new sz (XZ.flatten++us),?_,rfl,fun j hj Gg=>E0 j hj (fun e=>Gg (by rw[e];rfl)),.inr ⟨H.n,by simp,Nat.lt_succ_self _,by rw[AH.blk_new,if_pos eH.symm];simp,fun cs UE=>?_⟩,(fun h=>by cases h),(fun b' Xi=>by cases Xi;exact⟨Im (Nat.le_refl _),Nat.min_le_right _ _,Yy⟩)⟩;·unfold Y9;simp only[hs,DY,YB,Nat.one_mul,hc,YC,e1,e2,e3,e0,huo,Nat.beq_refl,Bool.and_true,cond_true];rw[show Nat.beq 1 0=false from rfl,cond_false];rw[List.drop_zero,List.take_of_length_le (by omega)]
  ·rcases List.mem_append.mp UE with h|h;·exact YZ cs h
   ·simp at h;rw[h];exact hu
end
inductive FD where|opn|und|rat(s:Bool)(A B:Nat)
def FD.mk(r:Bool×Nat×Nat):FD:= .rat r.1 r.2.1 r.2.2
def FD.isUnd:FD->Bool| .und=>true|_=>false
def FD.w:FD->Nat| .rat _ A B=>max (Z6 A) (Z6 B)+1|_=>1
def FD.ok:FD->Prop| .rat s A B=>Pk s A B|_=>True
def EA(op:Int)(s:Bool)(A B:Nat):FD:=if op=2 then .rat (sg (!s) A) A B else if op=7 then .rat false A B else if op=10 then(if VB s A= -1 then .und else match E8 (s,A,B)with|some R=> .mk R|none=> .opn)else if op=12 then(if VB s A= -1\/VB s A=0 then .und else if PY s A B false 1 1=0 then .rat false 0 1 else .opn)else if op=11\/op=14 then(if A=0 then .rat false 1 1 else .opn)else if op=13\/op=15 then(if A=0 then .rat false 0 1 else .opn)else .opn
def Dd(op:Int)(s:Bool)(A B:Nat)(t:Bool)(C D:Nat):FD:=if op=3 then .mk (FX s A B t C D)else if op=4 then .mk (FX s A B (sg (!t) C) C D)else if op=5 then .mk (Xv (s !=t) (A*C) (B*D))else if op=6 then(if C=0 then .und else .mk (Xv (s !=t) (A*D) (B*C)))else if op=8 then(if 0<PY s A B t C D then .rat t C D else .rat s A B)else if op=9 then(if PY s A B t C D<0 then .rat t C D else .rat s A B)else .opn
def FD.isZero:FD->Bool| .rat _ C _=>decide (C=0)|_=>false
def HT(op:Int)(neg:Bool)(N D:Nat)(fs:List FD):FD:=if op=0 then .mk (Xv neg N D)else match fs with|[.rat s A B]=>EA op s A B|[.rat s A B,.rat t C D]=>Dd op s A B t C D|[_,g]=>if op=6/\g.isZero=true then .und else .opn|_=> .opn
theorem Pk.abs{s:Bool}{A B:Nat}(h:Pk s A B):Pk false A B:=by
 by_cases hA:A=0;·have:=h.zero hA;rw[hA,this.2];exact P5
 ·exact Nw hA h.2 h.cop
section
variable {H : AH} {u v w z : Value}
end
def N2(H:AH)(vs:List Value):FD->Prop| .opn=>vs=[.int .i64 0,.bool false,.slice none 0 0,.slice none 0 0]| .und=>vs=[.int .i64 2,.bool false,.slice none 0 0,.slice none 0 0]| .rat s A B=> ∃p q,vs=[.int .i64 1,.bool s,p,q]/\Sl H p (ds ZB A)/\Sl H q (ds ZB B)/\Pk s A B
def Vt(H:AH):List (List Value)->List FD->Prop|[],[]=>True|c::cs,f::fs=>N2 H c f/\Vt H cs fs|_,_=>False
section
variable {H H' : AH} {vs : List Value} {f : FD}
def FD.kind:FD->Int| .opn=>0| .und=>2| .rat _ _ _=>1
theorem N2.fr(h:N2 H vs f)(k:Fr H H'):N2 H' vs f:=by cases f with|opn=>exact h|und=>exact h|rat s A B=>obtain⟨p,q,e,h1,h2,h3⟩:=h;exact⟨p,q,e,h1.fr k,h2.fr k,h3⟩
theorem N2.trio(h:N2 H vs f): ∃p q r,vs=[.int .i64 f.kind,p,q,r]/\LD p q r:=by cases f with|opn=>exact⟨_,_,_,h,⟨_,rfl⟩,⟨_,_,_,rfl⟩,⟨_,_,_,rfl⟩⟩|und=>exact⟨_,_,_,h,⟨_,rfl⟩,⟨_,_,_,rfl⟩,⟨_,_,_,rfl⟩⟩|rat s A B=>obtain⟨p,q,e,h1,h2,h3⟩:=h;exact⟨_,p,q,e,⟨_,rfl⟩,h1.shape,h2.shape⟩
theorem N2.len(h:N2 H vs f):vs.length=4:=by obtain⟨p,q,r,rfl,_⟩:=h.trio;rfl
theorem N2.noU(h:N2 H vs f):noU vs=true:=by obtain⟨p,q,r,rfl,⟨s,rfl⟩,⟨a,l,c,rfl⟩,⟨a',l',c',rfl⟩⟩:=h.trio;rfl
theorem Vt.fr(k:Fr H H'): ∀{XZ:List (List Value)}{fs:List FD},Vt H XZ fs->Vt H' XZ fs|[],[],_=>trivial|c::cs,f::fs,h=>⟨N2.fr h.1 k,Vt.fr k h.2⟩|[],_::_,h=>h.elim|_::_,[],h=>h.elim
theorem Vt.append(h2:N2 H vs f): ∀{XZ:List (List Value)}{fs:List FD},Vt H XZ fs->Vt H (XZ++[vs]) (fs++[f])|[],[],_=>⟨h2,trivial⟩|c::cs,g::fs,h=>⟨h.1,Vt.append h2 h.2⟩|[],_::_,h=>h.elim|_::_,[],h=>h.elim
theorem Vt.len: ∀{XZ:List (List Value)}{fs:List FD},Vt H XZ fs->XZ.length=fs.length|[],[],_=>rfl|c::cs,f::fs,h=>by rw[List.length_cons,List.length_cons,Vt.len h.2]|[],_::_,h=>h.elim|_::_,[],h=>h.elim
theorem Vt.at: ∀{XZ:List (List Value)}{fs:List FD}{i:Nat}{f:FD},Vt H XZ fs->fs[i]?=some f-> ∃vs,XZ[i]?=some vs/\N2 H vs f|[],[],i,f,_,hi=>by simp at hi|c::cs,g::fs,0,f,h,hi=>by simp at hi;subst hi;exact⟨c,rfl,h.1⟩|c::cs,g::fs,i+1,f,h,hi=>by simp at hi;obtain⟨vs,h1,h2⟩:=Vt.at h.2 hi;exact⟨vs,by simpa using h1,h2⟩|[],_::_,i,f,h,_=>h.elim|_::_,[],i,f,h,_=>h.elim
end
theorem SX.pair{sz:Nat}{H:AH}{av:Value}{c d:List Value}(h:SX sz H av [c,d]): ∃b,av= .slice (some ⟨b,0,none⟩) 2 2/\b<H.n/\H.blk b= .rw sz (c++d):=by
 rcases h with⟨_,h⟩|⟨b,h1,h2,h3,_⟩;·cases h
 ·exact⟨b,h1,h2,by rw[h3];simp⟩
section
attribute [-simp] Int.natCast_add Int.natCast_mul Int.natCast_ediv Int.natCast_emod Int.natCast_pow
attribute [local simp] strip Zt YR LR gW ZZ ZO Zk ZN Zv ZM Ze Zf Zb Zw ZT Zs ZI Zi Zx Zc Za ZJ ZK Yo Zn ZS Yd ZC Zu plain Zq Tr.get_set ZA Zd Z5 Zl sameKind undef Zh Zy ZR ZU Zm parts Xd DW ZL Zg LX Zo
attribute [local simp] Z4 Yn
section
variable {H : AH} {fw av : Value}
end
section
variable {H : AH} {fw av : Value}
end
end
theorem Vt.get{H:AH} : ∀{XZ:List (List Value)}{fs:List FD}{i:Nat}{c:List Value},Vt H XZ fs->XZ[i]?=some c-> ∃f,fs[i]?=some f/\N2 H c f|[],[],i,f,_,hi=>by simp at hi|c::cs,g::fs,0,f,h,hi=>by simp at hi;subst hi;exact⟨g,rfl,h.1⟩|c::cs,g::fs,i+1,f,h,hi=>by simp at hi;obtain⟨vs,h1,h2⟩:=Vt.get h.2 hi;exact⟨vs,by simpa using h1,h2⟩|[],_::_,i,f,h,_=>h.elim|_::_,[],i,f,h,_=>h.elim
section
attribute [-simp] Int.natCast_add Int.natCast_mul Int.natCast_ediv Int.natCast_emod Int.natCast_pow
attribute [local simp] strip Zt YR LR gW ZZ ZO Zk ZN Zv ZM Ze Zf Zb Zw ZT Zs ZI Zi Zx Zc Za ZJ ZK Yo Zn ZS Yd ZC Zu plain Zq Tr.get_set ZA Zd Z5 Zl sameKind undef Zh Zy ZR ZU Zm parts Xd DW ZL Zg LX Zo
attribute [local simp] Z4 Yn XW
section
variable {H : AH} {fw av : Value}
end
end
mutual def ET.fold:ET->FD| .node op neg abs den args=>if(Te args).any FD.isUnd=true then .und else HT op neg (dv ZB abs) (dv ZB den) (Te args) def Te:List ET->List FD|[]=>[]|t::ts=>t.fold::Te ts end
mutual def ET.parts:ET->List FD| .node op neg abs den args=>Oc args++[if(Te args).any FD.isUnd=true then .und else HT op neg (dv ZB abs) (dv ZB den) (Te args)] def Oc:List ET->List FD|[]=>[]|t::ts=>t.parts++Oc ts end
mutual def ET.wt:ET->Nat| .node op neg abs den args=>(if op=0 then max (64*abs.length) (64*den.length)else 0)+1+HR args def HR:List ET->Nat|[]=>0|t::ts=>t.wt+HR ts end
section
variable {H : AH}
end
def MU(H:AH)(bw m:Nat)(keep:Bool)(L:List FD)(tv:Value):Prop:=H.blk bw= .rw 1 [.map (some m),tv,.bool keep]/\bw<H.n/\ ∃XZ,SX 4 H tv XZ/\Vt H XZ L
theorem MU.keep{H H':AH}{bw m:Nat}{keep:Bool}{L:List FD}{tv:Value}(h:MU H bw m keep L tv)(k:ZQ H H'):MU H' bw m keep L tv:=by obtain⟨h1,h2,XZ,h3,h4⟩:=h;exact⟨(k.blk _ h2).trans h1,Nat.lt_of_lt_of_le h2 k.n,XZ,h3.keep k,h4.fr k.fr⟩
theorem MU.off{H H':AH}{bw m b:Nat}{keep:Bool}{L:List FD}{tv:Value}(h:MU H bw m keep L tv)(hb:b≠bw)(ht:XV tv≠some b)(hn:H'.n=H.n)(ho: ∀j,j≠b->H'.blk j=H.blk j)(fr:Fr H H'):MU H' bw m keep L tv:=by obtain⟨h1,h2,XZ,h3,h4⟩:=h;exact⟨(ho _ (Ne.symm hb)).trans h1,by omega,XZ,h3.frame (by omega) (fun c hc=>ho c (fun e=>ht (by rw[hc,e]))),h4.fr fr⟩
section
variable {P : Program} {C : Cfg}
end
section
attribute [-simp] Int.natCast_add Int.natCast_mul Int.natCast_ediv Int.natCast_emod Int.natCast_pow
attribute [local simp] strip Zt YR LR gW ZZ ZO Zk ZN Zv ZM Ze Zf Zb Zw ZT Zs ZI Zi Zx Zc Za ZJ ZK Yo Zn ZS Yd ZC Zu plain Zq Tr.get_set ZA Zd Z5 Zl sameKind undef Zh Zy ZR ZU Zm parts Xd DW ZL Zg LX Zo
attribute [local simp] Z4 Yn XW GC WH Wi
section
end
end
structure OQ (H : AH) (vs : List Value) (t : ET) : Prop where
  tin : Qw H vs t
  good : t.allGood = true
  wt : t.wt <= 67108864
theorem OQ.keep{H H':AH}{vs:List Value}{t:ET}(h:OQ H vs t)(k:ZQ H H'):OQ H' vs t:=⟨h.tin.keep k,h.good,h.wt⟩
section
attribute [-simp] Int.natCast_add Int.natCast_mul Int.natCast_ediv Int.natCast_emod Int.natCast_pow
attribute [local simp] strip Zt YR LR gW ZZ ZO Zk ZN Zv ZM Ze Zf Zb Zw ZT Zs ZI Zi Zx Zc Za ZJ ZK Yo Zn ZS Yd ZC Zu plain Zq Tr.get_set ZA Zd Z5 Zl sameKind undef Zh Zy ZR ZU Zm parts Xd DW ZL Zg LX Zo
attribute [local simp] Z4 Yn XW GC WH Wi Tq
section
variable {H : AH} {vs : List Value} {t : ET}
end
end
def Qv(H:AH)(vs:List Value):FD->Prop| .opn=>vs=[.int .i64 0,.bool false,.slice none 0 0,.slice none 0 0]| .und=>vs=[.int .i64 2,.bool false,.slice none 0 0,.slice none 0 0]| .rat s A B=> ∃p q,vs=[.int .i64 1,.bool s,p,q]/\Sl H p (ds ZV A)/\Sl H q (ds ZV B)
theorem Qv.trio{H:AH}{vs:List Value}{f:FD}(h:Qv H vs f): ∃p q r,vs=[.int .i64 f.kind,p,q,r]/\LD p q r:=by cases f with|opn=>exact⟨_,_,_,h,⟨_,rfl⟩,⟨_,_,_,rfl⟩,⟨_,_,_,rfl⟩⟩|und=>exact⟨_,_,_,h,⟨_,rfl⟩,⟨_,_,_,rfl⟩,⟨_,_,_,rfl⟩⟩|rat s A B=>obtain⟨p,q,e,h1,h2⟩:=h;exact⟨_,p,q,e,⟨_,rfl⟩,h1.shape,h2.shape⟩
theorem Qv.len{H:AH}{vs:List Value}{f:FD}(h:Qv H vs f):vs.length=4:=by obtain⟨p,q,r,rfl,_⟩:=h.trio;rfl
theorem Qv.noU{H:AH}{vs:List Value}{f:FD}(h:Qv H vs f):noU vs=true:=by obtain⟨p,q,r,rfl,⟨s,rfl⟩,⟨a,l,c,rfl⟩,⟨a',l',c',rfl⟩⟩:=h.trio;rfl
theorem Qv.fr{H H':AH}{vs:List Value}{f:FD}(h:Qv H vs f)(k:Fr H H'):Qv H' vs f:=by cases f with|opn=>exact h|und=>exact h|rat s A B=>obtain⟨p,q,e,h1,h2⟩:=h;exact⟨p,q,e,h1.fr k,h2.fr k⟩
theorem Fq{A:Nat}(h:Z6 A<=67108864):(ds ZV A).length<=Su:=by have h1:A<2^Z6 A:=UA A;have h2:2^Z6 A<=ZV^(Z6 A):=Nat.pow_le_pow_left (by decide) _;have:=YJ two32 (Nat.lt_of_lt_of_le h1 h2);show(ds ZV A).length<=2000000000000;omega
section
attribute [-simp] Int.natCast_add Int.natCast_mul Int.natCast_ediv Int.natCast_emod Int.natCast_pow
attribute [local simp] strip Zt YR LR gW ZZ ZO Zk ZN Zv ZM Ze Zf Zb Zw ZT Zs ZI Zi Zx Zc Za ZJ ZK Yo Zn ZS Yd ZC Zu plain Zq Tr.get_set ZA Zd Z5 Zl sameKind undef Zh Zy ZR ZU Zm parts Xd DW ZL Zg LX Zo
attribute [local simp] Z4 Yn XW
section
variable {H : AH} {u v w z : Value}
theorem Ih{A:Nat}(h:Sl H v (ds ZV A))(hw:Sl H w (ds ZB A))(lA:Z6 A<=67108864): ∃H',ZF Tryz.prog Yg 16 [v,w] H=some (.bool true,H')/\ZQ H H':=by obtain⟨x,H',hc,k,e⟩:=Ii h hw (Xo two32 A) (Nat.le_trans (Fq lA) (by decide));rw[Jh,decide_eq_true rfl]at e;subst e;exact⟨H',hc,k⟩
end
end
theorem Xs.one{H:AH}{vs:List Value}{t:ET}(h:Ex H vs t): ∃H',H'=H.new 5 vs/\ZQ H H'/\Xs H' (.slice (some ⟨H.n,0,none⟩) 1 1) [t]:=by refine⟨_,rfl,ZQ.new _ _ _,?_⟩;have hk:=h.keep (ZQ.new H 5 vs);have hl:=h.len;refine .mk H.n 0 1 (cs:=vs) (args:=[t]) (Nat.lt_succ_self _) (Qf H 5 vs) (Nat.le_refl _) fun i t' hi=>?_;match i,hi with|0,hi=>simp at hi;subst hi;rw[Nat.zero_mul,Nat.add_zero,List.drop_zero,List.take_of_length_le (by omega)];exact hk
theorem Xs.two{H:AH}{vs ws:List Value}{t s:ET}(h:Ex H vs t)(h':Ex H ws s): ∃H',H'=H.new 5 (vs++ws)/\ZQ H H'/\Xs H' (.slice (some ⟨H.n,0,none⟩) 2 2) [t,s]:=by refine⟨_,rfl,ZQ.new _ _ _,?_⟩;have hk:=h.keep (ZQ.new H 5 (vs++ws));have LN:=h'.keep (ZQ.new H 5 (vs++ws));have hl:=h.len;have RM:=h'.len;refine .mk H.n 0 2 (cs:=vs++ws) (args:=[t,s]) (Nat.lt_succ_self _) (Qf H 5 _) (Nat.le_refl _) fun i t' hi=>?_;match i,hi with|0,hi=>simp at hi;subst hi;rw[Nat.zero_mul,Nat.add_zero,List.drop_zero,List.take_append_of_le_length (by omega),List.take_of_length_le (by omega)];exact hk|1,hi=>simp at hi;subst hi;rw[show 0+1*5=vs.length by omega,List.drop_left,List.take_of_length_le (by omega)];exact LN
theorem Xs.shape{H:AH}{v:Value}{l:List ET}(h:Xs H v l): ∃s a c,v= .slice s a c:=by cases h<;>exact⟨_,_,_,rfl⟩
theorem Ex.args{H:AH}{v:Value}{l:List ET}{op:Int}(h:Xs H v l):Ex H [.int .i64 op,.bool false,.slice none 0 0,.slice none 0 0,v] (.node op false [] [] l):= .mk .nil .nil h
section
attribute [-simp] Int.natCast_add Int.natCast_mul Int.natCast_ediv Int.natCast_emod Int.natCast_pow
attribute [local simp] strip Zt YR LR gW ZZ ZO Zk ZN Zv ZM Ze Zf Zb Zw ZT Zs ZI Zi Zx Zc Za ZJ ZK Yo Zn ZS Yd ZC Zu plain Zq Tr.get_set ZA Zd Z5 Zl sameKind undef Zh Zy ZR ZU Zm parts Xd DW ZL Zg LX Zo
attribute [local simp] Z4 Yn XW
section
variable {H : AH} {u v w z : Value}
end
section
variable {H : AH} {u v w z : Value}
end
end
theorem EK(A:Nat):(ds ZV A).length<=Z6 A:=by have h1:A<2^Z6 A:=UA A;have h2:2^Z6 A<=ZV^(Z6 A):=Nat.pow_le_pow_left (by decide) _;exact YJ two32 (Nat.lt_of_lt_of_le h1 h2)
theorem Hy{A:Nat}(h:Z6 A<=1000000000):(ds ZV A).length<=Su:=by have:=EK A;show(ds ZV A).length<=2000000000000;omega
section
attribute [-simp] Int.natCast_add Int.natCast_mul Int.natCast_ediv Int.natCast_emod Int.natCast_pow
attribute [local simp] strip Zt YR LR gW ZZ ZO Zk ZN Zv ZM Ze Zf Zb Zw ZT Zs ZI Zi Zx Zc Za ZJ ZK Yo Zn ZS Yd ZC Zu plain Zq Tr.get_set ZA Zd Z5 Zl sameKind undef Zh Zy ZR ZU Zm parts Xd DW ZL Zg LX Zo
section
variable {H : AH} {u v w z : Value}
theorem Nx{N D:Nat}(neg:Bool)(hn:Sl H u (ds ZV N))(hd:Sl H v (ds ZV D))(lN:Z6 N<=1000000000)(lD:Z6 D<=1000000000)(h0:0<D): ∃p q H',ZF Tryz.prog Yg 60 [.bool neg,u,v] H=some (.agg #[.bool (Xv neg N D).1,p,q],H')/\ZQ H H'/\Yl H.n H' p (ds ZV (Xv neg N D).2.1)/\Yl H.n H' q (ds ZV (Xv neg N D).2.2):=by obtain⟨us,H',hc,k,a,b,rfl,o1,o2⟩:=Lk neg hn hd (Nat.le_trans (Hy lN) (by decide)) (Nat.le_trans (Hy lD) (by decide)) h0;exact⟨a,b,H',hc,k,o1,o2⟩
end
end
end
end Go.Proofs.YtjboehpfojpimaaGreatDoor
namespace Go.Proofs.YtjboehpfojpimaaGreatDoor.Ev
open Go Go.RowKit
set_option linter.unusedVariables false
set_option linter.unusedSimpArgs false
noncomputable section
set_option maxHeartbeats 2000000
set_option maxRecDepth 20000
def SD(P:Program)(C:Cfg)(Sj:FuncId->List Value->AH->Option (Value×AH))(ih:Lv)(f:FuncId)(args:List Value)(H:AH):Option (Value×AH):=match Sj f args H with|some r=>some r|none=>Z7 P C ih f args H
def SV(P:Program)(C:Cfg)(Sj:FuncId->List Value->AH->Option (Value×AH))(ih:Lv)(c:Code)(s:St):Option (Ex×St):=match c with
 | .skip=>some (.norm,s)
 | .region _ ops draw=>match Z0 P C (SD P C Sj ih) ops draw s with|some s'=>some (.norm,s')|none=>cond draw none (WN P C (SD P C Sj ih) (Yu P C ih) ops ops.toList s)
 | .seq a b=>match ih.code a s with|some (.norm,s')=>ih.code b s'|r=>r
 | .cond x a b=>match Yd C s.tm x with|some (.bool t)=>ih.code (cond t a b) s|_=>none
 | .block id body=>match ih.code body s with|some (.exit j,s')=>cond (Nat.beq j id) (some (.norm,s')) (some (.exit j,s'))|r=>r
 | .loop body=>match ih.code body s with|some (.norm,s')=>ih.code (.loop body) s'|r=>r
 | .exit id=>some (.exit id,s)
 | .ret=>some (.ret,s)
 |_=>none
def Hz(P:Program)(C:Cfg)(Sj:FuncId->List Value->AH->Option (Value×AH))(n:Nat):Lv:=Nat.rec ⟨fun _ _=>none,fun _ _ _=>none⟩ (fun _ ih=>⟨SV P C Sj ih,SD P C Sj ih⟩) n
theorem K8(P:Program)(C:Cfg)(Sj:FuncId->List Value->AH->Option (Value×AH))(n:Nat):Hz P C Sj (n+1)=⟨SV P C Sj (Hz P C Sj n),SD P C Sj (Hz P C Sj n)⟩:=rfl
section
variable {P : Program} {C : Cfg} {Sj : FuncId -> List Value -> AH -> Option (Value × AH)}
theorem SC(ho:UR Sj (ZF P C)){ih:Lv}(h:LLe ih (VC P C)):UR (SD P C Sj ih) (Z7 P C (VC P C)):=by
 intro x a H r he;unfold SD at he;split at he;·rename_i r' hr;obtain rfl:=Option.some.inj he;rw[<-XS];exact ho _ _ _ _ hr
 ·exact XY h _ _ _ _ he
theorem TL(ho:UR Sj (ZF P C)){ih:Lv}(h:LLe ih (VC P C)){ops:Array Oper} : ∀(l:List Oper)(s:St)(r:Ex×St),WN P C (SD P C Sj ih) (Yu P C ih) ops l s=some r->WN P C (Z7 P C (VC P C)) (Yu P C (VC P C)) ops l s=some r
 |[],s,r,he=>by cases he
 |o::rest,s,r,he=>by
  simp only[WN]at he⊢;split at he<;>first|(cases he;done)|skip
  ·rename_i hw;split at he;·rename_i v1 H1 hp;rw[Ob h hp];exact he
   ·rename_i hp;split at he<;>first|(cases he;done)|skip
    rename_i v1 H1 Yj;split at he<;>first|(cases he;done)|skip
    rename_i s1 ZG;have QI:=YF (SC ho h) Yj;rw[UI (u:=VC P C) (v:=VC P C) ⟨fun _ _ _ h=>h,fun _ _ _ _ h=>h⟩ QI];simp only[QI,ZG];exact TL ho h rest s1 r he
  ·rename_i hw;split at he<;>first|(cases he;done)|skip
   rename_i s1 ZG;try simp only[ZG]
   exact TL ho h rest s1 r he
theorem Js(ho:UR Sj (ZF P C)){ih:Lv}(h:LLe ih (VC P C)):Di (SV P C Sj ih) (O0 P C):=by
 intro c s r he;rw[X6];cases c<;>simp only[SV]at he<;>simp only[YT]<;>first|exact he|skip
 ·rename_i id ops draw;split at he;·rename_i s1 hr;rw[Wl (SC ho h) hr];exact he
  ·cases draw with|true=>cases he|false=>rw[cond_false]at he;have h1:=TL ho h _ _ _ he;have h2:=(V3 (u:=VC P C) (v:=VC P C) ⟨fun _ _ _ h=>h,fun _ _ _ _ h=>h⟩ _ _ _ h1).2;rw[UN,h2];exact h1
 ·split at he;·rename_i s1 hr;rw[h.code _ _ _ hr];exact h.code _ _ _ he
  ·rename_i hn;rw[h.code _ _ _ he];split;·rename_i s1 e;exact absurd (he.trans e) (by intro e';exact hn s1 e')
   ·rfl
 ·split at he<;>first|(cases he;done)|skip
  rename_i hx;rw[hx];exact h.code _ _ _ he
 ·split at he;·rename_i j s1 hr;rw[h.code _ _ _ hr];exact he
  ·rename_i hn;rw[h.code _ _ _ he];split;·rename_i j s1 e;exact absurd (he.trans e) (by intro e';exact hn j s1 e')
   ·rfl
 ·split at he;·rename_i s1 hr;rw[h.code _ _ _ hr];exact h.code _ _ _ he
  ·rename_i hn;rw[h.code _ _ _ he];split;·rename_i s1 e;exact absurd (he.trans e) (by intro e';exact hn s1 e')
   ·rfl
theorem K7(ho:UR Sj (ZF P C)): ∀n,LLe (Hz P C Sj n) (VC P C)|0=>⟨(fun c s r h=>by cases h),(fun x a H r h=>by cases h)⟩|n+1=>by have ih:=K7 ho n;rw[K8];exact⟨Js ho ih,fun x a H r h=>by show ZF P C x a H=_;rw[XS];exact SC ho ih _ _ _ _ h⟩
end
end
end Go.Proofs.YtjboehpfojpimaaGreatDoor.Ev
namespace Go.Proofs.YtjboehpfojpimaaGreatDoor
open Go Ev
set_option linter.unusedVariables false
set_option linter.unusedSimpArgs false
noncomputable section
set_option maxHeartbeats 2000000
set_option maxRecDepth 20000
def WS:Value->Nat->Value| .slice a _ cap,n=> .slice a n cap|v,_=>v
theorem Sl.cutX{H:AH}{v:Value}{xs:List Nat}(h:Sl H v xs){t:TypeId}(ht:LT t){m:Nat}(hm:m<=xs.length)(h0:0<xs.length):Wa Tryz.prog H t v none (some (.int .i64 (m:Int))) none=some (WS v m)/\Sl H (WS v m) (xs.take m):=by cases h with
 |nil=>cases h0
 |emp b=>cases h0
 |mk b o cap xs h1 h2=>
  have hl:(xs.take m).length=m:=by rw[List.length_take];omega
  obtain⟨FE,cs,h3,h4,h5⟩:=h2;have hk:Sl H (.slice (some ⟨b,o,none⟩) (xs.take m).length cap) (xs.take m):= .mk b o cap _ (by omega) ⟨FE,cs,h3,h4,fun i x hx=>h5.1 i x (by
   rw[List.getElem?_take]at hx;split at hx;·exact hx
   ·cases hx),h5.2⟩;rw[hl]at hk;refine⟨?_,hk⟩;unfold Wa;simp only[ht.1,RH];unfold OH Yt;simp only[h4,Option.isSome_some,Option.isNone_none,Bool.true_or];rw[if_pos (by omega)];have e1:Nat.ble m cap=true:=Nat.ble_eq.mpr (by omega);simp[Yt,e1,WS]
theorem OI{H:AH}{v:Value}{xs:List Nat}(h:Sl H v xs):WS v xs.length=v:=by cases h<;>rfl
theorem PW(v:Value)(n m:Nat):WS (WS v n) m=WS v m:=by cases v<;>rfl
section
attribute [local simp] strip Zt YR gW ZZ ZO Zk ZN Zv ZM Ze Zf Zb Zw ZT Zs Zx Zc ZS Yd ZC Zu plain Zq Tr.get_set ZA Zd Z5 Zl sameKind Zj undef Zh Zy ZR ZU ZD Yq
theorem NH{v:Value}{xs:List Nat}{H:AH}(hs:Sl H v xs)(hlen:xs.length<1152921504606846976):CW Tryz.prog Yg 81 [v] H fun v' H'=>H'=H/\v'=WS v (ZP xs).length:=by
 refine Vb 21 (by decide) (by decide) Tryz.func81 rfl rfl ?_;apply Zz;intro b1 ZH;apply Zr;simp;subst ZH;apply Zz;intro b1 ZH;apply Z1;refine Qx (fun n s=>s.k=21/\s.H=H/\ ∃v',s.tm.get 0=some v'/\n<=xs.length/\v'=WS v n/\Sl H v' (xs.take n)/\ZP (xs.take n)=ZP xs) ?_ xs.length _ ⟨rfl,rfl,v,by simp,Nat.le_refl _,(OI hs).symm,by rw[List.take_length];exact hs,by rw[List.take_length]⟩;rintro n ⟨k,tm,H'⟩ ⟨h2,h3,v',h4,h5,Ge,h6,h7⟩;simp only at h2 h3 h4;subst h2;subst h3;have hl:(xs.take n).length=n:=by rw[List.length_take];omega
 have Ti:=h6.len ZU;rw[hl]at Ti;apply Zz;intro b2 Yy;apply Zz;intro b3 YC;apply Zr;by_cases hz:n=0;·subst hz;simp[h4,Ti];subst YC;refine Zp (t:=false) (by simp) ?_;apply YM;left;refine⟨rfl,?_⟩;subst ZH;apply Zz;intro b4 YZ;apply Zr;simp[h4];subst YZ;apply Z8;simp;rw[<-h7,Ge];rfl
 ·have hn:0<n:=Nat.pos_of_ne_zero hz;have hw:IntKind.i64.wrap ((n:Int)-1)=((n-1:Nat):Int):=T1 hn (by omega);have hi:n-1<(xs.take n).length:=by omega
  have ha:=h6.adr ZU (k:= .i64) hi;have Rg:=h6.load hi;simp[h4,Ti,hn,hw,ha,Rg];subst YC;have hx:n-1<xs.length:=by omega
  have Sa:xs.take n=xs.take (n-1)++[xs[n-1]]:=by have:=List.take_append_getElem (l:=xs) (i:=n-1) hx;rw[this,show n-1+1=n by omega]
  by_cases h0:xs[n-1]=0
  ·refine Zp (t:=true) (by simp[h0]) ?_;apply ZE;subst Yy;apply Z1;apply Zr;obtain⟨Bk,Pg⟩:=h6.cutX ZU (m:=n-1) (by omega) (by omega);simp[h4,Ti,hw,Bk];refine⟨n-1,by omega,rfl,rfl,WS v' (n-1),by simp,by omega,?_,?_,?_⟩;·rw[Ge,PW]
   ·rw[List.take_take,show min (n-1) n=n-1 by omega]at Pg;exact Pg
   ·rw[<-h7,Sa,h0,Wp]
  ·refine Zp (t:=false) (by simp;exact h0) ?_;apply YM;left;refine⟨rfl,?_⟩;subst ZH;apply Zz;intro b4 YZ;apply Zr;simp[h4];subst YZ;apply Z8;simp;rw[<-h7,Ge];have:ZP (xs.take n)=xs.take n:=by rw[Sa];exact VI _ _ h0
   rw[this,hl]
end
def Ms:List Value->Option (List Nat)
 |[]=>some []
 | .int .u64 (.ofNat n)::r=>cond (Nat.blt n 18446744073709551616) (match Ms r with|some l=>some (n::l)|none=>none) none
 |_=>none
def X8(H:AH)(v:Value):Option (List Nat):=match v with
 | .slice none 0 0=>some []
 | .slice (some ⟨b,o,none⟩) len cap=>cond (Nat.blt b H.n&&Nat.ble len cap&&Nat.ble len 1000000000) (match H.size b,H.read b o len with|some 1,some l=>Ms l|_,_=>none) none
 |_=>none
theorem Rs: ∀(l:List Value)(xs:List Nat),Ms l=some xs->xs.length=l.length/\Y7 ZB xs/\ ∀(i x:Nat),xs[i]?=some x->l[i]?=some (.int .u64 (x:Int))
 |[],xs,h=>by obtain rfl:=Option.some.inj h;exact⟨rfl,.nil _,fun i x hx=>by simp at hx⟩
 |v::r,xs,h=>by
  unfold Ms at h;split at h<;>first|(rename_i e;cases e;done)|skip
  ·rename_i n r' e;injection e with e1 e2;subst e1;subst e2;cases hb:Nat.blt n 18446744073709551616 with
   |false=>rw[hb]at h;cases h
   |true=>
    rw[hb,cond_true]at h;split at h<;>first|(cases h;done)|skip
    rename_i l hl;obtain rfl:=Option.some.inj h;obtain⟨h1,h2,h3⟩:=Rs _ _ hl;refine⟨by simp[h1],.cons (by rw[Nat.blt_eq]at hb;exact hb) h2,fun i x hx=>?_⟩;cases i with|zero=>simp at hx;subst hx;rfl|succ i=>simp at hx⊢;exact h3 i x hx
  ·cases h
theorem YQ{H:AH}{v:Value}{xs:List Nat}(h:X8 H v=some xs):Sl H v xs/\Y7 ZB xs/\xs.length<=1000000000:=by
 unfold X8 at h;split at h<;>first|(cases h;done)|skip
 ·obtain rfl:=Option.some.inj h;exact⟨.nil,.nil _,by simp⟩
 ·rename_i b o len cap;cases hc:(Nat.blt b H.n&&Nat.ble len cap&&Nat.ble len 1000000000)with
  |false=>rw[hc]at h;cases h
  |true=>
   rw[hc,cond_true]at h;rw[Bool.and_eq_true,Bool.and_eq_true,Nat.blt_eq]at hc;have h1:=Nat.le_of_ble_eq_true hc.1.2;have h2:=Nat.le_of_ble_eq_true hc.2;split at h<;>first|(cases h;done)|skip
   rename_i l Yz Gt;obtain⟨e1,e2,e3⟩:=Rs _ _ h;rw[AH.read_def]at Gt;split at Gt<;>first|(cases Gt;done)|skip
   rename_i cs UE;cases hb:Nat.ble (o+len) cs.length with
    |false=>rw[hb]at Gt;cases Gt
    |true=>
     rw[hb,cond_true]at Gt;obtain rfl:=Option.some.inj Gt;have hle:=Nat.le_of_ble_eq_true hb;have hl:xs.length=len:=by rw[e1,List.length_take,List.length_drop];omega
     refine⟨?_,e2,by omega⟩;subst hl;refine .mk b o cap xs h1 ⟨hc.1.1,cs,UE,Yz,fun i x hx=>?_,by omega⟩;have:=e3 i x hx;rw[List.getElem?_take]at this;split at this;·rw[List.getElem?_drop]at this;exact this
     ·cases this
def HS(H:AH):List Value->Option (Value×AH)
 |[v]=>match X8 H v with|some xs=>some (WS v (ZP xs).length,H)|none=>none
 |_=>none
def Mo(H:AH):List Value->Option (Value×AH)
 |[v]=>match X8 H v with|some xs=>some (.int .i64 (.ofNat (Z6 (dv ZB xs))),H)|none=>none
 |_=>none
def PX(H:AH):List Value->Option (Value×AH)
 |[v,u]=>match X8 H v,X8 H u with|some xs,some ys=>some (.int .i64 (WB (dv ZB xs) (dv ZB ys)),H)|_,_=>none
 |_=>none
def KB(H:AH):List Value->Option (Value×AH)|[.int .u64 (.ofNat x)]=>cond (Nat.blt x 18446744073709551616) (some (.int .i64 (.ofNat (Z6 x)),H)) none|_=>none
def Jc(H:AH):List Value->Option (Value×AH)|[.int .u64 (.ofNat x),.int .u64 (.ofNat y)]=>cond (Nat.blt x 18446744073709551616&&Nat.blt y 18446744073709551616) (some (.tuple #[.int .u64 (.ofNat (x*y/18446744073709551616)),.int .u64 (.ofNat (x*y%18446744073709551616))],H)) none|_=>none
def Ka(H:AH):List Value->Option (Value×AH)|[.int .u64 (.ofNat h),.int .u64 (.ofNat l),.int .u64 (.ofNat y)]=>cond (Nat.blt h y&&Nat.blt l 18446744073709551616&&Nat.blt y 18446744073709551616) (some (.tuple #[.int .u64 (.ofNat ((h*18446744073709551616+l)/y)),.int .u64 (.ofNat ((h*18446744073709551616+l)%y))],H)) none|_=>none
def GP(f:FuncId)(args:List Value)(H:AH):Option (Value×AH):=cond (Nat.beq f 81) (HS H args) (cond (Nat.beq f 49) (Mo H args) (cond (Nat.beq f 73) (PX H args) (cond (Nat.beq f 82) (KB H args) (cond (Nat.beq f 161) (Jc H args) (cond (Nat.beq f 156) (Ka H args) none)))))
theorem Iy:UR GP (ZF Tryz.prog Yg):=by intro f args H r h;unfold GP at h;cases h1:Nat.beq f 81 with
 |true=>
  rw[h1,cond_true]at h;obtain rfl:=Nat.eq_of_beq_eq_true h1;unfold HS at h;split at h<;>first|(cases h;done)|skip
  split at h<;>first|(cases h;done)|skip
  rename_i v xs hx;obtain rfl:=Option.some.inj h;obtain⟨e1,e2,e3⟩:=YQ hx;obtain⟨_,_,hc,rfl,rfl⟩:=NH e1 (by omega);exact hc
 |false=>rw[h1,cond_false]at h;cases h1:Nat.beq f 49 with
  |true=>
   rw[h1,cond_true]at h;obtain rfl:=Nat.eq_of_beq_eq_true h1;unfold Mo at h;split at h<;>first|(cases h;done)|skip
   split at h<;>first|(cases h;done)|skip
   rename_i v xs hx;obtain rfl:=Option.some.inj h;obtain⟨e1,e2,e3⟩:=YQ hx;obtain⟨_,_,hc,rfl,rfl⟩:=Sb e1 e2 (by omega);exact hc
  |false=>rw[h1,cond_false]at h;cases h1:Nat.beq f 73 with
   |true=>
    rw[h1,cond_true]at h;obtain rfl:=Nat.eq_of_beq_eq_true h1;unfold PX at h;split at h<;>first|(cases h;done)|skip
    split at h<;>first|(cases h;done)|skip
    rename_i v u xs ys hx hy;obtain rfl:=Option.some.inj h;obtain⟨e1,e2,e3⟩:=YQ hx;obtain⟨f1,f2,f3⟩:=YQ hy;obtain⟨_,_,hc,rfl,rfl⟩:=QT e1 f1 e2 f2 (by omega) (by omega);exact hc
   |false=>rw[h1,cond_false]at h;cases h1:Nat.beq f 82 with
    |true=>
     rw[h1,cond_true]at h;obtain rfl:=Nat.eq_of_beq_eq_true h1;unfold KB at h;split at h<;>first|(cases h;done)|skip
     rename_i x;cases hb:Nat.blt x 18446744073709551616 with|false=>rw[hb]at h;cases h|true=>rw[hb,cond_true]at h;obtain rfl:=Option.some.inj h;rw[Nat.blt_eq]at hb;obtain⟨_,_,hc,rfl,rfl⟩:=UK (H:=H) hb;exact hc
    |false=>rw[h1,cond_false]at h;cases h1:Nat.beq f 161 with
     |true=>
      rw[h1,cond_true]at h;obtain rfl:=Nat.eq_of_beq_eq_true h1;unfold Jc at h;split at h<;>first|(cases h;done)|skip
      rename_i x y;cases hb:(Nat.blt x 18446744073709551616&&Nat.blt y 18446744073709551616)with|false=>rw[hb]at h;cases h|true=>rw[hb,cond_true]at h;obtain rfl:=Option.some.inj h;rw[Bool.and_eq_true,Nat.blt_eq,Nat.blt_eq]at hb;exact Ny hb.1 hb.2 H
     |false=>rw[h1,cond_false]at h;cases h1:Nat.beq f 156 with
      |true=>
       rw[h1,cond_true]at h;obtain rfl:=Nat.eq_of_beq_eq_true h1;unfold Ka at h;split at h<;>first|(cases h;done)|skip
       rename_i x l y;cases hb:(Nat.blt x y&&Nat.blt l 18446744073709551616&&Nat.blt y 18446744073709551616)with|false=>rw[hb]at h;cases h|true=>rw[hb,cond_true]at h;obtain rfl:=Option.some.inj h;rw[Bool.and_eq_true,Bool.and_eq_true,Nat.blt_eq,Nat.blt_eq,Nat.blt_eq]at hb;exact OG hb.1.1 hb.1.2 hb.2 H
      |false=>rw[h1]at h;cases h
end
end Go.Proofs.YtjboehpfojpimaaGreatDoor
namespace Go.Proofs.YtjboehpfojpimaaGreatDoor
open Go Ev
set_option linter.unusedVariables false
noncomputable section
set_option maxHeartbeats 2000000
set_option maxRecDepth 20000
end
end Go.Proofs.YtjboehpfojpimaaGreatDoor
namespace Go.Proofs.YtjboehpfojpimaaGreatDoor
open Go Ev
set_option linter.unusedVariables false
set_option linter.unusedSimpArgs false
noncomputable section
set_option maxHeartbeats 2000000
set_option maxRecDepth 20000
def Wd(H:AH):List Nat->Value×AH|[]=>(.slice none 0 0,H)|y::r=>(.slice (some ⟨H.n,0,none⟩) (r.length+1) (r.length+1),H.new 1 ((y::r).map XP))
theorem FR{H:AH}{v:Value}{xs:List Nat}(h:Sl H v xs)(hl:xs.length<=17592186044416){t t2:TypeId}(ht:LT t)(KJ:LT t2):Y9 Tryz.prog H t t2 (.slice none 0 0) v=some (Wd H xs):=by
 by_cases h0:xs.length=0;·obtain rfl:xs=[]:=List.length_eq_zero_iff.mp h0;show _=some (Value.slice none 0 0,H);generalize hn:([]:List Nat)=ys at h;cases h with|nil=>simp[Y9,ht.2,KJ.2]|emp b=>simp[Y9,ht.2,KJ.2]|mk b o cap xs h1 h2=>subst hn;simp[Y9,ht.2,KJ.2]
 ·have hx:Wd H xs=(.slice (some ⟨H.n,0,none⟩) xs.length xs.length,H.new 1 (xs.map XP)):=by cases xs with|nil=>exact absurd rfl h0|cons y r=>rfl
  rw[hx];have hc:=h.cells (by omega);obtain⟨a,cap,rfl⟩: ∃a cap,v= .slice a xs.length cap:=by cases h<;>exact⟨_,_,rfl⟩
  have e1:Nat.beq xs.length 0=false:=Yf h0;have e2:Nat.ble (xs.length*8) 140737488355328=true:=Nat.ble_eq.mpr (by omega);have e3:Nat.ble xs.length 281474976710656=true:=Nat.ble_eq.mpr (by omega);simp[Y9,ht.2,KJ.2,e1,e2,e3,hc,ND,Value.cells]
theorem P8{H:AH}(xs:List Nat):Sl (Wd H xs).2 (Wd H xs).1 xs/\ZQ H (Wd H xs).2/\H.n<=(Wd H xs).2.n/\one (Wd H xs).1=true/\(∀b sz cs,b<H.n->H.blk b= .rw sz cs->(Wd H xs).2.blk b= .rw sz cs):=by cases xs with|nil=>exact⟨.nil,.refl H,Nat.le_refl _,rfl,fun b sz cs hb h=>h⟩|cons y r=>have o:=Yl.new H (y::r);refine⟨o.sl,.new _ _ _,Nat.le_succ _,rfl,fun b sz cs hb h=>?_⟩;show(H.new 1 _).blk b=_;rw[AH.blk_new,if_neg (by omega)];exact h
def Ty(H:AH)(b:Nat)(ws:List Value):AH:= { n:=H.n,lw:=min H.lw b,t:=H.t.set b (.rw 1 ws) }
theorem Tz(H:AH)(b:Nat)(ws:List Value)(j:Nat):(Ty H b ws).blk j=if j=b then .rw 1 ws else H.blk j:=by
 unfold Ty AH.blk;simp only[Tr.get_set];by_cases h:j=b;·rw[if_pos h,if_pos h]
 ·rw[if_neg h,if_neg h]
theorem JL:XT Tryz.prog 30=some true:=by kernel_rfl
theorem MY:YE Tryz.prog 30=some 2:=by kernel_rfl
theorem Pe:Wv Tryz.prog 30=some (.agg #[.bool false,.slice none 0 0]):=by kernel_rfl
theorem Fz:XT Tryz.prog 28=some false:=by kernel_rfl
theorem HN:XT Tryz.prog 4=some false:=by kernel_rfl
theorem Kn(b o:Nat):Yp Tryz.prog 30 (.pointer (some ⟨b,o,none⟩)) 0=some (.pointer (some ⟨b,o,none⟩)):=by kernel_rfl
theorem Km(b o:Nat):Yp Tryz.prog 30 (.pointer (some ⟨b,o,none⟩)) 1=some (.pointer (some ⟨b,o+1,none⟩)):=by kernel_rfl
theorem NK{H:AH}{b:Nat}{p q p' q':Value}(hb:H.blk b= .rw 1 [p',q'])(h1:one p=true)(h2:one q=true)(hc:(Value.agg #[p,q]).cells.toList=[p,q]):YP Tryz.prog H 30 (.pointer (some ⟨b,0,none⟩)) (.agg #[p,q])=some (Ty H b [p,q]):=by
 unfold YP;have hs:(Value.agg #[p,q]).cells.size=2:=by have:=congrArg List.length hc;simpa using this
 simp only[MY,hs,hc];rw[show Nat.beq 2 2=true from rfl,cond_true,AH.write_def,hb];simp[h1,h2,Ty,show Nat.ble 2 2=true from rfl]
theorem QF{H:AH}{b:Nat}{p q:Value}(hb:H.blk b= .rw 1 [p,q]):Yk Tryz.prog H 30 (.pointer (some ⟨b,0,none⟩))=some (.agg #[p,q]):=by unfold Yk;simp only[JL,MY,AH.read_def,hb];simp[AH.cells_rw' hb,show Nat.ble 2 2=true from rfl]
theorem K4{H:AH}{b:Nat}{p q:Value}(hb:H.blk b= .rw 1 [p,q]):Yk Tryz.prog H 4 (.pointer (some ⟨b,0,none⟩))=some p:=by unfold Yk;simp[HN,AH.cells_rw' hb]
theorem K5{H:AH}{b:Nat}{p q:Value}(hb:H.blk b= .rw 1 [p,q]):Yk Tryz.prog H 28 (.pointer (some ⟨b,0+1,none⟩))=some q:=by unfold Yk;simp[Fz,AH.cells_rw' hb]
section
attribute [-simp] Int.natCast_add Int.natCast_mul Int.natCast_ediv Int.natCast_emod Int.natCast_pow
attribute [local simp] strip Zt YR LR gW ZZ ZO Zk ZN Zv ZM Ze Zf Zb Zw ZT Zs ZI Zi Zx Zc Za ZJ ZK Yo Zn ZS Yd ZC Zu plain Zq Tr.get_set ZA Zd Z5 Zl sameKind undef Zh Zy ZR ZU Zm parts Xd DW ZL Zg LX Zo
section
variable {H : AH} {u : Value} {xs : List Nat}
theorem Rt(hs:Sl H u xs)(hlen:xs.length<=17592186044416):ZF Tryz.prog Yg 95 [u] H=some (Wd H (ZP xs)):=by
 suffices h:CW Tryz.prog Yg 95 [u] H fun v H'=>v=(Wd H (ZP xs)).1/\H'=(Wd H (ZP xs)).2 by obtain⟨v,H',hc,rfl,rfl⟩:=h;exact hc
 refine Vb 6 (by decide) (by decide) Tryz.func95 rfl rfl ?_;obtain⟨v1,H1,OW,e1,PB⟩:=Uu hs (by omega);subst e1;have ha:=FR PB (by have:=WV xs;omega) ZU ZU;obtain⟨w,H3,hw⟩: ∃w H3,Wd H1 (ZP xs)=(w,H3):=⟨_,_,rfl⟩;rw[hw]at ha⊢;apply Zz;intro b1 ZH;apply Zr;simp;subst ZH;apply Zz;intro b1 ZH;apply Zr;simp[OW,ha];subst ZH;apply Z8;simp
def Xj(neg:Bool)(ys:List Nat):Bool:=neg&&decide (0<ys.length)
def Va(H:AH)(neg:Bool)(u:Value)(ys:List Nat):Value×AH:=match Wd ((H.new 1 [.bool neg,u]).new 1 [.bool false,.slice none 0 0]) ys with|(w,H3)=>(w,Ty H3 (H.n+1) [.bool (Xj neg ys),w])
theorem OJ{b:Bool}{v:Value}(h:v.cells=#[v]):(Value.agg #[.bool b,v]).cells.toList=[.bool b,v]:=by simp[Value.cells]
theorem Sl.oneX{H:AH}{v:Value}{xs:List Nat}(h:Sl H v xs):one v=true/\v.cells=#[v]:=by cases h<;>exact⟨rfl,rfl⟩
theorem Ss(neg:Bool)(hs:Sl H u xs)(hlen:xs.length<=17592186044416):ZF Tryz.prog Yg 66 [.agg #[.bool neg,u]] H=some (.agg #[.bool (Xj neg (ZP xs)),(Va H neg u (ZP xs)).1],(Va H neg u (ZP xs)).2):=by
 obtain⟨o1,o2⟩:=hs.oneX;have k1:=ZQ.new H 1 [.bool neg,u];have b1:(H.new 1 [.bool neg,u]).blk H.n= .rw 1 [.bool neg,u]:=by rw[AH.blk_new,if_pos rfl]
 have n1:(H.new 1 [.bool neg,u]).n=H.n+1:=rfl;obtain⟨H1,Hf⟩: ∃H1,H1=H.new 1 [.bool neg,u]:=⟨_,rfl⟩;unfold Va;rw[<-Hf]at k1 b1 n1⊢;have k2:=ZQ.new H1 1 [.bool false,.slice none 0 0];have b2:(H1.new 1 [.bool false,.slice none 0 0]).blk H.n= .rw 1 [.bool neg,u]:=by rw[AH.blk_new,if_neg (by omega)];exact b1
 have B9:(H1.new 1 [.bool false,.slice none 0 0]).blk (H.n+1)= .rw 1 [.bool false,.slice none 0 0]:=by rw[AH.blk_new,if_pos n1.symm]
 have n2:(H1.new 1 [.bool false,.slice none 0 0]).n=H.n+2:=by show H1.n+1=_;rw[n1]
 obtain⟨H2,F0⟩: ∃H2,H2=H1.new 1 [.bool false,.slice none 0 0]:=⟨_,rfl⟩;rw[<-F0]at k2 b2 B9 n2⊢;have hc:=Rt ((hs.keep k1).keep k2) hlen;obtain⟨s1,s2,s3,s4,s5⟩:=P8 (H:=H2) (ZP xs);obtain⟨w,H3,hw⟩: ∃w H3,Wd H2 (ZP xs)=(w,H3):=⟨_,_,rfl⟩;rw[hw]at hc s1 s2 s3 s4 s5⊢;simp only at s1 s2 s3 s4 s5⊢;obtain⟨t1,t2⟩:=s1.oneX;have b3:=s5 _ _ _ (by omega) b2;have b3':=s5 _ _ _ (by omega) B9;have hl:=s1.len ZU;have VD:=NK (p:= .bool (Xj neg (ZP xs))) b3' rfl t1 (OJ t2);have Rg:Yk Tryz.prog (Ty H3 (H.n+1) [.bool (Xj neg (ZP xs)),w]) 30 (.pointer (some ⟨H.n+1,0,none⟩))=some (.agg #[.bool (Xj neg (ZP xs)),w]):=QF (by rw[Tz,if_pos rfl]);obtain⟨H4,F1⟩: ∃H4,H4=Ty H3 (H.n+1) [.bool (Xj neg (ZP xs)),w]:=⟨_,rfl⟩;rw[<-F1]at VD Rg⊢;obtain⟨sg,Ff⟩: ∃sg,sg=Xj neg (ZP xs):=⟨_,rfl⟩;rw[<-Ff]at VD Rg⊢;suffices h:CW Tryz.prog Yg 66 [.agg #[.bool neg,u]] H fun v H'=>v= .agg #[.bool sg,w]/\H'=H4 by obtain⟨v,H',hc,rfl,rfl⟩:=h;exact hc
 obtain⟨m,hm⟩: ∃m,m=(ZP xs).length:=⟨_,rfl⟩;rw[<-hm]at hl;have Ic:sg=(neg&&decide (0<m)):=by rw[Ff,hm];rfl
 have J6:V1 Tryz.prog 30 [(0,.bool sg),(1,w)]=some (.agg #[.bool sg,w]):=by
  obtain⟨a,l,c,rfl⟩: ∃a l c,w= .slice a l c:=by generalize ZP xs=ys at s1;cases s1<;>exact⟨_,_,_,rfl⟩
  rfl
 refine Vb 16 (by decide) (by decide) Tryz.func66 rfl rfl ?_;apply Zz;intro b1 ZH;apply Zr;simp[Value.cells,Pe,<-Hf,<-F0,n1];subst ZH;apply Zz;intro b1 ZH;apply Zr;simp[Km,K5 b2,hc];subst ZH;cases neg with
  |false=>rw[Bool.false_and]at Ic;subst Ic;apply Zz;intro b1 ZH;apply Zr;simp[Kn,K4 b3,J6,VD];subst ZH;apply Z8;simp;simp[Rg]
  |true=>
   rw[Bool.true_and]at Ic;have hg:Zj .gtr .i64 (m:Int) 0=some (.bool sg):=by rw[Ic];exact VW (y:=0)
   apply Zz;intro b1 ZH;apply Zr;simp[Kn,K4 b3,hl,hg,J6,VD];subst ZH;apply Z8;simp;simp[Rg]
end
section
variable {H : AH} {u : Value} {xs : List Nat}
theorem P7(H:AH)(ys:List Nat): ∃a l c,(Wd H ys).1= .slice a l c:=by cases ys<;>exact⟨_,_,_,rfl⟩
def JZ(n:Nat)(H H':AH):Prop:=H.n<=H'.n/\ ∀b sz cs,b<n->H.blk b= .rw sz cs->H'.blk b= .rw sz cs
theorem JZ.trans{n:Nat}{H H' H2:AH}(a:JZ n H H')(b:JZ n H' H2):JZ n H H2:=⟨Nat.le_trans a.1 b.1,fun j sz cs hj h=>b.2 j sz cs hj (a.2 j sz cs hj h)⟩
theorem SO{n:Nat}(H:AH)(hn:n<=H.n)(cs:List Value):JZ n H (H.new 1 cs):=⟨Nat.le_succ _,fun j sz cs hj h=>by rw[AH.blk_new,if_neg (by omega)];exact h⟩
theorem MZ{n b:Nat}(H:AH)(hb:n<=b)(ws:List Value):JZ n H (Ty H b ws):=⟨Nat.le_refl _,fun j sz cs hj h=>by rw[Tz,if_neg (by omega)];exact h⟩
theorem Jp{n:Nat}(H:AH)(hn:n<=H.n)(ys:List Nat):JZ n H (Wd H ys).2:=by obtain⟨_,_,s3,_,s5⟩:=P8 (H:=H) ys;exact⟨s3,fun b sz cs hb h=>s5 b sz cs (by omega) h⟩
theorem Qs(neg:Bool)(ys:List Nat):(∃a l c,(Va H neg u ys).1= .slice a l c)/\JZ H.n H (Va H neg u ys).2:=by unfold Va;obtain⟨a,l,c,hs⟩:=P7 ((H.new 1 [.bool neg,u]).new 1 [.bool false,.slice none 0 0]) ys;have r:=Jp (n:=H.n) ((H.new 1 [.bool neg,u]).new 1 [.bool false,.slice none 0 0]) (by show H.n<=H.n+1+1;omega) ys;obtain⟨w,H3,hw⟩: ∃w H3,Wd ((H.new 1 [.bool neg,u]).new 1 [.bool false,.slice none 0 0]) ys=(w,H3):=⟨_,_,rfl⟩;rw[hw]at hs r⊢;exact⟨⟨a,l,c,hs⟩,(((SO H (Nat.le_refl _) _).trans (SO _ (by show H.n<=H.n+1;omega) _)).trans r).trans (MZ _ (by omega) _)⟩
def Td(H:AH)(neg:Bool)(u:Value)(ys:List Nat):Value×AH:=match Va ((H.new 1 [.bool neg,u]).new 1 [.bool false,.slice none 0 0]) neg u ys with|(w,H3)=>(w,Ty H3 (H.n+1) [.bool (Xj neg ys),w])
theorem Kp(neg:Bool)(ys:List Nat):(∃a l c,(Td H neg u ys).1= .slice a l c)/\JZ H.n H (Td H neg u ys).2:=by unfold Td;obtain⟨hs,r⟩:=Qs (H:=(H.new 1 [.bool neg,u]).new 1 [.bool false,.slice none 0 0]) (u:=u) neg ys;have r:JZ H.n _ _:=⟨r.1,fun b sz cs hb h=>r.2 b sz cs (by show b<H.n+1+1;omega) h⟩;obtain⟨w,H3,hw⟩: ∃w H3,Va ((H.new 1 [.bool neg,u]).new 1 [.bool false,.slice none 0 0]) neg u ys=(w,H3):=⟨_,_,rfl⟩;rw[hw]at hs r⊢;exact⟨hs,(((SO H (Nat.le_refl _) _).trans (SO _ (by show H.n<=H.n+1;omega) _)).trans r).trans (MZ _ (by omega) _)⟩
theorem S9(neg:Bool)(hs:Sl H u xs)(dx:Y7 ZB xs)(hlen:xs.length<=17592186044416)(hb:Z6 (dv ZB xs)<=67108864):ZF Tryz.prog Yg 96 [.agg #[.bool neg,u]] H=some (.tuple #[.agg #[.bool (Xj neg (ZP xs)),(Td H neg u (ZP xs)).1],.int .i64 0],(Td H neg u (ZP xs)).2):=by
 obtain⟨o1,o2⟩:=hs.oneX;have k1:=ZQ.new H 1 [.bool neg,u];have q1:(H.new 1 [.bool neg,u]).blk H.n= .rw 1 [.bool neg,u]:=by rw[AH.blk_new,if_pos rfl]
 have n1:(H.new 1 [.bool neg,u]).n=H.n+1:=rfl;obtain⟨H1,Hf⟩: ∃H1,H1=H.new 1 [.bool neg,u]:=⟨_,rfl⟩;unfold Td;rw[<-Hf]at k1 q1 n1⊢;have k2:=ZQ.new H1 1 [.bool false,.slice none 0 0];have q2:(H1.new 1 [.bool false,.slice none 0 0]).blk H.n= .rw 1 [.bool neg,u]:=by rw[AH.blk_new,if_neg (by omega)];exact q1
 have E4:(H1.new 1 [.bool false,.slice none 0 0]).blk (H.n+1)= .rw 1 [.bool false,.slice none 0 0]:=by rw[AH.blk_new,if_pos n1.symm]
 have n2:(H1.new 1 [.bool false,.slice none 0 0]).n=H.n+2:=by show H1.n+1=_;rw[n1]
 obtain⟨H2,F0⟩: ∃H2,H2=H1.new 1 [.bool false,.slice none 0 0]:=⟨_,rfl⟩;rw[<-F0]at k2 q2 E4 n2⊢;have Pg:=(hs.keep k1).keep k2;have hc:=Ss neg Pg hlen;obtain⟨v0,H0,F8,e0,e1⟩:=Sb Pg dx hlen;rw[e0,e1]at F8;obtain⟨s1,s2⟩:=Qs (H:=H2) (u:=u) neg (ZP xs);obtain⟨w,H3,hw⟩: ∃w H3,Va H2 neg u (ZP xs)=(w,H3):=⟨_,_,rfl⟩;rw[hw]at hc s1 s2⊢;simp only at s1 s2 hc⊢;obtain⟨a,l,c,rfl⟩:=s1;have BI:=s2.2 _ _ _ (by omega) E4;have VD:=NK (p:= .bool (Xj neg (ZP xs))) BI rfl rfl (OJ (v:= .slice a l c) rfl);have Rg:Yk Tryz.prog (Ty H3 (H.n+1) [.bool (Xj neg (ZP xs)),.slice a l c]) 30 (.pointer (some ⟨H.n+1,0,none⟩))=some (.agg #[.bool (Xj neg (ZP xs)),.slice a l c]):=QF (by rw[Tz,if_pos rfl]);obtain⟨H4,F1⟩: ∃H4,H4=Ty H3 (H.n+1) [.bool (Xj neg (ZP xs)),.slice a l c]:=⟨_,rfl⟩;rw[<-F1]at VD Rg⊢;obtain⟨sg,Ff⟩: ∃sg,sg=Xj neg (ZP xs):=⟨_,rfl⟩;rw[<-Ff]at VD Rg hc⊢;suffices h:CW Tryz.prog Yg 96 [.agg #[.bool neg,u]] H fun v H'=>v= .tuple #[.agg #[.bool sg,.slice a l c],.int .i64 0]/\H'=H4 by obtain⟨v,H',hc,rfl,rfl⟩:=h;exact hc
 obtain⟨B,hB⟩: ∃B,B=Z6 (dv ZB xs):=⟨_,rfl⟩;rw[<-hB]at F8 hb;have hg:Zj .gtr .i64 (B:Int) 67108864=some (.bool false):=by have h:=VW (k:= .i64) (x:=B) (y:=67108864);rw[decide_eq_false (by omega)]at h;exact h
 refine Vb 11 (by decide) (by decide) Tryz.func96 rfl rfl ?_;apply Zz;intro b1 ZH;apply Zr;simp[Value.cells,Pe,<-Hf,<-F0,n1];subst ZH;apply Zz;intro b1 ZH;apply Zz;intro b2 Yy;apply Zr;simp[Km,K5 q2,F8,hg];subst Yy;refine Zp (t:=false) (by simp) ?_;apply ZE;subst ZH;apply Zz;intro b1 ZH;apply Zr;simp[QF q2,hc,VD];subst ZH;apply Z8;simp;simp[Rg]
def IU(H:AH)(neg:Bool)(u:Value)(ys:List Nat):Value×AH:=match Td (H.new 1 [.bool false,.slice none 0 0]) neg u ys with|(w,H3)=>(w,Ty H3 H.n [.bool (Xj neg ys),w])
theorem Lt(neg:Bool)(hs:Sl H u xs)(dx:Y7 ZB xs)(hlen:xs.length<=17592186044416)(hb:Z6 (dv ZB xs)<=67108864):ZF Tryz.prog Yg 68 [.bool neg,u,.int .i64 0] H=some (.tuple #[.agg #[.bool (Xj neg (ZP xs)),(IU H neg u (ZP xs)).1],.int .i64 0],(IU H neg u (ZP xs)).2):=by
 have k1:=ZQ.new H 1 [.bool false,.slice none 0 0];have q1:(H.new 1 [.bool false,.slice none 0 0]).blk H.n= .rw 1 [.bool false,.slice none 0 0]:=by rw[AH.blk_new,if_pos rfl]
 have n1:(H.new 1 [.bool false,.slice none 0 0]).n=H.n+1:=rfl;obtain⟨H1,Hf⟩: ∃H1,H1=H.new 1 [.bool false,.slice none 0 0]:=⟨_,rfl⟩;unfold IU;rw[<-Hf]at k1 q1 n1⊢;have PB:=hs.keep k1;have hc:=S9 neg PB dx hlen hb;obtain⟨s1,s2⟩:=Kp (H:=H1) (u:=u) neg (ZP xs);obtain⟨w,H3,hw⟩: ∃w H3,Td H1 neg u (ZP xs)=(w,H3):=⟨_,_,rfl⟩;rw[hw]at hc s1 s2⊢;simp only at s1 s2 hc⊢;obtain⟨a,l,c,rfl⟩:=s1;have BI:=s2.2 _ _ _ (by omega) q1;have VD:=NK (p:= .bool (Xj neg (ZP xs))) BI rfl rfl (OJ (v:= .slice a l c) rfl);have Rg:Yk Tryz.prog (Ty H3 H.n [.bool (Xj neg (ZP xs)),.slice a l c]) 30 (.pointer (some ⟨H.n,0,none⟩))=some (.agg #[.bool (Xj neg (ZP xs)),.slice a l c]):=QF (by rw[Tz,if_pos rfl]);obtain⟨H4,F1⟩: ∃H4,H4=Ty H3 H.n [.bool (Xj neg (ZP xs)),.slice a l c]:=⟨_,rfl⟩;rw[<-F1]at VD Rg⊢;obtain⟨sg,Ff⟩: ∃sg,sg=Xj neg (ZP xs):=⟨_,rfl⟩;rw[<-Ff]at VD Rg hc⊢;suffices h:CW Tryz.prog Yg 68 [.bool neg,u,.int .i64 0] H fun v H'=>v= .tuple #[.agg #[.bool sg,.slice a l c],.int .i64 0]/\H'=H4 by obtain⟨v,H',hc,rfl,rfl⟩:=h;exact hc
 have J6:V1 Tryz.prog 30 [(0,.bool neg),(1,u)]=some (.agg #[.bool neg,u]):=by
  obtain⟨a,l,c,rfl⟩: ∃a l c,u= .slice a l c:=by cases hs<;>exact⟨_,_,_,rfl⟩
  rfl
 have Wq:Zj .neq .i64 0 0=some (.bool false):=rfl;refine Vb 18 (by decide) (by decide) Tryz.func68 rfl rfl ?_;apply Zz;intro b1 ZH;apply Zr;simp[Value.cells,Pe,<-Hf];subst ZH;apply Zz;intro b1 ZH;apply Zz;intro b2 Yy;apply Zr;simp[Wq];subst Yy;refine Zp (t:=false) (by simp) ?_;apply ZE;subst ZH;apply Zz;intro b1 ZH;apply Zr;simp[J6,hc,VD];subst ZH;apply Z8;simp;simp[Rg]
end
def HX(H:AH):List Value->Option (Value×AH)
 |[v]=>match X8 H v with|some xs=>some (Wd H (ZP xs))|none=>none
 |_=>none
def Jx(H:AH):List Value->Option (Value×AH)
 |[.agg ⟨[.bool neg,u]⟩]=>match X8 H u with
  |some xs=>match ZP xs with
   |ys=>match Va H neg u ys with|(w,H')=>some (.agg #[.bool (Xj neg ys),w],H')
  |none=>none
 |_=>none
def He(H:AH):List Value->Option (Value×AH)
 |[.agg ⟨[.bool neg,u]⟩]=>match X8 H u with
  |some xs=>cond (Nat.ble xs.length 1000) (match ZP xs with
   |ys=>match Td H neg u ys with|(w,H')=>some (.tuple #[.agg #[.bool (Xj neg ys),w],.int .i64 0],H')) none
  |none=>none
 |_=>none
def E6(H:AH):List Value->Option (Value×AH)
 |[.bool neg,u,.int .i64 (.ofNat 0)]=>match X8 H u with
  |some xs=>cond (Nat.ble xs.length 1000) (match ZP xs with
   |ys=>match IU H neg u ys with|(w,H')=>some (.tuple #[.agg #[.bool (Xj neg ys),w],.int .i64 0],H')) none
  |none=>none
 |_=>none
def Iw(f:FuncId)(args:List Value)(H:AH):Option (Value×AH):=match GP f args H with|some r=>some r|none=>cond (Nat.beq f 95) (HX H args) (cond (Nat.beq f 66) (Jx H args) (cond (Nat.beq f 96) (He H args) (cond (Nat.beq f 68) (E6 H args) none)))
theorem Pw{xs:List Nat}(dx:Y7 ZB xs){L:Nat}(lx:xs.length<=L):Z6 (dv ZB xs)<=64*L:=by
 rcases Nat.eq_zero_or_pos (dv ZB xs)with h0|h0;·rw[h0];exact Nat.zero_le _
 ·have h1:=W1 (n:=dv ZB xs) (by omega);have h2:=Ve dx;have h3:ZB^xs.length<=ZB^L:=Nat.pow_le_pow_right (by decide) lx;have h4:ZB^L=2^(64*L):=(Nat.pow_mul 2 64 L).symm;rw[h4]at h3;have:=(Nat.pow_lt_pow_iff_right (a:=2) (by decide)).mp (Nat.lt_of_le_of_lt h1 (Nat.lt_of_lt_of_le h2 h3));omega
theorem RF{xs:List Nat}(dx:Y7 ZB xs)(h:xs.length<=1000):Z6 (dv ZB xs)<=67108864:=by have:=Pw dx h;omega
theorem Ix:UR Iw (ZF Tryz.prog Yg):=by
 intro f args H r h;unfold Iw at h;split at h;·rename_i r' hr;obtain rfl:=Option.some.inj h;exact Iy _ _ _ _ hr
 ·cases h1:Nat.beq f 95 with
  |true=>
   rw[h1,cond_true]at h;obtain rfl:=Nat.eq_of_beq_eq_true h1;unfold HX at h;split at h<;>first|(cases h;done)|skip
   split at h<;>first|(cases h;done)|skip
   rename_i v xs hx;obtain rfl:=Option.some.inj h;obtain⟨e1,e2,e3⟩:=YQ hx;exact Rt e1 (by omega)
  |false=>rw[h1,cond_false]at h;cases h1:Nat.beq f 66 with
   |true=>
    rw[h1,cond_true]at h;obtain rfl:=Nat.eq_of_beq_eq_true h1;unfold Jx at h;split at h<;>first|(cases h;done)|skip
    split at h<;>first|(cases h;done)|skip
    rename_i neg v xs hx;obtain rfl:=Option.some.inj h;obtain⟨e1,e2,e3⟩:=YQ hx;exact Ss _ e1 (by omega)
   |false=>rw[h1,cond_false]at h;cases h1:Nat.beq f 96 with
    |true=>
     rw[h1,cond_true]at h;obtain rfl:=Nat.eq_of_beq_eq_true h1;unfold He at h;split at h<;>first|(cases h;done)|skip
     split at h<;>first|(cases h;done)|skip
     rename_i neg v xs hx;cases hl:Nat.ble xs.length 1000 with|false=>rw[hl]at h;cases h|true=>rw[hl,cond_true]at h;obtain rfl:=Option.some.inj h;obtain⟨e1,e2,e3⟩:=YQ hx;exact S9 _ e1 e2 (by omega) (RF e2 (Nat.le_of_ble_eq_true hl))
    |false=>rw[h1,cond_false]at h;cases h1:Nat.beq f 68 with
     |true=>
      rw[h1,cond_true]at h;obtain rfl:=Nat.eq_of_beq_eq_true h1;unfold E6 at h;split at h<;>first|(cases h;done)|skip
      split at h<;>first|(cases h;done)|skip
      rename_i neg v xs hx;cases hl:Nat.ble xs.length 1000 with|false=>rw[hl]at h;cases h|true=>rw[hl,cond_true]at h;obtain rfl:=Option.some.inj h;obtain⟨e1,e2,e3⟩:=YQ hx;exact Lt _ e1 e2 (by omega) (RF e2 (Nat.le_of_ble_eq_true hl))
     |false=>rw[h1]at h;cases h
end
section
attribute [-simp] Int.natCast_add Int.natCast_mul Int.natCast_ediv Int.natCast_emod Int.natCast_pow
attribute [local simp] strip Zt YR LR gW ZZ ZO Zk ZN Zv ZM Ze Zf Zb Zw ZT Zs ZI Zi Zx Zc Za ZJ ZK Yo Zn ZS Yd ZC Zu plain Zq Tr.get_set ZA Zd Z5 Zl sameKind undef Zh Zy ZR ZU Zm parts Xd DW ZL Zg LX Zo
attribute [local simp] Z4 Yn XW
section
variable {H : AH} {u v w z : Value}
theorem GW(H:AH)(sz:Nat)(cs:List Value):(H.new sz cs).n=H.n+1:=rfl
theorem FJ(b:Nat):Yp Tryz.prog 30 (.pointer (some ⟨b,0,none⟩)) 0=some (.pointer (some ⟨b,0,none⟩)):=FL b 0
theorem Ru(e:Int)(H:AH):ZF Tryz.prog Yg 7 [.int .i64 e] H=some (.int .i64 e,H):=by
 suffices h:CW Tryz.prog Yg 7 [.int .i64 e] H fun v H'=>v= .int .i64 e/\H'=H by obtain⟨v,H',hc,rfl,rfl⟩:=h;exact hc
 refine YH 4 Tryz.func7 ?_;apply ZX;intro b1 ZH;simp;subst ZH;apply ZX;intro b1 ZH;simp;subst ZH;apply Z8;simp
theorem RJ(h:Sl H v [341]): ∃p q H',ZF Tryz.prog Yg 19 [.agg #[.bool false,v]] H=some (.tuple #[.agg #[.bool false,p,q],.bool true],H')/\ZQ H H'/\Yl H.n H' p (ds ZV 341)/\Yl H.n H' q (ds ZV 1):=by
 obtain⟨Po,Aj⟩: ∃Po:Value->AH->Prop,∀x H',Po x H'↔ ∃p q,x= .tuple #[.agg #[.bool false,p,q],.bool true]/\ZQ H H'/\Yl H.n H' p (ds ZV 341)/\Yl H.n H' q (ds ZV 1):=⟨_,fun _ _=>Iff.rfl⟩;suffices hs:CW Tryz.prog Yg 19 [.agg #[.bool false,v]] H Po by obtain⟨x,H',hc,hh⟩:=hs;obtain⟨p,q,rfl,k⟩:=(Aj _ _).1 hh;exact⟨p,q,H',hc,k⟩
 have D3:ds ZB 341=[341]:=by decide+kernel
 have hlv:RL Tryz.prog 28 v=some 1:=h.len ZU;rw[<-D3]at h;obtain⟨H2,e2,k2,n2,q0,q1⟩:=L6 H [.bool false,v] [.bool false,.slice none 0 0,.slice none 0 0];have K:=k2;have z0:=q0;obtain⟨v3,H3,c3,k3,o3,_⟩:=Mu (h.keep K) (Xo Qr 341) (by decide+kernel);have n3:=k3.n;have K:=K.trans k3;replace q0:=k3.q q0;replace q1:=k3.q q1;rw[X5 Qr]at o3;have hR:Xv false 341 1=(false,341,1):=by decide+kernel
 have DH:Z6 341<=1000000000:=by decide+kernel
 have FW:Z6 341<=67108864:=by decide+kernel
 have b1:Z6 1<=1000000000:=by decide+kernel
 obtain⟨Hd,Dm⟩: ∃Hd:AH,Hd= { n:=H3.n,lw:=H3.lw,t:=H3.t.set (H.n+1) .dead } :=⟨_,rfl⟩;have nd:Hd.n=H3.n:=by rw[Dm]
 have lwd:Hd.lw=H3.lw:=by rw[Dm]
 have Cx: ∀j,j≠H.n+1->Hd.blk j=H3.blk j:=fun j hj=>by rw[Dm];show(match(H3.t.set (H.n+1) VA.dead).get j with|some y=>y|none=>VA.dead)=_;rw[Tr.get_set,if_neg hj];rfl
 have ag:Fm (fun j=>j≠H.n+1) H3 Hd:=⟨Nat.le_of_eq nd.symm,fun j hj _=>Cx j hj⟩;have s3:Sl Hd v3 (ds ZV 341):=o3.sl.agr (fun c hc=>by have:=(o3.blk_lo hc).1;omega) ag;have sv:Sl Hd v (ds ZB 341):=(h.keep K).agr (fun c hc=>by have:=h.blk_lt hc;omega) ag;have q0d:Hd.blk H.n= .rw 1 [.bool false,v]:=(Cx _ (by omega)).trans q0;have K3:=K;have K:=(ZQ.refl Hd);have GL:=q0d;have DO: ∀{J:AH}(k:ZQ Hd J){bits ms},(∀x∈ms,Hd.n<=x.2.1)-> ∀b,b<Hd.n->(Pd J bits ms).blk b=Hd.blk b:=fun k _ _ h b hb=>(Uc k h).blk b hb;obtain⟨v4,Ia1,HJ,P0,o4,_⟩:=W4 (H:=Hd.top) 1 (by decide);obtain⟨Ja1,M5,Lf,ma1⟩:=cg P0;have KE:=Lf;have BO:=KE.n;have K:=K.trans Lf;replace o4:=o4.gr P0 M5;replace HJ:ZF _ _ _ [Value.int .i64 1] _=_:=HJ;obtain⟨p5,q5,Ia2,GA,Nk,o5,o6⟩:=Nx false ((s3.keep K).top) o4.sl.top DH b1 (by decide);obtain⟨B5,Ku,Lg,ma2⟩:=cg Nk;have Nn:=KE.trans Lg;have BN:=Nn.n;have K:=K.trans Lg;replace o5:=o5.gr Nk Ku;replace o6:=o6.gr Nk Ku;rw[hR]at GA o5 o6;simp only at GA o5 o6;obtain⟨Ia3,FP,Nl⟩:=Ih ((s3.keep K).top) ((sv.keep K).top) FW;obtain⟨LY,Kv,Nm,ma3⟩:=cg Nl;have P2:=Nn.trans Nm;have BM:=P2.n;replace o5:=o5.m Nm;replace o6:=o6.m Nm;have hol:(only LY (H.n+1) (.rw 1 [.bool false,.slice none 0 0,.slice none 0 0])).blk (H.n+1)= .rw 1 [.bool false,.slice none 0 0,.slice none 0 0]:=by rw[Vo,if_pos rfl]
 obtain⟨H4,IJ,q4,n4,_,_,AF⟩:=TY (o:=0) sR hol (v:= .agg #[.bool false,p5,q5]) (ws:=[.bool false,p5,q5]) rfl rfl (by decide) (by simp[o5.one1,o6.one1,show one (Value.bool false)=true from rfl]);replace q4:H4.blk (H.n+1)= .rw 1 [.bool false,p5,q5]:=q4;replace n4:H4.n=LY.n:=n4;replace AF:H4.lw=min LY.n (H.n+1):=AF;obtain⟨G,hG⟩: ∃G:AH,G= { n:=LY.n,lw:=min LY.lw H4.lw,t:=LY.t.set (H.n+1) (.rw 1 [.bool false,p5,q5]) } :=⟨_,rfl⟩;have nG:G.n=LY.n:=by rw[hG]
 have bG: ∀j,G.blk j=if j=H.n+1 then .rw 1 [.bool false,p5,q5]else LY.blk j:=fun j=>by
  rw[hG];show(match(LY.t.set (H.n+1) (VA.rw 1 [.bool false,p5,q5])).get j with|some y=>y|none=>VA.dead)=_;rw[Tr.get_set];by_cases e:j=H.n+1;·rw[if_pos e,if_pos e]
  ·rw[if_neg e,if_neg e];rfl
 have DF: ∀j,j≠H.n+1->G.blk j=LY.blk j:=fun j hj=>by rw[bG,if_neg hj]
 have KG:ZQ H G:=by
  have l1:=K3.lw;have l2:=P2.lw;have m1:=K3.n;have m2:=P2.n;refine⟨by omega,?_,fun j hj=>?_⟩;·rw[hG];show min H.lw H.n<=min LY.lw H4.lw;omega
  ·rw[DF j (by omega),P2.blk j (by omega),Cx j (by omega),K3.blk j hj]
 have p5G:=o5.off (b:=H.n+1) (by omega) nG DF;have q5G:=o6.off (b:=H.n+1) (by omega) nG DF;have Rg:=Tm (H:=G) (b:=H.n+1) (by rw[bG,if_pos rfl]);refine YH 28 Tryz.func19 ?_;apply ZX;intro b1 ZH;simp[Value.cells,zR,GW,e2];subst ZH;apply ZX;intro b1 ZH;simp[HF,Nu z0,c3];subst ZH;apply Zz;intro b1 ZH;refine Fx (z:=20) (b:=H.n+1) (sz:=1) (cs:=[.bool false,.slice none 0 0,.slice none 0 0]) (cs2:=[.bool false,p5,q5]) (by kernel_rfl) (by kernel_rfl) rfl q1 ⟨true,by simp[YV]⟩ ?_;rw[show({ n:=H3.n,lw:=H3.lw,t:=H3.t.set (H.n+1) .dead } :AH)=Hd from Dm.symm];simp[FJ];refine YG (v:= .bool false) rfl rfl rfl (by rw[YD rfl];simp[GZ (H:=AH.top Hd) GL]) ?_;simp;skip;refine SL (v:=v4) (Uv.nil Hd.n) P0 M5 (by simp[HJ]) fun BT DM=>?_;simp;refine SL (v:= .agg #[.bool false,p5,q5]) DM Nk Ku (by simp[GA]) fun BS Fs=>?_;simp[HF];refine YG (v:=v) rfl rfl rfl (by simp[Nu ((DO Nn Fs.ge _ (by omega)).trans GL)]) ?_;simp;refine SL (v:= .bool true) Fs Nl Kv (by simp[FP]) fun BR DL=>?_;simp[HF];refine YG (v:=v) rfl rfl rfl (by simp[Nu ((DO P2 DL.ge _ (by omega)).trans GL)]) ?_;simp[hlv,show Zj .gtr .i64 1 0=some (.bool true)from rfl];refine JP (v:= .tuple #[]) rfl rfl (by kernel_rfl) ?_;simp;refine⟨H4,by simp[IJ],q4,by omega,n4,?_⟩;rw[<-hG];subst ZH;apply Z8;simp[Rg];exact(Aj _ _).2 ⟨p5,q5,rfl,KG,p5G.mono (by omega) (.refl _),q5G.mono (by omega) (.refl _)⟩
end
end
end
end Go.Proofs.YtjboehpfojpimaaGreatDoor
namespace Go.Proofs.YtjboehpfojpimaaGreatDoor
open Go.ChangeShapes Go.WideShapes Go.ChangeAt Go.RowKit Go.Proofs.YtjboehpfojpimaaGreatDoor.Ev
set_option linter.unusedVariables false
noncomputable section
set_option linter.unusedSimpArgs false
set_option maxHeartbeats 2000000
set_option maxRecDepth 20000
def U3:List Int:=[0,1,56,2,57,49,28,3,61,58,42,50,38,29,17,4,62,47,59,36,45,43,51,22,53,39,33,30,24,18,12,5,63,55,48,27,60,41,37,16,46,35,44,21,52,32,23,11,54,26,40,15,34,20,31,10,25,14,19,9,13,8,7,6]
def XR:List Value:=U3.map fun x=> .int .u8 x
theorem KD{H:Type} :(Rows.laid_math_bits_deBruijn64tab:DataW H)= .agg (U3.map fun x=> .lit (.int .u8 x)):=rfl
theorem Cf:Tryz.prog.globalNamed "math/bits.deBruijn64tab"=some 0:=by kernel_rfl
theorem BF:(Tryz.prog.globals[0]?).map (·.type)=some 174:=by kernel_rfl
theorem BA:Tryz.prog.underlying 174=some (.array 64 5):=by kernel_rfl
theorem uU8:Tryz.prog.underlying 5=some (.int .u8):=by kernel_rfl
theorem cU8:Tryz.prog.cellsOf 5=1:=by kernel_rfl
theorem DC:Tryz.prog.cellsOf 174=64:=by kernel_rfl
section
variable {H : Type} {enc : TypeId × Value -> H} {w : World} {base : Nat} {sp : Nat -> Bool} {held : Bool}
theorem HI{fuel:Nat}{cs:List Value}{p:List MemPlace}(h:DataW.trod enc Tryz.prog w base sp held fuel 174 cs=some (Rows.laid_math_bits_deBruijn64tab,p)):cs=XR:=by
 obtain⟨xs,m,_,hx,hl,hn,Du⟩:=DataW.trod_array BA h;rw[DC]at hl;rw[KD]at hx;simp only[Prod.mk.injEq,DataW.agg.injEq]at hx;apply List.ext_getElem?;intro k;by_cases hk:k<64
 ·have h1:=Du k hk;rw[cU8,Nat.mul_one]at h1;have h2:(xs.map (·.1))[k]?=(U3.map fun x=>(DataW.lit (.int .u8 x):DataW H))[k]?:=by rw[<-hx.1]
  rw[List.getElem?_map,List.getElem?_map]at h2;have h3:XR[k]?=(U3[k]?).map fun x=> .int .u8 x:=by unfold XR;rw[List.getElem?_map]
  rw[h3];have hkd:k<U3.length:=hk;rw[List.getElem?_eq_getElem hkd]at h2⊢;cases Fi:xs[k]? with|none=>rw[Fi]at h2;cases h2|some y=>rw[Fi]at h1 h2;obtain⟨y1,y2⟩:=y;simp only[Option.map_some,Option.some.injEq]at h2;subst h2;obtain⟨n0,c0,x0,_⟩:=DataW.trod_int uU8 h1;simp only[Prod.mk.injEq,DataW.lit.injEq,Lit.int.injEq,true_and]at x0;obtain⟨e,_⟩:=x0;have h4:=congrArg (·[0]?) c0;simp only[List.getElem?_take,List.getElem?_drop,Nat.add_zero]at h4;rw[if_pos (by omega)]at h4;rw[h4,e];rfl
 ·rw[List.getElem?_eq_none (by omega),List.getElem?_eq_none (by show XR.length<=k;have:XR.length=64:=rfl;omega)]
end
theorem Je{W:World}(h:laidMetH Tryz.prog [("math/bits.deBruijn64tab",Rows.laid_math_bits_deBruijn64tab),("surd/expr.rows",Rows.laid_surd_expr_rows)] W):(∀k v,XR[k]?=some v->W.cell? ⟨0,k,none⟩=some v)/\ ∀k v,Xg[k]?=some v->W.cell? ⟨1,k,none⟩=some v:=by
 rw[MakeChecks.laidMetH_plain _ _ _ (by kernel_rfl)]at h;obtain⟨ps,⟨g1,t1,Uw,f1,p1,q1,Aw,ht1,hv1,Ec,⟨g0,t0,YK,f0,p0,q0,Av,Fg,hv0,Ar,_⟩,_⟩,_,_⟩:=h;obtain rfl:=Option.some.inj (FH.symm.trans Av);obtain rfl:=Option.some.inj (Dc.symm.trans Fg);obtain rfl:=Option.some.inj (Cf.symm.trans Aw);obtain rfl:=Option.some.inj (BF.symm.trans ht1);have hc:=IM Ar;have OW:=HI Ec;refine⟨fun k v hk=>?_,fun k v hk=>?_⟩;·rw[World.var?_cell Aw hv1 k,<-hk,<-OW];simp
 ·rw[World.var?_cell Av hv0 k,<-hk,<-hc];simp
def X4:AH:= { n:=1+1,lw:=1+1,t:=(Tr.nil.set 1 (.ro 3 Xg)).set 0 (.ro 1 XR) }
def Py:Nat->Ev.Loc:=fun i=>cond (Nat.beq i 0) ⟨i,0,1,64⟩ ⟨i,0,3,48⟩
theorem JG:GO Yg Jm Py:=fun g hg=>⟨hg,by unfold Py;cases Nat.beq g 0<;>rfl,by unfold Py;cases Nat.beq g 0<;>rfl⟩
theorem ML:XR.all Zq=true:=rfl
theorem QY{w:World}(h: ∀k v,Xg[k]?=some v->w.cell? ⟨1,k,none⟩=some v)(h': ∀k v,XR[k]?=some v->w.cell? ⟨0,k,none⟩=some v):Inv w.heap.size Jm Py X4 w:=by
 have Y0: ∀i b,X4.blk i=b->b≠ .dead->(i=0/\b= .ro 1 XR)\/(i=1/\b= .ro 3 Xg):=by
  intro i b hb hd;by_cases hi:i=0;·subst hi;exact .inl ⟨rfl,by rw[<-hb];rfl⟩
  ·by_cases UW:i=1;·subst UW;exact .inr ⟨rfl,by rw[<-hb];rfl⟩
   ·exfalso;apply hd;rw[<-hb];unfold AH.blk X4;simp only[Tr.get_set,if_neg hi,if_neg UW,Tr.get_nil]
 have Yz: ∀(g:Nat)(cs:List Value)(v:Value),cs[0]?=some v->(∀k v,cs[k]?=some v->w.cell? ⟨g,k,none⟩=some v)->g<w.heap.size:=by
  intro g cs v hv hh;have h0:=hh 0 _ hv;by_cases hx:g<w.heap.size;·exact hx
  ·exfalso;have:w.heap[g]?=none:=Array.getElem?_eq_none (by omega);simp[World.cell?,this]at h0
 refine⟨fun i sz cs hb=>?_,fun i sz cs hb=>?_,fun i j a b c d hb=>?_,fun i hi=>hi,Nat.le_refl _⟩
 ·rcases Y0 i _ hb (by intro e;cases e)with⟨rfl,he⟩|⟨rfl,he⟩
  ·cases he;refine⟨(by decide:0<1+1),Yz _ _ _ rfl h',rfl,fun k v hk=>⟨v,?_,?_⟩⟩;·show w.cell? ⟨0,0+k,none⟩=some v;rw[Nat.zero_add];exact h' k v hk
   ·exact T0 (List.all_eq_true.mp ML v (List.mem_of_getElem? hk))
  ·cases he;refine⟨Nat.lt_succ_self _,Yz _ _ _ rfl h,rfl,fun k v hk=>⟨v,?_,?_⟩⟩;·show w.cell? ⟨1,0+k,none⟩=some v;rw[Nat.zero_add];exact h k v hk
   ·exact T0 (List.all_eq_true.mp NO v (List.mem_of_getElem? hk))
 ·rcases Y0 i _ hb (by intro e;cases e)with⟨_,he⟩|⟨_,he⟩<;>cases he
 ·rcases Y0 i _ hb (by intro e;cases e)with⟨_,he⟩|⟨_,he⟩<;>cases he
theorem OM{n f:Nat}{fn:Func}{args:List Value}(hf:Tryz.prog.funcs[f]?=some fn)(hb:fn.body.isSome=true)(h:RZ (run Tryz.prog Yg n f args X4)=true)(hp:args.all Zq=true){w:World}(hL:laidMetH Tryz.prog [("math/bits.deBruijn64tab",Rows.laid_math_bits_deBruijn64tab),("surd/expr.rows",Rows.laid_surd_expr_rows)] w):Calls Tryz.prog f args.toArray w fun e w'=>e= .returned (.bool true)/\Below w.heap.size w w':=by obtain⟨H',hr⟩:=RG h;obtain⟨h1,h2⟩:=Je hL;have hI:=QY h2 h1;have hv:Wf Jm Py args args:=⟨rfl,fun k x y hx hy=>by obtain rfl:=Option.some.inj (hx.symm.trans hy);exact T0 (List.all_eq_true.mp hp x (List.mem_of_getElem? hx))⟩;have:=Qn (HK (1+1)) hr hf hb JG hI hv;refine this.mono fun e w' ⟨v',he,hg⟩=>?_;have Cq:=hg.below hI;obtain⟨L',_,_,hv⟩:=hg;cases hv;exact⟨he,Cq⟩
end
end Go.Proofs.YtjboehpfojpimaaGreatDoor
namespace Go.Proofs.YtjboehpfojpimaaGreatDoor
open Go Ev
set_option linter.unusedVariables false
set_option linter.unusedSimpArgs false
noncomputable section
set_option maxHeartbeats 2000000
set_option maxRecDepth 20000
def Jn(Dj:St->Bool):Option (Ev.Ex×St)->Bool|some (.norm,s)=>Dj s|_=>false
theorem EG{P:Program}{C:Cfg}{Sj:FuncId->List Value->AH->Option (Value×AH)}(ho:UR Sj (ZF P C)){n:Nat}{c:Code}{s:St}{Q:Ev.Ex->St->Prop}(Dj:St->Bool)(h:Jn Dj ((Hz P C Sj n).code c s)=true)(hq: ∀s',Dj s'=true->Q .norm s'):W P C c s Q:=by cases hr:(Hz P C Sj n).code c s with
 |none=>rw[hr]at h;cases h
 |some r=>obtain⟨e,s'⟩:=r;rw[hr]at h;cases e with|norm=>exact⟨_,_,(K7 ho n).code _ _ _ hr,hq _ h⟩|exit _=>cases h|ret=>cases h|pan _=>cases h
def Jj:Option Value->Option Nat|some (.pointer (some ⟨b,0,none⟩))=>some b|_=>none
theorem NU{v:Option Value}{b:Nat}(h:Jj v=some b):v=some (.pointer (some ⟨b,0,none⟩)):=by
 unfold Jj at h;split at h;·cases h;rfl
 ·cases h
def Jz:Option Value->Bool|some (.int .i64 z)=>decide (z=0)|_=>false
theorem NC{v:Option Value}(h:Jz v=true):v=some (.int .i64 0):=by
 unfold Jz at h;split at h;·rw[of_decide_eq_true h]
 ·cases h
def NW:VA->Option (Bool×Value)| .rw 1 [.bool x,v]=>some (x,v)|_=>none
theorem Oa{b:VA}{x:Bool}{v:Value}(h:NW b=some (x,v)):b= .rw 1 [.bool x,v]:=by
 unfold NW at h;split at h;·cases h;rfl
 ·cases h
def L7(s:St):Bool:=Nat.beq s.k 36&&(Jz (s.tm.get 2)&&match Jj (s.tm.get 1)with
 |some b=>Nat.blt b s.H.n&&(match NW (s.H.blk b)with
  |some (x,v)=>!x&&(match X8 s.H v with|some xs=>decide (xs=[341])|none=>false)
  |none=>false)
 |none=>false)
theorem MO{s:St}(h:L7 s=true):s.k=36/\s.tm.get 2=some (.int .i64 0)/\ ∃b v,s.tm.get 1=some (.pointer (some ⟨b,0,none⟩))/\b<s.H.n/\s.H.blk b= .rw 1 [.bool false,v]/\Sl s.H v [341]:=by
 unfold L7 at h;rw[Bool.and_eq_true,Bool.and_eq_true]at h;obtain⟨h1,h2,h3⟩:=h;refine⟨Nat.eq_of_beq_eq_true h1,NC h2,?_⟩;split at h3
 ·rename_i b hb;rw[Bool.and_eq_true]at h3;obtain⟨h3,h4⟩:=h3;split at h4
  ·rename_i x v hp;rw[Bool.and_eq_true]at h4;obtain⟨h4,h5⟩:=h4;split at h5;·rename_i xs hx;obtain rfl:=of_decide_eq_true h5;cases x with|true=>cases h4|false=>exact⟨b,v,NU hb,by simpa[Nat.blt_eq]using h3,Oa hp,(YQ hx).1⟩
   ·cases h5
  ·cases h4
 ·cases h3
def OP:Code:=match Tryz.f8.body with|some (.seq _ (.seq r _))=>r|_=> .skip
def OO(H:AH):St:= { k:=36,tm:=Tr.nil.set 0 (.bool false),H:=H }
theorem RR{H:AH}{sz:Nat}{zs ws:List Value}{t:TypeId}{n:Nat}(ht:YE Tryz.prog t=some n)(hz:zs.length=n){v:Value}(hv:v.cells.toList=ws)(hw:ws.length=n)(h1:ws.all one=true)(AM:sz≠0:=by decide): ∃H',YP Tryz.prog (H.new sz zs) t (.pointer (some ⟨H.n,0,none⟩)) v=some H'/\ZQ H H'/\H'.blk H.n= .rw sz ws/\H'.n=H.n+1:=by
 obtain⟨sz,rfl⟩: ∃k,sz=k+1:=⟨sz-1,by omega⟩;have hb:(H.new (sz+1) zs).blk H.n= .rw (sz+1) zs:=by rw[AH.blk_new,if_pos rfl]
 have hs:v.cells.size=n:=by rw[<-hw,<-hv];simp
 have hle:Nat.ble (0+ws.length) zs.length=true:=Nat.ble_eq.mpr (by omega);refine⟨{ n:=H.n+1,lw:=min H.lw H.n,t:=(H.new (sz+1) zs).t.set H.n (.rw (sz+1) ws) },?_,⟨Nat.le_succ _,Nat.le_refl _,fun j hj=>?_⟩,?_,rfl⟩;·unfold YP;simp only[ht,hs,hv];rw[show Nat.beq n n=true from by simp,cond_true,AH.write_def,hb];simp only[hle,h1,Bool.and_self,cond_true,List.take_zero,List.nil_append];rw[List.drop_of_length_le (by omega),List.append_nil];rfl
 ·unfold AH.blk AH.new;simp only[Tr.get_set];rw[if_neg (by omega),if_neg (by omega)]
 ·unfold AH.blk;simp only[Tr.get_set,if_true]
theorem GX{H:AH}{p q r:Value}(h:LD p q r): ∃H',YP Tryz.prog (H.new 1 [.bool false,.slice none 0 0,.slice none 0 0]) 54 (.pointer (some ⟨H.n,0,none⟩)) (.agg #[p,q,r])=some H'/\ZQ H H'/\H'.blk H.n= .rw 1 [p,q,r]/\H'.n=H.n+1:=by obtain⟨⟨s,rfl⟩,⟨a1,l1,c1,rfl⟩,⟨a2,l2,c2,rfl⟩⟩:=h;exact RR sR rfl rfl rfl rfl
section
attribute [-simp] Int.natCast_add Int.natCast_mul Int.natCast_ediv Int.natCast_emod Int.natCast_pow
attribute [local simp] strip Zt YR LR gW ZZ ZO Zk ZN Zv ZM Ze Zf Zb Zw ZT Zs ZI Zi Zx Zc Za ZJ ZK Yo Zn ZS Yd ZC Zu plain Zq Tr.get_set ZA Zd Z5 Zl sameKind undef Zh Zy ZR ZU Zm parts Xd DW ZL Zg LX Zo
attribute [local simp] Z4 Yn XW
section
theorem KC:(ds ZV 341).length<=Su:=by decide+kernel
theorem Mn:(ds ZV 1).length<=Su:=by decide+kernel
theorem Gx:(ds ZV 340).length<=Su:=by decide+kernel
theorem Gy:(ds ZV 343).length<=Su:=by decide+kernel
theorem JI(Ha:AH)(hr:Jn L7 ((Hz Tryz.prog Yg Iw 100000).code OP (OO Ha))=true): ∃H',ZF Tryz.prog Yg 8 [] Ha=some (.bool true,H'):=by
 suffices hs:CW Tryz.prog Yg 8 [] Ha fun x H'=>x= .bool true by obtain⟨x,H',hc,rfl⟩:=hs;exact⟨H',hc⟩
 refine YH 36 Tryz.func8 ?_;apply ZX;intro b1 ZH;simp;subst ZH;apply Zz;intro b1 ZH;refine EG (c:=OP) (s:=OO Ha) Ix L7 hr ?_;rintro⟨k,tm,H1⟩ hc;obtain⟨hk,u2,b,v,u1,Cs,hb,hv⟩:=MO hc;simp only at hk u2 u1 Cs hb hv;subst hk;subst ZH;have z1:=EJ hb;have K:=(ZQ.refl H1);obtain⟨p,q,H3,c3,k3,o1,o2⟩:=RJ (hv.keep K);have n3:=k3.n;replace hb:=k3.q hb;obtain⟨H4,IJ,k4,q4,n4⟩:=GX (H:=H3) (p:= .bool false) ⟨⟨_,rfl⟩,o1.shape,o2.shape⟩;replace hb:=k4.q hb;replace o1:=o1.m k4;replace o2:=o2.m k4;have AB:=q4;have DO: ∀{J:AH}(k:ZQ H4 J){bits ms},(∀x∈ms,H4.n<=x.2.1)-> ∀b,b<H4.n->(Pd J bits ms).blk b=H4.blk b:=fun k _ _ h b hb=>(Uc k h).blk b hb;obtain⟨p1,p2,Ia1,HJ,P0,y1,y2⟩:=Tx (H:=H4.top) (n:=340) (by decide);obtain⟨Ja1,M5,Lf,ma1⟩:=cg P0;have KE:=Lf;have BO:=KE.n;replace o1:=o1.m Lf;replace o2:=o2.m Lf;replace y1:=y1.gr P0 M5;replace y2:=y2.gr P0 M5;replace HJ:ZF _ _ _ [Value.int .i64 340] _=_:=HJ;obtain⟨Ia2,GA,Nk⟩:=Tw false false o1.sl.top o2.sl.top y1.sl.top y2.sl.top KC Mn Gx Mn;obtain⟨B5,Ku,Lg,ma2⟩:=cg Nk;have Nn:=KE.trans Lg;have BN:=Nn.n;replace o1:=o1.m Lg;replace o2:=o2.m Lg;obtain⟨p3,p4,Ia3,FP,Nl,y3,y4⟩:=Tx (H:=B5.top) (n:=343) (by decide);obtain⟨LY,Kv,Nm,ma3⟩:=cg Nl;have P2:=Nn.trans Nm;have BM:=P2.n;replace o1:=o1.m Nm;replace o2:=o2.m Nm;replace y3:=y3.gr Nl Kv;replace y4:=y4.gr Nl Kv;replace FP:ZF _ _ _ [Value.int .i64 343] _=_:=FP;obtain⟨Ia4,Ad,EN⟩:=Tw false false o1.sl.top o2.sl.top y3.sl.top y4.sl.top KC Mn Gy Mn;obtain⟨Ja4,Ck,BZ,ma4⟩:=cg EN;have BW:=P2.trans BZ;have nka4:=BW.n;have g1:PY false 341 1 false 340 1=1:=by decide+kernel
 have g2:PY false 341 1 false 343 1= -1:=by decide+kernel
 rw[g1]at GA;rw[g2]at Ad;apply ZX;intro b1 ZH;simp[u1,z1,c3,zR,Value.cells,IJ];subst ZH;apply Zz;intro b1 ZH;apply SJ (by kernel_rfl);simp[u2];refine IC (v:= .int .i64 0) (by simp[Ru]) ?_ (hg:=by simp);simp[show Zj .eql .i64 0 0=some (.bool true)from rfl];refine IC (v:= .agg #[.bool false,p,q]) (by simp[Tm (H:=AH.top H4) AB]) ?_ (hg:=by simp);simp;refine SL (v:= .agg #[.bool false,p1,p2]) (Uv.nil H4.n) P0 M5 (by simp[HJ]) (hg:=by simp) fun BT DM=>?_;simp;refine SL (v:= .int .i64 1) DM Nk Ku (by simp[GA]) (hg:=by simp) fun BS Fs=>?_;simp[show Zj .gtr .i64 1 0=some (.bool true)from rfl];refine YG (v:= .agg #[.bool false,p,q]) (by simp) rfl rfl (by simp[Tm ((DO Nn Fs.ge _ (by omega)).trans AB)]) ?_;simp;refine SL (v:= .agg #[.bool false,p3,p4]) Fs Nl Kv (by simp[FP]) (hg:=by simp) fun BR DL=>?_;simp;refine SL (v:= .int .i64 (-1)) DL EN Ck (by simp[Ad]) (hg:=by simp) fun msa4 Ma4=>?_;simp[show Zj .lss .i64 (-1) 0=some (.bool true)from rfl];subst ZH;apply Z8;simp
end
end
end
end Go.Proofs.YtjboehpfojpimaaGreatDoor
namespace Go.Proofs.YtjboehpfojpimaaGreatDoor
open Go Ev
set_option linter.unusedVariables false
set_option maxHeartbeats 2000000
set_option maxRecDepth 20000
theorem ON:Jn L7 ((Hz Tryz.prog Yg Iw 100000).code OP (OO X4))=true:=by kernel_rfl
end Go.Proofs.YtjboehpfojpimaaGreatDoor
namespace Go.Proofs.YtjboehpfojpimaaGreatDoor
open Go Ev
set_option linter.unusedVariables false
set_option linter.unusedSimpArgs false
noncomputable section
set_option maxHeartbeats 2000000
set_option maxRecDepth 20000
section
attribute [-simp] Int.natCast_add Int.natCast_mul Int.natCast_ediv Int.natCast_emod Int.natCast_pow
attribute [local simp] strip Zt YR LR gW ZZ ZO Zk ZN Zv ZM Ze Zf Zb Zw ZT Zs ZI Zi Zx Zc Za ZJ ZK Yo Zn ZS Yd ZC Zu plain Zq Tr.get_set ZA Zd Z5 Zl sameKind undef Zh Zy ZR ZU Zm parts Xd DW ZL Zg LX Zo
attribute [local simp] Z4 Yn XW
section
theorem Iu: ∃H',ZF Tryz.prog Yg 4 [] X4=some (.bool true,H'):=by
 suffices hs:CW Tryz.prog Yg 4 [] X4 fun x H'=>x= .bool true by obtain⟨x,H',hc,rfl⟩:=hs;exact⟨H',hc⟩
 obtain⟨H1,c1⟩:=JI X4 ON;obtain⟨Hb,hHb⟩:=hid X4;rw[<-hHb]at c1⊢;refine YH 16 Tryz.func4 ?_;apply ZX;intro b1 ZH;simp;subst ZH;apply ZX;intro b1 ZH;simp[Ru,show Zj .eql .i64 200 200=some (.bool true)from rfl,show Zj .eql .i64 201 201=some (.bool true)from rfl,c1];subst ZH;apply Z8;simp
end
end
end
end Go.Proofs.YtjboehpfojpimaaGreatDoor
