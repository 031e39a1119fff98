/-
  The engine and the walks that the claim's last text leans on, part 9 of 9: Ze, Zf, Zg, Zh, Zi, Uz, Va, Vb, Zj, Zk, Zl, Wa, Wb, Wd, We, Wf, Vc, Ve, Vf, Wh, Wi, Zm, Kept, ArgsA, Tf, Tg.
-/
import Derived.Test.YtmkfecoeghokfaaGreatDoorM8
import Derived.Carry
import Derived.Deep.Slices
import Derived.JoinedCond
namespace Go.Proofs.YtmkfecoeghokfaaGreatDoor
open Go Ev
set_option linter.unusedVariables false
set_option linter.unusedSimpArgs false
noncomputable section
set_option maxHeartbeats 2000000
set_option maxRecDepth 20000
theorem Af{s t:Bool}{A B C D X Y:Nat}(hB:0<B)(hD:0<D)(hX:X=A*D)(hY:Y=C*B)(h:(if s then-(X:Int)else X)<=(if t then-(Y:Int)else Y)):VB s A B t C D<=0:=by
 have hA:A=0↔X=0:=by
  rw[hX];constructor;·intro e;rw[e,Nat.zero_mul]
  ·intro e;rcases Nat.mul_eq_zero.mp e with e|e;·exact e
   ·omega
 have hC:C=0↔Y=0:=by
  rw[hY];constructor;·intro e;rw[e,Nat.zero_mul]
  ·intro e;rcases Nat.mul_eq_zero.mp e with e|e;·exact e
   ·omega
 unfold VB Xy XL;rw[<-hX,<-hY];simp only[hA,hC];cases s<;>cases t<;>simp at h⊢ <;>(by_cases h1:X=0<;>by_cases h2:Y=0<;>simp[h1,h2]<;>(try split)<;>(try split)<;>omega)
theorem Ah{N D Q E P N' D':Nat}(hP:0<P)(h:N*P<=(Q+E)*D)(hx:N'*P=(Q+E)*D'):N*D'<=N'*D:=by apply Nat.le_of_mul_le_mul_right _ hP;have h1:N*D'*P=N*P*D':=Nat.mul_right_comm _ _ _;have h2:=Nat.mul_le_mul_right D' h;have h3:(Q+E)*D*D'=(Q+E)*D'*D:=Nat.mul_right_comm _ _ _;have h4:N'*P*D=N'*D*P:=Nat.mul_right_comm _ _ _;rw[h1,<-h4,hx,<-h3];exact h2
theorem Ag{N D Q E P N' D':Nat}(hP:0<P)(h:Q*D<=N*P)(hx:N'*P=(Q-E)*D'):N'*D<=N*D':=by apply Nat.le_of_mul_le_mul_right _ hP;have h1:N*D'*P=N*P*D':=Nat.mul_right_comm _ _ _;have h2:=Nat.mul_le_mul_right D' (Nat.le_trans (Nat.mul_le_mul_right D (Nat.sub_le Q E)) h);have h3:(Q-E)*D*D'=(Q-E)*D'*D:=Nat.mul_right_comm _ _ _;have h4:N'*P*D=N'*D*P:=Nat.mul_right_comm _ _ _;rw[h1,<-h4,hx,<-h3];exact h2
theorem jz(N D:Nat):N*2^256/D*D<=N*2^256:=Nat.div_mul_le_self _ _
theorem jy{N D:Nat}(hD:0<D):N*2^256<=(N*2^256/D+Oi N D)*D:=by
 have h:=Nat.div_add_mod (N*2^256) D;have h2:=Nat.mod_lt (N*2^256) hD;unfold Oi;generalize N*2^256=X at*;rw[Nat.mul_comm D]at h;split;·rw[Nat.add_zero];omega
 ·rw[Nat.add_mul,Nat.one_mul];omega
theorem lo_le{s t:Bool}{N D N' D':Nat}{r:Bool×Nat}(hr:r=Xj s (N*2^256/D) true (Oi N D))(hD:0<D)(K8:0<D')(hx:N'*2^256=r.2*D')(ht:t=r.1\/N'=0):VB t N' D' s N D<=0:=by
 have hP:0<2^256:=Nat.two_pow_pos _;have h1:=jz N D;have h2:=jy (N:=N) hD;generalize hQ:N*2^256/D=Q at*;generalize hE:Oi N D=E at*;generalize(2:Nat)^256=P at*;refine Af K8 hD rfl rfl ?_;have z:N'=0->N'*D=0:=fun e=>by rw[e,Nat.zero_mul]
 cases s
 ·by_cases hle:E<=Q
  ·have e:r=(false,Q-E):=by rw[hr];unfold Xj;rw[if_neg (by decide),if_pos hle]
   rw[e]at hx ht;have:=Ag (N':=N') (D':=D') hP h1 hx;cases t<;>simp<;>omega
  ·have e:r=(true,E-Q):=by rw[hr];unfold Xj;rw[if_neg (by decide),if_neg hle]
   rw[e]at ht;rcases ht with rfl|h;·generalize N'*D=X;generalize N*D'=Y;simp<;>omega
   ·rw[z h];generalize N*D'=Y;cases t<;>simp<;>omega
 ·have e:r=(true,Q+E):=by rw[hr];unfold Xj;rw[if_pos rfl]
  rw[e]at hx ht;have:=Ah (N':=N') (D':=D') hP h2 hx;rcases ht with rfl|h;·simp;omega
  ·have:=z h;cases t<;>simp<;>omega
theorem yV{s t:Bool}{N D N' D':Nat}{r:Bool×Nat}(hr:r=Xj s (N*2^256/D) false (Oi N D))(hD:0<D)(K8:0<D')(hx:N'*2^256=r.2*D')(ht:t=r.1\/N'=0):VB s N D t N' D'<=0:=by
 have hP:0<2^256:=Nat.two_pow_pos _;have h1:=jz N D;have h2:=jy (N:=N) hD;generalize hQ:N*2^256/D=Q at*;generalize hE:Oi N D=E at*;generalize(2:Nat)^256=P at*;refine Af hD K8 rfl rfl ?_;have z:N'=0->N'*D=0:=fun e=>by rw[e,Nat.zero_mul]
 cases s
 ·have e:r=(false,Q+E):=by rw[hr];unfold Xj;rw[if_pos rfl]
  rw[e]at hx ht;have:=Ah (N':=N') (D':=D') hP h2 hx;rcases ht with rfl|h;·simp;omega
  ·have:=z h;cases t<;>simp<;>omega
 ·by_cases hle:E<=Q
  ·have e:r=(true,Q-E):=by rw[hr];unfold Xj;rw[if_neg (by decide),if_pos hle]
   rw[e]at hx ht;have:=Ag (N':=N') (D':=D') hP h1 hx;cases t<;>simp<;>omega
  ·have e:r=(false,E-Q):=by rw[hr];unfold Xj;rw[if_neg (by decide),if_neg hle]
   rw[e]at ht;rcases ht with rfl|h;·generalize N'*D=X;generalize N*D'=Y;simp<;>omega
   ·rw[z h];generalize N*D'=Y;cases t<;>simp<;>omega
abbrev FY:List Value:=[.int .i64 0,.int .i64 0,.bool false,.slice none 0 0,.slice none 0 0,.bool false,.bool false,.slice none 0 0,.slice none 0 0]
theorem aj:Xk Tryz.prog 64=some 9:=by kernel_rfl
theorem rk:Xx Tryz.prog 64=some true:=by kernel_rfl
theorem lj:WA Tryz.prog 64=some (.agg FY.toArray):=by kernel_rfl
theorem xy(b o:Nat):Yc Tryz.prog 64 (.pointer (some ⟨b,o,none⟩)) 0=some (.pointer (some ⟨b,o,none⟩)):=by kernel_rfl
theorem faV1(b o:Nat):Yc Tryz.prog 64 (.pointer (some ⟨b,o,none⟩)) 1=some (.pointer (some ⟨b,o+1,none⟩)):=by kernel_rfl
theorem faV2(b o:Nat):Yc Tryz.prog 64 (.pointer (some ⟨b,o,none⟩)) 2=some (.pointer (some ⟨b,o+5,none⟩)):=by kernel_rfl
theorem xZ(b o:Nat):Yc Tryz.prog 64 (.pointer (some ⟨b,o,none⟩)) 3=some (.pointer (some ⟨b,o+6,none⟩)):=by kernel_rfl
section
variable {H : AH} {b : Nat} {k l m q e f n u v : Value}
theorem Qq{vs:List Value}(hb:H.blk b= .rw 1 vs)(hl:vs.length=9):Z4 Tryz.prog H 64 (.pointer (some ⟨b,0,none⟩))=some (.agg vs.toArray):=XR hb (by decide) (by rw[List.drop_zero,List.take_of_length_le (by omega)]) hl rk aj
theorem iH(hb:H.blk b= .rw 1 [k,l,m,q,e,f,n,u,v]):Z4 Tryz.prog H 3 (.pointer (some ⟨b,0,none⟩))=some k:=Yb LN (AH.cells_rw' hb (by decide)) rfl
theorem Bc(hb:H.blk b= .rw 1 [k,l,m,q,e,f,n,u,v]):Z4 Tryz.prog H 4 (.pointer (some ⟨b,0+5,none⟩))=some f:=Yb Kz (AH.cells_rw' hb (by decide)) rfl
theorem iG(hb:H.blk b= .rw 1 [k,l,m,q,e,f,n,u,v]):Z4 Tryz.prog H 42 (.pointer (some ⟨b,0+6,none⟩))=some (.agg #[n,u,v]):=XR hb (by decide) rfl rfl aR sR
theorem nR{vs:List Value}(hl:vs.length=9)(h:vs.all one=true): ∃H',YZ Tryz.prog (H.new 1 FY) 64 (.pointer (some ⟨H.n,0,none⟩)) (.agg vs.toArray)=some H'/\Zg H H'/\H'.blk H.n= .rw 1 vs/\H'.n=H.n+1:=Y6 aj rfl (by simp[Value.cells]) hl h
theorem ux{vs ws:List Value}(hb:H.blk b= .rw 1 vs)(hv:vs.length=9)(hl:ws.length=9)(h:ws.all one=true): ∃H',YZ Tryz.prog H 64 (.pointer (some ⟨b,0,none⟩)) (.agg ws.toArray)=some H'/\H'.n=H.n/\H'.blk b= .rw 1 ws/\(∀j,j≠b->H'.blk j=H.blk j)/\UR b H H':=TB aj hb hv (by simp[Value.cells]) hl h
theorem Dg{vs ws:List Value}(hb:H.blk b= .rw 1 vs)(hv:vs.length=9)(JB:b<H.n)(hl:ws.length=9)(h:ws.all one=true): ∃H2,YZ Tryz.prog H.top 64 (.pointer (some ⟨b,0,none⟩)) (.agg ws.toArray)=some H2/\H2.n=H.n/\H2.lw<H.n/\(low H H2).n=H.n/\(low H H2).blk b= .rw 1 ws/\(∀j,j≠b->(low H H2).blk j=H.blk j)/\UR b H (low H H2):=Uo aj hb JB hv (by simp[Value.cells]) hl h
theorem bV{s:Bool}(hq: ∃a l c,q= .slice a l c)(he: ∃a l c,e= .slice a l c)(hu: ∃a l c,u= .slice a l c)(hv: ∃a l c,v= .slice a l c):Wi Tryz.prog 64 [(1,.agg #[.int .i64 256,.bool s,q,e]),(2,.bool true),(3,.agg #[.bool s,u,v])]=some (.agg #[.int .i64 0,.int .i64 256,.bool s,q,e,.bool true,.bool s,u,v]):=by obtain⟨a,l,c,rfl⟩:=hq;obtain⟨a,l,c,rfl⟩:=he;obtain⟨a,l,c,rfl⟩:=hu;obtain⟨a,l,c,rfl⟩:=hv;kernel_rfl
end
def Rh(H:AH)(vs:List Value)(s:Bool)(N D:Nat):Prop:= ∃q e u v,vs=[.int .i64 0,.int .i64 256,.bool s,q,e,.bool true,.bool s,u,v]/\Sl H q (ds ZF (N*2^256/D))/\Sl H e (ds ZF (Oi N D))/\Sl H u (ds ZF N)/\Sl H v (ds ZF D)/\Zm N<=67108864/\Zm D<=67108864/\U4 s N D
theorem Rh.len{H:AH}{vs:List Value}{s:Bool}{N D:Nat}(h:Rh H vs s N D):vs.length=9:=by obtain⟨q,e,u,v,rfl,_⟩:=h;rfl
theorem FP{s:Bool}{q e u v:Value}(hq: ∃a l c,q= .slice a l c)(he: ∃a l c,e= .slice a l c)(hu: ∃a l c,u= .slice a l c)(hv: ∃a l c,v= .slice a l c):[Value.int .i64 0,.int .i64 256,.bool s,q,e,.bool true,.bool s,u,v].all one=true/\noU [Value.int .i64 0,.int .i64 256,.bool s,q,e,.bool true,.bool s,u,v]=true:=by obtain⟨a,l,c,rfl⟩:=hq;obtain⟨a,l,c,rfl⟩:=he;obtain⟨a,l,c,rfl⟩:=hu;obtain⟨a,l,c,rfl⟩:=hv;exact⟨rfl,rfl⟩
theorem Rh.ones{H:AH}{vs:List Value}{s:Bool}{N D:Nat}(h:Rh H vs s N D):vs.all one=true:=by obtain⟨q,e,u,v,rfl,h1,h2,h3,h4,_⟩:=h;exact(FP h1.shape h2.shape h3.shape h4.shape).1
theorem Rh.noU{H:AH}{vs:List Value}{s:Bool}{N D:Nat}(h:Rh H vs s N D):noU vs=true:=by obtain⟨q,e,u,v,rfl,h1,h2,h3,h4,_⟩:=h;exact(FP h1.shape h2.shape h3.shape h4.shape).2
theorem Rh.fr{H H':AH}{vs:List Value}{s:Bool}{N D:Nat}(h:Rh H vs s N D)(f:Fr H H'):Rh H' vs s N D:=by obtain⟨q,e,u,v,rfl,h1,h2,h3,h4,h5⟩:=h;exact⟨q,e,u,v,rfl,h1.fr f,h2.fr f,h3.fr f,h4.fr f,h5⟩
def Pq(Q:Nat->Prop)(n:Nat)(vs:List Value):Prop:= ∀v∈vs,∀b,YJ v=some b->Q b\/n<=b
theorem Pq.mono{Q:Nat->Prop}{n m:Nat}{vs:List Value}(h:Pq Q m vs)(hn:n<=m):Pq Q n vs:=fun v hv b hb=>(h v hv b hb).imp id (Nat.le_trans hn)
theorem Pq.nine{Q:Nat->Prop}{n:Nat}{s t:Bool}{q e u v:Value}(hq:Pq Q n [q])(he:Pq Q n [e])(hu:Pq Q n [u])(hv:Pq Q n [v]):Pq Q n [.int .i64 0,.int .i64 256,.bool s,q,e,.bool true,.bool t,u,v]:=by
 intro x hx;simp only[List.mem_cons,List.not_mem_nil,or_false]at hx;rcases hx with rfl|rfl|rfl|rfl|rfl|rfl|rfl|rfl|rfl;·intro c hc;cases hc
 ·intro c hc;cases hc
 ·intro c hc;cases hc
 ·exact hq _ (by simp)
 ·exact he _ (by simp)
 ·intro c hc;cases hc
 ·intro c hc;cases hc
 ·exact hu _ (by simp)
 ·exact hv _ (by simp)
theorem Ym.pq{Q:Nat->Prop}{n m:Nat}{H:AH}{v:Value}{xs:List Nat}(h:Ym m H v xs)(hn:n<=m):Pq Q n [v]:=fun x hx c hc=>by rw[List.mem_singleton.mp hx]at hc;exact .inr (Nat.le_trans hn (h.blk_lo hc).1)
theorem Pq.nil{Q:Nat->Prop}{n:Nat} :Pq Q n [.slice none 0 0]:=fun x hx c hc=>by rw[List.mem_singleton.mp hx]at hc;cases hc
section
attribute [-simp] Int.natCast_add Int.natCast_mul Int.natCast_ediv Int.natCast_emod Int.natCast_pow
attribute [local simp] strip ZR Xm LR gW Z2 Ye ZW Yf ZK Yg Zs Zt Zi ZJ Ya ZP ZA Zl ZI Zj Zf ZB ZC YV Zo Yd YE Yy ZL plain ZO Tr.get_set Yw Zp Ys ZT sameKind undef Zw ZH Z5 Zv ZU parts XZ DW Yh Zz LX ZZ
section
variable {H : AH} {u v w z : Value}
theorem Vc(s:Bool){N D:Nat}(hn:Sl H u (ds ZF N))(hd:Sl H v (ds ZF D))(lN:Zm N<=67108864)(lD:Zm D<=67108864)(Sb:U4 s N D): ∃q e H',ZY Tryz.prog Zy 131 [.agg #[.bool s,u,v],.int .i64 256] H=some (.agg #[.int .i64 0,.int .i64 256,.bool s,q,e,.bool true,.bool s,u,v],H')/\Zg H H'/\Ym H.n H' q (ds ZF (N*2^256/D))/\Ym H.n H' e (ds ZF (Oi N D)):=by
 obtain⟨Po,T2⟩: ∃Po:Value->AH->Prop,∀x H',Po x H'↔ ∃q e,x= .agg #[.int .i64 0,.int .i64 256,.bool s,q,e,.bool true,.bool s,u,v]/\Zg H H'/\Ym H.n H' q (ds ZF (N*2^256/D))/\Ym H.n H' e (ds ZF (Oi N D)):=⟨_,fun _ _=>Iff.rfl⟩;suffices hs:CW Tryz.prog Zy 131 [.agg #[.bool s,u,v],.int .i64 256] H Po by obtain⟨y,H',hc,hh⟩:=hs;obtain⟨q,e,rfl,k⟩:=(T2 _ _).1 hh;exact⟨q,e,H',hc,k⟩
 obtain⟨H2,e2,k2,n2,q0,q1⟩:=Y9 H [.bool s,u,v] FY;have c1:=TO (hn.keep k2) (Nat.le_trans (Xe (by omega)) (by decide));have c2:=TO (hd.keep k2) (Nat.le_trans (Xe (by omega)) (by decide));have g1:Zd .gtr .i64 (Zm N:Int) 67108864=some (.bool false):=(WW (y:=67108864)).trans (by simp;omega);have g2:Zd .gtr .i64 (Zm D:Int) 67108864=some (.bool false):=(WW (y:=67108864)).trans (by simp;omega);refine Z8 24 Tryz.func131 ?_;apply Zb;intro b1 Ze;simp[Value.cells,zR,lj,FY,XV,e2];subst Ze;apply Zh;intro b1 Ze;apply Zb;intro b2 Zx;simp[QG,Vy q0,c1,g1,Ok,VM q0,c2,g2];subst Zx;refine Za (t:=false) (by simp) ?_;apply Zr;subst Ze;have K:=k2;have L6:=q0;have Nm: ∀{J:AH}(k:Zg H2 J){bits ms},(∀x∈ms,H2.n<=x.2.1)-> ∀b,b<H2.n->(RP J bits ms).blk b=H2.blk b:=fun k _ _ h b hb=>(Y1 k h).blk b hb;obtain⟨q,e,HC,UP,YA,oq,oe⟩:=Fa s ((hn.keep K).top) ((hd.keep K).top) lN lD Sb.2;obtain⟨LP,Xw,XN,GG⟩:=cg YA;have Xr:=XN;have Qt:=Xr.n;have K:=K.trans XN;replace oq:=oq.gr YA Xw;replace oe:=oe.gr YA Xw;have ig:=hn.shape;have hv':=hd.shape;have hb:=bV (s:=s) oq.shape oe.shape ig hv';have h9:=FP (s:=s) oq.shape oe.shape ig hv';replace q1:=Xr.q q1;obtain⟨Mp,Ve,Tp,Vd,XT,q1,Xn,W9⟩:=Dg (ws:=[.int .i64 0,.int .i64 256,.bool s,q,e,.bool true,.bool s,u,v]) q1 rfl (by omega) rfl h9.1;obtain⟨FW,Va⟩:=hid (low LP Mp);rw[<-Va]at XT q1 Xn W9;have K:=W9 _ K (by omega);replace oq:=oq.off (b:=H.n+1) (by first|omega|(show _<AH.n _;omega)) XT Xn;replace oe:=oe.off (b:=H.n+1) (by first|omega|(show _<AH.n _;omega)) XT Xn;have YD:=Qq q1 rfl;apply Zh;intro b1 Ze;apply YI (by kernel_rfl);simp;refine Wn (v:= .agg #[.bool s,u,v]) (by simp[Y3 (H:=AH.top H2) L6]) ?_;simp;refine YF (v:= .agg #[.int .i64 256,.bool s,q,e]) (Wz.nil H2.n) YA Xw (by simp[UP]) fun Qr Sp=>?_;simp;refine Z0 (v:= .agg #[.bool s,u,v]) rfl rfl rfl (by simp[Y3 ((Nm Xr Sp.ge _ (by omega)).trans L6)]) ?_;simp[hb];refine Us (v:= .tuple #[]) Sp Tp Vd Va (by simp[Ve]) ?_;simp;subst Ze;apply Zu;simp[YD];exact(T2 _ _).2 ⟨q,e,rfl,K,oq.mono (by omega) (.refl _),oe.mono (by omega) (.refl _)⟩
theorem IY{Q:Nat->Prop}{m:Nat}(s:Bool){N D:Nat}(hn:Sl H u (ds ZF N))(hd:Sl H v (ds ZF D))(lN:Zm N<=67108864)(lD:Zm D<=67108864)(Sb:U4 s N D)(hm:m<=H.n)(hu:Pq Q m [u])(hv:Pq Q m [v]):CW Tryz.prog Zy 131 [.agg #[.bool s,u,v],.int .i64 256] H fun x H'=> ∃vs,x= .agg vs.toArray/\Zg H H'/\Rh H' vs s N D/\Pq Q m vs:=by obtain⟨q,e,H',c,k,oq,oe⟩:=Vc s hn hd lN lD Sb;exact⟨_,H',c,_,rfl,k,⟨q,e,u,v,rfl,oq.sl,oe.sl,hn.keep k,hd.keep k,lN,lD,Sb⟩,(oq.pq hm).nine (oe.pq hm) hu hv⟩
end
section
variable {H : AH} {u v w z : Value}
theorem JN{s:Bool}{A B:Nat}{R:Bool×Nat×Nat}(ha:Sl H u (ds ZF A))(hb:Sl H v (ds ZF B))(lA:Zm A<=67108864)(lB:Zm B<=67108864)(hBp:0<B)(hR:U7 (s,A,B)=some R): ∃p q H',ZY Tryz.prog Zy 209 [.agg #[.bool s,u,v]] H=some (.tuple #[.agg #[.bool R.1,p,q],.bool true],H')/\Zg H H'/\Ym H.n H' p (ds ZF R.2.1)/\Ym H.n H' q (ds ZF R.2.2):=by
 obtain⟨Po,T2⟩: ∃Po:Value->AH->Prop,∀y H',Po y H'↔ ∃p q,y= .tuple #[.agg #[.bool R.1,p,q],.bool true]/\Zg H H'/\Ym H.n H' p (ds ZF R.2.1)/\Ym H.n H' q (ds ZF R.2.2):=⟨_,fun _ _=>Iff.rfl⟩;suffices hs:CW Tryz.prog Zy 209 [.agg #[.bool s,u,v]] H Po by obtain⟨y,H',hc,hh⟩:=hs;obtain⟨p,q,rfl,k⟩:=(T2 _ _).1 hh;exact⟨p,q,H',hc,k⟩
 have hQ:(rt A*rt A=A/\rt B*rt B=B)/\R=Z6 false (rt A) (rt B):=by
  unfold U7 at hR;split at hR;·cases hR
  ·split at hR;·exact⟨by assumption,(Option.some.inj hR).symm⟩
   ·cases hR
 obtain⟨⟨hA,hB⟩,xA⟩:=hQ;obtain⟨H2,e2,k2,n2,q0,q1⟩:=Y9 H [.bool s,u,v] [.bool false,.slice none 0 0,.slice none 0 0];have rA:=(Dx A).1;have rB:=(Dx B).1;have lrA:Zm (rt A)<=67108864:=Nat.le_trans (ZE (Nat.le_trans (Nat.le_mul_self _) rA)) lA;have lrB:Zm (rt B)<=67108864:=Nat.le_trans (ZE (Nat.le_trans (Nat.le_mul_self _) rB)) lB;have lsA:Zm (rt A*rt A)<=67108864:=Nat.le_trans (ZE rA) lA;have lsB:Zm (rt B*rt B)<=67108864:=Nat.le_trans (ZE rB) lB;have hrB0:0<rt B:=by
  rcases Nat.eq_zero_or_pos (rt B)with h|h;·rw[h]at hB;omega
  ·exact h
 have K:=k2;have L6:=q0;have Nm: ∀{J:AH}(k:Zg H2 J){bits ms},(∀x∈ms,H2.n<=x.2.1)-> ∀b,b<H2.n->(RP J bits ms).blk b=H2.blk b:=fun k _ _ h b hb=>(Y1 k h).blk b hb;obtain⟨v1,HC,UP,YA,x1⟩:=Md ((ha.keep K).top) (by omega);obtain⟨LP,Xw,XN,GG⟩:=cg YA;have Xr:=XN;have Qt:=Xr.n;have K:=K.trans XN;replace x1:=x1.same (Yo YA);rw[<-Xw]at x1;obtain⟨v2,D3,QH,Xp,x2⟩:=Md ((hb.keep K).top) (by omega);obtain⟨Oh,X7,Xv,Cb⟩:=cg Xp;have Xt:=Xr.trans Xv;have Ot:=Xt.n;have K:=K.trans Xv;replace x2:=x2.same (Yo Xp);rw[<-X7]at x2;replace x1:=x1.keep Xv;replace q0:=Xt.q q0;replace q1:=Xt.q q1;refine Z8 32 Tryz.func209 ?_;apply Zb;intro b1 Ze;simp[Value.cells,zR,XV,e2];subst Ze;apply Zh;intro b1 Ze;apply YI (by kernel_rfl);simp[QG];refine Wn (v:=u) (by simp[Vy (H:=AH.top H2) L6]) ?_;simp;refine YF (v:=v1) (Wz.nil H2.n) YA Xw (by simp[UP]) fun Qr Sp=>?_;simp[Ok];refine Z0 (v:=v) rfl rfl rfl (by simp[VM ((Nm Xr Sp.ge _ (by omega)).trans L6)]) ?_;simp;refine YF (v:=v2) Sp Xp X7 (by simp[QH]) fun Oq R9=>?_;simp;subst Ze;apply Zh;intro b1 Ze;apply Zh;intro b2 Zx;have Dj:=q0;have uH: ∀{J:AH}(k:Zg Oh J){bits ms},(∀x∈ms,Oh.n<=x.2.1)-> ∀b,b<Oh.n->(RP J bits ms).blk b=Oh.blk b:=fun k _ _ h b hb=>(Y1 k h).blk b hb;obtain⟨v3,wm,fu,SM,x3⟩:=V3 (x1.top) (x1.top) (by omega) (by omega);obtain⟨wy,Pw,V0,zF⟩:=cg SM;have RS:=V0;have jj:=RS.n;have K:=K.trans V0;replace x3:=x3.gr SM Pw;replace x1:=x1.keep V0;replace x2:=x2.keep V0;have cc1:=TQ x3.sl.top ((ha.keep K).top) (by omega) (by omega);have g1:=jh (X:=rt A*rt A) (Y:=A);obtain⟨v4,wq,Ai,TU,x4⟩:=V3 (x2.top) (x2.top) (by omega) (by omega);obtain⟨B2,RD,Vw,zD⟩:=cg TU;have Tl:=RS.trans Vw;have jk:=Tl.n;have K:=K.trans Vw;replace x4:=x4.gr TU RD;have cc2:=TQ x4.sl.top ((hb.keep K).top) (by omega) (by omega);have g2:=jh (X:=rt B*rt B) (Y:=B);replace x2:=x2.keep Vw;replace x1:=x1.keep Vw;replace q1:=Tl.q q1;obtain⟨p5,p6,H5,c5,k5,o5,o6⟩:=SJ false x1 x2 (by omega) (by omega) hrB0;have n5:=k5.n;have K:=K.trans k5;replace q1:=k5.q q1;rw[<-xA]at c5 o5 o6;obtain⟨H6,Vp,n6,q1,b6,V1⟩:=G9 (p:= .bool R.1) q1 ⟨⟨_,rfl⟩,o5.shape,o6.shape⟩;have K:=V1 _ K (by omega);replace o5:=o5.off (b:=H.n+1) (by first|omega|(show _<AH.n _;omega)) n6 b6;replace o6:=o6.off (b:=H.n+1) (by first|omega|(show _<AH.n _;omega)) n6 b6;have YD:=Y3 q1;apply YI (by kernel_rfl);simp;refine YF (v:=v3) (Wz.nil Oh.n) SM Pw (by simp[fu]) fun jc FU=>?_;simp[QG];refine Z0 (v:=u) rfl rfl rfl (by simp[Vy ((uH RS FU.ge _ (by omega)).trans Dj)]) ?_;simp;refine Z0 (v:= .int .i64 (XL (rt A*rt A) A)) rfl rfl rfl (by rw[ZG (FU.hid (by kernel_rfl))];simp[cc1]) ?_;simp[g1,decide_eq_false (fun h: ¬rt A*rt A=A=>h hA)];refine YF (v:=v4) FU TU RD (by simp[Ai]) fun jd ep=>?_;simp[Ok];refine Z0 (v:=v) rfl rfl rfl (by simp[VM ((uH Tl ep.ge _ (by omega)).trans Dj)]) ?_;simp;refine Z0 (v:= .int .i64 (XL (rt B*rt B) B)) rfl rfl rfl (by rw[ZG (ep.hid (by kernel_rfl))];simp[cc2]) ?_;simp[g2,decide_eq_false (fun h: ¬rt B*rt B=B=>h hB)];subst Zx;refine Za (t:=false) (by simp) ?_;apply Zr;subst Ze;apply Zb;intro b1 Ze;simp[c5,Vp];subst Ze;apply Zu;simp[YD];exact(T2 _ _).2 ⟨p5,p6,rfl,K,o5.mono (by omega) (.refl _),o6.mono (by omega) (.refl _)⟩
end
end
theorem uVs:Tryz.prog.underlying 182=some (.slice 64):=by kernel_rfl
theorem py{b m cap i:Nat}(hi:i<m):Yj Tryz.prog 182 (.slice (some ⟨b,0,none⟩) m cap) (.int .i64 (i:Int))=some (.pointer (some ⟨b,i*9,none⟩)):=by unfold Yj;simp only[uVs,aj];rw[if_pos (by omega)];simp
theorem Ci{b m cap:Nat}(hi:0<m):Yj Tryz.prog 182 (.slice (some ⟨b,0,none⟩) m cap) (.int .i64 0)=some (.pointer (some ⟨b,0,none⟩)):=py (i:=0) hi
theorem eQ{b m cap:Nat}(hi:1<m):Yj Tryz.prog 182 (.slice (some ⟨b,0,none⟩) m cap) (.int .i64 1)=some (.pointer (some ⟨b,9,none⟩)):=py (i:=1) hi
theorem fK(b:Nat):Yc Tryz.prog 64 (.pointer (some ⟨b,0,none⟩)) 0=some (.pointer (some ⟨b,0,none⟩)):=xy b 0
theorem pK(b:Nat):Yc Tryz.prog 64 (.pointer (some ⟨b,0,none⟩)) 1=some (.pointer (some ⟨b,1,none⟩)):=faV1 b 0
theorem fJ(b:Nat):Yc Tryz.prog 64 (.pointer (some ⟨b,0,none⟩)) 2=some (.pointer (some ⟨b,5,none⟩)):=faV2 b 0
theorem fI(b:Nat):Yc Tryz.prog 64 (.pointer (some ⟨b,0,none⟩)) 3=some (.pointer (some ⟨b,6,none⟩)):=xZ b 0
theorem xz(b:Nat):Yc Tryz.prog 64 (.pointer (some ⟨b,9,none⟩)) 0=some (.pointer (some ⟨b,9,none⟩)):=xy b 9
theorem xY(b:Nat):Yc Tryz.prog 64 (.pointer (some ⟨b,9,none⟩)) 3=some (.pointer (some ⟨b,15,none⟩)):=xZ b 9
section
variable {H : AH} {b : Nat} {k l m q e f n u v k' l' m' q' e' f' n' u' v' : Value} {tl : List Value}
theorem ns(h:H.blk b= .rw 9 (k::l::m::q::e::f::n::u::v::tl)):Z4 Tryz.prog H 42 (.pointer (some ⟨b,6,none⟩))=some (.agg #[n,u,v]):=XR h (by decide) rfl rfl aR sR
theorem nv(h:H.blk b= .rw 9 (k::l::m::q::e::f::n::u::v::k'::l'::m'::q'::e'::f'::n'::u'::v'::tl)):Z4 Tryz.prog H 42 (.pointer (some ⟨b,15,none⟩))=some (.agg #[n',u',v']):=XR h (by decide) rfl rfl aR sR
end
def pQ(op:Int)(s:Bool)(A B:Nat)(t:Bool)(C D:Nat):FD:=if op=3\/op=4\/op=5\/op=6\/op=8\/op=9 then PN op s A B t C D else WC op s A B
section
attribute [-simp] Int.natCast_add Int.natCast_mul Int.natCast_ediv Int.natCast_emod Int.natCast_pow
attribute [local simp] strip ZR Xm LR gW Z2 Ye ZW Yf ZK Yg Zs Zt Zi ZJ Ya ZP ZA Zl ZI Zj Zf ZB ZC YV Zo Yd YE Yy ZL plain ZO Tr.get_set Yw Zp Ys ZT sameKind undef Zw ZH Z5 Zv ZU parts XZ DW Yh Zz LX ZZ
section
variable {H : AH} {u v w z : Value}
theorem SE{Q:Nat->Prop}{m b0:Nat}{s:Bool}{N D:Nat}{dk:List Value}(hn:Sl H u (ds ZF N))(hd:Sl H v (ds ZF D))(lN:Zm N<=67108864)(lD:Zm D<=67108864)(Sb:U4 s N D)(hm:m<=H.n)(hu:Pq Q m [u])(hv:Pq Q m [v])(q6:H.blk b0= .rw 1 dk)(hb:b0<H.n)(h9:dk.length=9)(hU:noU dk=true): ∃vs Hr H5,ZY Tryz.prog Zy 131 [.agg #[.bool s,u,v],.int .i64 256] H=some (.agg vs.toArray,Hr)/\YZ Tryz.prog Hr 64 (.pointer (some ⟨b0,0,none⟩)) (.agg vs.toArray)=some H5/\Z4 Tryz.prog H5 64 (.pointer (some ⟨b0,0,none⟩))=some (.agg vs.toArray)/\(∀H0,Zg H0 H->H0.n<=b0->Zg H0 H5)/\Rh H5 vs s N D/\Pq Q m vs:=by obtain⟨x,Hr,cr,vs,rfl,kr,hV,pv⟩:=IY s hn hd lN lD Sb hm hu hv;have lf:=(kr.blk _ hb).trans q6;obtain⟨H5,Wo,n5,q5,b5,WH⟩:=ux lf h9 hV.len hV.ones;exact⟨vs,Hr,H5,cr,Wo,Qq q5 hV.len,fun H0 k h0=>WH H0 (k.trans kr) h0,hV.fr (Fr.put lf q5 n5 b5 (h9.trans hV.len.symm) hU hV.noU),pv⟩
theorem Gu{Q:Nat->Prop}{m op:Nat}{lv:Value}{css:List (List Value)}{c d:List Value}{s t:Bool}{A B C D:Nat}{s':Bool}{N' D':Nat}(hL:UJ 9 H lv css)(hc:Rh H c s A B)(hd:Rh H d t C D)(MQ:(css=[c]/\d=c)\/css=[c,d])(hm:m<=H.n)(pc:Pq Q m c)(pd:Pq Q m d)(hval:pQ op s A B t C D= .rat s' N' D')(Ud:U4 s' N' D')(bK:Zm N'<=67108864)(bL:Zm D'<=67108864):CW Tryz.prog Zy 179 [.int .i64 (op:Int),lv,.int .i64 256] H fun x H'=> ∃vs:List Value,x= .tuple #[.agg vs.toArray,.bool true]/\Zg H H'/\Rh H' vs s' N' D'/\Pq Q m vs:=by
 obtain⟨Po,T2⟩: ∃Po:Value->AH->Prop,∀x H',Po x H'↔ ∃vs:List Value,x= .tuple #[.agg vs.toArray,.bool true]/\Zg H H'/\Rh H' vs s' N' D'/\Pq Q m vs:=⟨_,fun _ _=>Iff.rfl⟩;suffices hs:CW Tryz.prog Zy 179 [.int .i64 (op:Int),lv,.int .i64 256] H Po from(funext fun x=>funext fun H'=>propext (T2 x H'):Po=_)▸hs;have pA: ∀{i:Nat}{cs:List Value},css[i]?=some cs-> ∃s A B,Rh H cs s A B:=fun{i cs} hi=>by
  have Im:=List.mem_of_getElem? hi;rcases MQ with⟨rfl,rfl⟩|rfl;·rw[List.mem_singleton.mp Im];exact⟨_,_,_,hc⟩
  ·rcases List.mem_cons.mp Im with rfl|h;·exact⟨_,_,_,hc⟩
   ·rw[List.mem_singleton.mp h];exact⟨_,_,_,hd⟩
 obtain⟨H2,e2,k2,n2,q6⟩:=XK H FY;obtain⟨len,NO⟩:=hid (css.length);have CY:=(hL.keep k2).len uVs;rw[<-NO]at CY;have EY:len<=2:=by rcases MQ with⟨rfl,_⟩|rfl<;>simp[NO]
 have O0:=hL.keep k2;refine Z8 129 Tryz.func179 ?_;apply Zb;intro b1 Ze;simp[Value.cells,lj,FY,XV,e2];subst Ze;apply Zh;intro b1 Ze;apply Zb;intro b2 Zx;simp[CY];subst Zx;apply ZS;refine YQ (fun n s'=>s'.k=129/\Zg H2 s'.H/\ ∃(i:Nat),n+i=len/\s'.tm.get 0=some (.int .i64 (op:Int))/\s'.tm.get 1=some lv/\s'.tm.get 2=some (.int .i64 256)/\s'.tm.get 6=some (.pointer (some ⟨H.n,0,none⟩))/\s'.tm.get 14=some lv/\s'.tm.get 15=some (.int .i64 (len:Int))/\s'.tm.get 16=some (.int .i64 (i:Int))) ?_ len _ ⟨rfl,.refl _,0,by omega,by simp,by simp,by simp,by simp,by simp,by simp,by simp⟩;rintro n ⟨kk,tm,Hb⟩ ⟨PA,Lk,i,sM,u0,u1,u2,u6,Fm,j9,u16⟩ Q' Y4;simp only at PA Lk u0 u1 u2 u6 Fm j9 u16;subst PA;have nHb:=Lk.n;have q6b:=Lk.q q6;have kH:Zg H Hb:=k2.trans Lk;apply Zb;intro b3 Z9;simp[j9,u16,Iq];subst Z9;apply Zh;intro b3 Z9;by_cases hi:i<len
 ·refine Za (t:=true) (by simp[hi]) ?_;apply Zr;subst Z9;obtain⟨cs,S9⟩: ∃cs,css[i]?=some cs:=⟨css[i]'(by omega),List.getElem?_eq_getElem (by omega)⟩;obtain⟨s1,A1,B1,hV⟩:=pA S9;obtain⟨ab,hvb,Jb,Nl,XO,su,Jf⟩:=O0.at S9 uVs aj (by decide);have YD:=XR ((Lk.blk _ Nl).trans XO) (by decide) Jf su rk aj;obtain⟨H4,Wx,k4,q9,n4⟩:=nR (H:=Hb) hV.len hV.ones;obtain⟨q,e,u,v,rfl,_⟩:=hV;have Il:Z4 Tryz.prog H4 4 (.pointer (some ⟨Hb.n,5,none⟩))=some (.bool true):=Bc q9;try simp at Wx YD
  apply Zh;intro b3 Z9;apply ZS;apply Zb;intro b4 Yz;simp[Fm,u16,Jb,YD,lj,FY,Value.cells,Wx];subst Yz;apply Zb;intro b4 Yz;simp[fJ,Il];subst Yz;refine Za (t:=false) (by simp) ?_;apply Zr;simp[Yn];subst Z9;apply Zk;simp[u16,Tx (x:=i) (by omega)];apply Y4;exact⟨n-1,by omega,rfl,Lk.trans k4,i+1,by omega,by simp[u0],by simp[u1],by simp[u2],by simp[u6],by simp[Fm],by simp[j9],by simp⟩
 ·refine Za (t:=false) (by simp[hi]) ?_;apply YP;apply Y4;left;refine⟨rfl,?_⟩;clear Y4;have QO:=O0.keep Lk;have hmb:m<=Hb.n:=by omega
  clear pA Fm j9 u16;obtain⟨q,e,u,v,rfl,hq,he,ha,hb,lA,lB,GI⟩:=hc;have pu:Pq Q m [u]:=fun x hx=>pc x (by rw[List.mem_singleton.mp hx];simp);have pv:Pq Q m [v]:=fun x hx=>pc x (by rw[List.mem_singleton.mp hx];simp);have vV:=hd;obtain⟨q',e',w,z,dT,mK,pB,hc,hd,lC,lD,cn⟩:=vV;have pw:Pq Q m [w]:=fun x hx=>pd x (by rw[List.mem_singleton.mp hx,dT];simp);have pz:Pq Q m [z]:=fun x hx=>pd x (by rw[List.mem_singleton.mp hx,dT];simp);obtain⟨ab,dN,Nl,XO⟩: ∃ab,lv= .slice (some ⟨ab,0,none⟩) len len/\ab<Hb.n/\Hb.blk ab= .rw 9 css.flatten:=by
   rcases QO with⟨_,e⟩|⟨ab,h1,h2,h3,_⟩;·rcases MQ with⟨rfl,_⟩|rfl<;>cases e
   ·exact⟨ab,by rw[NO];exact h1,h2,h3⟩
  obtain⟨tl,mI⟩: ∃tl,css.flatten=Value.int .i64 0:: .int .i64 256:: .bool s::q::e:: .bool true:: .bool s::u::v::tl:=by
   rcases MQ with⟨rfl,_⟩|rfl;·exact⟨[],rfl⟩
   ·exact⟨d,by simp⟩
  have Ik:0<len:=by rcases MQ with⟨rfl,_⟩|rfl<;>simp[NO]
  rw[mI]at XO;have q6:=q6b;have K:=kH;have gS:=ns XO;obtain⟨H4,Wx,k4,UM,n4⟩:=nS (H:=Hb) (p:= .bool s) ⟨⟨_,rfl⟩,ha.shape,hb.shape⟩;have K:=K.trans k4;replace q6:=k4.q q6;have yP:=Y3 UM;obtain⟨H5,Wo,k5,og,n5⟩:=nS (H:=H4) (p:= .bool s) ⟨⟨_,rfl⟩,ha.shape,hb.shape⟩;have K:=K.trans k5;replace q6:=k5.q q6;replace UM:=k5.q UM;have gx:=((k5.blk _ (by omega)).trans (k4.blk _ Nl)).trans XO;subst Ze;apply Zb;intro b1 Ze;simp[u1,dN,Ci Ik,fI,gS,zR,Value.cells,Wx];subst Ze;apply Zb;intro b1 Ze;simp[yP,zR,Value.cells,Wo];subst Ze;refine Y8 (fun s'=>s'.k=129/\Zg Hb s'.H/\s'.H.n=H5.n/\s'.H.blk H.n= .rw 1 FY/\s'.H.blk Hb.n= .rw 1 [.bool s,u,v]/\s'.H.blk (Hb.n+1)= .rw 1 [.bool t,w,z]/\s'.tm.get 0=some (.int .i64 (op:Int))/\s'.tm.get 2=some (.int .i64 256)/\s'.tm.get 6=some (.pointer (some ⟨H.n,0,none⟩))/\s'.tm.get 10=some (.pointer (some ⟨Hb.n,0,none⟩))/\s'.tm.get 11=some (.pointer (some ⟨Hb.n+1,0,none⟩))) ?_ ?_
  ·intro Q2 kW;have kb5:Zg Hb H5:=k4.trans k5;have hAl5:QE Tryz.prog 182 (.slice (some ⟨ab,0,none⟩) len len)=some len:=by rw[<-dN];exact CY
   apply Zb;intro b2 Zx;simp[u1,dN,hAl5];subst Zx;rw[n4]at og;rcases MQ with⟨h1,h2⟩|h2
   ·have GX:len=1:=by rw[NO,h1];rfl
    subst GX;rw[h2]at dT;simp only[List.cons.injEq,and_true,true_and,Value.bool.injEq]at dT;obtain⟨rfl,rfl,rfl,_,rfl,rfl⟩:=dT;refine Za (t:=false) (by simp) ?_;apply Zr;apply kW;exact⟨rfl,kb5,rfl,q6,UM,og,by simp[u0],by simp[u2],by simp[u6],by simp,by simp[n4]⟩
   ·have GX:len=2:=by rw[NO,h2];rfl
    subst GX;have tf:tl=d:=by rw[h2]at mI;simpa using mI.symm
    rw[tf,dT]at gx;have sQ:=nv gx;obtain⟨H6,Vp,n6,q11',b6,V1⟩:=G9 (p:= .bool t) (q:=w) (r:=z) og ⟨⟨_,rfl⟩,hc.shape,hd.shape⟩;refine Za (t:=true) (by simp) ?_;apply Zk;simp[u1,dN,eQ (m:=2) (by decide),xY,sQ,n4,Vp];apply kW;exact⟨rfl,V1 _ kb5 (by omega),n6,(b6 _ (by omega)).trans q6,(b6 _ (by omega)).trans UM,q11',by simp[u0],by simp[u2],by simp[u6],by simp,by simp[n4]⟩
  clear q6 q6b UM og gS yP gx XO;rintro⟨kk,tm,Hx⟩ ⟨PA,kx,nx,q6,UM,og,u0,u2,u6,RM,Fy⟩;simp only at PA kx nx q6 UM og u0 u2 u6 RM Fy;subst PA;have vD:Zg H Hx:=kH.trans kx;have nHx:Hb.n+2<=Hx.n:=by omega
  have nU:noU FY=true:=rfl;clear hq he mK pB O0 QO hL e2;have K:=vD;have kg:=UM;have qG:=og;apply Zh;intro b1 Ze;apply Zb;intro b2 Zx;simp[u0];subst Zx;apply ZS;apply Zb;intro b2 Zx;simp[WR];subst Zx;by_cases h2:op=2
  ·subst h2;refine Za (t:=true) (by simp) ?_;have hval:FD.rat (sg (!s) A) A B= .rat s' N' D':=hval;injection hval with r1 r2 r3;subst r2 r3;obtain⟨H3,c3,k3⟩:=Ly (s:=s) (ha.keep K) hb.shape;have n3:=k3.n;have K:=K.trans k3;replace q6:=k3.q q6;replace UM:=k3.q UM;have gM:(if A=0 then s else !s)=sg (!s) A:=by
    by_cases hA:A=0;·rw[if_pos hA,(GI.zero hA).1,hA];rfl
    ·rw[if_neg hA];unfold sg;rw[decide_eq_true (Nat.pos_of_ne_zero hA),Bool.and_true]
   rw[gM,r1]at c3;obtain⟨vs,Hr,H5,cr,Wo,Ul,WH,MU,Iv⟩:=SE (Q:=Q) (m:=m) (s:=s') (ha.keep K) (hb.keep K) bK bL Ud (by omega) pu pv q6 (by omega) rfl nU;have K5:=WH _ K (Nat.le_refl _);apply Zb;intro b2 Zx;simp[RM,Y3 kg,c3,u2,cr,u6,Wo];subst Zx;apply Zu;simp[Yx,Yn,u6,Ul];exact(T2 _ _).2 ⟨vs,rfl,K5,MU,Iv⟩
  ·refine Za (t:=false) (by simp;omega) ?_;apply Zb;intro b2 Zx;simp[WR];subst Zx;by_cases h3:op=3;·subst h3;refine Za (t:=true) (by simp) ?_;have hval:FD.mk (Ty s A B t C D)= .rat s' N' D':=hval;injection hval with r1 r2 r3;obtain⟨p1,p2,H3,c3,k3,o1,o2⟩:=Mb s t (ha.keep K) (hb.keep K) (hc.keep K) (hd.keep K) (by omega) (by omega) (by omega) (by omega) GI.2 cn.2;have n3:=k3.n;have K:=K.trans k3;replace q6:=k3.q q6;replace UM:=k3.q UM;rw[r1]at c3;rw[r2]at o1;rw[r3]at o2;obtain⟨vs,Hr,H5,cr,Wo,Ul,WH,MU,Iv⟩:=SE (Q:=Q) (m:=m) (s:=s') o1.sl o2.sl bK bL Ud (by omega) (o1.pq (by omega)) (o2.pq (by omega)) q6 (by omega) rfl nU;have K5:=WH _ K (Nat.le_refl _);apply Zb;intro b2 Zx;simp[RM,Fy,Y3 kg,Y3 qG,c3,u2,cr,u6,Wo];subst Zx;apply Zu;simp[Yx,Yn,u6,Ul];exact(T2 _ _).2 ⟨vs,rfl,K5,MU,Iv⟩
   ·refine Za (t:=false) (by simp;omega) ?_;apply Zb;intro b2 Zx;simp[WR];subst Zx;by_cases h4:op=4;·subst h4;refine Za (t:=true) (by simp) ?_;have hval:FD.mk (Ty s A B (sg (!t) C) C D)= .rat s' N' D':=hval;injection hval with r1 r2 r3;obtain⟨p1,p2,H3,c3,k3,o1,o2⟩:=Ff (s:=s) (ha.keep K) (hb.keep K) (hc.keep K) (hd.keep K) (by omega) (by omega) (by omega) (by omega) GI.2 cn;have n3:=k3.n;have K:=K.trans k3;replace q6:=k3.q q6;replace UM:=k3.q UM;rw[r1]at c3;rw[r2]at o1;rw[r3]at o2;obtain⟨vs,Hr,H5,cr,Wo,Ul,WH,MU,Iv⟩:=SE (Q:=Q) (m:=m) (s:=s') o1.sl o2.sl bK bL Ud (by omega) (o1.pq (by omega)) (o2.pq (by omega)) q6 (by omega) rfl nU;have K5:=WH _ K (Nat.le_refl _);apply Zb;intro b2 Zx;simp[RM,Fy,Y3 kg,Y3 qG,c3,u2,cr,u6,Wo];subst Zx;apply Zu;simp[Yx,Yn,u6,Ul];exact(T2 _ _).2 ⟨vs,rfl,K5,MU,Iv⟩
    ·refine Za (t:=false) (by simp;omega) ?_;apply Zb;intro b2 Zx;simp[WR];subst Zx;by_cases h5:op=5;·subst h5;refine Za (t:=true) (by simp) ?_;have hval:FD.mk (Z6 (s !=t) (A*C) (B*D))= .rat s' N' D':=hval;injection hval with r1 r2 r3;obtain⟨us,H3,c3,k3,p1,p2,rfl,o1,o2⟩:=Mc s t (ha.keep K) (hb.keep K) (hc.keep K) (hd.keep K) (Xe (by omega)) (Xe (by omega)) (Xe (by omega)) (Xe (by omega)) GI.2 cn.2;have n3:=k3.n;have K:=K.trans k3;replace q6:=k3.q q6;rw[r1]at c3;rw[r2]at o1;rw[r3]at o2;obtain⟨vs,Hr,H5,cr,Wo,Ul,WH,MU,Iv⟩:=SE (Q:=Q) (m:=m) (s:=s') o1.sl o2.sl bK bL Ud (by omega) (o1.pq (by omega)) (o2.pq (by omega)) q6 (by omega) rfl nU;have K5:=WH _ K (Nat.le_refl _);apply Zb;intro b2 Zx;simp[RM,Fy,Y3 kg,Y3 qG,c3,u2,cr,u6,Wo];subst Zx;apply Zu;simp[Yx,Yn,u6,Ul];exact(T2 _ _).2 ⟨vs,rfl,K5,MU,Iv⟩
     ·refine Za (t:=false) (by simp;omega) ?_;apply Zb;intro b2 Zx;simp[WR];subst Zx;by_cases h6:op=6
      ·subst h6;refine Za (t:=true) (by simp) ?_;have xP:C≠0:=fun e=>by have hval:(if C=0 then FD.und else .mk (Z6 (s !=t) (A*D) (B*C)))= .rat s' N' D':=hval;rw[if_pos e]at hval;cases hval
       replace hval:(if C=0 then FD.und else .mk (Z6 (s !=t) (A*D) (B*C)))= .rat s' N' D':=hval;rw[if_neg xP]at hval;have hval:FD.mk (Z6 (s !=t) (A*D) (B*C))= .rat s' N' D':=hval;injection hval with r1 r2 r3;obtain⟨us,H3,c3,k3,p1,p2,rfl,o1,o2⟩:=Fc s t (ha.keep K) (hb.keep K) (hc.keep K) (hd.keep K) (Xe (by omega)) (Xe (by omega)) (Xe (by omega)) (Xe (by omega)) GI.2 (Nat.pos_of_ne_zero xP);have n3:=k3.n;have K:=K.trans k3;replace q6:=k3.q q6;rw[r1]at c3;rw[r2]at o1;rw[r3]at o2;obtain⟨vs,Hr,H5,cr,Wo,Ul,WH,MU,Iv⟩:=SE (Q:=Q) (m:=m) (s:=s') o1.sl o2.sl bK bL Ud (by omega) (o1.pq (by omega)) (o2.pq (by omega)) q6 (by omega) rfl nU;have K5:=WH _ K (Nat.le_refl _);apply Zb;intro b2 Zx;simp[RM,Fy,Y3 kg,Y3 qG,c3,u2,cr,u6,Wo];subst Zx;apply Zu;simp[Yx,Yn,u6,Ul];exact(T2 _ _).2 ⟨vs,rfl,K5,MU,Iv⟩
      ·refine Za (t:=false) (by simp;omega) ?_;apply Zb;intro b2 Zx;simp[WR];subst Zx;by_cases h7:op=7;·subst h7;refine Za (t:=true) (by simp) ?_;have hval:FD.rat false A B= .rat s' N' D':=hval;injection hval with r1 r2 r3;subst r1 r2 r3;obtain⟨H3,c3,k3⟩:=Dm (s:=s) ha.shape hb.shape Hx;have n3:=k3.n;have K:=K.trans k3;replace q6:=k3.q q6;replace UM:=k3.q UM;obtain⟨vs,Hr,H5,cr,Wo,Ul,WH,MU,Iv⟩:=SE (Q:=Q) (m:=m) (s:=false) (ha.keep K) (hb.keep K) bK bL Ud (by omega) pu pv q6 (by omega) rfl nU;have K5:=WH _ K (Nat.le_refl _);apply Zb;intro b2 Zx;simp[RM,Y3 kg,c3,u2,cr,u6,Wo];subst Zx;apply Zu;simp[Yx,Yn,u6,Ul];exact(T2 _ _).2 ⟨vs,rfl,K5,MU,Iv⟩
       ·refine Za (t:=false) (by simp;omega) ?_;apply Zh;intro b2 Zx;apply Zb;intro b3 Z9;simp[WR];subst Z9;by_cases h8:op=8
        ·subst h8;refine Za (t:=true) (by simp) ?_;apply Zr;subst Zx;refine Za (t:=true) (by simp) ?_;obtain⟨H3,c3,k3⟩:=U1 s t (ha.keep K) (hb.keep K) (hc.keep K) (hd.keep K) (Xe (by omega)) (Xe (by omega)) (Xe (by omega)) (Xe (by omega));have n3:=k3.n;have K:=K.trans k3;replace q6:=k3.q q6;replace UM:=k3.q UM;have hz:=II GI cn;have hval:(if 0<VB s A B t C D then .rat t C D else .rat s A B)=FD.rat s' N' D':=hval;obtain⟨cm,Fs⟩:=hid (VB s A B t C D);rw[<-Fs]at c3 hz hval;have gl:Zd .lss .i64 cm 0=some (.bool (decide (cm<0))):=NF;apply Zh;intro b2 Zx;apply Zb;intro b3 Z9;simp[RM,Fy,Y3 kg,Y3 qG,c3,gl,u0,show Zd .eql .i64 8 8=some (.bool true)from rfl,-Ys,Al];subst Z9;by_cases YW:cm<0
         ·obtain⟨r1,r2,r3⟩:s=s'/\A=N'/\B=D':=by rw[if_neg (by omega)]at hval;injection hval with r1 r2 r3;exact⟨r1,r2,r3⟩
          subst r1 r2 r3;obtain⟨vs,Hr,H5,cr,Wo,Ul,WH,MU,Iv⟩:=SE (Q:=Q) (m:=m) (s:=s) (ha.keep K) (hb.keep K) bK bL Ud (by omega) pu pv q6 (by omega) rfl nU;have K5:=WH _ K (Nat.le_refl _);refine Za (t:=true) (by simp[YW]) ?_;apply Zb;intro b3 Z9;simp[RM,Y3 (k3.q kg),u2,cr,u6,Wo];subst Z9;apply Zu;simp[Yx,Yn,u6,Ul];exact(T2 _ _).2 ⟨vs,rfl,K5,MU,Iv⟩
         ·obtain⟨r1,r2,r3⟩:t=s'/\C=N'/\D=D':=by
           by_cases h0:cm=0;·obtain⟨e1,e2,e3⟩:=hz h0;rw[if_neg (by omega)]at hval;injection hval with r1 r2 r3;exact⟨e1.symm.trans r1,e2.symm.trans r2,e3.symm.trans r3⟩
           ·rw[if_pos (by omega)]at hval;injection hval with r1 r2 r3;exact⟨r1,r2,r3⟩
          subst r1 r2 r3;obtain⟨vs,Hr,H5,cr,Wo,Ul,WH,MU,Iv⟩:=SE (Q:=Q) (m:=m) (s:=t) (hc.keep K) (hd.keep K) bK bL Ud (by omega) pw pz q6 (by omega) rfl nU;have K5:=WH _ K (Nat.le_refl _);refine Za (t:=false) (by simp[YW]) ?_;apply Zr;subst Zx;apply Zb;intro b2 Zx;simp[Fy,Y3 (k3.q qG),u2,cr,u6,Wo];subst Zx;apply Zu;simp[Yx,Yn,u6,Ul];exact(T2 _ _).2 ⟨vs,rfl,K5,MU,Iv⟩
        ·refine Za (t:=false) (by simp;omega) ?_;apply Zk;simp[WR];subst Zx;by_cases h9:op=9
         ·subst h9;refine Za (t:=true) (by simp) ?_;obtain⟨H3,c3,k3⟩:=U1 s t (ha.keep K) (hb.keep K) (hc.keep K) (hd.keep K) (Xe (by omega)) (Xe (by omega)) (Xe (by omega)) (Xe (by omega));have n3:=k3.n;have K:=K.trans k3;replace q6:=k3.q q6;replace UM:=k3.q UM;have hz:=II GI cn;have hval:(if VB s A B t C D<0 then .rat t C D else .rat s A B)=FD.rat s' N' D':=hval;obtain⟨cm,Fs⟩:=hid (VB s A B t C D);rw[<-Fs]at c3 hz hval;have gl:Zd .lss .i64 cm 0=some (.bool (decide (cm<0))):=NF;apply Zh;intro b2 Zx;apply Zb;intro b3 Z9;simp[RM,Fy,Y3 kg,Y3 qG,c3,gl,u0,show Zd .eql .i64 9 8=some (.bool false)from rfl,-Ys,Al];subst Z9;by_cases YW:cm<0
          ·obtain⟨r1,r2,r3⟩:t=s'/\C=N'/\D=D':=by rw[if_pos (by omega)]at hval;injection hval with r1 r2 r3;exact⟨r1,r2,r3⟩
           subst r1 r2 r3;obtain⟨vs,Hr,H5,cr,Wo,Ul,WH,MU,Iv⟩:=SE (Q:=Q) (m:=m) (s:=t) (hc.keep K) (hd.keep K) bK bL Ud (by omega) pw pz q6 (by omega) rfl nU;have K5:=WH _ K (Nat.le_refl _);refine Za (t:=false) (by simp[YW]) ?_;apply Zr;subst Zx;apply Zb;intro b2 Zx;simp[Fy,Y3 (k3.q qG),u2,cr,u6,Wo];subst Zx;apply Zu;simp[Yx,Yn,u6,Ul];exact(T2 _ _).2 ⟨vs,rfl,K5,MU,Iv⟩
          ·obtain⟨r1,r2,r3⟩:s=s'/\A=N'/\B=D':=by rw[if_neg (by omega)]at hval;injection hval with r1 r2 r3;exact⟨r1,r2,r3⟩
           subst r1 r2 r3;obtain⟨vs,Hr,H5,cr,Wo,Ul,WH,MU,Iv⟩:=SE (Q:=Q) (m:=m) (s:=s) (ha.keep K) (hb.keep K) bK bL Ud (by omega) pu pv q6 (by omega) rfl nU;have K5:=WH _ K (Nat.le_refl _);refine Za (t:=true) (by simp[YW]) ?_;apply Zb;intro b3 Z9;simp[RM,Y3 (k3.q kg),u2,cr,u6,Wo];subst Z9;apply Zu;simp[Yx,Yn,u6,Ul];exact(T2 _ _).2 ⟨vs,rfl,K5,MU,Iv⟩
         ·refine Za (t:=false) (by simp;omega) ?_;apply Zb;intro b2 Zx;simp[WR];subst Zx;by_cases h10:op=10;·subst h10;refine Za (t:=true) (by simp) ?_;have hval:(if Xy s A= -1 then FD.und else match U7 (s,A,B)with|some R=> .mk R|none=> .opn)= .rat s' N' D':=hval;rw[if_neg (fun h=>by rw[if_pos h]at hval;cases hval)]at hval;obtain⟨rq,hrq⟩:=hid (U7 (s,A,B));rw[<-hrq]at hval;cases rq with|none=>cases hval|some R=>injection hval with r1 r2 r3;obtain⟨p1,p2,H3,c3,k3,o1,o2⟩:=JN (ha.keep K) (hb.keep K) lA lB GI.2 hrq.symm;have n3:=k3.n;have K:=K.trans k3;replace q6:=k3.q q6;replace UM:=k3.q UM;rw[r1]at c3;rw[r2]at o1;rw[r3]at o2;obtain⟨H4,Wx,k4,uY,n4⟩:=nS (H:=H3) (p:= .bool s') ⟨⟨_,rfl⟩,o1.shape,o2.shape⟩;have K:=K.trans k4;replace q6:=k4.q q6;replace UM:=k4.q UM;replace o1:=o1.m k4;replace o2:=o2.m k4;have sQ:=Y3 uY;obtain⟨vs,Hr,H5,cr,Wo,Ul,WH,MU,Iv⟩:=SE (Q:=Q) (m:=m) (s:=s') o1.sl o2.sl bK bL Ud (by omega) (o1.pq (by omega)) (o2.pq (by omega)) q6 (by omega) rfl nU;have K5:=WH _ K (Nat.le_refl _);apply Zb;intro b1 Ze;simp[RM,Y3 kg,c3,zR,Value.cells,Wx];subst Ze;apply Zb;intro b1 Ze;simp[sQ,u2,cr,u6,Wo];subst Ze;apply Zu;simp[Yx,Yn,u6,Ul];exact(T2 _ _).2 ⟨vs,rfl,K5,MU,Iv⟩
          ·refine Za (t:=false) (by simp;omega) ?_;apply Zb;intro b2 Zx;simp[WR];subst Zx;by_cases h12:op=12
           ·subst h12;refine Za (t:=true) (by simp) ?_;have hval:(if Xy s A= -1\/Xy s A=0 then FD.und else if VB s A B false 1 1=0 then .rat false 0 1 else .opn)= .rat s' N' D':=hval;rw[if_neg (fun h=>by rw[if_pos h]at hval;cases hval)]at hval;have hz:VB s A B false 1 1=0:=Decidable.by_contra fun h=>by rw[if_neg h]at hval;cases hval
            obtain⟨r1,r2,r3⟩:s'=false/\N'=0/\D'=1:=by rw[if_pos hz]at hval;injection hval with r1 r2 r3;exact⟨r1.symm,r2.symm,r3.symm⟩
            subst r1 r2 r3;have Iw:=UM;have Nm: ∀{J:AH}(k:Zg Hx J){bits ms},(∀x∈ms,Hx.n<=x.2.1)-> ∀b,b<Hx.n->(RP J bits ms).blk b=Hx.blk b:=fun k _ _ h b hb=>(Y1 k h).blk b hb;obtain⟨p1,p2,HC,UP,YA,o1,o2⟩:=V4 (H:=Hx.top) (n:=0) (by decide);obtain⟨LP,Xw,XN,GG⟩:=cg YA;have Xr:=XN;have Qt:=Xr.n;have K:=K.trans XN;replace o1:=o1.gr YA Xw;replace o2:=o2.gr YA Xw;replace UP:ZY _ _ _ [Value.int .i64 0] _=_:=UP;obtain⟨j1,j2,D3,QH,Xp,o3,o4⟩:=Vc false o1.sl.top o2.sl.top (by decide) (by decide) Ud;obtain⟨Oh,X7,Xv,Cb⟩:=cg Xp;have Xt:=Xr.trans Xv;have Ot:=Xt.n;have K:=K.trans Xv;replace o1:=o1.m Xv;replace o2:=o2.m Xv;replace o3:=o3.gr Xp X7;replace o4:=o4.gr Xp X7;obtain⟨p3,p4,qA,JC,Um,o5,o6⟩:=V4 (H:=Oh.top) (n:=1) (by decide);obtain⟨dW,RV,Vl,tF⟩:=cg Um;have Tk:=Xt.trans Vl;have Bl:=Tk.n;have K:=K.trans Vl;replace o1:=o1.m Vl;replace o2:=o2.m Vl;replace o3:=o3.m Vl;replace o4:=o4.m Vl;replace o5:=o5.gr Um RV;replace o6:=o6.gr Um RV;replace JC:ZY _ _ _ [Value.int .i64 1] _=_:=JC;obtain⟨Ia4,xe,iu⟩:=U1 s false ((ha.keep K).top) ((hb.keep K).top) o5.sl.top o6.sl.top (Xe (by omega)) (Xe (by omega)) (Xe (by decide)) (Xe (by decide));obtain⟨Ja4,rJ,GN,ma4⟩:=cg iu;have bM:=Tk.trans GN;have nka4:=bM.n;have K:=K.trans GN;replace o1:=o1.m GN;replace o2:=o2.m GN;replace o3:=o3.m GN;replace o4:=o4.m GN;rw[hz]at xe;have h9:=FP (s:=false) o3.shape o4.shape o1.shape o2.shape;replace q6:=bM.q q6;replace UM:=bM.q UM;have r1:=q6;obtain⟨Mp,Ve,Tp,Vd,XT,q6,Xn,W9⟩:=Dg (ws:=[.int .i64 0,.int .i64 256,.bool false,j1,j2,.bool true,.bool false,p1,p2]) q6 rfl (by omega) rfl h9.1;obtain⟨FW,Va⟩:=hid (low Ja4 Mp);rw[<-Va]at XT q6 Xn W9;have K:=W9 _ K (by omega);replace UM:=(Xn _ (by omega)).trans UM;replace o1:=o1.off (b:=H.n) (by first|omega|(show _<AH.n _;omega)) XT Xn;replace o2:=o2.off (b:=H.n) (by first|omega|(show _<AH.n _;omega)) XT Xn;replace o3:=o3.off (b:=H.n) (by first|omega|(show _<AH.n _;omega)) XT Xn;replace o4:=o4.off (b:=H.n) (by first|omega|(show _<AH.n _;omega)) XT Xn;have Ul:=Qq q6 rfl;apply Zh;intro b2 Zx;apply YI (by kernel_rfl);simp;refine YF (v:= .agg #[.bool false,p1,p2]) (Wz.nil Hx.n) YA Xw (by simp[UP]) fun Qr Sp=>?_;simp[u2];refine YF (v:= .agg #[.int .i64 0,.int .i64 256,.bool false,j1,j2,.bool true,.bool false,p1,p2]) Sp Xp X7 (by simp[QH]) fun Oq R9=>?_;simp[RM];refine Z0 (v:= .agg #[.bool s,u,v]) rfl rfl rfl (by simp[RM,Y3 ((Nm Xt R9.ge _ (by omega)).trans Iw)]) ?_;simp;refine YF (v:= .agg #[.bool false,p3,p4]) R9 Um RV (by simp[JC]) fun Bg Cf=>?_;simp;refine YF (v:= .int .i64 0) Cf iu rJ (by simp[xe]) fun msa4 Ma4=>?_;simp[show Zd .eql .i64 0 0=some (.bool true)from rfl,u6];refine Us (v:= .tuple #[]) Ma4 Tp Vd Va (by simp[Ve,u6]) ?_;simp[u6];subst Zx;apply Zu;simp[Yx,Yn,u6,Ul];exact(T2 _ _).2 ⟨_,rfl,K,⟨j1,j2,p1,p2,rfl,o3.sl,o4.sl,o1.sl,o2.sl,by decide,by decide,Ud⟩,(o3.pq (by omega)).nine (o4.pq (by omega)) (o1.pq (by omega)) (o2.pq (by omega))⟩
           ·refine Za (t:=false) (by simp;omega) ?_;apply Zh;intro b2 Zx;apply Zb;intro b3 Z9;simp[WR];subst Z9;by_cases h11:op=11
            ·subst h11;refine Za (t:=true) (by simp) ?_;apply Zr;subst Zx;refine Za (t:=true) (by simp) ?_;have hval:(if A=0 then FD.rat false 1 1 else .opn)= .rat s' N' D':=hval;have hz:A=0:=Decidable.by_contra fun h=>by rw[if_neg h]at hval;cases hval
             obtain⟨r1,r2,r3⟩:s'=false/\N'=1/\D'=1:=by rw[if_pos hz]at hval;injection hval with r1 r2 r3;exact⟨r1.symm,r2.symm,r3.symm⟩
             subst r1 r2 r3;have Iw:=UM;have Nm: ∀{J:AH}(k:Zg Hx J){bits ms},(∀x∈ms,Hx.n<=x.2.1)-> ∀b,b<Hx.n->(RP J bits ms).blk b=Hx.blk b:=fun k _ _ h b hb=>(Y1 k h).blk b hb;obtain⟨p1,p2,HC,UP,YA,o1,o2⟩:=V4 (H:=Hx.top) (n:=1) (by decide);obtain⟨LP,Xw,XN,GG⟩:=cg YA;have Xr:=XN;have Qt:=Xr.n;have K:=K.trans XN;replace o1:=o1.gr YA Xw;replace o2:=o2.gr YA Xw;replace UP:ZY _ _ _ [Value.int .i64 1] _=_:=UP;obtain⟨j1,j2,D3,QH,Xp,o3,o4⟩:=Vc false o1.sl.top o2.sl.top (by decide) (by decide) Ud;obtain⟨Oh,X7,Xv,Cb⟩:=cg Xp;have Xt:=Xr.trans Xv;have Ot:=Xt.n;have K:=K.trans Xv;replace o1:=o1.m Xv;replace o2:=o2.m Xv;replace o3:=o3.gr Xp X7;replace o4:=o4.gr Xp X7;obtain⟨qA,JC,Um⟩:=X9 s ((ha.keep K).top) v;obtain⟨dW,RV,Vl,tF⟩:=cg Um;have Tk:=Xt.trans Vl;have Bl:=Tk.n;have K:=K.trans Vl;replace o1:=o1.m Vl;replace o2:=o2.m Vl;replace o3:=o3.m Vl;replace o4:=o4.m Vl;rw[X2.mpr hz]at JC;have h9:=FP (s:=false) o3.shape o4.shape o1.shape o2.shape;replace q6:=Tk.q q6;replace UM:=Tk.q UM;have r1:=q6;obtain⟨Mp,Ve,Tp,Vd,XT,q6,Xn,W9⟩:=Dg (ws:=[.int .i64 0,.int .i64 256,.bool false,j1,j2,.bool true,.bool false,p1,p2]) q6 rfl (by omega) rfl h9.1;obtain⟨FW,Va⟩:=hid (low dW Mp);rw[<-Va]at XT q6 Xn W9;have K:=W9 _ K (by omega);replace UM:=(Xn _ (by omega)).trans UM;replace o1:=o1.off (b:=H.n) (by first|omega|(show _<AH.n _;omega)) XT Xn;replace o2:=o2.off (b:=H.n) (by first|omega|(show _<AH.n _;omega)) XT Xn;replace o3:=o3.off (b:=H.n) (by first|omega|(show _<AH.n _;omega)) XT Xn;replace o4:=o4.off (b:=H.n) (by first|omega|(show _<AH.n _;omega)) XT Xn;have Ul:=Qq q6 rfl;apply Zh;intro b2 Zx;apply YI (by kernel_rfl);simp;refine YF (v:= .agg #[.bool false,p1,p2]) (Wz.nil Hx.n) YA Xw (by simp[UP]) fun Qr Sp=>?_;simp[u2];refine YF (v:= .agg #[.int .i64 0,.int .i64 256,.bool false,j1,j2,.bool true,.bool false,p1,p2]) Sp Xp X7 (by simp[QH]) fun Oq R9=>?_;simp[RM];refine Z0 (v:= .agg #[.bool s,u,v]) rfl rfl rfl (by simp[RM,Y3 ((Nm Xt R9.ge _ (by omega)).trans Iw)]) ?_;simp;refine YF (v:= .int .i64 0) R9 Um RV (by simp[JC]) fun Bg Cf=>?_;simp[show Zd .eql .i64 0 0=some (.bool true)from rfl,u6];refine Us (v:= .tuple #[]) Cf Tp Vd Va (by simp[Ve,u6]) ?_;simp[u6];subst Zx;apply Zu;simp[Yx,Yn,u6,Ul];exact(T2 _ _).2 ⟨_,rfl,K,⟨j1,j2,p1,p2,rfl,o3.sl,o4.sl,o1.sl,o2.sl,by decide,by decide,Ud⟩,(o3.pq (by omega)).nine (o4.pq (by omega)) (o1.pq (by omega)) (o2.pq (by omega))⟩
            ·refine Za (t:=false) (by simp;omega) ?_;apply Zk;simp[WR];subst Zx;by_cases h14:op=14
             ·subst h14;refine Za (t:=true) (by simp) ?_;have hval:(if A=0 then FD.rat false 1 1 else .opn)= .rat s' N' D':=hval;have hz:A=0:=Decidable.by_contra fun h=>by rw[if_neg h]at hval;cases hval
              obtain⟨r1,r2,r3⟩:s'=false/\N'=1/\D'=1:=by rw[if_pos hz]at hval;injection hval with r1 r2 r3;exact⟨r1.symm,r2.symm,r3.symm⟩
              subst r1 r2 r3;have Iw:=UM;have Nm: ∀{J:AH}(k:Zg Hx J){bits ms},(∀x∈ms,Hx.n<=x.2.1)-> ∀b,b<Hx.n->(RP J bits ms).blk b=Hx.blk b:=fun k _ _ h b hb=>(Y1 k h).blk b hb;obtain⟨p1,p2,HC,UP,YA,o1,o2⟩:=V4 (H:=Hx.top) (n:=1) (by decide);obtain⟨LP,Xw,XN,GG⟩:=cg YA;have Xr:=XN;have Qt:=Xr.n;have K:=K.trans XN;replace o1:=o1.gr YA Xw;replace o2:=o2.gr YA Xw;replace UP:ZY _ _ _ [Value.int .i64 1] _=_:=UP;obtain⟨j1,j2,D3,QH,Xp,o3,o4⟩:=Vc false o1.sl.top o2.sl.top (by decide) (by decide) Ud;obtain⟨Oh,X7,Xv,Cb⟩:=cg Xp;have Xt:=Xr.trans Xv;have Ot:=Xt.n;have K:=K.trans Xv;replace o1:=o1.m Xv;replace o2:=o2.m Xv;replace o3:=o3.gr Xp X7;replace o4:=o4.gr Xp X7;obtain⟨qA,JC,Um⟩:=X9 s ((ha.keep K).top) v;obtain⟨dW,RV,Vl,tF⟩:=cg Um;have Tk:=Xt.trans Vl;have Bl:=Tk.n;have K:=K.trans Vl;replace o1:=o1.m Vl;replace o2:=o2.m Vl;replace o3:=o3.m Vl;replace o4:=o4.m Vl;rw[X2.mpr hz]at JC;have h9:=FP (s:=false) o3.shape o4.shape o1.shape o2.shape;replace q6:=Tk.q q6;replace UM:=Tk.q UM;have r1:=q6;obtain⟨Mp,Ve,Tp,Vd,XT,q6,Xn,W9⟩:=Dg (ws:=[.int .i64 0,.int .i64 256,.bool false,j1,j2,.bool true,.bool false,p1,p2]) q6 rfl (by omega) rfl h9.1;obtain⟨FW,Va⟩:=hid (low dW Mp);rw[<-Va]at XT q6 Xn W9;have K:=W9 _ K (by omega);replace UM:=(Xn _ (by omega)).trans UM;replace o1:=o1.off (b:=H.n) (by first|omega|(show _<AH.n _;omega)) XT Xn;replace o2:=o2.off (b:=H.n) (by first|omega|(show _<AH.n _;omega)) XT Xn;replace o3:=o3.off (b:=H.n) (by first|omega|(show _<AH.n _;omega)) XT Xn;replace o4:=o4.off (b:=H.n) (by first|omega|(show _<AH.n _;omega)) XT Xn;have Ul:=Qq q6 rfl;apply Zh;intro b2 Zx;apply YI (by kernel_rfl);simp;refine YF (v:= .agg #[.bool false,p1,p2]) (Wz.nil Hx.n) YA Xw (by simp[UP]) fun Qr Sp=>?_;simp[u2];refine YF (v:= .agg #[.int .i64 0,.int .i64 256,.bool false,j1,j2,.bool true,.bool false,p1,p2]) Sp Xp X7 (by simp[QH]) fun Oq R9=>?_;simp[RM];refine Z0 (v:= .agg #[.bool s,u,v]) rfl rfl rfl (by simp[RM,Y3 ((Nm Xt R9.ge _ (by omega)).trans Iw)]) ?_;simp;refine YF (v:= .int .i64 0) R9 Um RV (by simp[JC]) fun Bg Cf=>?_;simp[show Zd .eql .i64 0 0=some (.bool true)from rfl,u6];refine Us (v:= .tuple #[]) Cf Tp Vd Va (by simp[Ve,u6]) ?_;simp[u6];subst Zx;apply Zu;simp[Yx,Yn,u6,Ul];exact(T2 _ _).2 ⟨_,rfl,K,⟨j1,j2,p1,p2,rfl,o3.sl,o4.sl,o1.sl,o2.sl,by decide,by decide,Ud⟩,(o3.pq (by omega)).nine (o4.pq (by omega)) (o1.pq (by omega)) (o2.pq (by omega))⟩
             ·refine Za (t:=false) (by simp;omega) ?_;have xQ:op=13\/op=15:=by
               refine Decidable.by_contra fun h=>?_;unfold pQ WC at hval;repeat rw[if_neg (by omega)]at hval
               cases hval
              replace hval:(if A=0 then FD.rat false 0 1 else .opn)= .rat s' N' D':=by rcases xQ with rfl|rfl<;>exact hval
              have hz:A=0:=Decidable.by_contra fun h=>by rw[if_neg h]at hval;cases hval
              obtain⟨r1,r2,r3⟩:s'=false/\N'=0/\D'=1:=by rw[if_pos hz]at hval;injection hval with r1 r2 r3;exact⟨r1.symm,r2.symm,r3.symm⟩
              subst r1 r2 r3;apply Zr;simp[Yn,Yx];subst Ze;have Iw:=UM;have Nm: ∀{J:AH}(k:Zg Hx J){bits ms},(∀x∈ms,Hx.n<=x.2.1)-> ∀b,b<Hx.n->(RP J bits ms).blk b=Hx.blk b:=fun k _ _ h b hb=>(Y1 k h).blk b hb;obtain⟨p1,p2,HC,UP,YA,o1,o2⟩:=V4 (H:=Hx.top) (n:=0) (by decide);obtain⟨LP,Xw,XN,GG⟩:=cg YA;have Xr:=XN;have Qt:=Xr.n;have K:=K.trans XN;replace o1:=o1.gr YA Xw;replace o2:=o2.gr YA Xw;replace UP:ZY _ _ _ [Value.int .i64 0] _=_:=UP;obtain⟨j1,j2,D3,QH,Xp,o3,o4⟩:=Vc false o1.sl.top o2.sl.top (by decide) (by decide) Ud;obtain⟨Oh,X7,Xv,Cb⟩:=cg Xp;have Xt:=Xr.trans Xv;have Ot:=Xt.n;have K:=K.trans Xv;replace o1:=o1.m Xv;replace o2:=o2.m Xv;replace o3:=o3.gr Xp X7;replace o4:=o4.gr Xp X7;obtain⟨qA,JC,Um⟩:=X9 s ((ha.keep K).top) v;obtain⟨dW,RV,Vl,tF⟩:=cg Um;have Tk:=Xt.trans Vl;have Bl:=Tk.n;have K:=K.trans Vl;replace o1:=o1.m Vl;replace o2:=o2.m Vl;replace o3:=o3.m Vl;replace o4:=o4.m Vl;rw[X2.mpr hz]at JC;have h9:=FP (s:=false) o3.shape o4.shape o1.shape o2.shape;replace q6:=Tk.q q6;obtain⟨Mp,Ve,Tp,Vd,XT,q6,Xn,W9⟩:=Dg (ws:=[.int .i64 0,.int .i64 256,.bool false,j1,j2,.bool true,.bool false,p1,p2]) q6 rfl (by omega) rfl h9.1;obtain⟨FW,Va⟩:=hid (low dW Mp);rw[<-Va]at XT q6 Xn W9;have K:=W9 _ K (by omega);replace o1:=o1.off (b:=H.n) (by first|omega|(show _<AH.n _;omega)) XT Xn;replace o2:=o2.off (b:=H.n) (by first|omega|(show _<AH.n _;omega)) XT Xn;replace o3:=o3.off (b:=H.n) (by first|omega|(show _<AH.n _;omega)) XT Xn;replace o4:=o4.off (b:=H.n) (by first|omega|(show _<AH.n _;omega)) XT Xn;have Ul:=Qq q6 rfl;apply Zh;intro b1 Ze;apply YI (by kernel_rfl);simp;refine YF (v:= .agg #[.bool false,p1,p2]) (Wz.nil Hx.n) YA Xw (by simp[UP]) fun Qr Sp=>?_;simp[u2];refine YF (v:= .agg #[.int .i64 0,.int .i64 256,.bool false,j1,j2,.bool true,.bool false,p1,p2]) Sp Xp X7 (by simp[QH]) fun Oq R9=>?_;simp[RM];refine Z0 (v:= .agg #[.bool s,u,v]) rfl rfl rfl (by simp[RM,Y3 ((Nm Xt R9.ge _ (by omega)).trans Iw)]) ?_;simp;refine YF (v:= .int .i64 0) R9 Um RV (by simp[JC]) fun Bg Cf=>?_;simp[show Zd .eql .i64 0 0=some (.bool true)from rfl,u6];refine Us (v:= .tuple #[]) Cf Tp Vd Va (by simp[Ve,u6]) ?_;simp[u6];subst Ze;apply Zu;simp[u6,Ul];exact(T2 _ _).2 ⟨_,rfl,K,⟨j1,j2,p1,p2,rfl,o3.sl,o4.sl,o1.sl,o2.sl,by decide,by decide,Ud⟩,(o3.pq (by omega)).nine (o4.pq (by omega)) (o1.pq (by omega)) (o2.pq (by omega))⟩
end
end
section
variable {H : AH} {b : Nat} {k l m q e f n u v k' l' m' q' e' f' n' u' v' : Value} {tl : List Value}
theorem AF(h:H.blk b= .rw 9 (k::l::m::q::e::f::n::u::v::tl)):Z4 Tryz.prog H 64 (.pointer (some ⟨b,0,none⟩))=some (.agg #[k,l,m,q,e,f,n,u,v]):=XR h (by decide) rfl rfl rk aj
theorem ny(h:H.blk b= .rw 9 (k::l::m::q::e::f::n::u::v::k'::l'::m'::q'::e'::f'::n'::u'::v'::tl)):Z4 Tryz.prog H 64 (.pointer (some ⟨b,9,none⟩))=some (.agg #[k',l',m',q',e',f',n',u',v']):=XR h (by decide) rfl rfl rk aj
theorem nu(h:H.blk b= .rw 9 (k::l::m::q::e::f::n::u::v::k'::l'::m'::q'::e'::f'::n'::u'::v'::tl)):Z4 Tryz.prog H 3 (.pointer (some ⟨b,9,none⟩))=some k':=Yb LN (AH.cells_rw' h (by decide)) rfl
end
section
attribute [-simp] Int.natCast_add Int.natCast_mul Int.natCast_ediv Int.natCast_emod Int.natCast_pow
attribute [local simp] strip ZR Xm LR gW Z2 Ye ZW Yf ZK Yg Zs Zt Zi ZJ Ya ZP ZA Zl ZI Zj Zf ZB ZC YV Zo Yd YE Yy ZL plain ZO Tr.get_set Yw Zp Ys ZT sameKind undef Zw ZH Z5 Zv ZU parts XZ DW Yh Zz LX ZZ
section
variable {H : AH} {u v w z : Value}
theorem JE{s:Bool}{A:Nat}{k l m q e:Value}(ha:Sl H u (ds ZF A)): ∃H',ZY Tryz.prog Zy 177 [.agg #[k,l,m,q,e,.bool true,.bool s,u,v]] H=some (.bool (decide (A=0)),H')/\Zg H H':=by
 suffices hs:CW Tryz.prog Zy 177 [.agg #[k,l,m,q,e,.bool true,.bool s,u,v]] H fun x H'=>x= .bool (decide (A=0))/\Zg H H' by obtain⟨x,H',hc,rfl,k⟩:=hs;exact⟨H',hc,k⟩
 obtain⟨H2,e2,k2,n2,q0⟩:=XK H [k,l,m,q,e,.bool true,.bool s,u,v];have K:=k2;have z0:=q0;obtain⟨H3,c3,k3⟩:=X9 s (ha.keep K) v;have n3:=k3.n;have K:=K.trans k3;obtain⟨S,hS⟩:=hid (Xy s A);rw[<-hS]at c3;have hz:S=0↔A=0:=by rw[hS];exact X2
 have g1:Zd .eql .i64 S 0=some (.bool (decide (A=0))):=by rw[WR];exact congrArg (fun x=>some (Value.bool x)) (decide_eq_decide.mpr hz)
 refine Z8 11 Tryz.func177 ?_;apply Zb;intro b1 Ze;simp[Value.cells,e2];subst Ze;apply Zb;intro b1 Ze;simp[fJ,Bc z0,fI,iG z0,c3,g1];subst Ze;apply Zu;simp;exact K
theorem M8{s:Bool}{A:Nat}{k l m q e:Value}(ha:Sl H u (ds ZF A)): ∃H',ZY Tryz.prog Zy 178 [.agg #[k,l,m,q,e,.bool true,.bool s,u,v]] H=some (.bool (decide (Xy s A<0)),H')/\Zg H H':=by
 suffices hs:CW Tryz.prog Zy 178 [.agg #[k,l,m,q,e,.bool true,.bool s,u,v]] H fun x H'=>x= .bool (decide (Xy s A<0))/\Zg H H' by obtain⟨x,H',hc,rfl,k⟩:=hs;exact⟨H',hc,k⟩
 obtain⟨H2,e2,k2,n2,q0⟩:=XK H [k,l,m,q,e,.bool true,.bool s,u,v];have K:=k2;have z0:=q0;obtain⟨H3,c3,k3⟩:=X9 s (ha.keep K) v;have n3:=k3.n;have K:=K.trans k3;obtain⟨S,hS⟩:=hid (Xy s A);rw[<-hS]at c3⊢;have gl:Zd .lss .i64 S 0=some (.bool (decide (S<0))):=NF;refine Z8 14 Tryz.func178 ?_;apply Zb;intro b1 Ze;simp[Value.cells,e2];subst Ze;apply Zh;intro b1 Ze;apply Zb;intro b2 Zx;simp[fJ,Bc z0];subst Zx;refine Za (t:=true) (by simp) ?_;apply Zb;intro b2 Zx;simp[fI,iG z0,c3,gl];subst Zx;apply Zu;simp[Yx];exact K
theorem Bm{Q:Nat->Prop}{m op:Nat}{lv:Value}{css:List (List Value)}{c d:List Value}{s t:Bool}{A B C D:Nat}{s':Bool}{N' D':Nat}(hL:UJ 9 H lv css)(hc:Rh H c s A B)(hd:Rh H d t C D)(MQ:(css=[c]/\d=c)\/css=[c,d])(h6:op=6->css=[c,d])(hm:m<=H.n)(pc:Pq Q m c)(pd:Pq Q m d)(hval:pQ op s A B t C D= .rat s' N' D')(Ud:U4 s' N' D')(bK:Zm N'<=67108864)(bL:Zm D'<=67108864):CW Tryz.prog Zy 133 [.int .i64 (op:Int),lv,.int .i64 256] H fun x H'=> ∃vs:List Value,x= .agg vs.toArray/\Zg H H'/\Rh H' vs s' N' D'/\Pq Q m vs:=by
 obtain⟨Po,T2⟩: ∃Po:Value->AH->Prop,∀x H',Po x H'↔ ∃vs:List Value,x= .agg vs.toArray/\Zg H H'/\Rh H' vs s' N' D'/\Pq Q m vs:=⟨_,fun _ _=>Iff.rfl⟩;suffices hs:CW Tryz.prog Zy 133 [.int .i64 (op:Int),lv,.int .i64 256] H Po from(funext fun x=>funext fun H'=>propext (T2 x H'):Po=_)▸hs;have pA: ∀{i:Nat}{cs:List Value},css[i]?=some cs-> ∃s A B,Rh H cs s A B:=fun{i cs} hi=>by
  have Im:=List.mem_of_getElem? hi;rcases MQ with⟨rfl,rfl⟩|rfl;·rw[List.mem_singleton.mp Im];exact⟨_,_,_,hc⟩
  ·rcases List.mem_cons.mp Im with rfl|h;·exact⟨_,_,_,hc⟩
   ·rw[List.mem_singleton.mp h];exact⟨_,_,_,hd⟩
 obtain⟨H2,e2,k2,n2,q6⟩:=XK H FY;obtain⟨len,NO⟩:=hid (css.length);have CY:=(hL.keep k2).len uVs;rw[<-NO]at CY;have EY:len<=2:=by rcases MQ with⟨rfl,_⟩|rfl<;>simp[NO]
 have O0:=hL.keep k2;refine Z8 197 Tryz.func133 ?_;apply Zb;intro b1 Ze;simp[Value.cells,lj,FY,XV,e2];subst Ze;apply Zb;intro b1 Ze;simp;subst Ze;apply Zh;intro b1 Ze;apply Zb;intro b2 Zx;simp[CY];subst Zx;apply ZS;refine YQ (fun n s'=>s'.k=197/\Zg H2 s'.H/\ ∃(i:Nat),n+i=len/\s'.tm.get 0=some (.int .i64 (op:Int))/\s'.tm.get 1=some lv/\s'.tm.get 2=some (.int .i64 256)/\s'.tm.get 6=some (.pointer (some ⟨H.n,0,none⟩))/\s'.tm.get 7=some (.bool false)/\s'.tm.get 18=some lv/\s'.tm.get 19=some (.int .i64 (len:Int))/\s'.tm.get 20=some (.int .i64 (i:Int))) ?_ len _ ⟨rfl,.refl _,0,by omega,by simp,by simp,by simp,by simp,by simp,by simp,by simp,by simp⟩;rintro n ⟨kk,tm,Hb⟩ ⟨PA,Lk,i,sM,u0,u1,u2,u6,u7,u18,u19,u20⟩ Q' Y4;simp only at PA Lk u0 u1 u2 u6 u7 u18 u19 u20;subst PA;have nHb:=Lk.n;have q6b:=Lk.q q6;have kH:Zg H Hb:=k2.trans Lk;apply Zb;intro b3 Z9;simp[u19,u20,Iq];subst Z9;apply Zh;intro b3 Z9;by_cases hi:i<len
 ·refine Za (t:=true) (by simp[hi]) ?_;apply Zr;subst Z9;obtain⟨cs,S9⟩: ∃cs,css[i]?=some cs:=⟨css[i]'(by omega),List.getElem?_eq_getElem (by omega)⟩;obtain⟨s1,A1,B1,hV⟩:=pA S9;obtain⟨ab,hvb,Jb,Nl,XO,su,Jf⟩:=O0.at S9 uVs aj (by decide);have YD:=XR ((Lk.blk _ Nl).trans XO) (by decide) Jf su rk aj;obtain⟨H4,Wx,k4,q9,n4⟩:=nR (H:=Hb) hV.len hV.ones;obtain⟨q,e,u,v,rfl,_⟩:=hV;have yR:=iH q9;try simp at Wx YD
  apply Zh;intro b3 Z9;apply ZS;apply Zb;intro b4 Yz;simp[u18,u20,Jb,YD,lj,FY,Value.cells,Wx];subst Yz;apply Zh;intro b4 Yz;apply Zb;intro b5 SP;simp[fK,yR,show Zd .eql .i64 0 1=some (.bool false)from rfl];subst SP;refine Za (t:=false) (by simp) ?_;apply Zr;subst Yz;apply Zk;simp[u7,fK,yR,show Zd .eql .i64 0 2=some (.bool false)from rfl];simp[Yn];subst Z9;apply Zk;simp[u20,Tx (x:=i) (by omega)];apply Y4;exact⟨n-1,by omega,rfl,Lk.trans k4,i+1,by omega,by simp[u0],by simp[u1],by simp[u2],by simp[u6],by simp,by simp[u18],by simp[u19],by simp⟩
 ·refine Za (t:=false) (by simp[hi]) ?_;apply YP;apply Y4;left;refine⟨rfl,?_⟩;clear Y4;have QO:=O0.keep Lk;clear pA u18 u19 u20;have hcc:=hc;obtain⟨q,e,u,v,bq,hq,he,ha,hb,lA,lB,GI⟩:=hcc;have vV:=hd;obtain⟨q',e',w,z,dT,mK,pB,Mn,yq,lC,lD,cn⟩:=vV;obtain⟨ab,dN,Nl,XO⟩: ∃ab,lv= .slice (some ⟨ab,0,none⟩) len len/\ab<Hb.n/\Hb.blk ab= .rw 9 css.flatten:=by
   rcases QO with⟨_,e⟩|⟨ab,h1,h2,h3,_⟩;·rcases MQ with⟨rfl,_⟩|rfl<;>cases e
   ·exact⟨ab,by rw[NO];exact h1,h2,h3⟩
  obtain⟨tl,mI⟩: ∃tl,css.flatten=Value.int .i64 0:: .int .i64 256:: .bool s::q::e:: .bool true:: .bool s::u::v::tl:=by
   rcases MQ with⟨rfl,_⟩|rfl;·exact⟨[],by simp[bq]⟩
   ·exact⟨d,by simp[bq]⟩
  have Ik:0<len:=by rcases MQ with⟨rfl,_⟩|rfl<;>simp[NO]
  have Hk:=XO;rw[mI]at Hk;have gS:=AF Hk;subst Ze;apply Zh;intro b1 Ze;apply ZS;refine Y8 (fun s2=>s2.k=197/\Zg Hb s2.H/\s2.tm.get 0=some (.int .i64 (op:Int))/\s2.tm.get 1=some lv/\s2.tm.get 2=some (.int .i64 256)/\s2.tm.get 6=some (.pointer (some ⟨H.n,0,none⟩))/\s2.tm.get 7=some (.bool false)/\s2.tm.get 35=some (.bool false)) ?_ ?_
  ·intro Q2 kW;have sc:=Tn s A;have ha':=ha.keep kH;have g6:Zd .eql .i64 (op:Int) 6=some (.bool (decide (op=6))):=by rw[WR];exact congrArg (fun x=>some (Value.bool x)) (decide_eq_decide.mpr (by omega))
   have mj:Zd .eql .i64 (op:Int) 10=some (.bool (decide (op=10))):=by rw[WR];exact congrArg (fun x=>some (Value.bool x)) (decide_eq_decide.mpr (by omega))
   have kZ:Zd .eql .i64 (op:Int) 12=some (.bool (decide (op=12))):=by rw[WR];exact congrArg (fun x=>some (Value.bool x)) (decide_eq_decide.mpr (by omega))
   by_cases e6:op=6
   ·have h2:=h6 e6;have hC:C≠0:=fun e=>by rw[e6]at hval;have hval:(if C=0 then FD.und else .mk (Z6 (s !=t) (A*D) (B*C)))= .rat s' N' D':=hval;rw[if_pos e]at hval;cases hval
    have tf:tl=d:=by rw[h2,bq]at mI;simpa using mI.symm
    rw[tf,dT]at Hk;have GX:1<len:=by rw[NO,h2];simp
    obtain⟨H3,c3,k3⟩:=JE (s:=t) (A:=C) (v:=z) (k:= .int .i64 0) (l:= .int .i64 256) (m:= .bool t) (q:=q') (e:=e') (Mn.keep kH);rw[decide_eq_false hC]at c3;rw[decide_eq_true e6]at g6;rw[decide_eq_false (by omega)]at mj kZ;apply Zb;intro b2 Zx;simp[u0,g6,u1,dN,eQ GX,xz,nu Hk,show Zd .eql .i64 0 0=some (.bool true)from rfl,ny Hk,c3];subst Zx;refine Za (t:=false) (by simp) ?_;apply Zb;intro b2 Zx;simp[u0,mj];subst Zx;refine Za (t:=false) (by simp) ?_;apply Zk;simp[u0,kZ];apply kW;exact⟨rfl,k3,by simp[u0],by simp[u1,dN],by simp[u2],by simp[u6],by simp[u7],by simp⟩
   ·rw[decide_eq_false e6]at g6;by_cases e10:op=10
    ·have hS: ¬Xy s A<0:=fun h=>by rw[e10]at hval;have hval:(if Xy s A= -1 then FD.und else match U7 (s,A,B)with|some R=> .mk R|none=> .opn)= .rat s' N' D':=hval;rw[if_pos (by omega)]at hval;cases hval
     obtain⟨H3,c3,k3⟩:=M8 (s:=s) (v:=v) (k:= .int .i64 0) (l:= .int .i64 256) (m:= .bool s) (q:=q) (e:=e) ha';rw[decide_eq_false hS]at c3;rw[decide_eq_true e10]at mj;rw[decide_eq_false (by omega)]at kZ;apply Zb;intro b2 Zx;simp[u0,g6];subst Zx;refine Za (t:=false) (by simp) ?_;apply Zb;intro b2 Zx;simp[u0,mj,u7,u1,dN,Ci Ik,gS,c3];subst Zx;refine Za (t:=false) (by simp) ?_;apply Zk;simp[u0,kZ];apply kW;exact⟨rfl,k3,by simp[u0],by simp[u1,dN],by simp[u2],by simp[u6],by simp[u7],by simp⟩
    ·rw[decide_eq_false e10]at mj;by_cases xj:op=12
     ·have hS: ¬ (Xy s A= -1\/Xy s A=0):=fun h=>by rw[xj]at hval;have hval:(if Xy s A= -1\/Xy s A=0 then FD.und else if VB s A B false 1 1=0 then .rat false 0 1 else .opn)= .rat s' N' D':=hval;rw[if_pos h]at hval;cases hval
      have hA:A≠0:=fun h=>hS (.inr (X2.mpr h));obtain⟨H3,c3,k3⟩:=M8 (s:=s) (v:=v) (k:= .int .i64 0) (l:= .int .i64 256) (m:= .bool s) (q:=q) (e:=e) ha';rw[decide_eq_false (by omega)]at c3;obtain⟨H4,c4,k4⟩:=JE (s:=s) (v:=v) (k:= .int .i64 0) (l:= .int .i64 256) (m:= .bool s) (q:=q) (e:=e) (ha'.keep k3);rw[decide_eq_false hA]at c4;have yQ:=AF ((k3.blk _ Nl).trans Hk);rw[decide_eq_true xj]at kZ;apply Zb;intro b2 Zx;simp[u0,g6];subst Zx;refine Za (t:=false) (by simp) ?_;apply Zb;intro b2 Zx;simp[u0,mj];subst Zx;refine Za (t:=false) (by simp) ?_;apply Zk;simp[u0,kZ,u7,u1,dN,Ci Ik,gS,c3,yQ,c4];apply kW;exact⟨rfl,k3.trans k4,by simp[u0],by simp[u1,dN],by simp[u2],by simp[u6],by simp[u7],by simp⟩
     ·rw[decide_eq_false xj]at kZ;apply Zb;intro b2 Zx;simp[u0,g6];subst Zx;refine Za (t:=false) (by simp) ?_;apply Zb;intro b2 Zx;simp[u0,mj];subst Zx;refine Za (t:=false) (by simp) ?_;apply Zk;simp[u0,kZ];apply kW;exact⟨rfl,.refl _,by simp[u0],by simp[u1,dN],by simp[u2],by simp[u6],by simp[u7],by simp⟩
  clear u0 u1 u2 u6 u7;rintro⟨kk,tm,Hx⟩ ⟨PA,kx,u0,u1,u2,u6,u7,u35⟩;simp only at PA kx u0 u1 u2 u6 u7 u35;subst PA;have nx:=kx.n;have q6:=kx.q q6b;have vD:=kH.trans kx;refine Za (t:=false) (by simp[u35]) ?_;apply Zb;intro b2 Zx;simp[u7];subst Zx;refine Za (t:=false) (by simp) ?_;apply Zr;simp[Yn,Yx];subst Ze;obtain⟨x,H3,c3,vs,rfl,k3,hV,pv⟩:=Gu (Q:=Q) (m:=m) (hL.keep vD) (hc.fr vD.fr) (hd.fr vD.fr) MQ (by omega) pc pd hval Ud bK bL;obtain⟨H4,Wx,k4,UM,n4⟩:=nR (H:=H3) hV.len hV.ones;have n3:=k3.n;replace q6:=(k4.blk _ (by omega)).trans (k3.q q6);have sS:=Qq UM hV.len;obtain⟨H5,Wo,n5,q5,b5,WH⟩:=ux q6 rfl hV.len hV.ones;have Ul:=Qq q5 hV.len;have MU:=(hV.fr k4.fr).fr (Fr.put q6 q5 n5 b5 hV.len.symm rfl hV.noU);have K5:=WH H ((vD.trans k3).trans k4) (Nat.le_refl _);apply Zh;intro b1 Ze;apply Zb;intro b2 Zx;simp[u0,u1,u2,c3,lj,FY,Value.cells,Wx];subst Zx;apply Zb;intro b2 Zx;simp;subst Zx;refine Za (t:=true) (by simp) ?_;apply Zb;intro b2 Zx;simp[sS,u6,Wo];subst Zx;apply Zu;simp[Yx,u6,Ul];exact(T2 _ _).2 ⟨vs,rfl,K5,MU,pv⟩
end
end
section
attribute [-simp] Int.natCast_add Int.natCast_mul Int.natCast_ediv Int.natCast_emod Int.natCast_pow
attribute [local simp] strip ZR Xm LR gW Z2 Ye ZW Yf ZK Yg Zs Zt Zi ZJ Ya ZP ZA Zl ZI Zj Zf ZB ZC YV Zo Yd YE Yy ZL plain ZO Tr.get_set Yw Zp Ys ZT sameKind undef Zw ZH Z5 Zv Z1 Yl ZU parts Z3 XZ DW Yh Zz LX ZZ Zq ZD ZQ XM Yk Zn ZN ZV ZM
def RFIs(U:List Value)(H:AH)(f:FD)(x:Value)(H':AH):Prop:=Zg H H'/\ ∃vs:List Value,x= .agg vs.toArray/\RZ H' vs f/\Pv U H.n vs
section
variable {H : AH} {u v w z : Value}
theorem two_mul{s t:Bool}{A B C D:Nat}(ha:Sl H u (ds ZF A))(hb:Sl H v (ds ZF B))(hc:Sl H w (ds ZF C))(hd:Sl H z (ds ZF D))(low:U4 s A B)(Ud:U4 t C D)(hw:(FD.rat s A B).w+(FD.rat t C D).w<=67108864):CW Tryz.prog Zy 119 [.int .i64 5,.agg #[.bool s,u,v],.agg #[.bool t,w,z]] H (RFIs [u,v,w,z] H (PN 5 s A B t C D)):=by
 obtain⟨y1,y2,y3,y4,y5,y6,y7,y8,y9⟩:=M4 hw;have GW:=(JH (op:=5) low Ud).2;obtain⟨H2,e2,k2,n2,q0,q1,q2⟩:=Te H [.bool s,u,v] [.bool t,w,z] [.int .i64 0,.bool false,.slice none 0 0,.slice none 0 0];have q0z:=q0;have q1z:=q1;have K:=k2;refine Z8 43 Tryz.func119 ?_;apply Zb;intro b1 Ze;simp[Value.cells,zRF,XV,e2];subst Ze;apply Zh;intro b1 Ze;apply Zb;intro b2 Zx;simp;subst Zx;apply ZS;apply Zb;intro b2 Zx;simp[show Zd .eql .i64 5 3=some (.bool false)from rfl];subst Zx;refine Za (t:=false) (by simp) ?_;apply Zb;intro b2 Zx;simp[show Zd .eql .i64 5 4=some (.bool false)from rfl];subst Zx;refine Za (t:=false) (by simp) ?_;apply Zb;intro b2 Zx;simp[show Zd .eql .i64 5 5=some (.bool true)from rfl];subst Zx;refine Za (t:=true) (by simp) ?_;have MM:PN 5 s A B t C D= .mk (Z6 (s !=t) (A*C) (B*D)):=rfl;rw[MM]at GW⊢;obtain⟨R,hR⟩:=hid (Z6 (s !=t) (A*C) (B*D));rw[<-hR]at GW⊢;obtain⟨us,H3,c3,k3,p1,p2,rfl,o1,o2⟩:=Mc s t (ha.keep K) (hb.keep K) (hc.keep K) (hd.keep K) (Xe (by omega)) (Xe (by omega)) (Xe (by omega)) (Xe (by omega)) low.2 Ud.2;have n3:=k3.n;have K:=K.trans k3;replace q2:=k3.q q2;rw[<-hR]at c3 o1 o2;obtain⟨S,N,E⟩:=R;simp only at c3 o1 o2;have GY:max (Zm N) (Zm E)+1<=67108864:=Nat.le_trans GW hw;obtain⟨H4,c4,k4⟩:=JO (s:=S) o1.sl o2.sl (by omega) (by omega);have n4:=k4.n;have K:=K.trans k4;replace q2:=k4.q q2;have hF:RZ H4 [.int .i64 1,.bool S,p1,p2] (.mk (S,N,E)):=⟨_,_,rfl,o1.sl.keep k4,o2.sl.keep k4⟩;obtain⟨H5,Wo,n5,q2,b5,WH,hF⟩:=ur q2 rfl hF;have K:=WH _ K (by omega);have YD:=nr q2 rfl;try simp at Wo YD
 apply Zb;intro b2 Zx;simp[Y3 q0z,Y3 q1z,c3,c4,Wo];subst Zx;apply Zu;simp[Yx,Yn,YD];exact⟨K,_,rfl,hF,.mk⟩
end
def RY(H:AH):List (List Value)->List FD->Prop|[],[]=>True|c::cs,f::fs=>RZ H c f/\RY H cs fs|_,_=>False
section
variable {H H' : AH} {vs : List Value} {f : FD}
theorem RY.fr(k:Fr H H'): ∀{css:List (List Value)}{fs:List FD},RY H css fs->RY H' css fs|[],[],_=>trivial|c::cs,f::fs,h=>⟨RZ.fr h.1 k,RY.fr k h.2⟩|[],_::_,h=>h.elim|_::_,[],h=>h.elim
theorem RY.append: ∀{css ds:List (List Value)}{fs gs:List FD},RY H css fs->RY H ds gs->RY H (css++ds) (fs++gs)|[],ds,[],gs,_,h2=>h2|c::cs,ds,g::fs,gs,h,h2=>⟨h.1,RY.append h.2 h2⟩|[],_,_::_,_,h,_=>h.elim|_::_,_,[],_,h,_=>h.elim
theorem RY.len: ∀{css:List (List Value)}{fs:List FD},RY H css fs->css.length=fs.length|[],[],_=>rfl|c::cs,f::fs,h=>by rw[List.length_cons,List.length_cons,RY.len h.2]|[],_::_,h=>h.elim|_::_,[],h=>h.elim
theorem RY.get: ∀{css:List (List Value)}{fs:List FD}{i:Nat}{c:List Value},RY H css fs->css[i]?=some c-> ∃f,fs[i]?=some f/\RZ H c f|[],[],i,f,_,hi=>by simp at hi|c::cs,g::fs,0,f,h,hi=>by simp at hi;subst hi;exact⟨g,rfl,h.1⟩|c::cs,g::fs,i+1,f,h,hi=>by simp at hi;obtain⟨vs,h1,h2⟩:=RY.get h.2 hi;exact⟨vs,by simpa using h1,h2⟩|[],_::_,i,f,h,_=>h.elim|_::_,[],i,f,h,_=>h.elim
end
theorem C9{H:AH}{b:Nat}{v0 v1 v2 v3 v4 v5:Value}(h:H.blk b= .rw 1 [v0,v1,v2,v3,v4,v5]):Z4 Tryz.prog H 3 (.pointer (some ⟨b,0,none⟩))=some v0:=Yb LN (AH.cells_rw' h (by decide)) rfl
theorem tL{H:AH}{b:Nat}{v0 v1 v2 v3 v4 v5:Value}(h:H.blk b= .rw 1 [v0,v1,v2,v3,v4,v5]):Z4 Tryz.prog H 42 (.pointer (some ⟨b,1,none⟩))=some (.agg #[v1,v2,v3]):=XR h (by decide) rfl rfl aR sR
theorem tK{H:AH}{b:Nat}{v0 v1 v2 v3 v4 v5:Value}(h:H.blk b= .rw 1 [v0,v1,v2,v3,v4,v5]):Z4 Tryz.prog H 66 (.pointer (some ⟨b,5,none⟩))=some v5:=Yb aEs (AH.cells_rw' h (by decide)) rfl
theorem fH(b:Nat):Yc Tryz.prog 68 (.pointer (some ⟨b,0,none⟩)) 0=some (.pointer (some ⟨b,0,none⟩)):=feOp b 0
theorem rM(b:Nat):Yc Tryz.prog 68 (.pointer (some ⟨b,0,none⟩)) 1=some (.pointer (some ⟨b,1,none⟩)):=pJ b 0
theorem mi(b:Nat):Yc Tryz.prog 68 (.pointer (some ⟨b,0,none⟩)) 3=some (.pointer (some ⟨b,5,none⟩)):=Gw b 0
theorem Ba{H:AH}{b:Nat}{vs:List Value}(hb:H.blk b= .rw 1 vs)(hl:vs.length=6):Z4 Tryz.prog H 68 (.pointer (some ⟨b,0,none⟩))=some (.agg vs.toArray):=XR hb (by decide) (by rw[List.drop_zero,List.take_of_length_le (by omega)]) hl aE sE
section
variable {H : AH} {u v w z : Value}
end
theorem RY.ones{H:AH} : ∀{css:List (List Value)}{fs:List FD},RY H css fs->css.flatten.all one=true|[],[],_=>rfl|c::cs,f::fs,h=>by rw[List.flatten_cons,List.all_append,RZ.ones h.1,RY.ones h.2];rfl|[],_::_,h=>h.elim|_::_,[],h=>h.elim
def ll(Q:Nat->Prop)(n:Nat)(css:List (List Value)):Prop:= ∀cs∈css,∀v∈cs,∀b,YJ v=some b->Q b\/n<=b
theorem ll.nil{Q:Nat->Prop}{n:Nat} :ll Q n []:=fun cs h=>by cases h
theorem ll.app{Q:Nat->Prop}{n m:Nat}{css ds:List (List Value)}(h:ll Q n css)(h':ll Q m ds)(hm:n<=m):ll Q n (css++ds):=fun cs hc v hv b hb=>by
 rcases List.mem_append.mp hc with hc|hc;·exact h cs hc v hv b hb
 ·rcases h' cs hc v hv b hb with h|h;·exact .inl h
  ·exact .inr (Nat.le_trans hm h)
theorem ll.one{Q:Nat->Prop}{n:Nat}{css:List (List Value)}(h:ll Q n css){c:List Value}(hc:c∈css):ll Q n [c]:=fun cs S9=>h cs (by rw[List.mem_singleton.mp S9];exact hc)
theorem RY.one{H:AH}{c:List Value}{f:FD}(h:RZ H c f):RY H [c] [f]:=⟨h,trivial⟩
theorem Du(op:Int)(neg:Bool)(abs den:List Nat)(args:List ET):(ET.node op neg abs den args).ref= .node op (VV op neg abs den).1.1 (VV op neg abs den).1.2.1 (VV op neg abs den).1.2.2 (VV op neg abs den).2 (Ub args):=by simp only[ET.ref]
theorem newE{H:AH}{vs:List Value}(hl:vs.length=6)(h:vs.all one=true): ∃H',YZ Tryz.prog (H.new 1 [.int .i64 0,.bool false,.slice none 0 0,.slice none 0 0,.bool false,.slice none 0 0]) 68 (.pointer (some ⟨H.n,0,none⟩)) (.agg vs.toArray)=some H'/\Zg H H'/\H'.blk H.n= .rw 1 vs/\H'.n=H.n+1:=Y6 sE rfl (by simp[Value.cells]) hl h
section
variable {H : AH} {u v w z : Value}
end
end
theorem HJ{op:Int}(h0:op≠0){neg:Bool}{N D:Nat}{fs:List FD}{s:Bool}{A B:Nat}(h:XW op neg N D fs= .rat s A B):(∃s1 A1 B1,fs=[.rat s1 A1 B1]/\pQ op s1 A1 B1 s1 A1 B1= .rat s A B)\/ ∃s1 A1 B1 t C D',fs=[.rat s1 A1 B1,.rat t C D']/\pQ op s1 A1 B1 t C D'= .rat s A B:=by
 unfold XW at h;rw[if_neg h0]at h;split at h
 ·rename_i s1 A1 B1;refine .inl ⟨s1,A1,B1,rfl,?_⟩;unfold pQ;by_cases e:op=3\/op=4\/op=5\/op=6\/op=8\/op=9
  ·exfalso;unfold WC at h;repeat rw[if_neg (by omega)]at h
   cases h
  ·rw[if_neg e];exact h
 ·rename_i s1 A1 B1 t C D';refine .inr ⟨s1,A1,B1,t,C,D',rfl,?_⟩;unfold pQ;by_cases e:op=3\/op=4\/op=5\/op=6\/op=8\/op=9;·rw[if_pos e];exact h
  ·exfalso;unfold PN at h;repeat rw[if_neg (by omega)]at h
   cases h
 ·split at h<;>cases h
 ·cases h
theorem Sl.frame{H H':AH}{v:Value}{xs:List Nat}(h:Sl H v xs)(hn:H.n<=H'.n)(k: ∀b,YJ v=some b->H'.blk b=H.blk b):Sl H' v xs:=by cases h with|nil=>exact .nil|emp b=>exact .emp b|mk b o cap xs h1 h2=>obtain⟨h3,cs,h4,h5,h6,h7⟩:=h2;have e:=k b rfl;exact .mk b o cap xs h1 ⟨Nat.lt_of_lt_of_le h3 hn,cs,by unfold AH.cells;rw[e];exact h4,by unfold AH.size;rw[e];exact h5,h6,h7⟩
theorem Rh.frame{H H':AH}{vs:List Value}{s:Bool}{N D:Nat}(h:Rh H vs s N D)(hn:H.n<=H'.n)(k: ∀v∈vs,∀b,YJ v=some b->H'.blk b=H.blk b):Rh H' vs s N D:=by obtain⟨q,e,u,v,rfl,h1,h2,h3,h4,h5⟩:=h;exact⟨q,e,u,v,rfl,h1.frame hn (k q (by simp)),h2.frame hn (k e (by simp)),h3.frame hn (k u (by simp)),h4.frame hn (k v (by simp)),h5⟩
theorem Rh.lt{H:AH}{vs:List Value}{s:Bool}{N D:Nat}(h:Rh H vs s N D): ∀v∈vs,∀b,YJ v=some b->b<H.n:=by
 obtain⟨q,e,u,v,rfl,h1,h2,h3,h4,h5⟩:=h;intro x hx b hb;simp only[List.mem_cons,List.not_mem_nil,or_false]at hx;rcases hx with rfl|rfl|rfl|rfl|rfl|rfl|rfl|rfl|rfl;·cases hb
 ·cases hb
 ·cases hb
 ·exact h1.blk_lt hb
 ·exact h2.blk_lt hb
 ·cases hb
 ·cases hb
 ·exact h3.blk_lt hb
 ·exact h4.blk_lt hb
theorem sPT:Xk Tryz.prog 125=some 11:=by kernel_rfl
theorem aPT:Xx Tryz.prog 125=some true:=by kernel_rfl
abbrev zPs:List Value:= .int .i64 0:: .slice none 0 0::FY
theorem zPT:WA Tryz.prog 125=some (.agg zPs.toArray):=by kernel_rfl
theorem rO(b o:Nat):Yc Tryz.prog 125 (.pointer (some ⟨b,o,none⟩)) 2=some (.pointer (some ⟨b,o+2,none⟩)):=by kernel_rfl
theorem pN(b:Nat):Yc Tryz.prog 125 (.pointer (some ⟨b,0,none⟩)) 2=some (.pointer (some ⟨b,2,none⟩)):=rO b 0
theorem uPs:Tryz.prog.underlying 121=some (.slice 125):=by kernel_rfl
theorem sPs:WO Tryz.prog 121=some (125,11,168):=by kernel_rfl
theorem sVs:WO Tryz.prog 182=some (64,9,136):=by kernel_rfl
theorem sIs:WO Tryz.prog 123=some (3,1,8):=by kernel_rfl
theorem zIT:WA Tryz.prog 3=some (.int .i64 0):=by kernel_rfl
theorem bIs(H:AH)(x:Int):YX Tryz.prog H 123 1 [(0,.int .i64 x)]=some (.slice (some ⟨H.n,0,none⟩) 1 1,H.new 1 [.int .i64 x]):=by unfold YX;simp only[sIs,zIT];kernel_rfl
theorem bVs(H:AH)(k l m q e f n u v:Value):YX Tryz.prog H 182 1 [(0,.agg #[k,l,m,q,e,f,n,u,v])]=some (.slice (some ⟨H.n,0,none⟩) 1 1,H.new 9 [k,l,m,q,e,f,n,u,v]):=by unfold YX;simp only[sVs,lj];kernel_rfl
theorem bPs(H:AH)(o p k l m q e f n u v:Value):YX Tryz.prog H 121 1 [(0,.agg #[o,p,k,l,m,q,e,f,n,u,v])]=some (.slice (some ⟨H.n,0,none⟩) 1 1,H.new 11 [o,p,k,l,m,q,e,f,n,u,v]):=by unfold YX;simp only[sPs,zPT];kernel_rfl
theorem bPT{op:Int}{p:Value}(hp: ∃a l c,p= .slice a l c):Wi Tryz.prog 125 [(0,.int .i64 op),(1,p)]=some (.agg #[.int .i64 op,p,.int .i64 0,.int .i64 0,.bool false,.slice none 0 0,.slice none 0 0,.bool false,.bool false,.slice none 0 0,.slice none 0 0]):=by obtain⟨a,l,c,rfl⟩:=hp;kernel_rfl
section
variable {H : AH} {b : Nat} {o p k l m q e f n u v : Value}
theorem newP(h:[o,p,k,l,m,q,e,f,n,u,v].all one=true): ∃H',YZ Tryz.prog (H.new 1 zPs) 125 (.pointer (some ⟨H.n,0,none⟩)) (.agg #[o,p,k,l,m,q,e,f,n,u,v])=some H'/\Zg H H'/\H'.blk H.n= .rw 1 [o,p,k,l,m,q,e,f,n,u,v]/\H'.n=H.n+1:=Y6 sPT rfl rfl rfl h
theorem zM(hb:H.blk b= .rw 1 [o,p,k,l,m,q,e,f,n,u,v]):Z4 Tryz.prog H 125 (.pointer (some ⟨b,0,none⟩))=some (.agg #[o,p,k,l,m,q,e,f,n,u,v]):=XR hb (by decide) rfl rfl aPT sPT
theorem qK{k' l' m' q' e' f' n' u' v':Value}(hb:H.blk b= .rw 1 [o,p,k',l',m',q',e',f',n',u',v'])(h:[k,l,m,q,e,f,n,u,v].all one=true): ∃H',YZ Tryz.prog H 64 (.pointer (some ⟨b,2,none⟩)) (.agg #[k,l,m,q,e,f,n,u,v])=some H'/\H'.n=H.n/\H'.blk b= .rw 1 [o,p,k,l,m,q,e,f,n,u,v]/\(∀j,j≠b->H'.blk j=H.blk j)/\UR b H H':=by obtain⟨H',st,q',n1,o,ka,_⟩:=WE (o:=2) (t:=64) (n:=9) aj hb (v:= .agg #[k,l,m,q,e,f,n,u,v]) (ws:=[k,l,m,q,e,f,n,u,v]) rfl rfl (by show 11<=11;exact Nat.le_refl _) h;exact⟨H',st,n1,q',o,ka⟩
theorem Mz{cs:List Value}{i:Nat}(h:(cs.drop (i*11)).take 11=[o,p,k,l,m,q,e,f,n,u,v]):(cs.drop (i*11+2)).take 9=[k,l,m,q,e,f,n,u,v]:=by have h2:=congrArg (List.drop 2) h;rw[List.drop_take,List.drop_drop]at h2;exact h2
end
def Mr(Q:Nat->Prop)(n:Nat)(H:AH)(args:List ET)(Ur:List (List Value)):Prop:= ∀(j:Nat)(c:List Value),Ur[j]?=some c-> ∃(ti:ET) (s:Bool) (A B:Nat),args[j]?=some ti/\ti.fold= .rat s A B/\Rh H c s A B/\Pq Q n c
theorem Mr.get{Q:Nat->Prop}{n:Nat}{H:AH}{args:List ET}{Ur:List (List Value)}(h:Mr Q n H args Ur){c:List Value}(hc:c∈Ur): ∃s A B,Rh H c s A B:=by obtain⟨j,hj⟩:=List.mem_iff_getElem?.mp hc;obtain⟨_,s,A,B,_,_,h,_⟩:=h j c hj;exact⟨s,A,B,h⟩
theorem Mr.map{Q:Nat->Prop}{n:Nat}{H H':AH}{args:List ET}{Ur:List (List Value)}(h:Mr Q n H args Ur)(f: ∀c∈Ur,∀s A B,Rh H c s A B->Rh H' c s A B):Mr Q n H' args Ur:=fun j c hj=>by obtain⟨ti,s,A,B,h1,h2,h3,h4⟩:=h j c hj;exact⟨ti,s,A,B,h1,h2,f c (List.mem_of_getElem? hj) s A B h3,h4⟩
theorem Mr.fr{Q:Nat->Prop}{n:Nat}{H H':AH}{args:List ET}{Ur:List (List Value)}(h:Mr Q n H args Ur)(f:Fr H H'):Mr Q n H' args Ur:=h.map fun _ _ _ _ _ v=>v.fr f
theorem Mr.app{Q:Nat->Prop}{n:Nat}{H:AH}{args:List ET}{Ur:List (List Value)}(h:Mr Q n H args Ur){ti:ET}(hi:args[Ur.length]?=some ti){c:List Value}{s:Bool}{A B:Nat}(hf:ti.fold= .rat s A B)(hV:Rh H c s A B)(hp:Pq Q n c):Mr Q n H args (Ur++[c]):=fun j d hj=>by
 rcases Nat.lt_trichotomy j Ur.length with YW|rfl|hgt;·rw[List.getElem?_append_left YW]at hj;exact h j d hj
 ·rw[List.getElem?_append_right (Nat.le_refl _),Nat.sub_self]at hj;simp at hj;subst hj;exact⟨ti,s,A,B,hi,hf,hV,hp⟩
 ·rw[List.getElem?_eq_none (by simp;omega)]at hj;cases hj
def pg(Q:Nat->Prop)(H0 H:AH)(out:Value)(k:Nat)(s:Bool)(N D:Nat)(x:Value)(H':AH):Prop:=Zg H0 H'/\H.n<=H'.n/\(∀j,j<H.n->YJ out≠some j->H'.blk j=H.blk j)/\(∀b,YJ x=some b->H.n<=b)/\ ∃TS op pl ws,UJ 11 H' x (TS++[op::pl::ws])/\TS.length+1=k/\Rh H' ws s N D/\Pq Q H.n ws
theorem Is{l:List ET}{i:Nat}(h:l.length<=i):Yp (l.take i)=Yp l:=by rw[List.take_of_length_le h]
theorem A3{o:Int}{p:Value}{vs:List Value}(hp: ∃a l c,p= .slice a l c)(h:noU vs=true):noU (.int .i64 o::p::vs)=true:=by obtain⟨a,l,c,rfl⟩:=hp;exact h
section
attribute [-simp] Int.natCast_add Int.natCast_mul Int.natCast_ediv Int.natCast_emod Int.natCast_pow
attribute [local simp] strip ZR Xm LR gW Z2 Ye ZW Yf ZK Yg Zs Zt Zi ZJ Ya ZP ZA Zl ZI Zj Zf ZB ZC YV Zo Yd YE Yy ZL plain ZO Tr.get_set Yw Zp Ys ZT sameKind undef Zw ZH Z5 Zv ZU parts XZ DW Yh Zz LX ZZ
section
variable {H : AH} {u v w z : Value}
theorem DD: ∀n(t:ET),t.nodes<=n-> ∀(Q:Nat->Prop)(H0 H:AH)(vs:List Value)(out:Value)(JZ:List (List Value)),Rx Q H0 vs t.ref->t.wide 1048576->t.allGood=true->t.wt<=67108864->(∀b,Q b->b<H0.n)->Zg H0 H->UJ 11 H out JZ->(∀b,YJ out=some b->H0.n<=b)->JZ.length+t.nodes<=100000000-> ∀s N D,t.fold= .rat s N D->CW Tryz.prog Zy 97 [.agg vs.toArray,.int .i64 256,out] H (pg Q H0 H out (JZ.length+t.nodes) s N D):=by intro n;induction n with
 |zero=>intro t h;have:=Wg t;omega
 |succ n ih=>intro t ht Q H0 H vs out JZ hE hw hg CG hQ hK hO hO0 X4 s N D OU;obtain⟨mS,gX⟩:=Ki _ t (Nat.le_refl _) hg hw;have gX:=Nat.le_trans gX CG;rw[OU]at mS gX;have gX:max (Zm N) (Zm D)+1<=67108864:=gX;have Ud:U4 s N D:=mS;obtain⟨op,neg,abs,den,args⟩:=t;rw[Du]at hE;obtain⟨rh,hrh⟩:=hid (VV op neg abs den);rw[<-hrh]at hE;have xO:=hE;cases xO with
  |@mk _ _ _ vn vd vx _ _ _ h1 h2 h3=>
   obtain⟨wa,wd,da,dd,ws⟩:=hw;simp only[ET.nodes]at ht X4;simp only[ET.allGood,Bool.and_eq_true]at hg;obtain⟨hgn,yz⟩:=hg;obtain⟨mL,hop16,vY,hD⟩:=OA hgn;obtain⟨kk,rfl⟩: ∃kk:Nat,op=(kk:Int):=⟨op.toNat,by omega⟩;have zn:T6 args<=67108864:=by simp only[ET.wt]at CG;omega
   obtain⟨len,NO⟩:=hid (args.length);have AV:=h3.len;rw[JQ,<-NO]at AV;have qd:=UB args;obtain⟨R,hR⟩:=hid (pg Q H0 H out (JZ.length+(ET.node (kk:Int) neg abs den args).nodes) s N D);rw[<-hR];obtain⟨H2,e2,k2,n2,q0⟩:=XK H [.int .i64 (kk:Int),.bool rh.1.1,vn,vd,.bool rh.2,vx];have kV:(kk=0/\rh.1=(s,N,D)/\args=[])\/(kk≠0/\XW (kk:Int) false 0 0 (YK args)= .rat s N D):=by
    have hf:=OU;simp only[ET.fold]at hf;split at hf;·cases hf
    ·by_cases h0:kk=0;·left;subst h0;have ha:args=[]:=List.length_eq_zero_iff.mp (by have e:(((0:Nat):Int)).toNat=0:=rfl;rw[e]at vY;have:arity 0=0:=rfl;omega);refine⟨rfl,?_,ha⟩;have hf:FD.mk (Z6 neg (dv Zc abs) (dv Zc den))= .rat s N D:=hf;injection hf with r1 r2 r3;rw[hrh];unfold VV;rw[if_pos (show((0:Nat):Int)=0 from rfl),if_neg (by have:=hD rfl;omega)];exact Prod.ext r1 (Prod.ext r2 r3)
     ·exact .inr ⟨h0,by rw[<-hf];exact(DH (by omega) _ _ _ _ _ _ _)⟩
   refine Z8 69 Tryz.func97 ?_;apply Zb;intro b1 Ze;simp[Value.cells,e2];subst Ze;apply Zb;intro b1 Ze;simp;subst Ze;apply Zb;intro b1 Ze;simp;subst Ze;apply Zh;intro b1 Ze;apply Zb;intro b2 Zx;simp[mi,tK q0,AV];subst Zx;apply ZS;refine YQ (fun n s'=>s'.k=69/\Zg H0 s'.H/\H.n+1<=s'.H.n/\(∀j,j<H.n->YJ out≠some j->s'.H.blk j=H.blk j)/\s'.H.blk H.n= .rw 1 [.int .i64 (kk:Int),.bool rh.1.1,vn,vd,.bool rh.2,vx]/\ ∃(i:Nat) (ov pv wv:Value) (TS js Ur:List (List Value)),n+i=len/\UJ 11 s'.H ov TS/\TS.length=JZ.length+Yp (args.take i)/\(∀b,YJ ov=some b->YJ out=some b\/H.n+1<=b)/\UJ 1 s'.H pv js/\js.length=i/\(∀b,YJ pv=some b->H.n+1<=b)/\UJ 9 s'.H wv Ur/\Ur.length=i/\(∀b,YJ wv=some b->H.n+1<=b)/\Mr Q H.n s'.H args Ur/\(∀c∈Ur,∀v∈c,∀b,YJ v=some b->YJ pv≠some b)/\s'.tm.get 1=some (.int .i64 256)/\s'.tm.get 2=some ov/\s'.tm.get 3=some (.pointer (some ⟨H.n,0,none⟩))/\s'.tm.get 7=some pv/\s'.tm.get 8=some wv/\s'.tm.get 13=some vx/\s'.tm.get 14=some (.int .i64 (len:Int))/\s'.tm.get 15=some (.int .i64 (i:Int))) ?_ len _ ⟨rfl,hK.trans k2,by show H.n+1<=H2.n;omega,(fun j hj _=>k2.blk j hj),q0,0,out,.slice none 0 0,.slice none 0 0,JZ,[],[],by omega,hO.keep k2,by simp[Yp],(fun b hb=> .inl hb),.nil,rfl,(fun b hb=>by cases hb),.nil,rfl,(fun b hb=>by cases hb),(fun j c hj=>by simp at hj),(fun c hc=>by cases hc),by simp,by simp,by simp,by simp,by simp,by simp,by simp,by simp⟩;rintro n' ⟨k,tm,Hc⟩ ⟨hk,kc,nHc,fc,qx,i,ov,pv,wv,TS,js,Ur,sM,hLo,hol,gJ,gj,bU,hpv,hLw,qW,zo,ye,hpe,u1,u2,u3,u7,u8,Fz,Fm,j9⟩ Q' Y4;simp only at hk kc nHc fc qx hLo gj hLw ye u1 u2 u3 u7 u8 Fz Fm j9;subst hk;apply Zb;intro b3 Z9;simp[Fm,j9,Iq];subst Z9;apply Zh;intro b3 Z9;by_cases hi:i<len
   ·refine Za (t:=true) (by simp[hi]) ?_;apply Zr;subst Z9;obtain⟨ti,NL⟩: ∃ti,args[i]?=some ti:=⟨args[i]'(by omega),List.getElem?_eq_getElem (by omega)⟩;have gM:=RR NL;have hnp:=Wg ti;have dK:(Ub args)[i]?=some ti.ref:=by rw[Qy,List.getElem?_map,NL];rfl
    obtain⟨p,us,Jb,gQ,Aw⟩:=h3.at dK;have YD:=gQ Hc kc;obtain⟨H4,Wx,k4,q6,n4⟩:=newE (H:=Hc) Aw.len Aw.ones;have l8:=Ba q6 Aw.len;obtain⟨s1,A1,B1,hf1⟩: ∃s1 A1 B1,ti.fold= .rat s1 A1 B1:=by
     rcases kV with⟨_,_,e⟩|⟨h0,e⟩;·rw[e]at NL;simp at NL
     ·have hm:ti.fold∈YK args:=by rw[Wc];exact List.mem_map_of_mem (List.mem_of_getElem? NL)
      rcases HJ (by omega) e with⟨a,b,c,e,_⟩|⟨a,b,c,d,f,g,e,_⟩;·rw[e]at hm;exact⟨a,b,c,List.mem_singleton.mp hm⟩
      ·rw[e]at hm;rcases List.mem_cons.mp hm with hm|hm;·exact⟨_,_,_,hm⟩
       ·exact⟨_,_,_,List.mem_singleton.mp hm⟩
    have gh:=hLo.keep k4;have nK:=hK.n;obtain⟨xv,H5,c5,Fv,n5,fG,hx5,jr,pop,ppl,uy,rH,hl5,MU,qn⟩:=ih ti (by omega) Q H0 H4 us ov TS Aw (TL ws NL) (Ps yz NL) (by have:=HG NL;omega) hQ (kc.trans k4) gh (fun b hb=>by
     rcases gJ b hb with h|h;·exact hO0 b h
     ·omega) (by omega) s1 A1 B1 hf1;have f5:Fr H4 H5:=⟨n5,fun j hj=>by
     by_cases e:YJ ov=some j;·exact .inr (.inl ⟨11,_,(gh.blk_lt e).2,by decide⟩)
     ·exact .inl (fG j hj e)⟩;have rF:=gj.keep k4;have rD:=hLw.keep k4;have rE:UJ 1 H5 pv js:=rF.frame n5 fun b hb=>fG b (rF.blk_lt hb).1 (fun e=>by have h2:=(rF.blk_lt hb).2;rw[(gh.blk_lt e).2]at h2;cases h2);have rC:UJ 9 H5 wv Ur:=rD.frame n5 fun b hb=>fG b (rD.blk_lt hb).1 (fun e=>by have h2:=(rD.blk_lt hb).2;rw[(gh.blk_lt e).2]at h2;cases h2);have oi:=k4.q qx;have qx5:=(fG _ (by omega) (fun e=>by have h2:=(gh.blk_lt e).2;rw[oi]at h2;cases h2)).trans oi;have fc5: ∀j,j<H.n->YJ out≠some j->H5.blk j=H.blk j:=fun j hj Ug=>(fG j (by omega) (fun e=>by
     rcases gJ j e with h|h;·exact Ug h
     ·omega)).trans ((k4.blk j (by omega)).trans (fc j hj Ug));have yf:=(ye.fr k4.fr).fr f5;have sP:(jr++[pop::ppl::uy]).length=jr.length+1:=by simp
    have pF:=rH.len uPs;rw[sP]at pF;have ML:=uT (a:=((jr.length+1:Nat):Int)) (b:=1) (by omega) (by omega);rw[show((jr.length+1:Nat):Int)-1=(jr.length:Int) by omega]at ML;obtain⟨G7,hG7⟩:=hid (H5.new 1 [.int .i64 (jr.length:Int)]);have GQ:Zg H5 G7:=by rw[hG7];exact Zg.new _ _ _
    have nG7:G7.n=H5.n+1:=by rw[hG7];rfl
    have bG7:G7.blk H5.n= .rw 1 [.int .i64 (jr.length:Int)]:=by rw[hG7,AH.blk_new,if_pos rfl]
    have yk:=bIs H5 (jr.length:Int);rw[<-hG7]at yk;obtain⟨H7,hap7,n7,N7,rG,hk07,hk17⟩:=(rE.keep GQ).append (by decide) bG7 rfl rfl sIs (by decide) zIT rfl (by omega);have vE:Zg H0 H7:=by cases GS:YJ pv with|none=>exact(Fv.trans GQ).trans (hk07 GS).1|some b=>exact(hk17 b GS).1 H0 (Fv.trans GQ) (by have:=hpv b GS;omega)
    have mr:UJ 11 H7 xv (jr++[pop::ppl::uy]):=(rH.keep GQ).frame (by omega) fun b hb=>N7 b ((rH.keep GQ).blk_lt hb).1 (fun e=>by have h2:=((rH.keep GQ).blk_lt hb).2;rw[((rE.keep GQ).blk_lt e).2]at h2;cases h2);have mu:UJ 9 H7 wv Ur:=(rC.keep GQ).frame (by omega) fun b hb=>N7 b ((rC.keep GQ).blk_lt hb).1 (fun e=>by have h2:=((rC.keep GQ).blk_lt hb).2;rw[((rE.keep GQ).blk_lt e).2]at h2;cases h2);have yd:Rh H7 uy s1 A1 B1:=(MU.fr GQ.fr).frame (by omega) fun x hx b hb=>N7 b ((MU.fr GQ.fr).lt x hx b hb) (fun e=>by
     have h1:=(gj.blk_lt e).1;have h2:=hpv b e;rcases qn x hx b hb with h|h;·have:=hQ b h;omega
     ·omega);have hVA7:Mr Q H.n H7 args Ur:=(yf.fr GQ.fr).map fun c hc s A B v=>v.frame (by omega) fun x hx b hb=>N7 b (v.lt x hx b hb) (hpe c hc x hx b hb);have qx7:=(N7 _ (by omega) (fun e=>by have:=hpv _ e;omega)).trans (GQ.q qx5);have fc7: ∀j,j<H.n->YJ out≠some j->H7.blk j=H.blk j:=fun j hj Ug=>(N7 j (by omega) (fun e=>by have:=hpv _ e;omega)).trans ((GQ.blk j (by omega)).trans (fc5 j hj Ug));have QN:=yd.ones;have hVl:=MU.lt;have hVAl: ∀c∈Ur,∀x∈c,∀b,YJ x=some b->b<H5.n:=fun c hc x hx b hb=>by obtain⟨s,A,B,h⟩:=yf.get hc;exact h.lt x hx b hb
    obtain⟨q,e,u,v,CK,hV7'⟩:=yd;have yd:Rh H7 uy s1 A1 B1:=⟨q,e,u,v,CK,hV7'⟩;obtain⟨pb,hpvb,gu,hpbn,EU,hc11,Jf⟩:=mr.at (i:=jr.length) (cs:=pop::ppl::uy) (by simp) uPs sPT (by decide);rw[CK]at Jf EU;have Il:=XR EU (by decide) (Mz Jf) rfl rk aj;have yl:=bVs H7 (.int .i64 0) (.int .i64 256) (.bool s1) q e (.bool true) (.bool s1) u v;obtain⟨G8,hG8⟩:=hid (H7.new 9 [.int .i64 0,.int .i64 256,.bool s1,q,e,.bool true,.bool s1,u,v]);rw[<-hG8]at yl;have Ca:Zg H7 G8:=by rw[hG8];exact Zg.new _ _ _
    have nG8:G8.n=H7.n+1:=by rw[hG8];rfl
    have bG8:G8.blk H7.n= .rw 9 uy:=by rw[hG8,AH.blk_new,if_pos rfl,CK]
    obtain⟨H8,hap8,n8,E8,hL8,hk08,hk18⟩:=(mu.keep Ca).append (by decide) bG8 yd.len QN sVs (by decide) lj rfl (by omega);have f8:Fr G8 H8:=⟨by omega,fun j hj=>by
     by_cases e:YJ wv=some j;·exact .inr (.inl ⟨9,_,((mu.keep Ca).blk_lt e).2,by decide⟩)
     ·exact .inl (E8 j hj e)⟩;have kH8:Zg H0 H8:=by cases GS:YJ wv with|none=>exact(vE.trans Ca).trans (hk08 GS).1|some b=>exact(hk18 b GS).1 H0 (vE.trans Ca) (by have:=zo b GS;omega)
    have hL58:UJ 11 H8 xv (jr++[pop::ppl::uy]):=(mr.keep Ca).frame (by omega) fun b hb=>E8 b ((mr.keep Ca).blk_lt hb).1 (fun e=>by have h2:=((mr.keep Ca).blk_lt hb).2;rw[((mu.keep Ca).blk_lt e).2]at h2;cases h2);have hL78:=(rG.keep Ca).frame (H':=H8) (by omega) fun b hb=>E8 b ((rG.keep Ca).blk_lt hb).1 (fun e=>by have h2:=((rG.keep Ca).blk_lt hb).2;rw[((mu.keep Ca).blk_lt e).2]at h2;cases h2);have qx8:=(E8 _ (by omega) (fun e=>by have:=zo _ e;omega)).trans (Ca.q qx7);have fc8: ∀j,j<H.n->YJ out≠some j->H8.blk j=H.blk j:=fun j hj Ug=>(E8 j (by omega) (fun e=>by have:=zo _ e;omega)).trans ((Ca.blk j (by omega)).trans (fc7 j hj Ug));have hVA8:=((hVA7.fr Ca.fr).fr f8).app (by rw[qW];exact NL) hf1 ((yd.fr Ca.fr).fr f8) (qn.mono (show H.n<=H4.n by omega));have hnt2:Yp (args.take (i+1))=Yp (args.take i)+ti.nodes:=by rw[List.take_add_one,NL,Vs];simp[Yp]
    apply Zh;intro b3 Z9;apply ZS;apply Zb;intro b4 Yz;simp[Fz,j9,Jb,YD,zE,Value.cells,Wx];subst Yz;apply Zb;intro b4 Yz;simp[l8,u1,u2,c5];subst Yz;apply Zb;intro b4 Yz;simp[u7,pF,ML,yk,hap7];subst Yz;apply Zk;simp[u8,pF,ML,gu,rO,Il,yl,hap8];simp[Yn];subst Z9;apply Zk;simp[j9,Tx (x:=i) (by omega)];apply Y4;exact⟨n'-1,by omega,rfl,kH8,by show H.n+1<=H8.n;omega,fc8,qx8,i+1,xv,_,_,_,_,_,by omega,hL58,by omega,(fun b hb=> .inr (by have:=hx5 b hb;omega)),hL78,by simp;omega,(fun b hb=>by cases hb;omega),hL8,by simp;omega,(fun b hb=>by cases hb;omega),hVA8,(fun c hc x hx b hb e=>by
     cases e;rcases List.mem_append.mp hc with hc|hc;·have:=hVAl c hc x hx _ hb;omega
     ·rw[List.mem_singleton.mp hc]at hx;have:=hVl x hx _ hb;omega),by simp[u1],by simp,by simp[u3],by simp,by simp,by simp[Fz],by simp[Fm],by simp⟩
   ·refine Za (t:=false) (by simp[hi]) ?_;apply YP;apply Y4;left;refine⟨rfl,?_⟩;clear Y4;obtain rfl:i=len:=by omega
    have nK:=hK.n;have kk16:kk<16:=by omega
    have eP:UJ 1 Hc pv js:=gj;have hbP:=bPT (op:=(kk:Int)) gj.shape;obtain⟨H4,Wx,k4,q4,n4⟩:=newP (H:=Hc) (o:= .int .i64 (kk:Int)) (p:=pv) (k:= .int .i64 0) (l:= .int .i64 0) (m:= .bool false) (q:= .slice none 0 0) (e:= .slice none 0 0) (f:= .bool false) (n:= .bool false) (u:= .slice none 0 0) (v:= .slice none 0 0) (by simp[gj.one1];exact⟨rfl,rfl,rfl,rfl,rfl,rfl⟩);have oi:=k4.q qx;subst Ze;apply Zb;intro b1 Ze;simp[u3,fH,C9 qx,u7,hbP,zPT,zPs,FY,Value.cells,Wx];subst Ze;refine Y8 (fun s2=>s2.k=69/\Zg H0 s2.H/\Hc.n+1<=s2.H.n/\(∀j,j<Hc.n->s2.H.blk j=Hc.blk j)/\(∃q e u v,s2.H.blk Hc.n= .rw 1 [.int .i64 (kk:Int),pv,.int .i64 0,.int .i64 256,.bool s,q,e,.bool true,.bool s,u,v]/\Rh s2.H [.int .i64 0,.int .i64 256,.bool s,q,e,.bool true,.bool s,u,v] s N D/\Pq Q H.n [.int .i64 0,.int .i64 256,.bool s,q,e,.bool true,.bool s,u,v])/\s2.tm.get 2=some ov/\s2.tm.get 11=some (.pointer (some ⟨Hc.n,0,none⟩))) ?_ ?_
    ·intro Q2 kW;apply Zb;intro b2 Zx;simp[u3,fH,C9 oi];subst Zx;apply ZS;apply Zb;intro b2 Zx;simp[WR];subst Zx;rcases kV with⟨e0,er,ea⟩|⟨h0,hf⟩;·subst e0;rw[er]at qx oi h1 h2;have c1:=(h1.1.keep kc).keep k4;have c2:=(h2.1.keep kc).keep k4;obtain⟨q,e,H5,c5,k5,oq,oe⟩:=Vc s (N:=N) (D:=D) c1 c2 (by omega) (by omega) Ud;have h9:=FP (s:=s) oq.shape oe.shape c1.shape c2.shape;have q5:=k5.q q4;obtain⟨H6,Vp,n6,q6,f6,V1⟩:=qK q5 h9.1;have n5:=k5.n;refine Za (t:=true) (by simp) ?_;have fr:=Fr.put q5 q6 n6 f6 rfl (A3 gj.shape rfl) (A3 gj.shape h9.2);apply Zk;simp[u3,rM,tL oi,u1,c5,pN,Vp];simp[Yn];apply kW;exact⟨rfl,V1 H0 ((kc.trans k4).trans k5) kc.n,by show Hc.n+1<=H6.n;omega,(fun j hj=>(f6 j (by omega)).trans ((k5.blk j (by omega)).trans (k4.blk j hj))),⟨q,e,vn,vd,q6,⟨q,e,vn,vd,rfl,oq.sl.fr fr,oe.sl.fr fr,(c1.keep k5).fr fr,(c2.keep k5).fr fr,by omega,by omega,Ud⟩,(oq.pq (by omega)).nine (oe.pq (by omega)) (fun x hx b hb=> .inl (h1.2 b (by rw[<-List.mem_singleton.mp hx];exact hb))) (fun x hx b hb=> .inl (h2.2 b (by rw[<-List.mem_singleton.mp hx];exact hb)))⟩,by simp[u2],by simp⟩
     ·have key:kk≠1/\ ∃H5 q e u v,ZY Tryz.prog Zy 133 [.int .i64 (kk:Int),wv,.int .i64 256] H4=some (.agg #[.int .i64 0,.int .i64 256,.bool s,q,e,.bool true,.bool s,u,v],H5)/\Zg H4 H5/\Rh H5 [.int .i64 0,.int .i64 256,.bool s,q,e,.bool true,.bool s,u,v] s N D/\Pq Q H.n [.int .i64 0,.int .i64 256,.bool s,q,e,.bool true,.bool s,u,v]:=by
       have e:((kk:Nat):Int).toNat=kk:=by omega
       rw[e]at vY;have dS:(YK args).length=args.length:=by rw[Wc,List.length_map]
       have nd: ∀{c d:List Value}{s1 t:Bool}{A1 B1 C D1:Nat},Rh Hc c s1 A1 B1->Rh Hc d t C D1->((Ur=[c]/\d=c)\/Ur=[c,d])->(kk=6->Ur=[c,d])->Pq Q H.n c->Pq Q H.n d->pQ (kk:Int) s1 A1 B1 t C D1= .rat s N D-> ∃H5 q e u v,ZY Tryz.prog Zy 133 [.int .i64 (kk:Int),wv,.int .i64 256] H4=some (.agg #[.int .i64 0,.int .i64 256,.bool s,q,e,.bool true,.bool s,u,v],H5)/\Zg H4 H5/\Rh H5 [.int .i64 0,.int .i64 256,.bool s,q,e,.bool true,.bool s,u,v] s N D/\Pq Q H.n [.int .i64 0,.int .i64 256,.bool s,q,e,.bool true,.bool s,u,v]:=by intro c d s1 t A1 B1 C D1 vy hVd S9 h6 pc pd hx;obtain⟨x,H5,c5,rs,rfl,k5,hV,pV⟩:=Bm (Q:=Q) (m:=H.n) (hLw.keep k4) (vy.fr k4.fr) (hVd.fr k4.fr) S9 h6 (by omega) pc pd hx Ud (by omega) (by omega);obtain⟨q,e,u,v,rfl,hV'⟩:=hV;exact⟨H5,q,e,u,v,c5,k5,⟨q,e,u,v,rfl,hV'⟩,pV⟩
       rcases HJ (by omega) hf with⟨s1,A1,B1,ve,hx⟩|⟨s1,A1,B1,t,C,D1,ve,hx⟩
       ·rw[ve]at dS;simp only[List.length_cons,List.length_nil]at dS;obtain⟨c,rfl⟩: ∃c,Ur=[c]:=List.length_eq_one_iff.mp (by omega);obtain⟨ti,s',A',B',NL,hft,vy,qo⟩:=ye 0 c rfl;have hg:(YK args)[0]?=some ti.fold:=by rw[Wc,List.getElem?_map,NL];rfl
        rw[ve,hft]at hg;simp only[List.getElem?_cons_zero,Option.some.injEq,FD.rat.injEq]at hg;obtain⟨rfl,rfl,rfl⟩:=hg;refine⟨fun h=>?_,nd vy vy (.inl ⟨rfl,rfl⟩) (fun h=>?_) qo qo hx⟩;·rw[h]at vY;have:arity 1=0:=rfl;omega
        ·rw[h]at vY;have:arity 6=2:=rfl;omega
       ·rw[ve]at dS;simp only[List.length_cons,List.length_nil]at dS;obtain⟨c,d,rfl⟩:=EM (show Ur.length=2 by omega);obtain⟨ti,s',A',B',NL,hft,vy,qo⟩:=ye 0 c rfl;have hg:(YK args)[0]?=some ti.fold:=by rw[Wc,List.getElem?_map,NL];rfl
        rw[ve,hft]at hg;simp only[List.getElem?_cons_zero,Option.some.injEq,FD.rat.injEq]at hg;obtain⟨rfl,rfl,rfl⟩:=hg;obtain⟨tj,s',A',B',htj,hft2,hVd,sG⟩:=ye 1 d rfl;have hg:(YK args)[1]?=some tj.fold:=by rw[Wc,List.getElem?_map,htj];rfl
        rw[ve,hft2]at hg;simp only[List.getElem?_cons_succ,List.getElem?_cons_zero,Option.some.injEq,FD.rat.injEq]at hg;obtain⟨rfl,rfl,rfl⟩:=hg;refine⟨fun h=>?_,nd vy hVd (.inr rfl) (fun _=>rfl) qo sG hx⟩;rw[h]at vY;have:arity 1=0:=rfl;omega
      obtain⟨h1',H5,q,e,u,v,c5,k5,hV,pV⟩:=key;have q5:=k5.q q4;obtain⟨H6,Vp,n6,q6,f6,V1⟩:=qK q5 hV.ones;have n5:=k5.n;have fr:=Fr.put q5 q6 n6 f6 rfl (A3 gj.shape rfl) (A3 gj.shape hV.noU);refine Za (t:=false) (by simp;omega) ?_;apply Zb;intro b2 Zx;simp[WR];subst Zx;refine Za (t:=false) (by simp;omega) ?_;apply Zk;simp[u3,fH,C9 oi,u8,u1,c5,pN,Vp];simp[Yn];apply kW;exact⟨rfl,V1 H0 ((kc.trans k4).trans k5) kc.n,by show Hc.n+1<=H6.n;omega,(fun j hj=>(f6 j (by omega)).trans ((k5.blk j (by omega)).trans (k4.blk j hj))),⟨q,e,u,v,q6,hV.fr fr,pV⟩,by simp[u2],by simp⟩
    rintro⟨Fw,tm,Hx⟩ ⟨PA,kx,nx,fx,⟨q,e,u,v,qp,hV,hp⟩,u2,Fy⟩;simp only at PA kx nx fx qp hV u2 Fy;subst PA;have hnf:=Is (l:=args) (i:=i) (by omega);rw[hnf]at hol;have hLx:UJ 11 Hx ov TS:=hLo.frame (by omega) fun b hb=>fx b (hLo.blk_lt hb).1;have bp:=bPs Hx (.int .i64 (kk:Int)) pv (.int .i64 0) (.int .i64 256) (.bool s) q e (.bool true) (.bool s) u v;obtain⟨G,hG⟩:=hid (Hx.new 11 [.int .i64 (kk:Int),pv,.int .i64 0,.int .i64 256,.bool s,q,e,.bool true,.bool s,u,v]);rw[<-hG]at bp;have kG:Zg Hx G:=by rw[hG];exact Zg.new _ _ _
    have nG:G.n=Hx.n+1:=by rw[hG];rfl
    have bG:G.blk Hx.n= .rw 11 [.int .i64 (kk:Int),pv,.int .i64 0,.int .i64 256,.bool s,q,e,.bool true,.bool s,u,v]:=by rw[hG,AH.blk_new,if_pos rfl]
    have QN:[Value.int .i64 (kk:Int),pv,.int .i64 0,.int .i64 256,.bool s,q,e,.bool true,.bool s,u,v].all one=true:=by have:=hV.ones;rw[List.all_cons,List.all_cons,gj.one1,this];rfl
    obtain⟨H7,Jc,n7,N7,rG,Li,bz⟩:=(hLx.keep kG).append (by decide) bG rfl QN sPs (by decide) zPT rfl (by omega);have f7:Fr G H7:=⟨by omega,fun j hj=>by
     by_cases e:YJ ov=some j;·exact .inr (.inl ⟨11,_,((hLx.keep kG).blk_lt e).2,by decide⟩)
     ·exact .inl (N7 j hj e)⟩;have vE:Zg H0 H7:=by cases GS:YJ ov with
     |none=>exact(kx.trans kG).trans (Li GS).1
     |some b=>exact(bz b GS).1 H0 (kx.trans kG) (by
      rcases gJ b GS with h|h;·exact hO0 b h
      ·omega)
    apply Zb;intro b1 Ze;simp[u2,Fy,zM qp,bp,Jc];subst Ze;apply Zu;simp;rw[hR];refine⟨vE,by omega,fun j hj Ug=>?_,(fun b hb=>by cases hb;omega),TS,_,_,_,rG,by simp only[ET.nodes];omega,(hV.fr kG.fr).fr f7,hp⟩;rw[N7 j (by omega) (fun e=>by
     rcases gJ j e with h|h;·exact Ug h
     ·omega),kG.blk j (by omega),fx j (by omega)];exact fc j hj Ug
end
section
variable {H : AH} {u v w z : Value}
theorem JG{Q:Nat->Prop}{vs:List Value}{t:ET}{s:Bool}{N D:Nat}(h:Rx Q H vs t.ref)(hw:t.wide 1048576)(hg:t.allGood=true)(CG:t.wt<=67108864)(hn:t.nodes<=100000000)(hQ: ∀b,Q b->b<H.n)(hf:t.fold= .rat s N D): ∃x H' TS op pl ws,ZY Tryz.prog Zy 69 [.agg vs.toArray,.int .i64 256] H=some (x,H')/\Zg H H'/\UJ 11 H' x (TS++[op::pl::ws])/\TS.length+1=t.nodes/\Rh H' ws s N D:=by
 obtain⟨Po,T2⟩: ∃Po:Value->AH->Prop,∀x H',Po x H'↔ ∃TS op pl ws,Zg H H'/\UJ 11 H' x (TS++[op::pl::ws])/\TS.length+1=t.nodes/\Rh H' ws s N D:=⟨_,fun _ _=>Iff.rfl⟩;suffices hs:CW Tryz.prog Zy 69 [.agg vs.toArray,.int .i64 256] H Po by obtain⟨x,H',hc,hh⟩:=hs;obtain⟨TS,op,pl,ws,k⟩:=(T2 _ _).1 hh;exact⟨x,H',TS,op,pl,ws,hc,k⟩
 have hl6:=h.len;obtain⟨H2,e2,k2,n2,q0⟩:=XK H vs;obtain⟨x,H3,c3,k3,_,_,_,TS,op,pl,ws,hL,hl,hV,_⟩:=DD _ t (Nat.le_refl _) Q H2 H2 vs (.slice none 0 0) [] (h.keep k2) hw hg CG (fun b hb=>Nat.lt_of_lt_of_le (hQ b hb) k2.n) (.refl _) .nil (fun b hb=>by cases hb) (by simp;omega) s N D hf;have YD:=Ba q0 hl6;refine Z8 8 Tryz.func69 ?_;apply Zb;intro b1 Ze;simp[Value.cells,e2];subst Ze;apply Zb;intro b1 Ze;simp[YD,c3];subst Ze;apply Zu;simp;exact(T2 _ _).2 ⟨TS,op,pl,ws,k2.trans k3,hL,by simpa using hl,hV⟩
theorem BJ{Q:Nat->Prop}{vs:List Value}{t:ET}{s:Bool}{N D:Nat}(h:Rx Q H vs t.ref)(hw:t.wide 1048576)(hg:t.allGood=true)(CG:t.wt<=67108864)(hn:t.nodes<=100000000)(hQ: ∀b,Q b->b<H.n)(hf:t.fold= .rat s N D): ∃ws H',ZY Tryz.prog Zy 29 [.agg vs.toArray,.int .i64 256] H=some (.agg ws.toArray,H')/\Zg H H'/\Rh H' ws s N D:=by
 obtain⟨Po,T2⟩: ∃Po:Value->AH->Prop,∀x H',Po x H'↔ ∃ws:List Value,x= .agg ws.toArray/\Zg H H'/\Rh H' ws s N D:=⟨_,fun _ _=>Iff.rfl⟩;suffices hs:CW Tryz.prog Zy 29 [.agg vs.toArray,.int .i64 256] H Po by obtain⟨x,H',hc,hh⟩:=hs;obtain⟨ws,rfl,k⟩:=(T2 _ _).1 hh;exact⟨ws,H',hc,k⟩
 have hl6:=h.len;obtain⟨H2,e2,k2,n2,q0,q1⟩:=Y9 H vs FY;have YD:=Ba q0 hl6;obtain⟨x,H3,TS,op,pl,ws,c3,k3,hL,hl,hV⟩:=JG (h.keep k2) hw hg CG hn (fun b hb=>Nat.lt_of_lt_of_le (hQ b hb) k2.n) hf;have n3:=k3.n;have sP:(TS++[op::pl::ws]).length=TS.length+1:=by simp
 have pF:=hL.len uPs;rw[sP]at pF;have ML:=uT (a:=((TS.length+1:Nat):Int)) (b:=1) (by omega) (by omega);rw[show((TS.length+1:Nat):Int)-1=(TS.length:Int) by omega]at ML;have QN:=hV.ones;obtain⟨q,e,u,v,CK,hV'⟩:=hV;have hV:Rh H3 ws s N D:=⟨q,e,u,v,CK,hV'⟩;obtain⟨pb,hpvb,gu,hpbn,EU,hc11,Jf⟩:=hL.at (i:=TS.length) (cs:=op::pl::ws) (by simp) uPs sPT (by decide);rw[CK]at Jf EU;have Il:=XR EU (by decide) (Mz Jf) rfl rk aj;obtain⟨H4,Wx,n4,q4,b4,VX⟩:=ux (ws:=[.int .i64 0,.int .i64 256,.bool s,q,e,.bool true,.bool s,u,v]) (k3.q q1) rfl rfl (by rw[<-CK];exact QN);have sS:=Qq q4 rfl;have fr:=Fr.put (k3.q q1) q4 n4 b4 rfl rfl (by rw[<-CK];exact hV.noU);refine Z8 16 Tryz.func29 ?_;apply Zb;intro b1 Ze;simp[Value.cells,lj,FY,XV,e2];subst Ze;apply Zb;intro b1 Ze;simp[YD,c3];subst Ze;apply Zb;intro b1 Ze;simp[pF,ML,gu,rO,Il,Wx];subst Ze;apply Zu;simp[sS];exact(T2 _ _).2 ⟨_,rfl,VX _ (k2.trans k3) (by omega),by rw[<-CK];exact hV.fr fr⟩
end
end
section
attribute [-simp] Int.natCast_add Int.natCast_mul Int.natCast_ediv Int.natCast_emod Int.natCast_pow
attribute [local simp] strip ZR Xm LR gW Z2 Ye ZW Yf ZK Yg Zs Zt Zi ZJ Ya ZP ZA Zl ZI Zj Zf ZB ZC YV Zo Yd YE Yy ZL plain ZO Tr.get_set Yw Zp Ys ZT sameKind undef Zw ZH Z5 Zv Z1 Yl ZU parts Z3 XZ DW Yh Zz LX ZZ Zq ZD ZQ XM Yk Zn ZN ZV ZM
inductive OX(H:AH):(Nat->Prop)->List Value->ET->Prop|mk{P:Nat->Prop}{op:Int}{neg:Bool}{va vd vx:Value}{abs den:List Nat}{args:List ET}(css:List (List Value))(Q:Nat->Nat->Prop):Sl H va abs->Sl H vd den->UJ 5 H vx css->css.length=args.length->(∀b,YJ vx=some b->P b)->(∀i c,Q i c->P c/\YJ vx≠some c)->(∀i j c,i≠j->Q i c-> ¬Q j c)->(∀(i:Nat)(cs:List Value)(t:ET),css[i]?=some cs->args[i]?=some t->OX H (Q i) cs t)->OX H P [.int .i64 op,.bool neg,va,vd,vx] (.node op neg abs den args)
theorem OX.len{H:AH}{P:Nat->Prop}{vs:List Value}{t:ET}(h:OX H P vs t):vs.length=5:=by cases h;rfl
theorem OX.five{H:AH}{P:Nat->Prop}{vs:List Value}{t:ET}(h:OX H P vs t): ∃op s va vd vx,vs=[.int .i64 op,.bool s,va,vd,vx]/\(∃a l c,va= .slice a l c)/\(∃a l c,vd= .slice a l c)/\ ∃a l c,vx= .slice a l c:=by cases h with|mk css Q h1 h2 h3=>exact⟨_,_,_,_,_,rfl,h1.shape,h2.shape,h3.shape⟩
theorem OX.ones{H:AH}{P:Nat->Prop}{vs:List Value}{t:ET}(h:OX H P vs t):vs.all one=true:=by obtain⟨op,s,va,vd,vx,rfl,⟨a,l,c,rfl⟩,⟨a',l',c',rfl⟩,⟨a'',l'',c'',rfl⟩⟩:=h.five;rfl
theorem OX.noU{H:AH}{P:Nat->Prop}{vs:List Value}{t:ET}(h:OX H P vs t):noU vs=true:=by obtain⟨op,s,va,vd,vx,rfl,⟨a,l,c,rfl⟩,⟨a',l',c',rfl⟩,⟨a'',l'',c'',rfl⟩⟩:=h.five;rfl
theorem OX.weak{H:AH}{P P':Nat->Prop}{vs:List Value}{t:ET}(h:OX H P vs t)(hp: ∀j,P j->P' j):OX H P' vs t:=by cases h with|mk css Q h1 h2 h3 h4 h5 h6 h7 h8=>exact .mk css Q h1 h2 h3 h4 (fun b hb=>hp b (h5 b hb)) (fun i c hc=>⟨hp c (h6 i c hc).1,(h6 i c hc).2⟩) h7 h8
theorem OX.fr{H H':AH}{P:Nat->Prop}{vs:List Value}{t:ET}(h:OX H P vs t)(f:Fr H H')(hf: ∀j,P j->j<H.n->H'.blk j=H.blk j):OX H' P vs t:=by induction h with|mk css Q h1 h2 h3 h4 h5 h6 h7 h8 ih=>exact .mk css Q (h1.fr f) (h2.fr f) (h3.frame f.1 fun b hb=>hf b (h5 b hb) (h3.blk_lt hb).1) h4 h5 h6 h7 fun i cs t hc ht=>ih i cs t hc ht fun j hj hn=>hf j (h6 i j hj).1 hn
theorem OX.keep{H H':AH}{P:Nat->Prop}{vs:List Value}{t:ET}(h:OX H P vs t)(k:Zg H H'):OX H' P vs t:=h.fr k.fr fun j _ hj=>k.blk j hj
theorem OX.ex{H:AH}{P:Nat->Prop}{vs:List Value}{t:ET}(h:OX H P vs t):Ex H vs t:=by induction h with
 |@mk P op neg va vd vx abs den args css Q h1 h2 h3 h4 h5 h6 h7 h8 ih=>
  refine .mk h1 h2 ?_;rcases h3 with⟨rfl,rfl⟩|⟨b,rfl,g1,g2,g3⟩;·obtain rfl:args=[]:=List.length_eq_zero_iff.mp h4.symm;exact .nil
  ·rw[h4];refine .mk b 0 args.length g1 (AH.cells_rw' g2 (by decide)) (Nat.le_refl _) fun i t hi=>?_;have YW:i<css.length:=by rw[h4];exact(List.getElem?_eq_some_iff.mp hi).1
   have hc:=List.getElem?_eq_getElem YW;rw[Nat.zero_add,SK g3 hc];exact ih i _ t hc hi
theorem JI(H:AH):H.top.n=H.n:=rfl
end
section
attribute [-simp] Int.natCast_add Int.natCast_mul Int.natCast_ediv Int.natCast_emod Int.natCast_pow
attribute [local simp] strip ZR Xm LR gW Z2 Ye ZW Yf ZK Yg Zs Zt Zi ZJ Ya ZP ZA Zl ZI Zj Zf ZB ZC YV Zo Yd YE Yy ZL plain ZO Tr.get_set Yw Zp Ys ZT sameKind undef Zw ZH Z5 Zv Z1 Yl ZU parts Z3 XZ DW Yh Zz LX ZZ Zq ZD ZQ XM Yk Zn ZN ZV ZM JI
section
end
end
def uo(nb ab pb wb:Nat):Value:= .func (.func 79) #[] #[.pointer (some ⟨nb,0,none⟩),.pointer (some ⟨ab,0,none⟩),.pointer (some ⟨pb,0,none⟩),.pointer (some ⟨wb,0,none⟩)]
structure rb (H : AH) (nb ab pb wb n k : Nat) (pvs : List Value) : Prop where
  n : H.blk nb = .rw 1 [.int .i64 (n : Int)]
  k : H.blk ab = .rw 1 [.int .i64 (k : Int)]
  p : H.blk pb = .rw 1 pvs
  w : H.blk wb = .rw 1 [uo nb ab pb wb]
  ln : nb < H.n
  lk : ab < H.n
  lp : pb < H.n
  lw : wb < H.n
  na : nb ≠ ab
  np : nb ≠ pb
  nw : nb ≠ wb
theorem rb.move{H H':AH}{nb ab pb wb n n' k:Nat}{pvs:List Value}(h:rb H nb ab pb wb n k pvs)(hn:H.n<=H'.n)(h0:H'.blk nb= .rw 1 [.int .i64 (n':Int)])(ha:H'.blk ab=H.blk ab)(hp:H'.blk pb=H.blk pb)(hw:H'.blk wb=H.blk wb):rb H' nb ab pb wb n' k pvs:=⟨h0,ha.trans h.k,hp.trans h.p,hw.trans h.w,Nat.lt_of_lt_of_le h.ln hn,Nat.lt_of_lt_of_le h.lk hn,Nat.lt_of_lt_of_le h.lp hn,Nat.lt_of_lt_of_le h.lw hn,h.na,h.np,h.nw⟩
inductive PX(H:AH)(P:Nat->Prop):List Value->ET->Prop|mk{op:Int}{neg:Bool}{va vd vx:Value}{abs den:List Nat}{args:List ET}(css:List (List Value)):Sl H va abs->Sl H vd den->UJ 5 H vx css->css.length=args.length->(∀b,YJ vx=some b->P b)->(∀(i:Nat)(cs:List Value)(t:ET),css[i]?=some cs->args[i]?=some t->PX H P cs t)->PX H P [.int .i64 op,.bool neg,va,vd,vx] (.node op neg abs den args)
theorem PX.len{H:AH}{P:Nat->Prop}{vs:List Value}{t:ET}(h:PX H P vs t):vs.length=5:=by cases h;rfl
theorem PX.fr{H H':AH}{P:Nat->Prop}{vs:List Value}{t:ET}(h:PX H P vs t)(f:Fr H H')(hf: ∀j,P j->j<H.n->H'.blk j=H.blk j):PX H' P vs t:=by induction h with|mk css h1 h2 h3 h4 h5 h8 ih=>exact .mk css (h1.fr f) (h2.fr f) (h3.frame f.1 fun b hb=>hf b (h5 b hb) (h3.blk_lt hb).1) h4 h5 fun i cs t hc ht=>ih i cs t hc ht
theorem PX.ex{H:AH}{P:Nat->Prop}{vs:List Value}{t:ET}(h:PX H P vs t):Ex H vs t:=by induction h with
 |@mk op neg va vd vx abs den args css h1 h2 h3 h4 h5 h8 ih=>
  refine .mk h1 h2 ?_;rcases h3 with⟨rfl,rfl⟩|⟨b,rfl,g1,g2,g3⟩;·obtain rfl:args=[]:=List.length_eq_zero_iff.mp h4.symm;exact .nil
  ·rw[h4];refine .mk b 0 args.length g1 (AH.cells_rw' g2 (by decide)) (Nat.le_refl _) fun i t hi=>?_;have YW:i<css.length:=by rw[h4];exact(List.getElem?_eq_some_iff.mp hi).1
   have hc:=List.getElem?_eq_getElem YW;rw[Nat.zero_add,SK g3 hc];exact ih i _ t hc hi
section
attribute [-simp] Int.natCast_add Int.natCast_mul Int.natCast_ediv Int.natCast_emod Int.natCast_pow
attribute [local simp] strip ZR Xm LR gW Z2 Ye ZW Yf ZK Yg Zs Zt Zi ZJ Ya ZP ZA Zl ZI Zj Zf ZB ZC YV Zo Yd YE Yy ZL plain ZO Tr.get_set Yw Zp Ys ZT sameKind undef Zw ZH Z5 Zv ZU parts XZ DW Yh Zz LX ZZ
attribute [local simp] JI Zq ZD
section
end
section
variable {H : AH} {vs ps : List Value} {t pt : ET}
end
end
section
attribute [-simp] Int.natCast_add Int.natCast_mul Int.natCast_ediv Int.natCast_emod Int.natCast_pow
attribute [local simp] strip ZR Xm LR gW Z2 Ye ZW Yf ZK Yg Zs Zt Zi ZJ Ya ZP ZA Zl ZI Zj Zf ZB ZC YV Zo Yd YE Yy ZL plain ZO Tr.get_set Yw Zp Ys ZT sameKind undef Zw ZH Z5 Zv ZU parts XZ DW Yh Zz LX ZZ
attribute [local simp] Zq ZD ZQ JI
section
variable {H : AH} {vs1 vs2 : List Value} {t pt : ET}
end
end
section
attribute [-simp] Int.natCast_add Int.natCast_mul Int.natCast_ediv Int.natCast_emod Int.natCast_pow
attribute [local simp] strip ZR Xm LR gW Z2 Ye ZW Yf ZK Yg Zs Zt Zi ZJ Ya ZP ZA Zl ZI Zj Zf ZB ZC YV Zo Yd YE Yy ZL plain ZO Tr.get_set Yw Zp Ys ZT sameKind undef Zw ZH Z5 Zv Z1 Yl ZU parts Z3 XZ DW Yh Zz LX ZZ Zq ZD ZQ XM Yk Zn ZN ZV ZM
section
variable {H : AH} {vs : List Value} {t : ET}
end
def rdB(r:Bool):Nat:=if r then ZF else Zc
def jY(r:Bool):Nat:=if r then 6 else 5
def rdC(r:Bool)(op:Int)(neg:Bool)(vn vd:Value)(bad:Bool)(vx:Value):List Value:=if r then[.int .i64 op,.bool neg,vn,vd,.bool bad,vx]else[.int .i64 op,.bool neg,vn,vd,vx]
theorem jX(r:Bool):jY r≠0:=by cases r<;>decide
theorem oj(r:Bool)(op:Int)(neg:Bool)(vn vd:Value)(bad:Bool)(vx:Value):(rdC r op neg vn vd bad vx).length=jY r:=by cases r<;>rfl
mutual inductive Rd(r:Bool)(Q:Nat->Prop)(H:AH):List Value->RT->Prop|mk{op:Int}{neg bad:Bool}{vn vd vx:Value}{N D:Nat}{args:List RT} :Sl H vn (ds (rdB r) N)->Sl H vd (ds (rdB r) D)->ki r Q H vx args->Rd r Q H (rdC r op neg vn vd bad vx) (.node op neg N D bad args) inductive ki(r:Bool)(Q:Nat->Prop)(H:AH):Value->List RT->Prop|nil:ki r Q H (.slice none 0 0) []|mk(b:Nat){css:List (List Value)}{args:List RT} :Q b->b<H.n->H.blk b= .rw (jY r) css.flatten->css.length=args.length->(∀cs∈css,cs.length=jY r)->(∀(i:Nat)(cs:List Value)(t:RT),css[i]?=some cs->args[i]?=some t->Rd r Q H cs t)->ki r Q H (.slice (some ⟨b,0,none⟩) args.length args.length) args end
theorem Zaf{r:Bool}{Q Q':Nat->Prop}{H H':AH}(f:Fr H H')(hQ: ∀j,j<H.n->(∃cs,H.blk j= .rw (jY r) cs)->Q j->H'.blk j=H.blk j/\Q' j): ∀n(t:RT),t.nodes<=n-> ∀vs,Rd r Q H vs t->Rd r Q' H' vs t:=by intro n;induction n with
 |zero=>intro t h;have:=JM t;omega
 |succ n ih=>intro t h vs hx;cases hx with
  |mk h1 h2 h3=>simp only[RT.nodes]at h;refine .mk (h1.fr f) (h2.fr f) ?_;cases h3 with|nil=>exact .nil|mk b hq hb hc hl hz hf=>rename_i css;have e:=hQ b hb ⟨_,hc⟩ hq;refine .mk b (css:=css) e.2 (Nat.lt_of_lt_of_le hb f.1) (e.1.trans hc) hl hz fun i cs t hi ht=>?_;have:=OO ht;exact ih t (by omega) _ (hf i cs t hi ht)
theorem Rd.fr{r:Bool}{Q Q':Nat->Prop}{H H':AH}{vs:List Value}{t:RT}(h:Rd r Q H vs t)(f:Fr H H')(hQ: ∀j,j<H.n->(∃cs,H.blk j= .rw (jY r) cs)->Q j->H'.blk j=H.blk j/\Q' j):Rd r Q' H' vs t:=Zaf f hQ _ t (Nat.le_refl _) vs h
theorem Rd.keep{r:Bool}{Q:Nat->Prop}{H H':AH}{vs:List Value}{t:RT}(h:Rd r Q H vs t)(k:Zg H H'):Rd r Q H' vs t:=h.fr k.fr fun j hj _ hq=>⟨k.blk j hj,hq⟩
theorem Rd.len{r:Bool}{Q:Nat->Prop}{H:AH}{vs:List Value}{t:RT}(h:Rd r Q H vs t):vs.length=jY r:=by cases h;exact oj ..
theorem ki.shape{r:Bool}{Q:Nat->Prop}{H:AH}{v:Value}{l:List RT}(h:ki r Q H v l): ∃a n c,v= .slice a n c:=by cases h<;>exact⟨_,_,_,rfl⟩
theorem Rd.ones{r:Bool}{Q:Nat->Prop}{H:AH}{vs:List Value}{t:RT}(h:Rd r Q H vs t):vs.all one=true:=by cases h with|mk h1 h2 h3=>obtain⟨_,_,_,rfl⟩:=h3.shape;have e1:=h1.one1;have e2:=h2.one1;cases r<;>simp only[rdC,List.all_cons,List.all_nil,e1,e2,Bool.and_true,if_true,if_false,Bool.false_eq_true]<;>rfl
def kj(r:Bool)(Q:Nat->Prop)(H:AH)(css:List (List Value))(l:List RT):Prop:=css.length=l.length/\ ∀(i:Nat)(cs:List Value)(t:RT),css[i]?=some cs->l[i]?=some t->Rd r Q H cs t
theorem kj.nil{r:Bool}{Q:Nat->Prop}{H:AH} :kj r Q H [] []:=⟨rfl,fun i cs t h=>by simp at h⟩
theorem kj.fr{r:Bool}{Q Q':Nat->Prop}{H H':AH}{css:List (List Value)}{l:List RT}(h:kj r Q H css l)(f:Fr H H')(hQ: ∀j,j<H.n->(∃cs,H.blk j= .rw (jY r) cs)->Q j->H'.blk j=H.blk j/\Q' j):kj r Q' H' css l:=⟨h.1,fun i cs t hi ht=>(h.2 i cs t hi ht).fr f hQ⟩
theorem kj.append{r:Bool}{Q:Nat->Prop}{H:AH}{css:List (List Value)}{l:List RT}{us:List Value}{t:RT}(h:kj r Q H css l)(hu:Rd r Q H us t):kj r Q H (css++[us]) (l++[t]):=by
 refine⟨by simp[h.1],fun i cs t' hi ht=>?_⟩;rw[List.getElem?_append]at hi ht;rw[h.1]at hi;split at hi;·rename_i YW;rw[if_pos YW]at ht;exact h.2 i cs t' hi ht
 ·rename_i YW;rw[if_neg YW]at ht;obtain⟨k,hk⟩:=hid (i-l.length);rw[<-hk]at hi ht;match k,hi,ht with|0,hi,ht=>simp at hi ht;subst hi;subst ht;exact hu
theorem kj.done{r:Bool}{Q:Nat->Prop}{H:AH}{v:Value}{css:List (List Value)}{l:List RT}(hL:UJ (jY r) H v css)(h:kj r Q H css l)(hq: ∀b,YJ v=some b->Q b):ki r Q H v l:=by
 rcases hL with⟨rfl,rfl⟩|⟨b,rfl,h2,h3,h4⟩;·have h1:=h.1;cases l with|nil=>exact .nil|cons x xs=>simp at h1
 ·rw[h.1];exact .mk b (css:=css) (hq b rfl) h2 h3 h.1 h4 h.2
theorem ki.len{r:Bool}{Q:Nat->Prop}{H:AH}{v:Value}{l:List RT}(h:ki r Q H v l){t e:TypeId}(ht:Tryz.prog.underlying t=some (.slice e)):QE Tryz.prog t v=some l.length:=by unfold QE;rw[ht];cases h<;>rfl
theorem ki.at{r:Bool}{Q:Nat->Prop}{H:AH}{v:Value}{l:List RT}(h:ki r Q H v l){i:Nat}{x:RT}(hi:l[i]?=some x){t e:TypeId}(ht:Tryz.prog.underlying t=some (.slice e))(he:Xk Tryz.prog e=some (jY r))(ha:Xx Tryz.prog e=some true): ∃(p:Value) (us:List Value),Yj Tryz.prog t v (.int .i64 (i:Int))=some p/\(∀H',Zg H H'->Z4 Tryz.prog H' e p=some (.agg us.toArray))/\Rd r Q H us x:=by have YW:i<l.length:=(List.getElem?_eq_some_iff.mp hi).1;cases h with|nil=>simp at hi|mk b hq hb hc hl hz hf=>rename_i css;obtain⟨cs,S9⟩: ∃cs,css[i]?=some cs:=⟨css[i]'(by omega),List.getElem?_eq_getElem (by omega)⟩;have VP:=hz cs (List.mem_of_getElem? S9);have hat:=SK hz S9;refine⟨.pointer (some ⟨b,i*jY r,none⟩),cs,?_,fun H' k=>XR ((k.blk b hb).trans hc) (jX r) hat VP ha he (Nat.pos_of_ne_zero (jX r)),hf i cs x S9 hi⟩;unfold Yj;simp only[ht,he];rw[if_pos (by omega)];simp
end
section
attribute [-simp] Int.natCast_add Int.natCast_mul Int.natCast_ediv Int.natCast_emod Int.natCast_pow
attribute [local simp] strip ZR Xm LR gW Z2 Ye ZW Yf ZK Yg Zs Zt Zi ZJ Ya ZP ZA Zl ZI Zj Zf ZB ZC YV Zo Yd YE Yy ZL plain ZO Tr.get_set Yw Zp Ys ZT sameKind undef Zw ZH Z5 Zv ZU parts XZ DW Yh Zz LX ZZ
attribute [local simp] Zq ZD XM Yk Zn ZN
section
variable {H : AH} {u v : Value} {xs ys : List Nat}
end
section
variable {H : AH} {u v : Value}
end
end
def uX(s:Bool)(A B:Nat):ET:= .node 0 s (ds Zc A) (ds Zc B) []
theorem F0(X:Nat):64*(ds Zc X).length<=Zm X+63:=by have h:(ds Zc X).length<=(Zm X+63)/64:=XB Z7 (by have h1:=Wq X;have h2:2^Zm X<=2^(64*((Zm X+63)/64)):=Nat.pow_le_pow_right (by decide) (by omega);rw[Nat.pow_mul]at h2;exact Nat.lt_of_lt_of_le h1 h2);omega
theorem iZ{f:FD} :f.kind=1↔ ∃s A B,f= .rat s A B:=by cases f<;>simp[FD.kind]
section
attribute [-simp] Int.natCast_add Int.natCast_mul Int.natCast_ediv Int.natCast_emod Int.natCast_pow
attribute [local simp] strip ZR Xm LR gW Z2 Ye ZW Yf ZK Yg Zs Zt Zi ZJ Ya ZP ZA Zl ZI Zj Zf ZB ZC YV Zo Yd YE Yy ZL plain ZO Tr.get_set Yw Zp Ys ZT sameKind undef Zw ZH Z5 Zv ZU parts XZ DW Yh Zz LX ZZ
attribute [local simp] Zq ZD ZQ JI
section
variable {H : AH} {vs1 vs2 : List Value} {t pt : ET}
end
end
theorem fldE{o x p q b l:Value} :Gx Tryz.prog 68 (.agg #[o,x,p,q,b,l]) 1=some (.agg #[x,p,q]):=by kernel_rfl
theorem iF{H:AH}{b:Nat}{k l m q e f n u v:Value}(hb:H.blk b= .rw 1 [k,l,m,q,e,f,n,u,v]):Z4 Tryz.prog H 62 (.pointer (some ⟨b,1,none⟩))=some (.agg #[l,m,q,e]):=XR hb (by decide) rfl rfl wT oT
theorem DZ(s:Bool){A B:Nat}(hA:Zm A<=68000000)(hB:Zm B<=68000000)(b:Bool):Zm (Xj s A b B).2<=68000001:=by
 unfold Xj;have g1:=UI A B;have g2:=ZE (Nat.sub_le A B);have g3:=ZE (Nat.sub_le B A);split;·simp only;omega
 ·split<;>simp only<;>omega
theorem IQ:Zm (2^256)<=68000001:=by obtain⟨k,hk⟩:=hid 256;rw[<-hk];have:=Qc k;omega
section
attribute [-simp] Int.natCast_add Int.natCast_mul Int.natCast_ediv Int.natCast_emod Int.natCast_pow
attribute [local simp] strip ZR Xm LR gW Z2 Ye ZW Yf ZK Yg Zs Zt Zi ZJ Ya ZP ZA Zl ZI Zj Zf ZB ZC YV Zo Yd YE Yy ZL plain ZO Tr.get_set Yw Zp Ys ZT sameKind undef Zw ZH Z5 Zv ZU parts XZ DW Yh Zz LX ZZ
attribute [local simp] Zq ZD ZQ
section
variable {H : AH} {vs : List Value} {t : ET}
theorem MV(h:Q4 H vs t)(CG:t.wt<=67108864):CW Tryz.prog Zy 5 [.agg vs.toArray] H fun v H'=>v= .bool true/\Zg H H':=by have hl:=h.ex.len;have hr:=h.rows;have hnn:=cK _ t (Nat.le_refl _);have hnd:=h.nodes;obtain⟨H2,e2,k2,n2,q0⟩:=XK H vs;have K:=k2;have z0:=q0;obtain⟨b,H3,c3,k3⟩:=Cy (h.ex.keep K) h.nodes;have n3:=k3.n;have K:=K.trans k3;replace q0:=k3.q q0;have z3:=q0;refine Z8 63 Tryz.func5 ?_;apply Zb;intro b1 Ze;simp[Value.cells,e2];subst Ze;apply Zh;intro b1 Ze;apply Zb;intro b2 Zx;simp[Ro z0 hl,c3];subst Zx;cases b with
 |true=>obtain⟨H4,c4,k4⟩:=Qb (hr.keep K);have n4:=k4.n;have K:=K.trans k4;replace q0:=k4.q q0;refine Za (t:=true) (by simp) ?_;apply Zb;intro b2 Zx;simp[c4];subst Zx;apply Zu;simp[Yx];exact K
 |false=>
  refine Za (t:=false) (by simp) ?_;apply Zr;subst Ze;obtain⟨C,hC⟩:=hid (Tf t);by_cases J0:Tf t=0
  ·have hg:t.allGood=true:=by
    unfold Tf at J0;split at J0;·cases J0
    ·rename_i h;simpa using h
   have GW:TreeOk H vs t:=⟨h,hg,CG⟩;obtain⟨fs,H6,c6,k6,hf⟩:=Ph (GW.keep K) J0;have n6:=k6.n;have K:=K.trans k6;replace q0:=k6.q q0;have hfo:=hf.ones;have dS:=hf.len;obtain⟨H7,Od,k7,q7,n7⟩:=ji (H:=H6) dS hfo;have K:=K.trans k7;replace q0:=k7.q q0;apply Zb;intro b1 Ze;simp[Ro z3 hl,c6,X5,Value.cells,Od];subst Ze;apply Zh;intro b1 Ze;apply Zb;intro b2 Zx;simp[PV,SH];subst Zx;refine Za (t:=false) (by simp) ?_;apply Zr;subst Ze;obtain⟨mS,gX⟩:=Ki _ t (Nat.le_refl _) hg h.wide;have gX:=Nat.le_trans gX CG;have z7:=q0;have q7z:=q7;obtain⟨T,hT⟩:=hid (t.fold);rw[<-hT]at hf mS gX;by_cases CJ: ∃s N D,T= .rat s N D;·obtain⟨s,N,D,rfl⟩:=CJ;have gX:max (Zm N) (Zm D)+1<=67108864:=gX;obtain⟨p,q,rfl,sp,sq,Sb⟩:=hf;apply Zh;intro b1 Ze;apply Zb;intro b2 Zx;simp[KC,SL q7,show Zd .neq .i64 1 1=some (.bool false)from rfl];subst Zx;refine Za (t:=false) (by simp) ?_;apply Zr;subst Ze;obtain⟨x4,H8,c8,k8,us,rfl,rx8⟩:=ar _ t (Nat.le_refl _) _ vs (h.ex.keep K) h.wide (by omega);have n8:=k8.n;have K:=K.trans k8;replace q0:=k8.q q0;replace q7:=k8.q q7;replace rx8:Rx (fun j=>j<H8.n) H8 us t.ref:=jU (H:=H8) ⟨Nat.le_refl _,fun _ _ _=>rfl⟩ (fun j hj _=>hj) _ t.ref (Nat.le_refl _) us rx8;obtain⟨ws,H9,c9,k9,hV⟩:=BJ rx8 h.wide hg CG (by omega) (fun b hb=>hb) hT.symm;have n9:=k9.n;have K:=K.trans k9;replace q0:=k9.q q0;replace q7:=k9.q q7;obtain⟨dY,jM,Sc,UM,vA⟩:=nR (H:=H9) hV.len hV.ones;have K:=K.trans Sc;replace q0:=Sc.q q0;replace q7:=Sc.q q7;obtain⟨qq,ee,uu,vv,rfl,hq,he,_,_,lN,lD,_⟩:=hV;apply Zb;intro b1 Ze;simp[Ro z7 hl,c8,c9,lj,FY,Value.cells,jM];subst Ze;apply Zh;intro b1 Ze;apply Zb;intro b2 Zx;simp[fK,iH UM,SH];subst Zx;refine Za (t:=false) (by simp) ?_;apply Zr;subst Ze;have lA:=F0 N;have lB:=F0 D;have y7:=q7;have exN:Ex dY [.int .i64 0,.bool s,p,q,.slice none 0 0] (uX s N D):= .mk (sp.keep ((k7.trans k8).trans (k9.trans Sc))) (sq.keep ((k7.trans k8).trans (k9.trans Sc))) .nil;obtain⟨x11,Ce,ry,TV,QA,rfl,uV⟩:=ar _ (uX s N D) (Nat.le_refl _) _ _ exN ⟨by omega,by omega,Yv Z7 _,Yv Z7 _,trivial⟩ (by show 1+0<=_;decide);replace ry:ZY Tryz.prog Zy 30 [.agg #[.int .i64 0,.bool s,p,q,.slice none 0 0]] dY=some (.agg QA.toArray,Ce):=ry;unfold uX at uV;rw[Du,show VV 0 s (ds Zc N) (ds Zc D)=((s,N,D),false) by unfold VV;rw[if_pos rfl,YT Z7,YT Z7,if_neg (by have:=Sb.2;omega),Sb.1]]at uV;cases uV with
    |@mk _ _ _ vn vd vx _ _ _ r1 r2 r3=>
     have n11:=TV.n;have K:=K.trans TV;replace UM:=TV.q UM;obtain⟨ay,jL,LB,uY,n12⟩:=nS (H:=Ce) (p:= .bool s) ⟨⟨_,rfl⟩,r1.1.shape,r2.1.shape⟩;have K:=K.trans LB;replace UM:=LB.q UM;replace hq:=(hq.keep Sc).keep (TV.trans LB);replace he:=(he.keep Sc).keep (TV.trans LB);have hvn:Sl ay vn (ds ZF N):=r1.1.keep LB;have hvd:Sl ay vd (ds ZF D):=r2.1.keep LB;have lQ:Zm (N*2^256/D)<=68000000:=Nat.le_trans (ZE (Nat.div_le_self _ _)) (Nat.le_trans (IP lN) (by decide));have lE:Zm (Oi N D)<=68000000:=Nat.le_trans (ZE (mg N D)) (by decide);have Iw:=UM;have Zab:=uY;have Nm: ∀{J:AH}(k:Zg ay J){bits ms},(∀x∈ms,ay.n<=x.2.1)-> ∀b,b<ay.n->(RP J bits ms).blk b=ay.blk b:=fun k _ _ h b hb=>(Y1 k h).blk b hb;obtain⟨x1,HC,UP,YA,ex1⟩:=nf s hq.top he.top lQ lE;obtain⟨LP,Xw,XN,GG⟩:=cg YA;have Xr:=XN;have Qt:=Xr.n;have K:=K.trans XN;obtain⟨p1,w1,t1,N1,D1,rfl,y1,y2,f1,f2,f3,f4,f5⟩:=ex1;replace y1:=y1.same (Yo YA);replace y2:=y2.same (Yo YA);rw[<-Xw]at y1 y2;obtain⟨r1v,sD⟩:=hid (Xj s (N*2^256/D) true (Oi N D));have vR:=lo_le (t:=t1) sD Sb.2 f1 (by rw[sD];exact f2) (by rw[sD];exact f5);have lS:=DZ s lQ lE;have l1:=Nat.le_trans (ZE f3) (lS true);have l2:=Nat.le_trans (ZE f4) IQ;obtain⟨D3,QH,Xp⟩:=U1 t1 s y1.top y2.top (hvn.keep Xr).top (hvd.keep Xr).top (Xe (by omega)) (Xe (by omega)) (Xe (by omega)) (Xe (by omega));obtain⟨Oh,X7,Xv,Cb⟩:=cg Xp;have Xt:=Xr.trans Xv;have Ot:=Xt.n;have K:=K.trans Xv;obtain⟨x2,qA,JC,Um,ex2⟩:=mQ s (hq.keep Xt).top (he.keep Xt).top lQ lE;obtain⟨dW,RV,Vl,tF⟩:=cg Um;have Tk:=Xt.trans Vl;have Bl:=Tk.n;have K:=K.trans Vl;obtain⟨p2,w2,t2,N2,D2,rfl,y3,y4,g1,g2,g3,g4,g5⟩:=ex2;replace y3:=y3.same (Yo Um);replace y4:=y4.same (Yo Um);rw[<-RV]at y3 y4;obtain⟨r2v,sC⟩:=hid (Xj s (N*2^256/D) false (Oi N D));have yW:=yV (t:=t2) sC Sb.2 g1 (by rw[sC];exact g2) (by rw[sC];exact g5);have l3:=Nat.le_trans (ZE g3) (lS false);have l4:=Nat.le_trans (ZE g4) IQ;obtain⟨Ia4,xe,iu⟩:=U1 s t2 (hvn.keep Tk).top (hvd.keep Tk).top y3.top y4.top (Xe (by omega)) (Xe (by omega)) (Xe (by omega)) (Xe (by omega));obtain⟨Ja4,rJ,GN,ma4⟩:=cg iu;have bM:=Tk.trans GN;have nka4:=bM.n;have K:=K.trans GN;obtain⟨cm1,hcm1⟩:=hid (VB t1 N1 D1 s N D);obtain⟨cm2,hcm2⟩:=hid (VB s N D t2 N2 D2);rw[<-hcm1]at QH vR;rw[<-hcm2]at xe yW;have gl1:Zd .leq .i64 cm1 0=some (.bool true):=by rw[iS,decide_eq_true vR]
     have gl2:Zd .leq .i64 cm2 0=some (.bool true):=by rw[iS,decide_eq_true yW]
     obtain⟨Ia5,da5,zz⟩:=Qb ((hr.keep K).keep (NK _));obtain⟨Ja5,hJa5,zZ,ma5⟩:=cg zz;have kka5:=bM.trans zZ;have nka5:=kka5.n;have K:=K.trans zZ;apply Zb;intro b1 Ze;simp[Gv,MJ y7,pX (x:=s) sp.shape sq.shape,ry,fldE,zR,Value.cells,jL];subst Ze;apply Zh;intro b1 Ze;apply YI (by kernel_rfl);simp[pK];refine Wn (v:= .agg #[.int .i64 256,.bool s,qq,ee]) (by simp[iF (H:=AH.top ay) Iw]) ?_;simp;refine YF (v:= .agg #[.bool t1,p1,w1]) (Wz.nil ay.n) YA Xw (by simp[UP]) fun Qr Sp=>?_;simp;refine Z0 (v:= .agg #[.bool s,vn,vd]) rfl rfl rfl (by simp[Y3 ((Nm Xr Sp.ge _ (by omega)).trans Zab)]) ?_;simp;refine YF (v:= .int .i64 cm1) Sp Xp X7 (by simp[QH]) fun Oq R9=>?_;simp[gl1];refine Z0 (v:= .agg #[.bool s,vn,vd]) rfl rfl rfl (by simp[Y3 ((Nm Xt R9.ge _ (by omega)).trans Zab)]) ?_;simp[pK];refine Z0 (v:= .agg #[.int .i64 256,.bool s,qq,ee]) rfl rfl rfl (by simp[iF ((Nm Xt R9.ge _ (by omega)).trans Iw)]) ?_;simp;refine YF (v:= .agg #[.bool t2,p2,w2]) R9 Um RV (by simp[JC]) fun Bg Cf=>?_;simp;refine YF (v:= .int .i64 cm2) Cf iu rJ (by simp[xe]) fun msa4 Ma4=>?_;simp[gl2];refine YF (v:= .bool true) Ma4 zz hJa5 (by simp[da5]) fun msa5 Ma5=>?_;simp;subst Ze;apply Zu;simp;exact K
   ·have hk:T.kind≠1:=fun e=>CJ (iZ.mp e);have g:Zd .neq .i64 T.kind 1=some (.bool true):=by rw[Rq,decide_eq_true hk]
    obtain⟨p1,p2,p3,rfl,_⟩:=hf.trio;obtain⟨H8,c8,k8⟩:=Qb (hr.keep K);have n8:=k8.n;have K:=K.trans k8;replace q0:=k8.q q0;replace q7:=k8.q q7;apply Zh;intro b1 Ze;apply Zb;intro b2 Zx;simp[KC,SL q7z,g];subst Zx;refine Za (t:=true) (by simp) ?_;apply Zb;intro b2 Zx;simp[c8];subst Zx;apply Zu;simp[Yx];exact K
  ·skip;obtain⟨H6,c6,k6⟩:=Cv (h.keep K) J0;have n6:=k6.n;have K:=K.trans k6;replace q0:=k6.q q0;rw[<-hC]at J0 c6;obtain⟨H7,Od,k7,q7,n7⟩:=VW (H:=H6) (k:= .int .i64 0) (p:= .bool false) (q:= .slice none 0 0) (r:= .slice none 0 0) rfl;have K:=K.trans k7;replace q0:=k7.q q0;have z7:=q0;obtain⟨H8,c8,k8⟩:=OG (h.keep K);have n8:=k8.n;have K:=K.trans k8;rw[<-hC]at c8;obtain⟨H9,c9,k9⟩:=Qb (hr.keep K);have n9:=k9.n;have K:=K.trans k9;have g0:Zd .neq .i64 (C:Int) 0=some (.bool true):=by rw[Rq,decide_eq_true (by omega)]
   apply Zb;intro b1 Ze;simp[Ro z3 hl,c6,X5,Value.cells,Od];subst Ze;apply Zh;intro b1 Ze;apply Zb;intro b2 Zx;simp[PV,g0];subst Zx;refine Za (t:=true) (by simp) ?_;apply Zb;intro b2 Zx;simp[Ro z7 hl,c8,PV,g0,c9];subst Zx;apply Zu;simp[Yx];exact K
end
end
end
end Go.Proofs.YtmkfecoeghokfaaGreatDoor
namespace Go.Proofs.YtmkfecoeghokfaaGreatDoor
open Go.ChangeShapes Go.WideShapes Go.ChangeAt Go.RowKit Go.Proofs.YtmkfecoeghokfaaGreatDoor.Ev
set_option linter.unusedVariables false
set_option maxHeartbeats 2000000
set_option maxRecDepth 20000
theorem laidOut:laidOutB Tryz.prog=true:=by kernel_rfl
theorem IU{P:Program}(hl:laidOutB P=true){H:Type}{enc:TypeId×Value->H}{W W':World}(hb:Below W.heap.size W W'): ∀(ts:List TypeId)(vs:List Value)(ds:List (DataW H))(ps:List MemPlace),(ts.all fun t=>P.readableRec t&&decide (t<P.types.size))=true->DataW.TrodAll enc P W 0 (fun _=>true) true ts vs ds ps->(∀x∈ps,x.block<W.heap.size)->DataW.TrodAll enc P W' 0 (fun b=>decide (b<W.heap.size)) true ts vs ds ps|[],[],[],_,_,h,_=>h|t::ts,v::vs,d::ds,_,ht,⟨p,q,h1,h2,e⟩,YW=>by subst e;rw[List.all_cons,Bool.and_eq_true,Bool.and_eq_true]at ht;exact⟨p,q,Below.trod hl ht.1.1 (of_decide_eq_true ht.1.2) h1 hb (fun x hx=>YW x (List.mem_append_left _ hx)),IU hl hb ts vs ds q ht.2 h2 (fun x hx=>YW x (List.mem_append_right _ hx)),rfl⟩
end Go.Proofs.YtmkfecoeghokfaaGreatDoor
namespace Go.Proofs.YtmkfecoeghokfaaGreatDoor
open Go Go.ChangeShapes Go.WideShapes Go.RowKit Go.Proofs.YtmkfecoeghokfaaGreatDoor.Ev
set_option linter.unusedVariables false
noncomputable section
set_option maxHeartbeats 2000000
set_option maxRecDepth 20000
section
attribute [-simp] Int.natCast_add Int.natCast_mul Int.natCast_ediv Int.natCast_emod Int.natCast_pow
attribute [local simp] strip ZR Xm gW Z2 Ye ZW Yf ZK Yg Zs Zt Zi ZJ Ya ZP ZA Zl ZI Zj Zf ZB ZC YV Zo Yd YE Yy ZL plain ZO Tr.get_set Yw Zp Ys ZT sameKind undef Zw ZH Z5 Zv Z1 Yl ZU parts XZ Zz Zq ZD ZQ XM Yk Zn ZN ZV ZM
theorem KS{H:Type}(d:DataW H):1<=Rows.uptoBulk d:=by cases d with|lit l=>cases l<;>simp[Rows.uptoBulk]|nil=>simp[Rows.uptoBulk]|ptr d=>simp[Rows.uptoBulk]|slice elems spare=>simp[Rows.uptoBulk]|agg parts=>simp[Rows.uptoBulk]|iface t d=>simp[Rows.uptoBulk]|map entries=>simp[Rows.uptoBulk]|held h=>simp[Rows.uptoBulk]
theorem ff{H:Type}(l:List (DataW H)):l.length<=Rows.uptoBulkAll l:=by induction l with|nil=>simp[Rows.uptoBulkAll]|cons x r ih=>have:=KS x;simp only[Rows.uptoBulkAll,List.length_cons];omega
theorem Cn{H:Type}(elems spare:List (DataW H)):elems.length<=Rows.uptoBulk (.slice elems spare):=by have h1:=ff elems;simp only[Rows.uptoBulk];omega
theorem IM{H:Type}{d:DataW H}{l:List (DataW H)}(h:d∈l):Rows.uptoBulk d<=Rows.uptoBulkAll l:=by induction l with
 |nil=>cases h
 |cons x r ih=>simp only[Rows.uptoBulkAll];cases List.mem_cons.1 h with|inl e=>subst e;omega|inr e=>have:=ih e;omega
theorem Cm{H:Type}{l:List (DataW H)}(hk:Rows.uptoSmall H l=true):Rows.uptoBulkAll l<=1048576:=of_decide_eq_true hk
def BB(W:World)(v:Value)(xs:List Nat):Prop:=(v= .slice none 0 0/\xs=[])\/ ∃(a:Addr) (cap:Nat),v= .slice (some a) xs.length cap/\xs.length<=cap/\ ∀(i x:Nat),xs[i]?=some x->W.cell? (a.add i)=some (.int .u64 (x:Int))
theorem cU64:Tryz.prog.cellsOf 101=1:=by kernel_rfl
theorem B5{W:World}{S:Nat->Prop}{L:Nat->Ev.Loc}{H:AH}(hI:Inv W.heap.size S L H W){v:Value}{xs:List Nat}(h:BB W v xs): ∃(S':Nat->Prop) (L':Nat->Ev.Loc) (H':AH) (v0:Value),Inv W.heap.size S' L' H' W/\(∀i,S i->S' i)/\(∀i,S i->L' i=L i)/\VR S' L' v0 v/\Sl H' v0 xs/\Zg H H':=by
 rcases h with⟨rfl,rfl⟩|⟨a,cap,rfl,so,hc⟩;·exact⟨S,L,H,.slice none 0 0,hI,fun _ h=>h,fun _ _=>rfl,.nilSlice,.nil,.refl H⟩
 ·by_cases h0:xs.length=0;·obtain rfl:xs=[]:=List.length_eq_zero_iff.mp h0;exact⟨S,L,H,_,hI,fun _ h=>h,fun _ _=>rfl,.emp 0 a cap,.emp 0,.refl H⟩
  ·have Kl:=hc 0 xs[0] (List.getElem?_eq_getElem (by omega));have ea:a.add 0=a:=rfl;rw[ea]at Kl;have QM:a.spot=none:=by unfold World.cell? at Kl;cases hs:a.spot with
    |none=>rfl
    |some q=>
     rw[hs]at Kl;split at Kl;·simp at Kl
     ·cases Kl
   have XO:a.block<W.heap.size:=World.block_lt_of_cell? W a Kl;have r9: ∀k,a.add k=⟨a.block,a.off+k,none⟩:=fun k=>by
    unfold Addr.add;by_cases hk:k=0;·subst hk;rw[if_pos rfl];cases a with|mk b o s=>simp at QM;subst QM;rfl
    ·rw[if_neg hk]
   have hn: ∀i,S i->i≠H.n:=fun i hi e=>by have:=hI.bd i hi;omega
   let L':Nat->Ev.Loc:=fun i=>if i=H.n then⟨a.block,a.off,1,a.off+cap⟩else L i;let S':Nat->Prop:=fun i=>i=H.n\/S i;have hL: ∀i,S i->L' i=L i:=fun i hi=>if_neg (hn i hi);have vt:L' H.n=⟨a.block,a.off,1,a.off+cap⟩:=if_pos rfl;let H':AH:= { n:=H.n+1,lw:=H.lw,t:=H.t.set H.n (.ro 1 (xs.map fun x:Nat=>Value.int .u64 (x:Int))) };have hb: ∀j,H'.blk j=if j=H.n then .ro 1 (xs.map fun x:Nat=>Value.int .u64 (x:Int))else H.blk j:=fun j=>by
    show(match(H.t.set H.n _).get j with|some b=>b|none=>Ou.dead)=_;rw[Tr.get_set];by_cases e:j=H.n;·rw[if_pos e,if_pos e]
    ·rw[if_neg e,if_neg e];rfl
   refine⟨S',L',H',.slice (some ⟨H.n,0,none⟩) xs.length xs.length,⟨?_,?_,?_,?_,hI.base⟩,fun i hi=> .inr hi,hL,?_,?_,?_⟩
   ·intro i sz cs hi;rw[hb]at hi;by_cases e:i=H.n;·rw[if_pos e]at hi;cases hi;subst e;rw[vt];refine⟨.inl rfl,XO,rfl,fun k v hk=>?_⟩;rw[List.getElem?_map]at hk;cases hxk:xs[k]? with|none=>rw[hxk]at hk;cases hk|some x=>rw[hxk]at hk;cases hk;refine⟨.int .u64 (x:Int),?_,.int _ _⟩;have:=hc k x hxk;rwa[r9 k]at this
    ·rw[if_neg e]at hi;obtain⟨h1,h2,h3,h4⟩:=hI.ro i sz cs hi;rw[hL i h1];refine⟨.inr h1,h2,h3,fun k v hk=>?_⟩;obtain⟨v',h5,h6⟩:=h4 k v hk;exact⟨v',h5,h6.mono (fun _ h=> .inr h) hL⟩
   ·intro i sz cs hi;rw[hb]at hi;by_cases e:i=H.n;·rw[if_pos e]at hi;cases hi
    ·rw[if_neg e]at hi;obtain⟨h1,h2,h3,C,e',h4,h5,h6⟩:=hI.rw i sz cs hi;rw[hL i h1];refine⟨.inr h1,h2,h3,C,e',h4,h5,fun k v hk=>?_⟩;obtain⟨v',h7,h8⟩:=h6 k v hk;exact⟨v',h7,h8.mono (fun _ h=> .inr h) hL⟩
   ·intro i j sz cs VU cs' hi hj hg;rw[hb]at hi hj;by_cases e:i=H.n;·rw[if_pos e]at hi;cases hi
    ·by_cases e2:j=H.n;·rw[if_pos e2]at hj;cases hj
     ·rw[if_neg e]at hi;rw[if_neg e2]at hj;rw[hL i (hI.rw i _ _ hi).1,hL j (hI.rw j _ _ hj).1]at hg;exact hI.dj i j _ _ _ _ hi hj hg
   ·intro i hi;rcases hi with hi|hi;·subst hi;exact Nat.lt_succ_self _
    ·exact Nat.lt_succ_of_lt (hI.bd i hi)
   ·have hv:=VR.slice (S:=S') (L:=L') H.n 0 xs.length xs.length cap (.inl rfl) so (Nat.le_refl _) (by rw[vt];simp);rw[vt]at hv;have e:(some (⟨a.block,a.off+0,none⟩:Addr))=some a:=by congr 1;cases a with|mk b o s=>simp at QM;subst QM;rfl
    rw[e]at hv;exact hv
   ·refine .mk H.n 0 xs.length xs (Nat.le_refl _) ⟨Nat.lt_succ_self _,xs.map fun x:Nat=>Value.int .u64 (x:Int),?_,?_,fun i x hx=>?_,Nat.zero_le _⟩;·unfold AH.cells;rw[hb,if_pos rfl]
    ·unfold AH.size;rw[hb,if_pos rfl]
    ·rw[Nat.zero_add,List.getElem?_map,hx];rfl
   ·exact⟨Nat.le_succ _,Nat.min_le_left _ _,fun j hj=>by rw[hb,if_neg (by omega)]⟩
end
section
attribute [-simp] Int.natCast_add Int.natCast_mul Int.natCast_ediv Int.natCast_emod Int.natCast_pow
attribute [local simp] strip ZR Xm LR gW Z2 Ye ZW Yf ZK Yg Zs Zt Zi ZJ Ya ZP ZA Zl ZI Zj Zf ZB ZC YV Zo Yd YE Yy ZL plain ZO Tr.get_set Yw Zp Ys ZT sameKind undef Zw ZH Z5 Zv Z1 Yl ZU parts Z3 XZ DW Yh Zz LX ZZ Zq ZD ZQ XM Yk Zn ZN ZV ZM
mutual inductive WEx(W:World):List Value->ET->Prop|mk{op:Int}{neg:Bool}{va vd vx:Value}{abs den:List Nat}{args:List ET} :BB W va abs->BB W vd den->WXs W vx args->WEx W [.int .i64 op,.bool neg,va,vd,vx] (.node op neg abs den args) inductive WXs(W:World):Value->List ET->Prop|nil:WXs W (.slice none 0 0) []|mk(a:Addr)(cap:Nat){args:List ET}(F:Nat->List Value):args.length<=cap->(∀i,i<args.length->W.cells? 0 (a.add (i*5)) 5=some (F i))->(∀(i:Nat)(t:ET),args[i]?=some t->WEx W (F i) t)->WXs W (.slice (some a) args.length cap) args end
instance:Inhabited ET:=⟨.node 0 false [] [] []⟩
theorem OS{H:Type}{enc:TypeId×Value->H}{W:World}{t:TypeId}{fuel:Nat}{cs:List Value}{x:DataW H×List MemPlace}(ht:Tryz.prog.underlying t=some (.slice 101))(hf:DataW.trod enc Tryz.prog W 0 (fun _=>true) true fuel t cs=some x): ∃v xs,cs=[v]/\YG 18446744073709551616 xs/\xs.length<=Rows.uptoBulk x.1/\BB W v xs:=by
 rcases Deep.open_slice1 ht cU64 hf with⟨h1,h2⟩|⟨a',iW,Vv,m,n,V,D,Pl,h1,_,hl,_,hm,hx,hV⟩;·exact⟨_,[],h1,.nil _,Nat.zero_le _,.inl ⟨rfl,rfl⟩⟩
 ·rw[if_pos rfl]at hm;rw[hm]at hx hV;have hval: ∀i,i<Vv-> ∃x:Nat,V i= .int .u64 (x:Int)/\x<18446744073709551616:=fun i hi=>by
   obtain⟨n',c',x',w'⟩:=DataW.trod_int Tryz.underlying101 (hV i hi).2;simp at c';simp only[Lit.wf,Bool.and_eq_true,decide_eq_true_eq]at w';have e1:IntKind.u64.min=0:=by decide
   have e2:IntKind.u64.max=18446744073709551615:=by decide
   exact⟨n'.toNat,by rw[c'];congr 1;omega,by omega⟩
  let f:Nat->Nat:=fun i=>match V i with| .int _ z=>z.toNat|_=>0;have mT: ∀i,i<Vv->V i= .int .u64 ((f i:Nat):Int)/\f i<18446744073709551616:=fun i hi=>by
   obtain⟨x,h1,h2⟩:=hval i hi;have:f i=x:=by show(match V i with| .int _ z=>z.toNat|_=>0)=x;rw[h1];simp
   rw[this];exact⟨h1,h2⟩
  refine⟨_,(List.range iW).map f,h1,?_,?_,.inr ⟨a',Vv,by simp,by simpa using hl,?_⟩⟩;·intro x hx;obtain⟨i,hi,rfl⟩:=List.mem_map.mp hx;exact(mT i (Nat.lt_of_lt_of_le (List.mem_range.mp hi) hl)).2
  ·rw[hx];have:=Cn ((List.range iW).map D) ((List.range (Vv-iW)).map fun j=>D (iW+j));simpa using this
  ·intro i x hi;rw[List.getElem?_map]at hi;by_cases qc:i<iW;·rw[List.getElem?_range qc]at hi;cases hi;have hic:i<Vv:=Nat.lt_of_lt_of_le qc hl;rw[(hV i hic).1,(mT i hic).1]
   ·rw[List.getElem?_eq_none (by simp;omega)]at hi;cases hi
theorem qI: ∃f0 f1 f2,Tryz.prog.underlying 53=some (.struct #[f0,f1,f2])/\f0.type=50/\f0.offset=0/\f1.type=34/\f1.offset=1/\f2.type=51/\f2.offset=4:=⟨_,_,_,Tryz.underlying53,rfl,rfl,rfl,rfl,rfl,rfl⟩
theorem uK: ∃f0 f1,Tryz.prog.underlying 34=some (.struct #[f0,f1])/\f0.type=32/\f0.offset=0/\f1.type=30/\f1.offset=2:=⟨_,_,Tryz.underlying34,rfl,rfl,rfl,rfl⟩
theorem uJ: ∃f0 f1,Tryz.prog.underlying 32=some (.struct #[f0,f1])/\f0.type=4/\f0.offset=0/\f1.type=30/\f1.offset=1:=⟨_,_,Tryz.underlying32,rfl,rfl,rfl,rfl⟩
theorem pS:Tryz.prog.cellsOf 53=5:=by kernel_rfl
theorem rZ:Tryz.prog.cellsOf 34=3:=by kernel_rfl
theorem rY:Tryz.prog.cellsOf 32=2:=by kernel_rfl
theorem w7:Tryz.prog.cellsOf 30=1:=by kernel_rfl
theorem w6:Tryz.prog.cellsOf 4=1:=by kernel_rfl
theorem rz:Tryz.prog.cellsOf 51=1:=by kernel_rfl
theorem N3{H:Type}{f:Nat->ET}{D:Nat->DataW H} : ∀(l:List Nat),(∀i∈l,(f i).nodes<=Rows.uptoBulk (D i))->Yp (l.map f)<=Rows.uptoBulkAll (l.map D)|[],_=>Nat.le_refl _|i::l,h=>by have h1:=h i (List.mem_cons_self ..);have h2:=N3 l fun j hj=>h j (List.mem_cons_of_mem _ hj);simp only[List.map_cons,Yp,Rows.uptoBulkAll];omega
theorem HF{H:Type}{f:Nat->ET}{D:Nat->DataW H} : ∀(l:List Nat),(∀i∈l,(f i).wt<=64*Rows.uptoBulk (D i))->T6 (l.map f)<=64*Rows.uptoBulkAll (l.map D)|[],_=>Nat.zero_le _|i::l,h=>by have h1:=h i (List.mem_cons_self ..);have h2:=HF l fun j hj=>h j (List.mem_cons_of_mem _ hj);simp only[List.map_cons,T6,Rows.uptoBulkAll];omega
theorem LS{f:Nat->ET}{L:Nat} : ∀(l:List Nat),(∀i∈l,(f i).wide L)->Og L (l.map f)|[],_=>trivial|i::l,h=>⟨h i (List.mem_cons_self ..),LS l fun j hj=>h j (List.mem_cons_of_mem _ hj)⟩
theorem cV{H:Type}{enc:TypeId×Value->H}{W:World} : ∀(N:Nat)(d:DataW H),Rows.uptoBulk d<=N-> ∀(fuel:Nat)(cs:List Value)(ps:List MemPlace),DataW.trod enc Tryz.prog W 0 (fun _=>true) true fuel 53 cs=some (d,ps)-> ∃t:ET,WEx W cs t/\(∀L,Rows.uptoBulk d<=L->t.wide L)/\t.nodes<=Rows.uptoBulk d/\t.wt+64<=64*Rows.uptoBulk d:=by intro N;induction N with
 |zero=>intro d hd;have:=KS d;omega
 |succ N ih=>
  intro d hd fuel cs ps h;obtain⟨f0,f1,f2,hu,e1,e2,e3,e4,e5,e6⟩:=qI;obtain⟨y0,y1,y2,n,hx,hl,h0,h1,h2⟩:=Deep.trod_struct3 hu h;rw[e1,e2,cOp]at h0;rw[e3,e4,rZ]at h1;rw[e5,e6,rz]at h2;rw[pS]at hl;obtain⟨g0,g1,J6,i1,i2,i3,i4⟩:=uK;obtain⟨z0,z1,n2,hx2,CO,j0,j1⟩:=trod_struct2 J6 h1;rw[i1,i2,rY]at j0;rw[i3,i4,w7]at j1;obtain⟨k0,k1,hu3,m1,m2,m3,m4⟩:=uJ;obtain⟨w0,w1,n3,hx3,vS,q0,q1⟩:=trod_struct2 hu3 j0;rw[m1,m2,w6]at q0;rw[m3,m4,w7]at q1;obtain⟨op,c0,x0,_⟩:=DataW.trod_int uOp h0;obtain⟨neg,cb,xb⟩:=DataW.trod_bool Tryz.underlying4 q0;obtain⟨va,abs,ca,da,la,ra⟩:=OS uL q1;obtain⟨vd,den,cd,dd,ld,rd⟩:=OS uL j1;simp only[Prod.mk.injEq]at hx;obtain⟨hxd,_⟩:=hx;have Ze:Rows.uptoBulk w1.1+1<=Rows.uptoBulk z0.1:=by rw[hx3];simp only[Rows.uptoBulk,Rows.uptoBulkAll];omega
  have Zx:Rows.uptoBulk z0.1+Rows.uptoBulk z1.1+1<=Rows.uptoBulk y1.1:=by rw[hx2];simp only[Rows.uptoBulk,Rows.uptoBulkAll];omega
  have Z9:Rows.uptoBulk y1.1+Rows.uptoBulk y2.1+1<=Rows.uptoBulk d:=by rw[hxd];simp only[Rows.uptoBulk,Rows.uptoBulkAll];omega
  match cs,hl with
   |[a0,a1,a2,a3,a4],_=>
    simp at c0 cb ca cd h2;subst c0;subst cb;subst ca;subst cd;have u:Tryz.prog.underlying 51=some (.slice 53):=by kernel_rfl
    rcases Deep.open_slice u h2 with⟨p1,p2⟩|⟨a,len,cap,m,nn,D,Pl,p1,_,hlc,_,hm,p2,hV⟩
    ·cases p1;refine⟨.node op neg abs den [],.mk ra rd .nil,fun L hL=>⟨by omega,by omega,da,dd,trivial⟩,?_,?_⟩;·simp only[ET.nodes,Yp];have:=KS d;omega
     ·simp only[ET.wt,T6];split<;>omega
    ·cases p1;rw[if_pos rfl]at hm;subst hm;rw[pS]at hV p2;have Yz:Rows.uptoBulkAll ((List.range len).map D)+1<=Rows.uptoBulk y2.1:=by rw[p2];simp only[Rows.uptoBulk];omega
     obtain⟨F,hF⟩:=Deep.choose_lt (α:=List Value×ET) (n:=len) (p:=fun i q=>W.cells? 0 (a.add (i*5)) 5=some q.1/\WEx W q.1 q.2/\(∀L,Rows.uptoBulk (D i)<=L->q.2.wide L)/\q.2.nodes<=Rows.uptoBulk (D i)/\q.2.wt+64<=64*Rows.uptoBulk (D i)) (fun i hi=>by obtain⟨cs',s1,s2⟩:=hV i (Nat.lt_of_lt_of_le hi hlc);have hbi:Rows.uptoBulk (D i)<=Rows.uptoBulkAll ((List.range len).map D):=IM (List.mem_map.mpr ⟨i,List.mem_range.mpr hi,rfl⟩);obtain⟨t,t1,t2,t3,t4⟩:=ih (D i) (by omega) _ _ _ s2;exact⟨(cs',t),s1,t1,t2,t3,t4⟩);have hlen:((List.range len).map fun i=>(F i).2).length=len:=by simp
     have hw:WXs W (.slice (some a) ((List.range len).map fun i=>(F i).2).length m) ((List.range len).map fun i=>(F i).2):=by
      refine .mk a m (fun i=>(F i).1) (by rw[hlen];exact hlc) (fun i hi=>(hF i (by rwa[hlen]at hi)).1) (fun i t ht=>?_);have hi:i<len:=by
       rcases Nat.lt_or_ge i len with h|h;·exact h
       ·rw[List.getElem?_eq_none (by rw[hlen];exact h)]at ht;cases ht
      rw[List.getElem?_map,List.getElem?_range hi]at ht;cases ht;exact(hF i hi).2.1
     rw[hlen]at hw;refine⟨.node op neg abs den ((List.range len).map fun i=>(F i).2),.mk ra rd hw,fun L hL=>⟨by omega,by omega,da,dd,LS _ fun i hi=>?_⟩,?_,?_⟩;·have hi:=List.mem_range.mp hi;have hbi:Rows.uptoBulk (D i)<=Rows.uptoBulkAll ((List.range len).map D):=IM (List.mem_map.mpr ⟨i,List.mem_range.mpr hi,rfl⟩);exact(hF i hi).2.2.1 L (by omega)
     ·have:=N3 (D:=D) (f:=fun i=>(F i).2) (List.range len) fun i hi=>(hF i (List.mem_range.mp hi)).2.2.2.1;simp only[ET.nodes];omega
     ·have:=HF (D:=D) (f:=fun i=>(F i).2) (List.range len) fun i hi=>Nat.le_trans (Nat.le_add_right _ 64) (hF i (List.mem_range.mp hi)).2.2.2.2;simp only[ET.wt];split<;>omega
theorem aZ{W:World}{S:Nat->Prop}{L:Nat->Ev.Loc}{H:AH}(hI:Inv W.heap.size S L H W){g o sz cap:Nat}{cs cs':List Value}(hg:g<W.heap.size)(hc: ∀(k:Nat)(v':Value),cs'[k]?=some v'->W.cell? ⟨g,o+k,none⟩=some v')(hv:UQ S L cs cs'): ∃(S':Nat->Prop) (L':Nat->Ev.Loc) (H':AH),Inv W.heap.size S' L' H' W/\(∀i,S i->S' i)/\(∀i,S i->L' i=L i)/\Zg H H'/\H'.cells H.n=some cs/\S' H.n/\L' H.n=⟨g,o,sz,o+cap*sz⟩/\H'.n=H.n+1:=by
 have hn: ∀i,S i->i≠H.n:=fun i hi e=>by have:=hI.bd i hi;omega
 let L':Nat->Ev.Loc:=fun i=>if i=H.n then⟨g,o,sz,o+cap*sz⟩else L i;let S':Nat->Prop:=fun i=>i=H.n\/S i;have hL: ∀i,S i->L' i=L i:=fun i hi=>if_neg (hn i hi);have vt:L' H.n=⟨g,o,sz,o+cap*sz⟩:=if_pos rfl;let H':AH:= { n:=H.n+1,lw:=H.lw,t:=H.t.set H.n (.ro sz cs) };have hb: ∀j,H'.blk j=if j=H.n then .ro sz cs else H.blk j:=fun j=>by
  show(match(H.t.set H.n _).get j with|some b=>b|none=>Ou.dead)=_;rw[Tr.get_set];by_cases e:j=H.n;·rw[if_pos e,if_pos e]
  ·rw[if_neg e,if_neg e];rfl
 refine⟨S',L',H',⟨?_,?_,?_,?_,hI.base⟩,fun i hi=> .inr hi,hL,?_,?_,.inl rfl,vt,rfl⟩
 ·intro i Cc S8 hi;rw[hb]at hi;by_cases e:i=H.n;·rw[if_pos e]at hi;cases hi;subst e;rw[vt];refine⟨.inl rfl,hg,rfl,fun k v hk=>?_⟩;obtain⟨v',h1,h2⟩:=hv.get hk;exact⟨v',hc k v' h1,h2.mono (fun _ h=> .inr h) hL⟩
  ·rw[if_neg e]at hi;obtain⟨h1,h2,h3,h4⟩:=hI.ro i Cc S8 hi;rw[hL i h1];refine⟨.inr h1,h2,h3,fun k v hk=>?_⟩;obtain⟨v',h5,h6⟩:=h4 k v hk;exact⟨v',h5,h6.mono (fun _ h=> .inr h) hL⟩
 ·intro i Cc S8 hi;rw[hb]at hi;by_cases e:i=H.n;·rw[if_pos e]at hi;cases hi
  ·rw[if_neg e]at hi;obtain⟨h1,h2,h3,C,e',h4,h5,h6⟩:=hI.rw i Cc S8 hi;rw[hL i h1];refine⟨.inr h1,h2,h3,C,e',h4,h5,fun k v hk=>?_⟩;obtain⟨v',h7,h8⟩:=h6 k v hk;exact⟨v',h7,h8.mono (fun _ h=> .inr h) hL⟩
 ·intro i j Cc S8 VU cs' hi hj hg;rw[hb]at hi hj;by_cases e:i=H.n;·rw[if_pos e]at hi;cases hi
  ·by_cases e2:j=H.n;·rw[if_pos e2]at hj;cases hj
   ·rw[if_neg e]at hi;rw[if_neg e2]at hj;rw[hL i (hI.rw i _ _ hi).1,hL j (hI.rw j _ _ hj).1]at hg;exact hI.dj i j _ _ _ _ hi hj hg
 ·intro i hi;rcases hi with hi|hi;·subst hi;exact Nat.lt_succ_self _
  ·exact Nat.lt_succ_of_lt (hI.bd i hi)
 ·exact⟨Nat.le_succ _,Nat.min_le_left _ _,fun j hj=>by rw[hb,if_neg (by omega)]⟩
 ·unfold AH.cells;rw[hb,if_pos rfl]
theorem K4{G:Nat->List Value} : ∀m,(∀i,i<m->(G i).length=5)->(((List.range m).map G).flatten).length=m*5|0,_=>rfl|m+1,h=>by rw[List.range_succ,List.map_append,List.flatten_append,List.length_append,K4 m fun i hi=>h i (by omega)];simp[h m (by omega)];omega
theorem Eh{G:Nat->List Value} : ∀m,(∀i,i<m->(G i).length=5)-> ∀i,i<m->((((List.range m).map G).flatten).drop (i*5)).take 5=G i
 |0,_,i,hi=>absurd hi (Nat.not_lt_zero i)
 |m+1,h,i,hi=>by
  have hl:=K4 m fun i hi=>h i (by omega);rw[List.range_succ,List.map_append,List.flatten_append];by_cases e:i=m;·subst e;rw[List.drop_append_of_le_length (by omega),List.drop_of_length_le (by omega),List.nil_append];simp only[List.map_cons,List.map_nil,List.flatten_cons,List.flatten_nil,List.append_nil];rw[List.take_of_length_le (by rw[h i (by omega)];omega)]
  ·rw[List.drop_append_of_le_length (by omega),List.take_append_of_le_length (by rw[List.length_drop];omega)];exact Eh m (fun i hi=>h i (by omega)) i (by omega)
theorem K0{W:World}{a:Addr}(QM:a.spot=none){F:Nat->List Value} : ∀m,(∀i,i<m->W.cells? 0 (a.add (i*5)) 5=some (F i))-> ∀(k:Nat)(v':Value),(((List.range m).map F).flatten)[k]?=some v'->W.cell? ⟨a.block,a.off+k,none⟩=some v'
 |0,_,k,v',hk=>by simp at hk
 |m+1,h,k,v',hk=>by
  have r9: ∀k,a.add k=⟨a.block,a.off+k,none⟩:=fun k=>by
   unfold Addr.add;by_cases hk:k=0;·subst hk;rw[if_pos rfl];cases a with|mk b o s=>simp at QM;subst QM;rfl
   ·rw[if_neg hk]
  have hF: ∀i,i<m+1->(F i).length=5:=fun i hi=>(World.cells?_some (h i hi)).2.1;have hl:=K4 m fun i hi=>hF i (by omega);rw[List.range_succ,List.map_append,List.flatten_append]at hk;by_cases e:k<m*5;·rw[List.getElem?_append_left (by omega)]at hk;exact K0 QM m (fun i hi=>h i (by omega)) k v' hk
  ·rw[List.getElem?_append_right (by omega),hl]at hk;simp only[List.map_cons,List.map_nil,List.flatten_cons,List.flatten_nil,List.append_nil]at hk;obtain⟨_,_,h3⟩:=World.cells?_some (h m (by omega));have hj:k-m*5<5:=by
    rcases Nat.lt_or_ge (k-m*5) 5 with h'|h';·exact h'
    ·rw[List.getElem?_eq_none (by rw[hF m (by omega)];exact h')]at hk;cases hk
   have:=h3 (k-m*5) hj;rw[hk,Deep.add_add,r9,show m*5+(k-m*5)=k by omega]at this;exact this
theorem FT{S:Nat->Prop}{L:Nat->Ev.Loc}{G F:Nat->List Value} : ∀m,(∀i,i<m->UQ S L (G i) (F i))->UQ S L ((List.range m).map G).flatten ((List.range m).map F).flatten|0,_=> .nil|m+1,h=>by rw[List.range_succ,List.map_append,List.flatten_append,List.map_append,List.flatten_append];refine(FT m fun i hi=>h i (by omega)).append ?_;simpa using h m (by omega)
theorem eS{W:World} : ∀(N:Nat)(t:ET),t.nodes<=N-> ∀(cs:List Value),WEx W cs t-> ∀{S:Nat->Prop}{L:Nat->Ev.Loc}{H:AH},Inv W.heap.size S L H W-> ∃(S':Nat->Prop) (L':Nat->Ev.Loc) (H':AH) (vs:List Value),Inv W.heap.size S' L' H' W/\(∀i,S i->S' i)/\(∀i,S i->L' i=L i)/\UQ S' L' vs cs/\Ex H' vs t/\Zg H H':=by intro N;induction N with
 |zero=>intro t h;have:=Wg t;omega
 |succ N ih=>intro t ht cs hw S L H hI;cases hw with
  |@mk op neg va vd vx abs den args ra rd rx=>
   simp only[ET.nodes]at ht;obtain⟨S1,L1,H1,wa,I1,s1,l1,r1,q1,k1⟩:=B5 hI ra;obtain⟨S2,L2,H2,wd,I2,s2,l2,r2,q2,k2⟩:=B5 I1 rd;suffices hx: ∃(S':Nat->Prop) (L':Nat->Ev.Loc) (H':AH) (wx:Value),Inv W.heap.size S' L' H' W/\(∀i,S2 i->S' i)/\(∀i,S2 i->L' i=L2 i)/\VR S' L' wx vx/\Xs H' wx args/\Zg H2 H' by obtain⟨S3,L3,H3,wx,I3,s3,l3,r3,q3,k3⟩:=hx;refine⟨S3,L3,H3,[.int .i64 op,.bool neg,wa,wd,wx],I3,fun i h=>s3 i (s2 i (s1 i h)),fun i h=>by rw[l3 i (s2 i (s1 i h)),l2 i (s1 i h),l1 i h],?_,.mk (q1.keep (k2.trans k3)) (q2.keep k3) q3,(k1.trans k2).trans k3⟩;exact .cons (.int .i64 op) (.cons (.bool neg) (.cons ((r1.mono s2 l2).mono s3 l3) (.cons (r2.mono s3 l3) (.cons r3 .nil))))
   cases rx with
    |nil=>exact⟨S2,L2,H2,.slice none 0 0,I2,fun _ h=>h,fun _ _=>rfl,.nilSlice,.nil,.refl _⟩
    |mk a cap F so hF hE=>
     by_cases h0:args.length=0;·obtain rfl:args=[]:=List.length_eq_zero_iff.mp h0;exact⟨S2,L2,H2,.slice (some ⟨0,0,some 0⟩) 0 0,I2,fun _ h=>h,fun _ _=>rfl,.emp 0 a cap,.emp 0,.refl _⟩
     ·have yY: ∀i,i<args.length->args[i]?=some (args.getD i default):=fun i hi=>by rw[List.getElem?_eq_getElem hi];simp[List.getD,List.getElem?_eq_getElem hi]
      have key: ∀m,m<=args.length-> ∃(S':Nat->Prop) (L':Nat->Ev.Loc) (H':AH) (G:Nat->List Value),Inv W.heap.size S' L' H' W/\(∀i,S2 i->S' i)/\(∀i,S2 i->L' i=L2 i)/\(∀i,i<m->UQ S' L' (G i) (F i)/\Ex H' (G i) (args.getD i default))/\Zg H2 H':=by intro m;induction m with
       |zero=>intro _;exact⟨S2,L2,H2,fun _=>[],I2,fun _ h=>h,fun _ _=>rfl,fun i hi=>absurd hi (Nat.not_lt_zero i),.refl _⟩
       |succ m ihm=>
        intro hm;obtain⟨S3,L3,H3,G,I3,s3,l3,g3,k3⟩:=ihm (by omega);have LG:=yY m (by omega);have hn:=Sg LG;obtain⟨S4,L4,H4,vs,I4,s4,l4,r4,q4,k4⟩:=ih (args.getD m default) (by omega) (F m) (hE m _ LG) I3;refine⟨S4,L4,H4,fun i=>if i=m then vs else G i,I4,fun i h=>s4 i (s3 i h),fun i h=>by rw[l4 i (s3 i h),l3 i h],fun i hi=>?_,k3.trans k4⟩;by_cases e:i=m;·subst e;simp only[if_pos];exact⟨r4,q4⟩
        ·simp only[if_neg e];obtain⟨g1,g2⟩:=g3 i (by omega);exact⟨g1.mono s4 l4,g2.keep k4⟩
      obtain⟨S3,L3,H3,G,I3,s3,l3,g3,k3⟩:=key args.length (Nat.le_refl _);have hF0:=hF 0 (by omega);obtain⟨_,f1,f2⟩:=World.cells?_some hF0;have Kl:=f2 0 (by omega);rw[Deep.add_add,List.getElem?_eq_getElem (by omega)]at Kl;have ea:a.add (0*5+0)=a:=rfl;rw[ea]at Kl;have QM:a.spot=none:=by have vN:=Kl;unfold World.cell? at vN;cases hs:a.spot with
       |none=>rfl
       |some q=>
        rw[hs]at vN;split at vN;·simp at vN
        ·cases vN
      have XO:a.block<W.heap.size:=World.block_lt_of_cell? W a Kl;have hG: ∀i,i<args.length->(G i).length=5:=fun i hi=>(g3 i hi).2.len;obtain⟨S4,L4,H4,I4,s4,l4,k4,c4,sn,ln,n4⟩:=aZ (g:=a.block) (o:=a.off) (sz:=5) (cap:=cap) (cs:=((List.range args.length).map G).flatten) (cs':=((List.range args.length).map F).flatten) I3 XO (K0 QM args.length hF) (FT args.length fun i hi=>(g3 i hi).1);refine⟨S4,L4,H4,.slice (some ⟨H3.n,0,none⟩) args.length args.length,I4,fun i h=>s4 i (s3 i h),fun i h=>by rw[l4 i (s3 i h),l3 i h],?_,?_,k3.trans k4⟩
      ·have hv:=VR.slice (S:=S4) (L:=L4) H3.n 0 args.length args.length cap sn so (Nat.le_refl _) (by rw[ln];simp);rw[ln]at hv;have e:(some (⟨a.block,a.off+0,none⟩:Addr))=some a:=by congr 1;cases a with|mk b o s=>simp at QM;subst QM;rfl
       rw[e]at hv;exact hv
      ·refine .mk H3.n 0 args.length (by omega) c4 (Nat.le_refl _) fun i t hi=>?_;have YW:i<args.length:=by
        rcases Nat.lt_or_ge i args.length with h'|h';·exact h'
        ·rw[List.getElem?_eq_none h']at hi;cases hi
       rw[Nat.zero_add,Eh args.length hG i YW];have:=(g3 i YW).2.keep k4;rw[yY i YW]at hi;cases hi;exact this
end
end
end Go.Proofs.YtmkfecoeghokfaaGreatDoor
