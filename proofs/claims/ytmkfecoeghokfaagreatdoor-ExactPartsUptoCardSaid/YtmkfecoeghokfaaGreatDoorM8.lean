/-
  The engine and the walks that the claim's last text leans on, part 8 of 10: Ui, Uj, Uk, Ul, Um, Un, Uo, Up, Uq, Ur, Us, Ut, Uu, Uv.
-/
import Derived.Test.YtmkfecoeghokfaaGreatDoorM7
namespace Go.Proofs.YtmkfecoeghokfaaGreatDoor
open Go Ev
set_option linter.unusedVariables false
set_option linter.unusedSimpArgs false
noncomputable section
set_option maxHeartbeats 2000000
set_option maxRecDepth 20000
section
attribute [-simp] Int.natCast_add Int.natCast_mul Int.natCast_ediv Int.natCast_emod Int.natCast_pow
attribute [local simp] strip ZQ Xt LR gW Z6 Yh ZU Yi ZG Yj Zy Zz Zj ZF Yd ZL Z3 Zm ZE Zk Zi Z2 Z1 YK Zr Yg Y1 YT ZJ plain ZM Tr.get_set YU Zt Yw ZS sameKind undef ZZ ZD Yb Zv ZA Yf ZT parts ZB XH DW Ym ZX LX ZV Zs ZI ZR XL Yk Zo ZP ZW ZO
theorem wN{b m cap i:Nat}(hi:i<m):ZC Tryz.prog 157 (.slice (some ⟨b,0,none⟩) m cap) (.int .i64 (i:Int))=some (.pointer (some ⟨b,i*3,none⟩)):=by unfold ZC;simp only[uQs,VT];rw[if_pos (by omega)];simp
theorem AB{H:AH}{b o sz:Nat}{cs vs:List Value}(h:H.blk b= .rw (sz+1) cs)(hk:(cs.drop o).take 3=vs)(hl:vs.length=3):Z7 Tryz.prog H 34 (.pointer (some ⟨b,o,none⟩))=some (.agg vs.toArray):=Nm (AH.cells_rw h) hk hl
theorem AA{H:AH}{b:Nat}{p q r:Value}{l:List Value}(h:H.blk b= .rw 3 (p::q::r::l)):Z7 Tryz.prog H 34 (.pointer (some ⟨b,0,none⟩))=some (.agg #[p,q,r]):=AB h rfl rfl
theorem na{H:AH}{b:Nat}{p q r p' q' r':Value}{l:List Value}(h:H.blk b= .rw 3 (p::q::r::p'::q'::r'::l)):Z7 Tryz.prog H 34 (.pointer (some ⟨b,3,none⟩))=some (.agg #[p',q',r']):=AB h rfl rfl
theorem py{b m cap:Nat}(hi:0<m):ZC Tryz.prog 157 (.slice (some ⟨b,0,none⟩) m cap) (.int .i64 0)=some (.pointer (some ⟨b,0,none⟩)):=wN (i:=0) hi
theorem wM{b m cap:Nat}(hi:1<m):ZC Tryz.prog 157 (.slice (some ⟨b,0,none⟩) m cap) (.int .i64 1)=some (.pointer (some ⟨b,3,none⟩)):=wN (i:=1) hi
def Zab:Value->Bool| .int .u64 _=>false|_=>true
def noU(cs:List Value):Bool:=cs.all Zab
def Fr(H H':AH):Prop:=H.n<=H'.n/\ ∀j,j<H.n->H'.blk j=H.blk j\/(∃sz cs,H.blk j= .rw sz cs/\sz≠1)\/ ∃cs cs',H.blk j= .rw 1 cs/\H'.blk j= .rw 1 cs'/\cs.length=cs'.length/\noU cs=true/\noU cs'=true
theorem Fr.refl(H:AH):Fr H H:=⟨Nat.le_refl _,fun j hj=> .inl rfl⟩
theorem Fr.trans{H H1 H2:AH}(a:Fr H H1)(b:Fr H1 H2):Fr H H2:=by
 refine⟨Nat.le_trans a.1 b.1,fun j hj=>?_⟩;have hb:=b.2 j (Nat.lt_of_lt_of_le hj a.1);rcases a.2 j hj with e|e|⟨cs,cs',e1,e2,e3,e4,e5⟩;·rw[e]at hb;exact hb
 ·exact .inr (.inl e)
 ·refine .inr (.inr ?_);rcases hb with x|⟨sz,c,x,hz⟩|⟨c,c',x1,x2,x3,x4,x5⟩;·exact⟨cs,cs',e1,x.trans e2,e3,e4,e5⟩
  ·rw[e2]at x;injection x with x _;exact absurd x.symm hz
  ·rw[e2]at x1;injection x1 with _ x1;subst x1;exact⟨cs,c',e1,x2,e3.trans x3,e4,x5⟩
theorem Zh.fr{H H':AH}(k:Zh H H'):Fr H H':=⟨k.n,fun j hj=> .inl (k.blk j hj)⟩
theorem Fr.put{H H':AH}{b:Nat}{cs cs':List Value}(hb:H.blk b= .rw 1 cs)(WV:H'.blk b= .rw 1 cs')(hn:H'.n=H.n)(ho: ∀j,j≠b->H'.blk j=H.blk j)(hl:cs.length=cs'.length)(h1:noU cs=true)(h2:noU cs'=true):Fr H H':=by
 refine⟨Nat.le_of_eq hn.symm,fun j hj=>?_⟩;by_cases e:j=b;·subst e;exact .inr (.inr ⟨cs,cs',hb,WV,hl,h1,h2⟩)
 ·exact .inl (ho j e)
theorem At.fr{H H':AH}{b o:Nat}{xs:List Nat}(h:At H b o xs)(f:Fr H H'):At H' b o xs:=by
 obtain⟨h1,cs,h2,h3,h4,h5⟩:=h;refine⟨Nat.lt_of_lt_of_le h1 f.1,?_⟩;rcases f.2 b h1 with e|⟨sz,c,e,hz⟩|⟨c,c',e1,e2,e3,e4,e5⟩;·exact⟨cs,by unfold AH.cells;rw[e];exact h2,by unfold AH.size;rw[e];exact h3,h4,h5⟩
 ·unfold AH.size at h3;rw[e]at h3;injection h3 with h3;exact absurd h3 hz
 ·unfold AH.cells at h2;rw[e1]at h2;injection h2 with h2;subst h2;refine⟨c',by unfold AH.cells;rw[e2],by unfold AH.size;rw[e2],fun i x hi=>?_,by omega⟩;have:=h4 i x hi;have hm:=List.mem_of_getElem? this;have:=List.all_eq_true.mp e4 _ hm;simp[Zab]at this
theorem Sl.fr{H H':AH}{v:Value}{xs:List Nat}(h:Sl H v xs)(f:Fr H H'):Sl H' v xs:=by cases h with|nil=>exact .nil|emp b=>exact .emp b|mk b o cap xs h1 h2=>exact .mk b o cap xs h1 (h2.fr f)
theorem qN{s:Bool}{p q:Value}(hp: ∃a l c,p= .slice a l c)(hq: ∃a l c,q= .slice a l c):noU [.bool s,p,q]=true:=by obtain⟨a,l,c,rfl⟩:=hp;obtain⟨a',l',c',rfl⟩:=hq;rfl
def KM(f:FuncId)(args:List Value)(H:AH)(r:Bool×Nat×Nat):Prop:= ∃p q H',ZY Tryz.prog Zw f args H=some (.tuple #[.agg #[.bool r.1,p,q],.int .i64 0],H')/\Zh H H'/\Sl H' p (ds Zd r.2.1)/\Sl H' q (ds Zd r.2.2)
section
variable {H : AH} {u v w z : Value}
theorem fp{f:FuncId}{b lb cap:Nat}{p q r p' q' r':Value}{R:Bool×Nat×Nat}(hb:H.blk b= .rw 1 [fv f])(M1:b<H.n)(hl:H.blk lb= .rw 3 [p,q,r,p',q',r'])(Ju:lb<H.n)(hf: ∀G,Zh H G->KM f [.agg #[p,q,r],.agg #[p',q',r']] G R):KM 105 [.slice (some ⟨lb,0,none⟩) 2 cap,.pointer (some ⟨b,0,none⟩)] H R:=by
 suffices h:CW Tryz.prog Zw 105 [.slice (some ⟨lb,0,none⟩) 2 cap,.pointer (some ⟨b,0,none⟩)] H fun v H'=> ∃p q,v= .tuple #[.agg #[.bool R.1,p,q],.int .i64 0]/\Zh H H'/\Sl H' p (ds Zd R.2.1)/\Sl H' q (ds Zd R.2.2) by obtain⟨v,H',hc,p,q,rfl,k⟩:=h;exact⟨p,q,H',hc,k⟩
 obtain⟨H2,e2,k2,n2,q1⟩:=XI H [.bool false,.slice none 0 0,.slice none 0 0];have Zp:=(k2.blk _ M1).trans hb;have C6:=(k2.blk _ Ju).trans hl;have K:=k2;have rF:=Zp;have mU:=C6;obtain⟨g1,g2,Cs,S5,Xj,o1,o2⟩:=hf H2.top K.top;obtain⟨Ko,X8,Wy,Bw⟩:=cg Xj;have XQ:=Wy;have Nt:=XQ.n;have K:=K.trans Wy;obtain⟨S,N,E⟩:=R;simp only at S5 o1 o2⊢;replace o1:=o1.same (Yo Xj);replace o2:=o2.same (Yo Xj);rw[<-X8]at o1 o2;replace q1:=XQ.q q1;have r1:=q1;obtain⟨Gs,U5,QO,U4,Ve,q1,Wl,UF⟩:=JG (x:=S) q1 (by omega) o1.one1 o2.one1;obtain⟨FI,UE⟩:=hid (low Ko Gs);rw[<-UE]at Ve q1 Wl UF;have K:=UF _ K (by omega);have fr:=Fr.put r1 q1 Ve Wl rfl rfl (qN o1.shape o2.shape);replace o1:=o1.fr fr;replace o2:=o2.fr fr;have YO:=YJ q1;refine Z8 15 Tryz.func105 ?_;apply Zb;intro b1 Ze;simp[Value.cells,Wp,Xm,e2];subst Ze;apply Zf;intro b1 Ze;apply YI (by kernel_rfl);simp;refine Xq (v:=fv f) (by simp[iK (H:=AH.top H2) rF]) ?_;simp[py (show 0<2 by decide)];refine Xq (v:= .agg #[p,q,r]) (by simp[AA (H:=AH.top H2) mU]) ?_;simp[wM (show 1<2 by decide)];refine Xq (v:= .agg #[p',q',r']) (by simp[na (H:=AH.top H2) mU]) ?_;simp[fv];refine Y4 (v:= .tuple #[.agg #[.bool S,g1,g2],.int .i64 0]) (Ww.nil H2.n) Xj X8 (by simp[S5]) fun Nr QH=>?_;simp;refine T0 (v:= .tuple #[]) QH QO U4 UE (by simp[U5]) ?_;simp;subst Ze;apply Zq;simp[YO];exact⟨_,_,⟨rfl,rfl⟩,K,o1,o2⟩
theorem fm{f:FuncId}{b lb cap m:Nat}{p q r:Value}{l:List Value}{R:Bool×Nat×Nat}(hb:H.blk b= .rw 1 [fv f])(M1:b<H.n)(hm:0<m)(hl:H.blk lb= .rw 3 (p::q::r::l))(Ju:lb<H.n)(hf: ∀G,Zh H G->KM f [.agg #[p,q,r]] G R):KM 107 [.slice (some ⟨lb,0,none⟩) m cap,.pointer (some ⟨b,0,none⟩)] H R:=by
 suffices h:CW Tryz.prog Zw 107 [.slice (some ⟨lb,0,none⟩) m cap,.pointer (some ⟨b,0,none⟩)] H fun v H'=> ∃p q,v= .tuple #[.agg #[.bool R.1,p,q],.int .i64 0]/\Zh H H'/\Sl H' p (ds Zd R.2.1)/\Sl H' q (ds Zd R.2.2) by obtain⟨v,H',hc,p,q,rfl,k⟩:=h;exact⟨p,q,H',hc,k⟩
 obtain⟨H2,e2,k2,n2,q1⟩:=XI H [.bool false,.slice none 0 0,.slice none 0 0];have Zp:=(k2.blk _ M1).trans hb;have C6:=(k2.blk _ Ju).trans hl;have K:=k2;have rF:=Zp;have mU:=C6;obtain⟨g1,g2,Cs,S5,Xj,o1,o2⟩:=hf H2.top K.top;obtain⟨Ko,X8,Wy,Bw⟩:=cg Xj;have XQ:=Wy;have Nt:=XQ.n;have K:=K.trans Wy;obtain⟨S,N,E⟩:=R;simp only at S5 o1 o2⊢;replace o1:=o1.same (Yo Xj);replace o2:=o2.same (Yo Xj);rw[<-X8]at o1 o2;replace q1:=XQ.q q1;have r1:=q1;obtain⟨Gs,U5,QO,U4,Ve,q1,Wl,UF⟩:=JG (x:=S) q1 (by omega) o1.one1 o2.one1;obtain⟨FI,UE⟩:=hid (low Ko Gs);rw[<-UE]at Ve q1 Wl UF;have K:=UF _ K (by omega);have fr:=Fr.put r1 q1 Ve Wl rfl rfl (qN o1.shape o2.shape);replace o1:=o1.fr fr;replace o2:=o2.fr fr;have YO:=YJ q1;refine Z8 12 Tryz.func107 ?_;apply Zb;intro b1 Ze;simp[Value.cells,Wp,Xm,e2];subst Ze;apply Zf;intro b1 Ze;apply YI (by kernel_rfl);simp;refine Xq (v:=fv f) (by simp[iL (H:=AH.top H2) rF]) ?_;simp[py hm];refine Xq (v:= .agg #[p,q,r]) (by simp[AA (H:=AH.top H2) mU]) ?_;simp[fv];refine Y4 (v:= .tuple #[.agg #[.bool S,g1,g2],.int .i64 0]) (Ww.nil H2.n) Xj X8 (by simp[S5]) fun Nr QH=>?_;simp;refine T0 (v:= .tuple #[]) QH QO U4 UE (by simp[U5]) ?_;simp;subst Ze;apply Zq;simp[YO];exact⟨_,_,⟨rfl,rfl⟩,K,o1,o2⟩
end
theorem Hk(n:Nat): ∃r,L7 n r:=by induction n with
 |zero=>exact⟨0,by decide,by decide⟩
 |succ n ih=>
  obtain⟨r,h1,h2⟩:=ih;by_cases h:n+1<(r+1)*(r+1);·exact⟨r,by omega,h⟩
  ·refine⟨r+1,by omega,?_⟩;have:(r+1+1)*(r+1+1)=(r+1)*(r+1)+2*r+3:=by grind
   omega
def rt(n:Nat):Nat:=Classical.choose (Hk n)
theorem DM(n:Nat):L7 n (rt n):=Classical.choose_spec (Hk n)
theorem rt_eq{n r:Nat}(h:L7 n r):r=rt n:=bn h (DM n)
def Vw(r:Bool×Nat×Nat):Option (Bool×Nat×Nat):=if r.1=true then none else if rt r.2.1*rt r.2.1=r.2.1/\rt r.2.2*rt r.2.2=r.2.2 then some (Ya false (rt r.2.1) (rt r.2.2))else none
def Zaa:Value:= .agg #[.bool false,.slice none 0 0,.slice none 0 0]
def Cu(n:Nat)(H:AH)(r:Option (Bool×Nat×Nat))(v:Value):Prop:=match r with|none=>v= .tuple #[Zaa,.bool false,.int .i64 0]|some R=> ∃p q,v= .tuple #[.agg #[.bool R.1,p,q],.bool true,.int .i64 0]/\Yl n H p (ds Zd R.2.1)/\Yl n H q (ds Zd R.2.2)
def Gr(v:Value):Prop:= ∀(S p q c d:Value),v= .tuple #[.agg #[S,p,q],c,d]->Wq p q
theorem NZ{c d:Value} :Gr (.tuple #[.agg #[.bool false,.slice none 0 0,.slice none 0 0],c,d]):=fun S p q c d e b hb=>by simp at e;obtain⟨⟨_,rfl,_⟩,_⟩:=e;cases hb
theorem cQ{S p q c d:Value}(h:Wq p q):Gr (.tuple #[.agg #[S,p,q],c,d]):=fun S' p' q' c' d' e=>by simp at e;obtain⟨⟨_,rfl,rfl⟩,_⟩:=e;exact h
theorem BM{s:Bool}{A B:Nat}(h:(Ya s A B).1=true):(Ya s A B).2.1≠0/\s=true:=by
 unfold Ya at h⊢;by_cases hA:A=0;·rw[if_pos hA]at h;cases h
 ·rw[if_neg hA]at h⊢;refine⟨?_,h⟩;have:=Nat.div_pos (Nat.le_of_dvd (by omega) (Nat.gcd_dvd_left A B)) (Nat.gcd_pos_of_pos_left B (Nat.pos_of_ne_zero hA));simp only;omega
theorem JD{s:Bool}{A B:Nat}(hB:0<B):(Ya s A B).2.1<=A/\(Ya s A B).2.2<=B:=by
 unfold Ya;split;·exact⟨Nat.zero_le _,hB⟩
 ·exact⟨Nat.div_le_self _ _,Nat.div_le_self _ _⟩
theorem Gz:WZ Tryz.prog 34 []=some (.agg #[.bool false,.slice none 0 0,.slice none 0 0]):=by kernel_rfl
theorem pJ{x:Nat} :Zc .gtr .i64 (x:Int) 0=some (.bool (decide (0<x))):=Vp (y:=0)
section
variable {H : AH} {u v w z : Value}
theorem GP(s:Bool){A B:Nat}{xs ys:List Nat}(ha:Sl H u xs)(hb:Sl H v ys)(dx:YD Zd xs)(dy:YD Zd ys)(lx:xs.length<=17592186044416)(ly:ys.length<=17592186044416)(eA:dv Zd xs=A)(eB:dv Zd ys=B)(lA:Zn A<=67108864)(lB:Zn B<=67108864)(hB:0<B): ∃x H',ZY Tryz.prog Zw 16 [.agg #[.bool s,u,v]] H=some (x,H')/\Zh H H'/\Cu H.n H' (Vw (Ya s A B)) x/\Gr x:=by
 suffices h:CW Tryz.prog Zw 16 [.agg #[.bool s,u,v]] H fun x H'=>Zh H H'/\Cu H.n H' (Vw (Ya s A B)) x/\Gr x from h;have hle:=JD (s:=s) (A:=A) hB;have PQ:=Ny (neg:=s) (n:=A) hB;have Pa:=BM (s:=s) (A:=A) (B:=B);obtain⟨H2,e2,k2,n2,q0,q1⟩:=Y7 H [.bool s,u,v] [.bool false,.slice none 0 0,.slice none 0 0];have f0:=q0;have K:=k2;obtain⟨g1,g2,H3,c3,k3,x1,x2⟩:=Q4 s (ha.keep K) (hb.keep K) dx dy lx ly eA eB lA lB hB;have n3:=k3.n;have K:=K.trans k3;replace q0:=k3.q q0;replace q1:=k3.q q1;obtain⟨R,hR⟩:=hid (Ya s A B);rw[<-hR]at c3 x1 x2 hle PQ Pa⊢;obtain⟨S,N,D⟩:=R;simp only at c3 x1 x2 hle PQ Pa;have lN:Zn N<=67108864:=Nat.le_trans (Z5 hle.1) lA;have lD:Zn D<=67108864:=Nat.le_trans (Z5 hle.2) lB;obtain⟨i1,i2,i3⟩:=x1.trio;obtain⟨j1,j2,j3⟩:=x2.trio;obtain⟨H4,W4,n4,q0,b4,VP⟩:=SH (p:= .bool S) (q:=g1) (r:=g2) q0 rfl i1 j1 rfl i2 j2;have K:=VP _ K (by omega);replace q1:=(b4 _ (by omega)).trans q1;replace x1:=x1.off (b:=H.n) (by first|omega|(show _<AH.n _;omega)) n4 b4;replace x2:=x2.off (b:=H.n) (by first|omega|(show _<AH.n _;omega)) n4 b4;have r0:=q0;obtain⟨H5,c5,k5⟩:=PH S x1.sl x2.sl lN lD PQ.2;have n5:=k5.n;have K:=K.trans k5;replace q0:=k5.q q0;replace q1:=k5.q q1;replace x1:=x1.m k5;replace x2:=x2.m k5;obtain⟨sg0,vX⟩:=hid (XU S N);rw[<-vX]at c5;have gs:Zc .lss .i64 sg0 0=some (.bool (decide (sg0<0))):=ON;have hsn:sg0<0↔S=true:=by
  rw[vX];unfold XU;constructor
  ·intro h;split at h;·omega
   ·split at h;·assumption
    ·omega
  ·intro h;rw[if_neg (Pa h).1,if_pos h];decide
 have z0:=q0;refine Z8 74 Tryz.func16 ?_;apply Zb;intro b1 Ze;simp[Value.cells,Wp,Xm,e2];subst Ze;apply Zb;intro b1 Ze;simp[YJ f0,c3,W4];subst Ze;apply Zf;intro b1 Ze;apply Zb;intro b2 Zp;simp[T7];subst Zp;refine Za (t:=false) (by simp) ?_;apply Zl;subst Ze;apply Zf;intro b1 Ze;apply Zb;intro b2 Zp;simp[YJ r0,c5];subst Zp;apply Zb;intro b2 Zp;simp[gs];subst Zp;by_cases hS:S=true;·refine Za (t:=true) (by simp[hsn.mpr hS]) ?_;obtain⟨H6,WU,n6,q1,b6,Vg⟩:=SH (p:= .bool false) (q:= .slice none 0 0) (r:= .slice none 0 0) q1 rfl rfl rfl rfl rfl rfl;have K:=Vg _ K (by omega);replace q0:=(b6 _ (by omega)).trans q0;replace x1:=x1.off (b:=H.n+1) (by first|omega|(show _<AH.n _;omega)) n6 b6;replace x2:=x2.off (b:=H.n+1) (by first|omega|(show _<AH.n _;omega)) n6 b6;have YO:=YJ q1;apply Zb;intro b2 Zp;simp[Gz,WU];subst Zp;apply Zq;simp[Ys,YO];refine⟨K,?_,NZ⟩;unfold Vw;rw[if_pos hS];rfl
 ·have: ¬sg0<0:=fun h=>hS (hsn.mp h);refine Za (t:=false) (by simp[this]) ?_;apply Zl;subst Ze;obtain⟨a1,b1',H6,c6,k6,rn,hrn,ox,y1⟩:=Gg x1.sl (Yu Z9 _) (Nat.le_trans (Zx lN) (by decide)) (by rw[YP Z9];exact lN);have n6:=k6.n;have K:=K.trans k6;replace q0:=k6.q q0;replace q1:=k6.q q1;replace x2:=x2.m k6;rw[YP Z9]at hrn y1;have v0:=q0;have sO:=rt_eq hrn;obtain⟨a2,b2',H7,c7,k7,rd,hrd,oy,y2⟩:=Gg x2.sl (Yu Z9 _) (Nat.le_trans (Zx lD) (by decide)) (by rw[YP Z9];exact lD);have n7:=k7.n;have K:=K.trans k7;replace q1:=k7.q q1;rw[YP Z9]at hrd y2;have sQ:=rt_eq hrd;replace y1:=y1.keep k7;replace ox:=ox.m k7;have l1:=y1.len Zv;have l2:=y2.len Zv;obtain⟨m1,mT⟩:=hid ((ds Zd (N-rn*rn)).length);obtain⟨m2,bg⟩:=hid ((ds Zd (D-rd*rd)).length);rw[<-mT]at l1;rw[<-bg]at l2;have z1:0<m1↔ ¬rn*rn=N:=by rw[mT,Vn Z9];have:=hrn.1;omega
  have z2:0<m2↔ ¬rd*rd=D:=by rw[bg,Vn Z9];have:=hrd.1;omega
  have j9:Zc .gtr .i64 (m1:Int) 0=some (.bool (decide (¬rn*rn=N))):=by rw[pJ,decide_eq_decide.mpr z1]
  have pL:Zc .gtr .i64 (m2:Int) 0=some (.bool (decide (¬rd*rd=D))):=by rw[pJ,decide_eq_decide.mpr z2]
  apply Zb;intro b1 Ze;simp[SP,Tk,VW z0,c6];subst Ze;apply Zb;intro b1 Ze;simp[Ox,VL v0,c7];subst Ze;apply Zf;intro b1 Ze;apply Zb;intro b2 Zp;simp[T7];subst Zp;refine Za (t:=false) (by simp) ?_;apply Zl;subst Ze;apply Zf;intro b1 Ze;apply Zf;intro b2 Zp;by_cases qo:rn*rn=N/\rd*rd=D
  ·rw[decide_eq_false (fun h=>h qo.1)]at j9;rw[decide_eq_false (fun h=>h qo.2)]at pL;apply Zg;simp[l1,j9,l2,pL];subst Zp;refine Za (t:=false) (by simp) ?_;apply Zl;subst Ze;have hrN:Zn rn<=67108864:=Nat.le_trans (Z5 (Nat.le_trans (Nat.le_mul_self rn) hrn.1)) lN;have hrD:Zn rd<=67108864:=Nat.le_trans (Z5 (Nat.le_trans (Nat.le_mul_self rd) hrd.1)) lD;have hrd0:0<rd:=by
    rcases Nat.eq_zero_or_pos rd with h|h;·have:=qo.2;rw[h]at this;have:=PQ.2;omega
    ·exact h
   obtain⟨p1,p2,H8,c8,k8,w1,w2,ap8⟩:=Kk false false ox.sl oy.sl hrN hrD hrd0;have n8:=k8.n;have K:=K.trans k8;replace q1:=k8.q q1;replace c8:ZY Tryz.prog Zw 56 [.agg #[.bool false,a1],.agg #[.bool false,a2]] H7=some (.tuple #[.agg #[.bool (Ya false rn rd).1,p1,p2],.int .i64 0],H8):=c8;replace w1:Yl H7.n H8 p1 (ds Zd (Ya false rn rd).2.1):=w1;replace w2:Yl H7.n H8 p2 (ds Zd (Ya false rn rd).2.2):=w2;have C9:Vw (S,N,D)=some (Ya false rn rd):=by unfold Vw;rw[if_neg hS,if_pos (by simp only;rw[<-sO,<-sQ];exact qo)];simp only;rw[<-sO,<-sQ]
   rw[C9];obtain⟨Q,hQ⟩:=hid (Ya false rn rd);rw[<-hQ]at c8 w1 w2⊢;obtain⟨S',N',D'⟩:=Q;simp only at c8 w1 w2;have w1s:=w1.shape;have w2s:=w2.shape;obtain⟨i1',i2',i3'⟩:=w1.trio;obtain⟨j1',vQ,j3'⟩:=w2.trio;obtain⟨H9,jW,k9,q9,n9⟩:=Xe (H:=H8) (sz:=1) (zs:=[.bool false,.slice none 0 0,.slice none 0 0]) VT rfl (v:= .agg #[.bool S',p1,p2]) (ws:=[.bool S',p1,p2]) rfl rfl (by simp[i2',vQ,show one (Value.bool S')=true from rfl]);have K:=K.trans k9;replace q1:=k9.q q1;replace w1:=w1.m k9;replace w2:=w2.m k9;have z9:=q9;obtain⟨Ry,uj,tV,q1,pZ,tf⟩:=SH (p:= .bool S') (q:=p1) (r:=p2) q1 rfl i1' j1' rfl i2' vQ;have K:=tf _ K (by omega);replace w1:=w1.off (b:=H.n+1) (by first|omega|(show _<AH.n _;omega)) tV pZ;replace w2:=w2.off (b:=H.n+1) (by first|omega|(show _<AH.n _;omega)) tV pZ;have YO:=YJ q1;apply Zb;intro b1 Ze;simp[P6 ox.shape,P6 oy.shape,c8,Wp,Value.cells,jW];subst Ze;apply Zb;intro b1 Ze;simp[YJ z9,uj,show Zc .eql .i64 0 0=some (.bool true)from rfl];subst Ze;apply Zq;simp[YO];exact⟨K,⟨p1,p2,rfl,w1.mono (by omega) (.refl _),w2.mono (by omega) (.refl _)⟩,cQ ap8⟩
  ·have C9:Vw (S,N,D)=none:=by unfold Vw;rw[if_neg hS,if_neg (by simp only;rw[<-sO,<-sQ];exact qo)]
   rw[C9];obtain⟨H8,KQ,n8,q1,b8,bq⟩:=SH (p:= .bool false) (q:= .slice none 0 0) (r:= .slice none 0 0) q1 rfl rfl rfl rfl rfl rfl;have K:=bq _ K (by omega);have YO:=YJ q1;by_cases kp:rn*rn=N;·have hq2: ¬rd*rd=D:=fun h=>qo ⟨kp,h⟩;rw[decide_eq_false (fun h=>h kp)]at j9;rw[decide_eq_true hq2]at pL;apply Zg;simp[l1,j9,l2,pL];subst Zp;refine Za (t:=true) (by simp) ?_;apply Zb;intro b2 Zp;simp[Gz,KQ];subst Zp;apply Zq;simp[Ys,YO];exact⟨K,rfl,NZ⟩
   ·rw[decide_eq_true kp]at j9;apply Zg;simp[l1,j9];subst Zp;refine Za (t:=true) (by simp) ?_;apply Zb;intro b2 Zp;simp[Gz,KQ];subst Zp;apply Zq;simp[Ys,YO];exact⟨K,rfl,NZ⟩
theorem Em(s:Bool){A B:Nat}(ha:Sl H u (ds Zd A))(hb:Sl H v (ds Zd B))(lA:Zn A<=67108864)(lB:Zn B<=67108864)(hB:0<B): ∃x H',ZY Tryz.prog Zw 16 [.agg #[.bool s,u,v]] H=some (x,H')/\Zh H H'/\Cu H.n H' (Vw (Ya s A B)) x:=by obtain⟨x,H',h1,h2,h3,_⟩:=GP s ha hb (Yu Z9 A) (Yu Z9 B) (Nat.le_trans (Zx lA) (by decide)) (Nat.le_trans (Zx lB) (by decide)) (YP Z9 A) (YP Z9 B) lA lB hB;exact⟨x,H',h1,h2,h3⟩
end
def Uw(sz:Nat)(H:AH)(v:Value)(css:List (List Value)):Prop:=(v= .slice none 0 0/\css=[])\/ ∃b,v= .slice (some ⟨b,0,none⟩) css.length css.length/\b<H.n/\H.blk b= .rw sz css.flatten/\ ∀cs∈css,cs.length=sz
theorem TW{sz:Nat} : ∀{css:List (List Value)},(∀cs∈css,cs.length=sz)->css.flatten.length=css.length*sz|[],_=>by simp|c::css,h=>by rw[List.flatten_cons,List.length_append,TW (fun x hx=>h x (List.mem_cons_of_mem _ hx)),h c (List.mem_cons_self ..),List.length_cons,Nat.succ_mul];omega
theorem Np{sz:Nat} : ∀{css:List (List Value)}{i:Nat}{cs:List Value},(∀cs∈css,cs.length=sz)->css[i]?=some cs->(css.flatten.drop (i*sz)).take sz=cs|[],i,cs,_,hi=>by simp at hi|c::css,0,cs,h,hi=>by simp at hi;subst hi;rw[Nat.zero_mul,List.drop_zero,List.flatten_cons,List.take_append_of_le_length (by rw[h c (List.mem_cons_self ..)];exact Nat.le_refl _),List.take_of_length_le (by rw[h c (List.mem_cons_self ..)];exact Nat.le_refl _)]|c::css,i+1,cs,h,hi=>by simp at hi;have hc:c.length=sz:=h c (List.mem_cons_self ..);rw[List.flatten_cons,show(i+1)*sz=c.length+i*sz by rw[Nat.succ_mul,hc];omega,<-List.drop_drop,List.drop_left];exact Np (fun x hx=>h x (List.mem_cons_of_mem _ hx)) hi
section
variable {sz : Nat} {H H' : AH} {v : Value} {css : List (List Value)}
theorem Uw.nil:Uw sz H (.slice none 0 0) []:= .inl ⟨rfl,rfl⟩
theorem Uw.shape(h:Uw sz H v css): ∃a l c,v= .slice a l c:=by rcases h with⟨rfl,_⟩|⟨b,rfl,_⟩<;>exact⟨_,_,_,rfl⟩
theorem Uw.one1(h:Uw sz H v css):one v=true:=by rcases h with⟨rfl,_⟩|⟨b,rfl,_⟩<;>rfl
theorem Uw.blk_lt(h:Uw sz H v css){b:Nat}(hb:YQ v=some b):b<H.n/\H.blk b= .rw sz css.flatten:=by
 rcases h with⟨rfl,_⟩|⟨b',rfl,h1,h2,_⟩;·cases hb
 ·cases hb;exact⟨h1,h2⟩
theorem Uw.frame(h:Uw sz H v css)(hn:H.n<=H'.n)(k: ∀b,YQ v=some b->H'.blk b=H.blk b):Uw sz H' v css:=by
 rcases h with h|⟨b,h1,h2,h3,h4⟩;·exact .inl h
 ·exact .inr ⟨b,h1,by omega,by rw[k b (by rw[h1];rfl)];exact h3,h4⟩
theorem Uw.keep(h:Uw sz H v css)(k:Zh H H'):Uw sz H' v css:=h.frame k.n fun b hb=>k.blk b (h.blk_lt hb).1
theorem Uw.len(h:Uw sz H v css){t e:TypeId}(ht:Tryz.prog.underlying t=some (.slice e)):SL Tryz.prog t v=some css.length:=by unfold SL;rw[ht];rcases h with⟨rfl,rfl⟩|⟨b,rfl,_⟩<;>rfl
theorem Uw.at(h:Uw sz H v css){i:Nat}{cs:List Value}(hi:css[i]?=some cs){t e:TypeId}(ht:Tryz.prog.underlying t=some (.slice e))(he:Xn Tryz.prog e=some sz)(hz:sz≠0): ∃b,YQ v=some b/\ZC Tryz.prog t v (.int .i64 (i:Int))=some (.pointer (some ⟨b,i*sz,none⟩))/\b<H.n/\H.blk b= .rw sz css.flatten/\cs.length=sz/\(css.flatten.drop (i*sz)).take sz=cs:=by
 have YR:i<css.length:=(List.getElem?_eq_some_iff.mp hi).1;rcases h with⟨rfl,rfl⟩|⟨b,rfl,h2,h3,h4⟩;·simp at hi
 ·refine⟨b,rfl,?_,h2,h3,h4 cs (List.mem_of_getElem? hi),Np h4 hi⟩;unfold ZC;simp only[ht,he];rw[if_pos (by omega)];simp
theorem XG{b o s2:Nat}{cs vs:List Value}(hb:H.blk b= .rw s2 cs)(hz:s2≠0)(hk:(cs.drop o).take sz=vs)(hl:vs.length=sz){e:TypeId}(ha:XR Tryz.prog e=some true)(he:Xn Tryz.prog e=some sz)(zc:0<sz:=by decide):Z7 Tryz.prog H e (.pointer (some ⟨b,o,none⟩))=some (.agg vs.toArray):=by
 unfold Z7;simp only[ha,he,AH.read_def,AH.cells_rw' hb hz];have:o+sz<=cs.length:=by have:=congrArg List.length hk;rw[List.length_take,List.length_drop,hl]at this;omega
 rw[Nat.ble_eq.mpr this,cond_true,hk]
theorem Uw.append(h:Uw sz H v css)(hz:sz≠0){w:Nat}{us:List Value}(hw:H.blk w= .rw sz us)(hu:us.length=sz)(huo:us.all one=true){t e:TypeId}{Ls:Nat}(hs:WK Tryz.prog t=some (e,sz,Ls))(Ky:Ls<=1000){z:Value}(sA:Vd Tryz.prog e=some z)(im:z.cells.size=sz)(hl:css.length<1000000000): ∃H',Xr Tryz.prog H t t v (.slice (some ⟨w,0,none⟩) 1 1)=some (.slice (some ⟨H.n,0,none⟩) (css.length+1) (css.length+1),H')/\H'.n=H.n+1/\(∀j,j<H.n->YQ v≠some j->H'.blk j=H.blk j)/\Uw sz H' (.slice (some ⟨H.n,0,none⟩) (css.length+1) (css.length+1)) (css++[us])/\(YQ v=none->Zh H H'/\H'.lw=H.lw)/\(∀b,YQ v=some b->UL b H H'/\H'.lw<=b/\b<H.n):=by
 have hc:H.read w 0 sz=some us:=by rw[AH.read_def,AH.cells_rw' hw hz];simp only[Nat.zero_add];rw[Nat.ble_eq.mpr (by omega),cond_true,List.drop_zero,List.take_of_length_le (by omega)]
 have hmul:(css.length+1)*Ls<=140737488355328:=by have:(css.length+1)*Ls<=1000000000*1000:=Nat.mul_le_mul (by omega) Ky;omega
 have e1:Nat.ble ((css.length+1)*Ls) 140737488355328=true:=Nat.ble_eq.mpr hmul;have e2:Nat.ble (css.length+1) 281474976710656=true:=Nat.ble_eq.mpr (by omega);have e0:Nat.beq z.cells.size sz=true:=by rw[im];exact Nat.beq_refl _
 rcases h with⟨rfl,rfl⟩|⟨b,rfl,Zp,ZH,Yt⟩;·refine⟨H.new sz us,?_,rfl,fun j hj _=>by rw[AH.blk_new,if_neg (by omega)],.inr ⟨H.n,rfl,Nat.lt_succ_self _,by rw[AH.blk_new,if_pos rfl];simp,fun cs UN=>by simp at UN;rw[UN];exact hu⟩,fun _=>⟨Zh.new H sz us,rfl⟩,fun b hb=>by cases hb⟩;unfold Xr;simp only[List.length_nil,Nat.zero_add]at e1 e2⊢;simp only[hs,sA,XM,Nat.one_mul,hc,e1,e2,e0];rfl
 ·have eH:(H.kill b).n=H.n:=rfl;have GG:=TW Yt;have e3:Nat.ble (0+css.length*sz) css.flatten.length=true:=Nat.ble_eq.mpr (by omega);have HL: ∀j,j<H.n->j≠b->((H.kill b).new sz (css.flatten++us)).blk j=H.blk j:=fun j hj C5=>by rw[AH.blk_new,if_neg (by rw[eH];omega),AH.blk_kill,if_neg C5]
  refine⟨(H.kill b).new sz (css.flatten++us),?_,rfl,fun j hj C5=>HL j hj (fun e=>C5 (by rw[e];rfl)),.inr ⟨H.n,by simp,Nat.lt_succ_self _,by rw[AH.blk_new,if_pos eH.symm];simp,fun cs UN=>?_⟩,(fun h=>by cases h),(fun b' WV=>by cases WV;exact⟨Fa (Nat.le_refl _),Nat.min_le_right _ _,Zp⟩)⟩;·unfold Xr;simp only[hs,sA,XM,Nat.one_mul,hc,ZH,e1,e2,e3,e0,huo,Nat.beq_refl,Bool.and_true,cond_true];rw[show Nat.beq 1 0=false from rfl,cond_false];rw[List.drop_zero,List.take_of_length_le (by omega)]
  ·rcases List.mem_append.mp UN with h|h;·exact Yt cs h
   ·simp at h;rw[h];exact hu
end
inductive FD where|opn|und|rat(s:Bool)(A B:Nat)
def FD.mk(r:Bool×Nat×Nat):FD:= .rat r.1 r.2.1 r.2.2
def FD.isUnd:FD->Bool| .und=>true|_=>false
def FD.isRat:FD->Bool| .rat _ _ _=>true|_=>false
def FD.w:FD->Nat| .rat _ A B=>max (Zn A) (Zn B)+1|_=>1
def FD.ok:FD->Prop| .rat s A B=>VZ s A B|_=>True
def Xx(op:Int)(s:Bool)(A B:Nat):FD:=if op=2 then .rat (sg (!s) A) A B else if op=7 then .rat false A B else if op=10 then(if XU s A= -1 then .und else match Vw (s,A,B)with|some R=> .mk R|none=> .opn)else if op=12 then(if XU s A= -1\/XU s A=0 then .und else if Tj s A B false 1 1=0 then .rat false 0 1 else .opn)else if op=11\/op=14 then(if A=0 then .rat false 1 1 else .opn)else if op=13\/op=15 then(if A=0 then .rat false 0 1 else .opn)else .opn
def Vl(op:Int)(s:Bool)(A B:Nat)(t:Bool)(C D:Nat):FD:=if op=3 then .mk (U6 s A B t C D)else if op=4 then .mk (U6 s A B (sg (!t) C) C D)else if op=5 then .mk (Ya (s !=t) (A*C) (B*D))else if op=6 then(if C=0 then .und else .mk (Ya (s !=t) (A*D) (B*C)))else if op=8 then(if 0<Tj s A B t C D then .rat t C D else .rat s A B)else if op=9 then(if Tj s A B t C D<0 then .rat t C D else .rat s A B)else .opn
def FD.isZero:FD->Bool| .rat _ C _=>decide (C=0)|_=>false
def Xc(op:Int)(neg:Bool)(N D:Nat)(fs:List FD):FD:=if op=0 then .mk (Ya neg N D)else match fs with|[.rat s A B]=>Xx op s A B|[.rat s A B,.rat t C D]=>Vl op s A B t C D|[_,g]=>if op=6/\g.isZero=true then .und else .opn|_=> .opn
theorem Wn(A B:Nat):Zn (A*B)<=Zn A+Zn B:=by refine Vx ?_;rw[Nat.pow_add];exact Nat.mul_lt_mul'' (WG A) (WG B)
theorem Qe(A B:Nat):Zn (A+B)<=max (Zn A) (Zn B)+1:=by refine Vx ?_;have h1:=Nat.lt_of_lt_of_le (WG A) (Nat.pow_le_pow_right (by decide:0<2) (Nat.le_max_left (Zn A) (Zn B)));have h2:=Nat.lt_of_lt_of_le (WG B) (Nat.pow_le_pow_right (by decide:0<2) (Nat.le_max_right (Zn A) (Zn B)));rw[Nat.pow_succ];omega
theorem aY{n:Nat}(h:0<n):1<=Zn n:=by
 rcases Nat.eq_zero_or_pos (Zn n)with h0|h0;·have:=Th.mp h0;omega
 ·exact h0
theorem VZ.num{s:Bool}{A B:Nat}(h:VZ s A B):(Ya s A B).1=s/\(Ya s A B).2.1=A/\(Ya s A B).2.2=B:=by rw[h.1];exact⟨rfl,rfl,rfl⟩
theorem VZ.sign{s:Bool}{A B:Nat}(h:VZ s A B):XU s A= -1↔s=true:=by
 unfold XU;constructor
 ·intro e;split at e;·cases e
  ·split at e;·assumption
   ·cases e
 ·intro e;have:A≠0:=fun h0=>by have:=(h.zero h0).1;rw[this]at e;cases e
  rw[if_neg this,if_pos e]
theorem VZ.abs{s:Bool}{A B:Nat}(h:VZ s A B):VZ false A B:=by
 by_cases hA:A=0;·have:=h.zero hA;rw[hA,this.2];exact TX
 ·exact JQ hA h.2 h.cop
theorem XA{s:Bool}{A:Nat} :XU s A=0↔A=0:=by
 unfold XU;constructor
 ·intro e;split at e;·assumption
  ·split at e<;>cases e
 ·intro e;rw[if_pos e]
theorem iE{neg:Bool}{n d:Nat}(hd:0<d){k:Nat}(h1:Zn n+1<=k)(h2:Zn d+1<=k):(FD.mk (Ya neg n d)).w<=k/\(FD.mk (Ya neg n d)).ok:=by have hl:=JD (s:=neg) (A:=n) hd;refine⟨?_,Ny hd⟩;show max (Zn (Ya neg n d).2.1) (Zn (Ya neg n d).2.2)+1<=k;have:=Z5 hl.1;have:=Z5 hl.2;omega
theorem Mq{op:Int}{s:Bool}{A B:Nat}(h:VZ s A B):(Xx op s A B).ok/\(Xx op s A B).w<=(FD.rat s A B).w:=by
 have hB:=aY h.2;have b1:Zn 1=1:=by decide
 have b0:Zn 0=0:=by decide
 have w1:(FD.rat false 1 1).w<=(FD.rat s A B).w:=by show max (Zn 1) (Zn 1)+1<=max (Zn A) (Zn B)+1;omega
 have w0:(FD.rat false 0 1).w<=(FD.rat s A B).w:=by show max (Zn 0) (Zn 1)+1<=max (Zn A) (Zn B)+1;omega
 have wo:FD.opn.w<=(FD.rat s A B).w:=by show 1<=max (Zn A) (Zn B)+1;omega
 have wu:FD.und.w<=(FD.rat s A B).w:=wo;unfold Xx;split;·exact⟨h.neg,Nat.le_refl _⟩
 split;·exact⟨h.abs,Nat.le_refl _⟩
 split
 ·split;·exact⟨trivial,wu⟩
  ·unfold Vw;split
   ·rename_i R hR;split at hR;·cases hR
    ·split at hR
     ·cases hR;rename_i qo;have mY:0<rt B:=by
       rcases Nat.eq_zero_or_pos (rt B)with h0|h0;·have:=qo.2;rw[h0]at this;have:=h.2;simp only at*;omega
       ·exact h0
      have k1:=Z5 (Nat.le_trans (Nat.le_mul_self _) (DM A).1);have k2:=Z5 (Nat.le_trans (Nat.le_mul_self _) (DM B).1);have:=iE (neg:=false) (n:=rt A) mY (k:=(FD.rat s A B).w) (by show _<=max (Zn A) (Zn B)+1;omega) (by show _<=max (Zn A) (Zn B)+1;omega);exact⟨this.2,this.1⟩
     ·cases hR
   ·exact⟨trivial,wo⟩
 split
 ·split;·exact⟨trivial,wu⟩
  ·split;·exact⟨TX,w0⟩
   ·exact⟨trivial,wo⟩
 split
 ·split;·exact⟨Fi,w1⟩
  ·exact⟨trivial,wo⟩
 split
 ·split;·exact⟨TX,w0⟩
  ·exact⟨trivial,wo⟩
 ·exact⟨trivial,wo⟩
theorem UW{A B C D:Nat}{s t:Bool}{k:Nat}(h:(FD.rat s A B).w+(FD.rat t C D).w<=k):Zn (A*D+C*B)+1<=k/\Zn (B*D)+1<=k/\Zn (A*C)+1<=k/\Zn (A*D)+1<=k/\Zn (B*C)+1<=k/\Zn A+1<=k/\Zn B+1<=k/\Zn C+1<=k/\Zn D+1<=k:=by have h:max (Zn A) (Zn B)+1+(max (Zn C) (Zn D)+1)<=k:=h;have e1:=Wn A D;have e2:=Wn C B;have e3:=Wn B D;have e4:=Wn A C;have e5:=Wn B C;have e6:=Qe (A*D) (C*B);omega
theorem eW{A B C D:Nat}{s t:Bool}(hB:0<B)(hD:0<D){k:Nat}(h1:Zn (A*D+C*B)+1<=k)(h2:Zn (B*D)+1<=k):(FD.mk (U6 s A B t C D)).w<=k/\(FD.mk (U6 s A B t C D)).ok:=by unfold U6;have:=Z5 (ai s t (A*D) (C*B));exact iE (Nat.mul_pos hB hD) (by omega) h2
theorem TR{op:Int}{s t:Bool}{A B C D:Nat}(h:VZ s A B)(h':VZ t C D):(Vl op s A B t C D).ok/\(Vl op s A B t C D).w<=(FD.rat s A B).w+(FD.rat t C D).w:=by
 obtain⟨k1,k2,k3,k4,k5,_,_,_,_⟩:=UW (s:=s) (t:=t) (A:=A) (B:=B) (C:=C) (D:=D) (Nat.le_refl _);have wo:1<=(FD.rat s A B).w+(FD.rat t C D).w:=by show 1<=max (Zn A) (Zn B)+1+_;omega
 unfold Vl;split;·exact(eW h.2 h'.2 k1 k2).symm
 split;·exact(eW h.2 h'.2 k1 k2).symm
 split;·exact(iE (Nat.mul_pos h.2 h'.2) k3 k2).symm
 split
 ·split;·exact⟨trivial,wo⟩
  ·rename_i hC;exact(iE (Nat.mul_pos h.2 (Nat.pos_of_ne_zero hC)) k4 k5).symm
 split
 ·split;·exact⟨h',Nat.le_add_left _ _⟩
  ·exact⟨h,Nat.le_add_right _ _⟩
 split
 ·split;·exact⟨h',Nat.le_add_left _ _⟩
  ·exact⟨h,Nat.le_add_right _ _⟩
 ·exact⟨trivial,wo⟩
section
variable {H : AH} {u v w z : Value}
theorem Ht{op:Int}{f:FuncId}(hw:TA op=some (false,f)){s:Bool}{A B:Nat}(ha:Sl H u (ds Zd A))(hb:Sl H v (ds Zd B))(la:VZ s A B)(hk:(FD.rat s A B).w<=67108864): ∃R,Xx op s A B= .mk R/\KM f [.agg #[.bool s,u,v]] H R:=by
 have hk:max (Zn A) (Zn B)+1<=67108864:=hk;unfold TA at hw;unfold Xx;split at hw;·cases hw;rename_i h;rw[if_pos h];obtain⟨p,q,H',c,k,o1,o2⟩:=OH s ha hb (by omega) (by omega) la.2;rw[la.num.2.1]at o1;rw[la.num.2.2]at o2;rw[la.num.1,la.num.2.1]at c;exact⟨(sg (!s) A,A,B),rfl,p,q,H',c,k,o1.sl,o2.sl⟩
 ·rename_i h;rw[if_neg h];split at hw;·cases hw;rename_i h;rw[if_pos h];obtain⟨p,q,H',c,k,o1,o2⟩:=IV s ha hb (by omega) (by omega) la.2;rw[la.num.2.1]at o1;rw[la.num.2.2]at o2;exact⟨(false,A,B),rfl,p,q,H',c,k,o1.sl,o2.sl⟩
  ·repeat(first|(split at hw;·cases hw)|(cases hw;done))
theorem Hu{op:Int}{f:FuncId}(hw:TA op=some (true,f)){s t:Bool}{A B C D:Nat}(ha:Sl H u (ds Zd A))(hb:Sl H v (ds Zd B))(hc:Sl H w (ds Zd C))(hd:Sl H z (ds Zd D))(la:VZ s A B)(lc:VZ t C D)(h6:op=6->C≠0)(hk:(FD.rat s A B).w+(FD.rat t C D).w<=67108864): ∃R,Vl op s A B t C D= .mk R/\KM f [.agg #[.bool s,u,v],.agg #[.bool t,w,z]] H R:=by
 obtain⟨k1,k2,k3,k4,k5,k6,k7,k8,k9⟩:=UW hk;unfold TA at hw;unfold Vl;split at hw;·cases hw
 split at hw;·cases hw
 split at hw;·cases hw;rename_i h;rw[if_pos h];obtain⟨p,q,H',c,k,o1,o2⟩:=OJ ha hb hc hd (by omega) (by omega) (by omega) (by omega) la lc (by omega) (by omega);exact⟨_,rfl,p,q,H',c,k,o1.sl,o2.sl⟩
 rename_i h3;rw[if_neg h3];split at hw;·cases hw;rename_i h;rw[if_pos h];obtain⟨p,q,H',c,k,o1,o2⟩:=IQ ha hb hc hd (by omega) (by omega) (by omega) (by omega) la lc (by omega) (by omega);exact⟨_,rfl,p,q,H',c,k,o1.sl,o2.sl⟩
 rename_i h4;rw[if_neg h4];split at hw;·cases hw;rename_i h;rw[if_pos h];obtain⟨p,q,H',c,k,o1,o2⟩:=OI ha hb hc hd (by omega) (by omega) (by omega) (by omega) la lc (by omega) (by omega);exact⟨_,rfl,p,q,H',c,k,o1.sl,o2.sl⟩
 rename_i h5;rw[if_neg h5];split at hw;·cases hw;rename_i h;rw[if_pos h,if_neg (h6 h)];obtain⟨p,q,H',c,k,o1,o2⟩:=IU ha hb hc hd (by omega) (by omega) (by omega) (by omega) la lc (Nat.pos_of_ne_zero (h6 h)) (by omega) (by omega);exact⟨_,rfl,p,q,H',c,k,o1.sl,o2.sl⟩
 rename_i rK;rw[if_neg rK];split at hw
 ·cases hw;rename_i h;rw[if_pos h];obtain⟨H',c,k⟩:=E6 s t ha hb hc hd (by omega) (by omega) (by omega) (by omega) la.2 lc.2;by_cases hm:0<Tj s A B t C D;·rw[if_pos hm]at c⊢;exact⟨(t,C,D),rfl,w,z,H',c,k,hc.keep k,hd.keep k⟩
  ·rw[if_neg hm]at c⊢;exact⟨(s,A,B),rfl,u,v,H',c,k,ha.keep k,hb.keep k⟩
 rename_i h8;rw[if_neg h8];split at hw
 ·cases hw;rename_i h;rw[if_pos h];obtain⟨H',c,k⟩:=GL s t ha hb hc hd (by omega) (by omega) (by omega) (by omega) la.2 lc.2;by_cases hm:Tj s A B t C D<0;·rw[if_pos hm]at c⊢;exact⟨(t,C,D),rfl,w,z,H',c,k,hc.keep k,hd.keep k⟩
  ·rw[if_neg hm]at c⊢;exact⟨(s,A,B),rfl,u,v,H',c,k,ha.keep k,hb.keep k⟩
 cases hw
end
def Ub(H:AH)(vs:List Value):FD->Prop| .opn=>vs=[.int .i64 0,.bool false,.slice none 0 0,.slice none 0 0]| .und=>vs=[.int .i64 2,.bool false,.slice none 0 0,.slice none 0 0]| .rat s A B=> ∃p q,vs=[.int .i64 1,.bool s,p,q]/\Sl H p (ds Zd A)/\Sl H q (ds Zd B)/\VZ s A B
def TO(H:AH):List (List Value)->List FD->Prop|[],[]=>True|c::cs,f::fs=>Ub H c f/\TO H cs fs|_,_=>False
section
variable {H H' : AH} {vs : List Value} {f : FD}
def FD.kind:FD->Int| .opn=>0| .und=>2| .rat _ _ _=>1
theorem Ub.fr(h:Ub H vs f)(k:Fr H H'):Ub H' vs f:=by cases f with|opn=>exact h|und=>exact h|rat s A B=>obtain⟨p,q,e,h1,h2,h3⟩:=h;exact⟨p,q,e,h1.fr k,h2.fr k,h3⟩
theorem Ub.trio(h:Ub H vs f): ∃p q r,vs=[.int .i64 f.kind,p,q,r]/\Te p q r:=by cases f with|opn=>exact⟨_,_,_,h,⟨_,rfl⟩,⟨_,_,_,rfl⟩,⟨_,_,_,rfl⟩⟩|und=>exact⟨_,_,_,h,⟨_,rfl⟩,⟨_,_,_,rfl⟩,⟨_,_,_,rfl⟩⟩|rat s A B=>obtain⟨p,q,e,h1,h2,h3⟩:=h;exact⟨_,p,q,e,⟨_,rfl⟩,h1.shape,h2.shape⟩
theorem Ub.len(h:Ub H vs f):vs.length=4:=by obtain⟨p,q,r,rfl,_⟩:=h.trio;rfl
theorem Ub.ones(h:Ub H vs f):vs.all one=true:=by obtain⟨p,q,r,rfl,⟨s,rfl⟩,⟨a,l,c,rfl⟩,⟨a',l',c',rfl⟩⟩:=h.trio;rfl
theorem Ub.noU(h:Ub H vs f):noU vs=true:=by obtain⟨p,q,r,rfl,⟨s,rfl⟩,⟨a,l,c,rfl⟩,⟨a',l',c',rfl⟩⟩:=h.trio;rfl
theorem TO.fr(k:Fr H H'): ∀{css:List (List Value)}{fs:List FD},TO H css fs->TO H' css fs|[],[],_=>trivial|c::cs,f::fs,h=>⟨Ub.fr h.1 k,TO.fr k h.2⟩|[],_::_,h=>h.elim|_::_,[],h=>h.elim
theorem TO.append(h2:Ub H vs f): ∀{css:List (List Value)}{fs:List FD},TO H css fs->TO H (css++[vs]) (fs++[f])|[],[],_=>⟨h2,trivial⟩|c::cs,g::fs,h=>⟨h.1,TO.append h2 h.2⟩|[],_::_,h=>h.elim|_::_,[],h=>h.elim
theorem TO.len: ∀{css:List (List Value)}{fs:List FD},TO H css fs->css.length=fs.length|[],[],_=>rfl|c::cs,f::fs,h=>by rw[List.length_cons,List.length_cons,TO.len h.2]|[],_::_,h=>h.elim|_::_,[],h=>h.elim
theorem TO.at: ∀{css:List (List Value)}{fs:List FD}{i:Nat}{f:FD},TO H css fs->fs[i]?=some f-> ∃vs,css[i]?=some vs/\Ub H vs f|[],[],i,f,_,hi=>by simp at hi|c::cs,g::fs,0,f,h,hi=>by simp at hi;subst hi;exact⟨c,rfl,h.1⟩|c::cs,g::fs,i+1,f,h,hi=>by simp at hi;obtain⟨vs,h1,h2⟩:=TO.at h.2 hi;exact⟨vs,by simpa using h1,h2⟩|[],_::_,i,f,h,_=>h.elim|_::_,[],i,f,h,_=>h.elim
end
theorem ao:Tryz.prog.underlying 83=some (.slice 57):=by kernel_rfl
theorem px{b m cap i:Nat}(hi:i<m):ZC Tryz.prog 83 (.slice (some ⟨b,0,none⟩) m cap) (.int .i64 (i:Int))=some (.pointer (some ⟨b,i*4,none⟩)):=by unfold ZC;simp only[ao,VD];rw[if_pos (by omega)];simp
theorem Uo{b m cap:Nat}(hi:0<m):ZC Tryz.prog 83 (.slice (some ⟨b,0,none⟩) m cap) (.int .i64 0)=some (.pointer (some ⟨b,0,none⟩)):=px (i:=0) hi
theorem eT{b m cap:Nat}(hi:1<m):ZC Tryz.prog 83 (.slice (some ⟨b,0,none⟩) m cap) (.int .i64 1)=some (.pointer (some ⟨b,4,none⟩)):=px (i:=1) hi
theorem TF{H:AH}{b:Nat}{k p q r:Value}{l:List Value}(h:H.blk b= .rw 4 (k::p::q::r::l)):Z7 Tryz.prog H 57 (.pointer (some ⟨b,0,none⟩))=some (.agg #[k,p,q,r]):=XG h (by decide) rfl rfl OT VD
theorem iM{H:AH}{b:Nat}{k p q r k' p' q' r':Value}{l:List Value}(h:H.blk b= .rw 4 (k::p::q::r::k'::p'::q'::r'::l)):Z7 Tryz.prog H 57 (.pointer (some ⟨b,4,none⟩))=some (.agg #[k',p',q',r']):=XG h (by decide) rfl rfl OT VD
theorem Fe{H:AH}{b:Nat}{k p q r:Value}{l:List Value}(h:H.blk b= .rw 4 (k::p::q::r::l)):Z7 Tryz.prog H 34 (.pointer (some ⟨b,1,none⟩))=some (.agg #[p,q,r]):=Nm (AH.cells_rw' h (by decide)) rfl rfl
theorem W3{H:AH}{b:Nat}{k' p' q' r':Value}{vs:List Value}{f:FD}(hb:H.blk b= .rw 1 [k',p',q',r'])(hn:noU [k',p',q',r']=true)(h:Ub H vs f): ∃H',YX Tryz.prog H 57 (.pointer (some ⟨b,0,none⟩)) (.agg vs.toArray)=some H'/\H'.n=H.n/\H'.blk b= .rw 1 vs/\(∀j,j≠b->H'.blk j=H.blk j)/\UL b H H'/\Ub H' vs f:=by obtain⟨H',st,n1,q1,o,ka⟩:=RR VD hb rfl (v:= .agg vs.toArray) (ws:=vs) (by simp[Value.cells]) h.len h.ones;exact⟨H',st,n1,q1,o,ka,h.fr (Fr.put hb q1 n1 o h.len.symm hn h.noU)⟩
theorem XB{H:AH}{b:Nat}{vs:List Value}(hb:H.blk b= .rw 1 vs)(hl:vs.length=4):Z7 Tryz.prog H 57 (.pointer (some ⟨b,0,none⟩))=some (.agg vs.toArray):=XG hb (by decide) (by rw[List.drop_zero,List.take_of_length_le (by omega)]) hl OT VD
theorem TN:WZ Tryz.prog 57 [(0,.int .i64 2)]=some (.agg #[.int .i64 2,.bool false,.slice none 0 0,.slice none 0 0]):=by rfl
theorem V6{H:AH}{k p q r:Value}(h:[k,p,q,r].all one=true): ∃H',YX Tryz.prog (H.new 1 [.int .i64 0,.bool false,.slice none 0 0,.slice none 0 0]) 57 (.pointer (some ⟨H.n,0,none⟩)) (.agg #[k,p,q,r])=some H'/\Zh H H'/\H'.blk H.n= .rw 1 [k,p,q,r]/\H'.n=H.n+1:=Xe VD rfl rfl rfl h
theorem Za6{H:AH}{p q r:Value}(h:[p,q,r].all one=true): ∃H',YX Tryz.prog (H.new 1 [.bool false,.slice none 0 0,.slice none 0 0]) 34 (.pointer (some ⟨H.n,0,none⟩)) (.agg #[p,q,r])=some H'/\Zh H H'/\H'.blk H.n= .rw 1 [p,q,r]/\H'.n=H.n+1:=Xe VT rfl rfl rfl h
theorem Ut{H:AH}{b:Nat}{v0 v1 v2 v3 v4:Value}(h:H.blk b= .rw 1 [v0,v1,v2,v3,v4]):Z7 Tryz.prog H 50 (.pointer (some ⟨b,0,none⟩))=some v0:=Z0 aOp (AH.cells_rw' h (by decide)) rfl
theorem tw{H:AH}{b:Nat}{v0 v1 v2 v3 v4:Value}(h:H.blk b= .rw 1 [v0,v1,v2,v3,v4]):Z7 Tryz.prog H 34 (.pointer (some ⟨b,1,none⟩))=some (.agg #[v1,v2,v3]):=Nm (AH.cells_rw' h (by decide)) rfl rfl
theorem SQ(b:Nat):Yn Tryz.prog 53 (.pointer (some ⟨b,0,none⟩)) 0=some (.pointer (some ⟨b,0,none⟩)):=En b 0
theorem rR(b:Nat):Yn Tryz.prog 53 (.pointer (some ⟨b,0,none⟩)) 1=some (.pointer (some ⟨b,1,none⟩)):=PY b 0
theorem Uw.single{sz:Nat}{H:AH}{av:Value}{c:List Value}(h:Uw sz H av [c]): ∃b,av= .slice (some ⟨b,0,none⟩) 1 1/\b<H.n/\H.blk b= .rw sz c:=by
 rcases h with⟨_,h⟩|⟨b,h1,h2,h3,_⟩;·cases h
 ·exact⟨b,h1,h2,by rw[h3];simp⟩
theorem Uw.pair{sz:Nat}{H:AH}{av:Value}{c d:List Value}(h:Uw sz H av [c,d]): ∃b,av= .slice (some ⟨b,0,none⟩) 2 2/\b<H.n/\H.blk b= .rw sz (c++d):=by
 rcases h with⟨_,h⟩|⟨b,h1,h2,h3,_⟩;·cases h
 ·exact⟨b,h1,h2,by rw[h3];simp⟩
def QG(H:AH)(f:FD)(x:Value)(H':AH):Prop:=Zh H H'/\ ∃vs:List Value,x= .agg vs.toArray/\Ub H' vs f
section
variable {H : AH} {fw av : Value}
theorem oW{neg:Bool}{v2 v3 v4:Value}{xs ys:List Nat}(ha:Sl H v2 xs)(hb:Sl H v3 ys)(dx:YD Zd xs)(dy:YD Zd ys)(lx:xs.length<=1048576)(ly:ys.length<=1048576)(bA:Zn (dv Zd xs)<=67108864)(bB:Zn (dv Zd ys)<=67108864)(hB:0<dv Zd ys):CW Tryz.prog Zw 116 [fw,.agg #[.int .i64 0,.bool neg,v2,v3,v4],av] H (QG H (.mk (Ya neg (dv Zd xs) (dv Zd ys)))):=by
 obtain⟨H2,e2,k2,n2,q0,q1⟩:=Y7 H [.int .i64 0,.bool neg,v2,v3,v4] [.int .i64 0,.bool false,.slice none 0 0,.slice none 0 0];have K:=k2;obtain⟨H3,S7,k3,q2,n3⟩:=V6 (H:=H2) (k:= .int .i64 2) (p:= .bool false) (q:= .slice none 0 0) (r:= .slice none 0 0) rfl;have K:=K.trans k3;replace q0:=k3.q q0;replace q1:=k3.q q1;have z0:=q0;refine Z8 141 Tryz.func116 ?_;apply Zb;intro b1 Ze;simp[Value.cells,X7,Xm,e2];subst Ze;apply Zb;intro b1 Ze;simp[TN,X7,Value.cells,S7];subst Ze;apply Zf;intro b1 Ze;apply Zb;intro b2 Zp;simp[SQ,Ut z0];subst Zp;apply Zu;apply Zb;intro b2 Zp;simp[show Zc .eql .i64 0 0=some (.bool true)from rfl];subst Zp;refine Za (t:=true) (by simp) ?_;obtain⟨g1,g2,H4,c4,k4,x1,x2⟩:=Q4 neg (ha.keep K) (hb.keep K) dx dy (Nat.le_trans lx (by decide)) (Nat.le_trans ly (by decide)) rfl rfl bA bB hB;have n4:=k4.n;have K:=K.trans k4;replace q1:=k4.q q1;have PQ:=Ny (neg:=neg) (n:=dv Zd xs) hB;obtain⟨R,hR⟩:=hid (Ya neg (dv Zd xs) (dv Zd ys));rw[<-hR]at c4 x1 x2 PQ⊢;obtain⟨S,N,D⟩:=R;simp only at c4 x1 x2 PQ;have Co:Te (.bool S) g1 g2:=⟨⟨_,rfl⟩,x1.shape,x2.shape⟩;obtain⟨H5,c5,k5⟩:=UT Co H4;have n5:=k5.n;have K:=K.trans k5;replace q1:=k5.q q1;replace x1:=x1.m k5;replace x2:=x2.m k5;have hF:Ub H5 [.int .i64 1,.bool S,g1,g2] (.rat S N D):=⟨_,_,rfl,x1.sl,x2.sl,PQ⟩;obtain⟨H6,WU,n6,q1,b6,Vg,hF⟩:=W3 q1 rfl hF;have K:=Vg _ K (by omega);have YO:=XB q1 rfl;try simp at WU YO
 apply Zb;intro b2 Zp;simp[rR,tw z0,c4,c5,WU];subst Zp;apply Zq;simp[Ys,Ye,YO];exact⟨K,_,rfl,hF⟩
theorem ux{v1 v2 v3 v4:Value} :CW Tryz.prog Zw 116 [fw,.agg #[.int .i64 1,v1,v2,v3,v4],av] H (QG H .opn):=by
 obtain⟨H2,e2,k2,n2,q0,q1⟩:=Y7 H [.int .i64 1,v1,v2,v3,v4] [.int .i64 0,.bool false,.slice none 0 0,.slice none 0 0];have K:=k2;obtain⟨H3,S7,k3,q2,n3⟩:=V6 (H:=H2) (k:= .int .i64 2) (p:= .bool false) (q:= .slice none 0 0) (r:= .slice none 0 0) rfl;have K:=K.trans k3;replace q0:=k3.q q0;replace q1:=k3.q q1;have z0:=q0;refine Z8 141 Tryz.func116 ?_;apply Zb;intro b1 Ze;simp[Value.cells,X7,Xm,e2];subst Ze;apply Zb;intro b1 Ze;simp[TN,X7,Value.cells,S7];subst Ze;apply Zf;intro b1 Ze;apply Zb;intro b2 Zp;simp[SQ,Ut z0];subst Zp;apply Zu;apply Zb;intro b2 Zp;simp[show Zc .eql .i64 1 0=some (.bool false)from rfl];subst Zp;refine Za (t:=false) (by simp) ?_;apply Zb;intro b2 Zp;simp[show Zc .eql .i64 1 1=some (.bool true)from rfl];subst Zp;refine Za (t:=true) (by simp) ?_;obtain⟨H4,c4,k4⟩:=Wc H3;have n4:=k4.n;have K:=K.trans k4;replace q1:=k4.q q1;have hF:Ub H4 [.int .i64 0,.bool false,.slice none 0 0,.slice none 0 0] .opn:=rfl;obtain⟨H6,WU,n6,q1,b6,Vg,hF⟩:=W3 q1 rfl hF;have K:=Vg _ K (by omega);have YO:=XB q1 rfl;try simp at WU YO
 apply Zb;intro b2 Zp;simp[c4,WU];subst Zp;apply Zq;simp[Ys,Ye,YO];exact⟨K,_,rfl,hF⟩
theorem jL{v1 v2 v3 v4:Value}{cs:List Value}{f:FD}(hA:Uw 4 H av [cs])(hf:Ub H cs f)(hu:f.isUnd=false)(hw:f.w<=67108864):CW Tryz.prog Zw 116 [fw,.agg #[.int .i64 10,v1,v2,v3,v4],av] H (QG H (Xc 10 false 0 0 [f])):=by obtain⟨ab,rfl,MR,qa⟩:=hA.single;replace qa:=qa;obtain⟨H2,e2,k2,n2,q0,q1⟩:=Y7 H [.int .i64 10,v1,v2,v3,v4] [.int .i64 0,.bool false,.slice none 0 0,.slice none 0 0];have qa:=(k2.blk _ MR).trans qa;have K:=k2;obtain⟨H3,S7,k3,q2,n3⟩:=V6 (H:=H2) (k:= .int .i64 2) (p:= .bool false) (q:= .slice none 0 0) (r:= .slice none 0 0) rfl;have K:=K.trans k3;replace q0:=k3.q q0;replace q1:=k3.q q1;replace qa:=k3.q qa;have z0:=q0;refine Z8 141 Tryz.func116 ?_;apply Zb;intro b1 Ze;simp[Value.cells,X7,Xm,e2];subst Ze;apply Zb;intro b1 Ze;simp[TN,X7,Value.cells,S7];subst Ze;apply Zf;intro b1 Ze;apply Zb;intro b2 Zp;simp[SQ,Ut z0];subst Zp;apply Zu;apply Zb;intro b2 Zp;simp[show Zc .eql .i64 10 0=some (.bool false)from rfl];subst Zp;refine Za (t:=false) (by simp) ?_;apply Zb;intro b2 Zp;simp[show Zc .eql .i64 10 1=some (.bool false)from rfl];subst Zp;refine Za (t:=false) (by simp) ?_;apply Zb;intro b2 Zp;simp[show Zc .eql .i64 10 6=some (.bool false)from rfl];subst Zp;refine Za (t:=false) (by simp) ?_;apply Zb;intro b2 Zp;simp[show Zc .eql .i64 10 10=some (.bool true)from rfl];subst Zp;refine Za (t:=true) (by simp) ?_;cases f with
 |und=>cases hu
 |opn=>
  obtain rfl:=hf;have qz:=qa;obtain⟨H4,c4,k4⟩:=W1 (k:=0) (p:= .bool false) (q:= .slice none 0 0) (r:= .slice none 0 0) (by decide) H3;have n4:=k4.n;have K:=K.trans k4;replace q1:=k4.q q1;replace qa:=k4.q qa;replace q2:=k4.q q2;obtain⟨H5,c5,k5⟩:=Wc H4;have n5:=k5.n;have K:=K.trans k5;replace q1:=k5.q q1;replace qa:=k5.q qa;replace q2:=k5.q q2;have hF:Ub H5 [.int .i64 0,.bool false,.slice none 0 0,.slice none 0 0] .opn:=rfl;obtain⟨H6,WU,n6,q1,b6,Vg,hF⟩:=W3 q1 rfl hF;have K:=Vg _ K (by omega);have YO:=XB q1 rfl;try simp at WU YO
  apply Zf;intro b2 Zp;apply Zb;intro b3 ZH;simp[Uo (show 0<1 by decide),TF qz,c4];subst ZH;apply Zu;apply Zb;intro b3 ZH;simp[show Zc .eql .i64 2 (-1)=some (.bool false)from rfl];subst ZH;refine Za (t:=false) (by simp) ?_;apply Zb;intro b3 ZH;simp[show Zc .eql .i64 2 2=some (.bool true)from rfl];subst ZH;refine Za (t:=true) (by simp) ?_;apply Zb;intro b3 ZH;simp[c5,WU];subst ZH;apply Zq;simp[Ys,Ye,YO];exact⟨K,_,rfl,hF⟩
 |rat s A B=>
  obtain⟨p,q,rfl,hp,hq,low⟩:=hf;have hw:max (Zn A) (Zn B)+1<=67108864:=hw;have qz:=qa;obtain⟨H4,c4,k4⟩:=Vi s (hp.keep K) (hq.keep K) (by omega) (by omega) low.2;have n4:=k4.n;have K:=K.trans k4;replace q1:=k4.q q1;replace qa:=k4.q qa;replace q2:=k4.q q2;obtain⟨S,hS⟩:=hid (XU s A);rw[<-hS]at c4;have sc:=VC s A;rw[<-hS]at sc;have Pa:=low.sign;rw[<-hS]at Pa;have g1:Zc .eql .i64 S (-1)=some (.bool (decide (S= -1))):=T1;have g2:Zc .eql .i64 S 2=some (.bool false):=by rw[T1,decide_eq_false (by omega)]
  apply Zf;intro b2 Zp;apply Zb;intro b3 ZH;simp[Uo (show 0<1 by decide),TF qz,c4];subst ZH;apply Zu;apply Zb;intro b3 ZH;simp[g1];subst ZH;by_cases h1:S= -1
  ·have UC:Xc 10 false 0 0 [.rat s A B]= .und:=by show Xx 10 s A B=_;unfold Xx;rw[if_neg (by decide),if_neg (by decide),if_pos rfl,if_pos (by rw[<-hS];exact h1)]
   rw[UC];have hF:Ub H4 [.int .i64 2,.bool false,.slice none 0 0,.slice none 0 0] .und:=rfl;have z2:=Q1 q2;obtain⟨H5,Xz,n5,q1,b5,WN,hF⟩:=W3 q1 rfl hF;have K:=WN _ K (by omega);have YO:=XB q1 rfl;try simp at Xz YO
   refine Za (t:=true) (by simp[h1]) ?_;apply Zb;intro b3 ZH;simp[z2,Xz];subst ZH;apply Zq;simp[Ys,Ye,YO];exact⟨K,_,rfl,hF⟩
  ·refine Za (t:=false) (by simp[h1]) ?_;apply Zb;intro b3 ZH;simp[g2];subst ZH;refine Za (t:=false) (by simp) ?_;apply Zl;simp[Ye,Ys];subst Zp;have qr:=qa;obtain⟨x,H5,c5,k5,AP⟩:=Em s (hp.keep K) (hq.keep K) (by omega) (by omega) low.2;have n5:=k5.n;have K:=K.trans k5;replace q1:=k5.q q1;obtain⟨xv,rfl⟩:=hid x;have hs: ¬s=true:=fun h=>h1 (Pa.mpr h);rw[low.1]at AP;have RW:Xx 10 s A B=(match Vw (s,A,B)with|some R=> .mk R|none=> .opn):=by unfold Xx;rw[if_neg (by decide),if_neg (by decide),if_pos rfl,if_neg (by rw[<-hS];exact h1)];try rfl
   have Mc:=(Mq (op:=10) low).1;rw[RW]at Mc;rw[show Xc 10 false 0 0 [.rat s A B]=Xx 10 s A B from rfl,RW];obtain⟨rq,hrq⟩:=hid (Vw (s,A,B));rw[<-hrq]at AP Mc⊢;cases rq with
    |none=>
     obtain rfl:=AP;simp only[Zaa]at c5;obtain⟨H6,WU,k6,q6,n6⟩:=Za6 (H:=H5) (p:= .bool false) (q:= .slice none 0 0) (r:= .slice none 0 0) rfl;have K:=K.trans k6;replace q1:=k6.q q1;obtain⟨H7,c7,k7⟩:=Wc H6;have n7:=k7.n;have K:=K.trans k7;replace q1:=k7.q q1;replace q6:=k7.q q6;have hF:Ub H7 [.int .i64 0,.bool false,.slice none 0 0,.slice none 0 0] .opn:=rfl;obtain⟨H8,KQ,n8,q1,b8,bq,hF⟩:=W3 q1 rfl hF;have K:=bq _ K (by omega);have YO:=XB q1 rfl;try simp at KQ YO
     apply Zb;intro b1 Ze;simp[Uo (show 0<1 by decide),GN,Fe qr,c5,Wp,Value.cells,WU];subst Ze;apply Zf;intro b2 Zp;apply Zb;intro b3 ZH;simp;subst ZH;refine Za (t:=true) (by simp) ?_;apply Zb;intro b3 ZH;simp[c7,KQ];subst ZH;apply Zq;simp[Ys,Ye,YO];exact⟨K,_,rfl,hF⟩
    |some R=>
     obtain⟨j9,pL,rfl,y1,y2⟩:=AP;obtain⟨S',N',D'⟩:=R;simp only at c5 y1 y2 Mc;have Co:Te (.bool S') j9 pL:=⟨⟨_,rfl⟩,y1.shape,y2.shape⟩;obtain⟨H6,WU,k6,q6,n6⟩:=Za6 (H:=H5) (p:= .bool S') (q:=j9) (r:=pL) (by simp[y1.one1,y2.one1,show one (Value.bool S')=true from rfl]);have K:=K.trans k6;replace q1:=k6.q q1;have z6:=YJ q6;obtain⟨H7,c7,k7⟩:=UT Co H6;have n7:=k7.n;have K:=K.trans k7;replace q1:=k7.q q1;have hF:Ub H7 [.int .i64 1,.bool S',j9,pL] (.rat S' N' D'):=⟨_,_,rfl,(y1.sl.keep k6).keep k7,(y2.sl.keep k6).keep k7,Mc⟩;obtain⟨H8,KQ,n8,q1,b8,bq,hF⟩:=W3 q1 rfl hF;have K:=bq _ K (by omega);have YO:=XB q1 rfl;try simp at KQ YO
     apply Zb;intro b1 Ze;simp[Uo (show 0<1 by decide),GN,Fe qr,c5,Wp,Value.cells,WU];subst Ze;apply Zf;intro b2 Zp;apply Zb;intro b3 ZH;simp;subst ZH;refine Za (t:=false) (by simp) ?_;apply Zl;subst Zp;apply Zb;intro b2 Zp;simp[z6,c7,KQ];subst Zp;apply Zq;simp[Ys,Ye,YO];exact⟨K,_,rfl,hF⟩
end
section
variable {H : AH} {fw av : Value}
theorem uq{v1 v2 v3 v4:Value}{cs:List Value}{f:FD}(hA:Uw 4 H av [cs])(hf:Ub H cs f)(hu:f.isUnd=false)(hw:f.w<=67108864):CW Tryz.prog Zw 116 [fw,.agg #[.int .i64 12,v1,v2,v3,v4],av] H (QG H (Xc 12 false 0 0 [f])):=by obtain⟨ab,rfl,MR,qa⟩:=hA.single;obtain⟨H2,e2,k2,n2,q0,q1⟩:=Y7 H [.int .i64 12,v1,v2,v3,v4] [.int .i64 0,.bool false,.slice none 0 0,.slice none 0 0];have qa:=(k2.blk _ MR).trans qa;have K:=k2;obtain⟨H3,S7,k3,q2,n3⟩:=V6 (H:=H2) (k:= .int .i64 2) (p:= .bool false) (q:= .slice none 0 0) (r:= .slice none 0 0) rfl;have K:=K.trans k3;replace q0:=k3.q q0;replace q1:=k3.q q1;replace qa:=k3.q qa;have z0:=q0;refine Z8 141 Tryz.func116 ?_;apply Zb;intro b1 Ze;simp[Value.cells,X7,Xm,e2];subst Ze;apply Zb;intro b1 Ze;simp[TN,X7,Value.cells,S7];subst Ze;apply Zf;intro b1 Ze;apply Zb;intro b2 Zp;simp[SQ,Ut z0];subst Zp;apply Zu;apply Zb;intro b2 Zp;simp[show Zc .eql .i64 12 0=some (.bool false)from rfl];subst Zp;refine Za (t:=false) (by simp) ?_;apply Zb;intro b2 Zp;simp[show Zc .eql .i64 12 1=some (.bool false)from rfl];subst Zp;refine Za (t:=false) (by simp) ?_;apply Zb;intro b2 Zp;simp[show Zc .eql .i64 12 6=some (.bool false)from rfl];subst Zp;refine Za (t:=false) (by simp) ?_;apply Zb;intro b2 Zp;simp[show Zc .eql .i64 12 10=some (.bool false)from rfl];subst Zp;refine Za (t:=false) (by simp) ?_;apply Zb;intro b2 Zp;simp[show Zc .eql .i64 12 12=some (.bool true)from rfl];subst Zp;refine Za (t:=true) (by simp) ?_;cases f with
 |und=>cases hu
 |opn=>
  obtain rfl:=hf;have qz:=qa;obtain⟨H4,c4,k4⟩:=W1 (k:=0) (p:= .bool false) (q:= .slice none 0 0) (r:= .slice none 0 0) (by decide) H3;have n4:=k4.n;have K:=K.trans k4;replace q1:=k4.q q1;replace qa:=k4.q qa;replace q2:=k4.q q2;obtain⟨H5,c5,k5⟩:=Wc H4;have n5:=k5.n;have K:=K.trans k5;replace q1:=k5.q q1;replace qa:=k5.q qa;replace q2:=k5.q q2;have hF:Ub H5 [.int .i64 0,.bool false,.slice none 0 0,.slice none 0 0] .opn:=rfl;obtain⟨H6,WU,n6,q1,b6,Vg,hF⟩:=W3 q1 rfl hF;have K:=Vg _ K (by omega);have YO:=XB q1 rfl;try simp at WU YO
  apply Zf;intro b2 Zp;apply Zb;intro b3 ZH;simp[Uo (show 0<1 by decide),TF qz,c4];subst ZH;apply Zu;apply Zf;intro b3 ZH;apply Zb;intro b4 Yt;simp[show Zc .eql .i64 2 (-1)=some (.bool false)from rfl];subst Yt;refine Za (t:=false) (by simp) ?_;apply Zg;simp[show Zc .eql .i64 2 0=some (.bool false)from rfl];subst ZH;refine Za (t:=false) (by simp) ?_;apply Zb;intro b3 ZH;simp[show Zc .eql .i64 2 1=some (.bool false)from rfl];subst ZH;refine Za (t:=false) (by simp) ?_;apply Zl;simp[Ye,Ys];subst Zp;apply Zb;intro b2 Zp;simp[c5,WU];subst Zp;apply Zq;simp[Ys,Ye,YO];exact⟨K,_,rfl,hF⟩
 |rat s A B=>
  obtain⟨p,q,rfl,hp,hq,low⟩:=hf;have hw:max (Zn A) (Zn B)+1<=67108864:=hw;have qz:=qa;obtain⟨H4,c4,k4⟩:=Vi s (hp.keep K) (hq.keep K) (by omega) (by omega) low.2;have n4:=k4.n;have K:=K.trans k4;replace q1:=k4.q q1;replace qa:=k4.q qa;replace q2:=k4.q q2;obtain⟨S,hS⟩:=hid (XU s A);rw[<-hS]at c4;have sc:=VC s A;rw[<-hS]at sc;have g1:Zc .eql .i64 S (-1)=some (.bool (decide (S= -1))):=T1;have g2:Zc .eql .i64 S 0=some (.bool (decide (S=0))):=T1;have g3:Zc .eql .i64 S 1=some (.bool (decide (S=1))):=T1;have RW:Xx 12 s A B=if S= -1\/S=0 then .und else if Tj s A B false 1 1=0 then .rat false 0 1 else .opn:=by unfold Xx;rw[if_neg (by decide),if_neg (by decide),if_neg (by decide),if_pos rfl,<-hS]
  rw[show Xc 12 false 0 0 [.rat s A B]=Xx 12 s A B from rfl,RW];apply Zf;intro b2 Zp;apply Zb;intro b3 ZH;simp[Uo (show 0<1 by decide),TF qz,c4];subst ZH;apply Zu;apply Zf;intro b3 ZH;apply Zb;intro b4 Yt;simp[g1];subst Yt;by_cases h0:S= -1\/S=0
  ·rw[if_pos h0];have hF:Ub H4 [.int .i64 2,.bool false,.slice none 0 0,.slice none 0 0] .und:=rfl;have z2:=Q1 q2;obtain⟨H5,Xz,n5,q1,b5,WN,hF⟩:=W3 q1 rfl hF;have K:=WN _ K (by omega);have YO:=XB q1 rfl;try simp at Xz YO
   by_cases h1:S= -1;·refine Za (t:=true) (by simp[h1]) ?_;apply Zl;subst ZH;refine Za (t:=true) (by simp[h1]) ?_;apply Zb;intro b3 ZH;simp[z2,Xz];subst ZH;apply Zq;simp[Ys,Ye,YO];exact⟨K,_,rfl,hF⟩
   ·have h2:S=0:=h0.resolve_left h1;refine Za (t:=false) (by simp[h1]) ?_;apply Zg;simp[g2];subst ZH;refine Za (t:=true) (by simp[h2]) ?_;apply Zb;intro b3 ZH;simp[z2,Xz];subst ZH;apply Zq;simp[Ys,Ye,YO];exact⟨K,_,rfl,hF⟩
  ·rw[if_neg h0];have h1: ¬S= -1:=fun h=>h0 (.inl h);have h2: ¬S=0:=fun h=>h0 (.inr h);have h3:S=1:=by omega
   refine Za (t:=false) (by simp[h1]) ?_;apply Zg;simp[g2];subst ZH;refine Za (t:=false) (by simp[h2]) ?_;apply Zb;intro b3 ZH;simp[g3];subst ZH;refine Za (t:=true) (by simp[h3]) ?_;have vC:=qa;obtain⟨i1,i2,Cs,S5,Xj,o1,o2⟩:=Wv (H:=H4.top) (n:=1) (by decide);obtain⟨Ko,X8,Wy,Bw⟩:=cg Xj;have XQ:=Wy;have Nt:=XQ.n;have K:=K.trans Wy;replace o1:=o1.gr Xj X8;replace o2:=o2.gr Xj X8;replace S5:ZY _ _ _ [Value.int .i64 1] _=_:=S5;obtain⟨jF,Ks,Vf⟩:=U3 s false ((hp.keep K).top) ((hq.keep K).top) o1.sl.top o2.sl.top (by omega) (by omega) (by decide) (by decide) low.2 (by decide);obtain⟨SA,UD,W5,kX⟩:=cg Vf;have WM:=XQ.trans W5;have IY:=WM.n;have K:=K.trans W5;replace q1:=WM.q q1;obtain⟨cm,HZ⟩:=hid (Tj s A B false 1 1);rw[<-HZ]at Ks⊢;have g4:Zc .eql .i64 cm 0=some (.bool (decide (cm=0))):=T1;apply Zf;intro b3 ZH;apply YI (by kernel_rfl);simp[Uo (show 0<1 by decide),GN];refine Xq (v:= .agg #[.bool s,p,q]) (by simp[Fe (H:=AH.top H4) vC]) ?_;simp;refine Y4 (v:= .agg #[.bool false,i1,i2]) (Ww.nil H4.n) Xj X8 (by simp[S5]) fun Nr QH=>?_;simp;refine Y4 (v:= .tuple #[.int .i64 cm,.int .i64 0]) QH Vf UD (by simp[Ks]) fun IZ IF=>?_;simp;subst ZH;apply Zb;intro b3 ZH;simp[g4];subst ZH;by_cases h4:cm=0
   ·rw[if_pos h4];obtain⟨j1,j2,H5,c5,k5,y1,y2⟩:=Wv (H:=SA) (n:=0) (by decide);have n5:=k5.n;have K:=K.trans k5;replace q1:=k5.q q1;replace c5:ZY _ _ _ [Value.int .i64 0] _=_:=c5;obtain⟨H6,c6,k6⟩:=UT (p:= .bool false) ⟨⟨_,rfl⟩,y1.shape,y2.shape⟩ H5;have n6:=k6.n;have K:=K.trans k6;replace q1:=k6.q q1;replace y1:=y1.m k6;replace y2:=y2.m k6;have hF:Ub H6 [.int .i64 1,.bool false,j1,j2] (.rat false 0 1):=⟨_,_,rfl,y1.sl,y2.sl,TX⟩;obtain⟨H7,T8,n7,q1,b7,PM,hF⟩:=W3 q1 rfl hF;have K:=PM _ K (by omega);have YO:=XB q1 rfl;try simp at T8 YO
    refine Za (t:=true) (by simp[h4]) ?_;apply Zb;intro b3 ZH;simp[c5,c6,T8];subst ZH;apply Zq;simp[Ys,Ye,YO];exact⟨K,_,rfl,hF⟩
   ·rw[if_neg h4];obtain⟨H5,c5,k5⟩:=Wc SA;have n5:=k5.n;have K:=K.trans k5;replace q1:=k5.q q1;have hF:Ub H5 [.int .i64 0,.bool false,.slice none 0 0,.slice none 0 0] .opn:=rfl;obtain⟨H6,WU,n6,q1,b6,Vg,hF⟩:=W3 q1 rfl hF;have K:=Vg _ K (by omega);have YO:=XB q1 rfl;try simp at WU YO
    refine Za (t:=false) (by simp[h4]) ?_;apply Zl;simp[Ye,Ys];subst Zp;apply Zb;intro b2 Zp;simp[c5,WU];subst Zp;apply Zq;simp[Ys,Ye,YO];exact⟨K,_,rfl,hF⟩
theorem ot{v1 v2 v3 v4:Value}{cs:List Value}{f:FD}(hA:Uw 4 H av [cs])(hf:Ub H cs f)(hu:f.isUnd=false)(hw:f.w<=67108864):CW Tryz.prog Zw 116 [fw,.agg #[.int .i64 11,v1,v2,v3,v4],av] H (QG H (Xc 11 false 0 0 [f])):=by obtain⟨ab,rfl,MR,qa⟩:=hA.single;obtain⟨H2,e2,k2,n2,q0,q1⟩:=Y7 H [.int .i64 11,v1,v2,v3,v4] [.int .i64 0,.bool false,.slice none 0 0,.slice none 0 0];have qa:=(k2.blk _ MR).trans qa;have K:=k2;obtain⟨H3,S7,k3,q2,n3⟩:=V6 (H:=H2) (k:= .int .i64 2) (p:= .bool false) (q:= .slice none 0 0) (r:= .slice none 0 0) rfl;have K:=K.trans k3;replace q0:=k3.q q0;replace q1:=k3.q q1;replace qa:=k3.q qa;have z0:=q0;refine Z8 141 Tryz.func116 ?_;apply Zb;intro b1 Ze;simp[Value.cells,X7,Xm,e2];subst Ze;apply Zb;intro b1 Ze;simp[TN,X7,Value.cells,S7];subst Ze;apply Zf;intro b1 Ze;apply Zb;intro b2 Zp;simp[SQ,Ut z0];subst Zp;apply Zu;apply Zb;intro b2 Zp;simp[show Zc .eql .i64 11 0=some (.bool false)from rfl];subst Zp;refine Za (t:=false) (by simp) ?_;apply Zb;intro b2 Zp;simp[show Zc .eql .i64 11 1=some (.bool false)from rfl];subst Zp;refine Za (t:=false) (by simp) ?_;apply Zb;intro b2 Zp;simp[show Zc .eql .i64 11 6=some (.bool false)from rfl];subst Zp;refine Za (t:=false) (by simp) ?_;apply Zb;intro b2 Zp;simp[show Zc .eql .i64 11 10=some (.bool false)from rfl];subst Zp;refine Za (t:=false) (by simp) ?_;apply Zb;intro b2 Zp;simp[show Zc .eql .i64 11 12=some (.bool false)from rfl];subst Zp;refine Za (t:=false) (by simp) ?_;apply Zf;intro b2 Zp;apply Zb;intro b3 ZH;simp[show Zc .eql .i64 11 11=some (.bool true)from rfl];subst ZH;refine Za (t:=true) (by simp) ?_;apply Zl;subst Zp;refine Za (t:=true) (by simp) ?_;cases f with
 |und=>cases hu
 |opn=>
  obtain rfl:=hf;have qz:=qa;obtain⟨H4,c4,k4⟩:=W1 (k:=0) (p:= .bool false) (q:= .slice none 0 0) (r:= .slice none 0 0) (by decide) H3;have n4:=k4.n;have K:=K.trans k4;replace q0:=k4.q q0;replace q1:=k4.q q1;replace qa:=k4.q qa;obtain⟨H5,c5,k5⟩:=Wc H4;have n5:=k5.n;have K:=K.trans k5;replace q0:=k5.q q0;replace q1:=k5.q q1;replace qa:=k5.q qa;have hF:Ub H5 [.int .i64 0,.bool false,.slice none 0 0,.slice none 0 0] .opn:=rfl;obtain⟨H6,WU,n6,q1,b6,Vg,hF⟩:=W3 q1 rfl hF;have K:=Vg _ K (by omega);have YO:=XB q1 rfl;try simp at WU YO
  apply Zf;intro b2 Zp;apply Zb;intro b3 ZH;simp[Uo (show 0<1 by decide),TF qz,c4,show Zc .neq .i64 2 0=some (.bool true)from rfl];subst ZH;refine Za (t:=true) (by simp) ?_;apply Zb;intro b3 ZH;simp[c5,WU];subst ZH;apply Zq;simp[Ys,Ye,YO];exact⟨K,_,rfl,hF⟩
 |rat s A B=>
  obtain⟨p,q,rfl,hp,hq,low⟩:=hf;have hw:max (Zn A) (Zn B)+1<=67108864:=hw;have qz:=qa;obtain⟨H4,c4,k4⟩:=Vi s (hp.keep K) (hq.keep K) (by omega) (by omega) low.2;have n4:=k4.n;have K:=K.trans k4;replace q0:=k4.q q0;replace q1:=k4.q q1;obtain⟨S,hS⟩:=hid (XU s A);rw[<-hS]at c4;have hz:S=0↔A=0:=by rw[hS];exact XA
  have g1:Zc .neq .i64 S 0=some (.bool (decide (¬A=0))):=by rw[TV];exact congrArg (fun x=>some (Value.bool x)) (decide_eq_decide.mpr (not_congr hz))
  have RW:Xx 11 s A B=if A=0 then .rat false 1 1 else .opn:=rfl;rw[show Xc 11 false 0 0 [.rat s A B]=Xx 11 s A B from rfl,RW];have qy:=q0;apply Zf;intro b2 Zp;apply Zb;intro b3 ZH;simp[Uo (show 0<1 by decide),TF qz,c4,g1];subst ZH;by_cases hA:A=0
  ·rw[if_pos hA];refine Za (t:=false) (by simp[hA]) ?_;apply Zl;subst Zp;apply Zf;intro b2 Zp;apply Zb;intro b3 ZH;simp[SQ,Ut qy,show Zc .eql .i64 11 11=some (.bool true)from rfl];subst ZH;obtain⟨j1,j2,H5,c5,k5,y1,y2⟩:=Wv (H:=H4) (n:=1) (by decide);have n5:=k5.n;have K:=K.trans k5;replace q1:=k5.q q1;replace c5:ZY _ _ _ [Value.int .i64 1] _=_:=c5;obtain⟨H6,c6,k6⟩:=UT (p:= .bool false) ⟨⟨_,rfl⟩,y1.shape,y2.shape⟩ H5;have n6:=k6.n;have K:=K.trans k6;replace q1:=k6.q q1;replace y1:=y1.m k6;replace y2:=y2.m k6;have hF:Ub H6 [.int .i64 1,.bool false,j1,j2] (.rat false 1 1):=⟨_,_,rfl,y1.sl,y2.sl,Fi⟩;obtain⟨H7,T8,n7,q1,b7,PM,hF⟩:=W3 q1 rfl hF;have K:=PM _ K (by omega);have YO:=XB q1 rfl;try simp at T8 YO
   refine Za (t:=true) (by simp) ?_;apply Zb;intro b3 ZH;simp[c5,c6,T8];subst ZH;apply Zq;simp[Ys,Ye,YO];exact⟨K,_,rfl,hF⟩
  ·rw[if_neg hA];obtain⟨H5,c5,k5⟩:=Wc H4;have n5:=k5.n;have K:=K.trans k5;replace q1:=k5.q q1;have hF:Ub H5 [.int .i64 0,.bool false,.slice none 0 0,.slice none 0 0] .opn:=rfl;obtain⟨H6,WU,n6,q1,b6,Vg,hF⟩:=W3 q1 rfl hF;have K:=Vg _ K (by omega);have YO:=XB q1 rfl;try simp at WU YO
   refine Za (t:=true) (by simp[hA]) ?_;apply Zb;intro b3 ZH;simp[c5,WU];subst ZH;apply Zq;simp[Ys,Ye,YO];exact⟨K,_,rfl,hF⟩
theorem oY{v1 v2 v3 v4:Value}{cs:List Value}{f:FD}(hA:Uw 4 H av [cs])(hf:Ub H cs f)(hu:f.isUnd=false)(hw:f.w<=67108864):CW Tryz.prog Zw 116 [fw,.agg #[.int .i64 14,v1,v2,v3,v4],av] H (QG H (Xc 14 false 0 0 [f])):=by obtain⟨ab,rfl,MR,qa⟩:=hA.single;obtain⟨H2,e2,k2,n2,q0,q1⟩:=Y7 H [.int .i64 14,v1,v2,v3,v4] [.int .i64 0,.bool false,.slice none 0 0,.slice none 0 0];have qa:=(k2.blk _ MR).trans qa;have K:=k2;obtain⟨H3,S7,k3,q2,n3⟩:=V6 (H:=H2) (k:= .int .i64 2) (p:= .bool false) (q:= .slice none 0 0) (r:= .slice none 0 0) rfl;have K:=K.trans k3;replace q0:=k3.q q0;replace q1:=k3.q q1;replace qa:=k3.q qa;have z0:=q0;refine Z8 141 Tryz.func116 ?_;apply Zb;intro b1 Ze;simp[Value.cells,X7,Xm,e2];subst Ze;apply Zb;intro b1 Ze;simp[TN,X7,Value.cells,S7];subst Ze;apply Zf;intro b1 Ze;apply Zb;intro b2 Zp;simp[SQ,Ut z0];subst Zp;apply Zu;apply Zb;intro b2 Zp;simp[show Zc .eql .i64 14 0=some (.bool false)from rfl];subst Zp;refine Za (t:=false) (by simp) ?_;apply Zb;intro b2 Zp;simp[show Zc .eql .i64 14 1=some (.bool false)from rfl];subst Zp;refine Za (t:=false) (by simp) ?_;apply Zb;intro b2 Zp;simp[show Zc .eql .i64 14 6=some (.bool false)from rfl];subst Zp;refine Za (t:=false) (by simp) ?_;apply Zb;intro b2 Zp;simp[show Zc .eql .i64 14 10=some (.bool false)from rfl];subst Zp;refine Za (t:=false) (by simp) ?_;apply Zb;intro b2 Zp;simp[show Zc .eql .i64 14 12=some (.bool false)from rfl];subst Zp;refine Za (t:=false) (by simp) ?_;apply Zf;intro b2 Zp;apply Zb;intro b3 ZH;simp[show Zc .eql .i64 14 11=some (.bool false)from rfl];subst ZH;refine Za (t:=false) (by simp) ?_;apply Zb;intro b3 ZH;simp[show Zc .eql .i64 14 14=some (.bool true)from rfl];subst ZH;refine Za (t:=true) (by simp) ?_;apply Zl;subst Zp;refine Za (t:=true) (by simp) ?_;cases f with
 |und=>cases hu
 |opn=>
  obtain rfl:=hf;have qz:=qa;obtain⟨H4,c4,k4⟩:=W1 (k:=0) (p:= .bool false) (q:= .slice none 0 0) (r:= .slice none 0 0) (by decide) H3;have n4:=k4.n;have K:=K.trans k4;replace q0:=k4.q q0;replace q1:=k4.q q1;replace qa:=k4.q qa;obtain⟨H5,c5,k5⟩:=Wc H4;have n5:=k5.n;have K:=K.trans k5;replace q0:=k5.q q0;replace q1:=k5.q q1;replace qa:=k5.q qa;have hF:Ub H5 [.int .i64 0,.bool false,.slice none 0 0,.slice none 0 0] .opn:=rfl;obtain⟨H6,WU,n6,q1,b6,Vg,hF⟩:=W3 q1 rfl hF;have K:=Vg _ K (by omega);have YO:=XB q1 rfl;try simp at WU YO
  apply Zf;intro b2 Zp;apply Zb;intro b3 ZH;simp[Uo (show 0<1 by decide),TF qz,c4,show Zc .neq .i64 2 0=some (.bool true)from rfl];subst ZH;refine Za (t:=true) (by simp) ?_;apply Zb;intro b3 ZH;simp[c5,WU];subst ZH;apply Zq;simp[Ys,Ye,YO];exact⟨K,_,rfl,hF⟩
 |rat s A B=>
  obtain⟨p,q,rfl,hp,hq,low⟩:=hf;have hw:max (Zn A) (Zn B)+1<=67108864:=hw;have qz:=qa;obtain⟨H4,c4,k4⟩:=Vi s (hp.keep K) (hq.keep K) (by omega) (by omega) low.2;have n4:=k4.n;have K:=K.trans k4;replace q0:=k4.q q0;replace q1:=k4.q q1;obtain⟨S,hS⟩:=hid (XU s A);rw[<-hS]at c4;have hz:S=0↔A=0:=by rw[hS];exact XA
  have g1:Zc .neq .i64 S 0=some (.bool (decide (¬A=0))):=by rw[TV];exact congrArg (fun x=>some (Value.bool x)) (decide_eq_decide.mpr (not_congr hz))
  have RW:Xx 14 s A B=if A=0 then .rat false 1 1 else .opn:=rfl;rw[show Xc 14 false 0 0 [.rat s A B]=Xx 14 s A B from rfl,RW];have qy:=q0;apply Zf;intro b2 Zp;apply Zb;intro b3 ZH;simp[Uo (show 0<1 by decide),TF qz,c4,g1];subst ZH;by_cases hA:A=0
  ·rw[if_pos hA];refine Za (t:=false) (by simp[hA]) ?_;apply Zl;subst Zp;apply Zf;intro b2 Zp;apply Zb;intro b3 ZH;simp[SQ,Ut qy,show Zc .eql .i64 14 11=some (.bool false)from rfl,show Zc .eql .i64 14 14=some (.bool true)from rfl];subst ZH;obtain⟨j1,j2,H5,c5,k5,y1,y2⟩:=Wv (H:=H4) (n:=1) (by decide);have n5:=k5.n;have K:=K.trans k5;replace q1:=k5.q q1;replace c5:ZY _ _ _ [Value.int .i64 1] _=_:=c5;obtain⟨H6,c6,k6⟩:=UT (p:= .bool false) ⟨⟨_,rfl⟩,y1.shape,y2.shape⟩ H5;have n6:=k6.n;have K:=K.trans k6;replace q1:=k6.q q1;replace y1:=y1.m k6;replace y2:=y2.m k6;have hF:Ub H6 [.int .i64 1,.bool false,j1,j2] (.rat false 1 1):=⟨_,_,rfl,y1.sl,y2.sl,Fi⟩;obtain⟨H7,T8,n7,q1,b7,PM,hF⟩:=W3 q1 rfl hF;have K:=PM _ K (by omega);have YO:=XB q1 rfl;try simp at T8 YO
   refine Za (t:=true) (by simp) ?_;apply Zb;intro b3 ZH;simp[c5,c6,T8];subst ZH;apply Zq;simp[Ys,Ye,YO];exact⟨K,_,rfl,hF⟩
  ·rw[if_neg hA];obtain⟨H5,c5,k5⟩:=Wc H4;have n5:=k5.n;have K:=K.trans k5;replace q1:=k5.q q1;have hF:Ub H5 [.int .i64 0,.bool false,.slice none 0 0,.slice none 0 0] .opn:=rfl;obtain⟨H6,WU,n6,q1,b6,Vg,hF⟩:=W3 q1 rfl hF;have K:=Vg _ K (by omega);have YO:=XB q1 rfl;try simp at WU YO
   refine Za (t:=true) (by simp[hA]) ?_;apply Zb;intro b3 ZH;simp[c5,WU];subst ZH;apply Zq;simp[Ys,Ye,YO];exact⟨K,_,rfl,hF⟩
theorem oZ{v1 v2 v3 v4:Value}{cs:List Value}{f:FD}(hA:Uw 4 H av [cs])(hf:Ub H cs f)(hu:f.isUnd=false)(hw:f.w<=67108864):CW Tryz.prog Zw 116 [fw,.agg #[.int .i64 13,v1,v2,v3,v4],av] H (QG H (Xc 13 false 0 0 [f])):=by obtain⟨ab,rfl,MR,qa⟩:=hA.single;obtain⟨H2,e2,k2,n2,q0,q1⟩:=Y7 H [.int .i64 13,v1,v2,v3,v4] [.int .i64 0,.bool false,.slice none 0 0,.slice none 0 0];have qa:=(k2.blk _ MR).trans qa;have K:=k2;obtain⟨H3,S7,k3,q2,n3⟩:=V6 (H:=H2) (k:= .int .i64 2) (p:= .bool false) (q:= .slice none 0 0) (r:= .slice none 0 0) rfl;have K:=K.trans k3;replace q0:=k3.q q0;replace q1:=k3.q q1;replace qa:=k3.q qa;have z0:=q0;refine Z8 141 Tryz.func116 ?_;apply Zb;intro b1 Ze;simp[Value.cells,X7,Xm,e2];subst Ze;apply Zb;intro b1 Ze;simp[TN,X7,Value.cells,S7];subst Ze;apply Zf;intro b1 Ze;apply Zb;intro b2 Zp;simp[SQ,Ut z0];subst Zp;apply Zu;apply Zb;intro b2 Zp;simp[show Zc .eql .i64 13 0=some (.bool false)from rfl];subst Zp;refine Za (t:=false) (by simp) ?_;apply Zb;intro b2 Zp;simp[show Zc .eql .i64 13 1=some (.bool false)from rfl];subst Zp;refine Za (t:=false) (by simp) ?_;apply Zb;intro b2 Zp;simp[show Zc .eql .i64 13 6=some (.bool false)from rfl];subst Zp;refine Za (t:=false) (by simp) ?_;apply Zb;intro b2 Zp;simp[show Zc .eql .i64 13 10=some (.bool false)from rfl];subst Zp;refine Za (t:=false) (by simp) ?_;apply Zb;intro b2 Zp;simp[show Zc .eql .i64 13 12=some (.bool false)from rfl];subst Zp;refine Za (t:=false) (by simp) ?_;apply Zf;intro b2 Zp;apply Zb;intro b3 ZH;simp[show Zc .eql .i64 13 11=some (.bool false)from rfl];subst ZH;refine Za (t:=false) (by simp) ?_;apply Zb;intro b3 ZH;simp[show Zc .eql .i64 13 14=some (.bool false)from rfl];subst ZH;refine Za (t:=false) (by simp) ?_;apply Zb;intro b3 ZH;simp[show Zc .eql .i64 13 13=some (.bool true)from rfl];subst ZH;refine Za (t:=true) (by simp) ?_;apply Zl;subst Zp;refine Za (t:=true) (by simp) ?_;cases f with
 |und=>cases hu
 |opn=>
  obtain rfl:=hf;have qz:=qa;obtain⟨H4,c4,k4⟩:=W1 (k:=0) (p:= .bool false) (q:= .slice none 0 0) (r:= .slice none 0 0) (by decide) H3;have n4:=k4.n;have K:=K.trans k4;replace q0:=k4.q q0;replace q1:=k4.q q1;replace qa:=k4.q qa;obtain⟨H5,c5,k5⟩:=Wc H4;have n5:=k5.n;have K:=K.trans k5;replace q0:=k5.q q0;replace q1:=k5.q q1;replace qa:=k5.q qa;have hF:Ub H5 [.int .i64 0,.bool false,.slice none 0 0,.slice none 0 0] .opn:=rfl;obtain⟨H6,WU,n6,q1,b6,Vg,hF⟩:=W3 q1 rfl hF;have K:=Vg _ K (by omega);have YO:=XB q1 rfl;try simp at WU YO
  apply Zf;intro b2 Zp;apply Zb;intro b3 ZH;simp[Uo (show 0<1 by decide),TF qz,c4,show Zc .neq .i64 2 0=some (.bool true)from rfl];subst ZH;refine Za (t:=true) (by simp) ?_;apply Zb;intro b3 ZH;simp[c5,WU];subst ZH;apply Zq;simp[Ys,Ye,YO];exact⟨K,_,rfl,hF⟩
 |rat s A B=>
  obtain⟨p,q,rfl,hp,hq,low⟩:=hf;have hw:max (Zn A) (Zn B)+1<=67108864:=hw;have qz:=qa;obtain⟨H4,c4,k4⟩:=Vi s (hp.keep K) (hq.keep K) (by omega) (by omega) low.2;have n4:=k4.n;have K:=K.trans k4;replace q0:=k4.q q0;replace q1:=k4.q q1;obtain⟨S,hS⟩:=hid (XU s A);rw[<-hS]at c4;have hz:S=0↔A=0:=by rw[hS];exact XA
  have g1:Zc .neq .i64 S 0=some (.bool (decide (¬A=0))):=by rw[TV];exact congrArg (fun x=>some (Value.bool x)) (decide_eq_decide.mpr (not_congr hz))
  have RW:Xx 13 s A B=if A=0 then .rat false 0 1 else .opn:=rfl;rw[show Xc 13 false 0 0 [.rat s A B]=Xx 13 s A B from rfl,RW];have qy:=q0;apply Zf;intro b2 Zp;apply Zb;intro b3 ZH;simp[Uo (show 0<1 by decide),TF qz,c4,g1];subst ZH;by_cases hA:A=0
  ·rw[if_pos hA];refine Za (t:=false) (by simp[hA]) ?_;apply Zl;subst Zp;apply Zf;intro b2 Zp;apply Zb;intro b3 ZH;simp[SQ,Ut qy,show Zc .eql .i64 13 11=some (.bool false)from rfl,show Zc .eql .i64 13 14=some (.bool false)from rfl];subst ZH;obtain⟨j1,j2,H5,c5,k5,y1,y2⟩:=Wv (H:=H4) (n:=0) (by decide);have n5:=k5.n;have K:=K.trans k5;replace q1:=k5.q q1;replace c5:ZY _ _ _ [Value.int .i64 0] _=_:=c5;obtain⟨H6,c6,k6⟩:=UT (p:= .bool false) ⟨⟨_,rfl⟩,y1.shape,y2.shape⟩ H5;have n6:=k6.n;have K:=K.trans k6;replace q1:=k6.q q1;replace y1:=y1.m k6;replace y2:=y2.m k6;have hF:Ub H6 [.int .i64 1,.bool false,j1,j2] (.rat false 0 1):=⟨_,_,rfl,y1.sl,y2.sl,TX⟩;obtain⟨H7,T8,n7,q1,b7,PM,hF⟩:=W3 q1 rfl hF;have K:=PM _ K (by omega);have YO:=XB q1 rfl;try simp at T8 YO
   refine Za (t:=false) (by simp) ?_;apply Zl;subst Zp;apply Zb;intro b2 Zp;simp[c5,c6,T8];subst Zp;apply Zq;simp[Ys,Ye,YO];exact⟨K,_,rfl,hF⟩
  ·rw[if_neg hA];obtain⟨H5,c5,k5⟩:=Wc H4;have n5:=k5.n;have K:=K.trans k5;replace q1:=k5.q q1;have hF:Ub H5 [.int .i64 0,.bool false,.slice none 0 0,.slice none 0 0] .opn:=rfl;obtain⟨H6,WU,n6,q1,b6,Vg,hF⟩:=W3 q1 rfl hF;have K:=Vg _ K (by omega);have YO:=XB q1 rfl;try simp at WU YO
   refine Za (t:=true) (by simp[hA]) ?_;apply Zb;intro b3 ZH;simp[c5,WU];subst ZH;apply Zq;simp[Ys,Ye,YO];exact⟨K,_,rfl,hF⟩
theorem oX{v1 v2 v3 v4:Value}{cs:List Value}{f:FD}(hA:Uw 4 H av [cs])(hf:Ub H cs f)(hu:f.isUnd=false)(hw:f.w<=67108864):CW Tryz.prog Zw 116 [fw,.agg #[.int .i64 15,v1,v2,v3,v4],av] H (QG H (Xc 15 false 0 0 [f])):=by obtain⟨ab,rfl,MR,qa⟩:=hA.single;obtain⟨H2,e2,k2,n2,q0,q1⟩:=Y7 H [.int .i64 15,v1,v2,v3,v4] [.int .i64 0,.bool false,.slice none 0 0,.slice none 0 0];have qa:=(k2.blk _ MR).trans qa;have K:=k2;obtain⟨H3,S7,k3,q2,n3⟩:=V6 (H:=H2) (k:= .int .i64 2) (p:= .bool false) (q:= .slice none 0 0) (r:= .slice none 0 0) rfl;have K:=K.trans k3;replace q0:=k3.q q0;replace q1:=k3.q q1;replace qa:=k3.q qa;have z0:=q0;refine Z8 141 Tryz.func116 ?_;apply Zb;intro b1 Ze;simp[Value.cells,X7,Xm,e2];subst Ze;apply Zb;intro b1 Ze;simp[TN,X7,Value.cells,S7];subst Ze;apply Zf;intro b1 Ze;apply Zb;intro b2 Zp;simp[SQ,Ut z0];subst Zp;apply Zu;apply Zb;intro b2 Zp;simp[show Zc .eql .i64 15 0=some (.bool false)from rfl];subst Zp;refine Za (t:=false) (by simp) ?_;apply Zb;intro b2 Zp;simp[show Zc .eql .i64 15 1=some (.bool false)from rfl];subst Zp;refine Za (t:=false) (by simp) ?_;apply Zb;intro b2 Zp;simp[show Zc .eql .i64 15 6=some (.bool false)from rfl];subst Zp;refine Za (t:=false) (by simp) ?_;apply Zb;intro b2 Zp;simp[show Zc .eql .i64 15 10=some (.bool false)from rfl];subst Zp;refine Za (t:=false) (by simp) ?_;apply Zb;intro b2 Zp;simp[show Zc .eql .i64 15 12=some (.bool false)from rfl];subst Zp;refine Za (t:=false) (by simp) ?_;apply Zf;intro b2 Zp;apply Zb;intro b3 ZH;simp[show Zc .eql .i64 15 11=some (.bool false)from rfl];subst ZH;refine Za (t:=false) (by simp) ?_;apply Zb;intro b3 ZH;simp[show Zc .eql .i64 15 14=some (.bool false)from rfl];subst ZH;refine Za (t:=false) (by simp) ?_;apply Zb;intro b3 ZH;simp[show Zc .eql .i64 15 13=some (.bool false)from rfl];subst ZH;refine Za (t:=false) (by simp) ?_;apply Zg;simp[show Zc .eql .i64 15 15=some (.bool true)from rfl];subst Zp;refine Za (t:=true) (by simp) ?_;cases f with
 |und=>cases hu
 |opn=>
  obtain rfl:=hf;have qz:=qa;obtain⟨H4,c4,k4⟩:=W1 (k:=0) (p:= .bool false) (q:= .slice none 0 0) (r:= .slice none 0 0) (by decide) H3;have n4:=k4.n;have K:=K.trans k4;replace q0:=k4.q q0;replace q1:=k4.q q1;replace qa:=k4.q qa;obtain⟨H5,c5,k5⟩:=Wc H4;have n5:=k5.n;have K:=K.trans k5;replace q0:=k5.q q0;replace q1:=k5.q q1;replace qa:=k5.q qa;have hF:Ub H5 [.int .i64 0,.bool false,.slice none 0 0,.slice none 0 0] .opn:=rfl;obtain⟨H6,WU,n6,q1,b6,Vg,hF⟩:=W3 q1 rfl hF;have K:=Vg _ K (by omega);have YO:=XB q1 rfl;try simp at WU YO
  apply Zf;intro b2 Zp;apply Zb;intro b3 ZH;simp[Uo (show 0<1 by decide),TF qz,c4,show Zc .neq .i64 2 0=some (.bool true)from rfl];subst ZH;refine Za (t:=true) (by simp) ?_;apply Zb;intro b3 ZH;simp[c5,WU];subst ZH;apply Zq;simp[Ys,Ye,YO];exact⟨K,_,rfl,hF⟩
 |rat s A B=>
  obtain⟨p,q,rfl,hp,hq,low⟩:=hf;have hw:max (Zn A) (Zn B)+1<=67108864:=hw;have qz:=qa;obtain⟨H4,c4,k4⟩:=Vi s (hp.keep K) (hq.keep K) (by omega) (by omega) low.2;have n4:=k4.n;have K:=K.trans k4;replace q0:=k4.q q0;replace q1:=k4.q q1;obtain⟨S,hS⟩:=hid (XU s A);rw[<-hS]at c4;have hz:S=0↔A=0:=by rw[hS];exact XA
  have g1:Zc .neq .i64 S 0=some (.bool (decide (¬A=0))):=by rw[TV];exact congrArg (fun x=>some (Value.bool x)) (decide_eq_decide.mpr (not_congr hz))
  have RW:Xx 15 s A B=if A=0 then .rat false 0 1 else .opn:=rfl;rw[show Xc 15 false 0 0 [.rat s A B]=Xx 15 s A B from rfl,RW];have qy:=q0;apply Zf;intro b2 Zp;apply Zb;intro b3 ZH;simp[Uo (show 0<1 by decide),TF qz,c4,g1];subst ZH;by_cases hA:A=0
  ·rw[if_pos hA];refine Za (t:=false) (by simp[hA]) ?_;apply Zl;subst Zp;apply Zf;intro b2 Zp;apply Zb;intro b3 ZH;simp[SQ,Ut qy,show Zc .eql .i64 15 11=some (.bool false)from rfl,show Zc .eql .i64 15 14=some (.bool false)from rfl];subst ZH;obtain⟨j1,j2,H5,c5,k5,y1,y2⟩:=Wv (H:=H4) (n:=0) (by decide);have n5:=k5.n;have K:=K.trans k5;replace q1:=k5.q q1;replace c5:ZY _ _ _ [Value.int .i64 0] _=_:=c5;obtain⟨H6,c6,k6⟩:=UT (p:= .bool false) ⟨⟨_,rfl⟩,y1.shape,y2.shape⟩ H5;have n6:=k6.n;have K:=K.trans k6;replace q1:=k6.q q1;replace y1:=y1.m k6;replace y2:=y2.m k6;have hF:Ub H6 [.int .i64 1,.bool false,j1,j2] (.rat false 0 1):=⟨_,_,rfl,y1.sl,y2.sl,TX⟩;obtain⟨H7,T8,n7,q1,b7,PM,hF⟩:=W3 q1 rfl hF;have K:=PM _ K (by omega);have YO:=XB q1 rfl;try simp at T8 YO
   refine Za (t:=false) (by simp) ?_;apply Zl;subst Zp;apply Zb;intro b2 Zp;simp[c5,c6,T8];subst Zp;apply Zq;simp[Ys,Ye,YO];exact⟨K,_,rfl,hF⟩
  ·rw[if_neg hA];obtain⟨H5,c5,k5⟩:=Wc H4;have n5:=k5.n;have K:=K.trans k5;replace q1:=k5.q q1;have hF:Ub H5 [.int .i64 0,.bool false,.slice none 0 0,.slice none 0 0] .opn:=rfl;obtain⟨H6,WU,n6,q1,b6,Vg,hF⟩:=W3 q1 rfl hF;have K:=Vg _ K (by omega);have YO:=XB q1 rfl;try simp at WU YO
   refine Za (t:=true) (by simp[hA]) ?_;apply Zb;intro b3 ZH;simp[c5,WU];subst ZH;apply Zq;simp[Ys,Ye,YO];exact⟨K,_,rfl,hF⟩
end
theorem sFs:WK Tryz.prog 83=some (57,4,64):=by kernel_rfl
theorem wQ:XR Tryz.prog 129=some false:=by kernel_rfl
theorem xx(b:Nat):Yn Tryz.prog 132 (.pointer (some ⟨b,0,none⟩)) 0=some (.pointer (some ⟨b,0,none⟩)):=by kernel_rfl
theorem m6{H:AH}{b:Nat}{u v w:Value}(h:H.blk b= .rw 1 [u,v,w]):Z7 Tryz.prog H 129 (.pointer (some ⟨b,0,none⟩))=some u:=Z0 wQ (AH.cells_rw' h (by decide)) rfl
theorem de{op:Int}{two:Bool}{f:FuncId}(h:TA op=some (two,f)):op≠0/\op≠1/\op≠10/\op≠12/\op≠11/\op≠14/\op≠13/\op≠15:=by refine⟨?_,?_,?_,?_,?_,?_,?_,?_⟩<;>(intro e;subst e;revert h;simp[TA])
theorem RI{x c:Int}(h:x≠c):Zc .eql .i64 x c=some (.bool false):=by rw[T1,decide_eq_false h]
theorem D9{op:Int}(h:op≠0)(neg neg':Bool)(N D N' D':Nat)(fs:List FD):Xc op neg N D fs=Xc op neg' N' D' fs:=by unfold Xc;rw[if_neg h,if_neg h]
theorem Zai{H:AH}{b:Nat}{k' p' q' r' p q r:Value}{k:Int}(hb:H.blk b= .rw 1 [k',p',q',r'])(M1:b<H.n)(h1:one p=true)(h2:one q=true)(h3:one r=true): ∃H2,YX Tryz.prog H.top 57 (.pointer (some ⟨b,0,none⟩)) (.agg #[.int .i64 k,p,q,r])=some H2/\H2.n=H.n/\H2.lw<H.n/\(low H H2).n=H.n/\(low H H2).blk b= .rw 1 [.int .i64 k,p,q,r]/\(∀j,j≠b->(low H H2).blk j=H.blk j)/\UL b H (low H H2):=Uk VD hb M1 rfl rfl rfl (by simp[h1,h2,h3,show one (Value.int .i64 k)=true from rfl])
theorem TO.get{H:AH} : ∀{css:List (List Value)}{fs:List FD}{i:Nat}{c:List Value},TO H css fs->css[i]?=some c-> ∃f,fs[i]?=some f/\Ub H c f|[],[],i,f,_,hi=>by simp at hi|c::cs,g::fs,0,f,h,hi=>by simp at hi;subst hi;exact⟨g,rfl,h.1⟩|c::cs,g::fs,i+1,f,h,hi=>by simp at hi;obtain⟨vs,h1,h2⟩:=TO.get h.2 hi;exact⟨vs,by simpa using h1,h2⟩|[],_::_,i,f,h,_=>h.elim|_::_,[],i,f,h,_=>h.elim
theorem E0{α:Type}{l:List α}(h:l.length=1): ∃a,l=[a]:=by match l,h with|[a],_=>exact⟨a,rfl⟩
theorem JW{α:Type}{l:List α}(h:l.length=2): ∃a b,l=[a,b]:=by match l,h with|[a,b],_=>exact⟨a,b,rfl⟩
theorem Gi{op:Int}(h0:op≠0){neg:Bool}{N D:Nat}{fs:List FD}{i:Nat}(hi:fs[i]?=some .opn)(hl:fs.length<=2)(h6:op=6-> ∀g,fs[1]?=some g->g.isZero=false):Xc op neg N D fs= .opn:=by unfold Xc;rw[if_neg h0];match fs,hi,hl with
 |[f],hi,_=>cases i with|zero=>simp at hi;subst hi;rfl|succ i=>simp at hi
 |[f,g],hi,_=>
  have rK: ¬ (op=6/\g.isZero=true):=fun h=>by have:=h6 h.1 g rfl;rw[h.2]at this;cases this
  cases i with
   |zero=>simp at hi;subst hi;simp only;rw[if_neg rK]
   |succ i=>cases i with|zero=>simp at hi;subst hi;cases f<;>(simp only;rw[if_neg rK])|succ i=>simp at hi
section
variable {H : AH} {fw av : Value}
theorem jN{v1 v2 v3 v4:Value}{c1 c2:List Value}{f:FD}{t:Bool}{D:Nat}(hA:Uw 4 H av [c1,c2])(hf:Ub H c1 f)(hg:Ub H c2 (.rat t 0 D))(hD:Zn D<=67108864):CW Tryz.prog Zw 116 [fw,.agg #[.int .i64 6,v1,v2,v3,v4],av] H (QG H .und):=by
 obtain⟨ab,rfl,MR,qa⟩:=hA.pair;obtain⟨p,q,rfl,hp,hq,low⟩:=hg;obtain⟨p1,p2,p3,rfl,_⟩:=hf.trio;obtain⟨H2,e2,k2,n2,q0,q1⟩:=Y7 H [.int .i64 6,v1,v2,v3,v4] [.int .i64 0,.bool false,.slice none 0 0,.slice none 0 0];have qa:=(k2.blk _ MR).trans qa;simp only[List.cons_append,List.nil_append]at qa;have K:=k2;obtain⟨H3,S7,k3,q2,n3⟩:=V6 (H:=H2) (k:= .int .i64 2) (p:= .bool false) (q:= .slice none 0 0) (r:= .slice none 0 0) rfl;have K:=K.trans k3;replace q0:=k3.q q0;replace q1:=k3.q q1;replace qa:=k3.q qa;have z0:=q0;have qz:=qa;obtain⟨H4,c4,k4⟩:=Vi t (hp.keep K) (hq.keep K) (by decide) hD low.2;have n4:=k4.n;have K:=K.trans k4;replace q1:=k4.q q1;replace q2:=k4.q q2;have c4:ZY Tryz.prog Zw 153 [.agg #[.int .i64 1,.bool t,p,q]] H3=some (.int .i64 0,H4):=c4;have z2:=Q1 q2;have hF:Ub H4 [.int .i64 2,.bool false,.slice none 0 0,.slice none 0 0] .und:=rfl;obtain⟨H5,Xz,n5,q1,b5,WN,hF⟩:=W3 q1 rfl hF;have K:=WN _ K (by omega);have YO:=XB q1 rfl;try simp at Xz YO
 refine Z8 141 Tryz.func116 ?_;apply Zb;intro b1 Ze;simp[Value.cells,X7,Xm,e2];subst Ze;apply Zb;intro b1 Ze;simp[TN,X7,Value.cells,S7];subst Ze;apply Zf;intro b1 Ze;apply Zb;intro b2 Zp;simp[SQ,Ut z0];subst Zp;apply Zu;apply Zb;intro b2 Zp;simp[show Zc .eql .i64 6 0=some (.bool false)from rfl];subst Zp;refine Za (t:=false) (by simp) ?_;apply Zb;intro b2 Zp;simp[show Zc .eql .i64 6 1=some (.bool false)from rfl];subst Zp;refine Za (t:=false) (by simp) ?_;apply Zb;intro b2 Zp;simp[show Zc .eql .i64 6 6=some (.bool true)from rfl];subst Zp;refine Za (t:=true) (by simp) ?_;apply Zb;intro b2 Zp;simp[eT (show 1<2 by decide),iM qz,c4,show Zc .eql .i64 0 0=some (.bool true)from rfl];subst Zp;refine Za (t:=true) (by simp) ?_;apply Zb;intro b2 Zp;simp[z2,Xz];subst Zp;apply Zq;simp[Ys,Ye,YO];exact⟨K,_,rfl,hF⟩
theorem jM{v1 v2 v3 v4:Value}{op:Int}{two:Bool}{f:FuncId}(Xb:TA op=some (two,f)){css:List (List Value)}{fs:List FD}(hA:Uw 4 H av css)(hF:TO H css fs)(hlen:fs.length=if two then 2 else 1)(hu: ∀(i:Nat)(g:FD),fs[i]?=some g->g.isUnd=false)(hw:(fs.map FD.w).sum<=67108864)(h6:op=6-> ∀g:FD,fs[1]?=some g->g.isZero=false){bw m:Nat}{tv kv:Value}(kl:H.blk bw= .rw 1 [.map (some m),tv,kv])(M1:bw<H.n)(hW:Sa H m){neg:Bool}{N D:Nat} :CW Tryz.prog Zw 116 [.pointer (some ⟨bw,0,none⟩),.agg #[.int .i64 op,v1,v2,v3,v4],av] H (QG H (Xc op neg N D fs)):=by
 obtain⟨o0,o1,o10,o12,o11,o14,o13,o15⟩:=de Xb;have C6:fs.length<=2:=by rw[hlen];cases two<;>simp
 have VO:=hF.len;obtain⟨H2,e2,k2,n2,q0,q1⟩:=Y7 H [.int .i64 op,v1,v2,v3,v4] [.int .i64 0,.bool false,.slice none 0 0,.slice none 0 0];have kl:=(k2.blk _ M1).trans kl;have K:=k2;obtain⟨H3,S7,k3,q2,n3⟩:=V6 (H:=H2) (k:= .int .i64 2) (p:= .bool false) (q:= .slice none 0 0) (r:= .slice none 0 0) rfl;have K:=K.trans k3;replace q0:=k3.q q0;replace q1:=k3.q q1;replace kl:=k3.q kl;have z0:=q0;have hA3:=hA.keep K;have uF:=hF.fr K.fr;have hW3:=hW.keep K;refine Z8 141 Tryz.func116 ?_;apply Zb;intro b1 Ze;simp[Value.cells,X7,Xm,e2];subst Ze;apply Zb;intro b1 Ze;simp[TN,X7,Value.cells,S7];subst Ze;refine Y6 (fun s'=>s'.k=141/\Zh H3 s'.H/\s'.tm.get 0=some (.pointer (some ⟨bw,0,none⟩))/\s'.tm.get 2=some av/\s'.tm.get 4=some (.pointer (some ⟨H.n,0,none⟩))/\s'.tm.get 6=some (.pointer (some ⟨H.n+1,0,none⟩))) ?_ ?_
 ·intro Q' YF;apply Zb;intro b2 Zp;simp[SQ,Ut z0];subst Zp;apply Zu;apply Zb;intro b2 Zp;simp[RI o0];subst Zp;refine Za (t:=false) (by simp) ?_;apply Zb;intro b2 Zp;simp[RI o1];subst Zp;refine Za (t:=false) (by simp) ?_;apply Zb;intro b2 Zp;simp[T1];subst Zp;by_cases h66:op=6
  ·refine Za (t:=true) (by simp[h66]) ?_;have htwo:two=true:=by subst h66;simp[TA]at Xb;first|exact Xb.1|exact Xb.1.symm
   have AU:fs.length=2:=by rw[hlen,htwo];rfl
   have r6:css.length=2:=by omega
   obtain⟨g0,g,rfl⟩:=JW AU;obtain⟨c1,c2,rfl⟩:=JW r6;have h6:=h6 h66 g rfl;obtain⟨ab,rfl,MR,qa⟩:=hA3.pair;obtain⟨p1,p2,p3,rfl,_⟩:=uF.1.trio;simp only[List.map_cons,List.map_nil,List.sum_cons,List.sum_nil]at hw;have zm: ∃S H4,ZY Tryz.prog Zw 153 [.agg c2.toArray] H3=some (.int .i64 S,H4)/\Zh H3 H4/\S≠0:=by cases g with|und=>have:=hu 1 .und rfl;cases this|opn=>obtain rfl:=uF.2.1;obtain⟨H4,c4,k4⟩:=W1 (k:=0) (p:= .bool false) (q:= .slice none 0 0) (r:= .slice none 0 0) (by decide) H3;exact⟨2,H4,c4,k4,by decide⟩|rat t C D=>obtain⟨p,q,rfl,hp,hq,low⟩:=uF.2.1;have hw:g0.w+(max (Zn C) (Zn D)+1+0)<=67108864:=hw;obtain⟨H4,c4,k4⟩:=Vi t hp hq (by omega) (by omega) low.2;refine⟨_,H4,c4,k4,fun e=>?_⟩;have:=XA.mp e;have:decide (C=0)=false:=h6;simp at this;omega
   obtain⟨S,H4,c4,k4,hS⟩:=zm;obtain⟨r1,r2,r3,rfl,_⟩:=uF.2.1.trio;simp only[List.cons_append,List.nil_append]at qa;have c4:ZY Tryz.prog Zw 153 [.agg #[.int .i64 g.kind,r1,r2,r3]] H3=some (.int .i64 S,H4):=c4;apply Zb;intro b2 Zp;simp[eT (show 1<2 by decide),iM qa,c4,RI hS];subst Zp;refine Za (t:=false) (by simp) ?_;apply Zl;simp[Ye];apply YF;exact⟨rfl,k4,by simp,by simp,by simp,by simp⟩
  ·refine Za (t:=false) (by simp[h66]) ?_;apply Zb;intro b2 Zp;simp[RI o10];subst Zp;refine Za (t:=false) (by simp) ?_;apply Zb;intro b2 Zp;simp[RI o12];subst Zp;refine Za (t:=false) (by simp) ?_;apply Zf;intro b2 Zp;apply Zb;intro b3 ZH;simp[RI o11];subst ZH;refine Za (t:=false) (by simp) ?_;apply Zb;intro b3 ZH;simp[RI o14];subst ZH;refine Za (t:=false) (by simp) ?_;apply Zb;intro b3 ZH;simp[RI o13];subst ZH;refine Za (t:=false) (by simp) ?_;apply Zg;simp[RI o15];subst Zp;refine Za (t:=false) (by simp) ?_;apply Zl;simp[Ye];apply YF;exact⟨rfl,.refl _,by simp,by simp,by simp,by simp⟩
 rintro⟨k,tm,Ha⟩ ⟨hk,kHa,t0,t2,t4,t6⟩;simp only at hk kHa t0 t2 t4 t6;subst hk;have gj:=hA3.len ao;obtain⟨len,Ju⟩:=hid (css.length);rw[<-Ju]at gj VO;apply Zb;intro b1 Ze;simp;subst Ze;apply Zf;intro b1 Ze;apply Zb;intro b2 Zp;simp[t2,gj];subst Zp;apply Zu;have nH3:H3.n=H.n+3:=by omega
 refine Yv (fun n s'=>s'.k=141/\Zh H3 s'.H/\ ∃(i:Nat) (lv:Value),n+i=len/\Uw 3 s'.H lv ((css.take i).map (List.drop 1))/\(∀b,YQ lv=some b->H3.n<=b)/\(∀j g,j<i->fs[j]?=some g->g.isRat=true)/\s'.tm.get 0=some (.pointer (some ⟨bw,0,none⟩))/\s'.tm.get 4=some (.pointer (some ⟨H.n,0,none⟩))/\s'.tm.get 6=some (.pointer (some ⟨H.n+1,0,none⟩))/\s'.tm.get 13=some lv/\s'.tm.get 113=some av/\s'.tm.get 114=some (.int .i64 (len:Int))/\s'.tm.get 115=some (.int .i64 (i:Int))) ?_ len _ ⟨rfl,kHa,0,.slice none 0 0,by omega,.inl ⟨rfl,by simp⟩,(fun b hb=>by cases hb),(fun j g hj=>by omega),by simp[t0],by simp[t4],by simp[t6],by simp,by simp,by simp,by simp⟩;rintro n ⟨k,D7,Hb⟩ ⟨hk,Iw,i,lv,mR,hL,GD,Iv,u0,u4,u6,KO,uz,uZ,oP⟩ Q' YF;simp only at hk Iw hL u0 u4 u6 KO uz uZ oP;subst hk;have nHb:=Iw.n;apply Zb;intro b3 ZH;simp[uZ,oP,Nn];subst ZH;apply Zf;intro b3 ZH;have Ol:=Iw.q q1;have Pg:=Iw.q q0;have gQ:=Iw.q kl;have kH:Zh H Hb:=K.trans Iw;by_cases hi:i<len;·refine Za (t:=true) (by simp[hi]) ?_;apply Zl;subst ZH;obtain⟨cs,UN⟩: ∃cs,css[i]?=some cs:=⟨css[i]'(by omega),List.getElem?_eq_getElem (by omega)⟩;obtain⟨g,hg,sf⟩:=uF.get UN;obtain⟨ab,hvb,N6,MR,W2,rC,gP⟩:=hA3.at UN ao VD (by decide);have YO:=XG ((Iw.blk _ MR).trans W2) (by decide) gP rC OT VD;have hug:=hu i g hg;obtain⟨p,q,r,rfl,Co⟩:=sf.trio;have OP:=sf.ones;have K:=kH;obtain⟨H4,W4,k4,HG,n4⟩:=V6 (H:=Hb) OP;have K:=K.trans k4;replace Pg:=k4.q Pg;replace Ol:=k4.q Ol;replace gQ:=k4.q gQ;have z15:=HG;apply Zf;intro b3 ZH;apply Zu;apply Zb;intro b4 Yt;simp[uz,oP,N6,YO,X7,Value.cells,W4];subst Yt;apply Zf;intro b4 Yt;apply Zf;intro b5 Ui;cases g with
  |und=>cases hug
  |opn=>
   obtain⟨H5,c5,k5⟩:=Wc H4;have n5:=k5.n;have K:=K.trans k5;replace Pg:=k5.q Pg;replace Ol:=k5.q Ol;replace gQ:=k5.q gQ;have GJ:Ub H5 [.int .i64 0,.bool false,.slice none 0 0,.slice none 0 0] .opn:=rfl;obtain⟨H6,WU,n6,Ol,b6,Vg,GJ⟩:=W3 Ol rfl GJ;have K:=Vg _ K (by omega);have bf:=XB Ol rfl;try simp at WU bf
   apply Zg;simp[Kd,TG z15,FD.kind,show Zc .neq .i64 0 1=some (.bool true)from rfl];subst Ui;refine Za (t:=true) (by simp) ?_;apply Zb;intro b5 Ui;simp[u6,c5,WU];subst Ui;apply Zq;simp[Ys,Ye];apply YF;simp[TY,Ye,Ys,u6,bf];rw[Gi o0 hg C6 h6];exact⟨K,_,rfl,GJ⟩
  |rat s A B=>
   obtain⟨UM,sD⟩: ∃x,x=(css.take i).map (List.drop 1):=⟨_,rfl⟩;rw[<-sD]at hL;have qX:UM.length=i:=by rw[sD,List.length_map,List.length_take];omega
   have hL4:=hL.keep k4;have Zad:[p,q,r].all one=true:=by simp only[List.all_cons,Bool.and_eq_true]at OP⊢;exact OP.2
   obtain⟨G,hG⟩:=hid (H4.new 3 [p,q,r]);have kG:Zh H4 G:=by rw[hG];exact Zh.new _ _ _
   have nG:G.n=H4.n+1:=by rw[hG];rfl
   have bG:G.blk H4.n= .rw 3 [p,q,r]:=by rw[hG,AH.blk_new,if_pos rfl]
   obtain⟨H5,Oz,n5,nW,hL5,Nf,EI⟩:=(hL4.keep kG).append (by decide) bG rfl Zad sQs (by decide) Wp rfl (by omega);rw[qX]at Oz hL5;have zQ:Zh H3 G:=(Iw.trans k4).trans kG;have kH5:Zh H3 H5:=by cases G7:YQ lv with|none=>exact zQ.trans (Nf G7).1|some b=>exact(EI b G7).1 H3 zQ (GD b G7)
   have Ck:=Aj H4 p q r;rw[<-hG]at Ck;apply Zg;simp[Kd,TG z15,FD.kind,show Zc .neq .i64 1 1=some (.bool false)from rfl];subst Ui;refine Za (t:=false) (by simp) ?_;apply Zl;subst Yt;apply Zg;simp[KO,GN,M8 z15,Ck,Oz];simp[Ye];subst ZH;apply Zg;simp[oP,Vv (x:=i) (by omega)];apply YF;refine⟨n-1,by omega,rfl,kH5,i+1,.slice (some ⟨G.n,0,none⟩) (i+1) (i+1),by omega,?_,(fun b hb=>by cases hb;omega),?_,by simp[u0],by simp[u4],by simp[u6],by simp,by simp[uz],by simp[uZ],by simp⟩;·rw[List.take_add_one,List.map_append,<-sD,UN];exact hL5
   ·intro j g' hj Cl;by_cases e:j=i;·subst e;rw[hg]at Cl;injection Cl with Cl;subst Cl;rfl
    ·exact Iv j g' (by omega) Cl
 ·refine Za (t:=false) (by simp[hi]) ?_;apply YZ;apply YF;left;refine⟨rfl,?_⟩;obtain rfl:i=len:=by omega
  rw[List.take_of_length_le (by omega)]at hL;subst Ze;clear YF;obtain⟨cb,Ma,hcb,hcf⟩:=zC (hW3.keep Iw) Xb;have gu:=uF.fr Iw.fr;have yY: ∃R,Xc op neg N D fs= .mk R/\(Xc op neg N D fs).ok/\KM (cond two 105 107) [lv,.pointer (some ⟨cb,0,none⟩)] Hb.top R:=by cases two with
   |false=>obtain⟨g,rfl⟩:=E0 (show fs.length=1 from hlen);obtain⟨c,rfl⟩:=E0 (show css.length=1 by rw[hF.len];rfl);obtain⟨lb,rfl,GD,ql⟩:=hL.single;have:=Iv 0 g (by simp at Ju;omega) rfl;cases g with
    |opn=>cases this
    |und=>cases this
    |rat s A B=>
     obtain⟨p,q,rfl,hp,hq,low⟩:=gu.1;have ks:(FD.rat s A B).w<=67108864:=by simpa using hw
     obtain⟨R,hR,_⟩:=Ht Xb hp hq low ks;have UC:Xc op neg N D [.rat s A B]=Xx op s A B:=by unfold Xc;rw[if_neg o0]
     refine⟨R,UC.trans hR,by rw[UC];exact(Mq low).1,fm (H:=Hb.top) (p:= .bool s) (q:=p) (r:=q) (l:=[]) hcf hcb (by decide) ql GD fun G kG=>?_⟩;obtain⟨R',ya,gv⟩:=Ht Xb (hp.top.keep kG) (hq.top.keep kG) low ks;rw[hR]at ya;injection ya with e1 e2 e3;obtain⟨a,b,c⟩:=R;obtain⟨a',b',c'⟩:=R';simp only at e1 e2 e3;subst e1;subst e2;subst e3;exact gv
   |true=>obtain⟨g,g',rfl⟩:=JW (show fs.length=2 from hlen);obtain⟨c,c',rfl⟩:=JW (show css.length=2 by rw[hF.len];rfl);obtain⟨lb,rfl,GD,ql⟩:=hL.pair;have r1:=Iv 0 g (by simp at Ju;omega) rfl;have r2:=Iv 1 g' (by simp at Ju;omega) rfl;cases g with
    |opn=>cases r1
    |und=>cases r1
    |rat s A B=>cases g' with
     |opn=>cases r2
     |und=>cases r2
     |rat t C E=>
      obtain⟨p,q,rfl,hp,hq,low⟩:=gu.1;obtain⟨p',q',rfl,hp',qj,Tn⟩:=gu.2.1;have ks:(FD.rat s A B).w+(FD.rat t C E).w<=67108864:=by simpa using hw
      have rK:op=6->C≠0:=fun e h=>by have:=h6 e _ rfl;have:decide (C=0)=false:=this;simp at this;exact this h
      obtain⟨R,hR,_⟩:=Hu Xb hp hq hp' qj low Tn rK ks;have UC:Xc op neg N D [.rat s A B,.rat t C E]=Vl op s A B t C E:=by unfold Xc;rw[if_neg o0]
      refine⟨R,UC.trans hR,by rw[UC];exact(TR low Tn).1,fp (H:=Hb.top) (p:= .bool s) (q:=p) (r:=q) (p':= .bool t) (q':=p') (r':=q') hcf hcb ql GD fun G kG=>?_⟩;obtain⟨R',ya,gv⟩:=Hu Xb (hp.top.keep kG) (hq.top.keep kG) (hp'.top.keep kG) (qj.top.keep kG) low Tn rK ks;rw[hR]at ya;injection ya with e1 e2 e3;obtain⟨a,b,c⟩:=R;obtain⟨a',b',c'⟩:=R';simp only at e1 e2 e3;subst e1;subst e2;subst e3;exact gv
  obtain⟨R,hR,Sd,hgv⟩:=yY;rw[hR]at Sd⊢;obtain⟨S,N',D'⟩:=R;have K:=kH;have q0ba:=Pg;have yk:=gQ;obtain⟨g1,g2,Cs,S5,Xj,x1,x2⟩:=hgv;obtain⟨Ko,X8,Wy,Bw⟩:=cg Xj;have XQ:=Wy;have Nt:=XQ.n;have K:=K.trans Wy;simp only at S5 x1 x2;replace x1:=x1.same (Yo Xj);replace x2:=x2.same (Yo Xj);rw[<-X8]at x1 x2;obtain⟨jF,Ks,Vf⟩:=UT (p:= .bool S) ⟨⟨_,rfl⟩,x1.shape,x2.shape⟩ Ko.top;obtain⟨SA,UD,W5,kX⟩:=cg Vf;have WM:=XQ.trans W5;have IY:=WM.n;have K:=K.trans W5;replace x1:=x1.keep W5;replace x2:=x2.keep W5;replace Ol:=WM.q Ol;have r1:=Ol;obtain⟨Gs,U5,QO,U4,Ve,Ol,Wl,UF⟩:=Zai (k:=1) (p:= .bool S) Ol (by omega) rfl x1.one1 x2.one1;obtain⟨FI,UE⟩:=hid (low SA Gs);rw[<-UE]at Ve Ol Wl UF;have K:=UF _ K (by omega);have fr:=Fr.put r1 Ol Ve Wl rfl rfl (show noU [.int .i64 1,.bool S,g1,g2]=true by obtain⟨_,_,_,rfl⟩:=x1.shape;obtain⟨_,_,_,rfl⟩:=x2.shape;rfl);have hFin:Ub FI [.int .i64 1,.bool S,g1,g2] (.mk (S,N',D')):=⟨_,_,rfl,x1.fr fr,x2.fr fr,Sd⟩;have bf:=Q1 Ol;have sW:Oc Tryz.prog Hb.top 129 (.map (some m)) (.int .i64 op) false=some (F9 two cb):=Ma;apply Zf;intro b1 Ze;apply YI (by kernel_rfl);simp[u0,xx];refine Xq (v:= .map (some m)) (by simp[m6 (H:=AH.top Hb) yk]) ?_;simp[u4,SQ];refine Xq (v:= .int .i64 op) (by simp[Ut (H:=AH.top Hb) q0ba]) ?_;simp;refine Xq (v:=F9 two cb) (by simp[sW]) ?_;simp[KO,F9];refine Y4 (v:= .tuple #[.agg #[.bool S,g1,g2],.int .i64 0]) (Ww.nil Hb.n) Xj X8 (by simp[S5]) fun Nr QH=>?_;simp;refine Y4 (v:= .agg #[.int .i64 1,.bool S,g1,g2]) QH Vf UD (by simp[Ks]) fun IZ IF=>?_;simp[u6];refine T0 (v:= .tuple #[]) IF QO U4 UE (by simp[U5,u6]) ?_;simp[u6];subst Ze;apply Zq;simp[u6,bf];exact⟨K,_,rfl,hFin⟩
end
mutual def ET.fold:ET->FD| .node op neg abs den args=>if(YN args).any FD.isUnd=true then .und else Xc op neg (dv Zd abs) (dv Zd den) (YN args) def YN:List ET->List FD|[]=>[]|t::ts=>t.fold::YN ts end
mutual def ET.parts:ET->List FD| .node op neg abs den args=>Xg args++[if(YN args).any FD.isUnd=true then .und else Xc op neg (dv Zd abs) (dv Zd den) (YN args)] def Xg:List ET->List FD|[]=>[]|t::ts=>t.parts++Xg ts end
mutual def ET.wt:ET->Nat| .node op neg abs den args=>(if op=0 then max (64*abs.length) (64*den.length)else 0)+1+Tc args def Tc:List ET->Nat|[]=>0|t::ts=>t.wt+Tc ts end
theorem Vj(l:List ET):YN l=l.map ET.fold:=by induction l with|nil=>rfl|cons x xs ih=>simp[YN,ih]
theorem Kj(xs ys:List ET):Xg (xs++ys)=Xg xs++Xg ys:=by induction xs with|nil=>simp[Xg]|cons x xs ih=>simp[Xg,ih]
theorem QW(op:Int)(neg:Bool)(abs den:List Nat)(args:List ET):(ET.node op neg abs den args).parts=Xg args++[(ET.node op neg abs den args).fold]:=by simp only[ET.parts,ET.fold]
theorem Gk{xs:List ET}{i:Nat}{t:ET}(hi:xs[i]?=some t):t.wt<=Tc xs:=by induction xs generalizing i with
 |nil=>simp at hi
 |cons x xs ih=>cases i with|zero=>simp at hi;subst hi;simp[Tc]|succ i=>simp at hi;have:=ih hi;simp only[Tc];omega
theorem Rl{xs:List ET}(h:Wb xs=true){i:Nat}{t:ET}(hi:xs[i]?=some t):t.allGood=true:=by induction xs generalizing i with
 |nil=>simp at hi
 |cons x xs ih=>simp only[Wb,Bool.and_eq_true]at h;cases i with|zero=>simp at hi;subst hi;exact h.1|succ i=>simp at hi;exact ih h.2 hi
theorem NL{xs:List Nat}(h:YD Zd xs):Zn (dv Zd xs)<=64*xs.length:=by refine Vx ?_;rw[Nat.pow_mul];exact Ws h
theorem Nc{op:Int}{neg:Bool}{abs den:List Nat}{args:List ET}(h:(ET.node op neg abs den args).good=true):0<=op/\op<16/\args.length=arity op.toNat/\(op=0->0<dv Zd den):=by unfold ET.good at h;simp only[Bool.and_eq_true,decide_eq_true_eq]at h;refine⟨h.1.1,h.1.2.1,h.1.2.2,fun h0=>?_⟩;have:=h.2;rw[if_pos h0]at this;simpa using this
theorem jO{op:Int}{neg:Bool}{N D:Nat}{fs:List FD}(hD:op=0->0<D)(h: ∀g∈fs,g.ok){k:Nat}(hN:op=0->Zn N<=k/\Zn D<=k):(Xc op neg N D fs).ok/\(Xc op neg N D fs).w<=(if op=0 then k else 0)+1+(fs.map FD.w).sum:=by
 unfold Xc;by_cases h0:op=0;·rw[if_pos h0,if_pos h0];have:=iE (neg:=neg) (n:=N) (hD h0) (k:=k+1) (by have:=(hN h0).1;omega) (by have:=(hN h0).2;omega);exact⟨this.2,by have:=this.1;omega⟩
 ·rw[if_neg h0,if_neg h0];split;·rename_i s A B;have:=Mq (op:=op) (h _ (List.mem_singleton.mpr rfl));exact⟨this.1,by have:=this.2;simp;omega⟩
  ·rename_i s A B t C E;have h1:VZ s A B:=h (.rat s A B) (by simp);have h2:VZ t C E:=h (.rat t C E) (by simp);have:=TR (op:=op) h1 h2;exact⟨this.1,by have:=this.2;simp;omega⟩
  ·split;·exact⟨trivial,by show 1<=_;omega⟩
   ·exact⟨trivial,by show 1<=_;omega⟩
  ·exact⟨trivial,by show 1<=_;omega⟩
theorem Kw: ∀n(t:ET),t.nodes<=n->t.allGood=true->t.wide 1048576->t.fold.ok/\t.fold.w<=t.wt:=by intro n;induction n with
 |zero=>intro t h;have:=Xu t;omega
 |succ n ih=>
  intro t ht hg hw;obtain⟨op,neg,abs,den,args⟩:=t;simp only[ET.nodes]at ht;simp only[ET.allGood,Bool.and_eq_true]at hg;obtain⟨_,_,da,dd,ws⟩:=hw;have key: ∀l:List ET,Yp l<=n->Wb l=true->Rv 1048576 l->(∀g∈YN l,g.ok)/\((YN l).map FD.w).sum<=Tc l:=by intro l;induction l with
   |nil=>intro _ _ _;exact⟨fun g hg=>by simp[YN]at hg,by simp[YN,Tc]⟩
   |cons x xs Bf=>
    intro hl km qZ;simp only[Yp]at hl;simp only[Wb,Bool.and_eq_true]at km;have h1:=ih x (by omega) km.1 qZ.1;have h2:=Bf (by omega) km.2 qZ.2;refine⟨fun g hg=>?_,by simp only[YN,Tc,List.map_cons,List.sum_cons];have:=h1.2;have:=h2.2;omega⟩;simp only[YN,List.mem_cons]at hg;rcases hg with e|e;·rw[e];exact h1.1
    ·exact h2.1 g e
  obtain⟨k1,k2⟩:=key args (by omega) hg.2 ws;simp only[ET.fold,ET.wt];split;·exact⟨trivial,by show 1<=_;omega⟩
  ·obtain⟨_,_,_,hD⟩:=Nc hg.1;have b1:=NL da;have b2:=NL dd;have:=jO (op:=op) (neg:=neg) (N:=dv Zd abs) (D:=dv Zd den) hD k1 (k:=max (64*abs.length) (64*den.length)) (fun _=>⟨by omega,by omega⟩);exact⟨this.1,by have:=this.2;omega⟩
theorem Ho{args:List ET}(hg:Wb args=true)(hw:Rv 1048576 args):((YN args).map FD.w).sum<=Tc args:=by induction args with|nil=>simp[YN,Tc]|cons x xs ih=>simp only[Wb,Bool.and_eq_true]at hg;have h1:=Kw _ x (Nat.le_refl _) hg.1 hw.1;have h2:=ih hg.2 hw.2;simp only[YN,Tc,List.map_cons,List.sum_cons];have:=h1.2;omega
section
variable {H : AH}
theorem uu{op:Int}{neg:Bool}{va vd vx av:Value}{abs den:List Nat}{args:List ET}{css:List (List Value)}{fs:List FD}(ha:Sl H va abs)(hd:Sl H vd den)(da:YD Zd abs)(dd:YD Zd den)(la:abs.length<=1048576)(ld:den.length<=1048576)(hg:(ET.node op neg abs den args).good=true)(hA:Uw 4 H av css)(hF:TO H css fs)(hl:fs.length=args.length)(hu:fs.any FD.isUnd=false)(Sd: ∀g∈fs,g.ok)(hw:(fs.map FD.w).sum<=67108864)(hb:op=0->Zn (dv Zd abs)<=67108864/\Zn (dv Zd den)<=67108864){bw m:Nat}{tv kv:Value}(kl:H.blk bw= .rw 1 [.map (some m),tv,kv])(M1:bw<H.n)(hW:Sa H m):CW Tryz.prog Zw 116 [.pointer (some ⟨bw,0,none⟩),.agg #[.int .i64 op,.bool neg,va,vd,vx],av] H (QG H (Xc op neg (dv Zd abs) (dv Zd den) fs)):=by
 obtain⟨h0,h16,vj,hD⟩:=Nc hg;have qq: ∀(i:Nat)(g:FD),fs[i]?=some g->g.isUnd=false:=fun i g hi=>by have:=List.any_eq_false.mp hu g (List.mem_of_getElem? hi);simpa using this
 have hlen:fs.length=arity op.toNat:=by omega
 have VO:=hF.len;obtain⟨k,rfl⟩: ∃k:Nat,op=(k:Int):=⟨op.toNat,by omega⟩;have hk:k<16:=by omega
 have hlen:fs.length=arity k:=by simpa using hlen
 have one: ∀{X:Int},arity k=1-> ∃c f,css=[c]/\fs=[f]/\Ub H c f/\f.isUnd=false/\f.w<=67108864:=fun{X} h=>by obtain⟨f,rfl⟩:=E0 (hlen.trans h);obtain⟨c,rfl⟩:=E0 (VO.trans (by rfl));exact⟨c,f,rfl,rfl,hF.1,qq 0 f rfl,by simpa using hw⟩
 have rest: ∀(two:Bool)(f:FuncId),TA (k:Int)=some (two,f)->arity k=(if two then 2 else 1)->CW Tryz.prog Zw 116 [.pointer (some ⟨bw,0,none⟩),.agg #[.int .i64 (k:Int),.bool neg,va,vd,vx],av] H (QG H (Xc (k:Int) neg (dv Zd abs) (dv Zd den) fs)):=fun two f Xb har2=>by
  by_cases h6:(k:Int)=6/\ ∃g,fs[1]?=some g/\g.isZero=true
  ·obtain⟨e6,g,sj,hz⟩:=h6;have k6:k=6:=by omega
   subst k6;obtain⟨f0,f1,rfl⟩:=JW (hlen.trans rfl);obtain⟨c0,c1,rfl⟩:=JW (VO.trans rfl);simp at sj;subst sj;cases f1 with
    |opn=>cases hz
    |und=>cases hz
    |rat t C E=>
     have hC:C=0:=by simpa[FD.isZero]using hz
     subst hC;have:Xc ((6:Nat):Int) neg (dv Zd abs) (dv Zd den) [f0,.rat t 0 E]= .und:=by unfold Xc;rw[if_neg (by decide)];cases f0<;>rfl
     rw[this];have hwE:f0.w+(max (Zn 0) (Zn E)+1+0)<=67108864:=hw;exact jN hA hF.1 hF.2.1 (by omega)
  ·exact jM Xb hA hF (hlen.trans har2) qq hw (fun e g sj=>by cases hz:g.isZero with|false=>rfl|true=>exact absurd ⟨e,g,sj,hz⟩ h6) kl M1 hW
 have nm: ∀{op:Int},op≠0->Xc op neg (dv Zd abs) (dv Zd den) fs=Xc op false 0 0 fs:=fun h=>D9 h _ _ _ _ _ _ _;match k,hk with|0,_=>have:fs=[]:=List.length_eq_zero_iff.mp (hlen.trans rfl);subst this;have:=hb rfl;exact oW ha hd da dd la ld this.1 this.2 (hD rfl)|1,_=>have:fs=[]:=List.length_eq_zero_iff.mp (hlen.trans rfl);subst this;exact ux|2,_=>exact rest false _ rfl rfl|3,_=>exact rest true _ rfl rfl|4,_=>exact rest true _ rfl rfl|5,_=>exact rest true _ rfl rfl|6,_=>exact rest true _ rfl rfl|7,_=>exact rest false _ rfl rfl|8,_=>exact rest true _ rfl rfl|9,_=>exact rest true _ rfl rfl|10,_=>obtain⟨c,f,rfl,rfl,h1,h2,h3⟩:=one (X:=0) rfl;rw[nm (by decide)];exact jL hA h1 h2 h3|11,_=>obtain⟨c,f,rfl,rfl,h1,h2,h3⟩:=one (X:=0) rfl;rw[nm (by decide)];exact ot hA h1 h2 h3|12,_=>obtain⟨c,f,rfl,rfl,h1,h2,h3⟩:=one (X:=0) rfl;rw[nm (by decide)];exact uq hA h1 h2 h3|13,_=>obtain⟨c,f,rfl,rfl,h1,h2,h3⟩:=one (X:=0) rfl;rw[nm (by decide)];exact oZ hA h1 h2 h3|14,_=>obtain⟨c,f,rfl,rfl,h1,h2,h3⟩:=one (X:=0) rfl;rw[nm (by decide)];exact oY hA h1 h2 h3|15,_=>obtain⟨c,f,rfl,rfl,h1,h2,h3⟩:=one (X:=0) rfl;rw[nm (by decide)];exact oX hA h1 h2 h3
end
def NP(H:AH)(bw m:Nat)(keep:Bool)(L:List FD)(tv:Value):Prop:=H.blk bw= .rw 1 [.map (some m),tv,.bool keep]/\bw<H.n/\ ∃css,Uw 4 H tv css/\TO H css L
def cG:Value:= .iface 148 (.agg #[])
def re(H:AH)(bw m:Nat)(keep:Bool)(L:List FD)(tv:Value)(t:ET)(x:Value)(H':AH):Prop:= ∃vs KP,x= .agg vs.toArray/\Ub H' vs t.fold/\NP H' bw m keep (L++t.parts) KP/\(∀b,YQ KP=some b->H.n<=b)/\H.n<=H'.n/\H'.lw<=bw/\UL bw H H'/\ ∀j,j<H.n->j≠bw->YQ tv≠some j->H'.blk j=H.blk j
theorem As{H H':AH}{bw m:Nat}{keep:Bool}{L:List FD}{tv KP:Value}(h:NP H bw m keep L tv)(h':H'.blk bw= .rw 1 [.map (some m),KP,.bool keep])(hs: ∃a l c,KP= .slice a l c)(hn:H.n<=H'.n)(hf: ∀j,j<H.n->j≠bw->YQ tv≠some j->H'.blk j=H.blk j):Fr H H':=by
 obtain⟨h1,h2,css,h3,h4⟩:=h;refine⟨hn,fun j hj=>?_⟩;by_cases e:j=bw;·subst e;obtain⟨a,l,c,rfl⟩:=hs;obtain⟨a',l',c',rfl⟩:=h3.shape;exact .inr (.inr ⟨_,_,h1,h',rfl,rfl,rfl⟩)
 ·by_cases e2:YQ tv=some j;·exact .inr (.inl ⟨4,_,(h3.blk_lt e2).2,by decide⟩)
  ·exact .inl (hf j hj e e2)
theorem NP.keep{H H':AH}{bw m:Nat}{keep:Bool}{L:List FD}{tv:Value}(h:NP H bw m keep L tv)(k:Zh H H'):NP H' bw m keep L tv:=by obtain⟨h1,h2,css,h3,h4⟩:=h;exact⟨(k.blk _ h2).trans h1,Nat.lt_of_lt_of_le h2 k.n,css,h3.keep k,h4.fr k.fr⟩
theorem NP.off{H H':AH}{bw m b:Nat}{keep:Bool}{L:List FD}{tv:Value}(h:NP H bw m keep L tv)(hb:b≠bw)(ht:YQ tv≠some b)(hn:H'.n=H.n)(ho: ∀j,j≠b->H'.blk j=H.blk j)(fr:Fr H H'):NP H' bw m keep L tv:=by obtain⟨h1,h2,css,h3,h4⟩:=h;exact⟨(ho _ (Ne.symm hb)).trans h1,by omega,css,h3.frame (by omega) (fun c hc=>ho c (fun e=>ht (by rw[hc,e]))),h4.fr fr⟩
section
variable {P : Program} {C : Cfg}
theorem F7{f:FuncId}{args:List Value}{H H':AH}{v:Value}(h:K4 P C f args H=some (.pan v,H')):ZY P C f args H=none:=by rw[Wj];unfold YC;have:Wa P C (Rm P C) f args H=_:=h;rw[this];rfl
end
theorem Za8{H:AH}{vs:List Value}(hl:vs.length=5)(h:vs.all one=true): ∃H',YX Tryz.prog (H.new 1 [.int .i64 0,.bool false,.slice none 0 0,.slice none 0 0,.slice none 0 0]) 53 (.pointer (some ⟨H.n,0,none⟩)) (.agg vs.toArray)=some H'/\Zh H H'/\H'.blk H.n= .rw 1 vs/\H'.n=H.n+1:=Xe JB rfl (by simp[Value.cells]) hl h
theorem Ud{H:AH}{b:Nat}{vs:List Value}(hb:H.blk b= .rw 1 vs)(hl:vs.length=5):Z7 Tryz.prog H 53 (.pointer (some ⟨b,0,none⟩))=some (.agg vs.toArray):=XG hb (by decide) (by rw[List.drop_zero,List.take_of_length_le (by omega)]) hl pr JB
theorem iJ{H:AH}{b:Nat}{v0 v1 v2 v3 v4:Value}(h:H.blk b= .rw 1 [v0,v1,v2,v3,v4]):Z7 Tryz.prog H 51 (.pointer (some ⟨b,4,none⟩))=some v4:=Z0 Gw (AH.cells_rw' h (by decide)) rfl
theorem Aq(b:Nat):Yn Tryz.prog 53 (.pointer (some ⟨b,0,none⟩)) 2=some (.pointer (some ⟨b,4,none⟩)):=Ji b 0
theorem A3{H:AH}{vs:List Value}(hl:vs.length=4)(h:vs.all one=true): ∃H',YX Tryz.prog (H.new 1 [.int .i64 0,.bool false,.slice none 0 0,.slice none 0 0]) 57 (.pointer (some ⟨H.n,0,none⟩)) (.agg vs.toArray)=some H'/\Zh H H'/\H'.blk H.n= .rw 1 vs/\H'.n=H.n+1:=Xe VD rfl (by simp[Value.cells]) hl h
theorem Md(g:FD):Zc .eql .i64 g.kind 2=some (.bool g.isUnd):=by cases g<;>rfl
theorem Ai(H:AH)(k p q r:Value):Yz Tryz.prog H 83 1 [(0,.agg #[k,p,q,r])]=some (.slice (some ⟨H.n,0,none⟩) 1 1,H.new 4 [k,p,q,r]):=by unfold Yz;simp only[sFs,X7];kernel_rfl
theorem aFs:XR Tryz.prog 83=some false:=by kernel_rfl
theorem sFsl:Xn Tryz.prog 83=some 1:=by kernel_rfl
theorem Hl(b:Nat):Yn Tryz.prog 132 (.pointer (some ⟨b,0,none⟩)) 1=some (.pointer (some ⟨b,1,none⟩)):=by kernel_rfl
theorem pR(b:Nat):Yn Tryz.prog 132 (.pointer (some ⟨b,0,none⟩)) 2=some (.pointer (some ⟨b,2,none⟩)):=by kernel_rfl
theorem KW{H:AH}{b:Nat}{u v w:Value}(h:H.blk b= .rw 1 [u,v,w]):Z7 Tryz.prog H 83 (.pointer (some ⟨b,1,none⟩))=some v:=Z0 aFs (AH.cells_rw' h (by decide)) rfl
theorem AF{H:AH}{b:Nat}{u v w:Value}(h:H.blk b= .rw 1 [u,v,w]):Z7 Tryz.prog H 4 (.pointer (some ⟨b,2,none⟩))=some w:=Z0 IE (AH.cells_rw' h (by decide)) rfl
theorem tB{H:AH}{b:Nat}{u t w v:Value}(hb:H.blk b= .rw 1 [u,t,w])(M1:b<H.n)(hv:v.cells=#[v])(h1:one v=true): ∃H2,YX Tryz.prog H.top 83 (.pointer (some ⟨b,1,none⟩)) v=some H2/\H2.n=H.n/\H2.lw<=b/\(low H H2).n=H.n/\(low H H2).blk b= .rw 1 [u,v,w]/\(∀j,j≠b->(low H H2).blk j=H.blk j)/\UL b H (low H H2):=by obtain⟨H2,st,q,n1,o,ka,lw⟩:=WB (H:=H.top) (o:=1) sFsl hb (v:=v) (ws:=[v]) (by rw[hv]) rfl (by simp) (by simp[h1]);exact⟨H2,st,n1,by rw[lw];exact Nat.min_le_right _ _,n1,q,o,Qw ka⟩
mutual theorem R6: ∀t:ET,t.parts.length=t.nodes| .node op neg abs den args=>by simp only[ET.parts,ET.nodes,List.length_append,List.length_singleton,Vt args];omega theorem Vt: ∀l:List ET,(Xg l).length=Yp l|[]=>rfl|t::ts=>by simp only[Xg,Yp,List.length_append,R6 t,Vt ts] end
theorem Sc{args:List ET}{i:Nat}{t:ET}(h:args[i]?=some t):YN (args.take (i+1))=YN (args.take i)++[t.fold]:=by rw[Vj,Vj,List.take_add_one,h,List.map_append];rfl
theorem OK{args:List ET}{i:Nat}{t:ET}(h:args[i]?=some t):Xg (args.take (i+1))=Xg (args.take i)++t.parts:=by rw[List.take_add_one,h,Kj];simp[Xg]
theorem RU{args:List ET}{i:Nat}{t:ET}(h:args[i]?=some t):Yp (args.take i)+t.nodes<=Yp args:=by
 have h1:args=args.take (i+1)++args.drop (i+1):=(List.take_append_drop _ _).symm;have h2:args.take (i+1)=args.take i++[t]:=by rw[List.take_add_one,h];rfl
 have:Yp args=Yp (args.take i)+t.nodes+Yp (args.drop (i+1)):=by
  conv=>lhs;rw[h1,h2]
  simp[Un,Yp,Nat.add_assoc]
 omega
theorem UL.weak{a b:Nat}{H H':AH}(h:UL b H H')(MR:a<=b):UL a H H':=fun H0 k hn=>h H0 k (Nat.le_trans hn MR)
def wj(H:AH)(bw m:Nat)(keep:Bool)(L:List FD)(tv:Value)(t:ET):Out->AH->Prop| .ret x,H'=>(keep=true\/t.fold.isUnd=false)/\re H bw m keep L tv t x H'| .pan v,H'=>keep=false/\t.fold.isUnd=true/\v=cG/\UL bw H H'
theorem zU:isIface Tryz.prog 148=some false:=by kernel_rfl
theorem bUnd:WZ Tryz.prog 148 []=some (.agg #[]):=by kernel_rfl
section
theorem Hq: ∀n(t:ET),t.nodes<=n-> ∀(H0 H:AH)(vs:List Value)(bw m:Nat)(keep:Bool)(L:List FD)(tv:Value),Ex H0 vs t->t.wide 1048576->t.allGood=true->t.wt<=67108864->Sa H0 m->Zh H0 H->H0.n<=bw->NP H bw m keep L tv->(∀b,YQ tv=some b->bw<=b)->L.length+t.nodes<=500000000->CWO Tryz.prog Zw 75 [.pointer (some ⟨bw,0,none⟩),.agg vs.toArray] H (wj H bw m keep L tv t):=by intro n;induction n with
 |zero=>intro t h;have:=Xu t;omega
 |succ n ih=>intro t ht H0 H vs bw m keep L tv hE hw hg Bd hW k0 gT GJ htv hL;obtain⟨op,neg,abs,den,args⟩:=t;have xU:=hE;cases xU with
  |@mk _ _ va vd vx _ _ _ h1 h2 h3=>
   obtain⟨wa,wd,da,dd,ws⟩:=hw;simp only[ET.nodes]at ht hL;simp only[ET.allGood,Bool.and_eq_true]at hg;obtain⟨hgn,sk⟩:=hg;have sG:Tc args<=67108864:=by simp only[ET.wt]at Bd;omega
   have kl:=GJ.2.1;obtain⟨len,Ju⟩:=hid (args.length);have KZ:=h3.len;rw[<-Ju]at KZ;have pA:=U1 args;obtain⟨H2,e2,k2,n2,q0,q1⟩:=Y7 H [.int .i64 op,.bool neg,va,vd,vx] [.int .i64 0,.bool false,.slice none 0 0,.slice none 0 0];refine au 62 (by decide) (by decide) Tryz.func75 rfl rfl ?_;apply Zb;intro b1 Ze;simp[Value.cells,X7,Xm,e2];subst Ze;apply Zb;intro b1 Ze;simp;subst Ze;apply Zb;intro b1 Ze;simp;subst Ze;apply Zf;intro b1 Ze;apply Zb;intro b2 Zp;simp[Aq,iJ q0,KZ];subst Zp;apply Zu;refine Yv (fun n s'=>s'.k=62/\ ∃(i:Nat) (av KP:Value) (css:List (List Value)),n+i=len/\UL bw H s'.H/\H.n+2<=s'.H.n/\(∀j,j<H.n->j≠bw->YQ tv≠some j->s'.H.blk j=H.blk j)/\NP s'.H bw m keep (L++Xg (args.take i)) KP/\(∀b,YQ KP=some b->YQ tv=some b\/H.n+2<=b)/\s'.H.blk H.n= .rw 1 [.int .i64 op,.bool neg,va,vd,vx]/\s'.H.blk (H.n+1)= .rw 1 [.int .i64 0,.bool false,.slice none 0 0,.slice none 0 0]/\Uw 4 s'.H av css/\TO s'.H css (YN (args.take i))/\(∀b,YQ av=some b->H.n+2<=b/\YQ KP≠some b)/\(keep=true\/(YN (args.take i)).any FD.isUnd=false)/\s'.tm.get 0=some (.pointer (some ⟨bw,0,none⟩))/\s'.tm.get 3=some (.pointer (some ⟨H.n,0,none⟩))/\s'.tm.get 4=some (.pointer (some ⟨H.n+1,0,none⟩))/\s'.tm.get 5=some av/\s'.tm.get 6=some (.bool ((YN (args.take i)).any FD.isUnd))/\s'.tm.get 12=some vx/\s'.tm.get 13=some (.int .i64 (len:Int))/\s'.tm.get 14=some (.int .i64 (i:Int))) ?_ len _ ⟨rfl,0,.slice none 0 0,tv,[],by omega,k2.kat bw,by show H.n+2<=H2.n;omega,fun j hj _ _=>k2.blk j hj,by simpa[Xg]using GJ.keep k2,fun b hb=> .inl hb,q0,q1,.nil,by simp[YN,TO],(fun b hb=>by cases hb),by simp[YN],by simp,by simp,by simp,by simp,by simp[YN],by simp,by simp,by simp⟩;rintro n' ⟨k,tm,Hc⟩ ⟨hk,i,av,KP,css,mR,iz,nHc,frc,aC,mM,qx,qz,hLa,xS,Cj,hky,u0,u3,u4,u5,u6,B2,KO,IK⟩ Q' YF;simp only at hk iz nHc frc aC qx qz hLa xS u0 u3 u4 u5 u6 B2 KO IK;subst hk;obtain⟨a,ha⟩:=hid ((YN (args.take i)).any FD.isUnd);rw[<-ha]at u6 hky;have kc0:Zh H0 Hc:=iz H0 k0 gT;have VO:=xS.len;have zu: ∀b,YQ KP=some b->bw<=b:=fun b hb=>by
    rcases mM b hb with h|h;·exact htv b h
    ·omega
   apply Zb;intro b3 ZH;simp[KO,IK,Nn];subst ZH;apply Zf;intro b3 ZH;by_cases hi:i<len;·refine Za (t:=true) (by simp[hi]) ?_;apply Zl;subst ZH;obtain⟨ti,Ic⟩: ∃ti,args[i]?=some ti:=⟨args[i]'(by omega),List.getElem?_eq_getElem (by omega)⟩;have gD:=RU Ic;obtain⟨p,us,N6,gK,Ax⟩:=h3.at Ic;have YO:=gK Hc kc0;obtain⟨H4,W4,k4,q8,n4⟩:=Za8 (H:=Hc) Ax.len Ax.ones;have gw:=aC.keep k4;have ib:=Vt (args.take i);obtain⟨o,H5,Kg,yC⟩:=ih ti (by omega) H0 H4 us bw m keep _ KP Ax (UR ws Ic) (Rl sk Ic) (by have:=Gk Ic;omega) hW (kc0.trans k4) gT gw zu (by rw[List.length_append,ib];omega);have l8:=Ud q8 Ax.len;apply Zf;intro b3 ZH;apply Zu;apply Zb;intro b4 Yt;simp[B2,IK,N6,YO,J7,Value.cells,W4];subst Yt;apply Zf;intro b4 Yt;cases o with
    |pan v=>obtain⟨Nf,RA,rfl,WN⟩:=yC;have c5:=F7 Kg;have p5:=K7 Kg;apply Cv;simp[u0,l8,c5,p5,Ys,Ye];apply YF;simp[TY,Ys,Ye];refine⟨Nf,?_,rfl,(iz.trans (k4.kat bw)).trans WN⟩;have:(YN args).any FD.isUnd=true:=List.any_eq_true.mpr ⟨ti.fold,by rw[Vj];exact List.mem_map.mpr ⟨ti,List.mem_of_getElem? Ic,rfl⟩,RA⟩;simp only[ET.fold];rw[if_pos this];rfl
    |ret x=>
     obtain⟨hkd,fvs,tv5,rfl,mW,gx,zt,n5,lw5,WN,rN⟩:=yC;have c5:=O5 Kg;have f45:=As gw gx.1 (by obtain⟨_,_,_,h,_⟩:=gx;exact h.shape) n5 rN;obtain⟨H6,WU,k6,q9,n6⟩:=A3 (H:=H5) mW.len mW.ones;apply Zg;simp[u0,l8,c5,X7,Value.cells,WU];subst Yt;have hfv6:=mW.fr k6.fr;obtain⟨p1,p2,p3,rfl,Co⟩:=mW.trio;have OP:=mW.ones;refine Y6 (fun s'=>s'.k=62/\s'.H=H6/\s'.tm.get 0=some (.pointer (some ⟨bw,0,none⟩))/\s'.tm.get 3=some (.pointer (some ⟨H.n,0,none⟩))/\s'.tm.get 4=some (.pointer (some ⟨H.n+1,0,none⟩))/\s'.tm.get 5=some av/\s'.tm.get 6=some (.bool (a||ti.fold.isUnd))/\s'.tm.get 9=some (.pointer (some ⟨H5.n,0,none⟩))/\s'.tm.get 12=some vx/\s'.tm.get 13=some (.int .i64 (len:Int))/\s'.tm.get 14=some (.int .i64 (i:Int))) ?_ ?_;·intro KI XW;cases a with|true=>apply Zg;simp[u6];apply XW;exact⟨rfl,rfl,by simp[u0],by simp[u3],by simp[u4],by simp[u5],by simp,by simp,by simp[B2],by simp[KO],by simp[IK]⟩|false=>apply Zg;simp[u6,Kd,TG q9,Md];apply XW;exact⟨rfl,rfl,by simp[u0],by simp[u3],by simp[u4],by simp[u5],by simp,by simp,by simp[B2],by simp[KO],by simp[IK]⟩
     clear u0 u3 u4 u5 u6 B2 KO IK;rintro⟨k,D7,Hx⟩ ⟨hk,xM,u0,u3,u4,u5,u6,u9,B2,KO,IK⟩;simp only at hk xM u0 u3 u4 u5 u6 u9 B2 KO IK;subst hk;subst xM;have xE:Uw 4 Hx av css:=by have h4:=hLa.keep k4;have h5:Uw 4 H5 av css:=h4.frame n5 fun b hb=>rN b (h4.blk_lt hb).1 (by have:=(Cj b hb).1;omega) (Cj b hb).2;exact h5.keep k6
     have hFa6:=((xS.fr k4.fr).fr f45).fr k6.fr;obtain⟨G,hG⟩:=hid (Hx.new 4 [.int .i64 ti.fold.kind,p1,p2,p3]);have kG:Zh Hx G:=by rw[hG];exact Zh.new _ _ _
     have nG:G.n=Hx.n+1:=by rw[hG];rfl
     have bG:G.blk Hx.n= .rw 4 [.int .i64 ti.fold.kind,p1,p2,p3]:=by rw[hG,AH.blk_new,if_pos rfl]
     have Ck:=Ai Hx (.int .i64 ti.fold.kind) p1 p2 p3;rw[<-hG]at Ck;have GG:(YN (args.take i)).length=i:=by rw[Vj,List.length_map,List.length_take];omega
     obtain⟨H7,Oz,n7,JK,xF,Nf,EI⟩:=(xE.keep kG).append (by decide) bG rfl OP sFs (by decide) X7 rfl (by omega);have PM:UL bw G H7:=by cases G7:YQ av with|none=>exact(Nf G7).1.kat bw|some b=>exact(EI b G7).1.weak (by have:=(Cj b G7).1;omega)
     have nn:Hc.n<=H4.n:=k4.n;have nn6:=k6.n;have f7:Fr G H7:=⟨by omega,fun j hj=>by
      by_cases e:YQ av=some j;·exact .inr (.inl ⟨4,_,((xE.keep kG).blk_lt e).2,by decide⟩)
      ·exact .inl (JK j hj e)⟩;have hFo7:NP H7 bw m keep (L++Xg (args.take i)++ti.parts) tv5:=by have xN:=(gx.keep k6).keep kG;obtain⟨g1,g2,css5,g3,g4⟩:=xN;refine⟨(JK bw g2 (fun e=>by have:=(Cj bw e).1;omega)).trans g1,by omega,css5,g3.frame (by omega) fun b hb=>JK b (g3.blk_lt hb).1 (fun e=>?_),g4.fr f7⟩;have h1:=zt b hb;have h2:=(hLa.blk_lt e).1;omega
     have ES: ∀j,j<H4.n->j≠bw->YQ KP≠some j->YQ av≠some j->H7.blk j=Hc.blk j\/Hc.n<=j:=fun j hj h1 h2 h3=>by
      rcases Nat.lt_or_ge j Hc.n with h|h;·refine .inl ?_;rw[JK j (by omega) h3,kG.blk j (by omega),k6.blk j (by omega),rN j hj h1 h2,k4.blk j h]
      ·exact .inr h
     have old: ∀j,j<H.n+2->j≠bw->YQ tv≠some j->H7.blk j=Hc.blk j:=fun j hj h1 h2=>by
      rcases ES j (by omega) h1 (fun e=>by
       rcases mM j e with h|h;·exact h2 h
       ·omega) (fun e=>by have:=(Cj j e).1;omega)with h|h;·exact h
      ·omega
     have htn: ∀j,H.n<=j->YQ tv≠some j:=fun j hj e=>by obtain⟨_,_,c0,M3,_⟩:=GJ;have:=(M3.blk_lt e).1;omega
     apply Zg;simp[u5,u9,Q1 q9,Ck,Oz];simp[Ye];subst ZH;apply Zg;simp[IK,Vv (x:=i) (by omega)];apply YF;refine⟨n'-1,by omega,rfl,i+1,.slice (some ⟨G.n,0,none⟩) (css.length+1) (css.length+1),tv5,css++[[.int .i64 ti.fold.kind,p1,p2,p3]],by omega,(((((iz.trans (k4.kat bw)).trans WN).trans (k6.kat bw)).trans (kG.kat bw)).trans PM),by show H.n+2<=H7.n;omega,fun j hj h1 h2=>(old j (by omega) h1 h2).trans (frc j hj h1 h2),?_,fun b hb=> .inr (by have:=zt b hb;omega),(old _ (by omega) (by omega) (htn _ (by omega))).trans qx,(old _ (by omega) (by omega) (htn _ (by omega))).trans qz,xF,?_,(fun b hb=>?_),?_,by simp[u0],by simp[u3],by simp[u4],by simp,?_,by simp[B2],by simp[KO],by simp⟩;·rw[OK Ic,<-List.append_assoc];exact hFo7
     ·rw[Sc Ic];exact TO.append ((hfv6.fr kG.fr).fr f7) ((hFa6.fr kG.fr).fr f7)
     ·cases hb;refine⟨by omega,fun e=>?_⟩;obtain⟨_,_,c0,M3,_⟩:=gx;have:=(M3.blk_lt e).1;omega
     ·rcases hkd with h|h;·exact .inl h
      ·rcases hky with h'|h';·exact .inl h'
       ·right;rw[Sc Ic,List.any_append,<-ha,h'];simp[h]
     ·rw[Sc Ic,List.any_append,<-ha];simp[u6]
   ·refine Za (t:=false) (by simp[hi]) ?_;apply YZ;apply YF;left;refine⟨rfl,?_⟩;clear YF;obtain rfl:i=len:=by omega
    have Ie:args.take i=args:=List.take_of_length_le (by omega);rw[Ie]at aC xS ha;subst Ze;obtain⟨H4,W4,k4,nR,n4⟩:=V6 (H:=Hc) (k:= .int .i64 2) (p:= .bool false) (q:= .slice none 0 0) (r:= .slice none 0 0) rfl;have N8:(ET.node op neg abs den args).fold=if a=true then .und else Xc op neg (dv Zd abs) (dv Zd den) (YN args):=by simp only[ET.fold];rw[<-ha]
    obtain⟨T,hT⟩:=hid ((ET.node op neg abs den args).fold);rw[<-hT]at N8;have qx4:=k4.q qx;apply Zb;intro b1 Ze;simp[TN,X7,Value.cells,W4];subst Ze;refine Y6 (fun s'=>s'.k=62/\Zh Hc s'.H/\Hc.n<s'.H.n/\(∃cs,s'.H.blk Hc.n= .rw 1 cs/\Ub s'.H cs T)/\s'.tm.get 0=some (.pointer (some ⟨bw,0,none⟩))/\s'.tm.get 4=some (.pointer (some ⟨H.n+1,0,none⟩))/\s'.tm.get 10=some (.pointer (some ⟨Hc.n,0,none⟩))) ?_ ?_;·intro KI XW;apply Zb;intro b2 Zp;simp[u6];subst Zp;cases a with|true=>refine Za (t:=false) (by simp) ?_;apply Zl;apply XW;rw[if_pos rfl]at N8;exact⟨rfl,k4,by show Hc.n<H4.n;omega,⟨_,nR,by rw[N8];rfl⟩,by simp[u0],by simp[u4],by simp⟩|false=>rw[if_neg (by decide)]at N8;have gw:=aC.keep k4;have Re:=kc0.trans k4;obtain⟨x,H5,c5,k5,cs5,rfl,r9⟩:=uu (vx:=vx) (h1.keep Re) (h2.keep Re) da dd wa wd hgn (hLa.keep k4) (xS.fr k4.fr) (by rw[Vj,List.length_map]) ha.symm (fun g so=>by rw[Vj]at so;obtain⟨t',Bc,rfl⟩:=List.mem_map.mp so;obtain⟨j,hj⟩:=List.mem_iff_getElem?.mp Bc;exact(Kw _ t' (Nat.le_refl _) (Rl sk hj) (UR ws hj)).1) (Nat.le_trans (Ho sk ws) sG) (fun e=>by have b1:=NL da;have b2:=NL dd;simp only[ET.wt,if_pos e]at Bd;omega) gw.1 gw.2.1 (hW.keep Re);rw[<-N8]at r9;have ub:=k5.q nR;obtain⟨H6,WU,n6,ub,b6,Vg,yr⟩:=W3 ub rfl r9;have hlX:=Ud (vs:=[.int .i64 op,.bool neg,va,vd,vx]) qx4 rfl;have n5:=k5.n;have k6:Zh Hc H6:=Vg Hc (k4.trans k5) (Nat.le_refl _);refine Za (t:=true) (by simp) ?_;apply Zg;simp[u0,u3,u5,hlX,c5,WU];apply XW;exact⟨rfl,k6,by show Hc.n<H6.n;omega,⟨_,ub,yr⟩,by simp[u0],by simp[u4],by simp⟩
    clear u0 u3 u4 u5 u6 B2 KO IK;rintro⟨k,D7,Hd⟩ ⟨hk,zN,nHd,⟨cs,nR,yu⟩,u0,u4,RM⟩;simp only at hk zN nHd nR yu u0 u4 RM;subst hk;have Jq:=aC.keep zN;have qzd:=zN.q qz;have Ig:=yu.ones;obtain⟨c1,c2,c3,rfl,Co⟩:=yu.trio;have kad:UL bw H Hd:=iz.trans (zN.kat bw);by_cases zb:keep=false/\T.isUnd=true;·obtain⟨Nf,RA⟩:=zb;subst Nf;apply Zf;intro b1 Ze;apply Zb;intro b2 Zp;simp[RM,Kd,TG nR,Md,RA,u0,pR,AF Jq.1];subst Zp;refine Za (t:=true) (by simp) ?_;apply Cv;simp[bUnd,zU,Ys];exact⟨rfl,by rw[<-hT];exact RA,rfl,kad⟩
    ·refine Y6 (fun s'=>s'.k=62/\s'.H=Hd/\s'.tm.get 0=some (.pointer (some ⟨bw,0,none⟩))/\s'.tm.get 4=some (.pointer (some ⟨H.n+1,0,none⟩))/\s'.tm.get 10=some (.pointer (some ⟨Hc.n,0,none⟩))) ?_ ?_;·intro KI XW;apply Zf;intro b2 Zp;cases RA:T.isUnd with
      |false=>apply Zg;simp[RM,Kd,TG nR,Md,RA];subst Zp;refine Za (t:=false) (by simp) ?_;apply Zl;apply XW;exact⟨rfl,rfl,by simp[u0],by simp[u4],by simp[RM]⟩
      |true=>
       have EI:keep=true:=by cases keep with|true=>rfl|false=>exact absurd ⟨rfl,RA⟩ zb
       subst EI;apply Zg;simp[RM,Kd,TG nR,Md,RA,u0,pR,AF Jq.1];subst Zp;refine Za (t:=false) (by simp) ?_;apply Zl;apply XW;exact⟨rfl,rfl,by simp[u0],by simp[u4],by simp[RM]⟩
     clear u0 u4 RM;rintro⟨k,tm3,Hx⟩ ⟨hk,xM,u0,u4,RM⟩;simp only at hk xM u0 u4 RM;subst hk;subst xM;have yT:keep=true\/T.isUnd=false:=by cases keep with
      |true=>exact .inl rfl
      |false=>cases RA:T.isUnd with|false=>exact .inr rfl|true=>exact absurd ⟨rfl,RA⟩ zb
     obtain⟨Sb,hLt,hFt⟩:=Jq.2.2;have YR:=hFt.len;have ib:=Vt args;rw[List.length_append,ib]at YR;obtain⟨Gc,ml⟩:=hid (grown Hx (Hx.top.new 4 [.int .i64 T.kind,c1,c2,c3]));have s6:Zh Hx Gc:=by rw[ml];exact Yc (.refl _) (Zh.new _ _ _)
     have nGc:Gc.n=Hx.n+1:=by rw[ml];rfl
     have bGc:Gc.blk Hx.n= .rw 4 [.int .i64 T.kind,c1,c2,c3]:=by rw[ml,(Yo (Zh.new Hx.top 4 _)).blk Hx.n (Nat.lt_succ_self _) (fun e=>by cases e),AH.blk_new,if_pos (show Hx.n=Hx.top.n from rfl)]
     have Ck:=Ai Hx.top (.int .i64 T.kind) c1 c2 c3;obtain⟨He,Oz,ne,cf,mo,Nf,EI⟩:=((hLt.keep s6).keep (Uj Gc)).append (by decide) (show Gc.top.blk Hx.n=_ from bGc) rfl Ig sFs (by decide) X7 rfl (by omega);have ne:He.n=Gc.n+1:=ne;have mo:Uw 4 He (.slice (some ⟨Gc.n,0,none⟩) (Sb.length+1) (Sb.length+1)) (Sb++[[.int .i64 T.kind,c1,c2,c3]]):=mo;have Oz:Xr Tryz.prog Gc.top 83 83 KP (.slice (some ⟨Hx.n,0,none⟩) 1 1)=some (.slice (some ⟨Gc.n,0,none⟩) (Sb.length+1) (Sb.length+1),He):=Oz;have htvn: ∀b,YQ KP=some b->b<Hx.n:=fun b hb=>(hLt.blk_lt hb).1;have fin: ∀G3:AH,Tp none He G3->UL bw Gc G3-> ∃Hs,YX Tryz.prog G3.top 83 (.pointer (some ⟨bw,1,none⟩)) (.slice (some ⟨Gc.n,0,none⟩) (Sb.length+1) (Sb.length+1))=some Hs/\G3.n<=Hs.n/\Hs.lw<G3.n/\ ∀G4,G4=low G3 Hs->(G4.n=He.n/\G4.lw<=bw)/\NP G4 bw m keep (L++Xg args++[T]) (.slice (some ⟨Gc.n,0,none⟩) (Sb.length+1) (Sb.length+1))/\UL bw Hx G4/\(∀j,j<Hx.n->j≠bw->YQ KP≠some j->G4.blk j=Hx.blk j)/\Fr Hx G4:=fun G3 bt iZ=>by
      have hbw3:G3.blk bw= .rw 1 [.map (some m),KP,.bool keep]:=by have Ze:=Jq.2.1;rw[bt.blk bw (by omega) (fun e=>by cases e),cf bw (by show bw<Gc.n;omega) (fun e=>by have h:=(hLt.blk_lt e).2;rw[Jq.1]at h;cases h)];exact(s6.blk _ Ze).trans Jq.1
      have ZH:bw<G3.n:=by rw[bt.n];have:=Jq.2.1;omega
      obtain⟨Hs,ss,sn,slw,fn,fb,fo,fk⟩:=tB (v:= .slice (some ⟨Gc.n,0,none⟩) (Sb.length+1) (Sb.length+1)) hbw3 ZH rfl rfl;refine⟨Hs,ss,by omega,by omega,fun G4 uD=>?_⟩;have lw4:G4.lw<=bw:=by rw[uD];exact Nat.le_trans (Nat.min_le_right _ _) slw
      rw[<-uD]at fn fb fo fk;have n4:G4.n=He.n:=by rw[fn,bt.n]
      have yw: ∀j,j<Hx.n->j≠bw->YQ KP≠some j->G4.blk j=Hx.blk j:=fun j hj h1 h2=>by rw[fo j h1,bt.blk j (by omega) (fun e=>by cases e),cf j (by show j<Gc.n;omega) h2];exact s6.blk j hj
      have fr:Fr Hx G4:=As Jq fb ⟨_,_,_,rfl⟩ (by omega) yw;refine⟨⟨n4,lw4⟩,⟨fb,by have:=Jq.2.1;omega,_,mo.frame (by omega) fun b hb=>?_,?_⟩,((s6.kat bw).trans iZ).trans fk,yw,fr⟩;·cases hb;have:=Jq.2.1;rw[fo Gc.n (by omega),bt.blk Gc.n (by omega) (fun e=>by cases e)]
      ·exact TO.append (yu.fr fr) (hFt.fr fr)
     refine Y6 (fun s'=>s'.k=62/\(s'.H.n=He.n/\s'.H.lw<=bw)/\NP s'.H bw m keep (L++Xg args++[T]) (.slice (some ⟨Gc.n,0,none⟩) (Sb.length+1) (Sb.length+1))/\UL bw Hx s'.H/\(∀j,j<Hx.n->j≠bw->YQ KP≠some j->s'.H.blk j=Hx.blk j)/\Fr Hx s'.H/\s'.tm.get 4=some (.pointer (some ⟨H.n+1,0,none⟩))/\s'.tm.get 10=some (.pointer (some ⟨Hc.n,0,none⟩))) ?_ ?_
     ·intro KI XW;apply YI (by kernel_rfl);simp[u0,Hl];refine ZK (v:=KP) rfl rfl rfl (by rw[ZN rfl];simp[KW (H:=AH.top Hx) Jq.1]) ?_;simp[RM];refine ZK (v:= .agg #[.int .i64 T.kind,c1,c2,c3]) rfl rfl rfl (by rw[ZN rfl];simp[RM,Q1 (H:=AH.top Hx) nR]) ?_;simp;refine YW (v:= .slice (some ⟨Hx.n,0,none⟩) 1 1) (H2:=Hx.top.new 4 [.int .i64 T.kind,c1,c2,c3]) rfl rfl rfl ?_ (Nat.le_succ _) (Nat.le_refl _) ?_;·rw[ZN rfl];simp[Ck];rfl
      rw[<-ml];have pD:Nat.blt Hx.n (Hx.top.new 4 [.int .i64 T.kind,c1,c2,c3]).n=true:=by rw[Nat.blt_eq];exact Nat.lt_succ_self _
      rw[pD,cond_true];have hid: ∀bits:Nat,bits.testBit 6=true-> ∀x∈[((6:Nat),Hx.n,(Hx.top.new 4 [.int .i64 T.kind,c1,c2,c3]).n)],bits.testBit x.1=true:=fun bits b6 x hx=>by rw[List.mem_singleton.mp hx];exact b6
      simp;cases FK:YQ KP with
       |none=>
        refine YW (v:= .slice (some ⟨Gc.n,0,none⟩) (Sb.length+1) (Sb.length+1)) (H2:=He) rfl rfl rfl ?_ (by omega) (by rw[(Nf FK).2];exact Nat.le_refl _) ?_;·rw[ZN (Yq (hid _ (by kernel_rfl)))];simp[Oz]
        have bt:Tp none He (grown Gc He):=Yo (Nf FK).1;have iZ:UL bw Gc (grown Gc He):=(Yc (.refl _) (Nf FK).1).kat bw;obtain⟨Hs,ss,sn,slw,V4⟩:=fin _ bt iZ;obtain⟨f1,f2,f3,f4,f5⟩:=V4 _ rfl;have CA:Nat.blt Gc.n He.n=true:=by rw[Nat.blt_eq];omega
        rw[CA,cond_true];simp[u0,Hl];refine YE (v:= .tuple #[]) (H2:=Hs) rfl rfl (by kernel_rfl) (Yq fun x hx=>?_) ?_ sn slw ?_
        ·rcases List.mem_cons.mp hx with e|e;·rw[e];kernel_rfl
         ·exact hid _ (by kernel_rfl) x e
        ·show Z6 _ _ _ _ (grown Gc He).top _=_;simp[ss]
        simp;apply XW;exact⟨rfl,f1,f2,f3,f4,f5,by simp[u4],by simp[RM]⟩
       |some b=>
        have Ze:=EI b FK;refine YE (v:= .slice (some ⟨Gc.n,0,none⟩) (Sb.length+1) (Sb.length+1)) (H2:=He) rfl rfl (by kernel_rfl) (Yq (hid _ (by kernel_rfl))) ?_ (by omega) (by have h2:b<Gc.n:=Ze.2.2;have h3:=Ze.2.1;omega) ?_;·show Z6 _ _ _ _ Gc.top _=_;simp[Oz]
        have bt:Tp none He (low Gc He):=Mh Gc He;have iZ:UL bw Gc (low Gc He):=Qw (Ze.1.weak (zu b FK));obtain⟨Hs,ss,sn,slw,V4⟩:=fin _ bt iZ;obtain⟨f1,f2,f3,f4,f5⟩:=V4 ({ n:=Hs.n,lw:=min Gc.lw (min He.lw Hs.lw),t:=Hs.t } :AH) (by simp[low,Nat.min_assoc]);have CA:Nat.blt Gc.n He.n=true:=by rw[Nat.blt_eq];omega
        rw[CA,cond_true];simp[u0,Hl];refine YE (v:= .tuple #[]) (H2:=Hs) rfl rfl (by kernel_rfl) (Yq fun x hx=>?_) ?_ sn slw ?_
        ·rcases List.mem_cons.mp hx with e|e;·rw[e];kernel_rfl
         ·exact hid _ (by kernel_rfl) x e
        ·show Z6 _ _ _ _ (low Gc He).top _=_;simp[ss]
        simp;apply XW;exact⟨rfl,f1,f2,f3,f4,f5,by simp[u4],by simp[RM]⟩
     clear u0 u4 RM;rintro⟨k,oo,Hf⟩ ⟨hk,⟨nHf,lwf⟩,xQ,kaf,frf,f5,u4,RM⟩;simp only at hk nHf lwf xQ kaf frf f5 u4 RM;subst hk;have htn: ∀j,H.n<=j->j<H.n+2->YQ KP≠some j:=fun j hj hj2 e=>by
      rcases mM j e with h|h;·obtain⟨_,_,c0,M3,_⟩:=GJ;have:=(M3.blk_lt h).1;omega
      ·omega
     have ntc:YQ KP≠some Hc.n:=fun e=>by obtain⟨_,_,c0,M3,_⟩:=aC;have:=(M3.blk_lt e).1;omega
     have q10f:=(frf _ nHd (by omega) ntc).trans nR;have qzf:=(frf _ (by omega) (by omega) (htn _ (by omega) (by omega))).trans qzd;have se:=yu.fr f5;obtain⟨H9,jW,n9,q9,b9,zO,hf9⟩:=W3 qzf rfl se;have fr9:=Fr.put qzf q9 n9 b9 rfl rfl se.noU;have hFo9:NP H9 bw m keep (L++Xg args++[T]) (.slice (some ⟨Gc.n,0,none⟩) (Sb.length+1) (Sb.length+1)):=xQ.off (b:=H.n+1) (by omega) (fun e=>by injection e with e;omega) n9 b9 fr9;have lw9:H9.lw<=Hf.lw:=by obtain⟨X,sx,_,_,_,_,lx⟩:=WB (H:=Hf) (o:=0) VD qzf (v:= .agg ([.int .i64 T.kind,c1,c2,c3]:List Value).toArray) (ws:=[.int .i64 T.kind,c1,c2,c3]) (by simp[Value.cells]) rfl (by simp) se.ones;rw[jW]at sx;injection sx with e;rw[e,lx];exact Nat.min_le_left _ _
     have hl9:=XB q9 rfl;try simp at jW hl9
     apply Zb;intro b1 Ze;simp[RM,u4,Q1 q10f,jW];subst Ze;apply Zq;simp[u4,hl9];refine⟨by rw[<-hT];exact yT,[.int .i64 T.kind,c1,c2,c3],.slice (some ⟨Gc.n,0,none⟩) (Sb.length+1) (Sb.length+1),rfl,by rw[<-hT];exact hf9,?_,fun b hb=>?_,by omega,Nat.le_trans lw9 lwf,(kad.trans kaf).trans (zO.weak (by omega)),fun j hj h1 h2=>?_⟩;·rw[QW,<-hT,<-List.append_assoc];exact hFo9
     ·cases hb;omega
     ·rw[b9 _ (by omega),frf _ (by omega) h1 (fun e=>by
      rcases mM j e with h|h;·exact h2 h
      ·omega),zN.blk _ (by omega)];exact frc j hj h1 h2
end
theorem tR:Yw Tryz.prog .neq 20 .nilIface .nilIface=some (.bool false):=by kernel_rfl
theorem np:Yw Tryz.prog .neq 20 cG .nilIface=some (.bool true):=by kernel_rfl
theorem wI:Kq Tryz.prog cG 148 true=some (.tuple #[.agg #[],.bool true]):=by kernel_rfl
theorem zUnd:Vd Tryz.prog 148=some (.agg #[]):=by kernel_rfl
theorem sUnd:Xn Tryz.prog 148=some 0:=by kernel_rfl
theorem tQ(H:AH): ∃H',YX Tryz.prog (H.new 1 []) 148 (.pointer (some ⟨H.n,0,none⟩)) (.agg #[])=some H'/\Zh H H'/\H'.blk H.n= .rw 1 []/\H'.n=H.n+1:=Xe sUnd rfl rfl rfl rfl
theorem lT(m:Nat):WZ Tryz.prog 132 [(0,.map (some m))]=some (.agg #[.map (some m),.slice none 0 0,.bool false]):=by rfl
theorem eO(m:Nat):WZ Tryz.prog 132 [(0,.map (some m)),(2,.bool true)]=some (.agg #[.map (some m),.slice none 0 0,.bool true]):=by rfl
theorem Dr:plain cG=true:=rfl
structure TreeOk (H : AH) (vs : List Value) (t : ET) : Prop where
  tin : Qc H vs t
  good : t.allGood = true
  wt : t.wt <= 67108864
theorem TreeOk.keep{H H':AH}{vs:List Value}{t:ET}(h:TreeOk H vs t)(k:Zh H H'):TreeOk H' vs t:=⟨h.tin.keep k,h.good,h.wt⟩
section
variable {H : AH} {vs : List Value} {t : ET}
theorem Eu{b:Nat}{K:AH->Prop}(hK:K H):Cr Tryz.prog Zw 95 [.pointer (some ⟨b,0,none⟩)] .nilIface H K:=by refine WJ 16 Tryz.func95 rfl rfl ?_;refine eo (by kernel_rfl) ?_;apply WI (by kernel_rfl);apply Zg;simp[WQ,isRec];apply Zb;intro b1 Ze;simp[-Yw,tR];subst Ze;refine Za (t:=false) (by simp) ?_;apply Zl;simp;exact hK
theorem Ew{b:Nat}{k' p' q' r':Value}{K:AH->Prop}(hb:H.blk b= .rw 1 [k',p',q',r'])(hn:b<H.n)(hK: ∀H',UL b H H'->H.n<=H'.n->H'.blk b= .rw 1 [.int .i64 2,.bool false,.slice none 0 0,.slice none 0 0]->K H'):Cr Tryz.prog Zw 95 [.pointer (some ⟨b,0,none⟩)] cG H K:=by obtain⟨H2,TP,k2,q2,n2⟩:=tQ H;have Zp:=(k2.blk _ hn).trans hb;obtain⟨H3,S7,n3,q3,b3,Nk⟩:=tC (k:=2) Zp (p:= .bool false) (q:= .slice none 0 0) (r:= .slice none 0 0) ⟨⟨_,rfl⟩,⟨_,_,_,rfl⟩,⟨_,_,_,rfl⟩⟩;refine WJ 16 Tryz.func95 rfl rfl ?_;refine eo (by kernel_rfl) ?_;apply WI (by kernel_rfl);apply Zg;simp[WQ,isRec,Dr,-plain];apply Zb;intro b1 Ze;simp[-Yw,np];subst Ze;refine Za (t:=true) (by simp) ?_;apply Zf;intro b1 Ze;apply Zb;intro b2 Zp;simp[wI,zUnd,Value.cells,TP];subst Zp;apply Zb;intro b2 Zp;simp;subst Zp;refine Za (t:=false) (by simp) ?_;apply Zl;subst Ze;apply Zg;simp[TN,S7];exact hK H3 ((k2.kat b).trans Nk) (by omega) q3
theorem Ey(h:TreeOk H vs t): ∃us H',ZY Tryz.prog Zw 67 [.agg vs.toArray] H=some (.agg us.toArray,H')/\Zh H H'/\Ub H' us t.fold:=by
 suffices hs:CW Tryz.prog Zw 67 [.agg vs.toArray] H fun x H'=> ∃us:List Value,x= .agg us.toArray/\Zh H H'/\Ub H' us t.fold by obtain⟨x,H',hc,us,rfl,k⟩:=hs;exact⟨us,H',hc,k⟩
 have hl:=h.tin.ex.len;obtain⟨H2,e2,k2,n2,q0,q1⟩:=Y7 H vs [.int .i64 0,.bool false,.slice none 0 0,.slice none 0 0];obtain⟨m,H3,c3,k3,hW⟩:=J6 H2;obtain⟨H4,FP⟩:=hid (H3.new 1 [.map (some m),.slice none 0 0,.bool false]);have k4:Zh H3 H4:=by rw[FP];exact Zh.new _ _ _
 have n4:H4.n=H3.n+1:=by rw[FP];rfl
 have q4:H4.blk H3.n= .rw 1 [.map (some m),.slice none 0 0,.bool false]:=by rw[FP,AH.blk_new,if_pos rfl]
 have n3:=k3.n;have q0':=(k4.blk _ (by omega)).trans (k3.q q0);have kT:=(k4.blk _ (by omega)).trans (k3.q q1);have hX:=Ud q0' hl;obtain⟨o,H5,Kg,yC⟩:=Hq _ t (Nat.le_refl _) H3 H4 vs H3.n m false [] (.slice none 0 0) ((h.tin.ex.keep k2).keep k3) h.tin.wide h.good h.wt hW k4 (Nat.le_refl _) ⟨q4,by omega,[],.nil,trivial⟩ (fun b hb=>by cases hb) (by have:=h.tin.nodes;simp;omega);have kk:=k2.trans k3;refine W8 11 (by decide) (by decide) Tryz.func67 rfl rfl rfl ?_;intro b1 Ze;apply Zg;simp[Value.cells,X7,Xm,e2];refine⟨_,_,⟨rfl,rfl⟩,?_⟩;subst Ze;apply Zb;intro b1 Ze;simp[c3,lT,Value.cells,<-FP];subst Ze;cases o with
  |ret x=>obtain⟨_,us,KP,rfl,r9,gx,_,n5,_,WN,rN⟩:=yC;have c5:=O5 Kg;have ua:=(rN _ (by omega) (by omega) (by simp[YQ])).trans kT;obtain⟨H6,WU,n6,q6,b6,Vg,yr⟩:=W3 ua rfl r9;have k6:Zh H H6:=Vg H (WN H (kk.trans k4) (by have:=kk.n;omega)) (by omega);have YO:=XB q6 yr.len;apply Zb;intro b1 Ze;simp[hX,c5,WU];subst Ze;apply Zq;simp[VG];refine Eu ?_;simp[YO];exact⟨k6,yr⟩
  |pan v=>
   obtain⟨_,RA,rfl,WN⟩:=yC;have c5:=F7 Kg;have p5:=K7 Kg;have UC:t.fold= .und:=by cases hf:t.fold with|und=>rfl|opn=>rw[hf]at RA;cases RA|rat _ _ _=>rw[hf]at RA;cases RA
   rw[UC];have k5:Zh H3 H5:=WN H3 k4 (Nat.le_refl _);have ua:=(k5.blk _ (by omega)).trans (k3.q q1);apply Zf;intro b1 Ze;apply Cv;simp[hX,c5,p5,Ys,VG,Dr,-plain];refine⟨cG,by rfl,?_⟩;have n5:=k5.n;refine Ew ua (by omega) fun H6 Vg n6 q6=>?_;simp[Q1 q6];first|exact⟨Vg H (kk.trans k5) (by omega),rfl⟩|exact⟨_,rfl,Vg H (kk.trans k5) (by omega),rfl⟩
theorem Ly(h:TreeOk H vs t)(hc:W0 t=0): ∃us H',ZY Tryz.prog Zw 27 [.agg vs.toArray] H=some (.tuple #[.agg us.toArray,.int .i64 0],H')/\Zh H H'/\Ub H' us t.fold:=by
 suffices hs:CW Tryz.prog Zw 27 [.agg vs.toArray] H fun x H'=> ∃us:List Value,x= .tuple #[.agg us.toArray,.int .i64 0]/\Zh H H'/\Ub H' us t.fold by obtain⟨x,H',hc,us,rfl,k⟩:=hs;exact⟨us,H',hc,k⟩
 have hl:=h.tin.ex.len;obtain⟨H2,e2,k2,n2,q0,q1⟩:=Y7 H vs [.int .i64 0,.bool false,.slice none 0 0,.slice none 0 0];have K:=k2;have z0:=q0;obtain⟨H3,c3,k3⟩:=O6 (h.tin.keep K);have n3:=k3.n;have K:=K.trans k3;replace q0:=k3.q q0;replace q1:=k3.q q1;rw[hc]at c3;replace c3:ZY Tryz.prog Zw 28 [.agg vs.toArray] H2=some (.int .i64 0,H3):=c3;have z1:=q0;obtain⟨us,H4,c4,k4,hf⟩:=Ey (h.keep K);have n4:=k4.n;have K:=K.trans k4;replace q1:=k4.q q1;obtain⟨H5,Xz,n5,q5,b5,WN,r9⟩:=W3 q1 rfl hf;have K:=WN _ K (by omega);have YO:=XB q5 r9.len;refine Z8 13 Tryz.func27 ?_;apply Zb;intro b1 Ze;simp[Value.cells,X7,Xm,e2];subst Ze;apply Zf;intro b1 Ze;apply Zb;intro b2 Zp;simp[Ud z0 hl,c3];subst Zp;apply Zb;intro b2 Zp;simp[T7];subst Zp;refine Za (t:=false) (by simp) ?_;apply Zl;subst Ze;apply Zb;intro b1 Ze;simp[Ud z1 hl,c4,Xz];subst Ze;apply Zq;simp[YO];exact⟨K,r9⟩
end
theorem uI:XR Tryz.prog 77=some true:=by kernel_rfl
theorem Cq:Xn Tryz.prog 77=some 4:=by kernel_rfl
theorem J8:Vd Tryz.prog 77=some (.agg #[.int .i64 0,.bool false,.slice none 0 0,.slice none 0 0]):=by kernel_rfl
theorem Hm(b o:Nat):Yn Tryz.prog 77 (.pointer (some ⟨b,o,none⟩)) 0=some (.pointer (some ⟨b,o,none⟩)):=by kernel_rfl
theorem pQ(b o:Nat):Yn Tryz.prog 77 (.pointer (some ⟨b,o,none⟩)) 1=some (.pointer (some ⟨b,o+1,none⟩)):=by kernel_rfl
theorem tu{H:AH}{b:Nat}{k p q r:Value}(hb:H.blk b= .rw 1 [k,p,q,r]):Z7 Tryz.prog H 77 (.pointer (some ⟨b,0,none⟩))=some (.agg #[k,p,q,r]):=XG hb (by decide) rfl rfl uI Cq
theorem Mg{H:AH}{b:Nat}{k p q r:Value}(hb:H.blk b= .rw 1 [k,p,q,r]):Z7 Tryz.prog H 3 (.pointer (some ⟨b,0,none⟩))=some k:=Z0 L9 (AH.cells_rw' hb (by decide)) rfl
theorem m8{H:AH}{b:Nat}{k p q r:Value}(hb:H.blk b= .rw 1 [k,p,q,r]):Z7 Tryz.prog H 42 (.pointer (some ⟨b,1,none⟩))=some (.agg #[p,q,r]):=XG hb (by decide) rfl rfl aR sR
theorem CO(b:Nat):Yn Tryz.prog 77 (.pointer (some ⟨b,0,none⟩)) 1=some (.pointer (some ⟨b,1,none⟩)):=pQ b 0
def XE(H:AH)(vs:List Value):FD->Prop| .opn=>vs=[.int .i64 0,.bool false,.slice none 0 0,.slice none 0 0]| .und=>vs=[.int .i64 2,.bool false,.slice none 0 0,.slice none 0 0]| .rat s A B=> ∃p q,vs=[.int .i64 1,.bool s,p,q]/\Sl H p (ds Z4 A)/\Sl H q (ds Z4 B)
theorem XE.trio{H:AH}{vs:List Value}{f:FD}(h:XE H vs f): ∃p q r,vs=[.int .i64 f.kind,p,q,r]/\Te p q r:=by cases f with|opn=>exact⟨_,_,_,h,⟨_,rfl⟩,⟨_,_,_,rfl⟩,⟨_,_,_,rfl⟩⟩|und=>exact⟨_,_,_,h,⟨_,rfl⟩,⟨_,_,_,rfl⟩,⟨_,_,_,rfl⟩⟩|rat s A B=>obtain⟨p,q,e,h1,h2⟩:=h;exact⟨_,p,q,e,⟨_,rfl⟩,h1.shape,h2.shape⟩
theorem XE.len{H:AH}{vs:List Value}{f:FD}(h:XE H vs f):vs.length=4:=by obtain⟨p,q,r,rfl,_⟩:=h.trio;rfl
theorem XE.ones{H:AH}{vs:List Value}{f:FD}(h:XE H vs f):vs.all one=true:=by obtain⟨p,q,r,rfl,⟨s,rfl⟩,⟨a,l,c,rfl⟩,⟨a',l',c',rfl⟩⟩:=h.trio;rfl
theorem XE.noU{H:AH}{vs:List Value}{f:FD}(h:XE H vs f):noU vs=true:=by obtain⟨p,q,r,rfl,⟨s,rfl⟩,⟨a,l,c,rfl⟩,⟨a',l',c',rfl⟩⟩:=h.trio;rfl
theorem XE.fr{H H':AH}{vs:List Value}{f:FD}(h:XE H vs f)(k:Fr H H'):XE H' vs f:=by cases f with|opn=>exact h|und=>exact h|rat s A B=>obtain⟨p,q,e,h1,h2⟩:=h;exact⟨p,q,e,h1.fr k,h2.fr k⟩
theorem eqBB(s:Bool):Yw Tryz.prog .eql 4 (.bool s) (.bool s)=some (.bool true):=by cases s<;>rfl
theorem wq{A:Nat}(h:Zn A<=67108864):(ds Z4 A).length<=WT:=by have h1:A<2^Zn A:=WG A;have h2:2^Zn A<=Z4^(Zn A):=Nat.pow_le_pow_left (by decide) _;have:=X9 two32 (Nat.lt_of_lt_of_le h1 h2);show(ds Z4 A).length<=2000000000000;omega
section
variable {H : AH} {u v w z : Value}
theorem Mp(e:Int)(H:AH):ZY Tryz.prog Zw 13 [.int .i64 e] H=some (.int .i64 e,H):=by
 suffices h:CW Tryz.prog Zw 13 [.int .i64 e] H fun v H'=>v= .int .i64 e/\H'=H by obtain⟨v,H',hc,rfl,rfl⟩:=h;exact hc
 refine Z8 4 Tryz.func13 ?_;apply Zb;intro b1 Ze;simp;subst Ze;apply Zb;intro b1 Ze;simp;subst Ze;apply Zq;simp
theorem AK{A:Nat}(h:Sl H v (ds Z4 A))(hw:Sl H w (ds Zd A))(lA:Zn A<=67108864): ∃H',ZY Tryz.prog Zw 65 [v,w] H=some (.bool true,H')/\Zh H H':=by obtain⟨x,H',hc,k,e⟩:=mI h hw (Yu two32 A) (Nat.le_trans (wq lA) (by decide));rw[je,decide_eq_true rfl]at e;subst e;exact⟨H',hc,k⟩
theorem JX{s:Bool}{A B:Nat}(h1:Sl H u (ds Zd A))(h2:Sl H v (ds Zd B))(h3:Sl H w (ds Z4 A))(h4:Sl H z (ds Z4 B))(lA:Zn A<=67108864)(lB:Zn B<=67108864): ∃H',ZY Tryz.prog Zw 24 [.agg #[.bool s,u,v],.agg #[.bool s,w,z]] H=some (.bool true,H')/\Zh H H':=by
 suffices h:CW Tryz.prog Zw 24 [.agg #[.bool s,u,v],.agg #[.bool s,w,z]] H fun v H'=>v= .bool true/\Zh H H' by obtain⟨v,H',hc,rfl,k⟩:=h;exact⟨H',hc,k⟩
 obtain⟨H2,e2,k2,n2,q0,q1⟩:=Y7 H [.bool s,u,v] [.bool s,w,z];have K:=k2;have z0:=q0;have z1:=q1;obtain⟨H3,c3,k3⟩:=AK (h3.keep K) (h1.keep K) lA;have n3:=k3.n;have K:=K.trans k3;replace q0:=k3.q q0;replace q1:=k3.q q1;have y0:=q0;have y1:=q1;obtain⟨H4,c4,k4⟩:=AK (h4.keep K) (h2.keep K) lB;have n4:=k4.n;have K:=K.trans k4;refine Z8 26 Tryz.func24 ?_;apply Zb;intro b1 Ze;simp[Value.cells,Xm,e2];subst Ze;apply Zb;intro b1 Ze;simp[SP,VQ,Ke,Na,Tk,Ox,NB,PL z0,TE z1,VW z0,Ur z1,-Yw,eqBB,c3,VL y0,Us y1,c4];subst Ze;apply Zq;simp;exact K
theorem Me(H:AH): ∃H',ZY Tryz.prog Zw 20 [.agg #[.bool false,.slice none 0 0,.slice none 0 0]] H=some (.bool true,H')/\Zh H H':=by
 suffices h:CW Tryz.prog Zw 20 [.agg #[.bool false,.slice none 0 0,.slice none 0 0]] H fun v H'=>v= .bool true/\Zh H H' by obtain⟨v,H',hc,rfl,k⟩:=h;exact⟨H',hc,k⟩
 obtain⟨H2,e2,k2,n2,q0⟩:=XI H [.bool false,.slice none 0 0,.slice none 0 0];have ln:SL Tryz.prog 30 (.slice none 0 0)=some 0:=by kernel_rfl
 refine Z8 20 Tryz.func20 ?_;apply Zb;intro b1 Ze;simp[Value.cells,e2];subst Ze;apply Zb;intro b1 Ze;simp[SP,VQ,Tk,Ox,PL q0,VW q0,VL q0,ln,show Zc .eql .i64 0 0=some (.bool true)from rfl];subst Ze;apply Zq;simp;exact k2
def FD.fit:FD->Prop| .rat _ A B=>Zn A<=67108864/\Zn B<=67108864|_=>True
theorem FD.fit_of{f:FD}(h:f.w<=67108864):f.fit:=by cases f with|opn=>trivial|und=>trivial|rat s A B=>have h:max (Zn A) (Zn B)+1<=67108864:=h;exact⟨by omega,by omega⟩
theorem UA{us ws:List Value}{f:FD}(h:Ub H us f)(h':XE H ws f)(hf:f.fit): ∃H',ZY Tryz.prog Zw 36 [.agg us.toArray,.agg ws.toArray] H=some (.bool true,H')/\Zh H H':=by
 suffices hs:CW Tryz.prog Zw 36 [.agg us.toArray,.agg ws.toArray] H fun v H'=>v= .bool true/\Zh H H' by obtain⟨v,H',hc,rfl,k⟩:=hs;exact⟨H',hc,k⟩
 have hh:=h;have AW:=h';obtain⟨p,q,r,rfl,_⟩:=h.trio;obtain⟨p',q',r',rfl,_⟩:=h'.trio;obtain⟨H2,e2,k2,n2,q0,q1⟩:=Y7 H [.int .i64 f.kind,p,q,r] [.int .i64 f.kind,p',q',r'];have gn:Zc .neq .i64 f.kind f.kind=some (.bool false):=by rw[TV,decide_eq_false (by omega)]
 refine Z8 21 Tryz.func36 ?_;apply Zb;intro b1 Ze;simp[Value.cells,Xm,e2];subst Ze;apply Zf;intro b1 Ze;apply Zb;intro b2 Zp;simp[Kd,TG q0,Hm,Mg q1,gn];subst Zp;refine Za (t:=false) (by simp) ?_;apply Zl;subst Ze;apply Zf;intro b1 Ze;apply Zb;intro b2 Zp;simp[Hm,Mg q1,T1];subst Zp;cases f with|rat s A B=>obtain⟨_,_,e,h1,h2,_⟩:=hh;obtain⟨_,_,e',h3,h4⟩:=AW;cases e;cases e';obtain⟨H3,c3,k3⟩:=JX (s:=s) (h1.keep k2) (h2.keep k2) (h3.keep k2) (h4.keep k2) hf.1 hf.2;refine Za (t:=true) (by simp[FD.kind]) ?_;apply Zb;intro b2 Zp;simp[GN,M8 q0,CO,m8 q1,c3];subst Zp;apply Zq;simp[Ys];exact k2.trans k3|opn=>cases hh;cases AW;obtain⟨H3,c3,k3⟩:=Me H2;refine Za (t:=false) (by simp[FD.kind]) ?_;apply Zl;subst Ze;apply Zb;intro b1 Ze;simp[GN,M8 q0,c3];subst Ze;apply Zq;simp;exact k2.trans k3|und=>cases hh;cases AW;obtain⟨H3,c3,k3⟩:=Me H2;refine Za (t:=false) (by simp[FD.kind]) ?_;apply Zl;subst Ze;apply Zb;intro b1 Ze;simp[GN,M8 q0,c3];subst Ze;apply Zq;simp;exact k2.trans k3
end
theorem wF{a b:Value}{x:Bool}(ha: ∃s l c,a= .slice s l c)(hb: ∃s l c,b= .slice s l c):WZ Tryz.prog 53 [(0,.int .i64 0),(1,.agg #[.bool x,a,b])]=some (.agg #[.int .i64 0,.bool x,a,b,.slice none 0 0]):=by obtain⟨s,l,c,rfl⟩:=ha;obtain⟨s',l',c',rfl⟩:=hb;rfl
theorem eM{a:Value}{op:Int}(ha: ∃s l c,a= .slice s l c):WZ Tryz.prog 53 [(0,.int .i64 op),(2,a)]=some (.agg #[.int .i64 op,.bool false,.slice none 0 0,.slice none 0 0,a]):=by obtain⟨s,l,c,rfl⟩:=ha;rfl
theorem bXop{op:Int} :WZ Tryz.prog 53 [(0,.int .i64 op)]=some (.agg #[.int .i64 op,.bool false,.slice none 0 0,.slice none 0 0,.slice none 0 0]):=by rfl
theorem sXs:WK Tryz.prog 51=some (53,5,88):=by kernel_rfl
theorem bXs1(H:AH)(v0 v1 v2 v3 v4:Value):Yz Tryz.prog H 51 1 [(0,.agg #[v0,v1,v2,v3,v4])]=some (.slice (some ⟨H.n,0,none⟩) 1 1,H.new 5 [v0,v1,v2,v3,v4]):=by unfold Yz;simp only[sXs,J7];kernel_rfl
theorem bXs2(H:AH)(v0 v1 v2 v3 v4 w0 w1 w2 w3 w4:Value):Yz Tryz.prog H 51 2 [(0,.agg #[v0,v1,v2,v3,v4]),(1,.agg #[w0,w1,w2,w3,w4])]=some (.slice (some ⟨H.n,0,none⟩) 2 2,H.new 5 [v0,v1,v2,v3,v4,w0,w1,w2,w3,w4]):=by unfold Yz;simp only[sXs,J7];kernel_rfl
theorem Ex.five{H:AH}{vs:List Value}{t:ET}(h:Ex H vs t): ∃op s va vd vx,vs=[.int .i64 op,.bool s,va,vd,vx]:=by cases h;exact⟨_,_,_,_,_,rfl⟩
theorem Xs.one{H:AH}{vs:List Value}{t:ET}(h:Ex H vs t): ∃H',H'=H.new 5 vs/\Zh H H'/\Xs H' (.slice (some ⟨H.n,0,none⟩) 1 1) [t]:=by refine⟨_,rfl,Zh.new _ _ _,?_⟩;have hk:=h.keep (Zh.new H 5 vs);have hl:=h.len;refine .mk H.n 0 1 (cs:=vs) (args:=[t]) (Nat.lt_succ_self _) (Vy H 5 vs) (Nat.le_refl _) fun i t' hi=>?_;match i,hi with|0,hi=>simp at hi;subst hi;rw[Nat.zero_mul,Nat.add_zero,List.drop_zero,List.take_of_length_le (by omega)];exact hk
theorem Xs.two{H:AH}{vs ws:List Value}{t s:ET}(h:Ex H vs t)(h':Ex H ws s): ∃H',H'=H.new 5 (vs++ws)/\Zh H H'/\Xs H' (.slice (some ⟨H.n,0,none⟩) 2 2) [t,s]:=by refine⟨_,rfl,Zh.new _ _ _,?_⟩;have hk:=h.keep (Zh.new H 5 (vs++ws));have OY:=h'.keep (Zh.new H 5 (vs++ws));have hl:=h.len;have Ng:=h'.len;refine .mk H.n 0 2 (cs:=vs++ws) (args:=[t,s]) (Nat.lt_succ_self _) (Vy H 5 _) (Nat.le_refl _) fun i t' hi=>?_;match i,hi with|0,hi=>simp at hi;subst hi;rw[Nat.zero_mul,Nat.add_zero,List.drop_zero,List.take_append_of_le_length (by omega),List.take_of_length_le (by omega)];exact hk|1,hi=>simp at hi;subst hi;rw[show 0+1*5=vs.length by omega,List.drop_left,List.take_of_length_le (by omega)];exact OY
theorem Xs.shape{H:AH}{v:Value}{l:List ET}(h:Xs H v l): ∃s a c,v= .slice s a c:=by cases h<;>exact⟨_,_,_,rfl⟩
theorem Ex.args{H:AH}{v:Value}{l:List ET}{op:Int}(h:Xs H v l):Ex H [.int .i64 op,.bool false,.slice none 0 0,.slice none 0 0,v] (.node op false [] [] l):= .mk .nil .nil h
def Uh(x:Nat):ET:= .node 0 false [x] [1] []
section
variable {H : AH} {u v w z : Value}
theorem NU{x:Nat}(hx:x<9223372036854775808)(H:AH): ∃us H',ZY Tryz.prog Zw 51 [.int .i64 (x:Int)] H=some (.agg us.toArray,H')/\Zh H H'/\Ex H' us (Uh x):=by
 suffices h:CW Tryz.prog Zw 51 [.int .i64 (x:Int)] H fun r H'=> ∃us:List Value,r= .agg us.toArray/\Zh H H'/\Ex H' us (Uh x) by obtain⟨r,H',hc,us,rfl,k⟩:=h;exact⟨us,H',hc,k⟩
 obtain⟨H2,e2,k2,n2,q0⟩:=XI H [.int .i64 0,.bool false,.slice none 0 0,.slice none 0 0,.slice none 0 0];obtain⟨a,H3,c3,k3,o3⟩:=Pq H2 (t:=30) Zv x;obtain⟨b,H4,c4,k4,o4⟩:=Pq H3 (t:=30) Zv 1;have c4:Yz Tryz.prog H3 30 1 [(0,.int .u64 1)]=some (b,H4):=c4;have kV:=o3.m k4;have n3:=k3.n;have q4:=(k4.blk _ (by omega)).trans (k3.q q0);have hE:Ex H4 [.int .i64 0,.bool false,a,b,.slice none 0 0] (Uh x):= .mk kV.sl o4.sl .nil;obtain⟨H5,Xz,n5,q5,b5,WN⟩:=RR JB q4 rfl (v:= .agg #[.int .i64 0,.bool false,a,b,.slice none 0 0]) (ws:=[.int .i64 0,.bool false,a,b,.slice none 0 0]) rfl rfl hE.ones;have k5:Zh H H5:=WN H ((k2.trans k3).trans k4) (by omega);have o5:=kV.off (b:=H.n) (by omega) n5 b5;have o6:=o4.off (b:=H.n) (by omega) n5 b5;have YO:=Ud q5 rfl;have cv:=Tt (n:=x) (Nat.lt_trans hx (by decide));refine Z8 10 Tryz.func51 ?_;apply Zb;intro b1 Ze;simp[Value.cells,J7,e2];subst Ze;apply Zb;intro b1 Ze;simp[cv,c3,c4,P6 o3.shape,O1 (x:=false) o3.shape o4.shape,wF o3.shape o4.shape,Xz];subst Ze;apply Zq;simp[YO];exact⟨k5,.mk o5.sl o6.sl .nil⟩
theorem CV: ∀n(t:ET),t.nodes<=n-> ∀(H:AH)(vs:List Value)(left:Int),Ex H vs t->left<=10000-> -1000000000<=left-(t.nodes:Int)->CW Tryz.prog Zw 66 [.agg vs.toArray,.int .i64 left] H fun x H'=> ∃c:Int,x= .int .i64 c/\left-(t.nodes:Int)<=c/\c<=left/\Zh H H':=by intro n;induction n with
 |zero=>intro t h;have:=Xu t;omega
 |succ n ih=>intro t ht H vs left hE bc C6;obtain⟨op,neg,abs,den,args⟩:=t;have xU:=hE;cases xU with
  |@mk _ _ va vd vx _ _ _ h1 h2 h3=>
   simp only[ET.nodes]at ht C6;simp only[ET.nodes];obtain⟨len,Ju⟩:=hid (args.length);have KZ:=h3.len;rw[<-Ju]at KZ;have pA:=U1 args;obtain⟨H2,e2,k2,n2,q0⟩:=XI H [.int .i64 op,.bool neg,va,vd,vx];have wr: ∀a:Int,-2000000000<=a->a<=2000000000->IntKind.i64.wrap a=a:=fun a h1 h2=>by rw[IntKind.wrap_i64];omega
   have g1:Zc .sub .i64 left 1=some (.int .i64 (left-1)):=by show some (Value.int .i64 (IntKind.i64.wrap (left-1)))=_;rw[wr _ (by omega) (by omega)]
   refine Z8 24 Tryz.func66 ?_;apply Zb;intro b1 Ze;simp[Value.cells,e2];subst Ze;apply Zb;intro b1 Ze;simp[g1];subst Ze;apply Zf;intro b1 Ze;apply Zb;intro b2 Zp;simp[Aq,iJ q0,KZ];subst Zp;apply Zu;refine Yv (fun n s'=>s'.k=24/\Zh H s'.H/\ ∃(i:Nat) (c:Int),n+i=len/\left-1-(Yp (args.take i):Int)<=c/\c<=left-1/\s'.tm.get 1=some (.int .i64 c)/\s'.tm.get 10=some vx/\s'.tm.get 11=some (.int .i64 (len:Int))/\s'.tm.get 12=some (.int .i64 (i:Int))) ?_ len _ ⟨rfl,k2,0,left-1,by omega,by simp[Yp],by omega,by simp,by simp,by simp,by simp⟩;rintro n' ⟨k,tm,Hc⟩ ⟨hk,kc,i,c,mR,Q9,N7,u1,RM,kQ,B2⟩ Q' YF;simp only at hk kc u1 RM kQ B2;subst hk;apply Zb;intro b3 ZH;simp[kQ,B2,Nn];subst ZH;apply Zf;intro b3 ZH;by_cases hi:i<len
   ·refine Za (t:=true) (by simp[hi]) ?_;apply Zl;subst ZH;obtain⟨ti,Ic⟩: ∃ti,args[i]?=some ti:=⟨args[i]'(by omega),List.getElem?_eq_getElem (by omega)⟩;have gD:=RU Ic;have hnp:=Xu ti;obtain⟨p,us,N6,gK,Ax⟩:=h3.at Ic;have YO:=gK Hc kc;obtain⟨H4,W4,k4,q8,n4⟩:=Za8 (H:=Hc) Ax.len Ax.ones;have l8:=Ud q8 Ax.len;obtain⟨x,H5,c5,cc,rfl,hcc1,hcc2,k5⟩:=ih ti (by omega) H4 us c (Ax.keep (kc.trans k4)) (by omega) (by omega);have gl:Zc .lss .i64 c 0=some (.bool (decide (c<0))):=ON;have Ie:Yp (args.take (i+1))=Yp (args.take i)+ti.nodes:=by rw[List.take_add_one,Ic,Un];simp[Yp]
    apply Zf;intro b3 ZH;apply Zu;apply Zb;intro b4 Yt;simp[RM,B2,N6,YO,J7,Value.cells,W4];subst Yt;apply Zf;intro b4 Yt;apply Zb;intro b5 Ui;simp[u1,gl];subst Ui;by_cases h0:c<0;·refine Za (t:=true) (by simp[h0]) ?_;apply Zb;intro b5 Ui;simp[u1];subst Ui;apply Zq;simp[Ys,Ye];apply YF;simp[TY,Ye,Ys];exact⟨by omega,by omega,kc.trans k4⟩
    ·refine Za (t:=false) (by simp[h0]) ?_;apply Zl;subst Yt;apply Zg;simp[l8,u1,c5];simp[Ye];subst ZH;apply Zg;simp[B2,Vv (x:=i) (by omega)];apply YF;exact⟨n'-1,by omega,rfl,(kc.trans k4).trans k5,i+1,cc,by omega,by rw[Ie];omega,by omega,by simp,by simp[RM],by simp[kQ],by simp⟩
   ·refine Za (t:=false) (by simp[hi]) ?_;apply YZ;apply YF;left;refine⟨rfl,?_⟩;obtain rfl:i=len:=by omega
    rw[List.take_of_length_le (by omega)]at Q9;subst Ze;apply Zb;intro b1 Ze;simp[u1];subst Ze;apply Zq;simp;exact⟨by omega,by omega,kc⟩
theorem CK{vs:List Value}{t:ET}(h:Ex H vs t)(hn:t.nodes<=2000000): ∃b H',ZY Tryz.prog Zw 26 [.agg vs.toArray] H=some (.bool b,H')/\Zh H H':=by
 suffices hs:CW Tryz.prog Zw 26 [.agg vs.toArray] H fun v H'=> ∃b,v= .bool b/\Zh H H' by obtain⟨v,H',hc,b,rfl,k⟩:=hs;exact⟨b,H',hc,k⟩
 obtain⟨H2,e2,k2,n2,q0⟩:=XI H vs;obtain⟨x,H3,c3,c,rfl,h1,h2,k3⟩:=CV _ t (Nat.le_refl _) H2 vs 10000 (h.keep k2) (by omega) (by omega);have gl:Zc .lss .i64 c 0=some (.bool (decide (c<0))):=ON;refine Z8 6 Tryz.func26 ?_;apply Zb;intro b1 Ze;simp[Value.cells,e2];subst Ze;apply Zb;intro b1 Ze;simp[Ud q0 h.len,c3,gl];subst Ze;apply Zq;simp;exact⟨by omega,k2.trans k3⟩
end
def DE:ET:= .node 10 false [] [] [Uh 9]
def JI:ET:= .node 6 false [] [] [.node 1 false [] [] [],.node 4 false [] [] [Uh 1,Uh 1]]
theorem rt9:rt 9=3:=(rt_eq ⟨by decide,by decide⟩).symm
theorem rt1:rt 1=1:=(rt_eq ⟨by decide,by decide⟩).symm
theorem fU(x:Nat):dv Zd [x]=x:=by simp[dv]
theorem Hp(x:Nat):(Uh x).fold= .mk (Ya false x 1):=by show(if(YN []).any FD.isUnd=true then FD.und else Xc 0 false (dv Zd [x]) (dv Zd [1]) (YN []))=_;rw[fU,fU];rfl
theorem CL:DE.fold= .rat false 3 1:=by
 have h:YN [Uh 9]=[.rat false 9 1]:=by show[(Uh 9).fold]=_;rw[Hp];rfl
 show(if(YN [Uh 9]).any FD.isUnd=true then FD.und else Xc 10 false (dv Zd []) (dv Zd []) (YN [Uh 9]))=_;rw[h];show Xx 10 false 9 1=_;unfold Xx Vw;simp only[rt9,rt1];rfl
theorem Et:JI.fold= .und:=by
 have h1:(Uh 1).fold= .rat false 1 1:=by rw[Hp];rfl
 have h2:(ET.node 4 false [] [] [Uh 1,Uh 1]).fold= .rat false 0 1:=by
  have h:YN [Uh 1,Uh 1]=[.rat false 1 1,.rat false 1 1]:=by show[(Uh 1).fold,(Uh 1).fold]=_;rw[h1]
  show(if(YN [Uh 1,Uh 1]).any FD.isUnd=true then FD.und else Xc 4 false (dv Zd []) (dv Zd []) (YN [Uh 1,Uh 1]))=_;rw[h];rfl
 have h3:(ET.node 1 false [] [] []).fold= .opn:=rfl;have h:YN [.node 1 false [] [] [],.node 4 false [] [] [Uh 1,Uh 1]]=[.opn,.rat false 0 1]:=by show[(ET.node 1 false [] [] []).fold,(ET.node 4 false [] [] [Uh 1,Uh 1]).fold]=_;rw[h2,h3]
 show(if(YN [.node 1 false [] [] [],.node 4 false [] [] [Uh 1,Uh 1]]).any FD.isUnd=true then FD.und else Xc 6 false (dv Zd []) (dv Zd []) (YN [.node 1 false [] [] [],.node 4 false [] [] [Uh 1,Uh 1]]))=_;rw[h];rfl
theorem Am{x:Nat}(h:x<Zd):YD Zd [x]:=fun y hy=>by rw[List.mem_singleton.mp hy];exact h
theorem Rg:YD Zd []:=fun y hy=>by cases hy
theorem Ld{x:Nat}(h:x<Zd):(Uh x).wide 1048576:=⟨show 1<=1048576 by decide,by decide,Am h,Am (by decide),trivial⟩
theorem jY{H:AH}{vs:List Value}(h:Ex H vs DE)(hr:RowsIn H):TreeOk H vs DE/\W0 DE=0:=⟨⟨⟨h,hr,⟨by decide,by decide,Rg,Rg,Ld (by decide),trivial⟩,by decide⟩,rfl,by decide⟩,rfl⟩
theorem cw{H:AH}{vs:List Value}(h:Ex H vs JI)(hr:RowsIn H):TreeOk H vs JI/\W0 JI=0:=⟨⟨⟨h,hr,⟨by decide,by decide,Rg,Rg,⟨by decide,by decide,Rg,Rg,trivial⟩,⟨by decide,by decide,Rg,Rg,Ld (by decide),Ld (by decide),trivial⟩,trivial⟩,by decide⟩,rfl,by decide⟩,rfl⟩
theorem eN:WZ Tryz.prog 77 [(0,.int .i64 2)]=some (.agg #[.int .i64 2,.bool false,.slice none 0 0,.slice none 0 0]):=by rfl
theorem F4:WZ Tryz.prog 77 []=some (.agg #[.int .i64 0,.bool false,.slice none 0 0,.slice none 0 0]):=by rfl
theorem wG{p q r:Value}(ht:Te p q r):WZ Tryz.prog 77 [(0,.int .i64 1),(1,.agg #[p,q,r])]=some (.agg #[.int .i64 1,p,q,r]):=by obtain⟨⟨s,rfl⟩,⟨a1,l1,c1,rfl⟩,⟨a2,l2,c2,rfl⟩⟩:=ht;rfl
section
variable {H : AH} {u v w z : Value}
theorem O0(hr:RowsIn H): ∃H',ZY Tryz.prog Zw 14 [] H=some (.bool true,H')/\Zh H H':=by
 suffices h:CW Tryz.prog Zw 14 [] H fun v H'=>v= .bool true/\Zh H H' by obtain⟨v,H',hc,rfl,k⟩:=h;exact⟨H',hc,k⟩
 obtain⟨us9,H2,c2,k2,x2⟩:=NU (x:=9) (by decide) H;replace c2:ZY Tryz.prog Zw 51 [.int .i64 9] H=some (.agg us9.toArray,H2):=c2;obtain⟨o9,s9,a9,b9,d9,rfl⟩:=x2.five;obtain⟨H3,e3,k3,xs3⟩:=Xs.one x2;have x3:Ex H3 _ DE:=Ex.args (op:=10) xs3;have kA:=k2.trans k3;obtain⟨ok3,ch3⟩:=jY x3 (hr.keep kA);obtain⟨fs,H4,c4,k4,f4⟩:=Ly ok3 ch3;rw[CL]at f4;have f4':=f4;obtain⟨p4,q4,rfl,sp4,sq4,low4⟩:=f4';obtain⟨H5,Xz,k5,y5,n5⟩:=A3 (H:=H4) f4.len f4.ones;have kB:=(kA.trans k4).trans k5;obtain⟨us1,H6,c6,k6,x6⟩:=NU (x:=1) (by decide) H5;replace c6:ZY Tryz.prog Zw 51 [.int .i64 1] H5=some (.agg us1.toArray,H6):=c6;obtain⟨us2,H7,c7,k7,x7⟩:=NU (x:=1) (by decide) H6;replace c7:ZY Tryz.prog Zw 51 [.int .i64 1] H6=some (.agg us2.toArray,H7):=c7;have x6':=x6.keep k7;obtain⟨o1,s1,a1,b1',d1,rfl⟩:=x6'.five;obtain⟨o2,s2,a2,b2',d2,rfl⟩:=x7.five;obtain⟨H8,e8,k8,xs8⟩:=Xs.two x6' x7;have x8:Ex H8 _ (.node 4 false [] [] [Uh 1,Uh 1]):=Ex.args (op:=4) xs8;have xpi:Ex H8 _ (.node 1 false [] [] []):=Ex.args (op:=1) .nil;obtain⟨H9,e9,k9,xs9⟩:=Xs.two xpi x8;have x9:Ex H9 _ JI:=Ex.args (op:=6) xs9;simp only[List.cons_append,List.nil_append]at e8 e9;have kC:=((kB.trans k6).trans k7).trans (k8.trans k9);obtain⟨ok9,ch9⟩:=cw x9 (hr.keep kC);obtain⟨gs,Ry,lG,Sg,f10⟩:=Ly ok9 ch9;rw[Et]at f10;obtain rfl:=f10;obtain⟨IG,st11,Sh,dg,n11⟩:=V6 (H:=Ry) (k:= .int .i64 2) (p:= .bool false) (q:= .slice none 0 0) (r:= .slice none 0 0) rfl;have kD:=(kC.trans Sg).trans Sh;have kE:=(((k6.trans k7).trans (k8.trans k9)).trans Sg).trans Sh;have nE:=kE.n;have y5':=kE.q y5;have vL:=k5.trans kE;have K:=kD;have y5'a:=y5';have y11a:=dg;have cE: ∀{J:AH}(k:Zh IG J){bits ms},(∀x∈ms,IG.n<=x.2.1)-> ∀b,b<IG.n->(P0 J bits ms).blk b=IG.blk b:=fun k _ _ h b hb=>(Xp k h).blk b hb;obtain⟨ip,iq,Cs,S5,Xj,j1,j2⟩:=X2 (H:=IG.top) (n:=3) (by decide);obtain⟨Ko,X8,Wy,Bw⟩:=cg Xj;have XQ:=Wy;have Nt:=XQ.n;have K:=K.trans Wy;replace j1:=j1.gr Xj X8;replace j2:=j2.gr Xj X8;replace S5:ZY _ _ _ [Value.int .i64 3] _=_:=S5;have Co:Te (.bool false) ip iq:=⟨⟨_,rfl⟩,j1.shape,j2.shape⟩;have V4:Ub Ko.top [.int .i64 1,.bool false,p4,q4] (.rat false 3 1):=f4.fr ((vL.trans Wy).top).fr;obtain⟨jF,Ks,Vf⟩:=UA (us:=[.int .i64 1,.bool false,p4,q4]) (ws:=[.int .i64 1,.bool false,ip,iq]) (f:= .rat false 3 1) V4 ⟨_,_,rfl,j1.sl.top,j2.sl.top⟩ ⟨by decide,by decide⟩;obtain⟨SA,UD,W5,kX⟩:=cg Vf;have WM:=XQ.trans W5;have IY:=WM.n;have K:=K.trans W5;obtain⟨Ia3,xj,Bl⟩:=UA (H:=SA.top) (us:=[.int .i64 2,.bool false,.slice none 0 0,.slice none 0 0]) (ws:=[.int .i64 2,.bool false,.slice none 0 0,.slice none 0 0]) (f:= .und) rfl rfl trivial;obtain⟨Ja3,gZ,iw,ma3⟩:=cg Bl;have iY:=WM.trans iw;have nka3:=iY.n;have K:=K.trans iw;refine Z8 42 Tryz.func14 ?_;apply Zb;intro b1 Ze;simp;subst Ze;apply Zb;intro b1 Ze;simp[c2,bXs1,<-e3,eM,c4,X7,Value.cells,Xz];subst Ze;apply Zb;intro b1 Ze;simp[bXop,c6,c7,bXs2,<-e8,eM,<-e9,lG,X7,Value.cells,st11];subst Ze;apply Zf;intro b1 Ze;apply YI (by kernel_rfl);simp;refine Xq (v:= .int .i64 0) (by simp[Mp]) ?_;simp[show Zc .eql .i64 0 0=some (.bool true)from rfl];refine Xq (v:= .agg #[.int .i64 1,.bool false,p4,q4]) (by simp[Q1 (H:=AH.top IG) y5'a]) ?_;simp;refine Y4 (v:= .agg #[.bool false,ip,iq]) (Ww.nil IG.n) Xj X8 (by simp[S5]) fun Nr QH=>?_;simp[wG Co];refine Y4 (v:= .bool true) QH Vf UD (by simp[Ks]) fun IZ IF=>?_;simp;refine ZK (v:= .int .i64 0) rfl rfl rfl (by rw[ZN (IF.hid (by kernel_rfl))];simp[Mp]) ?_;simp[show Zc .eql .i64 0 0=some (.bool true)from rfl];refine ZK (v:= .agg #[.int .i64 2,.bool false,.slice none 0 0,.slice none 0 0]) rfl rfl rfl (by simp[Q1 ((cE WM IF.ge _ (by omega)).trans y11a)]) ?_;simp[eN];refine Y4 (v:= .bool true) IF Bl gZ (by simp[xj]) fun msa3 Ma3=>?_;simp;subst Ze;apply Zq;simp;exact K
end
end
end
end Go.Proofs.YtmkfecoeghokfaaGreatDoor
