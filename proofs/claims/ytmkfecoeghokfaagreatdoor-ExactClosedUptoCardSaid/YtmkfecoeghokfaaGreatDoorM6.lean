/-
  The engine and the walks that the claim's last text leans on, part 6 of 9: Sh, Si, Sj, Sk, Sl, Sm, Sn, So, Sp, Sq, Sr, Ss, St, Su, Sv, Sw, Sx, Sy, Sz, Ua, Ub, Uc, Ud.
-/
import Derived.Test.YtmkfecoeghokfaaGreatDoorM5
namespace Go.Proofs.YtmkfecoeghokfaaGreatDoor
open Go Ev
set_option linter.unusedVariables false
set_option linter.unusedSimpArgs false
noncomputable section
set_option maxRecDepth 20000
set_option maxHeartbeats 1000000
theorem Own.off{n b:Nat}{H H':AH}{w:Value}{xs:List Nat}(o:Own n H w xs)(hb:b<n)(hn:H'.n=H.n)(h: ∀j,j≠b→H'.blk j=H.blk j):Own n H' w xs:=o.but (b:=some b) ⟨hn,fun j _ hj=>h j (fun e=>hj (by rw[e]))⟩ (fun c hc hv=>by cases hc;have:=(o.blk_lo hv).1;omega)
section
attribute [-simp] Int.natCast_add Int.natCast_mul Int.natCast_ediv Int.natCast_emod Int.natCast_pow
attribute [local simp] strip Yd LW' LR gW Yf Xh Ya Xi Yo Xj Zr Zs Zh Yp Yy Yk Xo Zw Yq Zi Ze Xn Xm Je Ye Xa opd Qe Ym plain Yj Tr.get_set Qc Zp Xy Yc sameKind undef Zt Yr Yv Zk Yb parts unV DW Xq Zv LX Zy
section
variable {H : AH} {u v va vb : Value} {xs ys : List Nat} {A B : Nat}
theorem wfits_call(neg:Bool)(hs:Sl H u xs)(dx:Dig B64 xs)(lx:xs.length≤17592186044416)(hb:Zf (dv B64 xs)≤67108864): ∃a H',Zq Tryz.prog Zo 220 [.agg #[.bool neg,u]] H=some (.tuple #[.agg #[.bool (sg neg (dv B64 xs)),a],.int .i64 0],H')∧Keep H H'∧Own H.n H' a (ds B64 (dv B64 xs)):=by
 obtain⟨N,hN⟩: ∃N,N=dv B64 xs:=⟨_,rfl⟩;suffices h:CW Tryz.prog Zo 220 [.agg #[.bool neg,u]] H fun v H'=> ∃a,v= .tuple #[.agg #[.bool (sg neg N),a],.int .i64 0]∧Keep H H'∧Own H.n H' a (ds B64 N) by obtain⟨v,H',hc,a,rfl,k,o⟩:=h;rw[←hN];exact⟨a,H',hc,k,o⟩
 obtain⟨i1,i2⟩:=Sl.one1 hs|>fun h=>(⟨by obtain⟨a,l,c,rfl⟩:=hs.shape;rfl,h⟩:u.cells=#[u]∧one u=true);obtain⟨H2,e2,k2,n2,q1,q2⟩:=Jk H [.bool neg,u] [.bool false,.slice none 0 0];obtain⟨v0,H0,c0,e0,e0'⟩:=Uk (hs.keep k2) dx lx;rw[e0,e0',←hN]at c0;rw[←hN]at hb;obtain⟨w,H3,c3,k3,o3⟩:=Zi7 neg (hs.keep k2) dx lx;rw[←hN]at c3 o3;have q2':=k3.blk _ (show H.n+1<H2.n by omega);rw[q2]at q2';obtain⟨j1,j2⟩:=o3.cells1;obtain⟨S,hS⟩: ∃S,S=sg neg N:=⟨_,rfl⟩;rw[←hS]at c3⊢;obtain⟨H4,st4,n4,q4,b4,ka4⟩:=putW (p:= .bool S) (q:=w) q2' rfl j1 rfl j2;have k04:Keep H H4:=ka4 H (k2.trans k3) (by omega);have o4:=(o3.off (b:=H.n+1) (by omega) n4 b4).mono (show H.n≤H2.n by omega) (.refl _);have hld:=Er q4;obtain⟨L,hL⟩: ∃L,L=Zf N:=⟨_,rfl⟩;rw[←hL]at c0 hb;have g1:Zd .gtr .i64 (L:Int) 67108864=some (.bool false):=by have h:=Kc (k:= .i64) (x:=L) (y:=67108864);rw[decide_eq_false (by omega)]at h;exact h
 refine Zl 11 (by decide) (by decide) Tryz.func220 rfl rfl ?_;apply Zb;intro b1 hb1;apply Za;simp[Value.cells,Ba,Vl,e2];subst hb1;apply Zb;intro b1 hb1;apply Zb;intro b2 hb2;apply Za;simp[Fp,Kw q1,c0,g1];subst hb2;refine Zc (t:=false) (by simp) ?_;apply Zj;subst hb1;apply Zb;intro b1 hb1;apply Za;simp[Er q1,c3,st4];subst hb1;apply Zn;simp[hld];exact⟨k04,o4⟩
theorem Za0(neg:Bool)(hs:Sl H u xs)(dx:Dig B64 xs)(lx:xs.length≤17592186044416)(hb:Zf (dv B64 xs)≤67108864): ∃a H',Zq Tryz.prog Zo 194 [.bool neg,u,.int .i64 0] H=some (.tuple #[.agg #[.bool (sg neg (dv B64 xs)),a],.int .i64 0],H')∧Keep H H'∧Own H.n H' a (ds B64 (dv B64 xs)):=by
 obtain⟨N,hN⟩: ∃N,N=dv B64 xs:=⟨_,rfl⟩;suffices h:CW Tryz.prog Zo 194 [.bool neg,u,.int .i64 0] H fun v H'=> ∃a,v= .tuple #[.agg #[.bool (sg neg N),a],.int .i64 0]∧Keep H H'∧Own H.n H' a (ds B64 N) by obtain⟨v,H',hc,a,rfl,k,o⟩:=h;rw[←hN];exact⟨a,H',hc,k,o⟩
 obtain⟨H2,e2,k2,n2,q2⟩:=Vc H [.bool false,.slice none 0 0];obtain⟨w,H3,c3,k3,o3⟩:=wfits_call neg (hs.keep k2) dx lx hb;rw[←hN]at c3 o3;have q2':=k3.blk _ (show H.n<H2.n by omega);rw[q2]at q2';obtain⟨j1,j2⟩:=o3.cells1;obtain⟨S,hS⟩: ∃S,S=sg neg N:=⟨_,rfl⟩;rw[←hS]at c3⊢;obtain⟨H4,st4,n4,q4,b4,ka4⟩:=putW (p:= .bool S) (q:=w) q2' rfl j1 rfl j2;have k04:Keep H H4:=ka4 H (k2.trans k3) (by omega);have o4:=(o3.off (b:=H.n) (by omega) n4 b4).mono (show H.n≤H2.n by omega) (.refl _);have hld:=Er q4;have hbd:=Zb2 (b:=neg) (v:=u) hs.shape;refine Zl 18 (by decide) (by decide) Tryz.func194 rfl rfl ?_;apply Zb;intro b1 hb1;apply Za;simp[Value.cells,Ba,Vl,e2];subst hb1;apply Zb;intro b1 hb1;apply Zb;intro b2 hb2;apply Za;simp[Es];subst hb2;refine Zc (t:=false) (by simp) ?_;apply Zj;subst hb1;apply Zb;intro b1 hb1;apply Za;simp[hbd,c3,st4];subst hb1;apply Zn;simp[hld];exact⟨k04,o4⟩
theorem wOf_call{n:Nat}(hn:n<9223372036854775808): ∃a H',Zq Tryz.prog Zo 196 [.int .i64 (n:Int)] H=some (.agg #[.bool false,a],H')∧Keep H H'∧Own H.n H' a (ds B64 n):=by
 suffices h:CW Tryz.prog Zo 196 [.int .i64 (n:Int)] H fun v H'=> ∃a,v= .agg #[.bool false,a]∧Keep H H'∧Own H.n H' a (ds B64 n) by obtain⟨v,H',hc,a,rfl,k,o⟩:=h;exact⟨a,H',hc,k,o⟩
 have hnB:n<B64:=Nat.lt_trans hn (by decide);obtain⟨H2,e2,k2,n2,q2⟩:=Vc H [.bool false,.slice none 0 0];obtain⟨w,H3,c3,k3,o3⟩:=Fq (H:=H2) hnB;have q2':=k3.blk _ (show H.n<H2.n by omega);rw[q2]at q2';obtain⟨j1,j2⟩:=o3.cells1;obtain⟨H4,st4,n4,q4,b4,ka4⟩:=putW (p:= .bool false) (q:=w) q2' rfl j1 rfl j2;have k04:Keep H H4:=ka4 H (k2.trans k3) (by omega);have o4:=(o3.off (b:=H.n) (by omega) n4 b4).mono (show H.n≤H2.n by omega) (.refl _);have hld:=Er q4;have hbd:=Zd9 (v:=w) o3.shape;have cv:=Ze0 hnB;refine Zl 14 (by decide) (by decide) Tryz.func196 rfl rfl ?_;apply Zb;intro b1 hb1;apply Za;simp[Value.cells,Ba,Vl,e2];subst hb1;apply Zb;intro b1 hb1;apply Zb;intro b2 hb2;apply Za;simp[lss_neg];subst hb2;refine Zc (t:=false) (by simp) ?_;apply Zj;subst hb1;apply Zb;intro b1 hb1;apply Za;simp[cv,c3,hbd,st4];subst hb1;apply Zn;simp[hld];exact⟨k04,o4⟩
def Uq(neg:Bool)(N:Nat):Int:=if N=0 then 0 else if neg then-1 else 1
theorem wSign_call(neg:Bool)(hs:Sl H u xs)(dx:Dig B64 xs)(lx:xs.length≤17592186044416): ∃H',Zq Tryz.prog Zo 125 [.agg #[.bool neg,u]] H=some (.int .i64 (Uq neg (dv B64 xs)),H')∧Keep H H':=by
 obtain⟨N,hN⟩: ∃N,N=dv B64 xs:=⟨_,rfl⟩;suffices h:CW Tryz.prog Zo 125 [.agg #[.bool neg,u]] H fun v H'=>v= .int .i64 (Uq neg N)∧Keep H H' by obtain⟨v,H',hc,rfl,k⟩:=h;rw[←hN];exact⟨H',hc,k⟩
 obtain⟨S,hS⟩: ∃S,S=Uq neg N:=⟨_,rfl⟩;rw[←hS];unfold Uq at hS;obtain⟨H2,e2,k2,n2,q1⟩:=Vc H [.bool neg,u];obtain⟨v0,H0,c0,e0,e0'⟩:=Uk (hs.keep k2) dx lx;rw[e0,e0',←hN]at c0;obtain⟨L,hL⟩: ∃L,L=Zf N:=⟨_,rfl⟩;rw[←hL]at c0;have g1:=Vz (k:= .i64) (x:=L);have hLN:L=0↔N=0:=by rw[hL];exact Fk
 refine Zl 11 (by decide) (by decide) Tryz.func125 rfl rfl ?_;apply Zb;intro b1 hb1;apply Za;simp[Value.cells,Vl,e2];subst hb1;apply Zb;intro b1 hb1;apply Zx;apply Zb;intro b2 hb2;apply Za;simp[Fp,Kw q1,c0,g1];subst hb2;by_cases h0:L=0;·rw[if_pos (hLN.mp h0)]at hS;subst hS;refine Zc (t:=true) (by simp[h0]) ?_;apply Zb;intro b1 hb1;apply Za;simp;subst hb1;apply Zn;simp[Xw,Xk];exact k2
 ·rw[if_neg (fun h=>h0 (hLN.mpr h))]at hS;refine Zc (t:=false) (by simp[h0]) ?_;apply Zb;intro b2 hb2;apply Za;simp[Kz,El q1];subst hb2;cases neg with|true=>rw[if_pos rfl]at hS;subst hS;refine Zc (t:=true) (by simp) ?_;apply Zb;intro b1 hb1;apply Za;simp;subst hb1;apply Zn;simp[Xw,Xk];exact k2|false=>rw[if_neg (by decide)]at hS;subst hS;refine Zc (t:=false) (by simp) ?_;apply Zj;subst hb1;apply Zb;intro b1 hb1;apply Za;simp;subst hb1;apply Zn;simp;exact k2
theorem wMul_call(s t:Bool)(ha:Sl H u (ds B64 A))(hb:Sl H v (ds B64 B))(lA:(ds B64 A).length≤Lim)(lB:(ds B64 B).length≤Lim)(h:Zf (A*B)≤67108864): ∃a H',Zq Tryz.prog Zo 143 [.agg #[.bool s,u],.agg #[.bool t,v]] H=some (.tuple #[.agg #[.bool (sg (s !=t) (A*B)),a],.int .i64 0],H')∧Keep H H'∧Own H.n H' a (ds B64 (A*B)):=by
 suffices h:CW Tryz.prog Zo 143 [.agg #[.bool s,u],.agg #[.bool t,v]] H fun v H'=> ∃a,v= .tuple #[.agg #[.bool (sg (s !=t) (A*B)),a],.int .i64 0]∧Keep H H'∧Own H.n H' a (ds B64 (A*B)) by obtain⟨v,H',hc,a,rfl,k,o⟩:=h;exact⟨a,H',hc,k,o⟩
 obtain⟨H2,e2,k2,n2,q1,q2,q3⟩:=Zb3 H [.bool s,u] [.bool t,v] [.bool false,.slice none 0 0];obtain⟨w,H3,c3,k3,o3⟩:=Bj (ha.keep k2) (hb.keep k2) lA lB h;have q1':=k3.blk _ (show H.n<H2.n by omega);rw[q1]at q1';have q2':=k3.blk _ (show H.n+1<H2.n by omega);rw[q2]at q2';obtain⟨z,H4,c4,k4,o4⟩:=Za0 (s !=t) o3.sl (Xv Zz _) (Nat.le_trans (Zg h) (by decide)) (by rw[Qk Zz];exact h);rw[Qk Zz]at c4 o4;have q3':=(k3.trans k4).blk _ (show H.n+2<H2.n by omega);rw[q3]at q3';obtain⟨j1,j2⟩:=o4.cells1;obtain⟨S,hS⟩: ∃S,S=sg (s !=t) (A*B):=⟨_,rfl⟩;rw[←hS]at c4⊢;obtain⟨H5,st5,n5,q5,b5,ka5⟩:=putW (p:= .bool S) (q:=z) q3' rfl j1 rfl j2;have n3:=k3.n;have k05:Keep H H5:=ka5 H ((k2.trans k3).trans k4) (by omega);have o5:=(o4.off (b:=H.n+2) (by omega) n5 b5).mono (show H.n≤H3.n by omega) (.refl _);have hld:=Er q5;have gne:Xy Tryz.prog .neq 4 (.bool s) (.bool t)=some (.bool (s !=t)):=by cases s<;>cases t<;>rfl
 obtain⟨x,hx⟩: ∃x,x=(s !=t):=⟨_,rfl⟩;rw[←hx]at c4 gne;refine Zl 26 (by decide) (by decide) Tryz.func143 rfl rfl ?_;apply Zb;intro b1 hb1;apply Za;simp[Value.cells,Ba,Vl,e2];subst hb1;apply Zb;intro b1 hb1;apply Za;simp[Fp,Kw q1,Kw q2,c3];subst hb1;apply Zb;intro b1 hb1;apply Za;simp[Kz,El q1',El q2',-Xy,gne,c4,st5];subst hb1;apply Zn;simp[hld];exact⟨k05,o5⟩
end
end
theorem putL{H:AH}{t:TypeId}{n b:Nat}{cs ws:List Value}(ht:Qr Tryz.prog t=some n)(hb:H.blk b= .rw 1 cs)(hc:cs.length=n){v:Value}(hv:v.cells.toList=ws)(hw:ws.length=n)(h1:ws.all one=true): ∃H',Xp Tryz.prog H t (.pointer (some ⟨b,0,none⟩)) v=some H'∧H'.n=H.n∧H'.blk b= .rw 1 ws∧(∀j,j≠b→H'.blk j=H.blk j)∧KAt b H H'∧H'.lw=min H.lw b:=by obtain⟨H',st,q,n1,o,ka,lw⟩:=Ee (o:=0) ht hb hv hw (by omega) h1;refine⟨H',st,n1,?_,o,ka,lw⟩;rw[q,List.take_zero,List.nil_append,List.drop_of_length_le (by omega),List.append_nil]
theorem Fu{H:AH}{t:TypeId}{n b:Nat}{cs ws:List Value}(ht:Qr Tryz.prog t=some n)(hb:H.blk b= .rw 1 cs)(hbn:b<H.n)(hc:cs.length=n){v:Value}(hv:v.cells.toList=ws)(hw:ws.length=n)(h1:ws.all one=true): ∃H2,Xp Tryz.prog H.top t (.pointer (some ⟨b,0,none⟩)) v=some H2∧H2.n=H.n∧H2.lw<H.n∧(low H H2).n=H.n∧(low H H2).blk b= .rw 1 ws∧(∀j,j≠b→(low H H2).blk j=H.blk j)∧KAt b H (low H H2):=by obtain⟨H2,st,n1,q,o,ka,lw⟩:=putL (H:=H.top) ht hb hc hv hw h1;exact⟨H2,st,n1,by rw[lw];show min H.n b<H.n;omega,n1,q,o,Cl ka⟩
def sumW(s:Bool)(A:Nat)(t:Bool)(B:Nat):Bool×Nat:=if sg s A=sg t B then(sg s A,A+B)else if A<B then(sg t B,B-A)else(sg s A,A-B)
section
attribute [-simp] Int.natCast_add Int.natCast_mul Int.natCast_ediv Int.natCast_emod Int.natCast_pow
attribute [local simp] strip Yd LW' LR gW Yf Xh Ya Xi Yo Xj Zr Zs Zh Yp Yy Yk Xo Zw Yq Zi Ze Xn Xm Je Ye Xa opd Qe Ym plain Yj Tr.get_set Qc Zp Xy Yc sameKind undef Zt Yr Yv Zk Yb parts unV DW Xq Zv LX Zy
section
variable {H : AH} {u v va vb : Value} {xs ys : List Nat} {A B : Nat}
theorem wAdd_call(s t:Bool)(ha:Sl H u (ds B64 A))(hb:Sl H v (ds B64 B))(lA:(ds B64 A).length≤Lim)(lB:(ds B64 B).length≤Lim)(h:Zf (A+B)≤67108864): ∃a H',Zq Tryz.prog Zo 144 [.agg #[.bool s,u],.agg #[.bool t,v]] H=some (.tuple #[.agg #[.bool (sg (sumW s A t B).1 (sumW s A t B).2),a],.int .i64 0],H')∧Keep H H'∧Own H.n H' a (ds B64 (sumW s A t B).2):=by
 suffices hs:CW Tryz.prog Zo 144 [.agg #[.bool s,u],.agg #[.bool t,v]] H fun v H'=> ∃a,v= .tuple #[.agg #[.bool (sg (sumW s A t B).1 (sumW s A t B).2),a],.int .i64 0]∧Keep H H'∧Own H.n H' a (ds B64 (sumW s A t B).2) by obtain⟨v,H',hc,a,rfl,k,o⟩:=hs;exact⟨a,H',hc,k,o⟩
 obtain⟨H2,e2,k2,n2,q1,q2,q3⟩:=Zb3 H [.bool s,u] [.bool t,v] [.bool false,.slice none 0 0];have cA:u.cells=#[u]∧one u=true:=⟨by obtain⟨a,l,c,rfl⟩:=ha.shape;rfl,ha.one1⟩;have cB:v.cells=#[v]∧one v=true:=⟨by obtain⟨a,l,c,rfl⟩:=hb.shape;rfl,hb.one1⟩;obtain⟨w1,E1,c1,kE1,o1⟩:=Zi7 s ((ha.keep k2).top) (Xv Zz A) (Nat.le_trans lA (by decide));rw[Qk Zz]at c1 o1;obtain⟨G1,hG1⟩: ∃G1,G1=grown H2 E1:=⟨_,rfl⟩;have kG1:Keep H2 G1:=by rw[hG1];exact Zu (.refl H2) kE1
 have o1':Own H2.n G1 w1 (ds B64 A):=by rw[hG1];exact o1.same (Yg kE1)
 have nE1:H2.n≤E1.n:=kE1.n;obtain⟨w2,E2,c2,kE2,o2⟩:=Zi7 t ((hb.keep (k2.trans kG1)).top) (Xv Zz B) (Nat.le_trans lB (by decide));rw[Qk Zz]at c2 o2;obtain⟨G2,hG2⟩: ∃G2,G2=grown G1 E2:=⟨_,rfl⟩;have kG2:Keep G1 G2:=by rw[hG2];exact Zu (.refl G1) kE2
 have o2':Own G1.n G2 w2 (ds B64 B):=by rw[hG2];exact o2.same (Yg kE2)
 have nE2:G1.n≤E2.n:=kE2.n;have kH2:=kG1.trans kG2;have ng:=kH2.n;have ng1:=kG1.n;have o1'':=o1'.mono (Nat.le_refl _) kG2;have o2'':=o2'.mono ng1 (.refl _);obtain⟨x,hx⟩: ∃x,x=sg s A:=⟨_,rfl⟩;obtain⟨y,hy⟩: ∃y,y=sg t B:=⟨_,rfl⟩;rw[←hx]at c1;rw[←hy]at c2;have r1:G2.blk H.n= .rw 1 [.bool s,u]:=by rw[kH2.blk _ (by omega)];exact q1
 have r2:G2.blk (H.n+1)= .rw 1 [.bool t,v]:=by rw[kH2.blk _ (by omega)];exact q2
 have r3:G2.blk (H.n+2)= .rw 1 [.bool false,.slice none 0 0]:=by rw[kH2.blk _ (by omega)];exact q3
 obtain⟨i1,i2⟩:=o1''.cells1;obtain⟨i3,i4⟩:=o2''.cells1;obtain⟨S1,st1,sn1,slw1,fn1,fb1,fo1,fk1⟩:=Fu (v:= .agg #[.bool x,w1]) (ws:=[.bool x,w1]) sWhole r1 (by omega) rfl (by simp[Value.cells]) rfl (by simp[i2,show one (Value.bool x)=true from rfl]);obtain⟨F1,hF1⟩: ∃F1,F1=low G2 S1:=⟨_,rfl⟩;rw[←hF1]at fn1 fb1 fo1 fk1;have r2':F1.blk (H.n+1)= .rw 1 [.bool t,v]:=by rw[fo1 _ (by omega)];exact r2
 obtain⟨S2,st2,sn2,slw2,fn2,fb2,fo2,fk2⟩:=Fu (v:= .agg #[.bool y,w2]) (ws:=[.bool y,w2]) sWhole r2' (by omega) rfl (by simp[Value.cells]) rfl (by simp[i4,show one (Value.bool y)=true from rfl]);obtain⟨F,hF⟩: ∃F,F=low F1 S2:=⟨_,rfl⟩;rw[←hF]at fn2 fb2 fo2 fk2;have f1:F.blk H.n= .rw 1 [.bool x,w1]:=by rw[fo2 _ (by omega)];exact fb1
 have f3:F.blk (H.n+2)= .rw 1 [.bool false,.slice none 0 0]:=by rw[fo2 _ (by omega),fo1 _ (by omega)];exact r3
 have kF:Keep H F:=fk2 H (fk1 H (k2.trans kH2) (by omega)) (by omega);have p1:Own H2.n F w1 (ds B64 A):=(o1''.off (b:=H.n) (by omega) fn1 fo1).off (b:=H.n+1) (by omega) fn2 fo2;have p2:Own H2.n F w2 (ds B64 B):=(o2''.off (b:=H.n) (by omega) fn1 fo1).off (b:=H.n+1) (by omega) fn2 fo2;have nF:F.n=G2.n:=by rw[fn2,fn1]
 have l2: ∀bits ms,(∀x∈ms,H2.n≤x.2.1)→Yn Tryz.prog (vis G1 bits ms) 32 (.pointer (some ⟨H.n+1,0,none⟩))=some (.agg #[.bool t,v]):=fun bits ms h=>Er (by rw[(Qy kG1 h).blk _ (by omega)];exact q2);refine Zl 57 (by decide) (by decide) Tryz.func144 rfl rfl ?_;apply Zb;intro b1 hb1;apply Za;simp[Value.cells,Ba,Vl,e2];subst hb1;apply Zb;intro b1 hb1;apply Qs (by kernel_rfl);simp;refine Yh (v:= .agg #[.bool s,u]) rfl rfl rfl (by rw[Zm rfl];simp[Er (H:=H2.top) q1]) ?_;simp;refine Yu (v:= .agg #[.bool x,w1]) (H2:=E1) rfl rfl rfl (by rw[Zm rfl];simp[c1]) nE1 (Yw kE1) ?_;rw[←hG1];generalize hms:cond (Nat.blt H2.n E1.n) _ _=ms;have hms1:=Fs hms;simp;refine Yh (v:= .agg #[.bool t,v]) rfl rfl rfl (by simp[l2 _ ms fun x hx=>(hms1 x hx).2]) ?_;simp;refine Yu (v:= .agg #[.bool y,w2]) (H2:=E2) rfl rfl rfl ?_ nE2 (Yw kE2) ?_;·rw[Zm (Xe fun x hx=>by rw[(hms1 x hx).1];kernel_rfl)];simp[c2]
 rw[←hG2];generalize hms2:cond (Nat.blt G1.n E2.n) _ _=ms2;have hms3: ∀bits:Nat,bits.testBit 1=true→bits.testBit 3=true→ ∀x∈ms2,bits.testBit x.1=true:=fun bits b1 b3 x hx=>by rw[←hms2]at hx;cases hb:Nat.blt G1.n E2.n with
  |false=>rw[hb,cond_false]at hx;rw[(hms1 x hx).1];exact b1
  |true=>
   rw[hb,cond_true]at hx;rcases List.mem_cons.mp hx with e|e;·rw[e];exact b3
   ·rw[(hms1 x e).1];exact b1
 simp;refine Xd (v:= .tuple #[]) (H2:=S1) rfl rfl (by kernel_rfl) (Xe (hms3 _ (by kernel_rfl) (by kernel_rfl))) ?_ (by omega) slw1 ?_;·show Yf _ _ _ _ G2.top _=_;simp[st1]
 rw[show({ n:=S1.n,lw:=min G2.lw S1.lw,t:=S1.t } :AH)=F1 from hF1.symm];rw[show Nat.blt G2.n S1.n=false from by rw[sn1];exact Qi _,cond_false];simp;refine Xd (v:= .tuple #[]) (H2:=S2) rfl rfl (by kernel_rfl) (Xe (hms3 _ (by kernel_rfl) (by kernel_rfl))) ?_ (by omega) slw2 ?_;·show Yf _ _ _ _ F1.top _=_;simp[st2]
 rw[show({ n:=S2.n,lw:=min F1.lw S2.lw,t:=S2.t } :AH)=F from hF.symm];simp;subst hb1;clear hms hms1 hms2 hms3;have hsum:sumW s A t B=if x=y then(x,A+B)else if A<B then(y,B-A)else(x,A-B):=by rw[hx,hy];rfl
 obtain⟨Z,hZ⟩: ∃Z,Z=sumW s A t B:=⟨_,rfl⟩;rw[←hZ]at hsum⊢;clear c1 c2 o1 o2 st1 st2;have geq:Xy Tryz.prog .eql 4 (.bool x) (.bool y)=some (.bool (decide (x=y))):=by cases x<;>cases y<;>rfl
 have hbA:Zf A≤67108864:=Nat.le_trans (Yi (by omega)) h;have hbB:Zf B≤67108864:=Nat.le_trans (Yi (by omega)) h;apply Zb;intro b1 hb1;apply Zb;intro b2 hb2;apply Za;simp[Kz,El f1,El fb2,-Xy,geq];subst hb2;by_cases hxy:x=y
 ·rw[if_pos hxy]at hsum;subst hsum;obtain⟨w,H3,c3,k3,o3⟩:=Zo6 p1.sl p2.sl lA lB h;obtain⟨z,H4,c4,k4,o4⟩:=Za0 x o3.sl (Xv Zz _) (Nat.le_trans (Zg h) (by decide)) (by rw[Qk Zz];exact h);rw[Qk Zz]at c4 o4;have g1:H3.blk H.n= .rw 1 [.bool x,w1]:=by rw[k3.blk _ (by omega)];exact f1
  have g3:H4.blk (H.n+2)= .rw 1 [.bool false,.slice none 0 0]:=by rw[(k3.trans k4).blk _ (by omega)];exact f3
  obtain⟨j1,j2⟩:=o4.cells1;obtain⟨S,hS⟩: ∃S,S=sg x (A+B):=⟨_,rfl⟩;rw[←hS]at c4⊢;obtain⟨H5,st5,n5,q5,b5,ka5⟩:=putW (p:= .bool S) (q:=z) g3 rfl j1 rfl j2;have n3:=k3.n;have k05:Keep H H5:=ka5 H ((kF.trans k3).trans k4) (by omega);have o5:=(o4.off (b:=H.n+2) (by omega) n5 b5).mono (show H.n≤H3.n by omega) (.refl _);have hld:=Er q5;refine Zc (t:=true) (by simp[hxy]) ?_;apply Zb;intro b1 hb1;apply Za;simp[Fp,Kw f1,Kw fb2,c3];subst hb1;apply Zb;intro b2 hb2;apply Za;simp[Kz,El g1,c4,st5];subst hb2;apply Zn;simp[Xw,hld];exact⟨k05,o5⟩
 ·rw[if_neg hxy]at hsum;refine Zc (t:=false) (by simp[hxy]) ?_;apply Zj;subst hb1;obtain⟨vc,Hc,cc,ec,ec'⟩:=Gt p1.sl p2.sl (Xv Zz A) (Xv Zz B) (Nat.le_trans lA (by decide)) (Nat.le_trans lB (by decide));rw[Qk Zz,Qk Zz]at ec';rw[ec,ec']at cc;have gc:Zd .lss .i64 (Un A B) 0=some (.bool (decide (A<B))):=by rw[lss0,decide_eq_decide.mpr cmpN_lt]
  refine Qz (fun s'=>s'.k=57∧ ∃(x':Bool) (A' B':Nat) (w w':Value) (y':Value),Z=(x',A'-B')∧B'≤A'∧A'≤A+B∧F.n=s'.H.n∧Keep H s'.H∧s'.H.blk H.n= .rw 1 [.bool x',w]∧s'.H.blk (H.n+1)= .rw 1 [y',w']∧s'.H.blk (H.n+2)= .rw 1 [.bool false,.slice none 0 0]∧Own H2.n s'.H w (ds B64 A')∧Own H2.n s'.H w' (ds B64 B')∧s'.tm.get 2=some (.pointer (some ⟨H.n,0,none⟩))∧s'.tm.get 3=some (.pointer (some ⟨H.n+1,0,none⟩))∧s'.tm.get 4=some (.pointer (some ⟨H.n+2,0,none⟩))) ?_ ?_
  ·intro Q' hQ';apply Zb;intro b2 hb2;apply Za;simp[Fp,Kw f1,Kw fb2,cc,gc];subst hb2;by_cases hAB:A<B
   ·rw[if_pos hAB]at hsum;obtain⟨H3,st3,n3,g1,b3,ka3⟩:=putW (p:= .bool y) (q:=w2) f1 rfl i3 rfl i4;have g2:H3.blk (H.n+1)= .rw 1 [.bool y,w2]:=by rw[b3 _ (by omega)];exact fb2
    obtain⟨H4,st4,n4,g4,b4,ka4⟩:=putW (p:= .bool x) (q:=w1) g2 rfl i1 rfl i2;refine Zc (t:=true) (by simp[hAB]) ?_;apply Za;simp[Er f1,Er fb2,st3,st4];apply hQ';refine⟨rfl,y,B,A,w2,w1,_,hsum,by omega,by omega,by show F.n=H4.n;omega,ka4 H (ka3 H kF (by omega)) (by omega),?_,g4,?_,?_,?_,by simp,by simp,by simp⟩;·show H4.blk H.n=_;rw[b4 _ (by omega)];exact g1
    ·show H4.blk (H.n+2)=_;rw[b4 _ (by omega),b3 _ (by omega)];exact f3
    ·exact(p2.off (b:=H.n) (by omega) n3 b3).off (b:=H.n+1) (by omega) n4 b4
    ·exact(p1.off (b:=H.n) (by omega) n3 b3).off (b:=H.n+1) (by omega) n4 b4
   ·rw[if_neg hAB]at hsum;refine Zc (t:=false) (by simp[hAB]) ?_;apply Zj;apply hQ';exact⟨rfl,x,A,B,w1,w2,_,hsum,by omega,by omega,rfl,kF,f1,fb2,f3,p1,p2,by simp,by simp,by simp⟩
  clear p1 p2 f1 fb2 f3 cc gc hsum;rintro⟨kk,tm,F'⟩ ⟨hkk,x',A',B',w,w',y',hZ',hle,hlA,hnF,kF',f1,f2,f3,p1,p2,t2,t3,t4⟩;simp only at hkk hnF kF' f1 f2 f3 p1 p2 t2 t3 t4;subst hkk;subst hZ';have hbA':Zf A'≤67108864:=Nat.le_trans (Yi hlA) h;have hbB':Zf B'≤67108864:=Nat.le_trans (Yi hle) hbA';have hbD:Zf (A'-B')≤67108864:=Nat.le_trans (Yi (Nat.sub_le _ _)) hbA';obtain⟨w5,H3,c3,k3,o3⟩:=Zo7 p1.sl p2.sl (Zg hbA') (Zg hbB') hle hbA';obtain⟨z,H4,c4,k4,o4⟩:=Za0 x' o3.sl (Xv Zz _) (Nat.le_trans (Zg hbD) (by decide)) (by rw[Qk Zz];exact hbD);rw[Qk Zz]at c4 o4;have g1:H3.blk H.n= .rw 1 [.bool x',w]:=by rw[k3.blk _ (by omega)];exact f1
  have g3:H4.blk (H.n+2)= .rw 1 [.bool false,.slice none 0 0]:=by rw[(k3.trans k4).blk _ (by omega)];exact f3
  obtain⟨j1,j2⟩:=o4.cells1;obtain⟨S,hS⟩: ∃S,S=sg x' (A'-B'):=⟨_,rfl⟩;rw[←hS]at c4;obtain⟨H5,st5,n5,q5,b5,ka5⟩:=putW (p:= .bool S) (q:=z) g3 rfl j1 rfl j2;have n3:=k3.n;have k05:Keep H H5:=ka5 H ((kF'.trans k3).trans k4) (by omega);have o5:=(o4.off (b:=H.n+2) (by omega) n5 b5).mono (show H.n≤H3.n by omega) (.refl _);have hld:=Er q5;apply Zb;intro b1 hb1;apply Za;simp[t2,t3,Fp,Kw f1,Kw f2,c3];subst hb1;apply Zb;intro b1 hb1;apply Za;simp[t2,t4,Kz,El g1,c4,st5];subst hb1;apply Zn;simp[t4,hld,hS];exact⟨k05,o5⟩
end
end
theorem aRatio:Jm Tryz.prog 34=some true:=by kernel_rfl
theorem Up:Qr Tryz.prog 34=some 3:=by kernel_rfl
theorem Jz:Uu Tryz.prog 34=some (.agg #[.bool false,.slice none 0 0,.slice none 0 0]):=by kernel_rfl
theorem Dx(b:Nat):Yz Tryz.prog 34 (.pointer (some ⟨b,0,none⟩)) 0=some (.pointer (some ⟨b,0,none⟩)):=faN b 0
theorem faQ1(b:Nat):Yz Tryz.prog 34 (.pointer (some ⟨b,0,none⟩)) 1=some (.pointer (some ⟨b,2,none⟩)):=faD b 0
theorem Xr{H:AH}{b:Nat}{p q r:Value}(hb:H.blk b= .rw 1 [p,q,r]):Yn Tryz.prog H 34 (.pointer (some ⟨b,0,none⟩))=some (.agg #[p,q,r]):=by unfold Yn;simp only[aRatio,Up,AH.read_def,hb];simp[AH.cells_rw' hb,show Nat.ble 3 3=true from rfl]
theorem loadQW{H:AH}{b:Nat}{p q r:Value}(hb:H.blk b= .rw 1 [p,q,r]):Yn Tryz.prog H 32 (.pointer (some ⟨b,0,none⟩))=some (.agg #[p,q]):=by unfold Yn;simp only[aWhole,sWhole,AH.read_def,hb];simp[AH.cells_rw' hb,show Nat.ble 2 3=true from rfl]
theorem Zc6{H:AH}{b:Nat}{p q r:Value}(hb:H.blk b= .rw 1 [p,q,r]):Yn Tryz.prog H 4 (.pointer (some ⟨b,0,none⟩))=some p:=Ys aBool (AH.cells_rw' hb (by decide)) rfl
theorem Uy{H:AH}{b:Nat}{p q r:Value}(hb:H.blk b= .rw 1 [p,q,r]):Yn Tryz.prog H 30 (.pointer (some ⟨b,1,none⟩))=some q:=Ys aNat (AH.cells_rw' hb (by decide)) rfl
theorem Ki{H:AH}{b:Nat}{p q r:Value}(hb:H.blk b= .rw 1 [p,q,r]):Yn Tryz.prog H 30 (.pointer (some ⟨b,2,none⟩))=some r:=Ys aNat (AH.cells_rw' hb (by decide)) rfl
theorem gcd_le_l{A B:Nat}(hA:0<A):Nat.gcd A B≤A:=Nat.le_of_dvd hA (Nat.gcd_dvd_left A B)
section
attribute [-simp] Int.natCast_add Int.natCast_mul Int.natCast_ediv Int.natCast_emod Int.natCast_pow
attribute [local simp] strip Yd LW' LR gW Yf Xh Ya Xi Yo Xj Zr Zs Zh Yp Yy Yk Xo Zw Yq Zi Ze Xn Xm Je Ye Xa opd Qe Ym plain Yj Tr.get_set Qc Zp Xy Yc sameKind undef Zt Yr Yv Zk Yb parts unV DW Xq Zv LX Zy
section
variable {H : AH} {u v va vb : Value} {xs ys : List Nat} {A B : Nat}
theorem Jw(u:Value)(H:AH):Zq Tryz.prog Zo 140 [u,.int .i64 0] H=some (u,H):=by
 suffices h:CW Tryz.prog Zo 140 [u,.int .i64 0] H fun v H'=>v=u∧H'=H by obtain⟨v,H',hc,rfl,rfl⟩:=h;exact hc
 refine Zl 11 (by decide) (by decide) Tryz.func140 rfl rfl ?_;apply Zb;intro b1 hb1;apply Za;simp;subst hb1;apply Zb;intro b1 hb1;apply Zb;intro b2 hb2;apply Za;simp[Es];subst hb2;refine Zc (t:=false) (by simp) ?_;apply Zj;subst hb1;apply Zb;intro b1 hb1;apply Za;simp;subst hb1;apply Zn;simp
theorem parts_callA(neg:Bool)(ha:Sl H u xs)(hb:Sl H v ys)(dx:Dig B64 xs)(dy:Dig B64 ys)(lx:xs.length≤17592186044416)(ly:ys.length≤17592186044416)(eA:dv B64 xs=A)(eB:dv B64 ys=B)(hA:Zf A≤67108864)(hB:Zf B≤67108864)(hB0:0<B): ∃p q H',Zq Tryz.prog Zo 124 [.agg #[.bool neg,u,v]] H=some (.tuple #[.bool (Yl neg A B).1,p,q],H')∧Keep H H'∧Own H.n H' p (ds B64 (Yl neg A B).2.1)∧Own H.n H' q (ds B64 (Yl neg A B).2.2)∧Ka p q:=by
 obtain⟨r,hr⟩: ∃r,r=Yl neg A B:=⟨_,rfl⟩;rw[←hr];unfold Yl at hr;suffices hs:CW Tryz.prog Zo 124 [.agg #[.bool neg,u,v]] H fun v H'=> ∃p q,v= .tuple #[.bool r.1,p,q]∧Keep H H'∧Own H.n H' p (ds B64 r.2.1)∧Own H.n H' q (ds B64 r.2.2)∧Ka p q by obtain⟨v,H',hc,p,q,rfl,k,o⟩:=hs;exact⟨p,q,H',hc,k,o⟩
 have lA:=Zg hA;have lB:=Zg hB;obtain⟨H2,e2,k2,n2,q1⟩:=Vc H [.bool neg,u,v];obtain⟨w1,E1,c1,kE1,o1⟩:=Uv ((ha.keep k2).top) dx lx;rw[eA]at o1;obtain⟨G1,hG1⟩: ∃G1,G1=grown H2 E1:=⟨_,rfl⟩;have kG1:Keep H2 G1:=by rw[hG1];exact Zu (.refl H2) kE1
 have o1':Own H2.n G1 w1 (ds B64 A):=by rw[hG1];exact o1.same (Yg kE1)
 have nE1:H2.n≤E1.n:=kE1.n;obtain⟨w2,E2,c2,kE2,o2⟩:=Uv ((hb.keep (k2.trans kG1)).top) dy ly;rw[eB]at o2;obtain⟨G2,hG2⟩: ∃G2,G2=grown G1 E2:=⟨_,rfl⟩;have kG2:Keep G1 G2:=by rw[hG2];exact Zu (.refl G1) kE2
 have o2':Own G1.n G2 w2 (ds B64 B):=by rw[hG2];exact o2.same (Yg kE2)
 have nE2:G1.n≤E2.n:=kE2.n;have kH2:=kG1.trans kG2;have ng:=kH2.n;have ng1:=kG1.n;have o1'':=o1'.mono (Nat.le_refl _) kG2;have o2'':=o2'.mono ng1 (.refl _);have l2: ∀bits ms,(∀x∈ms,H2.n≤x.2.1)→Yn Tryz.prog (vis G1 bits ms) 30 (.pointer (some ⟨H.n,2,none⟩))=some v:=fun bits ms h=>Ki (by rw[(Qy kG1 h).blk _ (by omega)];exact q1);have q1':G2.blk H.n= .rw 1 [.bool neg,u,v]:=by rw[kH2.blk _ (by omega)];exact q1
 have kF:=k2.trans kH2;refine Zl 42 (by decide) (by decide) Tryz.func124 rfl rfl ?_;apply Zb;intro b1 hb1;apply Za;simp[Value.cells,Vl,e2];subst hb1;apply Zb;intro b1 hb1;apply Qs (by kernel_rfl);simp[Dx,Fp];refine Yh (v:=u) rfl rfl rfl (by rw[Zm rfl];simp[Uy (H:=H2.top) q1]) ?_;simp;refine Yu (v:=w1) (H2:=E1) rfl rfl rfl (by rw[Zm rfl];simp[c1]) nE1 (Yw kE1) ?_;rw[←hG1];generalize hms:cond (Nat.blt H2.n E1.n) _ _=ms;have hms1:=Fs hms;simp[faQ1];refine Yh (v:=v) rfl rfl rfl (by simp[l2 _ ms fun x hx=>(hms1 x hx).2]) ?_;simp;refine Yu (v:=w2) (H2:=E2) rfl rfl rfl ?_ nE2 (Yw kE2) ?_;·rw[Zm (Xe fun x hx=>by rw[(hms1 x hx).1];kernel_rfl)];simp[c2]
 rw[←hG2];simp;subst hb1;clear hms hms1;have l1:=o1''.sl.len Zk;have l2':=o2''.sl.len Zk;obtain⟨m1,hm1⟩: ∃m,m=(ds B64 A).length:=⟨_,rfl⟩;obtain⟨m2,hm2⟩: ∃m,m=(ds B64 B).length:=⟨_,rfl⟩;rw[←hm1]at l1;rw[←hm2]at l2';have z1:m1=0↔A=0:=by rw[hm1];exact Uh Zz
 have z2:m2=0↔B=0:=by rw[hm2];exact Uh Zz
 have g1:=Vz (k:= .i64) (x:=m1);have g2:Zd .eql .i64 (m2:Int) 0=some (.bool false):=by rw[Vz,decide_eq_false (by omega)]
 apply Zb;intro b1 hb1;apply Zb;intro b2 hb2;apply Za;simp[l2',g2];subst hb2;refine Zc (t:=false) (by simp) ?_;apply Zj;subst hb1;apply Zb;intro b1 hb1;apply Zb;intro b2 hb2;apply Za;simp[l1,g1];subst hb2;by_cases h0:m1=0;·rw[if_pos (z1.mp h0)]at hr;subst hr;obtain⟨w3,H3,c3,k3,o3⟩:=Fq (H:=G2) (x:=1) (by decide);have c3:Zq Tryz.prog Zo 164 [.int .u64 1] G2=some (w3,H3):=c3;refine Zc (t:=true) (by simp[h0]) ?_;apply Zb;intro b2 hb2;apply Za;simp[c3];subst hb2;apply Zn;simp[Xw];exact⟨_,_,⟨rfl,rfl⟩,kF.trans k3,by rw[Vd];exact .nil,o3.mono kF.n (.refl _),fun b hb=>by cases hb⟩
 ·have hA0:0<A:=by have: ¬A=0:=fun h=>h0 (z1.mpr h);omega
  rw[if_neg (by omega)]at hr;subst hr;refine Zc (t:=false) (by simp[h0]) ?_;apply Zj;subst hb1;obtain⟨w3,H3,c3,k3,o3⟩:=Zc4 o1''.sl o2''.sl lA lB;have hg0:0<Nat.gcd A B:=gcd_pos hA0;have hgA:=gcd_le_l (B:=B) hA0;have lg:=Zg (Nat.le_trans (Yi hgA) hA);apply Zb;intro b1 hb1;apply Za;simp[c3];subst hb1;obtain⟨w4,E4,c4,kE4,o4⟩:=Kk ((o1''.sl.keep k3).top) (o3.sl.top) lA lg hg0 hA;obtain⟨G4,hG4⟩: ∃G4,G4=grown H3 E4:=⟨_,rfl⟩;have kG4:Keep H3 G4:=by rw[hG4];exact Zu (.refl H3) kE4
  have o4':Own H3.n G4 w4 (ds B64 (A/Nat.gcd A B)):=by rw[hG4];exact o4.same (Yg kE4)
  have nE4:H3.n≤E4.n:=kE4.n;obtain⟨w5,E5,c5,kE5,o5⟩:=Kk (((o2''.sl.keep k3).keep kG4).top) ((o3.sl.keep kG4).top) lB lg hg0 hB;obtain⟨G5,hG5⟩: ∃G5,G5=grown G4 E5:=⟨_,rfl⟩;have kG5:Keep G4 G5:=by rw[hG5];exact Zu (.refl G4) kE5
  have o5':Own G4.n G5 w5 (ds B64 (B/Nat.gcd A B)):=by rw[hG5];exact o5.same (Yg kE5)
  have nE5:G4.n≤E5.n:=kE5.n;have r1:H3.blk H.n= .rw 1 [.bool neg,u,v]:=by rw[k3.blk _ (by omega)];exact q1'
  have k35:=kG4.trans kG5;apply Zb;intro b1 hb1;apply Qs (by kernel_rfl);simp[Dx,Kz];refine Yh (v:= .bool neg) rfl rfl rfl (by rw[Zm rfl];simp[Zc6 (H:=H3.top) r1]) ?_;simp;refine Yu (v:= .tuple #[w4,.int .i64 0]) (H2:=E4) rfl rfl rfl (by rw[Zm rfl];simp[c4]) nE4 (Yw kE4) ?_;rw[←hG4];generalize hms:cond (Nat.blt H3.n E4.n) _ _=ms;have hms1:=Fs hms;simp;refine Yh (v:=w4) rfl rfl rfl (by simp[Jw]) ?_;simp;refine Yu (v:= .tuple #[w5,.int .i64 0]) (H2:=E5) rfl rfl rfl ?_ nE5 (Yw kE5) ?_;·rw[Zm (Xe fun x hx=>by rw[(hms1 x hx).1];kernel_rfl)];simp[c5]
  rw[←hG5];simp;refine Yh (v:=w5) rfl rfl rfl (by simp[Jw]) ?_;simp;subst hb1;apply Zn;simp;exact⟨_,_,⟨rfl,rfl⟩,(kF.trans k3).trans k35,(o4'.mono (by have:=k3.n;omega) kG5),o5'.mono (by have:=k3.n;have:=kG4.n;omega) (.refl _),fun b hb e=>by have h1:=(o4'.blk_lo hb).2;have h2:=(o5'.blk_lo e).1;omega⟩
end
end
theorem Zb1{x:Bool}{p q:Value}(hp: ∃a l c,p= .slice a l c)(hq: ∃a l c,q= .slice a l c):Ux Tryz.prog 34 [(0,.agg #[.bool x,p]),(1,q)]=some (.agg #[.bool x,p,q]):=by obtain⟨a,l,c,rfl⟩:=hp;obtain⟨a',l',c',rfl⟩:=hq;rfl
theorem Cb{H:AH}{b:Nat}{p' q' r' p q r:Value}(hb:H.blk b= .rw 1 [p',q',r'])(h0:p.cells=#[p])(h1:q.cells=#[q])(h1':r.cells=#[r])(h2:one p=true)(h3:one q=true)(h3':one r=true): ∃H',Xp Tryz.prog H 34 (.pointer (some ⟨b,0,none⟩)) (.agg #[p,q,r])=some H'∧H'.n=H.n∧H'.blk b= .rw 1 [p,q,r]∧(∀j,j≠b→H'.blk j=H.blk j)∧KAt b H H':=Cz Up hb rfl (by simp[Value.cells]) rfl (by simp[h2,h3,h3'])
theorem Own.trio{n:Nat}{H:AH}{v:Value}{xs:List Nat}(h:Own n H v xs):v.cells=#[v]∧one v=true∧ ∃a l c,v= .slice a l c:=⟨h.cells1.1,h.cells1.2,h.shape⟩
theorem sErr:Qr Tryz.prog 23=some 1:=by kernel_rfl
theorem aErr:Jm Tryz.prog 23=some false:=by kernel_rfl
theorem zErr:Uu Tryz.prog 23=some (.int .i64 0):=by kernel_rfl
theorem nilEq:Xy Tryz.prog .eql 20 .nilIface .nilIface=some (.bool true):=by kernel_rfl
section
attribute [-simp] Int.natCast_add Int.natCast_mul Int.natCast_ediv Int.natCast_emod Int.natCast_pow
attribute [local simp] strip Yd LW' LR gW Yf Xh Ya Xi Yo Xj Zr Zs Zh Yp Yy Yk Xo Zw Yq Zi Ze Xn Xm Je Ye Xa opd Qe Ym plain Yj Tr.get_set Qc Zp Xy Yc sameKind undef Zt Yr Yv Zk Yb parts unV DW Xq Zv LX Zy
section
variable {H : AH} {u v va vb : Value} {xs ys : List Nat} {A B : Nat}
theorem Zd0(neg:Bool)(ha:Sl H u xs)(hb:Sl H v ys)(dx:Dig B64 xs)(dy:Dig B64 ys)(lx:xs.length≤17592186044416)(ly:ys.length≤17592186044416)(eA:dv B64 xs=A)(eB:dv B64 ys=B)(hA:Zf A≤67108864)(hB:Zf B≤67108864)(hB0:0<B): ∃p q H',Zq Tryz.prog Zo 84 [.agg #[.bool neg,u,v]] H=some (.agg #[.bool (Yl neg A B).1,p,q],H')∧Keep H H'∧Own H.n H' p (ds B64 (Yl neg A B).2.1)∧Own H.n H' q (ds B64 (Yl neg A B).2.2)∧Ka p q:=by
 obtain⟨r,hr⟩: ∃r,r=Yl neg A B:=⟨_,rfl⟩;suffices hs:CW Tryz.prog Zo 84 [.agg #[.bool neg,u,v]] H fun v H'=> ∃p q,v= .agg #[.bool r.1,p,q]∧Keep H H'∧Own H.n H' p (ds B64 r.2.1)∧Own H.n H' q (ds B64 r.2.2)∧Ka p q by obtain⟨v,H',hc,p,q,rfl,k,o⟩:=hs;rw[←hr];exact⟨p,q,H',hc,k,o⟩
 obtain⟨H2,e2,k2,n2,q1,q2⟩:=Jk H [.bool neg,u,v] [.bool false,.slice none 0 0,.slice none 0 0];obtain⟨p,q,H3,c3,k3,o3,o4,ap⟩:=parts_callA neg (ha.keep k2) (hb.keep k2) dx dy lx ly eA eB hA hB hB0;rw[←hr]at c3 o3 o4;have q2':=k3.blk _ (show H.n+1<H2.n by omega);rw[q2]at q2';obtain⟨i1,i2,i3⟩:=o3.trio;obtain⟨j1,j2,j3⟩:=o4.trio;obtain⟨S,N,D⟩:=r;simp only at c3 o3 o4⊢;obtain⟨H4,st4,n4,q4,b4,ka4⟩:=Cb (p:= .bool S) (q:=p) (r:=q) q2' rfl i1 j1 rfl i2 j2;have k04:Keep H H4:=ka4 H (k2.trans k3) (by omega);have o5:=(o3.off (b:=H.n+1) (by omega) n4 b4).mono (show H.n≤H2.n by omega) (.refl _);have o6:=(o4.off (b:=H.n+1) (by omega) n4 b4).mono (show H.n≤H2.n by omega) (.refl _);have hld:=Xr q4;refine Zl 17 (by decide) (by decide) Tryz.func84 rfl rfl ?_;apply Zb;intro b1 hb1;apply Za;simp[Value.cells,Jz,Vl,e2];subst hb1;apply Zb;intro b1 hb1;apply Za;simp[Xr q1,c3];subst hb1;apply Zb;intro b1 hb1;apply Za;simp[Zb2 (b:=S) i3,Zb1 (x:=S) i3 j3,st4];subst hb1;apply Zn;simp[hld];exact⟨_,_,⟨rfl,rfl⟩,k04,o5,o6,ap⟩
theorem rnorm_callX(neg:Bool)(ha:Sl H u xs)(hb:Sl H v ys)(dx:Dig B64 xs)(dy:Dig B64 ys)(lx:xs.length≤17592186044416)(ly:ys.length≤17592186044416)(eA:dv B64 xs=A)(eB:dv B64 ys=B)(hA:Zf A≤67108864)(hB:Zf B≤67108864)(hB0:0<B): ∃p q H',Zq Tryz.prog Zo 84 [.agg #[.bool neg,u,v]] H=some (.agg #[.bool (Yl neg A B).1,p,q],H')∧Keep H H'∧Own H.n H' p (ds B64 (Yl neg A B).2.1)∧Own H.n H' q (ds B64 (Yl neg A B).2.2):=by obtain⟨p,q,H',h1,h2,h3,h4,_⟩:=Zd0 neg ha hb dx dy lx ly eA eB hA hB hB0;exact⟨p,q,H',h1,h2,h3,h4⟩
theorem Zh9(neg:Bool)(ha:Sl H u (ds B64 A))(hb:Sl H v (ds B64 B))(hA:Zf A≤67108864)(hB:Zf B≤67108864)(hB0:0<B): ∃p q H',Zq Tryz.prog Zo 84 [.agg #[.bool neg,u,v]] H=some (.agg #[.bool (Yl neg A B).1,p,q],H')∧Keep H H'∧Own H.n H' p (ds B64 (Yl neg A B).2.1)∧Own H.n H' q (ds B64 (Yl neg A B).2.2):=rnorm_callX neg ha hb (Xv Zz A) (Xv Zz B) (Nat.le_trans (Zg hA) (by decide)) (Nat.le_trans (Zg hB) (by decide)) (Qk Zz A) (Qk Zz B) hA hB hB0
def Eh(p q r:Value):Prop:=(∃b,p= .bool b)∧(∃a l c,q= .slice a l c)∧ ∃a l c,r= .slice a l c
theorem Vs{p q r:Value}(ht:Eh p q r)(e:Int)(H:AH): ∃H',Zq Tryz.prog Zo 83 [.nilIface,.agg #[p,q,r],.int .i64 e] H=some (.tuple #[.agg #[p,q,r],.int .i64 e],H')∧Keep H H':=by
 obtain⟨⟨b,rfl⟩,⟨a1,l1,c1,rfl⟩,⟨a2,l2,c2,rfl⟩⟩:=ht;suffices h:CW Tryz.prog Zo 83 [.nilIface,.agg #[.bool b,.slice a1 l1 c1,.slice a2 l2 c2],.int .i64 e] H fun v H'=>v= .tuple #[.agg #[.bool b,.slice a1 l1 c1,.slice a2 l2 c2],.int .i64 e]∧Keep H H' by obtain⟨v,H',hc,rfl,k⟩:=h;exact⟨H',hc,k⟩
 obtain⟨H2,e2,k2,n2,q1,q2⟩:=Jk H [.bool b,.slice a1 l1 c1,.slice a2 l2 c2] [.bool false,.slice none 0 0,.slice none 0 0];obtain⟨H4,st4,n4,q4,b4,ka4⟩:=Cb (p:= .bool b) (q:= .slice a1 l1 c1) (r:= .slice a2 l2 c2) q2 rfl rfl rfl rfl rfl rfl;have k04:Keep H H4:=ka4 H k2 (by omega);have hld:=Xr q4;refine Zl 26 (by decide) (by decide) Tryz.func83 rfl rfl ?_;apply Zb;intro b1 hb1;apply Za;simp[Value.cells,Jz,Vl,e2];subst hb1;apply Zb;intro b1 hb1;apply Zb;intro b2 hb2;apply Za;simp[-Xy,nilEq];subst hb2;refine Zc (t:=true) (by simp) ?_;apply Zb;intro b2 hb2;apply Za;simp[Xr q1,st4];subst hb2;apply Zn;simp[Xw,hld];exact k04
end
section
variable {H : AH} {u v va vb : Value} {xs ys : List Nat} {A B : Nat}
def Eu(m:Nat)(H H':AH):Prop:=H.n≤H'.n∧(∀j,j<H.n→H'.blk j=H.blk j)∧KAt m H H'
theorem norm1_cwd{b2 b3:Nat}{p q r:Value}{e:Int}{K:AH→Prop}(ht:Eh p q r)(hq:H.blk b2= .rw 1 [p,q,r])(he:H.blk b3= .rw 1 [.int .i64 e])(h2:b2<H.n)(h3:b3<H.n)(hlt:b2<b3)(hK: ∀H',Eu b2 H H'→K H'):CWD Tryz.prog Zo 82 [.pointer (some ⟨b2,0,none⟩),.pointer (some ⟨b3,0,none⟩)] .nilIface H K:=by
 obtain⟨E1,c1,kE1⟩:=Vs ht e H.top;obtain⟨G1,hG1⟩: ∃G1,G1=grown H E1:=⟨_,rfl⟩;have kG1:Keep H G1:=by rw[hG1];exact Zu (.refl H) kE1
 have nE1:H.n≤E1.n:=kE1.n;have nG1:=kG1.n;have r2:G1.blk b2= .rw 1 [p,q,r]:=by rw[kG1.blk _ h2];exact hq
 have r3:G1.blk b3= .rw 1 [.int .i64 e]:=by rw[kG1.blk _ h3];exact he
 have hcells:(Value.agg #[p,q,r]).cells.toList=[p,q,r]∧[p,q,r].all one=true:=by obtain⟨⟨b,rfl⟩,⟨a1,l1,c1,rfl⟩,⟨a2,l2,c2,rfl⟩⟩:=ht;exact⟨rfl,rfl⟩
 obtain⟨S1,st1,sn1,slw1,fn1,fb1,fo1,fk1⟩:=Fu (v:= .agg #[p,q,r]) (ws:=[p,q,r]) Up r2 (by omega) rfl hcells.1 rfl hcells.2;obtain⟨F1,hF1⟩: ∃F1,F1=low G1 S1:=⟨_,rfl⟩;rw[←hF1]at fn1 fb1 fo1 fk1;have r3':F1.blk b3= .rw 1 [.int .i64 e]:=by rw[fo1 _ (by omega)];exact r3
 obtain⟨S2,st2,sn2,slw2,fn2,fb2,fo2,fk2⟩:=Fu (v:= .int .i64 e) (ws:=[.int .i64 e]) sErr r3' (by omega) rfl rfl rfl rfl;obtain⟨F,hF⟩: ∃F,F=low F1 S2:=⟨_,rfl⟩;rw[←hF]at fn2 fb2 fo2 fk2;have hS:Eu b2 H F:=by
  refine⟨by omega,fun j hj=>?_,fun H0 k hn=>fk2 H0 (fk1 H0 (k.trans kG1) hn) (by omega)⟩;by_cases j3:j=b3;·subst j3;rw[fb2];exact he.symm
  ·rw[fo2 _ j3];by_cases j2:j=b2;·subst j2;rw[fb1];exact hq.symm
   ·rw[fo1 _ j2];exact kG1.blk _ hj
 have l1:=Xr (H:=H.top) hq;have l2:Yn Tryz.prog H.top 23 (.pointer (some ⟨b3,0,none⟩))=some (.int .i64 e):=Ys aErr (AH.cells_rw' (H:=H.top) he (by decide)) rfl;refine Vo 9 Tryz.func82 rfl rfl ?_;apply Vp (by kernel_rfl);apply Qs (by kernel_rfl);simp[Vn,isRec];refine Yh (v:= .agg #[p,q,r]) rfl rfl rfl (by rw[Zm rfl];simp[l1]) ?_;simp;refine Yh (v:= .int .i64 e) rfl rfl rfl (by rw[Zm rfl];simp[l2]) ?_;simp;refine Yu (v:= .tuple #[.agg #[p,q,r],.int .i64 e]) (H2:=E1) rfl rfl rfl (by rw[Zm rfl];simp[c1]) nE1 (Yw kE1) ?_;rw[←hG1];generalize hms:cond (Nat.blt H.n E1.n) _ _=ms;have hms1:=Fs hms;simp;refine Xd (v:= .tuple #[]) (H2:=S1) rfl rfl (by kernel_rfl) (Xe fun x hx=>by rw[(hms1 x hx).1];kernel_rfl) ?_ (by omega) slw1 ?_;·show Yf _ _ _ _ G1.top _=_;simp[st1]
 rw[show({ n:=S1.n,lw:=min G1.lw S1.lw,t:=S1.t } :AH)=F1 from hF1.symm];rw[show Nat.blt G1.n S1.n=false from by rw[sn1];exact Qi _,cond_false];simp;refine Xd (v:= .tuple #[]) (H2:=S2) rfl rfl (by kernel_rfl) (Xe fun x hx=>by rw[(hms1 x hx).1];kernel_rfl) ?_ (by omega) slw2 ?_;·show Yf _ _ _ _ F1.top _=_;simp[st2]
 rw[show({ n:=S2.n,lw:=min F1.lw S2.lw,t:=S2.t } :AH)=F from hF.symm];simp;exact hK F hS
end
end
theorem Ua(k:Nat){P:Program}{C:Cfg}{f:FuncId}{fn:Func}{c a:Code}{ops:Array Oper}{o1:Oper}{dc:Call}{rest:Code}{args:List Value}{H:AH}{R:Value→AH→Prop}(ha:Nat.beq f C.add=false)(hs:Nat.beq f C.sub=false)(hf:P.funcs[f]?=some fn)(hb:fn.body=some c)(hk:args.length+(fn.ntmps-args.length)=k)(hd:Ab c=some (a,ops,o1,dc,rest))(h: ∀b,b=rest→W P C a { k:=k,tm:=Qc 0 args .nil,H:=H } fun ex s=>ex= .norm∧LW' P C s.k (Yd ops [o1]) s.tm s.H fun tm2 H2=> ∃g dargs,Qt C tm2 dc=some (g,dargs)∧W P C b ⟨s.k,tm2,H2⟩ fun ex3 s3=> ∃rv,Kl ex3=some rv∧CWD P C g dargs rv s3.H fun H4=> ∃vs,Zt P ⟨s3.k,s3.tm,H4⟩ fn.results.toList=some vs∧R (Yv vs) H4):CW P C f args H R:=CW_defer k ha hs hf hb hk hd (h rest rfl)
theorem putE{H:AH}{b:Nat}{x e:Int}(hb:H.blk b= .rw 1 [.int .i64 x]): ∃H',Xp Tryz.prog H 23 (.pointer (some ⟨b,0,none⟩)) (.int .i64 e)=some H'∧H'.n=H.n∧H'.blk b= .rw 1 [.int .i64 e]∧(∀j,j≠b→H'.blk j=H.blk j)∧KAt b H H':=Cz sErr hb rfl rfl rfl rfl
theorem Ep{H:AH}{b:Nat}{e:Int}(hb:H.blk b= .rw 1 [.int .i64 e]):Yn Tryz.prog H 23 (.pointer (some ⟨b,0,none⟩))=some (.int .i64 e):=Ys aErr (AH.cells_rw' hb (by decide)) rfl
theorem Eu.own{m n:Nat}{H H':AH}(h:Eu m H H'){v:Value}{xs:List Nat}(o:Own n H v xs):Own n H' v xs:=o.mod (b:=none) ⟨h.1,fun j hj _=>h.2.1 j hj⟩ (fun c hc=>by cases hc)
theorem Eu.keep{m:Nat}{H0 H H':AH}(h:Eu m H H')(k:Keep H0 H)(hn:H0.n≤m):Keep H0 H':=h.2.2 H0 k hn
section
attribute [-simp] Int.natCast_add Int.natCast_mul Int.natCast_ediv Int.natCast_emod Int.natCast_pow
attribute [local simp] strip Yd LW' LR gW Yf Xh Ya Xi Yo Xj Zr Zs Zh Yp Yy Yk Xo Zw Yq Zi Ze Xn Xm Je Ye Xa opd Qe Ym plain Yj Tr.get_set Qc Zp Xy Yc sameKind undef Zt Yr Yv Zk Yb parts unV DW Xq Zv LX Zy
attribute [local simp] Qh Qt
section
variable {H : AH} {u v va vb : Value} {xs ys : List Nat} {A B : Nat}
theorem Zq1(neg:Bool)(ha:Sl H u xs)(hb:Sl H v ys)(dx:Dig B64 xs)(dy:Dig B64 ys)(lx:xs.length≤17592186044416)(ly:ys.length≤17592186044416)(eA:dv B64 xs=A)(eB:dv B64 ys=B)(hA:Zf A≤67108864)(hB:Zf B≤67108864)(hB0:0<B): ∃p q H',Zq Tryz.prog Zo 53 [.agg #[.bool neg,u,v]] H=some (.tuple #[.agg #[.bool (Yl neg A B).1,p,q],.int .i64 0],H')∧Keep H H'∧Own H.n H' p (ds B64 (Yl neg A B).2.1)∧Own H.n H' q (ds B64 (Yl neg A B).2.2)∧Ka p q:=by
 obtain⟨r,hr⟩: ∃r,r=Yl neg A B:=⟨_,rfl⟩;suffices hs:CW Tryz.prog Zo 53 [.agg #[.bool neg,u,v]] H fun v H'=> ∃p q,v= .tuple #[.agg #[.bool r.1,p,q],.int .i64 0]∧Keep H H'∧Own H.n H' p (ds B64 r.2.1)∧Own H.n H' q (ds B64 r.2.2)∧Ka p q by obtain⟨v,H',hc,p,q,rfl,k,o⟩:=hs;rw[←hr];exact⟨p,q,H',hc,k,o⟩
 obtain⟨H2,e2,k2,n2,q1,q2,q3⟩:=Zb3 H [.bool neg,u,v] [.bool false,.slice none 0 0,.slice none 0 0] [.int .i64 0];obtain⟨p,q,H3,c3,k3,o3,o4,ap⟩:=Zd0 neg (ha.keep k2) (hb.keep k2) dx dy lx ly eA eB hA hB hB0;rw[←hr]at c3 o3 o4;have n3:=k3.n;have q2':=k3.blk _ (show H.n+1<H2.n by omega);rw[q2]at q2';have q3':=k3.blk _ (show H.n+2<H2.n by omega);rw[q3]at q3';obtain⟨i1,i2,i3⟩:=o3.trio;obtain⟨j1,j2,j3⟩:=o4.trio;obtain⟨S,N,D⟩:=r;simp only at c3 o3 o4⊢;obtain⟨H4,st4,n4,q4,b4,ka4⟩:=Cb (p:= .bool S) (q:=p) (r:=q) q2' rfl i1 j1 rfl i2 j2;have q3'':H4.blk (H.n+2)= .rw 1 [.int .i64 0]:=by rw[b4 _ (by omega)];exact q3'
 obtain⟨H5,st5,n5,q5,b5,ka5⟩:=putE (e:=0) q3'';have q4':H5.blk (H.n+1)= .rw 1 [.bool S,p,q]:=by rw[b5 _ (by omega)];exact q4
 have k05:Keep H H5:=ka5 H (ka4 H (k2.trans k3) (by omega)) (by omega);have o5:=((o3.off (b:=H.n+1) (by omega) n4 b4).off (b:=H.n+2) (by omega) n5 b5).mono (show H.n≤H2.n by omega) (.refl _);have o6:=((o4.off (b:=H.n+1) (by omega) n4 b4).off (b:=H.n+2) (by omega) n5 b5).mono (show H.n≤H2.n by omega) (.refl _);refine Ua 7 (by decide) (by decide) Tryz.func53 rfl rfl rfl ?_;intro b1 hb1;apply Za;simp[Value.cells,Jz,zErr,Vl,e2];refine⟨_,_,⟨rfl,rfl⟩,?_⟩;subst hb1;apply Zb;intro b1 hb1;apply Za;simp[Xr q1,c3,st4,st5];subst hb1;apply Zn;simp[Kl];refine norm1_cwd ⟨⟨_,rfl⟩,i3,j3⟩ q4' q5 (by omega) (by omega) (by omega) fun H6 hS=>?_;have r4:H6.blk (H.n+1)= .rw 1 [.bool S,p,q]:=by rw[hS.2.1 _ (by omega)];exact q4'
 have r5:H6.blk (H.n+2)= .rw 1 [.int .i64 0]:=by rw[hS.2.1 _ (by omega)];exact q5
 simp[Xr r4,Ep r5];exact⟨_,_,⟨rfl,rfl⟩,hS.keep k05 (by omega),hS.own o5,hS.own o6,ap⟩
theorem Em(neg:Bool)(ha:Sl H u xs)(hb:Sl H v ys)(dx:Dig B64 xs)(dy:Dig B64 ys)(lx:xs.length≤17592186044416)(ly:ys.length≤17592186044416)(eA:dv B64 xs=A)(eB:dv B64 ys=B)(hA:Zf A≤67108864)(hB:Zf B≤67108864)(hB0:0<B): ∃p q H',Zq Tryz.prog Zo 53 [.agg #[.bool neg,u,v]] H=some (.tuple #[.agg #[.bool (Yl neg A B).1,p,q],.int .i64 0],H')∧Keep H H'∧Own H.n H' p (ds B64 (Yl neg A B).2.1)∧Own H.n H' q (ds B64 (Yl neg A B).2.2):=by obtain⟨p,q,H',h1,h2,h3,h4,_⟩:=Zq1 neg ha hb dx dy lx ly eA eB hA hB hB0;exact⟨p,q,H',h1,h2,h3,h4⟩
end
end
section
attribute [-simp] Int.natCast_add Int.natCast_mul Int.natCast_ediv Int.natCast_emod Int.natCast_pow
attribute [local simp] strip Yd LW' LR gW Yf Xh Ya Xi Yo Xj Zr Zs Zh Yp Yy Yk Xo Zw Yq Zi Ze Xn Xm Je Ye Xa opd Qe Ym plain Yj Tr.get_set Qc Zp Xy Yc sameKind undef Zt Yr Yv Zk Yb parts unV DW Xq Zv LX Zy
section
variable {H : AH} {u v va vb : Value} {xs ys : List Nat} {A B : Nat}
theorem make1_cwd{b2 b3:Nat}{p q r:Value}{e:Int}{K:AH→Prop}(ht:Eh p q r)(hq:H.blk b2= .rw 1 [p,q,r])(he:H.blk b3= .rw 1 [.int .i64 e])(h2:b2<H.n)(h3:b3<H.n)(hlt:b2<b3)(hK: ∀H',Eu b2 H H'→K H'):CWD Tryz.prog Zo 90 [.pointer (some ⟨b2,0,none⟩),.pointer (some ⟨b3,0,none⟩)] .nilIface H K:=by
 obtain⟨E1,c1,kE1⟩:=Vs ht e H.top;obtain⟨G1,hG1⟩: ∃G1,G1=grown H E1:=⟨_,rfl⟩;have kG1:Keep H G1:=by rw[hG1];exact Zu (.refl H) kE1
 have nE1:H.n≤E1.n:=kE1.n;have nG1:=kG1.n;have r2:G1.blk b2= .rw 1 [p,q,r]:=by rw[kG1.blk _ h2];exact hq
 have r3:G1.blk b3= .rw 1 [.int .i64 e]:=by rw[kG1.blk _ h3];exact he
 have hcells:(Value.agg #[p,q,r]).cells.toList=[p,q,r]∧[p,q,r].all one=true:=by obtain⟨⟨b,rfl⟩,⟨a1,l1,c1,rfl⟩,⟨a2,l2,c2,rfl⟩⟩:=ht;exact⟨rfl,rfl⟩
 obtain⟨S1,st1,sn1,slw1,fn1,fb1,fo1,fk1⟩:=Fu (v:= .agg #[p,q,r]) (ws:=[p,q,r]) Up r2 (by omega) rfl hcells.1 rfl hcells.2;obtain⟨F1,hF1⟩: ∃F1,F1=low G1 S1:=⟨_,rfl⟩;rw[←hF1]at fn1 fb1 fo1 fk1;have r3':F1.blk b3= .rw 1 [.int .i64 e]:=by rw[fo1 _ (by omega)];exact r3
 obtain⟨S2,st2,sn2,slw2,fn2,fb2,fo2,fk2⟩:=Fu (v:= .int .i64 e) (ws:=[.int .i64 e]) sErr r3' (by omega) rfl rfl rfl rfl;obtain⟨F,hF⟩: ∃F,F=low F1 S2:=⟨_,rfl⟩;rw[←hF]at fn2 fb2 fo2 fk2;have hS:Eu b2 H F:=by
  refine⟨by omega,fun j hj=>?_,fun H0 k hn=>fk2 H0 (fk1 H0 (k.trans kG1) hn) (by omega)⟩;by_cases j3:j=b3;·subst j3;rw[fb2];exact he.symm
  ·rw[fo2 _ j3];by_cases j2:j=b2;·subst j2;rw[fb1];exact hq.symm
   ·rw[fo1 _ j2];exact kG1.blk _ hj
 have l1:=Xr (H:=H.top) hq;have l2:Yn Tryz.prog H.top 23 (.pointer (some ⟨b3,0,none⟩))=some (.int .i64 e):=Ys aErr (AH.cells_rw' (H:=H.top) he (by decide)) rfl;refine Vo 9 Tryz.func90 rfl rfl ?_;apply Vp (by kernel_rfl);apply Qs (by kernel_rfl);simp[Vn,isRec];refine Yh (v:= .agg #[p,q,r]) rfl rfl rfl (by rw[Zm rfl];simp[l1]) ?_;simp;refine Yh (v:= .int .i64 e) rfl rfl rfl (by rw[Zm rfl];simp[l2]) ?_;simp;refine Yu (v:= .tuple #[.agg #[p,q,r],.int .i64 e]) (H2:=E1) rfl rfl rfl (by rw[Zm rfl];simp[c1]) nE1 (Yw kE1) ?_;rw[←hG1];generalize hms:cond (Nat.blt H.n E1.n) _ _=ms;have hms1:=Fs hms;simp;refine Xd (v:= .tuple #[]) (H2:=S1) rfl rfl (by kernel_rfl) (Xe fun x hx=>by rw[(hms1 x hx).1];kernel_rfl) ?_ (by omega) slw1 ?_;·show Yf _ _ _ _ G1.top _=_;simp[st1]
 rw[show({ n:=S1.n,lw:=min G1.lw S1.lw,t:=S1.t } :AH)=F1 from hF1.symm];rw[show Nat.blt G1.n S1.n=false from by rw[sn1];exact Qi _,cond_false];simp;refine Xd (v:= .tuple #[]) (H2:=S2) rfl rfl (by kernel_rfl) (Xe fun x hx=>by rw[(hms1 x hx).1];kernel_rfl) ?_ (by omega) slw2 ?_;·show Yf _ _ _ _ F1.top _=_;simp[st2]
 rw[show({ n:=S2.n,lw:=min F1.lw S2.lw,t:=S2.t } :AH)=F from hF.symm];simp;exact hK F hS
theorem neg1_cwd{b2 b3:Nat}{p q r:Value}{e:Int}{K:AH→Prop}(ht:Eh p q r)(hq:H.blk b2= .rw 1 [p,q,r])(he:H.blk b3= .rw 1 [.int .i64 e])(h2:b2<H.n)(h3:b3<H.n)(hlt:b2<b3)(hK: ∀H',Eu b2 H H'→K H'):CWD Tryz.prog Zo 136 [.pointer (some ⟨b2,0,none⟩),.pointer (some ⟨b3,0,none⟩)] .nilIface H K:=by
 obtain⟨E1,c1,kE1⟩:=Vs ht e H.top;obtain⟨G1,hG1⟩: ∃G1,G1=grown H E1:=⟨_,rfl⟩;have kG1:Keep H G1:=by rw[hG1];exact Zu (.refl H) kE1
 have nE1:H.n≤E1.n:=kE1.n;have nG1:=kG1.n;have r2:G1.blk b2= .rw 1 [p,q,r]:=by rw[kG1.blk _ h2];exact hq
 have r3:G1.blk b3= .rw 1 [.int .i64 e]:=by rw[kG1.blk _ h3];exact he
 have hcells:(Value.agg #[p,q,r]).cells.toList=[p,q,r]∧[p,q,r].all one=true:=by obtain⟨⟨b,rfl⟩,⟨a1,l1,c1,rfl⟩,⟨a2,l2,c2,rfl⟩⟩:=ht;exact⟨rfl,rfl⟩
 obtain⟨S1,st1,sn1,slw1,fn1,fb1,fo1,fk1⟩:=Fu (v:= .agg #[p,q,r]) (ws:=[p,q,r]) Up r2 (by omega) rfl hcells.1 rfl hcells.2;obtain⟨F1,hF1⟩: ∃F1,F1=low G1 S1:=⟨_,rfl⟩;rw[←hF1]at fn1 fb1 fo1 fk1;have r3':F1.blk b3= .rw 1 [.int .i64 e]:=by rw[fo1 _ (by omega)];exact r3
 obtain⟨S2,st2,sn2,slw2,fn2,fb2,fo2,fk2⟩:=Fu (v:= .int .i64 e) (ws:=[.int .i64 e]) sErr r3' (by omega) rfl rfl rfl rfl;obtain⟨F,hF⟩: ∃F,F=low F1 S2:=⟨_,rfl⟩;rw[←hF]at fn2 fb2 fo2 fk2;have hS:Eu b2 H F:=by
  refine⟨by omega,fun j hj=>?_,fun H0 k hn=>fk2 H0 (fk1 H0 (k.trans kG1) hn) (by omega)⟩;by_cases j3:j=b3;·subst j3;rw[fb2];exact he.symm
  ·rw[fo2 _ j3];by_cases j2:j=b2;·subst j2;rw[fb1];exact hq.symm
   ·rw[fo1 _ j2];exact kG1.blk _ hj
 have l1:=Xr (H:=H.top) hq;have l2:Yn Tryz.prog H.top 23 (.pointer (some ⟨b3,0,none⟩))=some (.int .i64 e):=Ys aErr (AH.cells_rw' (H:=H.top) he (by decide)) rfl;refine Vo 9 Tryz.func136 rfl rfl ?_;apply Vp (by kernel_rfl);apply Qs (by kernel_rfl);simp[Vn,isRec];refine Yh (v:= .agg #[p,q,r]) rfl rfl rfl (by rw[Zm rfl];simp[l1]) ?_;simp;refine Yh (v:= .int .i64 e) rfl rfl rfl (by rw[Zm rfl];simp[l2]) ?_;simp;refine Yu (v:= .tuple #[.agg #[p,q,r],.int .i64 e]) (H2:=E1) rfl rfl rfl (by rw[Zm rfl];simp[c1]) nE1 (Yw kE1) ?_;rw[←hG1];generalize hms:cond (Nat.blt H.n E1.n) _ _=ms;have hms1:=Fs hms;simp;refine Xd (v:= .tuple #[]) (H2:=S1) rfl rfl (by kernel_rfl) (Xe fun x hx=>by rw[(hms1 x hx).1];kernel_rfl) ?_ (by omega) slw1 ?_;·show Yf _ _ _ _ G1.top _=_;simp[st1]
 rw[show({ n:=S1.n,lw:=min G1.lw S1.lw,t:=S1.t } :AH)=F1 from hF1.symm];rw[show Nat.blt G1.n S1.n=false from by rw[sn1];exact Qi _,cond_false];simp;refine Xd (v:= .tuple #[]) (H2:=S2) rfl rfl (by kernel_rfl) (Xe fun x hx=>by rw[(hms1 x hx).1];kernel_rfl) ?_ (by omega) slw2 ?_;·show Yf _ _ _ _ F1.top _=_;simp[st2]
 rw[show({ n:=S2.n,lw:=min F1.lw S2.lw,t:=S2.t } :AH)=F from hF.symm];simp;exact hK F hS
theorem abs1_cwd{b2 b3:Nat}{p q r:Value}{e:Int}{K:AH→Prop}(ht:Eh p q r)(hq:H.blk b2= .rw 1 [p,q,r])(he:H.blk b3= .rw 1 [.int .i64 e])(h2:b2<H.n)(h3:b3<H.n)(hlt:b2<b3)(hK: ∀H',Eu b2 H H'→K H'):CWD Tryz.prog Zo 137 [.pointer (some ⟨b2,0,none⟩),.pointer (some ⟨b3,0,none⟩)] .nilIface H K:=by
 obtain⟨E1,c1,kE1⟩:=Vs ht e H.top;obtain⟨G1,hG1⟩: ∃G1,G1=grown H E1:=⟨_,rfl⟩;have kG1:Keep H G1:=by rw[hG1];exact Zu (.refl H) kE1
 have nE1:H.n≤E1.n:=kE1.n;have nG1:=kG1.n;have r2:G1.blk b2= .rw 1 [p,q,r]:=by rw[kG1.blk _ h2];exact hq
 have r3:G1.blk b3= .rw 1 [.int .i64 e]:=by rw[kG1.blk _ h3];exact he
 have hcells:(Value.agg #[p,q,r]).cells.toList=[p,q,r]∧[p,q,r].all one=true:=by obtain⟨⟨b,rfl⟩,⟨a1,l1,c1,rfl⟩,⟨a2,l2,c2,rfl⟩⟩:=ht;exact⟨rfl,rfl⟩
 obtain⟨S1,st1,sn1,slw1,fn1,fb1,fo1,fk1⟩:=Fu (v:= .agg #[p,q,r]) (ws:=[p,q,r]) Up r2 (by omega) rfl hcells.1 rfl hcells.2;obtain⟨F1,hF1⟩: ∃F1,F1=low G1 S1:=⟨_,rfl⟩;rw[←hF1]at fn1 fb1 fo1 fk1;have r3':F1.blk b3= .rw 1 [.int .i64 e]:=by rw[fo1 _ (by omega)];exact r3
 obtain⟨S2,st2,sn2,slw2,fn2,fb2,fo2,fk2⟩:=Fu (v:= .int .i64 e) (ws:=[.int .i64 e]) sErr r3' (by omega) rfl rfl rfl rfl;obtain⟨F,hF⟩: ∃F,F=low F1 S2:=⟨_,rfl⟩;rw[←hF]at fn2 fb2 fo2 fk2;have hS:Eu b2 H F:=by
  refine⟨by omega,fun j hj=>?_,fun H0 k hn=>fk2 H0 (fk1 H0 (k.trans kG1) hn) (by omega)⟩;by_cases j3:j=b3;·subst j3;rw[fb2];exact he.symm
  ·rw[fo2 _ j3];by_cases j2:j=b2;·subst j2;rw[fb1];exact hq.symm
   ·rw[fo1 _ j2];exact kG1.blk _ hj
 have l1:=Xr (H:=H.top) hq;have l2:Yn Tryz.prog H.top 23 (.pointer (some ⟨b3,0,none⟩))=some (.int .i64 e):=Ys aErr (AH.cells_rw' (H:=H.top) he (by decide)) rfl;refine Vo 9 Tryz.func137 rfl rfl ?_;apply Vp (by kernel_rfl);apply Qs (by kernel_rfl);simp[Vn,isRec];refine Yh (v:= .agg #[p,q,r]) rfl rfl rfl (by rw[Zm rfl];simp[l1]) ?_;simp;refine Yh (v:= .int .i64 e) rfl rfl rfl (by rw[Zm rfl];simp[l2]) ?_;simp;refine Yu (v:= .tuple #[.agg #[p,q,r],.int .i64 e]) (H2:=E1) rfl rfl rfl (by rw[Zm rfl];simp[c1]) nE1 (Yw kE1) ?_;rw[←hG1];generalize hms:cond (Nat.blt H.n E1.n) _ _=ms;have hms1:=Fs hms;simp;refine Xd (v:= .tuple #[]) (H2:=S1) rfl rfl (by kernel_rfl) (Xe fun x hx=>by rw[(hms1 x hx).1];kernel_rfl) ?_ (by omega) slw1 ?_;·show Yf _ _ _ _ G1.top _=_;simp[st1]
 rw[show({ n:=S1.n,lw:=min G1.lw S1.lw,t:=S1.t } :AH)=F1 from hF1.symm];rw[show Nat.blt G1.n S1.n=false from by rw[sn1];exact Qi _,cond_false];simp;refine Xd (v:= .tuple #[]) (H2:=S2) rfl rfl (by kernel_rfl) (Xe fun x hx=>by rw[(hms1 x hx).1];kernel_rfl) ?_ (by omega) slw2 ?_;·show Yf _ _ _ _ F1.top _=_;simp[st2]
 rw[show({ n:=S2.n,lw:=min F1.lw S2.lw,t:=S2.t } :AH)=F from hF.symm];simp;exact hK F hS
theorem add1_cwd{b2 b3:Nat}{p q r:Value}{e:Int}{K:AH→Prop}(ht:Eh p q r)(hq:H.blk b2= .rw 1 [p,q,r])(he:H.blk b3= .rw 1 [.int .i64 e])(h2:b2<H.n)(h3:b3<H.n)(hlt:b2<b3)(hK: ∀H',Eu b2 H H'→K H'):CWD Tryz.prog Zo 138 [.pointer (some ⟨b2,0,none⟩),.pointer (some ⟨b3,0,none⟩)] .nilIface H K:=by
 obtain⟨E1,c1,kE1⟩:=Vs ht e H.top;obtain⟨G1,hG1⟩: ∃G1,G1=grown H E1:=⟨_,rfl⟩;have kG1:Keep H G1:=by rw[hG1];exact Zu (.refl H) kE1
 have nE1:H.n≤E1.n:=kE1.n;have nG1:=kG1.n;have r2:G1.blk b2= .rw 1 [p,q,r]:=by rw[kG1.blk _ h2];exact hq
 have r3:G1.blk b3= .rw 1 [.int .i64 e]:=by rw[kG1.blk _ h3];exact he
 have hcells:(Value.agg #[p,q,r]).cells.toList=[p,q,r]∧[p,q,r].all one=true:=by obtain⟨⟨b,rfl⟩,⟨a1,l1,c1,rfl⟩,⟨a2,l2,c2,rfl⟩⟩:=ht;exact⟨rfl,rfl⟩
 obtain⟨S1,st1,sn1,slw1,fn1,fb1,fo1,fk1⟩:=Fu (v:= .agg #[p,q,r]) (ws:=[p,q,r]) Up r2 (by omega) rfl hcells.1 rfl hcells.2;obtain⟨F1,hF1⟩: ∃F1,F1=low G1 S1:=⟨_,rfl⟩;rw[←hF1]at fn1 fb1 fo1 fk1;have r3':F1.blk b3= .rw 1 [.int .i64 e]:=by rw[fo1 _ (by omega)];exact r3
 obtain⟨S2,st2,sn2,slw2,fn2,fb2,fo2,fk2⟩:=Fu (v:= .int .i64 e) (ws:=[.int .i64 e]) sErr r3' (by omega) rfl rfl rfl rfl;obtain⟨F,hF⟩: ∃F,F=low F1 S2:=⟨_,rfl⟩;rw[←hF]at fn2 fb2 fo2 fk2;have hS:Eu b2 H F:=by
  refine⟨by omega,fun j hj=>?_,fun H0 k hn=>fk2 H0 (fk1 H0 (k.trans kG1) hn) (by omega)⟩;by_cases j3:j=b3;·subst j3;rw[fb2];exact he.symm
  ·rw[fo2 _ j3];by_cases j2:j=b2;·subst j2;rw[fb1];exact hq.symm
   ·rw[fo1 _ j2];exact kG1.blk _ hj
 have l1:=Xr (H:=H.top) hq;have l2:Yn Tryz.prog H.top 23 (.pointer (some ⟨b3,0,none⟩))=some (.int .i64 e):=Ys aErr (AH.cells_rw' (H:=H.top) he (by decide)) rfl;refine Vo 9 Tryz.func138 rfl rfl ?_;apply Vp (by kernel_rfl);apply Qs (by kernel_rfl);simp[Vn,isRec];refine Yh (v:= .agg #[p,q,r]) rfl rfl rfl (by rw[Zm rfl];simp[l1]) ?_;simp;refine Yh (v:= .int .i64 e) rfl rfl rfl (by rw[Zm rfl];simp[l2]) ?_;simp;refine Yu (v:= .tuple #[.agg #[p,q,r],.int .i64 e]) (H2:=E1) rfl rfl rfl (by rw[Zm rfl];simp[c1]) nE1 (Yw kE1) ?_;rw[←hG1];generalize hms:cond (Nat.blt H.n E1.n) _ _=ms;have hms1:=Fs hms;simp;refine Xd (v:= .tuple #[]) (H2:=S1) rfl rfl (by kernel_rfl) (Xe fun x hx=>by rw[(hms1 x hx).1];kernel_rfl) ?_ (by omega) slw1 ?_;·show Yf _ _ _ _ G1.top _=_;simp[st1]
 rw[show({ n:=S1.n,lw:=min G1.lw S1.lw,t:=S1.t } :AH)=F1 from hF1.symm];rw[show Nat.blt G1.n S1.n=false from by rw[sn1];exact Qi _,cond_false];simp;refine Xd (v:= .tuple #[]) (H2:=S2) rfl rfl (by kernel_rfl) (Xe fun x hx=>by rw[(hms1 x hx).1];kernel_rfl) ?_ (by omega) slw2 ?_;·show Yf _ _ _ _ F1.top _=_;simp[st2]
 rw[show({ n:=S2.n,lw:=min F1.lw S2.lw,t:=S2.t } :AH)=F from hF.symm];simp;exact hK F hS
theorem sub1_cwd{b2 b3:Nat}{p q r:Value}{e:Int}{K:AH→Prop}(ht:Eh p q r)(hq:H.blk b2= .rw 1 [p,q,r])(he:H.blk b3= .rw 1 [.int .i64 e])(h2:b2<H.n)(h3:b3<H.n)(hlt:b2<b3)(hK: ∀H',Eu b2 H H'→K H'):CWD Tryz.prog Zo 147 [.pointer (some ⟨b2,0,none⟩),.pointer (some ⟨b3,0,none⟩)] .nilIface H K:=by
 obtain⟨E1,c1,kE1⟩:=Vs ht e H.top;obtain⟨G1,hG1⟩: ∃G1,G1=grown H E1:=⟨_,rfl⟩;have kG1:Keep H G1:=by rw[hG1];exact Zu (.refl H) kE1
 have nE1:H.n≤E1.n:=kE1.n;have nG1:=kG1.n;have r2:G1.blk b2= .rw 1 [p,q,r]:=by rw[kG1.blk _ h2];exact hq
 have r3:G1.blk b3= .rw 1 [.int .i64 e]:=by rw[kG1.blk _ h3];exact he
 have hcells:(Value.agg #[p,q,r]).cells.toList=[p,q,r]∧[p,q,r].all one=true:=by obtain⟨⟨b,rfl⟩,⟨a1,l1,c1,rfl⟩,⟨a2,l2,c2,rfl⟩⟩:=ht;exact⟨rfl,rfl⟩
 obtain⟨S1,st1,sn1,slw1,fn1,fb1,fo1,fk1⟩:=Fu (v:= .agg #[p,q,r]) (ws:=[p,q,r]) Up r2 (by omega) rfl hcells.1 rfl hcells.2;obtain⟨F1,hF1⟩: ∃F1,F1=low G1 S1:=⟨_,rfl⟩;rw[←hF1]at fn1 fb1 fo1 fk1;have r3':F1.blk b3= .rw 1 [.int .i64 e]:=by rw[fo1 _ (by omega)];exact r3
 obtain⟨S2,st2,sn2,slw2,fn2,fb2,fo2,fk2⟩:=Fu (v:= .int .i64 e) (ws:=[.int .i64 e]) sErr r3' (by omega) rfl rfl rfl rfl;obtain⟨F,hF⟩: ∃F,F=low F1 S2:=⟨_,rfl⟩;rw[←hF]at fn2 fb2 fo2 fk2;have hS:Eu b2 H F:=by
  refine⟨by omega,fun j hj=>?_,fun H0 k hn=>fk2 H0 (fk1 H0 (k.trans kG1) hn) (by omega)⟩;by_cases j3:j=b3;·subst j3;rw[fb2];exact he.symm
  ·rw[fo2 _ j3];by_cases j2:j=b2;·subst j2;rw[fb1];exact hq.symm
   ·rw[fo1 _ j2];exact kG1.blk _ hj
 have l1:=Xr (H:=H.top) hq;have l2:Yn Tryz.prog H.top 23 (.pointer (some ⟨b3,0,none⟩))=some (.int .i64 e):=Ys aErr (AH.cells_rw' (H:=H.top) he (by decide)) rfl;refine Vo 9 Tryz.func147 rfl rfl ?_;apply Vp (by kernel_rfl);apply Qs (by kernel_rfl);simp[Vn,isRec];refine Yh (v:= .agg #[p,q,r]) rfl rfl rfl (by rw[Zm rfl];simp[l1]) ?_;simp;refine Yh (v:= .int .i64 e) rfl rfl rfl (by rw[Zm rfl];simp[l2]) ?_;simp;refine Yu (v:= .tuple #[.agg #[p,q,r],.int .i64 e]) (H2:=E1) rfl rfl rfl (by rw[Zm rfl];simp[c1]) nE1 (Yw kE1) ?_;rw[←hG1];generalize hms:cond (Nat.blt H.n E1.n) _ _=ms;have hms1:=Fs hms;simp;refine Xd (v:= .tuple #[]) (H2:=S1) rfl rfl (by kernel_rfl) (Xe fun x hx=>by rw[(hms1 x hx).1];kernel_rfl) ?_ (by omega) slw1 ?_;·show Yf _ _ _ _ G1.top _=_;simp[st1]
 rw[show({ n:=S1.n,lw:=min G1.lw S1.lw,t:=S1.t } :AH)=F1 from hF1.symm];rw[show Nat.blt G1.n S1.n=false from by rw[sn1];exact Qi _,cond_false];simp;refine Xd (v:= .tuple #[]) (H2:=S2) rfl rfl (by kernel_rfl) (Xe fun x hx=>by rw[(hms1 x hx).1];kernel_rfl) ?_ (by omega) slw2 ?_;·show Yf _ _ _ _ F1.top _=_;simp[st2]
 rw[show({ n:=S2.n,lw:=min F1.lw S2.lw,t:=S2.t } :AH)=F from hF.symm];simp;exact hK F hS
theorem mul1_cwd{b2 b3:Nat}{p q r:Value}{e:Int}{K:AH→Prop}(ht:Eh p q r)(hq:H.blk b2= .rw 1 [p,q,r])(he:H.blk b3= .rw 1 [.int .i64 e])(h2:b2<H.n)(h3:b3<H.n)(hlt:b2<b3)(hK: ∀H',Eu b2 H H'→K H'):CWD Tryz.prog Zo 149 [.pointer (some ⟨b2,0,none⟩),.pointer (some ⟨b3,0,none⟩)] .nilIface H K:=by
 obtain⟨E1,c1,kE1⟩:=Vs ht e H.top;obtain⟨G1,hG1⟩: ∃G1,G1=grown H E1:=⟨_,rfl⟩;have kG1:Keep H G1:=by rw[hG1];exact Zu (.refl H) kE1
 have nE1:H.n≤E1.n:=kE1.n;have nG1:=kG1.n;have r2:G1.blk b2= .rw 1 [p,q,r]:=by rw[kG1.blk _ h2];exact hq
 have r3:G1.blk b3= .rw 1 [.int .i64 e]:=by rw[kG1.blk _ h3];exact he
 have hcells:(Value.agg #[p,q,r]).cells.toList=[p,q,r]∧[p,q,r].all one=true:=by obtain⟨⟨b,rfl⟩,⟨a1,l1,c1,rfl⟩,⟨a2,l2,c2,rfl⟩⟩:=ht;exact⟨rfl,rfl⟩
 obtain⟨S1,st1,sn1,slw1,fn1,fb1,fo1,fk1⟩:=Fu (v:= .agg #[p,q,r]) (ws:=[p,q,r]) Up r2 (by omega) rfl hcells.1 rfl hcells.2;obtain⟨F1,hF1⟩: ∃F1,F1=low G1 S1:=⟨_,rfl⟩;rw[←hF1]at fn1 fb1 fo1 fk1;have r3':F1.blk b3= .rw 1 [.int .i64 e]:=by rw[fo1 _ (by omega)];exact r3
 obtain⟨S2,st2,sn2,slw2,fn2,fb2,fo2,fk2⟩:=Fu (v:= .int .i64 e) (ws:=[.int .i64 e]) sErr r3' (by omega) rfl rfl rfl rfl;obtain⟨F,hF⟩: ∃F,F=low F1 S2:=⟨_,rfl⟩;rw[←hF]at fn2 fb2 fo2 fk2;have hS:Eu b2 H F:=by
  refine⟨by omega,fun j hj=>?_,fun H0 k hn=>fk2 H0 (fk1 H0 (k.trans kG1) hn) (by omega)⟩;by_cases j3:j=b3;·subst j3;rw[fb2];exact he.symm
  ·rw[fo2 _ j3];by_cases j2:j=b2;·subst j2;rw[fb1];exact hq.symm
   ·rw[fo1 _ j2];exact kG1.blk _ hj
 have l1:=Xr (H:=H.top) hq;have l2:Yn Tryz.prog H.top 23 (.pointer (some ⟨b3,0,none⟩))=some (.int .i64 e):=Ys aErr (AH.cells_rw' (H:=H.top) he (by decide)) rfl;refine Vo 9 Tryz.func149 rfl rfl ?_;apply Vp (by kernel_rfl);apply Qs (by kernel_rfl);simp[Vn,isRec];refine Yh (v:= .agg #[p,q,r]) rfl rfl rfl (by rw[Zm rfl];simp[l1]) ?_;simp;refine Yh (v:= .int .i64 e) rfl rfl rfl (by rw[Zm rfl];simp[l2]) ?_;simp;refine Yu (v:= .tuple #[.agg #[p,q,r],.int .i64 e]) (H2:=E1) rfl rfl rfl (by rw[Zm rfl];simp[c1]) nE1 (Yw kE1) ?_;rw[←hG1];generalize hms:cond (Nat.blt H.n E1.n) _ _=ms;have hms1:=Fs hms;simp;refine Xd (v:= .tuple #[]) (H2:=S1) rfl rfl (by kernel_rfl) (Xe fun x hx=>by rw[(hms1 x hx).1];kernel_rfl) ?_ (by omega) slw1 ?_;·show Yf _ _ _ _ G1.top _=_;simp[st1]
 rw[show({ n:=S1.n,lw:=min G1.lw S1.lw,t:=S1.t } :AH)=F1 from hF1.symm];rw[show Nat.blt G1.n S1.n=false from by rw[sn1];exact Qi _,cond_false];simp;refine Xd (v:= .tuple #[]) (H2:=S2) rfl rfl (by kernel_rfl) (Xe fun x hx=>by rw[(hms1 x hx).1];kernel_rfl) ?_ (by omega) slw2 ?_;·show Yf _ _ _ _ F1.top _=_;simp[st2]
 rw[show({ n:=S2.n,lw:=min F1.lw S2.lw,t:=S2.t } :AH)=F from hF.symm];simp;exact hK F hS
theorem quo1_cwd{b2 b3:Nat}{p q r:Value}{e:Int}{K:AH→Prop}(ht:Eh p q r)(hq:H.blk b2= .rw 1 [p,q,r])(he:H.blk b3= .rw 1 [.int .i64 e])(h2:b2<H.n)(h3:b3<H.n)(hlt:b2<b3)(hK: ∀H',Eu b2 H H'→K H'):CWD Tryz.prog Zo 150 [.pointer (some ⟨b2,0,none⟩),.pointer (some ⟨b3,0,none⟩)] .nilIface H K:=by
 obtain⟨E1,c1,kE1⟩:=Vs ht e H.top;obtain⟨G1,hG1⟩: ∃G1,G1=grown H E1:=⟨_,rfl⟩;have kG1:Keep H G1:=by rw[hG1];exact Zu (.refl H) kE1
 have nE1:H.n≤E1.n:=kE1.n;have nG1:=kG1.n;have r2:G1.blk b2= .rw 1 [p,q,r]:=by rw[kG1.blk _ h2];exact hq
 have r3:G1.blk b3= .rw 1 [.int .i64 e]:=by rw[kG1.blk _ h3];exact he
 have hcells:(Value.agg #[p,q,r]).cells.toList=[p,q,r]∧[p,q,r].all one=true:=by obtain⟨⟨b,rfl⟩,⟨a1,l1,c1,rfl⟩,⟨a2,l2,c2,rfl⟩⟩:=ht;exact⟨rfl,rfl⟩
 obtain⟨S1,st1,sn1,slw1,fn1,fb1,fo1,fk1⟩:=Fu (v:= .agg #[p,q,r]) (ws:=[p,q,r]) Up r2 (by omega) rfl hcells.1 rfl hcells.2;obtain⟨F1,hF1⟩: ∃F1,F1=low G1 S1:=⟨_,rfl⟩;rw[←hF1]at fn1 fb1 fo1 fk1;have r3':F1.blk b3= .rw 1 [.int .i64 e]:=by rw[fo1 _ (by omega)];exact r3
 obtain⟨S2,st2,sn2,slw2,fn2,fb2,fo2,fk2⟩:=Fu (v:= .int .i64 e) (ws:=[.int .i64 e]) sErr r3' (by omega) rfl rfl rfl rfl;obtain⟨F,hF⟩: ∃F,F=low F1 S2:=⟨_,rfl⟩;rw[←hF]at fn2 fb2 fo2 fk2;have hS:Eu b2 H F:=by
  refine⟨by omega,fun j hj=>?_,fun H0 k hn=>fk2 H0 (fk1 H0 (k.trans kG1) hn) (by omega)⟩;by_cases j3:j=b3;·subst j3;rw[fb2];exact he.symm
  ·rw[fo2 _ j3];by_cases j2:j=b2;·subst j2;rw[fb1];exact hq.symm
   ·rw[fo1 _ j2];exact kG1.blk _ hj
 have l1:=Xr (H:=H.top) hq;have l2:Yn Tryz.prog H.top 23 (.pointer (some ⟨b3,0,none⟩))=some (.int .i64 e):=Ys aErr (AH.cells_rw' (H:=H.top) he (by decide)) rfl;refine Vo 9 Tryz.func150 rfl rfl ?_;apply Vp (by kernel_rfl);apply Qs (by kernel_rfl);simp[Vn,isRec];refine Yh (v:= .agg #[p,q,r]) rfl rfl rfl (by rw[Zm rfl];simp[l1]) ?_;simp;refine Yh (v:= .int .i64 e) rfl rfl rfl (by rw[Zm rfl];simp[l2]) ?_;simp;refine Yu (v:= .tuple #[.agg #[p,q,r],.int .i64 e]) (H2:=E1) rfl rfl rfl (by rw[Zm rfl];simp[c1]) nE1 (Yw kE1) ?_;rw[←hG1];generalize hms:cond (Nat.blt H.n E1.n) _ _=ms;have hms1:=Fs hms;simp;refine Xd (v:= .tuple #[]) (H2:=S1) rfl rfl (by kernel_rfl) (Xe fun x hx=>by rw[(hms1 x hx).1];kernel_rfl) ?_ (by omega) slw1 ?_;·show Yf _ _ _ _ G1.top _=_;simp[st1]
 rw[show({ n:=S1.n,lw:=min G1.lw S1.lw,t:=S1.t } :AH)=F1 from hF1.symm];rw[show Nat.blt G1.n S1.n=false from by rw[sn1];exact Qi _,cond_false];simp;refine Xd (v:= .tuple #[]) (H2:=S2) rfl rfl (by kernel_rfl) (Xe fun x hx=>by rw[(hms1 x hx).1];kernel_rfl) ?_ (by omega) slw2 ?_;·show Yf _ _ _ _ F1.top _=_;simp[st2]
 rw[show({ n:=S2.n,lw:=min F1.lw S2.lw,t:=S2.t } :AH)=F from hF.symm];simp;exact hK F hS
theorem Zj4(x e:Int)(H:AH): ∃H',Zq Tryz.prog Zo 86 [.nilIface,.int .i64 x,.int .i64 e] H=some (.tuple #[.int .i64 x,.int .i64 e],H')∧Keep H H':=by
 suffices h:CW Tryz.prog Zo 86 [.nilIface,.int .i64 x,.int .i64 e] H fun v H'=>v= .tuple #[.int .i64 x,.int .i64 e]∧Keep H H' by obtain⟨v,H',hc,rfl,k⟩:=h;exact⟨H',hc,k⟩
 refine Zl 26 (by decide) (by decide) Tryz.func86 rfl rfl ?_;apply Zb;intro b1 hb1;apply Za;simp;subst hb1;apply Zb;intro b1 hb1;apply Zb;intro b2 hb2;apply Za;simp[-Xy,nilEq];subst hb2;refine Zc (t:=true) (by simp) ?_;apply Zb;intro b2 hb2;apply Za;simp;subst hb2;apply Zn;simp[Xw];exact .refl H
theorem sign1_cwd{b2 b3:Nat}{x e:Int}{K:AH→Prop}(hq:H.blk b2= .rw 1 [.int .i64 x])(he:H.blk b3= .rw 1 [.int .i64 e])(h2:b2<H.n)(h3:b3<H.n)(hlt:b2<b3)(hK: ∀H',Eu b2 H H'→K H'):CWD Tryz.prog Zo 85 [.pointer (some ⟨b2,0,none⟩),.pointer (some ⟨b3,0,none⟩)] .nilIface H K:=by
 obtain⟨E1,c1,kE1⟩:=Zj4 x e H.top;obtain⟨G1,hG1⟩: ∃G1,G1=grown H E1:=⟨_,rfl⟩;have kG1:Keep H G1:=by rw[hG1];exact Zu (.refl H) kE1
 have nE1:H.n≤E1.n:=kE1.n;have nG1:=kG1.n;have r2:G1.blk b2= .rw 1 [.int .i64 x]:=by rw[kG1.blk _ h2];exact hq
 have r3:G1.blk b3= .rw 1 [.int .i64 e]:=by rw[kG1.blk _ h3];exact he
 obtain⟨S1,st1,sn1,slw1,fn1,fb1,fo1,fk1⟩:=Fu (v:= .int .i64 x) (ws:=[.int .i64 x]) sInt r2 (by omega) rfl rfl rfl rfl;obtain⟨F1,hF1⟩: ∃F1,F1=low G1 S1:=⟨_,rfl⟩;rw[←hF1]at fn1 fb1 fo1 fk1;have r3':F1.blk b3= .rw 1 [.int .i64 e]:=by rw[fo1 _ (by omega)];exact r3
 obtain⟨S2,st2,sn2,slw2,fn2,fb2,fo2,fk2⟩:=Fu (v:= .int .i64 e) (ws:=[.int .i64 e]) sErr r3' (by omega) rfl rfl rfl rfl;obtain⟨F,hF⟩: ∃F,F=low F1 S2:=⟨_,rfl⟩;rw[←hF]at fn2 fb2 fo2 fk2;have hS:Eu b2 H F:=by
  refine⟨by omega,fun j hj=>?_,fun H0 k hn=>fk2 H0 (fk1 H0 (k.trans kG1) hn) (by omega)⟩;by_cases j3:j=b3;·subst j3;rw[fb2];exact he.symm
  ·rw[fo2 _ j3];by_cases j2:j=b2;·subst j2;rw[fb1];exact hq.symm
   ·rw[fo1 _ j2];exact kG1.blk _ hj
 have l1:Yn Tryz.prog H.top 3 (.pointer (some ⟨b2,0,none⟩))=some (.int .i64 x):=Ys aInt (AH.cells_rw' (H:=H.top) hq (by decide)) rfl;have l2:Yn Tryz.prog H.top 23 (.pointer (some ⟨b3,0,none⟩))=some (.int .i64 e):=Ys aErr (AH.cells_rw' (H:=H.top) he (by decide)) rfl;refine Vo 9 Tryz.func85 rfl rfl ?_;apply Vp (by kernel_rfl);apply Qs (by kernel_rfl);simp[Vn,isRec];refine Yh (v:= .int .i64 x) rfl rfl rfl (by rw[Zm rfl];simp[l1]) ?_;simp;refine Yh (v:= .int .i64 e) rfl rfl rfl (by rw[Zm rfl];simp[l2]) ?_;simp;refine Yu (v:= .tuple #[.int .i64 x,.int .i64 e]) (H2:=E1) rfl rfl rfl (by rw[Zm rfl];simp[c1]) nE1 (Yw kE1) ?_;rw[←hG1];generalize hms:cond (Nat.blt H.n E1.n) _ _=ms;have hms1:=Fs hms;simp;refine Xd (v:= .tuple #[]) (H2:=S1) rfl rfl (by kernel_rfl) (Xe fun x hx=>by rw[(hms1 x hx).1];kernel_rfl) ?_ (by omega) slw1 ?_;·show Yf _ _ _ _ G1.top _=_;simp[st1]
 rw[show({ n:=S1.n,lw:=min G1.lw S1.lw,t:=S1.t } :AH)=F1 from hF1.symm];rw[show Nat.blt G1.n S1.n=false from by rw[sn1];exact Qi _,cond_false];simp;refine Xd (v:= .tuple #[]) (H2:=S2) rfl rfl (by kernel_rfl) (Xe fun x hx=>by rw[(hms1 x hx).1];kernel_rfl) ?_ (by omega) slw2 ?_;·show Yf _ _ _ _ F1.top _=_;simp[st2]
 rw[show({ n:=S2.n,lw:=min F1.lw S2.lw,t:=S2.t } :AH)=F from hF.symm];simp;exact hK F hS
theorem Aa{b2 b3:Nat}{x e:Int}{K:AH→Prop}(hq:H.blk b2= .rw 1 [.int .i64 x])(he:H.blk b3= .rw 1 [.int .i64 e])(h2:b2<H.n)(h3:b3<H.n)(hlt:b2<b3)(hK: ∀H',Eu b2 H H'→K H'):CWD Tryz.prog Zo 121 [.pointer (some ⟨b2,0,none⟩),.pointer (some ⟨b3,0,none⟩)] .nilIface H K:=by
 obtain⟨E1,c1,kE1⟩:=Zj4 x e H.top;obtain⟨G1,hG1⟩: ∃G1,G1=grown H E1:=⟨_,rfl⟩;have kG1:Keep H G1:=by rw[hG1];exact Zu (.refl H) kE1
 have nE1:H.n≤E1.n:=kE1.n;have nG1:=kG1.n;have r2:G1.blk b2= .rw 1 [.int .i64 x]:=by rw[kG1.blk _ h2];exact hq
 have r3:G1.blk b3= .rw 1 [.int .i64 e]:=by rw[kG1.blk _ h3];exact he
 obtain⟨S1,st1,sn1,slw1,fn1,fb1,fo1,fk1⟩:=Fu (v:= .int .i64 x) (ws:=[.int .i64 x]) sInt r2 (by omega) rfl rfl rfl rfl;obtain⟨F1,hF1⟩: ∃F1,F1=low G1 S1:=⟨_,rfl⟩;rw[←hF1]at fn1 fb1 fo1 fk1;have r3':F1.blk b3= .rw 1 [.int .i64 e]:=by rw[fo1 _ (by omega)];exact r3
 obtain⟨S2,st2,sn2,slw2,fn2,fb2,fo2,fk2⟩:=Fu (v:= .int .i64 e) (ws:=[.int .i64 e]) sErr r3' (by omega) rfl rfl rfl rfl;obtain⟨F,hF⟩: ∃F,F=low F1 S2:=⟨_,rfl⟩;rw[←hF]at fn2 fb2 fo2 fk2;have hS:Eu b2 H F:=by
  refine⟨by omega,fun j hj=>?_,fun H0 k hn=>fk2 H0 (fk1 H0 (k.trans kG1) hn) (by omega)⟩;by_cases j3:j=b3;·subst j3;rw[fb2];exact he.symm
  ·rw[fo2 _ j3];by_cases j2:j=b2;·subst j2;rw[fb1];exact hq.symm
   ·rw[fo1 _ j2];exact kG1.blk _ hj
 have l1:Yn Tryz.prog H.top 3 (.pointer (some ⟨b2,0,none⟩))=some (.int .i64 x):=Ys aInt (AH.cells_rw' (H:=H.top) hq (by decide)) rfl;have l2:Yn Tryz.prog H.top 23 (.pointer (some ⟨b3,0,none⟩))=some (.int .i64 e):=Ys aErr (AH.cells_rw' (H:=H.top) he (by decide)) rfl;refine Vo 9 Tryz.func121 rfl rfl ?_;apply Vp (by kernel_rfl);apply Qs (by kernel_rfl);simp[Vn,isRec];refine Yh (v:= .int .i64 x) rfl rfl rfl (by rw[Zm rfl];simp[l1]) ?_;simp;refine Yh (v:= .int .i64 e) rfl rfl rfl (by rw[Zm rfl];simp[l2]) ?_;simp;refine Yu (v:= .tuple #[.int .i64 x,.int .i64 e]) (H2:=E1) rfl rfl rfl (by rw[Zm rfl];simp[c1]) nE1 (Yw kE1) ?_;rw[←hG1];generalize hms:cond (Nat.blt H.n E1.n) _ _=ms;have hms1:=Fs hms;simp;refine Xd (v:= .tuple #[]) (H2:=S1) rfl rfl (by kernel_rfl) (Xe fun x hx=>by rw[(hms1 x hx).1];kernel_rfl) ?_ (by omega) slw1 ?_;·show Yf _ _ _ _ G1.top _=_;simp[st1]
 rw[show({ n:=S1.n,lw:=min G1.lw S1.lw,t:=S1.t } :AH)=F1 from hF1.symm];rw[show Nat.blt G1.n S1.n=false from by rw[sn1];exact Qi _,cond_false];simp;refine Xd (v:= .tuple #[]) (H2:=S2) rfl rfl (by kernel_rfl) (Xe fun x hx=>by rw[(hms1 x hx).1];kernel_rfl) ?_ (by omega) slw2 ?_;·show Yf _ _ _ _ F1.top _=_;simp[st2]
 rw[show({ n:=S2.n,lw:=min F1.lw S2.lw,t:=S2.t } :AH)=F from hF.symm];simp;exact hK F hS
end
end
theorem uQs:Tryz.prog.underlying 157=some (.slice 34):=by kernel_rfl
theorem sQs:Ur Tryz.prog 157=some (34,3,56):=by kernel_rfl
theorem lenQs(b m:Nat):lenV Tryz.prog 157 (.slice (some ⟨b,0,none⟩) m m)=some m:=by unfold lenV;simp only[uQs]
theorem adrQs(b m:Nat){i:Nat}(hi:i<m):Yt Tryz.prog 157 (.slice (some ⟨b,0,none⟩) m m) (.int .i64 (i:Int))=some (.pointer (some ⟨b,i*3,none⟩)):=by unfold Yt;simp only[uQs,Up];rw[if_pos (by omega)];simp
theorem buildQ1(H:AH)(p q r:Value):Xx Tryz.prog H 157 1 [(0,.agg #[p,q,r])]=some (.slice (some ⟨H.n,0,none⟩) 1 1,H.new 3 [p,q,r]):=by unfold Xx;simp only[sQs,Jz];kernel_rfl
theorem Zj2(H:AH)(p q r p' q' r':Value):Xx Tryz.prog H 157 2 [(0,.agg #[p,q,r]),(1,.agg #[p',q',r'])]=some (.slice (some ⟨H.n,0,none⟩) 2 2,H.new 3 [p,q,r,p',q',r']):=by unfold Xx;simp only[sQs,Jz];kernel_rfl
theorem Zh0{H:AH}{b o:Nat}{cs vs:List Value}(h:H.cells b=some cs)(hk:(cs.drop o).take 3=vs)(hl:vs.length=3):Yn Tryz.prog H 34 (.pointer (some ⟨b,o,none⟩))=some (.agg vs.toArray):=by
 unfold Yn;simp only[aRatio,Up,AH.read_def,h];have:o+3≤cs.length:=by have:=congrArg List.length hk;rw[List.length_take,List.length_drop,hl]at this;omega
 rw[Nat.ble_eq.mpr this,cond_true,hk]
section
attribute [-simp] Int.natCast_add Int.natCast_mul Int.natCast_ediv Int.natCast_emod Int.natCast_pow
attribute [local simp] strip Yd LW' LR gW Yf Xh Ya Xi Yo Xj Zr Zs Zh Yp Yy Yk Xo Zw Yq Zi Ze Xn Xm Je Ye Xa opd Qe Ym plain Yj Tr.get_set Qc Zp Xy Yc sameKind undef Zt Yr Yv Zk Yb parts unV DW Xq Zv LX Zy
attribute [local simp] Qh Qt
section
variable {H : AH} {u v va vb : Value} {xs ys : List Nat} {A B : Nat}
def Looks(H:AH)(b m:Nat):Prop:= ∀i,i<m→ ∃(p q r:Value) (D:Nat),(∀H',Keep H H'→Yn Tryz.prog H' 34 (.pointer (some ⟨b,i*3,none⟩))=some (.agg #[p,q,r]))∧Eh p q r∧Sl H r (ds B64 D)∧Zf D≤67108864∧0<D
theorem Gl{b m:Nat}(hl:Looks H b m)(hm:m≤1000): ∃H',Zq Tryz.prog Zo 87 [.slice (some ⟨b,0,none⟩) m m] H=some (.tuple #[],H')∧Keep H H':=by
 suffices h:CW Tryz.prog Zo 87 [.slice (some ⟨b,0,none⟩) m m] H fun v H'=>v= .tuple #[]∧Keep H H' by obtain⟨v,H',hc,rfl,k⟩:=h;exact⟨H',hc,k⟩
 have lq:=lenQs b m;refine Zl 17 (by decide) (by decide) Tryz.func87 rfl rfl ?_;apply Zb;intro b1 hb1;apply Za;simp[lq];subst hb1;apply Zx;refine Qg (fun n s'=>s'.k=17∧Keep H s'.H∧ ∃i:Nat,n+i=m∧s'.tm.get 4=some (.slice (some ⟨b,0,none⟩) m m)∧s'.tm.get 5=some (.int .i64 (m:Int))∧s'.tm.get 6=some (.int .i64 (i:Int))) ?_ m _ ⟨rfl,.refl H,0,by omega,by simp,by simp,by simp⟩;rintro n ⟨k,tm,H4⟩ ⟨hk,kH,i,hni,t4,t5,t6⟩ Q' hQ';simp only at hk kH t4 t5 t6;subst hk;apply Zb;intro b3 hb3;apply Za;simp[t5,t6,lssN];subst hb3;apply Zb;intro b3 hb3;by_cases hi:i<m
 ·refine Zc (t:=true) (by simp[hi]) ?_;apply Zj;subst hb3;obtain⟨p,q,r,D,hld,⟨⟨s,rfl⟩,⟨a1,l1,c1,rfl⟩,⟨a2,l2,c2,rfl⟩⟩,hsl,hbD,hD0⟩:=hl i hi;obtain⟨H5,st5,k5,blk5,n5⟩:=Vg (H:=H4) (sz:=1) (zs:=[.bool false,.slice none 0 0,.slice none 0 0]) Up rfl (v:= .agg #[.bool s,.slice a1 l1 c1,.slice a2 l2 c2]) (ws:=[.bool s,.slice a1 l1 c1,.slice a2 l2 c2]) rfl rfl rfl;have cl:=Jr ((hsl.keep kH).keep k5) (Zg hbD);obtain⟨L,hL⟩: ∃L,L=Zf D:=⟨_,rfl⟩;rw[←hL]at cl;have hL0:L≠0:=fun h=>by rw[hL]at h;have:=Fk.mp h;omega
  have ge:Zd .eql .i64 (L:Int) 0=some (.bool false):=by rw[Vz,decide_eq_false hL0]
  apply Zb;intro b3 hb3;apply Zx;apply Zb;intro b4 hb4;apply Za;simp[t4,t6,adrQs b m hi,hld H4 kH,Jz,Value.cells,st5];subst hb4;apply Zb;intro b4 hb4;apply Za;simp[faQ1,Ki blk5,cl,ge];subst hb4;refine Zc (t:=false) (by simp) ?_;apply Zj;subst hb3;apply Za;simp[t6,Cf (x:=i) (by omega)];apply hQ';exact⟨n-1,by omega,rfl,kH.trans k5,i+1,by omega,by simp[t4],by simp[t5],by simp⟩
 ·refine Zc (t:=false) (by simp[hi]) ?_;apply Qf;apply hQ';left;refine⟨rfl,?_⟩;simp;exact kH
theorem Zh3{x:Bool}(hu: ∃a l c,u= .slice a l c)(H:AH): ∃H',Zq Tryz.prog Zo 142 [.agg #[.bool x,u],.int .i64 0] H=some (.agg #[.bool x,u],H')∧Keep H H':=by
 obtain⟨a,l,c,rfl⟩:=hu;suffices h:CW Tryz.prog Zo 142 [.agg #[.bool x,.slice a l c],.int .i64 0] H fun v H'=>v= .agg #[.bool x,.slice a l c]∧Keep H H' by obtain⟨v,H',hc,rfl,k⟩:=h;exact⟨H',hc,k⟩
 obtain⟨H2,e2,k2,n2,q1,q2⟩:=Jk H [.bool x,.slice a l c] [.bool false,.slice none 0 0];obtain⟨H4,st4,n4,q4,b4,ka4⟩:=putW (p:= .bool x) (q:= .slice a l c) q2 rfl rfl rfl rfl;have k04:Keep H H4:=ka4 H k2 (by omega);have hld:=Er q4;refine Zl 11 (by decide) (by decide) Tryz.func142 rfl rfl ?_;apply Zb;intro b1 hb1;apply Za;simp[Value.cells,Ba,Vl,e2];subst hb1;apply Zb;intro b1 hb1;apply Zb;intro b2 hb2;apply Za;simp[Es];subst hb2;refine Zc (t:=false) (by simp) ?_;apply Zj;subst hb1;apply Zb;intro b1 hb1;apply Za;simp[Er q1,st4];subst hb1;apply Zn;simp[hld];exact k04
theorem mustQ_call{p q r:Value}(ht:Eh p q r)(H:AH): ∃H',Zq Tryz.prog Zo 148 [.agg #[p,q,r],.int .i64 0] H=some (.agg #[p,q,r],H')∧Keep H H':=by
 obtain⟨⟨s,rfl⟩,⟨a1,l1,c1,rfl⟩,⟨a2,l2,c2,rfl⟩⟩:=ht;suffices h:CW Tryz.prog Zo 148 [.agg #[.bool s,.slice a1 l1 c1,.slice a2 l2 c2],.int .i64 0] H fun v H'=>v= .agg #[.bool s,.slice a1 l1 c1,.slice a2 l2 c2]∧Keep H H' by obtain⟨v,H',hc,rfl,k⟩:=h;exact⟨H',hc,k⟩
 obtain⟨H2,e2,k2,n2,q1,q2⟩:=Jk H [.bool s,.slice a1 l1 c1,.slice a2 l2 c2] [.bool false,.slice none 0 0,.slice none 0 0];obtain⟨H4,st4,n4,q4,b4,ka4⟩:=Cb (p:= .bool s) (q:= .slice a1 l1 c1) (r:= .slice a2 l2 c2) q2 rfl rfl rfl rfl rfl rfl;have k04:Keep H H4:=ka4 H k2 (by omega);have hld:=Xr q4;refine Zl 11 (by decide) (by decide) Tryz.func148 rfl rfl ?_;apply Zb;intro b1 hb1;apply Za;simp[Value.cells,Jz,Vl,e2];subst hb1;apply Zb;intro b1 hb1;apply Zb;intro b2 hb2;apply Za;simp[Es];subst hb2;refine Zc (t:=false) (by simp) ?_;apply Zj;subst hb1;apply Zb;intro b1 hb1;apply Za;simp[Xr q1,st4];subst hb1;apply Zn;simp[hld];exact k04
theorem Vi{n:Nat}(hn:n<9223372036854775808): ∃p q H',Zq Tryz.prog Zo 145 [.int .i64 (n:Int)] H=some (.agg #[.bool false,p,q],H')∧Keep H H'∧Own H.n H' p (ds B64 n)∧Own H.n H' q (ds B64 1):=by
 suffices h:CW Tryz.prog Zo 145 [.int .i64 (n:Int)] H fun v H'=> ∃p q,v= .agg #[.bool false,p,q]∧Keep H H'∧Own H.n H' p (ds B64 n)∧Own H.n H' q (ds B64 1) by obtain⟨v,H',hc,p,q,rfl,k,o⟩:=h;exact⟨p,q,H',hc,k,o⟩
 obtain⟨H2,e2,k2,n2,q2⟩:=Vc H [.bool false,.slice none 0 0,.slice none 0 0];obtain⟨p,H3,c3,k3,o3⟩:=wOf_call (H:=H2) hn;obtain⟨q,H4,c4,k4,o4⟩:=Fq (H:=H3) (x:=1) (by decide);have c4:Zq Tryz.prog Zo 164 [.int .u64 1] H3=some (q,H4):=c4;have n3:=k3.n;have q2':=(k3.trans k4).blk _ (show H.n<H2.n by omega);rw[q2]at q2';have o3':=o3.mono (Nat.le_refl _) k4;obtain⟨i1,i2,i3⟩:=o3'.trio;obtain⟨j1,j2,j3⟩:=o4.trio;obtain⟨H5,st5,n5,q5,b5,ka5⟩:=Cb (p:= .bool false) (q:=p) (r:=q) q2' rfl i1 j1 rfl i2 j2;have k05:Keep H H5:=ka5 H ((k2.trans k3).trans k4) (by omega);have o5:=(o3'.off (b:=H.n) (by omega) n5 b5).mono (show H.n≤H2.n by omega) (.refl _);have o6:=(o4.off (b:=H.n) (by omega) n5 b5).mono (show H.n≤H3.n by omega) (.refl _);have hld:=Xr q5;refine Zl 7 (by decide) (by decide) Tryz.func145 rfl rfl ?_;apply Zb;intro b1 hb1;apply Za;simp[Value.cells,Jz,Vl,e2];subst hb1;apply Zb;intro b1 hb1;apply Za;simp[c3,c4,Zb1 (x:=false) i3 j3,st5];subst hb1;apply Zn;simp[hld];exact⟨_,_,⟨rfl,rfl⟩,k05,o5,o6⟩
theorem Zi1(s:Bool)(ha:Sl H u (ds B64 A))(hv: ∃a l c,v= .slice a l c)(hA:Zf A≤67108864): ∃H',Zq Tryz.prog Zo 88 [.agg #[.bool s,u,v]] H=some (.int .i64 (Uq s A),H')∧Keep H H':=by
 suffices h:CW Tryz.prog Zo 88 [.agg #[.bool s,u,v]] H fun w H'=>w= .int .i64 (Uq s A)∧Keep H H' by obtain⟨v,H',hc,rfl,k⟩:=h;exact⟨H',hc,k⟩
 obtain⟨H2,e2,k2,n2,q2⟩:=Vc H [.bool s,u,v];obtain⟨H3,c3,k3⟩:=wSign_call s (ha.keep k2) (Xv Zz A) (Nat.le_trans (Zg hA) (by decide));rw[Qk Zz]at c3;obtain⟨S,hS⟩: ∃S,S=Uq s A:=⟨_,rfl⟩;rw[←hS]at c3⊢;refine Zl 6 (by decide) (by decide) Tryz.func88 rfl rfl ?_;apply Zb;intro b1 hb1;apply Za;simp[Value.cells,Vl,e2];subst hb1;apply Zb;intro b1 hb1;apply Za;simp[Dx,loadQW q2,c3];subst hb1;apply Zn;simp;exact k2.trans k3
end
end
theorem putI{H:AH}{b:Nat}{x e:Int}(hb:H.blk b= .rw 1 [.int .i64 x]): ∃H',Xp Tryz.prog H 3 (.pointer (some ⟨b,0,none⟩)) (.int .i64 e)=some H'∧H'.n=H.n∧H'.blk b= .rw 1 [.int .i64 e]∧(∀j,j≠b→H'.blk j=H.blk j)∧KAt b H H':=Cz sInt hb rfl rfl rfl rfl
theorem loadI{H:AH}{b:Nat}{e:Int}(hb:H.blk b= .rw 1 [.int .i64 e]):Yn Tryz.prog H 3 (.pointer (some ⟨b,0,none⟩))=some (.int .i64 e):=Ys aInt (AH.cells_rw' hb (by decide)) rfl
section
attribute [-simp] Int.natCast_add Int.natCast_mul Int.natCast_ediv Int.natCast_emod Int.natCast_pow
attribute [local simp] strip Yd LW' LR gW Yf Xh Ya Xi Yo Xj Zr Zs Zh Yp Yy Yk Xo Zw Yq Zi Ze Xn Xm Je Ye Xa opd Qe Ym plain Yj Tr.get_set Qc Zp Xy Yc sameKind undef Zt Yr Yv Zk Yb parts unV DW Xq Zv LX Zy
attribute [local simp] Qh Qt
section
variable {H : AH} {u v va vb : Value} {xs ys : List Nat} {A B : Nat}
theorem looks1{H:AH}{p q r:Value}{D:Nat}(ht:Eh p q r)(hs:Sl (H.new 3 [p,q,r]) r (ds B64 D))(hb:Zf D≤67108864)(h0:0<D):Looks (H.new 3 [p,q,r]) H.n 1:=fun i hi=>by
 obtain rfl:i=0:=by omega
 exact⟨p,q,r,D,fun H' k=>Zh0 (cs:=[p,q,r]) ((Ke k (Nat.lt_succ_self _)).trans (Bk H 3 [p,q,r])) rfl rfl,ht,hs,hb,h0⟩
theorem looks2{H:AH}{p q r p' q' r':Value}{D D':Nat}(ht:Eh p q r)(hs:Sl (H.new 3 [p,q,r,p',q',r']) r (ds B64 D))(hb:Zf D≤67108864)(h0:0<D)(ht':Eh p' q' r')(hs':Sl (H.new 3 [p,q,r,p',q',r']) r' (ds B64 D'))(hb':Zf D'≤67108864)(h0':0<D'):Looks (H.new 3 [p,q,r,p',q',r']) H.n 2:=fun i hi=>by
 have hc:=fun{H'} (k:Keep (H.new 3 [p,q,r,p',q',r']) H')=>(Ke k (Nat.lt_succ_self _)).trans (Bk H 3 [p,q,r,p',q',r']);have:i=0∨i=1:=by omega
 rcases this with rfl|rfl;·exact⟨p,q,r,D,fun H' k=>Zh0 (hc k) rfl rfl,ht,hs,hb,h0⟩
 ·exact⟨p',q',r',D',fun H' k=>Zh0 (hc k) rfl rfl,ht',hs',hb',h0'⟩
theorem Sl.trio{H:AH}{s:Bool}{xs ys:List Nat}(ha:Sl H u xs)(hb:Sl H v ys):Eh (.bool s) u v:=⟨⟨s,rfl⟩,ha.shape,hb.shape⟩
theorem Zc9(s:Bool)(ha:Sl H u (ds B64 A))(hb:Sl H v (ds B64 B))(hA:Zf A≤67108864)(hB:Zf B≤67108864)(hB0:0<B): ∃H',Zq Tryz.prog Zo 54 [.agg #[.bool s,u,v]] H=some (.tuple #[.int .i64 (Uq s A),.int .i64 0],H')∧Keep H H':=by
 suffices h:CW Tryz.prog Zo 54 [.agg #[.bool s,u,v]] H fun w H'=>w= .tuple #[.int .i64 (Uq s A),.int .i64 0]∧Keep H H' by obtain⟨v,H',hc,rfl,k⟩:=h;exact⟨H',hc,k⟩
 obtain⟨H2,e2,k2,n2,q1,q2,q3⟩:=Zb3 H [.bool s,u,v] [.int .i64 0] [.int .i64 0];have k3:=Keep.new H2 3 [.bool s,u,v];obtain⟨H4,c4,k4⟩:=Gl (looks1 (ha.trio hb (s:=s)) ((hb.keep k2).keep k3) hB hB0) (by decide);obtain⟨H3,hH3⟩: ∃H3,H3=H2.new 3 [.bool s,u,v]:=⟨_,rfl⟩;rw[←hH3]at k3 c4 k4;have k34:=k3.trans k4;have r1:H4.blk H.n= .rw 1 [.bool s,u,v]:=by rw[k34.blk _ (by omega)];exact q1
 obtain⟨H5,c5,k5⟩:=Zi1 s ((ha.keep k2).keep k34) hb.shape hA;have k35:=k34.trans k5;have r2:H5.blk (H.n+1)= .rw 1 [.int .i64 0]:=by rw[k35.blk _ (by omega)];exact q2
 have r3:H5.blk (H.n+2)= .rw 1 [.int .i64 0]:=by rw[k35.blk _ (by omega)];exact q3
 obtain⟨S,hS⟩: ∃S,S=Uq s A:=⟨_,rfl⟩;rw[←hS]at c5⊢;have n5:=k35.n;obtain⟨H6,st6,n6,p6,b6,ka6⟩:=putI (e:=S) r2;have r3':H6.blk (H.n+2)= .rw 1 [.int .i64 0]:=by rw[b6 _ (by omega)];exact r3
 obtain⟨H7,st7,n7,p7,b7,ka7⟩:=putE (e:=0) r3';have p6':H7.blk (H.n+1)= .rw 1 [.int .i64 S]:=by rw[b7 _ (by omega)];exact p6
 have k07:Keep H H7:=ka7 H (ka6 H (k2.trans k35) (by omega)) (by omega);refine Ua 10 (by decide) (by decide) Tryz.func54 rfl rfl rfl ?_;intro b1 hb1;apply Za;simp[Value.cells,zInt,zErr,Vl,e2];refine⟨_,_,⟨rfl,rfl⟩,?_⟩;subst hb1;apply Zb;intro b1 hb1;apply Za;simp[Xr q1,buildQ1,←hH3,c4];subst hb1;apply Zb;intro b1 hb1;apply Za;simp[Xr r1,c5,st6,st7];subst hb1;apply Zn;simp[Kl];refine sign1_cwd p6' p7 (by omega) (by omega) (by omega) fun H8 hS=>?_;have z4:H8.blk (H.n+1)= .rw 1 [.int .i64 S]:=by rw[hS.2.1 _ (by omega)];exact p6'
 have z5:H8.blk (H.n+2)= .rw 1 [.int .i64 0]:=by rw[hS.2.1 _ (by omega)];exact p7
 simp[loadI z4,Ep z5];exact hS.keep k07 (by omega)
theorem Zq0(s t:Bool)(ha:Sl H u (ds B64 A))(hb:Sl H v (ds B64 B))(hA:Zf A≤67108864)(hB:Zf B≤67108864)(hB0:0<B): ∃p q H',Zq Tryz.prog Zo 56 [.agg #[.bool s,u],.agg #[.bool t,v]] H=some (.tuple #[.agg #[.bool (Yl (s !=t) A B).1,p,q],.int .i64 0],H')∧Keep H H'∧Own H.n H' p (ds B64 (Yl (s !=t) A B).2.1)∧Own H.n H' q (ds B64 (Yl (s !=t) A B).2.2)∧Ka p q:=by
 obtain⟨neg,hneg⟩: ∃neg,neg=(s !=t):=⟨_,rfl⟩;rw[←hneg];obtain⟨r,hr⟩: ∃r,r=Yl neg A B:=⟨_,rfl⟩;suffices hs:CW Tryz.prog Zo 56 [.agg #[.bool s,u],.agg #[.bool t,v]] H fun v H'=> ∃p q,v= .tuple #[.agg #[.bool r.1,p,q],.int .i64 0]∧Keep H H'∧Own H.n H' p (ds B64 r.2.1)∧Own H.n H' q (ds B64 r.2.2)∧Ka p q by obtain⟨v,H',hc,p,q,rfl,k,o⟩:=hs;rw[←hr];exact⟨p,q,H',hc,k,o⟩
 obtain⟨H2,e2,k2,n2,q0,q1,q2,q3⟩:=boxes4 H [.bool s,u] [.bool t,v] [.bool false,.slice none 0 0,.slice none 0 0] [.int .i64 0];obtain⟨p,q,H3,c3,k3,o3,o4,ap⟩:=Zd0 neg (ha.keep k2) (hb.keep k2) (Xv Zz A) (Xv Zz B) (Nat.le_trans (Zg hA) (by decide)) (Nat.le_trans (Zg hB) (by decide)) (Qk Zz A) (Qk Zz B) hA hB hB0;rw[←hr]at c3 o3 o4;have n3:=k3.n;have q2':=k3.blk _ (show H.n+2<H2.n by omega);rw[q2]at q2';have q3':=k3.blk _ (show H.n+3<H2.n by omega);rw[q3]at q3';obtain⟨i1,i2,i3⟩:=o3.trio;obtain⟨j1,j2,j3⟩:=o4.trio;obtain⟨S,N,D⟩:=r;simp only at c3 o3 o4⊢;obtain⟨H4,st4,n4,q4,b4,ka4⟩:=Cb (p:= .bool S) (q:=p) (r:=q) q2' rfl i1 j1 rfl i2 j2;have q3'':H4.blk (H.n+3)= .rw 1 [.int .i64 0]:=by rw[b4 _ (by omega)];exact q3'
 obtain⟨H5,st5,n5,q5,b5,ka5⟩:=putE (e:=0) q3'';have q4':H5.blk (H.n+2)= .rw 1 [.bool S,p,q]:=by rw[b5 _ (by omega)];exact q4
 have k05:Keep H H5:=ka5 H (ka4 H (k2.trans k3) (by omega)) (by omega);have o5:=((o3.off (b:=H.n+2) (by omega) n4 b4).off (b:=H.n+3) (by omega) n5 b5).mono (show H.n≤H2.n by omega) (.refl _);have o6:=((o4.off (b:=H.n+2) (by omega) n4 b4).off (b:=H.n+3) (by omega) n5 b5).mono (show H.n≤H2.n by omega) (.refl _);have gne:Xy Tryz.prog .neq 4 (.bool s) (.bool t)=some (.bool neg):=by rw[hneg];cases s<;>cases t<;>rfl
 refine Ua 21 (by decide) (by decide) Tryz.func56 rfl rfl rfl ?_;intro b1 hb1;apply Za;simp[Value.cells,Jz,zErr,Vl,e2];refine⟨_,_,⟨rfl,rfl⟩,?_⟩;subst hb1;apply Zb;intro b1 hb1;apply Za;simp[Kz,El q0,El q1,-Xy,gne];subst hb1;apply Zb;intro b1 hb1;apply Za;simp[Fp,Kw q0,Kw q1,Zb2 (b:=neg) ha.shape,Zb1 (x:=neg) ha.shape hb.shape,c3,st4,st5];subst hb1;apply Zn;simp[Kl];refine make1_cwd ⟨⟨_,rfl⟩,i3,j3⟩ q4' q5 (by omega) (by omega) (by omega) fun H6 hS=>?_;have r4:H6.blk (H.n+2)= .rw 1 [.bool S,p,q]:=by rw[hS.2.1 _ (by omega)];exact q4'
 have r5:H6.blk (H.n+3)= .rw 1 [.int .i64 0]:=by rw[hS.2.1 _ (by omega)];exact q5
 simp[Xr r4,Ep r5];exact⟨_,_,⟨rfl,rfl⟩,hS.keep k05 (by omega),hS.own o5,hS.own o6,ap⟩
end
end
theorem sBool:Qr Tryz.prog 4=some 1:=by kernel_rfl
theorem putB{H:AH}{b:Nat}{p q r:Value}{x:Bool}(hb:H.blk b= .rw 1 [p,q,r]): ∃H',Xp Tryz.prog H 4 (.pointer (some ⟨b,0,none⟩)) (.bool x)=some H'∧H'.n=H.n∧H'.blk b= .rw 1 [.bool x,q,r]∧(∀j,j≠b→H'.blk j=H.blk j)∧KAt b H H':=by obtain⟨H',st,q1,n1,o,ka,_⟩:=Ee (o:=0) sBool hb (v:= .bool x) (ws:=[.bool x]) rfl rfl (by simp) rfl;exact⟨H',st,n1,q1,o,ka⟩
section
attribute [-simp] Int.natCast_add Int.natCast_mul Int.natCast_ediv Int.natCast_emod Int.natCast_pow
attribute [local simp] strip Yd LW' LR gW Yf Xh Ya Xi Yo Xj Zr Zs Zh Yp Yy Yk Xo Zw Yq Zi Ze Xn Xm Je Ye Xa opd Qe Ym plain Yj Tr.get_set Qc Zp Xy Yc sameKind undef Zt Yr Yv Zk Yb parts unV DW Xq Zv LX Zy
attribute [local simp] Qh Qt
section
variable {H : AH} {u v va vb : Value} {xs ys : List Nat} {A B : Nat}
theorem ratioAbs_call(neg:Bool)(ha:Sl H u (ds B64 A))(hb:Sl H v (ds B64 B))(hA:Zf A≤67108864)(hB:Zf B≤67108864)(hB0:0<B): ∃p q H',Zq Tryz.prog Zo 109 [.agg #[.bool neg,u,v]] H=some (.tuple #[.agg #[.bool false,p,q],.int .i64 0],H')∧Keep H H'∧Own H.n H' p (ds B64 (Yl neg A B).2.1)∧Own H.n H' q (ds B64 (Yl neg A B).2.2):=by
 obtain⟨r,hr⟩: ∃r,r=Yl neg A B:=⟨_,rfl⟩;suffices hs:CW Tryz.prog Zo 109 [.agg #[.bool neg,u,v]] H fun v H'=> ∃p q,v= .tuple #[.agg #[.bool false,p,q],.int .i64 0]∧Keep H H'∧Own H.n H' p (ds B64 r.2.1)∧Own H.n H' q (ds B64 r.2.2) by obtain⟨v,H',hc,p,q,rfl,k,o⟩:=hs;rw[←hr];exact⟨p,q,H',hc,k,o⟩
 obtain⟨H2,e2,k2,n2,q1,q2,q3⟩:=Zb3 H [.bool neg,u,v] [.bool false,.slice none 0 0,.slice none 0 0] [.int .i64 0];obtain⟨p,q,H3,c3,k3,o3,o4⟩:=Zh9 neg (ha.keep k2) (hb.keep k2) hA hB hB0;rw[←hr]at c3 o3 o4;have n3:=k3.n;have q2':=k3.blk _ (show H.n+1<H2.n by omega);rw[q2]at q2';have q3':=k3.blk _ (show H.n+2<H2.n by omega);rw[q3]at q3';obtain⟨i1,i2,i3⟩:=o3.trio;obtain⟨j1,j2,j3⟩:=o4.trio;obtain⟨S,N,D⟩:=r;simp only at c3 o3 o4⊢;obtain⟨H4,st4,n4,q4,b4,ka4⟩:=Cb (p:= .bool S) (q:=p) (r:=q) q2' rfl i1 j1 rfl i2 j2;obtain⟨H5,st5,n5,q5,b5,ka5⟩:=putB (x:=false) q4;obtain⟨H6,st6,n6,q6,b6,ka6⟩:=Cb (p:= .bool false) (q:=p) (r:=q) q5 rfl i1 j1 rfl i2 j2;have q3'':H6.blk (H.n+2)= .rw 1 [.int .i64 0]:=by rw[b6 _ (by omega),b5 _ (by omega),b4 _ (by omega)];exact q3'
 obtain⟨H7,st7,n7,q7,b7,ka7⟩:=putE (e:=0) q3'';have q6':H7.blk (H.n+1)= .rw 1 [.bool false,p,q]:=by rw[b7 _ (by omega)];exact q6
 have k07:Keep H H7:=ka7 H (ka6 H (ka5 H (ka4 H (k2.trans k3) (by omega)) (by omega)) (by omega)) (by omega);have o5:=((((o3.off (b:=H.n+1) (by omega) n4 b4).off (b:=H.n+1) (by omega) n5 b5).off (b:=H.n+1) (by omega) n6 b6).off (b:=H.n+2) (by omega) n7 b7).mono (show H.n≤H2.n by omega) (.refl _);have o6:=((((o4.off (b:=H.n+1) (by omega) n4 b4).off (b:=H.n+1) (by omega) n5 b5).off (b:=H.n+1) (by omega) n6 b6).off (b:=H.n+2) (by omega) n7 b7).mono (show H.n≤H2.n by omega) (.refl _);refine Ua 10 (by decide) (by decide) Tryz.func109 rfl rfl rfl ?_;intro b1 hb1;apply Za;simp[Value.cells,Jz,zErr,Vl,e2];refine⟨_,_,⟨rfl,rfl⟩,?_⟩;subst hb1;apply Zb;intro b1 hb1;apply Za;simp[Xr q1,c3,st4];subst hb1;apply Zb;intro b1 hb1;apply Za;simp[Dx,Kz,st5];subst hb1;apply Zb;intro b1 hb1;apply Za;simp[Xr q5,st6,st7];subst hb1;apply Zn;simp[Kl];refine abs1_cwd ⟨⟨_,rfl⟩,i3,j3⟩ q6' q7 (by omega) (by omega) (by omega) fun H8 hS=>?_;have r4:H8.blk (H.n+1)= .rw 1 [.bool false,p,q]:=by rw[hS.2.1 _ (by omega)];exact q6'
 have r5:H8.blk (H.n+2)= .rw 1 [.int .i64 0]:=by rw[hS.2.1 _ (by omega)];exact q7
 simp[Xr r4,Ep r5];exact⟨_,_,⟨rfl,rfl⟩,hS.keep k07 (by omega),hS.own o5,hS.own o6⟩
theorem Zg0(neg:Bool)(ha:Sl H u (ds B64 A))(hb:Sl H v (ds B64 B))(hA:Zf A≤67108864)(hB:Zf B≤67108864)(hB0:0<B): ∃p q H',Zq Tryz.prog Zo 108 [.agg #[.bool neg,u,v]] H=some (.tuple #[.agg #[.bool (sg (!(Yl neg A B).1) (Yl neg A B).2.1),p,q],.int .i64 0],H')∧Keep H H'∧Own H.n H' p (ds B64 (Yl neg A B).2.1)∧Own H.n H' q (ds B64 (Yl neg A B).2.2):=by
 obtain⟨r,hr⟩: ∃r,r=Yl neg A B:=⟨_,rfl⟩;suffices hs:CW Tryz.prog Zo 108 [.agg #[.bool neg,u,v]] H fun v H'=> ∃p q,v= .tuple #[.agg #[.bool (sg (!r.1) r.2.1),p,q],.int .i64 0]∧Keep H H'∧Own H.n H' p (ds B64 r.2.1)∧Own H.n H' q (ds B64 r.2.2) by obtain⟨v,H',hc,p,q,rfl,k,o⟩:=hs;rw[←hr];exact⟨p,q,H',hc,k,o⟩
 obtain⟨H2,e2,k2,n2,q1,q2,q3⟩:=Zb3 H [.bool neg,u,v] [.bool false,.slice none 0 0,.slice none 0 0] [.int .i64 0];obtain⟨p,q,H3,c3,k3,o3,o4⟩:=Zh9 neg (ha.keep k2) (hb.keep k2) hA hB hB0;rw[←hr]at c3 o3 o4;have n3:=k3.n;have q2':=k3.blk _ (show H.n+1<H2.n by omega);rw[q2]at q2';have q3':=k3.blk _ (show H.n+2<H2.n by omega);rw[q3]at q3';obtain⟨i1,i2,i3⟩:=o3.trio;obtain⟨j1,j2,j3⟩:=o4.trio;obtain⟨S,N,D⟩:=r;simp only at c3 o3 o4⊢;obtain⟨T,hT⟩: ∃T,T=sg (!S) N:=⟨_,rfl⟩;rw[←hT];obtain⟨H4,st4,n4,q4,b4,ka4⟩:=Cb (p:= .bool S) (q:=p) (r:=q) q2' rfl i1 j1 rfl i2 j2;obtain⟨H5,st5,n5,q5,b5,ka5⟩:=putB (x:=T) q4;obtain⟨H6,st6,n6,q6,b6,ka6⟩:=Cb (p:= .bool T) (q:=p) (r:=q) q5 rfl i1 j1 rfl i2 j2;have q3'':H6.blk (H.n+2)= .rw 1 [.int .i64 0]:=by rw[b6 _ (by omega),b5 _ (by omega),b4 _ (by omega)];exact q3'
 obtain⟨H7,st7,n7,q7,b7,ka7⟩:=putE (e:=0) q3'';have q6':H7.blk (H.n+1)= .rw 1 [.bool T,p,q]:=by rw[b7 _ (by omega)];exact q6
 have k07:Keep H H7:=ka7 H (ka6 H (ka5 H (ka4 H (k2.trans k3) (by omega)) (by omega)) (by omega)) (by omega);have l3:=o3.sl.len Zk;obtain⟨m,hm⟩: ∃m,m=(ds B64 N).length:=⟨_,rfl⟩;rw[←hm]at l3;have hmN:(0<m)↔0<N:=by rw[hm];exact Kf Zz
 have o5:=((((o3.off (b:=H.n+1) (by omega) n4 b4).off (b:=H.n+1) (by omega) n5 b5).off (b:=H.n+1) (by omega) n6 b6).off (b:=H.n+2) (by omega) n7 b7).mono (show H.n≤H2.n by omega) (.refl _);have o6:=((((o4.off (b:=H.n+1) (by omega) n4 b4).off (b:=H.n+1) (by omega) n5 b5).off (b:=H.n+1) (by omega) n6 b6).off (b:=H.n+2) (by omega) n7 b7).mono (show H.n≤H2.n by omega) (.refl _);refine Ua 21 (by decide) (by decide) Tryz.func108 rfl rfl rfl ?_;intro b1 hb1;apply Za;simp[Value.cells,Jz,zErr,Vl,e2];refine⟨_,_,⟨rfl,rfl⟩,?_⟩;subst hb1;apply Zb;intro b1 hb1;apply Za;simp[Xr q1,c3,st4];subst hb1;cases S with
  |true=>
   have:T=false:=by rw[hT];rfl
   subst this;apply Zb;intro b1 hb1;apply Za;simp[Dx,Kz,Zc6 q4,st5];subst hb1;apply Zb;intro b1 hb1;apply Za;simp[Xr q5,st6,st7];subst hb1;apply Zn;simp[Kl];refine neg1_cwd ⟨⟨_,rfl⟩,i3,j3⟩ q6' q7 (by omega) (by omega) (by omega) fun H8 hS=>?_;have r4:H8.blk (H.n+1)= .rw 1 [.bool false,p,q]:=by rw[hS.2.1 _ (by omega)];exact q6'
   have r5:H8.blk (H.n+2)= .rw 1 [.int .i64 0]:=by rw[hS.2.1 _ (by omega)];exact q7
   simp[Xr r4,Ep r5];exact⟨_,_,⟨rfl,rfl⟩,hS.keep k07 (by omega),hS.own o5,hS.own o6⟩
  |false=>
   have hg:Zd .gtr .i64 (m:Int) 0=some (.bool T):=by rw[gtr0,hT];unfold sg;rw[Bool.not_false,Bool.true_and,decide_eq_decide.mpr hmN]
   apply Zb;intro b1 hb1;apply Za;simp[Dx,Kz,Fp,Zc6 q4,Uy q4,l3,hg,st5];subst hb1;apply Zb;intro b1 hb1;apply Za;simp[Xr q5,st6,st7];subst hb1;apply Zn;simp[Kl];refine neg1_cwd ⟨⟨_,rfl⟩,i3,j3⟩ q6' q7 (by omega) (by omega) (by omega) fun H8 hS=>?_;have r4:H8.blk (H.n+1)= .rw 1 [.bool T,p,q]:=by rw[hS.2.1 _ (by omega)];exact q6'
   have r5:H8.blk (H.n+2)= .rw 1 [.int .i64 0]:=by rw[hS.2.1 _ (by omega)];exact q7
   simp[Xr r4,Ep r5];exact⟨_,_,⟨rfl,rfl⟩,hS.keep k07 (by omega),hS.own o5,hS.own o6⟩
end
end
theorem cmpN_le1(a b:Nat):Un a b= -1∨Un a b=0∨Un a b=1:=by
 unfold Un;split;·exact .inl rfl
 ·split;·exact .inr (.inr rfl)
  ·exact .inr (.inl rfl)
theorem Ea{a b:Nat}(h:a<b):Un a b= -1:=by unfold Un;rw[if_pos h]
theorem Fz{a b:Nat}(h:b<a):Un a b=1:=by unfold Un;rw[if_neg (by omega),if_pos h]
theorem Zb5(a:Nat):Un a a=0:=by unfold Un;rw[if_neg (by omega),if_neg (by omega)]
theorem cmpN_swap(a b:Nat):Un a b= -Un b a:=by
 rcases Nat.lt_trichotomy a b with h|h|h;·rw[Ea h,Fz h]
 ·subst h;rw[Zb5];rfl
 ·rw[Fz h,Ea h];rfl
theorem cmpN_add(a b c:Nat):Un (a+c) (b+c)=Un a b:=by
 rcases Nat.lt_trichotomy a b with h|h|h;·rw[Ea h,Ea (by omega)]
 ·subst h;rw[Zb5,Zb5]
 ·rw[Fz h,Fz (by omega)]
theorem cmp_parts{A B C D:Nat}(hB:0<B)(hD:0<D)(h:A/B<C/D):A*D<C*B:=by
 have h1:A<(A/B+1)*B:=by have:=Nat.div_add_mod A B;have:=Nat.mod_lt A hB;rw[Nat.add_mul,Nat.one_mul,Nat.mul_comm];omega
 have h2:C/D*D≤C:=Nat.div_mul_le_self C D;have h3:(A/B+1)*B≤C/D*B:=Nat.mul_le_mul_right _ h;have h4:A<C/D*B:=Nat.lt_of_lt_of_le h1 h3;have h5:A*D<C/D*B*D:=Nat.mul_lt_mul_of_pos_right h4 hD;have h6:C/D*B*D=C/D*D*B:=by rw[Nat.mul_right_comm]
 have h7:C/D*D*B≤C*B:=Nat.mul_le_mul_right _ h2;omega
theorem cmp_step{A B C D:Nat}(hB:0<B)(hD:0<D):Un (A*D) (C*B)=if A/B=C/D then Un (A%B*D) (C%D*B)else Un (A/B) (C/D):=by
 split
 ·rename_i h;have h1:A*D=A%B*D+A/B*(B*D):=by
   conv=>lhs;rw[←Nat.div_add_mod A B]
   rw[Nat.add_mul,Nat.add_comm,Nat.mul_comm B (A/B),Nat.mul_assoc]
  have h2:C*B=C%D*B+A/B*(B*D):=by
   conv=>lhs;rw[←Nat.div_add_mod C D]
   rw[h,Nat.add_mul,Nat.add_comm,Nat.mul_comm D (C/D),Nat.mul_assoc,Nat.mul_comm D B]
  rw[h1,h2,cmpN_add]
 ·rename_i h;rcases Nat.lt_or_ge (A/B) (C/D)with h1|h1;·rw[Ea h1,Ea (cmp_parts hB hD h1)]
  ·have h1:C/D<A/B:=by omega
   rw[Fz h1,Fz (cmp_parts hD hB h1)]
section
attribute [-simp] Int.natCast_add Int.natCast_mul Int.natCast_ediv Int.natCast_emod Int.natCast_pow
attribute [local simp] strip Yd LW' LR gW Yf Xh Ya Xi Yo Xj Zr Zs Zh Yp Yy Yk Xo Zw Yq Zi Ze Xn Xm Je Ye Xa opd Qe Ym plain Yj Tr.get_set Qc Zp Xy Yc sameKind undef Zt Yr Yv Zk Yb parts unV DW Xq Zv LX Zy
section
variable {H : AH} {u v va vb : Value} {xs ys : List Nat} {A B : Nat}
theorem Zo2(ha:Sl H u (ds B64 A))(hb:Sl H v (ds B64 B))(hA:Zf A≤67108864)(hB:Zf B≤67108864)(hB0:0<B): ∃p q H',Zq Tryz.prog Zo 161 [u,v] H=some (.tuple #[p,q],H')∧Keep H H'∧Own H.n H' p (ds B64 (A/B))∧Own H.n H' q (ds B64 (A%B)):=by
 suffices hs:CW Tryz.prog Zo 161 [u,v] H fun w H'=> ∃p q,w= .tuple #[p,q]∧Keep H H'∧Own H.n H' p (ds B64 (A/B))∧Own H.n H' q (ds B64 (A%B)) by obtain⟨v,H',hc,p,q,rfl,k,o⟩:=hs;exact⟨p,q,H',hc,k,o⟩
 obtain⟨w,H3,c3,k3,hm⟩:=both_spec ha hb (Xv Zz A) (Xv Zz B) (Zg hA) (Zg hB);rw[Qk Zz,Qk Zz]at hm;have h1:=Yi (Nat.div_le_self A B);have h2:=Yi (Nat.mod_le A B);rcases hm with⟨h,_⟩|⟨_,h,_⟩|⟨_,_,_,p,q,rfl,o1,o2,_⟩;·omega
 ·omega
 refine Zl 23 (by decide) (by decide) Tryz.func161 rfl rfl ?_;apply Zb;intro b1 hb1;apply Za;simp;subst hb1;apply Zb;intro b1 hb1;apply Za;simp[c3];subst hb1;apply Zb;intro b1 hb1;apply Zb;intro b2 hb2;apply Za;simp[Es];subst hb2;refine Zc (t:=false) (by simp) ?_;apply Zj;subst hb1;apply Zb;intro b1 hb1;apply Za;simp;subst hb1;apply Zn;simp;exact⟨_,_,⟨rfl,rfl⟩,k3,o1,o2⟩
end
end
def sI(b:Bool):Int:=if b then-1 else 1
theorem mulS(b:Bool){c:Int}(hc:c= -1∨c=0∨c=1):Zd .mul .i64 (sI b) c=some (.int .i64 (sI b*c)):=by rcases hc with rfl|rfl|rfl<;>cases b<;>rfl
theorem negS(b:Bool):IntKind.i64.wrap (0-sI b)=sI (!b):=by cases b<;>rfl
theorem sI_not(b:Bool):sI (!b)= -sI b:=by cases b<;>rfl
theorem negS'(b:Bool):IntKind.i64.wrap (-sI b)=sI (!b):=by cases b<;>rfl
section
attribute [-simp] Int.natCast_add Int.natCast_mul Int.natCast_ediv Int.natCast_emod Int.natCast_pow
attribute [local simp] strip Yd LW' LR gW Yf Xh Ya Xi Yo Xj Zr Zs Zh Yp Yy Yk Xo Zw Yq Zi Ze Xn Xm Je Ye Xa opd Qe Ym plain Yj Tr.get_set Qc Zp Xy Yc sameKind undef Zt Yr Yv Zk Yb parts unV DW Xq Zv LX Zy
section
variable {H : AH} {u v va vb : Value} {xs ys : List Nat}
theorem ratcmp_call{A0 B0 C0 D0:Nat}{v0 v1 v2 v3:Value}(h0:Sl H v0 (ds B64 A0))(h1:Sl H v1 (ds B64 B0))(h2:Sl H v2 (ds B64 C0))(h3:Sl H v3 (ds B64 D0))(lA:Zf A0≤67108864)(lB:Zf B0≤67108864)(lC:Zf C0≤67108864)(lD:Zf D0≤67108864)(hB:0<B0)(hD:0<D0): ∃H',Zq Tryz.prog Zo 122 [v0,v1,v2,v3] H=some (.int .i64 (Un (A0*D0) (C0*B0)),H')∧Keep H H':=by
 obtain⟨R,hR⟩: ∃R,R=Un (A0*D0) (C0*B0):=⟨_,rfl⟩;suffices h:CW Tryz.prog Zo 122 [v0,v1,v2,v3] H fun v H'=>v= .int .i64 R∧Keep H H' by obtain⟨v,H',hc,rfl,k⟩:=h;rw[←hR];exact⟨H',hc,k⟩
 refine Zl 61 (by decide) (by decide) Tryz.func122 rfl rfl ?_;apply Zb;intro b1 hb1;apply Za;simp;subst hb1;apply Zb;intro b1 hb1;apply Za;simp;subst hb1;apply Zx;refine Qg (fun n s'=>s'.k=61∧Keep H s'.H∧ ∃(A B C D:Nat) (g:Bool) (a b c d:Value),B+D=n∧0<B∧0<D∧Zf A≤67108864∧Zf B≤67108864∧Zf C≤67108864∧Zf D≤67108864∧R=sI g*Un (A*D) (C*B)∧Sl s'.H a (ds B64 A)∧Sl s'.H b (ds B64 B)∧Sl s'.H c (ds B64 C)∧Sl s'.H d (ds B64 D)∧s'.tm.get 0=some a∧s'.tm.get 1=some b∧s'.tm.get 2=some c∧s'.tm.get 3=some d∧s'.tm.get 9=some (.int .i64 (sI g))) ?_ (B0+D0) _ ⟨rfl,.refl H,A0,B0,C0,D0,false,v0,v1,v2,v3,rfl,hB,hD,lA,lB,lC,lD,by rw[hR];simp[sI],h0,h1,h2,h3,by simp,by simp,by simp,by simp,by simp[sI]⟩;rintro n ⟨k,tm,H1⟩ ⟨hk,kH,A,B,C,D,g,a,b,c,d,hn,hB,hD,lA,lB,lC,lD,hRR,ha,hb,hc,hd,t0,t1,t2,t3,t9⟩ Q' hQ';simp only at hk kH ha hb hc hd t0 t1 t2 t3 t9;subst hk;obtain⟨p,x,H2,c2,k2,op,ox⟩:=Zo2 ha hb lA lB hB;obtain⟨q,y,H3,c3,k3,oq,oy⟩:=Zo2 (hc.keep k2) (hd.keep k2) lC lD hD;have op':=op.sl.keep k3;have ox':=ox.sl.keep k3;have hstep:=cmp_step (A:=A) (C:=C) hB hD;have lx:A%B<B:=Nat.mod_lt _ hB;have ly:C%D<D:=Nat.mod_lt _ hD;have bP:=Nat.le_trans (Yi (Nat.div_le_self A B)) lA;have bQ:=Nat.le_trans (Yi (Nat.div_le_self C D)) lC;have bX:=Nat.le_trans (Yi (Nat.le_of_lt lx)) lB;have bY:=Nat.le_trans (Yi (Nat.le_of_lt ly)) lD;obtain⟨vc,Hc,cc,ec,ec'⟩:=Gt op' oq.sl (Xv Zz _) (Xv Zz _) (Nat.le_trans (Zg bP) (by decide)) (Nat.le_trans (Zg bQ) (by decide));rw[Qk Zz,Qk Zz]at ec';rw[ec,ec']at cc;obtain⟨P,hP⟩: ∃P,P=A/B:=⟨_,rfl⟩;obtain⟨X,hX⟩: ∃X,X=A%B:=⟨_,rfl⟩;obtain⟨Q,hQ⟩: ∃Q,Q=C/D:=⟨_,rfl⟩;obtain⟨Y,hY⟩: ∃Y,Y=C%D:=⟨_,rfl⟩;rw[←hP,←hQ,←hX,←hY]at hstep;rw[←hP,←hQ]at cc;rw[←hX]at ox' lx bX;rw[←hY]at oy ly bY;have hcm:=cmpN_le1 P Q;obtain⟨cm,hcmE⟩: ∃cm,cm=Un P Q:=⟨_,rfl⟩;rw[←hcmE]at cc hcm hstep;have gn:Zd .neq .i64 cm 0=some (.bool (decide (cm≠0))):=neqZZ;have k03:=kH.trans (k2.trans k3);apply Zb;intro b1 hb1;apply Zx;apply Zb;intro b2 hb2;apply Za;simp[t0,t1,c2];subst hb2;apply Zb;intro b2 hb2;apply Za;simp[t2,t3,c3];subst hb2;apply Zb;intro b2 hb2;apply Zb;intro b3 hb3;apply Za;simp[cc];subst hb3;apply Zb;intro b3 hb3;apply Za;simp[gn];subst hb3;by_cases hz:cm≠0;·have hne:P≠Q:=fun e=>hz (by rw[hcmE,e,Zb5]);rw[if_neg hne]at hstep;rw[hstep]at hRR;refine Zc (t:=true) (by simp[hz]) ?_;apply Zb;intro b3 hb3;apply Za;simp[t9,mulS g hcm];subst hb3;apply Zn;simp[Xw,Xk];apply hQ';simp[Dz,Xk,Xw];exact⟨hRR.symm,k03⟩
 ·have hz0:cm=0:=by omega
  have heq:P=Q:=by
   rcases Nat.lt_trichotomy P Q with h|h|h;·rw[Ea h]at hcmE;omega
   ·exact h
   ·rw[Fz h]at hcmE;omega
  rw[if_pos heq]at hstep;rw[hstep]at hRR;refine Zc (t:=false) (by simp[hz0]) ?_;apply Zj;subst hb2;have lx1:=ox'.len Zk;have ly1:=oy.sl.len Zk;obtain⟨m1,hm1⟩: ∃m,m=(ds B64 X).length:=⟨_,rfl⟩;obtain⟨m2,hm2⟩: ∃m,m=(ds B64 Y).length:=⟨_,rfl⟩;rw[←hm1]at lx1;rw[←hm2]at ly1;have z1:m1=0↔X=0:=by rw[hm1];exact Uh Zz
  have z2:m2=0↔Y=0:=by rw[hm2];exact Uh Zz
  have e1:=Vz (k:= .i64) (x:=m1);have e2:=Vz (k:= .i64) (x:=m2);apply Zb;intro b2 hb2;apply Zx;by_cases hx0:m1=0
  ·have hX0:=z1.mp hx0;rw[decide_eq_true hx0]at e1;rw[hX0,Nat.zero_mul]at hRR;by_cases hy0:m2=0;·have hY0:=z2.mp hy0;rw[decide_eq_true hy0]at e2;rw[hY0,Nat.zero_mul,Zb5,Int.mul_zero]at hRR;apply Zb;intro b3 hb3;apply Za;simp[lx1,e1,ly1,e2];subst hb3;refine Zc (t:=true) (by simp) ?_;apply Zb;intro b3 hb3;apply Za;simp;subst hb3;apply Zn;simp[Xw,Xk];apply hQ';simp[Dz,Xk,Xw];exact⟨hRR.symm,k03⟩
   ·have hY0:0<Y:=by have: ¬Y=0:=fun h=>hy0 (z2.mpr h);omega
    rw[decide_eq_false hy0]at e2;rw[Ea (Nat.mul_pos hY0 hB)]at hRR;have hRR:R=sI (!g):=by rw[hRR,sI_not];omega
    apply Zb;intro b3 hb3;apply Za;simp[lx1,e1,ly1,e2];subst hb3;refine Zc (t:=false) (by simp) ?_;apply Zb;intro b3 hb3;apply Za;simp[lx1,e1];subst hb3;refine Zc (t:=true) (by simp) ?_;apply Zb;intro b3 hb3;apply Za;simp[t9,negS,negS'];subst hb3;apply Zn;simp[Xw,Xk];apply hQ';simp[Dz,Xk,Xw];exact⟨hRR.symm,k03⟩
  ·have hX0:0<X:=by have: ¬X=0:=fun h=>hx0 (z1.mpr h);omega
   rw[decide_eq_false hx0]at e1;by_cases hy0:m2=0;·have hY0:=z2.mp hy0;rw[decide_eq_true hy0]at e2;rw[hY0,Nat.zero_mul,Fz (Nat.mul_pos hX0 hD),Int.mul_one]at hRR;apply Zb;intro b3 hb3;apply Za;simp[lx1,e1];subst hb3;refine Zc (t:=false) (by simp) ?_;apply Zb;intro b3 hb3;apply Za;simp[lx1,e1];subst hb3;refine Zc (t:=false) (by simp) ?_;apply Zb;intro b3 hb3;apply Za;simp[ly1,e2];subst hb3;refine Zc (t:=true) (by simp) ?_;apply Zb;intro b3 hb3;apply Za;simp[t9];subst hb3;apply Zn;simp[Xw,Xk];apply hQ';simp[Dz,Xk,Xw];exact⟨hRR.symm,k03⟩
   ·have hY0:0<Y:=by have: ¬Y=0:=fun h=>hy0 (z2.mpr h);omega
    rw[decide_eq_false hy0]at e2;have hRR:R=sI (!g)*Un (B*Y) (D*X):=by rw[hRR,sI_not,cmpN_swap,Nat.mul_comm Y B,Nat.mul_comm X D,Int.neg_mul,Int.mul_neg]
    apply Zb;intro b3 hb3;apply Za;simp[lx1,e1];subst hb3;refine Zc (t:=false) (by simp) ?_;apply Zb;intro b3 hb3;apply Za;simp[lx1,e1];subst hb3;refine Zc (t:=false) (by simp) ?_;apply Zb;intro b3 hb3;apply Za;simp[ly1,e2];subst hb3;refine Zc (t:=false) (by simp) ?_;apply Zj;subst hb2;apply Za;simp[t1,t3];subst hb1;apply Za;simp[t9,negS,negS'];apply hQ';exact⟨X+Y,by omega,rfl,k03,B,X,D,Y,!g,b,x,d,y,rfl,hX0,hY0,lB,bX,lD,bY,hRR,(hb.keep k2).keep k3,ox',(hd.keep k2).keep k3,oy.sl,by simp,by simp,by simp,by simp,by simp⟩
end
end
def Fc(base:Nat)(l:List Nat)(ms:List (Nat×Nat×Nat)):Prop:= ∀x∈ms,x.1∈l∧base≤x.2.1
theorem Fc.nil(base:Nat):Fc base [] []:=fun x hx=>by cases hx
theorem Fc.cons{base i a b:Nat}{l:List Nat}{ms:List (Nat×Nat×Nat)}(h:Fc base l ms)(ha:base≤a):Fc base (i::l) (cond (Nat.blt a b) ((i,a,b)::ms) ms):=fun x hx=>by cases hb:Nat.blt a b with
 |false=>rw[hb,cond_false]at hx;exact⟨List.mem_cons_of_mem _ (h x hx).1,(h x hx).2⟩
 |true=>
  rw[hb,cond_true]at hx;rcases List.mem_cons.mp hx with e|e;·rw[e];exact⟨List.mem_cons_self ..,ha⟩
  ·exact⟨List.mem_cons_of_mem _ (h x e).1,(h x e).2⟩
theorem Fc.hid{base:Nat}{l:List Nat}{ms:List (Nat×Nat×Nat)}(h:Fc base l ms){bits:Nat}(hb:l.all (fun i=>bits.testBit i)=true):hidden bits ms=[]:=Xe fun x hx=>List.all_eq_true.mp hb _ (h x hx).1
theorem Fc.ge{base:Nat}{l:List Nat}{ms:List (Nat×Nat×Nat)}(h:Fc base l ms): ∀x∈ms,base≤x.2.1:=fun x hx=>(h x hx).2
def cmpQ(s:Bool)(A B:Nat)(t:Bool)(C D:Nat):Int:=if Uq s A≠Uq t C then(if Uq s A<Uq t C then-1 else 1)else Uq s A*Un (A*D) (C*B)
theorem lssZZ{x y:Int} :Zd .lss .i64 x y=some (.bool (decide (x<y))):=rfl
theorem Zi3(s:Bool)(A:Nat):Uq s A= -1∨Uq s A=0∨Uq s A=1:=by
 unfold Uq;split;·exact .inr (.inl rfl)
 ·split;·exact .inl rfl
  ·exact .inr (.inr rfl)
theorem mulZ3{a c:Int}(ha:a= -1∨a=0∨a=1)(hc:c= -1∨c=0∨c=1):Zd .mul .i64 a c=some (.int .i64 (a*c)):=by rcases ha with rfl|rfl|rfl<;>rcases hc with rfl|rfl|rfl<;>rfl
section
attribute [-simp] Int.natCast_add Int.natCast_mul Int.natCast_ediv Int.natCast_emod Int.natCast_pow
attribute [local simp] strip Yd LW' LR gW Yf Xh Ya Xi Yo Xj Zr Zs Zh Yp Yy Yk Xo Zw Yq Zi Ze Xn Xm Je Ye Xa opd Qe Ym plain Yj Tr.get_set Qc Zp Xy Yc sameKind undef Zt Yr Yv Zk Yb parts unV DW Xq Zv LX Zy
attribute [local simp] Qh Qt
section
variable {H : AH} {u v w z : Value}
theorem Fa(s t:Bool){A B C D:Nat}(ha:Sl H u (ds B64 A))(hb:Sl H v (ds B64 B))(hc:Sl H w (ds B64 C))(hd:Sl H z (ds B64 D))(lA:Zf A≤67108864)(lB:Zf B≤67108864)(lC:Zf C≤67108864)(lD:Zf D≤67108864)(hB:0<B)(hD:0<D): ∃H',Zq Tryz.prog Zo 80 [.agg #[.bool s,u,v],.agg #[.bool t,w,z]] H=some (.tuple #[.int .i64 (cmpQ s A B t C D),.int .i64 0],H')∧Keep H H':=by
 obtain⟨R,hR⟩: ∃R,R=cmpQ s A B t C D:=⟨_,rfl⟩;suffices h:CW Tryz.prog Zo 80 [.agg #[.bool s,u,v],.agg #[.bool t,w,z]] H fun r H'=>r= .tuple #[.int .i64 R,.int .i64 0]∧Keep H H' by obtain⟨r,H',hc,rfl,k⟩:=h;rw[←hR];exact⟨H',hc,k⟩
 unfold cmpQ at hR;obtain⟨H2,e2,k2,n2,q0,q1,q2,q3⟩:=boxes4 H [.bool s,u,v] [.bool t,w,z] [.int .i64 0] [.int .i64 0];have k3:=Keep.new H2 3 [.bool s,u,v,.bool t,w,z];obtain⟨H4,c4,k4⟩:=Gl (looks2 (ha.trio hb (s:=s)) ((hb.keep k2).keep k3) lB hB (hc.trio hd (s:=t)) ((hd.keep k2).keep k3) lD hD) (by decide);obtain⟨H3,hH3⟩: ∃H3,H3=H2.new 3 [.bool s,u,v,.bool t,w,z]:=⟨_,rfl⟩;rw[←hH3]at k3 c4 k4;have k24:=k3.trans k4;have k04:=k2.trans k24;have n4:=k24.n;have r0:H4.blk H.n= .rw 1 [.bool s,u,v]:=by rw[k24.blk _ (by omega)];exact q0
 have r1:H4.blk (H.n+1)= .rw 1 [.bool t,w,z]:=by rw[k24.blk _ (by omega)];exact q1
 obtain⟨E1,c5,kE1⟩:=Zi1 s ((ha.keep k04).top) hb.shape lA;obtain⟨G1,hG1⟩: ∃G1,G1=grown H4 E1:=⟨_,rfl⟩;have kG1:Keep H4 G1:=by rw[hG1];exact Zu (.refl H4) kE1
 have nE1:H4.n≤E1.n:=kE1.n;obtain⟨E2,c6,kE2⟩:=Zi1 t ((hc.keep (k04.trans kG1)).top) hd.shape lC;obtain⟨G2,hG2⟩: ∃G2,G2=grown G1 E2:=⟨_,rfl⟩;have kG2:Keep G1 G2:=by rw[hG2];exact Zu (.refl G1) kE2
 have nE2:G1.n≤E2.n:=kE2.n;have kH:=kG1.trans kG2;have ng:=kH.n;have sx:=Zi3 s A;obtain⟨x,hx⟩: ∃x,x=Uq s A:=⟨_,rfl⟩;obtain⟨y,hy⟩: ∃y,y=Uq t C:=⟨_,rfl⟩;rw[←hx]at c5 hR sx;rw[←hy]at c6 hR;have l2: ∀bits ms,(∀x∈ms,H4.n≤x.2.1)→Yn Tryz.prog (vis G1 bits ms) 34 (.pointer (some ⟨H.n+1,0,none⟩))=some (.agg #[.bool t,w,z]):=fun bits ms h=>Xr (by rw[(Qy kG1 h).blk _ (by omega)];exact r1);have k0G:=k04.trans kH;have f0:G2.blk H.n= .rw 1 [.bool s,u,v]:=by rw[kH.blk _ (by omega)];exact r0
 have f1:G2.blk (H.n+1)= .rw 1 [.bool t,w,z]:=by rw[kH.blk _ (by omega)];exact r1
 have f2:G2.blk (H.n+2)= .rw 1 [.int .i64 0]:=by rw[(k24.trans kH).blk _ (by omega)];exact q2
 have f3:G2.blk (H.n+3)= .rw 1 [.int .i64 0]:=by rw[(k24.trans kH).blk _ (by omega)];exact q3
 have gn:Zd .neq .i64 x y=some (.bool (decide (x≠y))):=neqZZ;have gl:Zd .lss .i64 x y=some (.bool (decide (x<y))):=lssZZ;have early: ∀a:Int,∃F1 F2,Xp Tryz.prog G2 3 (.pointer (some ⟨H.n+2,0,none⟩)) (.int .i64 a)=some F1∧Xp Tryz.prog F1 23 (.pointer (some ⟨H.n+3,0,none⟩)) (.int .i64 0)=some F2∧F2.blk (H.n+2)= .rw 1 [.int .i64 a]∧F2.blk (H.n+3)= .rw 1 [.int .i64 0]∧Keep H F2∧F2.n=G2.n:=fun a=>by
  obtain⟨F1,st1,m1,p1,b1,ka1⟩:=putI (e:=a) f2;have f3':F1.blk (H.n+3)= .rw 1 [.int .i64 0]:=by rw[b1 _ (by omega)];exact f3
  obtain⟨F2,st2,m2,p2,b2,ka2⟩:=putE (e:=0) f3';exact⟨F1,F2,st1,st2,by rw[b2 _ (by omega)];exact p1,p2,ka2 H (ka1 H k0G (by omega)) (by omega),by omega⟩
 refine Ua 40 (by decide) (by decide) Tryz.func80 rfl rfl rfl ?_;intro b1 hb1;apply Za;simp[Value.cells,zInt,zErr,Vl,e2];refine⟨_,_,⟨rfl,rfl⟩,?_⟩;subst hb1;apply Zb;intro b1 hb1;apply Za;simp[Xr q0,Xr q1,Zj2,←hH3,c4];subst hb1;apply Zb;intro b1 hb1;apply Qs (by kernel_rfl);simp;refine Yh (v:= .agg #[.bool s,u,v]) rfl rfl rfl (by rw[Zm rfl];simp[Xr (H:=H4.top) r0]) ?_;simp;refine Yu (v:= .int .i64 x) (H2:=E1) rfl rfl rfl (by rw[Zm rfl];simp[c5]) nE1 (Yw kE1) ?_;rw[←hG1];have ms1:=(Fc.nil H4.n).cons (i:=1) (a:=H4.n) (b:=E1.n) (Nat.le_refl _);generalize cond (Nat.blt H4.n E1.n) _ _=ms at ms1;simp;refine Yh (v:= .agg #[.bool t,w,z]) rfl rfl rfl (by simp[l2 _ ms ms1.ge]) ?_;simp;refine Yu (v:= .int .i64 y) (H2:=E2) rfl rfl rfl ?_ nE2 (Yw kE2) ?_;·rw[Zm (ms1.hid (by kernel_rfl))];simp[c6]
 rw[←hG2];simp;subst hb1;clear ms1;apply Zb;intro b1 hb1;apply Zb;intro b2 hb2;apply Za;simp[gn];subst hb2;by_cases hxy:x≠y
 ·rw[if_pos hxy]at hR;refine Zc (t:=true) (by simp[hxy]) ?_;apply Zb;intro b2 hb2;apply Zb;intro b3 hb3;apply Za;simp[gl];subst hb3;by_cases hlt:x<y
  ·rw[if_pos hlt]at hR;subst hR;obtain⟨F1,F2,st1,st2,p1,p2,kF,nF⟩:=early (-1);refine Zc (t:=true) (by simp[hlt]) ?_;apply Zb;intro b3 hb3;apply Za;simp[st1,st2];subst hb3;apply Zn;simp[Xw,Kl];refine Aa p1 p2 (by omega) (by omega) (by omega) fun H8 hS=>?_;have z4:H8.blk (H.n+2)= .rw 1 [.int .i64 (-1)]:=by rw[hS.2.1 _ (by omega)];exact p1
   have z5:H8.blk (H.n+3)= .rw 1 [.int .i64 0]:=by rw[hS.2.1 _ (by omega)];exact p2
   simp[loadI z4,Ep z5];exact hS.keep kF (by omega)
  ·rw[if_neg hlt]at hR;subst hR;obtain⟨F1,F2,st1,st2,p1,p2,kF,nF⟩:=early 1;refine Zc (t:=false) (by simp[hlt]) ?_;apply Zj;subst hb2;apply Zb;intro b2 hb2;apply Za;simp[st1,st2];subst hb2;apply Zn;simp[Xw,Kl];refine Aa p1 p2 (by omega) (by omega) (by omega) fun H8 hS=>?_;have z4:H8.blk (H.n+2)= .rw 1 [.int .i64 1]:=by rw[hS.2.1 _ (by omega)];exact p1
   have z5:H8.blk (H.n+3)= .rw 1 [.int .i64 0]:=by rw[hS.2.1 _ (by omega)];exact p2
   simp[loadI z4,Ep z5];exact hS.keep kF (by omega)
 ·have hxy0:x=y:=Decidable.not_not.mp hxy;rw[if_neg hxy]at hR;refine Zc (t:=false) (by simp[hxy0]) ?_;apply Zj;subst hb1;obtain⟨g1,I1,d1,kI1,oI1⟩:=Uv ((ha.keep k0G).top) (Xv Zz A) (Nat.le_trans (Zg lA) (by decide));obtain⟨J1,hJ1⟩: ∃J,J=grown G2 I1:=⟨_,rfl⟩;have kJ1:Keep G2 J1:=by rw[hJ1];exact Zu (.refl _) kI1
  obtain⟨g2,I2,d2,kI2,oI2⟩:=Uv ((hb.keep (k0G.trans kJ1)).top) (Xv Zz B) (Nat.le_trans (Zg lB) (by decide));obtain⟨J2,hJ2⟩: ∃J,J=grown J1 I2:=⟨_,rfl⟩;have kJ2:Keep J1 J2:=by rw[hJ2];exact Zu (.refl _) kI2
  have kk2:=kJ1.trans kJ2;obtain⟨g3,I3,d3,kI3,oI3⟩:=Uv ((hc.keep (k0G.trans kk2)).top) (Xv Zz C) (Nat.le_trans (Zg lC) (by decide));obtain⟨J3,hJ3⟩: ∃J,J=grown J2 I3:=⟨_,rfl⟩;have kJ3:Keep J2 J3:=by rw[hJ3];exact Zu (.refl _) kI3
  have kk3:=kk2.trans kJ3;obtain⟨g4,I4,d4,kI4,oI4⟩:=Uv ((hd.keep (k0G.trans kk3)).top) (Xv Zz D) (Nat.le_trans (Zg lD) (by decide));obtain⟨J4,hJ4⟩: ∃J,J=grown J3 I4:=⟨_,rfl⟩;have kJ4:Keep J3 J4:=by rw[hJ4];exact Zu (.refl _) kI4
  have kk4:=kk3.trans kJ4;rw[Qk Zz]at oI1 oI2 oI3 oI4;have s1:Sl J4 g1 (ds B64 A):=((((by rw[hJ1];exact oI1.same (Yg kI1):Own G2.top.n J1 g1 (ds B64 A)).sl.keep kJ2).keep kJ3).keep kJ4);have s2:Sl J4 g2 (ds B64 B):=(((by rw[hJ2];exact oI2.same (Yg kI2):Own J1.top.n J2 g2 (ds B64 B)).sl.keep kJ3).keep kJ4);have s3:Sl J4 g3 (ds B64 C):=((by rw[hJ3];exact oI3.same (Yg kI3):Own J2.top.n J3 g3 (ds B64 C)).sl.keep kJ4);have s4:Sl J4 g4 (ds B64 D):=(by rw[hJ4];exact oI4.same (Yg kI4):Own J3.top.n J4 g4 (ds B64 D)).sl;obtain⟨I5,d5,kI5⟩:=ratcmp_call s1.top s2.top s3.top s4.top lA lB lC lD hB hD;obtain⟨J5,hJ5⟩: ∃J,J=grown J4 I5:=⟨_,rfl⟩;have kJ5:Keep J4 J5:=by rw[hJ5];exact Zu (.refl _) kI5
  have kk5:=kk4.trans kJ5;have m1:G2.n≤I1.n:=kI1.n;have m2:J1.n≤I2.n:=kI2.n;have m3:J2.n≤I3.n:=kI3.n;have m4:J3.n≤I4.n:=kI4.n;have m5:J4.n≤I5.n:=kI5.n;have nk1:=kJ1.n;have nk2:=kk2.n;have nk3:=kk3.n;have nk4:=kk4.n;have nk5:=kk5.n;obtain⟨cm,hcm⟩: ∃cm,cm=Un (A*D) (C*B):=⟨_,rfl⟩;rw[←hcm]at d5 hR;have gm:=mulZ3 sx (show cm= -1∨cm=0∨cm=1 by rw[hcm];exact cmpN_le1 _ _);rw[←hR]at gm;have vk: ∀{J:AH}(k:Keep G2 J){bits ms},(∀x∈ms,G2.n≤x.2.1)→ ∀b,b<G2.n→(vis J bits ms).blk b=G2.blk b:=fun k _ _ h b hb=>(Qy k h).blk b hb;have w2:J5.blk (H.n+2)= .rw 1 [.int .i64 0]:=by rw[kk5.blk _ (by omega)];exact f2
  have w3:J5.blk (H.n+3)= .rw 1 [.int .i64 0]:=by rw[kk5.blk _ (by omega)];exact f3
  obtain⟨S1,st1,sn1,slw1,fn1,fb1,fo1,fk1⟩:=Fu (v:= .int .i64 R) (ws:=[.int .i64 R]) sInt w2 (by omega) rfl rfl rfl rfl;obtain⟨F1,hF1⟩: ∃F1,F1=low J5 S1:=⟨_,rfl⟩;rw[←hF1]at fn1 fb1 fo1 fk1;have w3':F1.blk (H.n+3)= .rw 1 [.int .i64 0]:=by rw[fo1 _ (by omega)];exact w3
  obtain⟨S2,st2,sn2,slw2,fn2,fb2,fo2,fk2⟩:=Fu (v:= .int .i64 0) (ws:=[.int .i64 0]) sErr w3' (by omega) rfl rfl rfl rfl;obtain⟨F,hF⟩: ∃F,F=low F1 S2:=⟨_,rfl⟩;rw[←hF]at fn2 fb2 fo2 fk2;have p1:F.blk (H.n+2)= .rw 1 [.int .i64 R]:=by rw[fo2 _ (by omega)];exact fb1
  have kF:Keep H F:=fk2 H (fk1 H (k0G.trans kk5) (by omega)) (by omega);apply Zb;intro b1 hb1;apply Qs (by kernel_rfl);simp[Dx,Fp];refine Yh (v:=u) rfl rfl rfl (by rw[Zm rfl];simp[Uy (H:=G2.top) f0]) ?_;simp;refine Yu (v:=g1) (H2:=I1) rfl rfl rfl (by rw[Zm rfl];simp[d1]) m1 (Yw kI1) ?_;rw[←hJ1];have ms1:=(Fc.nil G2.n).cons (i:=4) (a:=G2.n) (b:=I1.n) (Nat.le_refl _);generalize cond (Nat.blt G2.n I1.n) _ _=ms at ms1;simp[faQ1];refine Yh (v:=v) rfl rfl rfl (by simp[Ki ((vk kJ1 ms1.ge _ (by omega)).trans f0)]) ?_;simp;refine Yu (v:=g2) (H2:=I2) rfl rfl rfl (by rw[Zm (ms1.hid (by kernel_rfl))];simp[d2]) m2 (Yw kI2) ?_;rw[←hJ2];have ms2:=ms1.cons (i:=7) (a:=J1.n) (b:=I2.n) (by omega);generalize cond (Nat.blt J1.n I2.n) _ _=ms' at ms2;simp[Dx,Fp];refine Yh (v:=w) rfl rfl rfl (by simp[Uy ((vk kk2 ms2.ge _ (by omega)).trans f1)]) ?_;simp;refine Yu (v:=g3) (H2:=I3) rfl rfl rfl (by rw[Zm (ms2.hid (by kernel_rfl))];simp[d3]) m3 (Yw kI3) ?_;rw[←hJ3];have ms3:=ms2.cons (i:=11) (a:=J2.n) (b:=I3.n) (by omega);generalize cond (Nat.blt J2.n I3.n) _ _=ms'' at ms3;simp[faQ1];refine Yh (v:=z) rfl rfl rfl (by simp[Ki ((vk kk3 ms3.ge _ (by omega)).trans f1)]) ?_;simp;refine Yu (v:=g4) (H2:=I4) rfl rfl rfl (by rw[Zm (ms3.hid (by kernel_rfl))];simp[d4]) m4 (Yw kI4) ?_;rw[←hJ4];have ms4:=ms3.cons (i:=14) (a:=J3.n) (b:=I4.n) (by omega);generalize cond (Nat.blt J3.n I4.n) _ _=ms4' at ms4;simp;refine Yu (v:= .int .i64 cm) (H2:=I5) rfl rfl rfl (by rw[Zm (ms4.hid (by kernel_rfl))];simp[d5]) m5 (Yw kI5) ?_;rw[←hJ5];have ms5:=ms4.cons (i:=15) (a:=J4.n) (b:=I5.n) (by omega);generalize cond (Nat.blt J4.n I5.n) _ _=ms5' at ms5;simp[gm];refine Xd (v:= .tuple #[]) (H2:=S1) rfl rfl (by kernel_rfl) (ms5.hid (by kernel_rfl)) ?_ (by omega) slw1 ?_;·show Yf _ _ _ _ J5.top _=_;simp[st1]
  rw[show({ n:=S1.n,lw:=min J5.lw S1.lw,t:=S1.t } :AH)=F1 from hF1.symm];rw[show Nat.blt J5.n S1.n=false from by rw[sn1];exact Qi _,cond_false];simp;refine Xd (v:= .tuple #[]) (H2:=S2) rfl rfl (by kernel_rfl) (ms5.hid (by kernel_rfl)) ?_ (by omega) slw2 ?_;·show Yf _ _ _ _ F1.top _=_;simp[st2]
  rw[show({ n:=S2.n,lw:=min F1.lw S2.lw,t:=S2.t } :AH)=F from hF.symm];simp;subst hb1;apply Zn;simp[Kl];refine Aa p1 fb2 (by omega) (by omega) (by omega) fun H8 hS=>?_;have z4:H8.blk (H.n+2)= .rw 1 [.int .i64 R]:=by rw[hS.2.1 _ (by omega)];exact p1
  have z5:H8.blk (H.n+3)= .rw 1 [.int .i64 0]:=by rw[hS.2.1 _ (by omega)];exact fb2
  simp[loadI z4,Ep z5];exact hS.keep kF (by omega)
end
end
theorem aFold:Jm Tryz.prog 57=some true:=by kernel_rfl
theorem Za9:Qr Tryz.prog 57=some 4:=by kernel_rfl
theorem Jv:Uu Tryz.prog 57=some (.agg #[.int .i64 0,.bool false,.slice none 0 0,.slice none 0 0]):=by kernel_rfl
theorem aKind:Jm Tryz.prog 55=some false:=by kernel_rfl
theorem Za5{H:AH}{b:Nat}{k p q r:Value}(hb:H.blk b= .rw 1 [k,p,q,r]):Yn Tryz.prog H 57 (.pointer (some ⟨b,0,none⟩))=some (.agg #[k,p,q,r]):=by unfold Yn;simp only[aFold,Za9,AH.read_def,hb];simp[AH.cells_rw' hb,show Nat.ble 4 4=true from rfl]
theorem Cw{H:AH}{b:Nat}{k p q r:Value}(hb:H.blk b= .rw 1 [k,p,q,r]):Yn Tryz.prog H 55 (.pointer (some ⟨b,0,none⟩))=some k:=Ys aKind (AH.cells_rw' hb (by decide)) rfl
theorem loadFQ{H:AH}{b:Nat}{k p q r:Value}(hb:H.blk b= .rw 1 [k,p,q,r]):Yn Tryz.prog H 34 (.pointer (some ⟨b,1,none⟩))=some (.agg #[p,q,r]):=Zh0 (AH.cells_rw' hb (by decide)) rfl rfl
theorem faF0(b:Nat):Yz Tryz.prog 57 (.pointer (some ⟨b,0,none⟩)) 0=some (.pointer (some ⟨b,0,none⟩)):=by kernel_rfl
theorem faF1(b:Nat):Yz Tryz.prog 57 (.pointer (some ⟨b,0,none⟩)) 1=some (.pointer (some ⟨b,1,none⟩)):=by kernel_rfl
theorem putF{H:AH}{b:Nat}{k' p' q' r' p q r:Value}{k:Int}(hb:H.blk b= .rw 1 [k',p',q',r'])(ht:Eh p q r): ∃H',Xp Tryz.prog H 57 (.pointer (some ⟨b,0,none⟩)) (.agg #[.int .i64 k,p,q,r])=some H'∧H'.n=H.n∧H'.blk b= .rw 1 [.int .i64 k,p,q,r]∧(∀j,j≠b→H'.blk j=H.blk j)∧KAt b H H':=by obtain⟨⟨s,rfl⟩,⟨a1,l1,c1,rfl⟩,⟨a2,l2,c2,rfl⟩⟩:=ht;exact Cz Za9 hb rfl rfl rfl rfl
theorem bFold{p q r:Value}{k:Int}(ht:Eh p q r):Ux Tryz.prog 57 [(0,.int .i64 k),(1,.agg #[p,q,r])]=some (.agg #[.int .i64 k,p,q,r]):=by obtain⟨⟨s,rfl⟩,⟨a1,l1,c1,rfl⟩,⟨a2,l2,c2,rfl⟩⟩:=ht;rfl
theorem bFold0:Ux Tryz.prog 57 []=some (.agg #[.int .i64 0,.bool false,.slice none 0 0,.slice none 0 0]):=by rfl
section
attribute [-simp] Int.natCast_add Int.natCast_mul Int.natCast_ediv Int.natCast_emod Int.natCast_pow
attribute [local simp] strip Yd LW' LR gW Yf Xh Ya Xi Yo Xj Zr Zs Zh Yp Yy Yk Xo Zw Yq Zi Ze Xn Xm Je Ye Xa opd Qe Ym plain Yj Tr.get_set Qc Zp Xy Yc sameKind undef Zt Yr Yv Zk Yb parts unV DW Xq Zv LX Zy
section
variable {H : AH} {u v w z : Value}
theorem Jt(H:AH): ∃H',Zq Tryz.prog Zo 152 [] H=some (.agg #[.int .i64 0,.bool false,.slice none 0 0,.slice none 0 0],H')∧Keep H H':=by
 suffices h:CW Tryz.prog Zo 152 [] H fun v H'=>v= .agg #[.int .i64 0,.bool false,.slice none 0 0,.slice none 0 0]∧Keep H H' by obtain⟨v,H',hc,rfl,k⟩:=h;exact⟨H',hc,k⟩
 obtain⟨H2,e2,k2,n2,q1⟩:=Vc H [.int .i64 0,.bool false,.slice none 0 0,.slice none 0 0];obtain⟨H3,st3,n3,q3,b3,ka3⟩:=putF (k:=0) q1 (p:= .bool false) (q:= .slice none 0 0) (r:= .slice none 0 0) ⟨⟨_,rfl⟩,⟨_,_,_,rfl⟩,⟨_,_,_,rfl⟩⟩;have k03:Keep H H3:=ka3 H k2 (by omega);have hld:=Za5 q3;refine Zl 2 (by decide) (by decide) Tryz.func152 rfl rfl ?_;apply Zb;intro b1 hb1;apply Za;simp[Value.cells,Jv,e2];subst hb1;apply Zb;intro b1 hb1;apply Za;simp[bFold0,st3];subst hb1;apply Zn;simp[hld];exact k03
theorem Gp{p q r:Value}(ht:Eh p q r)(H:AH): ∃H',Zq Tryz.prog Zo 151 [.agg #[p,q,r],.int .i64 0] H=some (.agg #[.int .i64 1,p,q,r],H')∧Keep H H':=by
 suffices h:CW Tryz.prog Zo 151 [.agg #[p,q,r],.int .i64 0] H fun v H'=>v= .agg #[.int .i64 1,p,q,r]∧Keep H H' by obtain⟨v,H',hc,rfl,k⟩:=h;exact⟨H',hc,k⟩
 have ht':=ht;obtain⟨H2,e2,k2,n2,q1,q2⟩:=Jk H [p,q,r] [.int .i64 0,.bool false,.slice none 0 0,.slice none 0 0];obtain⟨H3,st3,n3,q3,b3,ka3⟩:=putF (k:=1) q2 ht;have k03:Keep H H3:=ka3 H k2 (by omega);have hld:=Za5 q3;have hbd:=bFold (k:=1) ht;obtain⟨⟨s,rfl⟩,⟨a1,l1,c1,rfl⟩,⟨a2,l2,c2,rfl⟩⟩:=ht';refine Zl 10 (by decide) (by decide) Tryz.func151 rfl rfl ?_;apply Zb;intro b1 hb1;apply Za;simp[Value.cells,Jv,Vl,e2];subst hb1;apply Zb;intro b1 hb1;apply Zb;intro b2 hb2;apply Za;simp[Es];subst hb2;refine Zc (t:=false) (by simp) ?_;apply Zj;subst hb1;apply Zb;intro b1 hb1;apply Za;simp[Xr q1,hbd,st3];subst hb1;apply Zn;simp[hld];exact k03
end
section
variable {H : AH} {u v w z : Value}
theorem Uj(s:Bool){A B:Nat}(ha:Sl H u (ds B64 A))(hb:Sl H v (ds B64 B))(lA:Zf A≤67108864)(lB:Zf B≤67108864)(hB:0<B): ∃H',Zq Tryz.prog Zo 153 [.agg #[.int .i64 1,.bool s,u,v]] H=some (.int .i64 (Uq s A),H')∧Keep H H':=by
 suffices h:CW Tryz.prog Zo 153 [.agg #[.int .i64 1,.bool s,u,v]] H fun r H'=>r= .int .i64 (Uq s A)∧Keep H H' by obtain⟨v,H',hc,rfl,k⟩:=h;exact⟨H',hc,k⟩
 obtain⟨H2,e2,k2,n2,q1⟩:=Vc H [.int .i64 1,.bool s,u,v];obtain⟨H3,c3,k3⟩:=Zc9 s (ha.keep k2) (hb.keep k2) lA lB hB;obtain⟨S,hS⟩: ∃S,S=Uq s A:=⟨_,rfl⟩;rw[←hS]at c3⊢;refine Zl 15 (by decide) (by decide) Tryz.func153 rfl rfl ?_;apply Zb;intro b1 hb1;apply Za;simp[Value.cells,e2];subst hb1;apply Zb;intro b1 hb1;apply Zb;intro b2 hb2;apply Za;simp[faF0,Cw q1,show Zd .neq .i64 1 1=some (.bool false)from rfl];subst hb2;refine Zc (t:=false) (by simp) ?_;apply Zj;subst hb1;apply Zb;intro b1 hb1;apply Za;simp[faF1,loadFQ q1,c3];subst hb1;apply Zb;intro b1 hb1;apply Za;simp;subst hb1;apply Zn;simp;exact k2.trans k3
theorem Vx{k:Int}{p q r:Value}(hk:k≠1)(H:AH): ∃H',Zq Tryz.prog Zo 153 [.agg #[.int .i64 k,p,q,r]] H=some (.int .i64 2,H')∧Keep H H':=by
 suffices h:CW Tryz.prog Zo 153 [.agg #[.int .i64 k,p,q,r]] H fun r H'=>r= .int .i64 2∧Keep H H' by obtain⟨v,H',hc,rfl,k⟩:=h;exact⟨H',hc,k⟩
 obtain⟨H2,e2,k2,n2,q1⟩:=Vc H [.int .i64 k,p,q,r];have gn:Zd .neq .i64 k 1=some (.bool true):=by rw[neqZZ,decide_eq_true hk]
 refine Zl 15 (by decide) (by decide) Tryz.func153 rfl rfl ?_;apply Zb;intro b1 hb1;apply Za;simp[Value.cells,e2];subst hb1;apply Zb;intro b1 hb1;apply Zb;intro b2 hb2;apply Za;simp[faF0,Cw q1,gn];subst hb2;refine Zc (t:=true) (by simp) ?_;apply Zb;intro b2 hb2;apply Za;simp;subst hb2;apply Zn;simp[Xw];exact k2
end
end
theorem gtrZZ{x y:Int} :Zd .gtr .i64 x y=some (.bool (decide (y<x))):=rfl
section
attribute [-simp] Int.natCast_add Int.natCast_mul Int.natCast_ediv Int.natCast_emod Int.natCast_pow
attribute [local simp] strip Yd LW' LR gW Yf Xh Ya Xi Yo Xj Zr Zs Zh Yp Yy Yk Xo Zw Yq Zi Ze Xn Xm Je Ye Xa opd Qe Ym plain Yj Tr.get_set Qc Zp Xy Yc sameKind undef Zt Yr Yv Zk Yb parts unV DW Xq Zv LX Zy
section
variable {H : AH} {u v w z : Value}
theorem lesser_call(s t:Bool){A B C D:Nat}(ha:Sl H u (ds B64 A))(hb:Sl H v (ds B64 B))(hc:Sl H w (ds B64 C))(hd:Sl H z (ds B64 D))(lA:Zf A≤67108864)(lB:Zf B≤67108864)(lC:Zf C≤67108864)(lD:Zf D≤67108864)(hB:0<B)(hD:0<D): ∃H',Zq Tryz.prog Zo 114 [.agg #[.bool s,u,v],.agg #[.bool t,w,z]] H=some (.tuple #[if 0<cmpQ s A B t C D then .agg #[.bool t,w,z]else .agg #[.bool s,u,v],.int .i64 0],H')∧Keep H H':=by
 obtain⟨R,hR⟩: ∃R,R=(if 0<cmpQ s A B t C D then Value.agg #[.bool t,w,z]else .agg #[.bool s,u,v]):=⟨_,rfl⟩;rw[←hR];suffices h:CW Tryz.prog Zo 114 [.agg #[.bool s,u,v],.agg #[.bool t,w,z]] H fun r H'=>r= .tuple #[R,.int .i64 0]∧Keep H H' by obtain⟨v,H',hc,rfl,k⟩:=h;exact⟨H',hc,k⟩
 obtain⟨i1,i2,i3⟩:u.cells=#[u]∧one u=true∧True:=⟨by obtain⟨a,l,c,rfl⟩:=ha.shape;rfl,ha.one1,trivial⟩;obtain⟨j1,j2,j3⟩:v.cells=#[v]∧one v=true∧True:=⟨by obtain⟨a,l,c,rfl⟩:=hb.shape;rfl,hb.one1,trivial⟩;obtain⟨k1,k2',k3'⟩:w.cells=#[w]∧one w=true∧True:=⟨by obtain⟨a,l,c,rfl⟩:=hc.shape;rfl,hc.one1,trivial⟩;obtain⟨l1,l2,l3⟩:z.cells=#[z]∧one z=true∧True:=⟨by obtain⟨a,l,c,rfl⟩:=hd.shape;rfl,hd.one1,trivial⟩;obtain⟨H2,e2,k2,n2,q0,q1,q2⟩:=Zb3 H [.bool s,u,v] [.bool t,w,z] [.bool false,.slice none 0 0,.slice none 0 0];obtain⟨H3,c3,k3⟩:=Fa s t (ha.keep k2) (hb.keep k2) (hc.keep k2) (hd.keep k2) lA lB lC lD hB hD;obtain⟨cm,hcm⟩: ∃cm,cm=cmpQ s A B t C D:=⟨_,rfl⟩;rw[←hcm]at c3 hR;have n3:=k3.n;have r0:H3.blk H.n= .rw 1 [.bool s,u,v]:=by rw[k3.blk _ (by omega)];exact q0
 have r1:H3.blk (H.n+1)= .rw 1 [.bool t,w,z]:=by rw[k3.blk _ (by omega)];exact q1
 have r2:H3.blk (H.n+2)= .rw 1 [.bool false,.slice none 0 0,.slice none 0 0]:=by rw[k3.blk _ (by omega)];exact q2
 have gc:Zd .gtr .i64 cm 0=some (.bool (decide (0<cm))):=gtrZZ;refine Zl 18 (by decide) (by decide) Tryz.func114 rfl rfl ?_;apply Zb;intro b1 hb1;apply Za;simp[Value.cells,Jz,Vl,e2];subst hb1;apply Zb;intro b1 hb1;apply Zb;intro b2 hb2;apply Za;simp[Xr q0,Xr q1,c3];subst hb2;apply Zb;intro b2 hb2;apply Za;simp[gc];subst hb2;by_cases h0:0<cm;·rw[if_pos h0]at hR;subst hR;obtain⟨H4,st4,n4,q4,b4,ka4⟩:=Cb (p:= .bool t) (q:=w) (r:=z) r2 rfl k1 l1 rfl k2' l2;have k04:Keep H H4:=ka4 H (k2.trans k3) (by omega);have hld:=Xr q4;refine Zc (t:=true) (by simp[h0]) ?_;apply Zb;intro b2 hb2;apply Za;simp[Xr r1,st4];subst hb2;apply Zn;simp[Xw,hld];exact k04
 ·rw[if_neg h0]at hR;subst hR;obtain⟨H4,st4,n4,q4,b4,ka4⟩:=Cb (p:= .bool s) (q:=u) (r:=v) r2 rfl i1 j1 rfl i2 j2;have k04:Keep H H4:=ka4 H (k2.trans k3) (by omega);have hld:=Xr q4;refine Zc (t:=false) (by simp[h0]) ?_;apply Zj;subst hb1;apply Zb;intro b1 hb1;apply Za;simp[Xr r0,st4];subst hb1;apply Zn;simp[hld];exact k04
theorem greater_call(s t:Bool){A B C D:Nat}(ha:Sl H u (ds B64 A))(hb:Sl H v (ds B64 B))(hc:Sl H w (ds B64 C))(hd:Sl H z (ds B64 D))(lA:Zf A≤67108864)(lB:Zf B≤67108864)(lC:Zf C≤67108864)(lD:Zf D≤67108864)(hB:0<B)(hD:0<D): ∃H',Zq Tryz.prog Zo 115 [.agg #[.bool s,u,v],.agg #[.bool t,w,z]] H=some (.tuple #[if cmpQ s A B t C D<0 then .agg #[.bool t,w,z]else .agg #[.bool s,u,v],.int .i64 0],H')∧Keep H H':=by
 obtain⟨R,hR⟩: ∃R,R=(if cmpQ s A B t C D<0 then Value.agg #[.bool t,w,z]else .agg #[.bool s,u,v]):=⟨_,rfl⟩;rw[←hR];suffices h:CW Tryz.prog Zo 115 [.agg #[.bool s,u,v],.agg #[.bool t,w,z]] H fun r H'=>r= .tuple #[R,.int .i64 0]∧Keep H H' by obtain⟨v,H',hc,rfl,k⟩:=h;exact⟨H',hc,k⟩
 obtain⟨i1,i2,i3⟩:u.cells=#[u]∧one u=true∧True:=⟨by obtain⟨a,l,c,rfl⟩:=ha.shape;rfl,ha.one1,trivial⟩;obtain⟨j1,j2,j3⟩:v.cells=#[v]∧one v=true∧True:=⟨by obtain⟨a,l,c,rfl⟩:=hb.shape;rfl,hb.one1,trivial⟩;obtain⟨k1,k2',k3'⟩:w.cells=#[w]∧one w=true∧True:=⟨by obtain⟨a,l,c,rfl⟩:=hc.shape;rfl,hc.one1,trivial⟩;obtain⟨l1,l2,l3⟩:z.cells=#[z]∧one z=true∧True:=⟨by obtain⟨a,l,c,rfl⟩:=hd.shape;rfl,hd.one1,trivial⟩;obtain⟨H2,e2,k2,n2,q0,q1,q2⟩:=Zb3 H [.bool s,u,v] [.bool t,w,z] [.bool false,.slice none 0 0,.slice none 0 0];obtain⟨H3,c3,k3⟩:=Fa s t (ha.keep k2) (hb.keep k2) (hc.keep k2) (hd.keep k2) lA lB lC lD hB hD;obtain⟨cm,hcm⟩: ∃cm,cm=cmpQ s A B t C D:=⟨_,rfl⟩;rw[←hcm]at c3 hR;have n3:=k3.n;have r0:H3.blk H.n= .rw 1 [.bool s,u,v]:=by rw[k3.blk _ (by omega)];exact q0
 have r1:H3.blk (H.n+1)= .rw 1 [.bool t,w,z]:=by rw[k3.blk _ (by omega)];exact q1
 have r2:H3.blk (H.n+2)= .rw 1 [.bool false,.slice none 0 0,.slice none 0 0]:=by rw[k3.blk _ (by omega)];exact q2
 have gc:Zd .lss .i64 cm 0=some (.bool (decide (cm<0))):=lssZZ;refine Zl 18 (by decide) (by decide) Tryz.func115 rfl rfl ?_;apply Zb;intro b1 hb1;apply Za;simp[Value.cells,Jz,Vl,e2];subst hb1;apply Zb;intro b1 hb1;apply Zb;intro b2 hb2;apply Za;simp[Xr q0,Xr q1,c3];subst hb2;apply Zb;intro b2 hb2;apply Za;simp[gc];subst hb2;by_cases h0:cm<0;·rw[if_pos h0]at hR;subst hR;obtain⟨H4,st4,n4,q4,b4,ka4⟩:=Cb (p:= .bool t) (q:=w) (r:=z) r2 rfl k1 l1 rfl k2' l2;have k04:Keep H H4:=ka4 H (k2.trans k3) (by omega);have hld:=Xr q4;refine Zc (t:=true) (by simp[h0]) ?_;apply Zb;intro b2 hb2;apply Za;simp[Xr r1,st4];subst hb2;apply Zn;simp[Xw,hld];exact k04
 ·rw[if_neg h0]at hR;subst hR;obtain⟨H4,st4,n4,q4,b4,ka4⟩:=Cb (p:= .bool s) (q:=u) (r:=v) r2 rfl i1 j1 rfl i2 j2;have k04:Keep H H4:=ka4 H (k2.trans k3) (by omega);have hld:=Xr q4;refine Zc (t:=false) (by simp[h0]) ?_;apply Zj;subst hb1;apply Zb;intro b1 hb1;apply Za;simp[Xr r0,st4];subst hb1;apply Zn;simp[hld];exact k04
end
end
theorem loadR{H:AH}{b:Nat}{p q r:Value}(hb:H.blk b= .rw 1 [p,q,r]):Yn Tryz.prog H 42 (.pointer (some ⟨b,0,none⟩))=some (.agg #[p,q,r]):=load_r (AH.cells_rw' hb (by decide)) rfl rfl
theorem loadR0{H:AH}{b:Nat}{p q r:Value}(hb:H.blk b= .rw 1 [p,q,r]):Yn Tryz.prog H 4 (.pointer (some ⟨b,0,none⟩))=some p:=Ys aBool (AH.cells_rw' hb (by decide)) rfl
theorem loadR1{H:AH}{b:Nat}{p q r:Value}(hb:H.blk b= .rw 1 [p,q,r]):Yn Tryz.prog H 37 (.pointer (some ⟨b,1,none⟩))=some q:=Ys aNum (AH.cells_rw' hb (by decide)) rfl
theorem loadR2{H:AH}{b:Nat}{p q r:Value}(hb:H.blk b= .rw 1 [p,q,r]):Yn Tryz.prog H 37 (.pointer (some ⟨b,2,none⟩))=some r:=Ys aNum (AH.cells_rw' hb (by decide)) rfl
theorem faR0(b:Nat):Yz Tryz.prog 42 (.pointer (some ⟨b,0,none⟩)) 0=some (.pointer (some ⟨b,0,none⟩)):=by kernel_rfl
theorem faR1(b:Nat):Yz Tryz.prog 42 (.pointer (some ⟨b,0,none⟩)) 1=some (.pointer (some ⟨b,1,none⟩)):=feN b 0
theorem faR2(b:Nat):Yz Tryz.prog 42 (.pointer (some ⟨b,0,none⟩)) 2=some (.pointer (some ⟨b,2,none⟩)):=feD b 0
theorem putR{H:AH}{b:Nat}{p' q' r' p q r:Value}(hb:H.blk b= .rw 1 [p',q',r'])(ht:Eh p q r): ∃H',Xp Tryz.prog H 42 (.pointer (some ⟨b,0,none⟩)) (.agg #[p,q,r])=some H'∧H'.n=H.n∧H'.blk b= .rw 1 [p,q,r]∧(∀j,j≠b→H'.blk j=H.blk j)∧KAt b H H':=by obtain⟨⟨s,rfl⟩,⟨a1,l1,c1,rfl⟩,⟨a2,l2,c2,rfl⟩⟩:=ht;exact Cz sR hb rfl rfl rfl rfl
section
attribute [-simp] Int.natCast_add Int.natCast_mul Int.natCast_ediv Int.natCast_emod Int.natCast_pow
attribute [local simp] strip Yd LW' LR gW Yf Xh Ya Xi Yo Xj Zr Zs Zh Yp Yy Yk Xo Zw Yq Zi Ze Xn Xm Je Ye Xa opd Qe Ym plain Yj Tr.get_set Qc Zp Xy Yc sameKind undef Zt Yr Yv Zk Yb parts unV DW Xq Zv LX Zy
section
variable {H : AH} {u v w z : Value}
end
end
theorem bR12{p q:Value}(hp: ∃a l c,p= .slice a l c)(hq: ∃a l c,q= .slice a l c):Ux Tryz.prog 42 [(1,p),(2,q)]=some (.agg #[.bool false,p,q]):=by obtain⟨a,l,c,rfl⟩:=hp;obtain⟨a',l',c',rfl⟩:=hq;rfl
section
attribute [-simp] Int.natCast_add Int.natCast_mul Int.natCast_ediv Int.natCast_emod Int.natCast_pow
attribute [local simp] strip Yd LW' LR gW Yf Xh Ya Xi Yo Xj Zr Zs Zh Yp Yy Yk Xo Zw Yq Zi Ze Xn Xm Je Ye Xa opd Qe Ym plain Yj Tr.get_set Qc Zp Xy Yc sameKind undef Zt Yr Yv Zk Yb parts unV DW Xq Zv LX Zy
section
variable {H : AH} {u v w z : Value}
end
end
theorem OwnR.mono{n m:Nat}{H H':AH}{us:List Value}{r:Bool×Nat×Nat}(o:OwnR n H us r)(h:m≤n)(k:Keep H H'):OwnR m H' us r:=by obtain⟨a,b,rfl,o1,o2⟩:=o;exact⟨a,b,rfl,o1.mono h k,o2.mono h k⟩
section
attribute [-simp] Int.natCast_add Int.natCast_mul Int.natCast_ediv Int.natCast_emod Int.natCast_pow
attribute [local simp] strip Yd LW' LR gW Yf Xh Ya Xi Yo Xj Zr Zs Zh Yp Yy Yk Xo Zw Yq Zi Ze Xn Xm Je Ye Xa opd Qe Ym plain Yj Tr.get_set Qc Zp Xy Yc sameKind undef Zt Yr Yv Zk Yb parts unV DW Xq Zv LX Zy
section
variable {H : AH} {u v w z : Value}
end
section
variable {H : AH} {u v w z : Value}
end
section
variable {H : AH} {u v w z : Value}
end
section
variable {H : AH}
theorem refRInt_call{n:Nat}(hn:n<9223372036854775808): ∃p q H',Zq Tryz.prog Zo 52 [.int .i64 (n:Int)] H=some (.agg #[.bool false,p,q],H')∧Keep H H'∧Own H.n H' p (ds b32 n)∧Own H.n H' q (ds b32 1):=by
 suffices h:CW Tryz.prog Zo 52 [.int .i64 (n:Int)] H fun v H'=> ∃p q,v= .agg #[.bool false,p,q]∧Keep H H'∧Own H.n H' p (ds b32 n)∧Own H.n H' q (ds b32 1) by obtain⟨v,H',hc,p,q,rfl,k,o⟩:=h;exact⟨p,q,H',hc,k,o⟩
 obtain⟨H2,e2,k2,n2,q2⟩:=Vc H [.bool false,.slice none 0 0,.slice none 0 0];obtain⟨p,H3,c3,k3,o3,_⟩:=Zp3 (H:=H2) n (Nat.lt_trans hn (by decide));obtain⟨q,H4,c4,k4,o4,_⟩:=Zp3 (H:=H3) 1 (by decide);have c4:Zq Tryz.prog Zo 62 [.int .i64 1] H3=some (q,H4):=c4;have n3:=k3.n;have q2':=(k3.trans k4).blk _ (show H.n<H2.n by omega);rw[q2]at q2';have o3':=o3.mono (Nat.le_refl _) k4;obtain⟨i1,i2,i3⟩:=o3'.trio;obtain⟨j1,j2,j3⟩:=o4.trio;obtain⟨H5,st5,n5,q5,b5,ka5⟩:=putR (p:= .bool false) (q:=p) (r:=q) q2' ⟨⟨_,rfl⟩,i3,j3⟩;have k05:Keep H H5:=ka5 H ((k2.trans k3).trans k4) (by omega);have o5:=(o3'.off (b:=H.n) (by omega) n5 b5).mono (show H.n≤H2.n by omega) (.refl _);have o6:=(o4.off (b:=H.n) (by omega) n5 b5).mono (show H.n≤H3.n by omega) (.refl _);have hld:=loadR q5;refine Zl 16 (by decide) (by decide) Tryz.func52 rfl rfl ?_;apply Zb;intro b1 hb1;apply Za;simp[Value.cells,zR,Vl,e2];subst hb1;apply Zb;intro b1 hb1;apply Zb;intro b2 hb2;apply Za;simp[lss_neg];subst hb2;refine Zc (t:=false) (by simp) ?_;apply Zj;subst hb1;apply Zb;intro b1 hb1;apply Za;simp[c3,c4,bR12 i3 j3,st5];subst hb1;apply Zn;simp[hld];exact⟨_,_,⟨rfl,rfl⟩,k05,o5,o6⟩
end
end
theorem Ci{a b:Nat}(h:0<Nat.gcd a b):Nat.gcd (a/Nat.gcd a b) (b/Nat.gcd a b)=1:=by have e1:Nat.gcd a b*(a/Nat.gcd a b)=a:=Nat.mul_div_cancel' (Nat.gcd_dvd_left a b);have e2:Nat.gcd a b*(b/Nat.gcd a b)=b:=Nat.mul_div_cancel' (Nat.gcd_dvd_right a b);have e3:=Nat.gcd_mul_left (Nat.gcd a b) (a/Nat.gcd a b) (b/Nat.gcd a b);rw[e1,e2]at e3;exact Nat.eq_of_mul_eq_mul_left h (by rw[←e3,Nat.mul_one])
def Low(s:Bool)(A B:Nat):Prop:=Yl s A B=(s,A,B)∧0<B
theorem Low.cop{s:Bool}{A B:Nat}(h:Low s A B):Nat.gcd A B=1:=by
 obtain⟨h,h0⟩:=h;unfold Yl at h;by_cases hA:A=0
 ·rw[if_pos hA]at h;have:B=1:=by rw[Prod.mk.injEq,Prod.mk.injEq]at h;exact h.2.2.symm
  rw[hA,this];rfl
 ·rw[if_neg hA]at h;rw[Prod.mk.injEq,Prod.mk.injEq]at h;have h1:B/Nat.gcd A B=B:=h.2.2;have g0:0<Nat.gcd A B:=Nat.gcd_pos_of_pos_right _ h0;have h2:Nat.gcd A B*(B/Nat.gcd A B)=B:=Nat.mul_div_cancel' (Nat.gcd_dvd_right A B);rw[h1]at h2;exact Nat.eq_of_mul_eq_mul_right h0 (by rw[h2,Nat.one_mul])
theorem Low.zero{s:Bool}{A B:Nat}(h:Low s A B)(hA:A=0):s=false∧B=1:=by have h:=h.1;unfold Yl at h;rw[if_pos hA,Prod.mk.injEq,Prod.mk.injEq]at h;exact⟨h.1.symm,h.2.2.symm⟩
theorem low_of{s:Bool}{A B:Nat}(hA:A≠0)(h0:0<B)(hc:Nat.gcd A B=1):Low s A B:=by refine⟨?_,h0⟩;unfold Yl;rw[if_neg hA,hc,Nat.div_one,Nat.div_one]
theorem Ec:Low false 0 1:=⟨rfl,by decide⟩
theorem low_one:Low false 1 1:=low_of (by decide) (by decide) rfl
theorem Zh8{neg:Bool}{n d:Nat}(hd:0<d):Low (Yl neg n d).1 (Yl neg n d).2.1 (Yl neg n d).2.2:=by
 unfold Yl;by_cases hn:n=0;·rw[if_pos hn];exact Ec
 ·rw[if_neg hn];have g0:0<Nat.gcd n d:=Nat.gcd_pos_of_pos_right _ hd;refine low_of ?_ ?_ ?_;·have:=Nat.div_pos (Nat.le_of_dvd (by omega) (Nat.gcd_dvd_left n d)) g0;simp only;omega
  ·exact Nat.div_pos (Nat.le_of_dvd hd (Nat.gcd_dvd_right n d)) g0
  ·exact Ci g0
def Fe(s:Bool)(X:Nat)(t:Bool)(Y:Nat):Bool×Nat:=if s=t then(s,X+Y)else if Y≤X then(s,X-Y)else(t,Y-X)
theorem sumW_R(s t:Bool)(X Y:Nat):(sumW (sg s X) X (sg t Y) Y).2=(Fe s X t Y).2∧((Fe s X t Y).2≠0→sg (sumW (sg s X) X (sg t Y) Y).1 (sumW (sg s X) X (sg t Y) Y).2=(Fe s X t Y).1):=by
 rcases Nat.lt_or_ge X Y with h|h
 ·have h2: ¬Y≤X:=by omega
  have h3: ¬Y=0:=by omega
  rcases Nat.eq_zero_or_pos X with hX|hX;·subst hX;cases s<;>cases t<;>simp[sumW,Fe,sg,h,h2,h3]<;>omega
  ·have hY:0<Y:=by omega
   cases s<;>cases t<;>simp[sumW,Fe,sg,h,h2,h3,hX,hY]<;>omega
 ·have h2: ¬X<Y:=by omega
  rcases Nat.eq_zero_or_pos X with hX|hX
  ·have hY:Y=0:=by omega
   subst hX;subst hY;cases s<;>cases t<;>simp[sumW,Fe,sg]
  ·rcases Nat.eq_zero_or_pos Y with hY|hY;·subst hY;cases s<;>cases t<;>simp[sumW,Fe,sg,h,h2,hX]<;>omega
   ·cases s<;>cases t<;>simp[sumW,Fe,sg,h,h2,hX,hY]<;>omega
theorem sumR_mul{g:Nat}(hg:0<g)(s t:Bool)(X Y:Nat):Fe s (g*X) t (g*Y)=((Fe s X t Y).1,g*(Fe s X t Y).2):=by
 unfold Fe;by_cases h:s=t;·rw[if_pos h,if_pos h,Nat.mul_add]
 ·rw[if_neg h,if_neg h];by_cases h2:Y≤X;·rw[if_pos h2,if_pos (Nat.mul_le_mul_left _ h2),Nat.mul_sub]
  ·rw[if_neg h2,if_neg (fun h3=>h2 (Nat.le_of_mul_le_mul_left h3 hg)),Nat.mul_sub]
theorem sumR_le(s t:Bool)(X Y:Nat):(Fe s X t Y).2≤X+Y:=by
 unfold Fe;split;·exact Nat.le_refl _
 ·split<;>simp only<;>omega
theorem sumR_dvd{e X Y:Nat}(s t:Bool)(h1:e∣(Fe s X t Y).2)(h2:e∣Y):e∣X:=by
 unfold Fe at h1;split at h1;·exact(Nat.dvd_add_iff_left h2).mpr h1
 ·split at h1;·rename_i hle;have:=Nat.dvd_add h1 h2;rwa[Nat.sub_add_cancel hle]at this
  ·rename_i hle;have hle:X≤Y:=by omega
   have:=Nat.dvd_sub h2 h1;rwa[Nat.sub_sub_self hle]at this
theorem sumR_comm_snd(s t:Bool)(X Y:Nat):(Fe s X t Y).2=(Fe t Y s X).2:=by unfold Fe;cases s<;>cases t<;>simp[Nat.add_comm]<;>(split<;>split<;>simp<;>omega)
def addQ(s:Bool)(A B:Nat)(t:Bool)(C D:Nat):Bool×Nat×Nat:=Yl (Fe s (A*D) t (C*B)).1 (Fe s (A*D) t (C*B)).2 (B*D)
theorem addQ_eq{s t:Bool}{A B C D g:Nat}(ha:Low s A B)(hc:Low t C D)(hg:g=Nat.gcd B D):addQ s A B t C D=if(Fe s (A*(D/g)) t (C*(B/g))).2=0 then(false,0,1)else((Fe s (A*(D/g)) t (C*(B/g))).1,(Fe s (A*(D/g)) t (C*(B/g))).2/Nat.gcd (Fe s (A*(D/g)) t (C*(B/g))).2 g,B/g*(D/Nat.gcd (Fe s (A*(D/g)) t (C*(B/g))).2 g)):=by
 have g0:0<g:=by rw[hg];exact Nat.gcd_pos_of_pos_left _ ha.2
 have ca:=ha.cop;have cc:=hc.cop;obtain⟨p,hp⟩: ∃p,p=B/g:=⟨_,rfl⟩;obtain⟨q,hq⟩: ∃q,q=D/g:=⟨_,rfl⟩;have hB:g*p=B:=by rw[hp,hg];exact Nat.mul_div_cancel' (Nat.gcd_dvd_left B D)
 have hD:g*q=D:=by rw[hq,hg];exact Nat.mul_div_cancel' (Nat.gcd_dvd_right B D)
 have hpq:Nat.gcd p q=1:=by rw[hp,hq,hg];exact Ci (by rw[←hg];exact g0)
 rw[←hp,←hq];have e1:A*D=g*(A*q):=by rw[←hD,Nat.mul_left_comm]
 have e2:C*B=g*(C*p):=by rw[←hB,Nat.mul_left_comm]
 have cAp:Nat.Coprime A p:=Nat.Coprime.coprime_dvd_right ⟨g,by rw[Nat.mul_comm];exact hB.symm⟩ ca;have cCq:Nat.Coprime C q:=Nat.Coprime.coprime_dvd_right ⟨g,by rw[Nat.mul_comm];exact hD.symm⟩ cc;unfold addQ;rw[e1,e2,sumR_mul g0];obtain⟨Z,hZ⟩: ∃Z,Z=Fe s (A*q) t (C*p):=⟨_,rfl⟩;rw[←hZ];have cS1:Nat.Coprime Z.2 p:=by have c1:Nat.Coprime (A*q) p:=Nat.Coprime.mul_left cAp (Nat.Coprime.symm hpq);have d1:Nat.gcd Z.2 p∣A*q:=sumR_dvd s t (by rw[←hZ];exact Nat.gcd_dvd_left _ _) (Nat.dvd_trans (Nat.gcd_dvd_right _ _) ⟨C,Nat.mul_comm _ _⟩);exact Nat.eq_one_of_dvd_one (by have:=Nat.dvd_gcd d1 (Nat.gcd_dvd_right Z.2 p);rwa[c1]at this)
 have cS2:Nat.Coprime Z.2 q:=by have c1:Nat.Coprime (C*p) q:=Nat.Coprime.mul_left cCq hpq;have d1:Nat.gcd Z.2 q∣C*p:=sumR_dvd t s (by rw[←sumR_comm_snd,←hZ];exact Nat.gcd_dvd_left _ _) (Nat.dvd_trans (Nat.gcd_dvd_right _ _) ⟨A,Nat.mul_comm _ _⟩);exact Nat.eq_one_of_dvd_one (by have:=Nat.dvd_gcd d1 (Nat.gcd_dvd_right Z.2 q);rwa[c1]at this)
 unfold Yl;by_cases hz:Z.2=0;·rw[if_pos (by simp only[hz,Nat.mul_zero]),if_pos hz]
 ·have hne:g*Z.2≠0:=by have:=Nat.mul_pos g0 (Nat.pos_of_ne_zero hz);omega
  rw[if_neg hne,if_neg hz];obtain⟨h,hh⟩: ∃h,h=Nat.gcd Z.2 g:=⟨_,rfl⟩;rw[←hh];have h0:0<h:=by rw[hh];exact Nat.gcd_pos_of_pos_left _ (Nat.pos_of_ne_zero hz)
  have e3:B*D=g*(p*D):=by rw[←hB,Nat.mul_assoc]
  have e4:Nat.gcd (g*Z.2) (B*D)=g*h:=by rw[e3,Nat.gcd_mul_left,hh,←hD,Nat.Coprime.gcd_mul_left_cancel_right _ (Nat.Coprime.symm cS1),Nat.Coprime.gcd_mul_right_cancel_right _ (Nat.Coprime.symm cS2)]
  have hdD:h∣D:=by rw[hh];exact Nat.dvd_trans (Nat.gcd_dvd_right _ _) ⟨q,hD.symm⟩
  rw[e4,Nat.mul_div_mul_left _ _ g0,e3,Nat.mul_div_mul_left _ _ g0,Nat.mul_div_assoc _ hdD]
theorem mulQ_eq{s t neg:Bool}{A B C D g h:Nat}(ha:Low s A B)(hc:Low t C D)(hg:g=Nat.gcd A D)(hh:h=Nat.gcd C B)(hA:A≠0)(hC:C≠0):Yl neg (A*C) (B*D)=(neg,A/g*(C/h),B/h*(D/g)):=by
 have ca:Nat.gcd A B=1:=ha.cop;have cc:Nat.gcd C D=1:=hc.cop;have g0:0<g:=by rw[hg];exact Nat.gcd_pos_of_pos_left _ (Nat.pos_of_ne_zero hA)
 have h0:0<h:=by rw[hh];exact Nat.gcd_pos_of_pos_left _ (Nat.pos_of_ne_zero hC)
 obtain⟨a,hae⟩: ∃a,a=A/g:=⟨_,rfl⟩;obtain⟨d,hde⟩: ∃d,d=D/g:=⟨_,rfl⟩;obtain⟨c,hce⟩: ∃c,c=C/h:=⟨_,rfl⟩;obtain⟨b,hbe⟩: ∃b,b=B/h:=⟨_,rfl⟩;have eA:g*a=A:=by rw[hae,hg];exact Nat.mul_div_cancel' (Nat.gcd_dvd_left A D)
 have eD:g*d=D:=by rw[hde,hg];exact Nat.mul_div_cancel' (Nat.gcd_dvd_right A D)
 have eC:h*c=C:=by rw[hce,hh];exact Nat.mul_div_cancel' (Nat.gcd_dvd_left C B)
 have eB:h*b=B:=by rw[hbe,hh];exact Nat.mul_div_cancel' (Nat.gcd_dvd_right C B)
 have cad:Nat.Coprime a d:=by rw[hae,hde,hg];exact Ci (by rw[←hg];exact g0)
 have ccb:Nat.Coprime c b:=by rw[hce,hbe,hh];exact Ci (by rw[←hh];exact h0)
 have cab:Nat.Coprime a b:=Nat.Coprime.coprime_dvd_left ⟨g,by rw[Nat.mul_comm];exact eA.symm⟩ (Nat.Coprime.coprime_dvd_right ⟨h,by rw[Nat.mul_comm];exact eB.symm⟩ ca);have ccd:Nat.Coprime c d:=Nat.Coprime.coprime_dvd_left ⟨h,by rw[Nat.mul_comm];exact eC.symm⟩ (Nat.Coprime.coprime_dvd_right ⟨g,by rw[Nat.mul_comm];exact eD.symm⟩ cc);have cop:Nat.Coprime (a*c) (b*d):=Nat.Coprime.mul_left (Nat.Coprime.mul_right cab cad) (Nat.Coprime.mul_right ccb ccd);have e1:A*C=g*h*(a*c):=by rw[←eA,←eC];simp only[Nat.mul_assoc,Nat.mul_left_comm]
 have e2:B*D=g*h*(b*d):=by rw[←eB,←eD];simp only[Nat.mul_assoc,Nat.mul_left_comm,Nat.mul_comm]
 have gh0:=Nat.mul_pos g0 h0;rw[←hae,←hde,←hce,←hbe];unfold Yl;rw[if_neg (by have:=Nat.mul_pos (Nat.pos_of_ne_zero hA) (Nat.pos_of_ne_zero hC);omega)];have e3:Nat.gcd (A*C) (B*D)=g*h:=by rw[e1,e2,Nat.gcd_mul_left,cop,Nat.mul_one]
 rw[e3,e1,e2,Nat.mul_div_cancel_left _ gh0,Nat.mul_div_cancel_left _ gh0]
end
end Go.Proofs.YtmkfecoeghokfaaGreatDoor
