/-
  The engine and the walks that the claim's last text leans on, part 5 of 9: Tc, Td, Te, Ref, Rt, Make, Rc, Rd, Re, Rf, Rg, Oh, Ok, Pa, Pb, Pc, Pd, Pe, Pf, Pg, Sa, Sb, Sc, Sd, Se, Sf, Sg.
-/
import Derived.Test.YtmkfecoeghokfaaGreatDoorM4
namespace Go.Proofs.YtmkfecoeghokfaaGreatDoor
open Go Ev
set_option linter.unusedVariables false
set_option linter.unusedSimpArgs false
noncomputable section
set_option maxRecDepth 20000
set_option maxHeartbeats 1000000
def KAt(n0:Nat)(H H1:AH):Prop:= ∀H0,Keep H0 H→H0.n≤n0→Keep H0 H1
theorem KAt.refl(n0:Nat)(H:AH):KAt n0 H H:=fun _ k _=>k
theorem KAt.trans{n0:Nat}{H H1 H2:AH}(a:KAt n0 H H1)(b:KAt n0 H1 H2):KAt n0 H H2:=fun H0 k h=>b H0 (a H0 k h) h
theorem Keep.kat{H H':AH}(k:Keep H H')(n0:Nat):KAt n0 H H':=fun H0 k0 _=>k0.trans k
theorem sInt:Qr Tryz.prog 3=some 1:=by kernel_rfl
theorem store_cell{H:AH}{t:TypeId}(ht:Qr Tryz.prog t=some 1){b sz:Nat}{x y:Value}(h:H.blk b= .rw sz [x])(hy:y.cells=#[y])(h1:one y=true)(hz0:sz≠0:=by decide): ∃H',Xp Tryz.prog H t (.pointer (some ⟨b,0,none⟩)) y=some H'∧H'.blk b= .rw sz [y]∧H'.n=H.n∧(∀j,j≠b→H'.blk j=H.blk j)∧KAt b H H':=by
 obtain⟨sz,rfl⟩: ∃k,sz=k+1:=⟨sz-1,by omega⟩;refine⟨{ n:=H.n,lw:=min H.lw b,t:=H.t.set b (.rw (sz+1) [y]) },?_,?_,rfl,fun j hj=>?_,fun H0 k hn=>⟨k.n,?_,fun j hj=>?_⟩⟩;·unfold Xp;simp only[ht,hy];rw[show Nat.beq (#[y]:Array Value).size 1=true from rfl,cond_true,AH.write_def,h];simp[h1];rfl
 ·unfold AH.blk;simp only[Tr.get_set,if_true]
 ·unfold AH.blk;simp only[Tr.get_set];rw[if_neg hj]
 ·have:=k.lw;show min H0.lw H0.n≤min H.lw b;omega
 ·unfold AH.blk;simp only[Tr.get_set];rw[if_neg (by omega)];exact k.blk j hj
theorem maxN(a b:Nat):Fy true [.int .i64 (a:Int),.int .i64 (b:Int)]=some (.int .i64 ((max a b:Nat):Int)):=by
 unfold Fy;simp only[sameKind,BEq.rfl,cond_true];congr 2;by_cases h:(a:Int)<b;·rw[if_pos h];omega
 ·rw[if_neg h];omega
theorem addN{x y:Nat}(h:x+y<9223372036854775808):Zd .add .i64 (x:Int) (y:Int)=some (.int .i64 ((x+y:Nat):Int)):=by show some (Value.int .i64 (IntKind.i64.wrap ((x:Int)+y)))=_;rw[←Int.natCast_add,Zm1 h]
theorem Cf{x:Nat}(h:x+1<9223372036854775808):Zd .add .i64 (x:Int) 1=some (.int .i64 ((x+1:Nat):Int)):=addN (y:=1) h
theorem Bs:Uu Tryz.prog 53=some (.agg #[.int .i64 0,.bool false,.slice none 0 0,.slice none 0 0,.slice none 0 0]):=by kernel_rfl
theorem Ex.ones{H:AH}{vs:List Value}{t:ET}(h:Ex H vs t):vs.all one=true:=by
 have hs: ∀{v:Value}{xs:List Nat},Sl H v xs→one v=true:=fun h=>by cases h<;>rfl
 cases h with
  |mk h1 h2 h3=>
   have h4: ∀{v:Value}{l:List ET},Xs H v l→one v=true:=fun h=>by cases h<;>rfl
   simp only[List.all_cons,List.all_nil,hs h1,hs h2,h4 h3,Bool.and_true];rfl
def LookIs(H:AH)(b c:Nat)(t:ET)(v:Value)(H':AH):Prop:=v= .tuple #[.bool t.allGood,.int .i64 (t.depth:Int)]∧KAt b H H'∧H.n≤H'.n∧H'.blk b= .rw 1 [.int .i64 ((c+t.nodes:Nat):Int)]
section
attribute [-simp] Int.natCast_add Int.natCast_mul Int.natCast_ediv Int.natCast_emod Int.natCast_pow
attribute [local simp] strip Yd LW' LR gW Yf Xh Ya Xi Yo Xj Zr Zs Zh Yp Yy Yk Xo Zw Yq Zi Ze Xn Xm Je Ye Xa opd Qe Ym plain Yj Tr.get_set Qc Zp Xy Yc sameKind undef Zt Yr Yv Zk Yb parts unV DW Xq Zv LX Zy
theorem lssN{k:IntKind}{x y:Nat} :Zd .lss k (x:Int) (y:Int)=some (.bool (decide (x<y))):=by show some (Value.bool (decide ((x:Int)<y)))=_;congr 2;exact decide_eq_decide.mpr (by omega)
theorem notMost{x:Nat}(h:x≤4611686018427387903):Zd .gtr .i64 (x:Int) 4611686018427387903=some (.bool false):=by show some (Value.bool (decide ((x:Int)>4611686018427387903)))=_;congr 2;exact decide_eq_false (by omega)
theorem look_ok: ∀n(t:ET),t.nodes≤n→ ∀(H0 H:AH)(vs:List Value)(b c deep:Nat),Ex H0 vs t→RowsIn H0→t.wide 1048576→Keep H0 H→H0.n≤b→b<H.n→H.blk b= .rw 1 [.int .i64 (c:Int)]→c+t.nodes≤1000000000→deep+t.nodes≤1000000000→CW Tryz.prog Zo 68 [.agg vs.toArray,.int .i64 (deep:Int),.pointer (some ⟨b,0,none⟩),.int .i64 4611686018427387903] H (LookIs H b c t):=by intro n;induction n with
 |zero=>intro t h;have:=Vq t;omega
 |succ n ih=>
  intro t ht H0 H vs b c deep hE hR hw k0 hb hbn hblk hc hdp;obtain⟨op,neg,abs,den,args⟩:=t;have hEk:=hE;have hlen:=hE.len;have hones:=hE.ones;obtain⟨wa,wd,da,dd,ws⟩:=hw;simp only[ET.nodes]at ht hc hdp;unfold LookIs;simp only[ET.nodes];refine Zl 60 (by decide) (by decide) Tryz.func68 rfl rfl ?_;have kB:=Keep.new H 1 vs;have blkB:(H.new 1 vs).blk H.n= .rw 1 vs:=by rw[AH.blk_new,if_pos rfl]
  have blkb:(H.new 1 vs).blk b= .rw 1 [.int .i64 (c:Int)]:=by rw[AH.blk_new,if_neg (by omega)];exact hblk
  have nB:(H.new 1 vs).n=H.n+1:=rfl;obtain⟨HB,hHB⟩: ∃HB,HB=H.new 1 vs:=⟨_,rfl⟩;rw[←hHB]at kB blkB blkb nB;have cb:HB.cells b=some [.int .i64 (c:Int)]:=by unfold AH.cells;rw[blkb]
  have l1:=Ys aInt (o:=0) cb rfl;obtain⟨H2,st2,blk2,n2,oth2,ka2⟩:=store_cell sInt (y:= .int .i64 ((c+1:Nat):Int)) blkb rfl rfl;have cb2:H2.cells b=some [.int .i64 ((c+1:Nat):Int)]:=by unfold AH.cells;rw[blk2]
  have l2:=Ys aInt (o:=0) cb2 rfl;have cB2:H2.cells H.n=some vs:=by unfold AH.cells;rw[oth2 H.n (by omega),blkB]
  have l3:=Ze3 (o:=0) cB2 (vs:=vs) (by rw[List.drop_zero,List.take_of_length_le (by omega)]) hlen;have k02:Keep H0 H2:=ka2 H0 (k0.trans kB) hb;obtain⟨_,H3,c3,k3,rfl⟩:=shape_spec (hEk.keep k02) (hR.keep k02) da dd wa wd;obtain⟨g,hg⟩: ∃g:Bool,g=(ET.node op neg abs den args).good:=⟨_,rfl⟩;rw[←hg]at c3;have k03:=k02.trans k3;have cB3:H3.cells H.n=some vs:=by rw[Ke k3 (by omega)];exact cB2
  cases hEk with
   |@mk _ _ va vd vx _ _ _ h1 h2 h3=>
    have l4:=Ys aExprs (o:=4) cB3 rfl;have lx:=h3.len;have la:=Gw args;have q1:=notMost (x:=c+1) (by omega);have q2:=notMost (x:=deep) (by omega);have blk3:H3.blk b= .rw 1 [.int .i64 ((c+1:Nat):Int)]:=by rw[k3.blk b (by omega)];exact blk2
    have ka3:KAt b H H3:=((kB.kat b).trans ka2).trans (k3.kat b);have n3:=k3.n;apply Zb;intro d1 hd1;apply Za;simp[Value.cells,←hHB];subst hd1;apply Zb;intro d1 hd1;apply Za;simp[l1,Cf (x:=c) (by omega),st2];subst hd1;apply Zb;intro d1 hd1;apply Zb;intro d2 hd2;apply Za;simp[l2,q1,q2];subst hd2;refine Zc (t:=false) (by simp) ?_;apply Zj;subst hd1;apply Zb;intro d1 hd1;apply Za;simp only[List.toArray]at c3 l3;simp[l3,c3];subst hd1;apply Zb;intro d1 hd1;apply Za;simp;subst hd1;apply Zb;intro d1 hd1;apply Zb;intro d2 hd2;apply Za;simp[faArgs,l4,lx];subst hd2;apply Zx;obtain⟨m0,hm0⟩: ∃m0,m0=args.length:=⟨_,rfl⟩;rw[←hm0]at lx la;refine Qg (fun m s'=>s'.k=60∧Keep H0 s'.H∧KAt b H s'.H∧H3.n≤s'.H.n∧ ∃(i:Nat) (ok:Bool) (d:Nat),m+i=m0∧ok=(g&&Jh (args.take i))∧d=max 1 (Vt (args.take i))∧s'.H.blk b= .rw 1 [.int .i64 ((c+1+Xb (args.take i):Nat):Int)]∧s'.tm.get 1=some (.int .i64 (deep:Int))∧s'.tm.get 2=some (.pointer (some ⟨b,0,none⟩))∧s'.tm.get 3=some (.int .i64 4611686018427387903)∧s'.tm.get 10=some (.bool ok)∧s'.tm.get 11=some (.int .i64 (d:Int))∧s'.tm.get 34=some vx∧s'.tm.get 35=some (.int .i64 (m0:Int))∧s'.tm.get 36=some (.int .i64 (i:Int))) ?_ m0 _ ⟨rfl,k03,ka3,Nat.le_refl _,0,g,1,by omega,by simp[Jh],by simp[Vt],by simpa[Xb]using blk3,by simp,by simp,by simp,by simp,by simp,by simp,by simp[hm0],by simp⟩;rintro m ⟨k,tm,H4⟩ ⟨hk,kH,kaH,hn4,i,ok,d,hmi,hok,hd,blk4,t1,t2,t3,t10,t11,t34,t35,t36⟩ Q' hQ';simp only at hk kH kaH hn4 blk4 t1 t2 t3 t10 t11 t34 t35 t36;subst hk;apply Zb;intro d3 hd3;apply Za;simp[t35,t36,lssN];subst hd3;apply Zb;intro d3 hd3;by_cases hi:i<m0
    ·refine Zc (t:=true) (by simp[hi]) ?_;apply Zj;subst hd3;obtain⟨x,hx⟩: ∃x,args[i]?=some x:=⟨_,List.getElem?_eq_getElem (by omega)⟩;have htk:args.take (i+1)=args.take i++[x]:=by rw[List.take_add_one,hx];rfl
     have hsum:Xb (args.take (i+1))=Xb (args.take i)+x.nodes:=by rw[htk,Gb];simp[Xb]
     have hle:Xb (args.take (i+1))≤Xb args:=by have:=Gb (args.take (i+1)) (args.drop (i+1));rw[List.take_append_drop]at this;omega
     have hx3:=h3;obtain⟨p,us,ha5,hl5,hE5⟩: ∃(p:Value) (us:List Value),Yt Tryz.prog 51 vx (.int .i64 (i:Int))=some p∧Yn Tryz.prog H4 53 p=some (.agg us.toArray)∧Ex H0 us x:=by obtain⟨p,us,e1,e2,e3⟩:=h3.at hx;exact⟨p,us,e1,e2 _ kH,e3⟩
     obtain⟨H5,st5,k5,blk5,n5⟩:=Vg (H:=H4) (sz:=1) (zs:=[.int .i64 0,.bool false,.slice none 0 0,.slice none 0 0,.slice none 0 0]) Zd1 rfl (v:= .agg us.toArray) (ws:=us) (by simp[Value.cells]) hE5.len hE5.ones;have c5:H5.cells H4.n=some us:=by unfold AH.cells;rw[blk5]
     have l5:=Ze3 (o:=0) c5 (vs:=us) (by rw[List.drop_zero,List.take_of_length_le (by rw[hE5.len];omega)]) hE5.len;have hb5:H5.blk b= .rw 1 [.int .i64 ((c+1+Xb (args.take i):Nat):Int)]:=by rw[k5.blk b (by omega)];exact blk4
     have hxn:=Da hx;obtain⟨_,H6,c6,rfl,ka6,n6,blk6⟩:=ih x (by omega) H0 H5 us b (c+1+Xb (args.take i)) (deep+1) hE5 hR (Ef ws hx) (kH.trans k5) hb (by omega) hb5 (by omega) (by omega);have k06:Keep H0 H6:=ka6 H0 (kH.trans k5) hb;have ka06:KAt b H H6:=(kaH.trans (k5.kat b)).trans ka6;apply Zb;intro d3 hd3;apply Zx;apply Zb;intro d4 hd4;apply Za;simp[t34,t36,ha5,hl5,Bs,Value.cells,st5];subst hd4;apply Zb;intro d4 hd4;apply Za;simp[t1,t2,t3,l5,Cf (x:=deep) (by omega),c6];subst hd4;apply Zb;intro d4 hd4;apply Za;cases ok with
      |true=>
       simp[t10];subst hd4;have xd:=Zb6 _ x (Nat.le_refl _);apply Za;simp[t11,Cf (x:=x.depth) (by omega),maxN];subst hd3;apply Za;simp[t36,Cf (x:=i) (by omega)];apply hQ';refine⟨m-1,by omega,rfl,k06,ka06,by simp;omega,i+1,x.allGood,max d (x.depth+1),by omega,?_,?_,?_,by simp[t1],by simp[t2],by simp[t3],by simp,by simp,by simp[t34],by simp[t35],by simp⟩;·rw[htk,Zc5,←Bool.and_assoc,←hok];simp[Jh]
       ·rw[htk,Za2,hd];simp[Vt,Nat.max_assoc]
       ·show H6.blk b=_;rw[blk6,hsum];congr 4;omega
      |false=>
       simp[t10];subst hd4;have xd:=Zb6 _ x (Nat.le_refl _);apply Za;simp[t11,Cf (x:=x.depth) (by omega),maxN];subst hd3;apply Za;simp[t36,Cf (x:=i) (by omega)];apply hQ';refine⟨m-1,by omega,rfl,k06,ka06,by simp;omega,i+1,false,max d (x.depth+1),by omega,?_,?_,?_,by simp[t1],by simp[t2],by simp[t3],by simp,by simp,by simp[t34],by simp[t35],by simp⟩;·rw[htk,Zc5,←Bool.and_assoc,←hok];simp
       ·rw[htk,Za2,hd];simp[Vt,Nat.max_assoc]
       ·show H6.blk b=_;rw[blk6,hsum];congr 4;omega
    ·refine Zc (t:=false) (by simp[hi]) ?_;apply Qf;apply hQ';left;refine⟨rfl,?_⟩;obtain rfl:i=m0:=by omega
     rw[List.take_of_length_le (by omega)]at hok hd blk4;subst hd1;apply Zb;intro d4 hd4;apply Za;simp[t10,t11];subst hd4;apply Zn;simp;refine⟨⟨?_,?_⟩,kaH,by omega,?_⟩;·rw[hok,hg];simp[ET.allGood]
     ·rw[hd];simp[ET.depth]
     ·rw[blk4];congr 4;omega
end
structure TreeIn (H : AH) (vs : List Value) (t : ET) : Prop where
  ex : Ex H vs t
  rows : RowsIn H
  wide : t.wide 1048576
  nodes : t.nodes ≤ 2000000
theorem TreeIn.keep{H H':AH}{vs:List Value}{t:ET}(h:TreeIn H vs t)(k:Keep H H'):TreeIn H' vs t:=⟨h.ex.keep k,h.rows.keep k,h.wide,h.nodes⟩
theorem zInt:Uu Tryz.prog 3=some (.int .i64 0):=by kernel_rfl
def Dp(t:ET):Nat:=if t.allGood=false then 152 else if 4000<t.nodes∨200<t.depth then 151 else 0
theorem look_call{H:AH}{vs:List Value}{t:ET}(h:TreeIn H vs t): ∃H2,Xp Tryz.prog ((H.new 1 vs).new 1 [.int .i64 0]) 3 (.pointer (some ⟨H.n+1,0,none⟩)) (.int .i64 0)=some H2∧Yn Tryz.prog H2 53 (.pointer (some ⟨H.n,0,none⟩))=some (.agg vs.toArray)∧ ∃H3,Zq Tryz.prog Zo 68 [.agg vs.toArray,.int .i64 1,.pointer (some ⟨H.n+1,0,none⟩),.int .i64 4611686018427387903] H2=some (.tuple #[.bool t.allGood,.int .i64 (t.depth:Int)],H3)∧Keep H H3∧Yn Tryz.prog H3 3 (.pointer (some ⟨H.n+1,0,none⟩))=some (.int .i64 (t.nodes:Int)):=by
 have kB:=Keep.new H 1 vs;have blkB:(H.new 1 vs).blk H.n= .rw 1 vs:=by rw[AH.blk_new,if_pos rfl]
 have nB:(H.new 1 vs).n=H.n+1:=rfl;obtain⟨HB,hHB⟩: ∃HB,HB=H.new 1 vs:=⟨_,rfl⟩;rw[←hHB]at kB blkB nB⊢;obtain⟨H2,st2,k2,blk2,n2⟩:=Vg (H:=HB) (sz:=1) (zs:=[.int .i64 0]) sInt rfl (v:= .int .i64 0) (ws:=[.int .i64 0]) rfl rfl rfl;rw[nB]at st2 blk2;have cB2:H2.cells H.n=some vs:=by rw[Ke k2 (by omega)];unfold AH.cells;rw[blkB]
 have l2:=Ze3 (o:=0) cB2 (vs:=vs) (by rw[List.drop_zero,List.take_of_length_le (by rw[h.ex.len];omega)]) h.ex.len;obtain⟨_,H3,c3,rfl,ka3,n3,blk3⟩:=look_ok _ t (Nat.le_refl _) H H2 vs (H.n+1) 0 1 h.ex h.rows h.wide (kB.trans k2) (Nat.le_succ _) (by omega) blk2 (by have:=h.nodes;omega) (by have:=h.nodes;omega);rw[Nat.zero_add]at blk3;have c3:Zq Tryz.prog Zo 68 [.agg vs.toArray,.int .i64 1,.pointer (some ⟨H.n+1,0,none⟩),.int .i64 4611686018427387903] H2=some (.tuple #[.bool t.allGood,.int .i64 (t.depth:Int)],H3):=c3;refine⟨H2,st2,l2,H3,c3,ka3 H (kB.trans k2) (Nat.le_succ _),Ys aInt (cs:=[.int .i64 (t.nodes:Int)]) ?_ rfl⟩;unfold AH.cells;rw[blk3]
section
attribute [-simp] Int.natCast_add Int.natCast_mul Int.natCast_ediv Int.natCast_emod Int.natCast_pow
attribute [local simp] strip Yd LW' LR gW Yf Xh Ya Xi Yo Xj Zr Zs Zh Yp Yy Yk Xo Zw Yq Zi Ze Xn Xm Je Ye Xa opd Qe Ym plain Yj Tr.get_set Qc Zp Xy Yc sameKind undef Zt Yr Yv Zk Yb parts unV DW Xq Zv LX Zy
section
variable {H : AH} {vs : List Value} {t : ET}
theorem new_n(H:AH)(sz:Nat)(cs:List Value):(H.new sz cs).n=H.n+1:=rfl
theorem gtrC{k:IntKind}{x y:Nat}{z:Int}(hz:z=(y:Int)):Zd .gtr k (x:Int) z=some (.bool (decide (y<x))):=by subst hz;show some (Value.bool (decide ((x:Int)>(y:Int))))=_;congr 2;exact decide_eq_decide.mpr (by omega)
theorem Zg5(h:TreeIn H vs t): ∃H',Zq Tryz.prog Zo 28 [.agg vs.toArray] H=some (.int .i64 (Dp t:Int),H')∧Keep H H':=by
 suffices hs:CW Tryz.prog Zo 28 [.agg vs.toArray] H fun v H'=>v= .int .i64 (Dp t:Int)∧Keep H H' by obtain⟨_,H',hc,rfl,k⟩:=hs;exact⟨H',hc,k⟩
 obtain⟨H2,st,ld,H3,lc,k3,ln⟩:=look_call h;obtain⟨C,hC⟩: ∃C,C=Dp t:=⟨_,rfl⟩;rw[←hC];unfold Dp at hC;refine Zl 21 (by decide) (by decide) Tryz.func28 rfl rfl ?_;apply Zb;intro b1 hb1;apply Za;simp[Value.cells];subst hb1;apply Zb;intro b1 hb1;apply Za;simp[zInt,Value.cells,new_n,st];subst hb1;apply Zb;intro b1 hb1;apply Za;simp[ld,lc];subst hb1;apply Zb;intro b1 hb1;apply Zx;apply Zb;intro b2 hb2;apply Za;simp;subst hb2;obtain⟨g,hg⟩: ∃g,g=t.allGood:=⟨_,rfl⟩;rw[←hg]at hC⊢;cases g with
  |false=>rw[if_pos rfl]at hC;subst hC;refine Zc (t:=true) (by simp) ?_;apply Zb;intro b2 hb2;apply Za;simp;subst hb2;apply Zn;simp[Xw,Xk];exact k3
  |true=>
   rw[if_neg (by decide)]at hC;refine Zc (t:=false) (by simp) ?_;have g1:Zd .gtr .i64 (t.nodes:Int) 4000=some (.bool (decide (4000<t.nodes))):=gtrC (y:=4000) rfl;have g2:Zd .gtr .i64 (t.depth:Int) 200=some (.bool (decide (200<t.depth))):=gtrC (y:=200) rfl;apply Zb;intro b2 hb2;apply Za;by_cases h1:4000<t.nodes;·rw[decide_eq_true h1]at g1;rw[if_pos (.inl h1)]at hC;subst hC;simp[ln,g1];subst hb2;refine Zc (t:=true) (by simp) ?_;apply Zb;intro b2 hb2;apply Za;simp;subst hb2;apply Zn;simp[Xw,Xk];exact k3
   ·rw[decide_eq_false h1]at g1;by_cases h2:200<t.depth;·rw[decide_eq_true h2]at g2;rw[if_pos (.inr h2)]at hC;subst hC;simp[ln,g1,g2];subst hb2;refine Zc (t:=true) (by simp) ?_;apply Zb;intro b2 hb2;apply Za;simp;subst hb2;apply Zn;simp[Xw,Xk];exact k3
    ·rw[decide_eq_false h2]at g2;rw[if_neg (by omega)]at hC;subst hC;simp[ln,g1,g2];subst hb2;refine Zc (t:=false) (by simp) ?_;apply Zj;subst hb1;apply Zb;intro b2 hb2;apply Za;simp;subst hb2;apply Zn;simp;exact k3
end
end
theorem mulN{x y:Nat}(h:x*y<9223372036854775808):Zd .mul .i64 (x:Int) (y:Int)=some (.int .i64 ((x*y:Nat):Int)):=by show some (Value.int .i64 (IntKind.i64.wrap ((x:Int)*y)))=_;rw[←Int.natCast_mul,Zm1 h]
theorem conv_uint{n:Nat}(h:n<9223372036854775808):Dq Tryz.prog 3 228 (.int .i64 (n:Int))=some (.int .u64 (n:Int)):=by
 have e:IntKind.u64.wrap (n:Int)=(n:Int):=by rw[IntKind.wrap_u64];omega
 unfold Dq;simp only[Tryz.underlying3,Tryz.underlying228,e]
section
attribute [-simp] Int.natCast_add Int.natCast_mul Int.natCast_ediv Int.natCast_emod Int.natCast_pow
attribute [local simp] strip Yd LW' LR gW Yf Xh Ya Xi Yo Xj Zr Zs Zh Yp Yy Yk Xo Zw Yq Zi Ze Xn Xm Je Ye Xa opd Qe Ym plain Yj Tr.get_set Qc Zp Xy Yc sameKind undef Zt Yr Yv Zk Yb parts unV DW Xq Zv LX Zy
section
variable {H : AH} {vs : List Value} {t : ET}
end
end
abbrev Lim:Nat:=2000000000000
theorem Ub{xs:List Nat}(dx:Dig B64 xs):(ds B64 (dv B64 xs)).length≤xs.length:=Fm Zz (Ui dx)
theorem Gi{B:Nat}(hB:2≤B){n m:Nat}(h:n≤m):(ds B n).length≤(ds B m).length:=Fm hB (Nat.lt_of_le_of_lt h (ds_lt hB m))
theorem Kf{B n:Nat}(hB:2≤B):0<(ds B n).length↔0<n:=by
 constructor
 ·intro h;rcases Nat.eq_zero_or_pos n with h0|h0;·subst h0;rw[Vd]at h;cases h
  ·exact h0
 ·intro h;rw[Ej hB (by omega)];simp
theorem Uh{B n:Nat}(hB:2≤B):(ds B n).length=0↔n=0:=by have:=Kf (n:=n) hB;omega
theorem dig1{x:Nat}(h:x<B64):Dig B64 [x]:= .cons h (.nil _)
theorem dv1(x:Nat):dv B64 [x]=x:=by simp[dv]
theorem ds1{x:Nat}(h0:x≠0)(h:x<B64):ds B64 x=[x]:=by rw[Ej Zz h0,Nat.mod_eq_of_lt h,Nat.div_eq_of_lt h,Vd]
section
attribute [-simp] Int.natCast_add Int.natCast_mul Int.natCast_ediv Int.natCast_emod Int.natCast_pow
attribute [local simp] strip Yd LW' LR gW Yf Xh Ya Xi Yo Xj Zr Zs Zh Yp Yy Yk Yq Zi Xa Ze opd Qe Ym plain Yj Tr.get_set Qc Zp Xy Yc sameKind undef Zt Yr Yv Zk Jg Jf Yb parts Jc unV DW Xq Zv LX Zy
theorem Zb4(H:AH){t:TypeId}(ht:LT t)(x:Nat): ∃v N,Xx Tryz.prog H t 1 [(0,.int .u64 (x:Int))]=some (v,N)∧Keep H N∧Own H.n N v [x]:=⟨_,_,build1_own H ht x,.new _ _ _,Own.new H [x]⟩
section
variable {H : AH} {va vb : Value} {A B : Nat}
theorem of_call{H:AH}{v:Value}{xs:List Nat}(h:Sl H v xs)(dx:Dig B64 xs)(hl:xs.length≤Lim): ∃v' H',Zq Tryz.prog Zo 17 [v] H=some (v',H')∧Keep H H'∧Own H.n H' v' (ds b32 (dv B64 xs))∧(ds b32 (dv B64 xs)).length≤2*Lim:=by
 obtain⟨v',H',hc,k,o⟩:=of_spec h dx (Nat.le_trans hl (by decide));refine⟨v',H',hc,k,o,?_⟩;have h1:dv B64 xs<b32^(2*xs.length):=by have:=Ui (Zg9 dx);rwa[Zm8,Ak]at this
 have:=Fm two32 h1;have hl:xs.length≤2000000000000:=hl;show _≤2*2000000000000;omega
end
end
inductive RT where|node(op:Int)(neg:Bool)(N D:Nat)(bad:Bool)(args:List RT)
mutual def RT.nodes:RT→Nat| .node _ _ _ _ _ args=>1+Bo args def Bo:List RT→Nat|[]=>0|t::ts=>t.nodes+Bo ts end
mutual def RT.depth:RT→Nat| .node _ _ _ _ _ args=>rdepthAll args+1 def rdepthAll:List RT→Nat|[]=>0|t::ts=>max t.depth (rdepthAll ts) end
def rgood(op:Int)(bad:Bool)(n:Nat):Bool:=!bad&&decide (0≤op∧op<16∧n=arity op.toNat)
mutual def RT.right:RT→Bool| .node op _ _ _ bad args=>rgood op bad args.length&&rrightAll args def rrightAll:List RT→Bool|[]=>true|t::ts=>t.right&&rrightAll ts end
mutual def RT.fit:RT→Prop| .node _ _ N D _ args=>Zf N≤67108864∧Zf D≤67108864∧rfitAll args def rfitAll:List RT→Prop|[]=>True|t::ts=>t.fit∧rfitAll ts end
def Yl(neg:Bool)(n d:Nat):Bool×Nat×Nat:=if n=0 then(false,0,1)else(neg,n/Nat.gcd n d,d/Nat.gcd n d)
theorem rnodes_pos(t:RT):0<t.nodes:=by cases t;simp only[RT.nodes];omega
theorem rnodesAll_get{xs:List RT}{i:Nat}{t:RT}(hi:xs[i]?=some t):t.nodes≤Bo xs:=by induction xs generalizing i with
 |nil=>simp at hi
 |cons x xs ih=>cases i with|zero=>simp at hi;subst hi;simp[Bo]|succ i=>simp at hi;have:=ih hi;simp only[Bo];omega
theorem Yi{n m:Nat}(h:n≤m):Zf n≤Zf m:=by
 rcases Nat.eq_zero_or_pos n with h0|h0;·subst h0;exact Nat.zero_le _
 ·have h1:=Ul (n:=n) (by omega);have h2:=Um m;have:=(Nat.pow_lt_pow_iff_right (a:=2) (by decide)).mp (Nat.lt_of_le_of_lt (Nat.le_trans h1 h) h2);omega
def SlQ(Q:Nat→Prop)(H:AH)(v:Value)(xs:List Nat):Prop:=Sl H v xs∧ ∀c,Xt v=some c→Q c
def Agr(Q:Nat→Prop)(H H':AH):Prop:=H.n≤H'.n∧ ∀j,Q j→j<H.n→H'.blk j=H.blk j
theorem Sl.agr{Q:Nat→Prop}{H H':AH}{v:Value}{xs:List Nat}(h:Sl H v xs)(hq: ∀c,Xt v=some c→Q c)(k:Agr Q H H'):Sl H' v xs:=by cases h with|nil=>exact .nil|emp b=>exact .emp b|mk b o cap xs h1 h2=>obtain⟨h3,cs,h4,h5,h6⟩:=h2;have e:=k.2 b (hq b rfl) h3;exact .mk b o cap xs h1 ⟨Nat.lt_of_lt_of_le h3 k.1,cs,by unfold AH.cells;rw[e];exact h4,by unfold AH.size;rw[e];exact h5,h6⟩
mutual inductive Rx(Q:Nat→Prop)(H:AH):List Value→RT→Prop|mk{op:Int}{neg bad:Bool}{vn vd vx:Value}{N D:Nat}{args:List RT} :SlQ Q H vn (ds b32 N)→SlQ Q H vd (ds b32 D)→Rxs Q H vx args→Rx Q H [.int .i64 op,.bool neg,vn,vd,.bool bad,vx] (.node op neg N D bad args) inductive Rxs(Q:Nat→Prop)(H:AH):Value→List RT→Prop|nil:Rxs Q H (.slice none 0 0) []|mk(b cap:Nat){cs:List Value}{args:List RT} :Q b→b<H.n→H.blk b= .rw 6 cs→args.length≤cap→(∀(i:Nat)(t:RT),args[i]?=some t→Rx Q H ((cs.drop (i*6)).take 6) t)→Rxs Q H (.slice (some ⟨b,0,none⟩) args.length cap) args end
theorem rx_agr{Q Q':Nat→Prop}{H H':AH}(k:Agr Q H H')(hQ: ∀j,j<H.n→Q j→Q' j): ∀n(t:RT),t.nodes≤n→ ∀vs,Rx Q H vs t→Rx Q' H' vs t:=by intro n;induction n with
 |zero=>intro t h;have:=rnodes_pos t;omega
 |succ n ih=>intro t h vs hx;cases hx with
  |mk h1 h2 h3=>simp only[RT.nodes]at h;refine .mk ⟨h1.1.agr h1.2 k,fun c hc=>hQ c (h1.1.blk_lt hc) (h1.2 c hc)⟩ ⟨h2.1.agr h2.2 k,fun c hc=>hQ c (h2.1.blk_lt hc) (h2.2 c hc)⟩ ?_;cases h3 with
   |nil=>exact .nil
   |mk b cap hq hb hc hl hf=>
    rename_i cs;refine .mk b cap (cs:=cs) (hQ b hb hq) (Nat.lt_of_lt_of_le hb k.1) ?_ hl fun i t hi=>?_;·rw[k.2 b hq hb];exact hc
    ·have:=rnodesAll_get hi;exact ih t (by omega) _ (hf i t hi)
theorem Rx.agr{Q Q':Nat→Prop}{H H':AH}{vs:List Value}{t:RT}(h:Rx Q H vs t)(k:Agr Q H H')(hQ: ∀j,j<H.n→Q j→Q' j):Rx Q' H' vs t:=rx_agr k hQ _ t (Nat.le_refl _) vs h
theorem Keep.agr{H H':AH}(k:Keep H H')(Q:Nat→Prop):Agr Q H H':=⟨k.n,fun j _ hj=>k.blk j hj⟩
theorem Rx.keep{Q:Nat→Prop}{H H':AH}{vs:List Value}{t:RT}(h:Rx Q H vs t)(k:Keep H H'):Rx Q H' vs t:=h.agr (k.agr Q) fun _ _ h=>h
theorem Rx.len{Q:Nat→Prop}{H:AH}{vs:List Value}{t:RT}(h:Rx Q H vs t):vs.length=6:=by cases h;rfl
theorem Sl.one1{H:AH}{v:Value}{xs:List Nat}(h:Sl H v xs):one v=true:=by cases h<;>rfl
theorem Rxs.one1{Q:Nat→Prop}{H:AH}{v:Value}{l:List RT}(h:Rxs Q H v l):one v=true:=by cases h<;>rfl
theorem Rx.ones{Q:Nat→Prop}{H:AH}{vs:List Value}{t:RT}(h:Rx Q H vs t):vs.all one=true:=by cases h with|mk h1 h2 h3=>simp only[List.all_cons,List.all_nil,h1.1.one1,h2.1.one1,h3.one1,Bool.and_true];rfl
theorem aE:Jm Tryz.prog 68=some true:=by kernel_rfl
theorem sE:Qr Tryz.prog 68=some 6:=by kernel_rfl
theorem aNum:Jm Tryz.prog 37=some false:=by kernel_rfl
theorem zE:Uu Tryz.prog 68=some (.agg #[.int .i64 0,.bool false,.slice none 0 0,.slice none 0 0,.bool false,.slice none 0 0]):=by kernel_rfl
theorem uEs:Tryz.prog.underlying 66=some (.slice 68):=by kernel_rfl
theorem sEs:Ur Tryz.prog 66=some (68,6,96):=by kernel_rfl
theorem Rxs.len{Q:Nat→Prop}{H:AH}{v:Value}{args:List RT}(h:Rxs Q H v args):lenV Tryz.prog 66 v=some args.length:=by unfold lenV;rw[uEs];cases h<;>rfl
theorem load_e{H:AH}{b o:Nat}{cs vs:List Value}(h:H.cells b=some cs)(hk:(cs.drop o).take 6=vs)(hl:vs.length=6):Yn Tryz.prog H 68 (.pointer (some ⟨b,o,none⟩))=some (.agg vs.toArray):=by
 unfold Yn;simp only[aE,sE,AH.read_def,h];have:o+6≤cs.length:=by have:=congrArg List.length hk;rw[List.length_take,List.length_drop,hl]at this;omega
 rw[Nat.ble_eq.mpr this,cond_true,hk]
theorem Rxs.at{Q:Nat→Prop}{H:AH}{v:Value}{args:List RT}(h:Rxs Q H v args){i:Nat}{t:RT}(hi:args[i]?=some t): ∃(p:Value) (vs:List Value),Yt Tryz.prog 66 v (.int .i64 (i:Int))=some p∧(∀H',Keep H H'→Yn Tryz.prog H' 68 p=some (.agg vs.toArray))∧Rx Q H vs t:=by
 have hlt:i<args.length:=by
  rcases Nat.lt_or_ge i args.length with h'|h';·exact h'
  ·rw[List.getElem?_eq_none h']at hi;cases hi
 cases h with
  |nil=>simp at hi
  |mk b cap hq hb hc hl hf=>
   rename_i cs;have hE:=hf i t hi;have hc':H.cells b=some cs:=by unfold AH.cells;rw[hc]
   refine⟨.pointer (some ⟨b,i*6,none⟩),_,?_,fun H' k=>load_e ((Ke k hb).trans hc') rfl hE.len,hE⟩;unfold Yt;simp only[uEs,sE];rw[if_pos (by omega)];simp
theorem feN(b o:Nat):Yz Tryz.prog 42 (.pointer (some ⟨b,o,none⟩)) 1=some (.pointer (some ⟨b,o+1,none⟩)):=by kernel_rfl
theorem feD(b o:Nat):Yz Tryz.prog 42 (.pointer (some ⟨b,o,none⟩)) 2=some (.pointer (some ⟨b,o+2,none⟩)):=by kernel_rfl
theorem Sl.shape{H:AH}{v:Value}{xs:List Nat}(h:Sl H v xs): ∃a l c,v= .slice a l c:=by cases h<;>exact⟨_,_,_,rfl⟩
theorem Own.shape{n:Nat}{H:AH}{v:Value}{xs:List Nat}(h:Own n H v xs): ∃a l c,v= .slice a l c:=h.sl.shape
theorem zR:Uu Tryz.prog 42=some (.agg #[.bool false,.slice none 0 0,.slice none 0 0]):=by kernel_rfl
theorem sR:Qr Tryz.prog 42=some 3:=by kernel_rfl
theorem aR:Jm Tryz.prog 42=some true:=by kernel_rfl
theorem load_r{H:AH}{b o:Nat}{cs vs:List Value}(h:H.cells b=some cs)(hk:(cs.drop o).take 3=vs)(hl:vs.length=3):Yn Tryz.prog H 42 (.pointer (some ⟨b,o,none⟩))=some (.agg vs.toArray):=by
 unfold Yn;simp only[aR,sR,AH.read_def,h];have:o+3≤cs.length:=by have:=congrArg List.length hk;rw[List.length_take,List.length_drop,hl]at this;omega
 rw[Nat.ble_eq.mpr this,cond_true,hk]
theorem Ee{H:AH}{sz:Nat}{cs ws:List Value}{t:TypeId}{n b o:Nat}(ht:Qr Tryz.prog t=some n)(hb:H.blk b= .rw sz cs){v:Value}(hv:v.cells.toList=ws)(hw:ws.length=n)(ho:o+n≤cs.length)(h1:ws.all one=true)(hz0:sz≠0:=by decide): ∃H',Xp Tryz.prog H t (.pointer (some ⟨b,o,none⟩)) v=some H'∧H'.blk b= .rw sz (cs.take o++ws++cs.drop (o+n))∧H'.n=H.n∧(∀j,j≠b→H'.blk j=H.blk j)∧KAt b H H'∧H'.lw=min H.lw b:=by
 obtain⟨sz,rfl⟩: ∃k,sz=k+1:=⟨sz-1,by omega⟩;have hs:v.cells.size=n:=by rw[←hw,←hv];simp
 have hle:Nat.ble (o+n) cs.length=true:=Nat.ble_eq.mpr ho;refine⟨{ n:=H.n,lw:=min H.lw b,t:=H.t.set b (.rw (sz+1) (cs.take o++ws++cs.drop (o+n))) },?_,?_,rfl,fun j hj=>?_,fun H0 k hn=>⟨k.n,?_,fun j hj=>?_⟩,rfl⟩;·unfold Xp;simp only[ht,hs,hv];rw[show Nat.beq n n=true from by simp,cond_true,AH.write_def,hb];simp only[hw,hle,h1,Bool.and_self,cond_true]
 ·unfold AH.blk;simp only[Tr.get_set,if_true]
 ·unfold AH.blk;simp only[Tr.get_set];rw[if_neg hj]
 ·have:=k.lw;show min H0.lw H0.n≤min H.lw b;omega
 ·unfold AH.blk;simp only[Tr.get_set];rw[if_neg (by omega)];exact k.blk j hj
section
attribute [-simp] Int.natCast_add Int.natCast_mul Int.natCast_ediv Int.natCast_emod Int.natCast_pow
attribute [local simp] strip Yd LW' LR gW Yf Xh Ya Xi Yo Xj Zr Zs Zh Yp Yy Yk Xo Zw Yq Zi Ze Xn Xm Je Ye Xa opd Qe Ym plain Yj Tr.get_set Qc Zp Xy Yc sameKind undef Zt Yr Yv Zk Yb parts unV DW Xq Zv LX Zy
section
variable {H : AH} {va vb vm : Value}
theorem Zp3(x:Nat)(hx:x<B64): ∃v H',Zq Tryz.prog Zo 62 [.int .i64 (x:Int)] H=some (v,H')∧Keep H H'∧Own H.n H' v (ds b32 x)∧(ds b32 x).length≤2*Lim:=by
 obtain⟨v1,H1,c1,k1,o1⟩:=Zb4 H Jf x;obtain⟨v2,H2,c2,k2,o2,l2⟩:=of_call o1.sl (dig1 hx) (show 1≤2000000000000 by decide);rw[dv1]at o2 l2;suffices hs:CW Tryz.prog Zo 62 [.int .i64 (x:Int)] H fun v H'=>v=v2∧H'=H2 by obtain⟨_,_,hc,rfl,rfl⟩:=hs;exact⟨_,_,hc,k1.trans k2,o2.mono k1.n (.refl _),l2⟩
 refine Zl 7 (by decide) (by decide) Tryz.func62 rfl rfl ?_;apply Zb;intro b1 hb1;apply Za;simp;subst hb1;apply Zb;intro b1 hb1;apply Za;simp[Ze0 hx,c1,c2];subst hb1;apply Zn;simp
def OwnR(n:Nat)(H:AH)(us:List Value)(r:Bool×Nat×Nat):Prop:= ∃a b,us=[.bool r.1,a,b]∧Own n H a (ds b32 r.2.1)∧Own n H b (ds b32 r.2.2)
end
end
theorem neqZZ{x y:Int} :Zd .neq .i64 x y=some (.bool (decide (x≠y))):=by
 show some (Value.bool (x !=y))=_;congr 2;by_cases h:x=y;·subst h;simp
 ·rw[decide_eq_true h];simp[bne];omega
section
attribute [-simp] Int.natCast_add Int.natCast_mul Int.natCast_ediv Int.natCast_emod Int.natCast_pow
attribute [local simp] strip Yd LW' LR gW Yf Xh Ya Xi Yo Xj Zr Zs Zh Yp Yy Yk Xo Zw Yq Zi Ze Xn Xm Je Ye Xa opd Qe Ym plain Yj Tr.get_set Qc Zp Xy Yc sameKind undef Zt Yr Yv Zk Yb parts unV DW Xq Zv LX Zy
section
variable {Q : Nat → Prop}
end
section
variable {Q : Nat → Prop}
section
variable {H : AH} {vs : List Value} {t : RT}
end
end
end
theorem kill_ka{n0 b:Nat}{H:AH}{sz:Nat}{cs:List Value}(h:n0≤b):KAt n0 H ((H.kill b).new sz cs):=fun H0 k hn0=>by
 have:=k.n;have eH:(H.kill b).n=H.n:=rfl;refine⟨by show H0.n≤H.n+1;omega,?_,fun j hj=>?_⟩;·have:=k.lw;show min H0.lw H0.n≤min H.lw b;omega
 ·rw[AH.blk_new,if_neg (by rw[eH];omega),AH.blk_kill,if_neg (by omega)];exact k.blk j hj
theorem Cl{n0:Nat}{H H2:AH}(h:KAt n0 H.top H2):KAt n0 H (low H H2):=low_ka h
theorem Za4{x y:Int} :Zd .eql .i64 x y=some (.bool (decide (x=y))):=by show some (Value.bool (x==y))=_;rfl
def OwnE(nh:Nat)(H:AH)(xv:Value)(l:List RT):Prop:=(xv= .slice none 0 0∧l=[])∨ ∃b cs,xv= .slice (some ⟨b,0,none⟩) l.length l.length∧nh≤b∧b<H.n∧H.blk b= .rw 6 cs∧cs.length=l.length*6∧ ∀(j:Nat)(u:RT),l[j]?=some u→Rx (fun j=>nh≤j∧j≠b) H ((cs.drop (j*6)).take 6) u
theorem OwnE.one1{nh:Nat}{H:AH}{xv:Value}{l:List RT}(h:OwnE nh H xv l):one xv=true∧xv.cells.toList=[xv]:=by rcases h with⟨rfl,_⟩|⟨b,cs,rfl,_⟩<;>exact⟨rfl,rfl⟩
theorem OwnE.append{nh:Nat}{H:AH}{xv:Value}{l:List RT}(h:OwnE nh H xv l)(hn:nh≤H.n){w:Nat}(hw:nh≤w)(hwn:w<H.n){us:List Value}{x:RT}(hb:H.blk w= .rw 6 us)(hx:Rx (fun j=>nh≤j) H us x)(hl:l.length<1000000000)(hxb: ∀b,Xt xv=some b→Rx (fun j=>nh≤j∧j≠b) H us x∧b≠w): ∃H',Vb Tryz.prog H 66 66 xv (.slice (some ⟨w,0,none⟩) 1 1)=some (.slice (some ⟨H.n,0,none⟩) (l.length+1) (l.length+1),H')∧H'.n=H.n+1∧KAt nh H H'∧(∀j,j<H.n→Xt xv≠some j→H'.blk j=H.blk j)∧OwnE nh H' (.slice (some ⟨H.n,0,none⟩) (l.length+1) (l.length+1)) (l++[x])∧(Xt xv=none→H'.lw=H.lw)∧(∀b,Xt xv=some b→H'.lw≤b∧b<H.n):=by
 have hul:=hx.len;have huo:=hx.ones;have hc:H.read w 0 6=some us:=by
  rw[AH.read_def];have:H.cells w=some us:=by unfold AH.cells;rw[hb]
  simp only[this,Nat.zero_add];rw[Nat.ble_eq.mpr (by omega),cond_true,List.drop_zero,List.take_of_length_le (by omega)]
 rcases h with⟨rfl,rfl⟩|⟨b,cs,rfl,hb1,hb2,hb3,hb4,hb5⟩
 ·refine⟨H.new 6 us,?_,rfl,(Keep.new H 6 us).kat nh,fun j hj _=>?_,.inr ⟨H.n,us,rfl,hn,Nat.lt_succ_self _,by rw[AH.blk_new,if_pos rfl],by simp[hul],fun j u hu=>?_⟩,fun _=>rfl,fun b hb=>by cases hb⟩;·unfold Vb;simp only[sEs,zE,Jy,hc];rfl
  ·rw[AH.blk_new,if_neg (by omega)]
  ·match j,hu with|0,hu=>cases hu;rw[Nat.zero_mul,List.drop_zero,List.take_of_length_le (by omega)];exact hx.agr ⟨Nat.le_succ _,fun j _ hj=>by rw[AH.blk_new,if_neg (by omega)]⟩ fun j hj hq=>⟨hq,by omega⟩
 ·obtain⟨hxq,hbw⟩:=hxb b rfl;have eH:(H.kill b).n=H.n:=rfl;have e1:Nat.ble ((l.length+1)*96) 140737488355328=true:=Nat.ble_eq.mpr (by omega);have e2:Nat.ble (l.length+1) 281474976710656=true:=Nat.ble_eq.mpr (by omega);have e3:Nat.ble (0+l.length*6) cs.length=true:=Nat.ble_eq.mpr (by omega);have oth: ∀j,j<H.n→j≠b→((H.kill b).new 6 (cs++us)).blk j=H.blk j:=fun j hj hjb=>by rw[AH.blk_new,if_neg (by rw[eH];omega),AH.blk_kill,if_neg hjb]
  refine⟨(H.kill b).new 6 (cs++us),?_,rfl,kill_ka hb1,fun j hj hjb=>oth j hj (fun e=>hjb (by rw[e];rfl)),.inr ⟨H.n,cs++us,by simp,hn,Nat.lt_succ_self _,by rw[AH.blk_new,if_pos eH.symm],by simp[hul,hb4];omega,fun j u hu=>?_⟩,(fun h=>by cases h),(fun b' hb'=>by cases hb';exact⟨Nat.min_le_right _ _,hb2⟩)⟩;·unfold Vb;simp only[sEs,zE,Jy,hc,hb3,e1,e2,e3,huo];rw[List.drop_zero,List.take_of_length_le (by omega)];rfl
  ·rw[List.getElem?_append]at hu;split at hu
   ·rename_i hj;have:((cs++us).drop (j*6)).take 6=(cs.drop (j*6)).take 6:=by rw[List.drop_append_of_le_length (by omega),List.take_append_of_le_length (by rw[List.length_drop];omega)]
    rw[this];exact(hb5 j u hu).agr ⟨Nat.le_succ _,fun i hi hin=>oth i hin hi.2⟩ fun i hin hi=>⟨hi.1,by omega⟩
   ·rename_i hj;obtain rfl:j=l.length:=by have:=List.getElem?_eq_some_iff.mp hu;obtain⟨h,_⟩:=this;simp at h;omega
    simp at hu;subst hu;have:((cs++us).drop (l.length*6)).take 6=us:=by rw[←hb4,List.drop_left,List.take_of_length_le (by omega)]
    rw[this];exact hxq.agr ⟨Nat.le_succ _,fun i hi hin=>oth i hin hi.2⟩ fun i hin hi=>⟨hi.1,by omega⟩
theorem OwnE.agr{nh:Nat}{H H':AH}{xv:Value}{l:List RT}(h:OwnE nh H xv l)(hn:H.n≤H'.n)(k: ∀j,nh≤j→j<H.n→H'.blk j=H.blk j):OwnE nh H' xv l:=by
 rcases h with h|⟨b,cs,h1,h2,h3,h4,h5,h6⟩;·exact .inl h
 ·exact .inr ⟨b,cs,h1,h2,by omega,by rw[k b h2 h3];exact h4,h5,fun j u hu=>(h6 j u hu).agr ⟨hn,fun i hi hin=>k i hi.1 hin⟩ fun _ _ h=>h⟩
theorem OwnE.blk{nh:Nat}{H:AH}{xv:Value}{l:List RT}(h:OwnE nh H xv l){b:Nat}(hb:Xt xv=some b):nh≤b∧b<H.n:=by
 rcases h with⟨rfl,_⟩|⟨b',cs,rfl,h2,h3,_⟩;·cases hb
 ·cases hb;exact⟨h2,h3⟩
section
attribute [-simp] Int.natCast_add Int.natCast_mul Int.natCast_ediv Int.natCast_emod Int.natCast_pow
attribute [local simp] strip Yd LW' LR gW Yf Xh Ya Xi Yo Xj Zr Zs Zh Yp Yy Yk Xo Zw Yq Zi Ze Xn Xm Je Ye Xa opd Qe Ym plain Yj Tr.get_set Qc Zp Xy Yc sameKind undef Zt Yr Yv Zk Yb parts unV DW Xq Zv LX Zy
end
theorem Zl1{H:AH}{va vb:Value}{xs ys:List Nat}(ha:Sl H va xs)(hb:Sl H vb ys)(dx:Dig B64 xs)(dy:Dig B64 ys)(lx:xs.length≤Lim)(ly:ys.length≤Lim): ∃v1 v2 H1 H2,Zq Tryz.prog Zo 120 [va] H=some (v1,H1)∧Zq Tryz.prog Zo 120 [vb] H1=some (v2,H2)∧Keep H H2∧Own H.n H2 v1 (ds B64 (dv B64 xs))∧Own H.n H2 v2 (ds B64 (dv B64 ys))∧Ka v1 v2:=by obtain⟨v1,H1,h1,k1,o1⟩:=Uw ha (Nat.le_trans lx (by decide));obtain⟨v2,H2,h2,k2,o2⟩:=Uw (hb.keep k1) (Nat.le_trans ly (by decide));rw[Ji Zz dx]at o1;rw[Ji Zz dy]at o2;exact⟨v1,v2,H1,H2,h1,h2,k1.trans k2,o1.mono (Nat.le_refl _) k2,o2.mono k1.n (.refl _),Fj o1 o2 (Nat.le_refl _)⟩
theorem Zb7{n0:Nat}{H:AH}{va vb:Value}{A B:Nat}(ha:Own n0 H va (ds B64 A))(hb:Sl H vb (ds B64 B))(hn0:n0≤H.n)(lA:(ds B64 A).length≤Lim)(lB:(ds B64 B).length≤Lim)(hB:0<B): ∃q r H',Zq Tryz.prog Zo 193 [va,vb] H=some (.tuple #[q,r],H')∧Keep H H'∧Own H.n H' q (ds B64 (A/B))∧Own n0 H' r (ds B64 (A%B))∧Ka q r:=by obtain⟨v,H',hc,k,q,r,e,o1,o2,ap⟩:=divide_spec ha hb hn0 (Xv Zz A) (Xv Zz B) (ds_trim Zz A) (ds_trim Zz B) (Nat.le_trans lA (by decide)) (Nat.le_trans lB (by decide)) ((Kf Zz).mpr hB);subst e;rw[Qk Zz,Qk Zz]at o1 o2;exact⟨q,r,H',hc,k,o1,o2,ap⟩
theorem Jr{H:AH}{v:Value}{A:Nat}(h:Sl H v (ds B64 A))(lA:(ds B64 A).length≤Lim):Zq Tryz.prog Zo 123 [v] H=some (.int .i64 (Zf A:Int),H):=by obtain⟨_,_,hc,rfl,rfl⟩:=Uk h (Xv Zz A) (Nat.le_trans lA (by decide));rw[Qk Zz]at hc;exact hc
theorem gtrMax{x:Nat} :Zd .gtr .i64 (x:Int) 67108864=some (.bool (decide (67108864<x))):=Kc (y:=67108864)
section
attribute [-simp] Int.natCast_add Int.natCast_mul Int.natCast_ediv Int.natCast_emod Int.natCast_pow
attribute [local simp] strip Yd LW' LR gW Yf Xh Ya Xi Yo Xj Zr Zs Zh Yp Yy Yk Yq Zi Xa Ze opd Qe Ym plain Yj Tr.get_set Qc Zp Xy Yc sameKind undef Zt Yr Yv Zk Jg Jf Yb parts Jc unV DW Xq Zv LX Zy
section
variable {H : AH} {va vb : Value} {xs ys : List Nat}
def BothIs(n0:Nat)(A B:Nat)(v:Value)(H':AH):Prop:=(B=0∧v= .tuple #[.slice none 0 0,.slice none 0 0,.int .i64 30])∨(0<B∧(67108864<Zf (A/B)∨67108864<Zf (A%B))∧v= .tuple #[.slice none 0 0,.slice none 0 0,.int .i64 3])∨(0<B∧Zf (A/B)≤67108864∧Zf (A%B)≤67108864∧ ∃q r,v= .tuple #[q,r,.int .i64 0]∧Own n0 H' q (ds B64 (A/B))∧Own n0 H' r (ds B64 (A%B))∧Ka q r)
theorem both_spec(ha:Sl H va xs)(hb:Sl H vb ys)(dx:Dig B64 xs)(dy:Dig B64 ys)(lx:xs.length≤Lim)(ly:ys.length≤Lim):CW Tryz.prog Zo 200 [va,vb] H fun v H'=>Keep H H'∧BothIs H.n (dv B64 xs) (dv B64 ys) v H':=by
 refine Zl 32 (by decide) (by decide) Tryz.func200 rfl rfl ?_;obtain⟨v1,v2,H1,H2,c1,c2,k2,o1,o2,ap⟩:=Zl1 ha hb dx dy lx ly;have lA:=Nat.le_trans (Ub dx) lx;have lB:=Nat.le_trans (Ub dy) ly;generalize dv B64 xs=A at*;generalize dv B64 ys=B at*;have l2:=o2.sl.len Zk;apply Zb;intro b1 hb1;apply Za;simp;subst hb1;apply Zb;intro b1 hb1;apply Za;simp[c1,c2];subst hb1;apply Zb;intro b1 hb1;apply Zb;intro b2 hb2;apply Za;simp[l2,Vz,Uh Zz];subst hb2;by_cases hB:B=0;·refine Zc (t:=true) (by simp[hB]) ?_;apply Zb;intro b2 hb2;apply Za;simp;subst hb2;apply Zn;simp[Xw];exact⟨k2,.inl ⟨hB,rfl⟩⟩
 ·refine Zc (t:=false) (by simp[hB]) ?_;apply Zj;subst hb1;have hB0:0<B:=by omega
  obtain⟨q,r,H3,c3,k3,oq,orr,apq⟩:=Zb7 o1 o2.sl k2.n lA lB hB0;have lq:(ds B64 (A/B)).length≤Lim:=Nat.le_trans (Gi Zz (Nat.div_le_self A B)) lA;have lr:(ds B64 (A%B)).length≤Lim:=Nat.le_trans (Gi Zz (Nat.mod_le A B)) lA;have c4:=Jr oq.sl lq;have c5:=Jr orr.sl lr;apply Zb;intro b1 hb1;apply Za;simp[c3];subst hb1;apply Zb;intro b1 hb1;apply Zb;intro b2 hb2;apply Za;by_cases h1:67108864<Zf (A/B);·simp[c4,gtrMax,h1];subst hb2;refine Zc (t:=true) (by simp) ?_;apply Zb;intro b2 hb2;apply Za;simp;subst hb2;apply Zn;simp[Xw];exact⟨k2.trans k3,.inr (.inl ⟨hB0,.inl h1,rfl⟩)⟩
  ·by_cases h2:67108864<Zf (A%B);·simp[c4,c5,gtrMax,h1,h2];subst hb2;refine Zc (t:=true) (by simp) ?_;apply Zb;intro b2 hb2;apply Za;simp;subst hb2;apply Zn;simp[Xw];exact⟨k2.trans k3,.inr (.inl ⟨hB0,.inr h2,rfl⟩)⟩
   ·simp[c4,c5,gtrMax,h1,h2];subst hb2;refine Zc (t:=false) (by simp) ?_;apply Zj;subst hb1;apply Zb;intro b2 hb2;apply Za;simp;subst hb2;apply Zn;simp;exact⟨k2.trans k3,.inr (.inr ⟨hB0,by omega,by omega,q,r,rfl,oq.mono k2.n (.refl _),orr,apq⟩)⟩
def OneIs(n0:Nat)(B Z:Nat)(v:Value)(H':AH):Prop:=(B=0∧v= .tuple #[.slice none 0 0,.int .i64 30])∨(0<B∧67108864<Zf Z∧v= .tuple #[.slice none 0 0,.int .i64 3])∨(0<B∧Zf Z≤67108864∧ ∃q,v= .tuple #[q,.int .i64 0]∧Own n0 H' q (ds B64 Z))
theorem quo_spec(ha:Sl H va xs)(hb:Sl H vb ys)(dx:Dig B64 xs)(dy:Dig B64 ys)(lx:xs.length≤Lim)(ly:ys.length≤Lim):CW Tryz.prog Zo 141 [va,vb] H fun v H'=>Keep H H'∧OneIs H.n (dv B64 ys) (dv B64 xs/dv B64 ys) v H':=by
 refine Zl 25 (by decide) (by decide) Tryz.func141 rfl rfl ?_;obtain⟨v1,v2,H1,H2,c1,c2,k2,o1,o2,ap⟩:=Zl1 ha hb dx dy lx ly;have lA:=Nat.le_trans (Ub dx) lx;have lB:=Nat.le_trans (Ub dy) ly;generalize dv B64 xs=A at*;generalize dv B64 ys=B at*;have l2:=o2.sl.len Zk;apply Zb;intro b1 hb1;apply Za;simp;subst hb1;apply Zb;intro b1 hb1;apply Za;simp[c1,c2];subst hb1;apply Zb;intro b1 hb1;apply Zb;intro b2 hb2;apply Za;simp[l2,Vz,Uh Zz];subst hb2;by_cases hB:B=0;·refine Zc (t:=true) (by simp[hB]) ?_;apply Zb;intro b2 hb2;apply Za;simp;subst hb2;apply Zn;simp[Xw];exact⟨k2,.inl ⟨hB,rfl⟩⟩
 ·refine Zc (t:=false) (by simp[hB]) ?_;apply Zj;subst hb1;have hB0:0<B:=by omega
  obtain⟨q,r,H3,c3,k3,oq,orr,apq⟩:=Zb7 o1 o2.sl k2.n lA lB hB0;have lq:(ds B64 (A/B)).length≤Lim:=Nat.le_trans (Gi Zz (Nat.div_le_self A B)) lA;have c4:=Jr oq.sl lq;apply Zb;intro b1 hb1;apply Za;simp[c3];subst hb1;apply Zb;intro b1 hb1;apply Zb;intro b2 hb2;apply Za;simp[c4,gtrMax];subst hb2;by_cases h1:67108864<Zf (A/B);·refine Zc (t:=true) (by simp[h1]) ?_;apply Zb;intro b2 hb2;apply Za;simp;subst hb2;apply Zn;simp[Xw];exact⟨k2.trans k3,.inr (.inl ⟨hB0,h1,rfl⟩)⟩
  ·refine Zc (t:=false) (by simp[h1]) ?_;apply Zj;subst hb1;apply Zb;intro b2 hb2;apply Za;simp;subst hb2;apply Zn;simp;exact⟨k2.trans k3,.inr (.inr ⟨hB0,by omega,q,rfl,oq.mono k2.n (.refl _)⟩)⟩
theorem gcd_spec(ha:Sl H va xs)(hb:Sl H vb ys)(dx:Dig B64 xs)(dy:Dig B64 ys)(lx:xs.length≤Lim)(ly:ys.length≤Lim):CW Tryz.prog Zo 139 [va,vb] H fun v H'=>Keep H H'∧Own H.n H' v (ds B64 (Nat.gcd (dv B64 xs) (dv B64 ys))):=by
 refine Zl 23 (by decide) (by decide) Tryz.func139 rfl rfl ?_;obtain⟨v1,v2,H1,H2,c1,c2,k2,o1,o2,ap⟩:=Zl1 ha hb dx dy lx ly;have lA:=Nat.le_trans (Ub dx) lx;have lB:=Nat.le_trans (Ub dy) ly;generalize dv B64 xs=A at*;generalize dv B64 ys=B at*;apply Zb;intro b1 hb1;apply Za;simp;subst hb1;apply Zb;intro b1 hb1;apply Za;simp[c1,c2];subst hb1;apply Zb;intro b1 hb1;apply Zx;refine Qg (fun m s'=>s'.k=23∧Keep H s'.H∧ ∃(a:Nat) (av bv:Value),Nat.gcd a m=Nat.gcd A B∧(ds B64 a).length≤Lim∧(ds B64 m).length≤Lim∧Own H.n s'.H av (ds B64 a)∧Own H.n s'.H bv (ds B64 m)∧s'.tm.get 0=some av∧s'.tm.get 1=some bv) ?_ B _ ⟨rfl,k2,A,v1,v2,rfl,lA,lB,o1,o2,by simp,by simp⟩;rintro m ⟨k,tm,H3⟩ ⟨hk,k3,a,av,bv,hg,la,lm,oa,ob,t0,t1⟩ Q' hQ';simp only at hk k3 oa ob t0 t1;subst hk;have lb:=ob.sl.len Zk;apply Zb;intro b3 hb3;apply Zb;intro b4 hb4;apply Za;simp[t1,lb,gtr0,Kf Zz];subst hb4;by_cases hm:0<m;·refine Zc (t:=true) (by simp[hm]) ?_;apply Zj;subst hb3;obtain⟨q,r,H4,c4,k4,oq,orr,apq⟩:=Zb7 oa ob.sl k3.n la lm hm;apply Zx;apply Zb;intro b3 hb3;apply Za;simp[t0,t1,c4];subst hb3;apply Za;simp[t1];apply hQ';refine⟨a%m,Nat.mod_lt _ hm,rfl,k3.trans k4,m,bv,r,?_,lm,Nat.le_trans (Gi Zz (Nat.mod_le a m)) la,ob.mono (Nat.le_refl _) k4,orr,by simp,by simp⟩;show Nat.gcd m (a%m)=_;rw[←hg,Nat.gcd_comm a m,Nat.gcd_rec m a,Nat.gcd_comm]
 ·refine Zc (t:=false) (by simp[hm]) ?_;apply Qf;apply hQ';left;refine⟨rfl,?_⟩;obtain rfl:m=0:=by omega
  rw[Nat.gcd_zero_right]at hg;subst hb1;apply Zb;intro b4 hb4;apply Za;simp[t0];subst hb4;apply Zn;simp;rw[←hg];exact⟨k3,oa⟩
end
end
theorem Sl.part'{H:AH}{v:Value}{xs:List Nat}(h:Sl H v xs){t:TypeId}(ht:LT t){j m:Nat}(hm:j+m≤xs.length)(h0:j<xs.length): ∃w,Us Tryz.prog H t v (some (.int .i64 (j:Int))) (some (.int .i64 ((j+m:Nat):Int))) none=some w∧Sl H w ((xs.drop j).take m)∧Xt w=Xt v:=by cases h with
 |nil=>simp at h0
 |emp b=>simp at h0
 |mk b o cap xs h1 h2=>
  have hl:((xs.drop j).take m).length=m:=by rw[List.length_take,List.length_drop];omega
  obtain⟨h2a,cs,h3,h4,h5⟩:=h2;refine⟨.slice (some ⟨b,o+j,none⟩) ((xs.drop j).take m).length (cap-j),?_,.mk b (o+j) (cap-j) _ (by omega) ⟨h2a,cs,h3,h4,fun i x hx=>?_,by have:=(List.getElem?_eq_some_iff.mp (h5.1 j _ (List.getElem?_eq_getElem h0))).1;omega⟩,rfl⟩
  ·unfold Us;simp only[ht.1,sU64];unfold cutV Qq;simp only[h4,Option.isSome_some,Option.isNone_none,Bool.true_or];rw[if_pos (by omega)];have e1:Nat.ble (j+m) cap=true:=Nat.ble_eq.mpr (by omega);have e2:Nat.blt j cap=true:=by rw[Nat.blt_eq];omega
   simp only[Qq,Int.toNat_natCast];rw[if_pos (by omega)];simp[e1,e2,hl]
  ·rw[List.getElem?_take]at hx;split at hx;·rw[List.getElem?_drop]at hx;have:=h5.1 (j+i) x hx;rwa[←Nat.add_assoc]at this
   ·cases hx
section
attribute [-simp] Int.natCast_add Int.natCast_mul Int.natCast_ediv Int.natCast_emod Int.natCast_pow
attribute [local simp] strip Yd LW' LR gW Yf Xh Ya Xi Yo Xj Zr Zs Zh Yp Yy Yk Yq Zi Xa Ze opd Qe Ym plain Yj Tr.get_set Qc Zp Xy Yc sameKind undef Zt Yr Yv Zk Jg Jf Yb parts Jc unV DW Xq Zv LX Zy
end
theorem dv_set(B:Nat): ∀(xs:List Nat)(i y:Nat)(h:i<xs.length),dv B (xs.set i y)+B^i*xs[i]=dv B xs+B^i*y
 |x::xs,0,y,_=>by simp[dv];omega
 |x::xs,i+1,y,h=>by
  have h':i<xs.length:=by simpa using h
  have ih:=dv_set B xs i y h';simp only[List.set_cons_succ,dv,List.getElem_cons_succ,Nat.pow_succ];have e:B*(dv B (xs.set i y)+B^i*xs[i])=B*(dv B xs+B^i*y):=by rw[ih]
  rw[Nat.mul_add,Nat.mul_add]at e;rw[Nat.mul_comm (B^i) B,Nat.mul_assoc,Nat.mul_assoc];omega
theorem Dig.set{B:Nat}{xs:List Nat}(h:Dig B xs){i y:Nat}(hy:y<B):Dig B (xs.set i y):=fun x hx=>by
 rcases List.mem_or_eq_of_mem_set hx with h'|h';·exact h x h'
 ·rw[h'];exact hy
theorem dv_zero_of{B:Nat} : ∀{xs:List Nat},(∀x∈xs,x=0)→dv B xs=0|[],_=>rfl|x::xs,h=>by simp only[dv];rw[h x (List.mem_cons_self ..),dv_zero_of fun y hy=>h y (List.mem_cons_of_mem _ hy)];simp
theorem nth_set{xs:List Nat}{i j y:Nat}(h:i≠j):nth (xs.set i y) j=nth xs j:=by unfold nth;rw[List.getElem?_set,if_neg h]
theorem Sl.partAny{H:AH}{v:Value}{xs:List Nat}(h:Sl H v xs){t:TypeId}(ht:LT t){f m:Nat}(hm:f+m≤xs.length)(h0:0<xs.length): ∃w,Us Tryz.prog H t v (some (.int .i64 (f:Int))) (some (.int .i64 ((f+m:Nat):Int))) none=some w∧Sl H w ((xs.drop f).take m):=by
 by_cases hf:f<xs.length;·obtain⟨w,h1,h2,_⟩:=h.part' ht hm hf;exact⟨w,h1,h2⟩
 ·have hfe:f=xs.length:=by omega
  have hm0:m=0:=by omega
  subst hm0;rw[List.take_zero];cases h with
   |nil=>simp at h0
   |emp b=>simp at h0
   |mk b o cap xs h1 h2=>
    obtain⟨h2a,cs,h3,h4,h5⟩:=h2;by_cases hc:f<cap
    ·refine⟨.slice (some ⟨b,o+f,none⟩) 0 (cap-f),?_,.mk b (o+f) (cap-f) [] (Nat.zero_le _) ⟨h2a,cs,h3,h4,fun i x hx=>by simp at hx,by have:=(list_of h0 h5.1).1;omega⟩⟩;unfold Us;simp only[ht.1,sU64];unfold cutV Qq;simp only[h4,Option.isSome_some,Option.isNone_none,Bool.true_or];rw[if_pos (by omega)];have e1:Nat.ble f cap=true:=Nat.ble_eq.mpr (by omega);have e2:Nat.blt f cap=true:=by rw[Nat.blt_eq];omega
     simp only[Qq,Int.toNat_natCast];rw[if_pos (by omega)];simp[e1,e2]
    ·refine⟨.slice (some ⟨b,0,some 0⟩) 0 0,?_,.emp b⟩;unfold Us;simp only[ht.1,sU64];unfold cutV Qq;simp only[h4,Option.isSome_some,Option.isNone_none,Bool.true_or];rw[if_pos (by omega)];have e1:Nat.ble f cap=true:=Nat.ble_eq.mpr (by omega);have e2:Nat.blt f cap=false:=by cases hb:Nat.blt f cap with|false=>rfl|true=>rw[Nat.blt_eq]at hb;omega
     have e3:Nat.beq f 0=false:=Qn (by omega);simp only[Qq,Int.toNat_natCast];rw[if_pos (by omega)];simp[e1,e2,e3]
theorem Own.copy{n:Nat}{H:AH}{v w:Value}{zs xs:List Nat}(h:Own n H v zs)(hw:Sl H w xs)(hl:xs.length≤zs.length){t t2:TypeId}(ht:LT t)(ht2:LT t2): ∃u H',copyV Tryz.prog H t t2 v w=some (u,H')∧Own n H' v (xs++zs.drop xs.length)∧But (Xt v) H H'∧KA n H H':=by
 have hc:Jy H 1 w xs.length=some (xs.map Gv):=by
  rcases Nat.eq_zero_or_pos xs.length with h0|h0;·obtain rfl:xs=[]:=List.length_eq_zero_iff.mp h0;generalize hz:([]:List Nat)=ys at hw;cases hw with|nil=>rfl|emp b=>rfl|mk b o cap xs h1 h2=>subst hz;obtain⟨_,cs,h3,h4,h5⟩:=h2;have:Nat.ble o cs.length=true:=Nat.ble_eq.mpr h5.2;simp[Jy,AH.read_def,h3,this]
  ·exact hw.cells h0
 obtain⟨a2,cap2,rfl⟩: ∃a cap,w= .slice a xs.length cap:=by cases hw<;>exact⟨_,_,rfl⟩
 cases h with
  |nil=>obtain rfl:xs=[]:=List.length_eq_zero_iff.mp (by simpa using hl);refine⟨.int .i64 0,H,?_,by simpa using Own.nil,.refl _ _,.refl _ _⟩;simp[copyV,ht.2,ht2.2]
  |mk b o cap zs cs h1 h2 h3 h4 h5 h6=>
   have hmin:Nat.min xs.length zs.length=xs.length:=Nat.min_eq_left hl;have hle:Nat.ble (o+xs.length) cs.length=true:=Nat.ble_eq.mpr (by omega);have hw2:H.write b o (xs.map Gv)=some { n:=H.n,lw:=min H.lw b,t:=H.t.set b (.rw 1 (cs.take o++xs.map Gv++cs.drop (o+xs.length))) } :=by rw[AH.write_def,h4];simp only[List.length_map,hle,one_limbs,Bool.and_self,cond_true]
   obtain⟨H',hH'⟩: ∃H':AH,H'= { n:=H.n,lw:=min H.lw b,t:=H.t.set b (.rw 1 (cs.take o++xs.map Gv++cs.drop (o+xs.length))) } :=⟨_,rfl⟩;rw[←hH']at hw2;have hblk: ∀j,H'.blk j=if j=b then .rw 1 (cs.take o++xs.map Gv++cs.drop (o+xs.length))else H.blk j:=fun j=>by
    rw[hH'];show(match(H.t.set b _).get j with|some b=>b|none=>Blk.dead)=_;rw[Tr.get_set];by_cases e:j=b;·rw[if_pos e,if_pos e]
    ·rw[if_neg e,if_neg e];rfl
   have hn:H'.n=H.n:=by rw[hH']
   refine⟨.int .i64 (Nat.min xs.length zs.length),H',?_,?_,⟨hn,fun j _ hj=>?_⟩,?_⟩;·unfold copyV;simp only[ht.2,ht2.2,hmin,hc,hw2]
   ·have hlen:(xs++zs.drop xs.length).length=zs.length:=by simp;omega
    rw[←hlen];refine .mk b o cap _ (cs.take o++xs.map Gv++cs.drop (o+xs.length)) (by omega) h2 (by rw[hn];exact h3) (by rw[hblk,if_pos rfl]) ?_ ?_;·simp only[List.length_append,List.length_take,List.length_drop,List.length_map];omega
    ·intro i x hi;rw[List.append_assoc,List.getElem?_append_right (by rw[List.length_take];omega),List.length_take,show o+i-min o cs.length=i by omega];rw[List.getElem?_append]at hi;rw[List.getElem?_append,List.length_map];by_cases hix:i<xs.length;·rw[if_pos hix]at hi⊢;rw[List.getElem?_map,hi];rfl
     ·rw[if_neg hix]at hi⊢;rw[List.getElem?_drop]at hi⊢;have:=h6 _ x hi;rw[show o+xs.length+(i-xs.length)=o+(xs.length+(i-xs.length)) by omega];exact this
   ·rw[hblk,if_neg (fun e=>hj (by rw[e];rfl))]
   ·intro H0 k hn0;have:=k.lw;refine⟨by rw[hn];exact k.n,by rw[hH'];show min H0.lw H0.n≤min H.lw b;omega,fun j hj=>?_⟩;rw[hblk,if_neg (by omega)];exact k.blk j hj
theorem min_nat(a b:Nat):Fy false [.int .i64 (a:Int),.int .i64 (b:Int)]=some (.int .i64 ((min a b:Nat):Int)):=by
 unfold Fy;simp only[sameKind];show some (Value.int .i64 (if(b:Int)<(a:Int)then(b:Int)else(a:Int)))=_;by_cases h:b<a;·rw[if_pos (by omega),Nat.min_eq_right (by omega)]
 ·rw[if_neg (by omega),Nat.min_eq_left (by omega)]
theorem max_nat(a b:Nat):Fy true [.int .i64 (a:Int),.int .i64 (b:Int)]=some (.int .i64 ((max a b:Nat):Int)):=by
 unfold Fy;simp only[sameKind];show some (Value.int .i64 (if(a:Int)<(b:Int)then(b:Int)else(a:Int)))=_;by_cases h:a<b;·rw[if_pos (by omega),Nat.max_eq_right (by omega)]
 ·rw[if_neg (by omega),Nat.max_eq_left (by omega)]
theorem Own.fillAt{n:Nat}{H:AH}{v:Value}{L zs:List Nat}{i:Nat}(h:Own n H v (L++zs.drop i))(hL:L.length=i)(hi:i<zs.length)(y:Nat): ∃H',Xp Tryz.prog H 101 (adr v i) (.int .u64 (y:Int))=some H'∧Own n H' v ((L++[y])++zs.drop (i+1))∧But (Xt v) H H'∧KA n H H':=by obtain⟨H',h1,h2,h3,h4,h5⟩:=h.put (i:=i) (by simp;omega) y;refine⟨H',h1,?_,⟨h3,fun j _ hj=>h4 j hj⟩,h5⟩;rw[List.drop_eq_getElem_cons hi,Ks _ _ _ _ hL]at h2;simpa using h2
theorem Own.loadAt{n:Nat}{H:AH}{v:Value}{L zs:List Nat}{i:Nat}(h:Own n H v (L++zs.drop i))(hL:L.length=i)(hi:i<zs.length):Yn Tryz.prog H 101 (adr v i)=some (.int .u64 (nth zs i:Int)):=by have:=h.sl.load (i:=i) (by simp;omega);rw[this,Vm hi];congr 3;rw[List.getElem_append_right (by omega)];simp[hL]
section
attribute [-simp] Int.natCast_add Int.natCast_mul Int.natCast_ediv Int.natCast_emod Int.natCast_pow
attribute [local simp] strip Yd LW' LR gW Yf Xh Ya Xi Yo Xj Zr Zs Zh Yp Yy Yk Yq Zi Xa Ze opd Qe Ym plain Yj Tr.get_set Qc Zp Xy Yc sameKind undef Zt Yr Yv Zk Jg Jf Yb parts Jc unV DW Xq Zv LX Zy
def segL(xs:List Nat)(f t:Nat):List Nat:=Xl ((xs.drop (min f xs.length)).take (min t xs.length-min f xs.length))
theorem part_spec{H:AH}{v:Value}{xs:List Nat}(hv:Sl H v xs)(h0:0<xs.length)(lx:xs.length≤17592186044416){f t:Nat}(hft:f≤t):CW Tryz.prog Zo 225 [v,.int .i64 (f:Int),.int .i64 (t:Int)] H fun v' H'=>H'=H∧Sl H v' (segL xs f t):=by
 refine Zl 32 (by decide) (by decide) Tryz.func225 rfl rfl ?_;have l1:=hv.len Zk;obtain⟨f',hf'⟩: ∃f',f'=min f xs.length:=⟨_,rfl⟩;obtain⟨t',ht'⟩: ∃t',t'=min t xs.length:=⟨_,rfl⟩;have m1:=min_nat f xs.length;have m2:=min_nat t xs.length;rw[←hf']at m1;rw[←ht']at m2;have hle:f'≤t':=by omega
 have htl:t'≤xs.length:=by omega
 unfold segL;rw[←hf',←ht'];apply Zb;intro b1 hb1;apply Za;simp;subst hb1;apply Zb;intro b1 hb1;apply Za;simp[l1,m1,m2];subst hb1;apply Zb;intro b1 hb1;apply Zx;refine Qg (fun m s=>s.k=32∧s.H=H∧f'+m≤t'∧Xl ((xs.drop f').take m)=Xl ((xs.drop f').take (t'-f'))∧s.tm.get 0=some v∧s.tm.get 1=some (.int .i64 (f':Int))∧s.tm.get 2=some (.int .i64 ((f'+m:Nat):Int))) ?_ (t'-f') _ ⟨rfl,rfl,by omega,rfl,by simp,by simp,by simp;omega⟩;rintro m ⟨k,tm,H'⟩ ⟨hk,hH,hm,ht,t0,t1,t2⟩ Q' hQ';simp only at hk hH t0 t1 t2;subst hk;subst hH;apply Zb;intro b2 hb2;apply Zb;intro b3 hb3;apply Za;have fin: ∀tm':Tr Value,tm'.get 0=some v→tm'.get 1=some (.int .i64 (f':Int))→tm'.get 2=some (.int .i64 ((f'+m:Nat):Int))→Xl ((xs.drop f').take m)=(xs.drop f').take m→Q' (.exit 0) ⟨32,tm',H'⟩:=fun tm' t0 t1 t2 he=>by apply hQ';left;refine⟨rfl,?_⟩;subst hb1;obtain⟨w,c1,c2⟩:=hv.partAny Zk (f:=f') (m:=m) (by omega) h0;apply Zb;intro b4 hb4;apply Za;simp[t0,t1,t2,c1];subst hb4;apply Zn;simp;rw[←ht,he];exact c2
 by_cases hz:m=0
 ·have g0:Zd .gtr .i64 ((f'+m:Nat):Int) (f':Int)=some (.bool false):=by rw[Kc,decide_eq_false];omega
  simp[t1,t2,g0];subst hb3;refine Zc (t:=false) (by simp) ?_;apply Qf;exact fin _ (by simp[t0]) (by simp[t1]) (by simp[t2]) (by rw[hz];rfl)
 ·have g0:Zd .gtr .i64 ((f'+m:Nat):Int) (f':Int)=some (.bool true):=by rw[Kc,decide_eq_true];omega
  have hi:f'+m-1<xs.length:=by omega
  have a1:=hv.adr Zk (k:= .i64) hi;have d1:=hv.load hi;have htake:(xs.drop f').take m=(xs.drop f').take (m-1)++[xs[f'+m-1]]:=by have:=Qx (xs:=xs.drop f') (i:=m-1) (by rw[List.length_drop];omega);rw[show m-1+1=m by omega]at this;rw[this,List.getElem_drop];congr 3;omega
  have s1:Zd .sub .i64 ((f'+m:Nat):Int) 1=some (.int .i64 ((f'+m-1:Nat):Int)):=Fb (by omega) (by omega);simp[t0,t1,t2,g0,s1,a1,d1,Vz];subst hb3;by_cases h0:xs[f'+m-1]=0;·refine Zc (t:=true) (by simp[h0]) ?_;apply Zj;subst hb2;apply Zx;apply Za;simp[t2,s1];apply hQ';refine⟨m-1,by omega,rfl,rfl,by show f'+(m-1)≤t';omega,?_,by simp[t0],by simp[t1],by simp;omega⟩;rw[←ht,htake,h0,Kn]
  ·refine Zc (t:=false) (by simp[h0]) ?_;apply Qf;exact fin _ (by simp[t0]) (by simp[t1]) (by simp[t2]) (by rw[htake];exact Ce _ _ h0)
theorem Fi{n0:Nat}{H:AH}{va vb:Value}{zs ys:List Nat}{a:Nat}(ha:Own n0 H va zs)(hb:Sl H vb ys)(ap:Ka va vb)(dz:Dig B64 zs)(dy:Dig B64 ys)(lz:zs.length≤17592186044416)(ly:ys.length≤17592186044416)(haz:a≤zs.length)(room:dv B64 zs+B64^a*dv B64 ys<B64^zs.length):CW Tryz.prog Zo 224 [va,vb,.int .i64 (a:Int)] H fun v' H'=>But (Xt va) H H'∧KA n0 H H'∧ ∃zs',zs'.length=zs.length∧Dig B64 zs'∧dv B64 zs'=dv B64 zs+B64^a*dv B64 ys∧Own n0 H' va zs':=by
 refine Zl 53 (by decide) (by decide) Tryz.func224 rfl rfl ?_;have l2:=hb.len Zk;apply Zb;intro b1 hb1;apply Za;simp;subst hb1;apply Zb;intro b1 hb1;apply Za;simp;subst hb1;apply Zx;refine Qg (fun m s=>s.k=53∧But (Xt va) H s.H∧KA n0 H s.H∧ ∃(i c:Nat) (L:List Nat),m+i=zs.length∧a≤i∧L.length=i∧c≤1∧Dig B64 L∧dv B64 L+B64^i*c=dv B64 (zs.take i)+B64^a*dv B64 (ys.take (i-a))∧Own n0 s.H va (L++zs.drop i)∧s.tm.get 0=some va∧s.tm.get 1=some vb∧s.tm.get 2=some (.int .i64 (a:Int))∧s.tm.get 6=some (.int .u64 (c:Int))∧s.tm.get 7=some (.int .i64 (i:Int))) ?_ (zs.length-a) _ ⟨rfl,.refl _ _,.refl _ _,a,0,zs.take a,by omega,Nat.le_refl _,by rw[List.length_take];omega,by omega,dz.take a,by simp[dv],by rw[List.take_append_drop];exact ha,by simp,by simp,by simp,by simp,by simp⟩;rintro m ⟨k,tm,H2⟩ ⟨hk,bt,ka,i,c,L,hmi,hai,hL,hc,dL,heq,own,t0,t1,t2,t6,t7⟩ Q' hQ';simp only at hk bt ka own t0 t1 t2 t6 t7;subst hk;have sb:=hb.but bt ap;have l1:=own.sl.len Zk;rw[show(L++zs.drop i).length=zs.length by simp;omega]at l1;have s1:Zd .sub .i64 (i:Int) (a:Int)=some (.int .i64 ((i-a:Nat):Int)):=sub_i64 (by omega) hai;apply Zb;intro b2 hb2;apply Zb;intro b3 hb3;apply Za;have on: ∀tm':Tr Value,i<zs.length→tm'.get 25=some (.bool true)→tm'.get 0=some va→tm'.get 1=some vb→tm'.get 2=some (.int .i64 (a:Int))→tm'.get 6=some (.int .u64 (c:Int))→tm'.get 7=some (.int .i64 (i:Int))→W Tryz.prog Zo b3 ⟨53,tm',H2⟩ (Xw Tryz.prog Zo b2 Q'):=fun tm' hi t25 t0 t1 t2 t6 t7=>by
  subst hb3;refine Zc (t:=true) (by simp[t25]) ?_;apply Zj;subst hb2;obtain⟨y,hy⟩: ∃y,y=nth ys (i-a):=⟨_,rfl⟩;have hyB:y<B64:=by rw[hy];exact Cy dy (by decide) _
  obtain⟨x,hx⟩: ∃x,x=nth zs i:=⟨_,rfl⟩;have hxB:x<B64:=by rw[hx];exact Cy dz (by decide) _
  have d0:=own.loadAt hL hi;rw[←hx]at d0;have a0:=own.sl.adr Zk (k:= .i64) (i:=i) (by simp;omega);obtain⟨z,hz⟩: ∃z,z=(x+y+c)%B64:=⟨_,rfl⟩;obtain⟨c',hc'⟩: ∃c',c'=(x+y+c)/B64:=⟨_,rfl⟩;have hzc:B64*c'+z=x+y+c:=by rw[hz,hc'];exact Nat.div_add_mod _ _
  have hzB:z<B64:=by rw[hz];exact Nat.mod_lt _ (by decide)
  have hc1:c'≤1:=by
   have:c'<2:=by rw[hc',Nat.div_lt_iff_lt_mul (by decide)];omega
   omega
  have ac:Zq Tryz.prog Zo 203 [.int .u64 (x:Int),.int .u64 (y:Int),.int .u64 (c:Int)] H2=some (.tuple #[.int .u64 (z:Int),.int .u64 (c':Int)],H2):=by rw[hz,hc'];exact Bu x y c H2 hc
  obtain⟨H3,st3,own3,bt3,ka3⟩:=own.fillAt hL hi z;apply Zb;intro b2 hb2;apply Zx;apply Zb;intro b3 hb3;apply Za;simp;subst hb3;refine Qz (fun s'=>s'.k=53∧s'.H=H2∧s'.tm.get 0=some va∧s'.tm.get 1=some vb∧s'.tm.get 2=some (.int .i64 (a:Int))∧s'.tm.get 6=some (.int .u64 (c:Int))∧s'.tm.get 7=some (.int .i64 (i:Int))∧s'.tm.get 8=some (.int .u64 (y:Int))) ?_ ?_
  ·intro Q'' hQ'';apply Zb;intro b3 hb3;apply Za;simp[t1,t2,t7,s1,l2];subst hb3;by_cases hb':i-a<ys.length;·refine Zc (t:=true) (by simp[hb']) ?_;have a1:=sb.adr Zk (k:= .i64) hb';have d1:=sb.load hb';rw[←Vm hb',←hy]at d1;apply Za;simp[t1,t2,t7,s1,a1,d1];apply hQ'';exact⟨rfl,rfl,by simp[t0],by simp[t1],by simp[t2],by simp[t6],by simp[t7],by simp⟩
   ·refine Zc (t:=false) (by simp[hb']) ?_;apply Zj;apply hQ'';rw[Gx (by omega)]at hy;subst hy;exact⟨rfl,rfl,by simp[t0],by simp[t1],by simp[t2],by simp[t6],by simp[t7],by simp⟩
  clear t0 t1 t2 t6 t7;rintro⟨k,tm,H4⟩ ⟨hk,hH,t0,t1,t2,t6,t7,t8⟩;simp only at hk hH t0 t1 t2 t6 t7 t8;subst hk;subst hH;apply Za;simp[t0,t6,t7,t8,a0,d0,ac,st3];subst hb2;apply Za;simp[t7,Qd (x:=i) (by omega)];apply hQ';refine⟨m-1,by omega,rfl,bt.trans bt3,ka.trans ka3,i+1,c',L++[z],by omega,by omega,by simp[hL],hc1,dL.append (.cons hzB (.nil _)),?_,own3,by simp[t0],by simp[t1],by simp[t2],by simp,by simp⟩;rw[Xc,hL,Vu,show i+1-a=(i-a)+1 by omega,Vu,←hx,←hy];simp only[dv,Nat.mul_zero,Nat.add_zero];have e1:B64^i*(B64*c'+z)=B64^i*(x+y+c):=by rw[hzc]
  rw[Nat.mul_add,←Nat.mul_assoc,show B64^i*B64=B64^(i+1)from rfl,Nat.mul_add,Nat.mul_add]at e1;have e2:B64^a*(B64^(i-a)*y)=B64^i*y:=by rw[←Nat.mul_assoc,←Nat.pow_add,show a+(i-a)=i by omega]
  rw[Nat.mul_add (B64^a),e2];omega
 have stop: ∀tm':Tr Value,(i=zs.length∨(ys.length≤i-a∧c=0))→tm'.get 25=some (.bool false)→W Tryz.prog Zo b3 ⟨53,tm',H2⟩ (Xw Tryz.prog Zo b2 Q'):=fun tm' he t25=>by
  subst hb3;refine Zc (t:=false) (by simp[t25]) ?_;apply Qf;apply hQ';left;refine⟨rfl,.inl rfl,bt,ka,L++zs.drop i,by simp;omega,dL.append (dz.drop _),?_,own⟩;have e1:=Bf B64 zs i (by omega);rw[Xc,hL];rcases he with rfl|⟨hy,rfl⟩
  ·rw[List.drop_length,List.take_length]at*;simp only[dv,Nat.mul_zero,Nat.add_zero]at*;have hys:dv B64 ys<B64^(zs.length-a):=by
    have h1:B64^a*dv B64 ys<B64^a*B64^(zs.length-a):=by rw[←Nat.pow_add,show a+(zs.length-a)=zs.length by omega];omega
    exact Nat.lt_of_mul_lt_mul_left h1
   rw[Zn7 (by decide) hys]at heq;rcases Nat.lt_or_ge c 1 with h0|h0
   ·obtain rfl:c=0:=by omega
    rw[Nat.mul_zero]at heq;omega
   ·obtain rfl:c=1:=by omega
    rw[Nat.mul_one]at heq;omega
  ·rw[List.take_of_length_le hy]at heq;rw[Nat.mul_zero]at heq;omega
 by_cases hi:i<zs.length
 ·by_cases hy:i-a<ys.length;·simp[t0,t1,t2,t6,t7,l1,l2,hi,s1,hy];show W _ _ b3 _ _;exact on _ hi (by simp) (by simp[t0]) (by simp[t1]) (by simp[t2]) (by simp[t6]) (by simp[t7])
  ·by_cases hc0:0<c;·simp[t0,t1,t2,t6,t7,l1,l2,hi,s1,hy,gtr0,hc0];show W _ _ b3 _ _;exact on _ hi (by simp) (by simp[t0]) (by simp[t1]) (by simp[t2]) (by simp[t6]) (by simp[t7])
   ·simp[t0,t1,t2,t6,t7,l1,l2,hi,s1,hy,gtr0,hc0];show W _ _ b3 _ _;exact stop _ (.inr ⟨by omega,by omega⟩) (by simp)
 ·simp[t0,t1,t2,t6,t7,l1,l2,hi];show W _ _ b3 _ _;exact stop _ (.inl (by omega)) (by simp)
def NewL(n0:Nat)(H':AH)(v:Value)(len N:Nat):Prop:= ∃zs,zs.length=len∧Dig B64 zs∧dv B64 zs=N∧Own n0 H' v zs
section
variable {H : AH} {va vb : Value} {xs ys : List Nat}
theorem Za3(xs:List Nat)(n:Nat):dv B64 (xs++List.replicate n 0)=dv B64 xs:=by rw[Xc,Dr,Nat.mul_zero,Nat.add_zero]
theorem Be{B:Nat}(hB:0<B)(n:Nat):Dig B (List.replicate n 0):=fun x hx=>by rw[List.eq_of_mem_replicate hx];exact hB
theorem sum_spec(ha:Sl H va xs)(hb:Sl H vb ys)(dx:Dig B64 xs)(dy:Dig B64 ys)(lx:xs.length≤17592186000000)(ly:ys.length≤17592186000000):CW Tryz.prog Zo 227 [va,vb] H fun v H'=>Keep H H'∧NewL H.n H' v (max xs.length ys.length+1) (dv B64 xs+dv B64 ys):=by
 refine Zl 20 (by decide) (by decide) Tryz.func227 rfl rfl ?_;have l1:=ha.len Zk;have l2:=hb.len Zk;obtain⟨n,hn⟩: ∃n,n=max xs.length ys.length:=⟨_,rfl⟩;have mx:=max_nat xs.length ys.length;rw[←hn]at mx⊢;obtain⟨c0,H1,hmk,k1,o1,n1⟩:=Qj (H:=H) Zk (n:=n+1) (by omega);obtain⟨u,H2,hcp,o2,bt2,ka2⟩:=o1.copy (ha.keep k1) (by simp;omega) Zk Zk;have k2:Keep H H2:=ka2 H k1 (Nat.le_refl _);rw[List.drop_replicate]at o2;have apc:Ka c0 vb:=fun c hc hc'=>by have a:=(o1.blk_lo hc).1;have b:=hb.blk_lt hc';omega
 have hlen:(xs++List.replicate (n+1-xs.length) 0).length=n+1:=by simp;omega
 obtain⟨w,H3,hc3,bt3,ka3,zs,lz,dz,vz,oz⟩:=Fi (a:=0) o2 ((hb.keep k1).but bt2 apc) apc (dx.append (Be (by decide) _)) dy (by omega) (by omega) (Nat.zero_le _) (by rw[hlen,Za3,Nat.pow_zero,Nat.one_mul];have h1:=Ui dx;have h2:=Ui dy;have h3:B64^xs.length≤B64^n:=Nat.pow_le_pow_right (by decide) (by omega);have h4:B64^ys.length≤B64^n:=Nat.pow_le_pow_right (by decide) (by omega);have h5:B64^(n+1)=B64^n*18446744073709551616:=rfl;omega);rw[hlen]at lz;rw[Za3,Nat.pow_zero,Nat.one_mul]at vz;have hc3:Zq Tryz.prog Zo 224 [c0,vb,.int .i64 0] H2=some (w,H3):=hc3;apply Zb;intro b1 hb1;apply Za;simp;subst hb1;apply Zb;intro b1 hb1;apply Za;simp[l1,l2,mx,Qd (x:=n) (by omega),hmk];subst hb1;apply Zb;intro b1 hb1;apply Za;simp[hcp];subst hb1;apply Zb;intro b1 hb1;apply Za;simp[hc3];subst hb1;apply Zb;intro b1 hb1;apply Za;simp;subst hb1;apply Zn;simp;exact⟨ka3 H k2 (Nat.le_refl _),zs,lz,dz,vz,oz⟩
theorem less_spec(ha:Sl H va xs)(hb:Sl H vb ys)(dx:Dig B64 xs)(dy:Dig B64 ys)(lx:xs.length≤17592186000000)(ly:ys.length≤17592186000000)(hle:dv B64 ys≤dv B64 xs):CW Tryz.prog Zo 226 [va,vb] H fun v H'=>Keep H H'∧NewL H.n H' v xs.length (dv B64 xs-dv B64 ys):=by
 refine Zl 43 (by decide) (by decide) Tryz.func226 rfl rfl ?_;have l1:=ha.len Zk;have l2:=hb.len Zk;obtain⟨n,hn⟩: ∃n,n=xs.length:=⟨_,rfl⟩;rw[←hn]at l1⊢;obtain⟨c0,H1,hmk,k1,o1,n1⟩:=Qj (H:=H) Zk (n:=n) (by omega);obtain⟨u,H2,hcp,o2,bt2,ka2⟩:=o1.copy (ha.keep k1) (by simp;omega) Zk Zk;have k2:Keep H H2:=ka2 H k1 (Nat.le_refl _);rw[List.drop_replicate,hn,Nat.sub_self,List.replicate_zero,List.append_nil]at o2;have l0:=o2.sl.len Zk;rw[←hn]at l0;apply Zb;intro b1 hb1;apply Za;simp;subst hb1;apply Zb;intro b1 hb1;apply Za;simp[l1,hmk];subst hb1;apply Zb;intro b1 hb1;apply Za;simp[hcp];subst hb1;apply Zb;intro b1 hb1;apply Za;simp;subst hb1;apply Zb;intro b1 hb1;apply Zb;intro b2 hb2;apply Za;simp[l0];subst hb2;apply Zx;refine Qg (fun m s'=>s'.k=43∧Keep H s'.H∧ ∃(i bor:Nat) (L:List Nat),m+i=n∧L.length=i∧bor≤1∧Dig B64 L∧dv B64 L+dv B64 (ys.take i)=dv B64 (xs.take i)+B64^i*bor∧Own H.n s'.H c0 (L++xs.drop i)∧s'.tm.get 1=some vb∧s'.tm.get 5=some c0∧s'.tm.get 6=some (.int .u64 (bor:Int))∧s'.tm.get 16=some (.int .i64 (n:Int))∧s'.tm.get 17=some (.int .i64 (i:Int))) ?_ n _ ⟨rfl,k2,0,0,[],by omega,rfl,by omega,.nil _,by simp[dv],by simpa using o2,by simp,by simp,by simp,by simp,by simp⟩;rintro m ⟨k,tm,H3⟩ ⟨hk,kH,i,bor,L,hmi,hL,hbr,dL,heq,own,t1,t5,t6,t16,t17⟩ Q' hQ';simp only at hk kH own t1 t5 t6 t16 t17;subst hk;apply Zb;intro b3 hb3;apply Za;simp[t16,t17];subst hb3;apply Zb;intro b3 hb3;by_cases hi:i<n
 ·refine Zc (t:=true) (by simp[hi]) ?_;apply Zj;subst hb3;have hi':i<xs.length:=by omega
  have sb:=hb.keep kH;obtain⟨y,hy⟩: ∃y,y=nth ys i:=⟨_,rfl⟩;have hyB:y<B64:=by rw[hy];exact Cy dy (by decide) _
  obtain⟨x,hx⟩: ∃x,x=nth xs i:=⟨_,rfl⟩;have hxB:x<B64:=by rw[hx];exact Cy dx (by decide) _
  have d0:=own.loadAt hL hi';rw[←hx]at d0;have a0:=own.sl.adr Zk (k:= .i64) (i:=i) (by simp;omega);obtain⟨z,hz⟩: ∃z,z=(x+B64-y-bor)%B64:=⟨_,rfl⟩;obtain⟨b',hb'⟩: ∃b',b'=(if x<y+bor then 1 else 0):=⟨_,rfl⟩;have hzB:z<B64:=by rw[hz];exact Nat.mod_lt _ (by decide)
  have hb1':b'≤1:=by rw[hb'];split<;>omega
  have hst:z+y+bor=x+B64*b':=by
   by_cases h:x<y+bor;·rw[hz,hb',if_pos h,Nat.mod_eq_of_lt (by omega)];omega
   ·rw[hz,hb',if_neg h];have:x+B64-y-bor=(x-y-bor)+B64:=by omega
    rw[this,Nat.add_mod_right,Nat.mod_eq_of_lt (by omega)];omega
  have sc:Zq Tryz.prog Zo 206 [.int .u64 (x:Int),.int .u64 (y:Int),.int .u64 (bor:Int)] H3=some (.tuple #[.int .u64 (z:Int),.int .u64 (b':Int)],H3):=by rw[hz,hb'];exact Az x y bor H3 hbr
  obtain⟨H4,st4,own4,bt4,ka4⟩:=own.fillAt hL hi' z;apply Zb;intro b3 hb3;apply Zx;apply Zb;intro b4 hb4;apply Za;simp[t17];subst hb4;apply Zb;intro b4 hb4;apply Za;simp;subst hb4;refine Qz (fun s'=>s'.k=43∧s'.H=H3∧s'.tm.get 1=some vb∧s'.tm.get 5=some c0∧s'.tm.get 6=some (.int .u64 (bor:Int))∧s'.tm.get 7=some (.int .i64 (i:Int))∧s'.tm.get 8=some (.int .u64 (y:Int))∧s'.tm.get 16=some (.int .i64 (n:Int))∧s'.tm.get 17=some (.int .i64 (i:Int))) ?_ ?_
  ·intro Q'' hQ'';apply Zb;intro b4 hb4;apply Za;simp[t1,l2];subst hb4;by_cases hby:i<ys.length;·refine Zc (t:=true) (by simp[hby]) ?_;have a1:=sb.adr Zk (k:= .i64) hby;have d1:=sb.load hby;rw[←Vm hby,←hy]at d1;apply Za;simp[t1,a1,d1];apply hQ'';exact⟨rfl,rfl,by simp[t1],by simp[t5],by simp[t6],by simp,by simp,by simp[t16],by simp[t17]⟩
   ·refine Zc (t:=false) (by simp[hby]) ?_;apply Zj;apply hQ'';rw[Gx (by omega)]at hy;subst hy;exact⟨rfl,rfl,by simp[t1],by simp[t5],by simp[t6],by simp,by simp,by simp[t16],by simp[t17]⟩
  clear t1 t5 t6 t16 t17;rintro⟨k,tm,H5⟩ ⟨hk,hH,t1,t5,t6,t7,t8,t16,t17⟩;simp only at hk hH t1 t5 t6 t7 t8 t16 t17;subst hk;subst hH;apply Za;simp[t5,t6,t7,t8,a0,d0,sc,st4];subst hb3;apply Za;simp[t17,Qd (x:=i) (by omega)];apply hQ';refine⟨m-1,by omega,rfl,ka4 H kH (Nat.le_refl _),i+1,b',L++[z],by omega,by simp[hL],hb1',dL.append (.cons hzB (.nil _)),?_,own4,by simp[t1],by simp[t5],by simp,by simp[t16],by simp⟩;rw[Xc,hL,Vu,Vu,←hx,←hy];simp only[dv,Nat.mul_zero,Nat.add_zero];have e1:B64^i*(z+y+bor)=B64^i*(x+B64*b'):=by rw[hst]
  rw[Nat.mul_add (B64^i) x,←Nat.mul_assoc,show B64^i*B64=B64^(i+1)from rfl,Nat.mul_add,Nat.mul_add]at e1;omega
 ·refine Zc (t:=false) (by simp[hi]) ?_;apply Qf;apply hQ';left;refine⟨rfl,?_⟩;obtain rfl:i=n:=by omega
  have hxl:=Ui dx;rw[←hn]at hxl;rw[List.take_of_length_le (l:=xs) (by omega),Zn7 (by decide) (Nat.lt_of_le_of_lt hle hxl)]at heq;have hLl:=Ui dL;rw[hL]at hLl;have hval:dv B64 L=dv B64 xs-dv B64 ys:=by
   rcases Nat.lt_or_ge bor 1 with h0|h0
   ·obtain rfl:bor=0:=by omega
    rw[Nat.mul_zero]at heq;omega
   ·obtain rfl:bor=1:=by omega
    rw[Nat.mul_one]at heq;omega
  rw[List.drop_of_length_le (by omega),List.append_nil]at own;subst hb1;apply Zb;intro b4 hb4;apply Za;simp[t5];subst hb4;apply Zn;simp;exact⟨kH,L,hL,dL,hval,own⟩
theorem mul_step {x y o c : Nat} (hx : x < B64) (hy : y < B64) (ho : o < B64) (hc : c < B64) :
    let p := x * y; let l := (p % B64 + c) % B64; let h := p / B64 + (p % B64 + c) / B64
    h < B64 ∧ h + (o + l) / B64 < B64 ∧ (o + l) % B64 + B64 * (h + (o + l) / B64) = o + x * y + c := by
  intro p l h
  have hx : x < 18446744073709551616 := hx
  have hy : y < 18446744073709551616 := hy
  have ho : o < 18446744073709551616 := ho
  have hc : c < 18446744073709551616 := hc
  have hp : p ≤ 18446744073709551615 * 18446744073709551615 := Nat.mul_le_mul (by omega) (by omega)
  show p / 18446744073709551616 + (p % 18446744073709551616 + c) / 18446744073709551616 < 18446744073709551616 ∧ p / 18446744073709551616 + (p % 18446744073709551616 + c) / 18446744073709551616 + (o + (p % 18446744073709551616 + c) % 18446744073709551616) / 18446744073709551616 < 18446744073709551616 ∧
    (o + (p % 18446744073709551616 + c) % 18446744073709551616) % 18446744073709551616 + 18446744073709551616 * (p / 18446744073709551616 + (p % 18446744073709551616 + c) / 18446744073709551616 + (o + (p % 18446744073709551616 + c) % 18446744073709551616) / 18446744073709551616) = o + p + c
  clear_value p
  omega
set_option maxHeartbeats 1000000 in theorem school_spec(ha:Sl H va xs)(hb:Sl H vb ys)(dx:Dig B64 xs)(dy:Dig B64 ys)(lx:xs.length≤8000000000000)(ly:ys.length≤8000000000000):CW Tryz.prog Zo 223 [va,vb] H fun v H'=>Keep H H'∧NewL H.n H' v (xs.length+ys.length) (dv B64 xs*dv B64 ys):=by
 refine Zl 78 (by decide) (by decide) Tryz.func223 rfl rfl ?_;have l1:=ha.len Zk;have l2:=hb.len Zk;obtain⟨la,hla⟩: ∃la,la=xs.length:=⟨_,rfl⟩;obtain⟨lb,hlb⟩: ∃lb,lb=ys.length:=⟨_,rfl⟩;rw[←hla]at l1⊢;rw[←hlb]at l2⊢;obtain⟨c0,H1,hmk,k1,o1,n1⟩:=Qj (H:=H) Zk (n:=la+lb) (by omega);have ad:Zd .add .i64 (la:Int) (lb:Int)=some (.int .i64 ((la+lb:Nat):Int)):=Gr (by omega);apply Zb;intro b1 hb1;apply Za;simp;subst hb1;apply Zb;intro b1 hb1;apply Za;simp[l1,l2,ad,hmk];subst hb1;apply Zb;intro b1 hb1;apply Zb;intro b2 hb2;apply Za;simp[l1];subst hb2;apply Zx;refine Qg (fun m s'=>s'.k=78∧Keep H s'.H∧ ∃(i:Nat) (O:List Nat),m+i=la∧O.length=la+lb∧Dig B64 O∧(∀j,i+lb≤j→nth O j=0)∧dv B64 O=dv B64 (xs.take i)*dv B64 ys∧Own H.n s'.H c0 O∧s'.tm.get 1=some vb∧s'.tm.get 5=some c0∧s'.tm.get 20=some va∧s'.tm.get 21=some (.int .i64 (la:Int))∧s'.tm.get 22=some (.int .i64 (i:Int))) ?_ la _ ⟨rfl,k1,0,List.replicate (la+lb) 0,by omega,by simp,Be (by decide) _,fun j _=>by
  by_cases hj:j<(List.replicate (la+lb) 0).length;·rw[Vm hj];simp
  ·exact Gx (by omega),by simp[dv,Dr],o1,by simp,by simp,by simp,by simp,by simp⟩;rintro m ⟨k,tm,H2⟩ ⟨hk,kH,i,O,hmi,hO,dO,hz,heq,own,t1,t5,t20,t21,t22⟩ Q' hQ';simp only at hk kH own t1 t5 t20 t21 t22;subst hk;apply Zb;intro b3 hb3;apply Za;simp[t21,t22];subst hb3;apply Zb;intro b3 hb3;by_cases hi:i<la
 ·refine Zc (t:=true) (by simp[hi]) ?_;apply Zj;subst hb3;have hi':i<xs.length:=by omega
  have sa:=ha.keep kH;have sb:=hb.keep kH;have a1:=sa.adr Zk (k:= .i64) hi';have d1:=sa.load hi';obtain⟨x,hx⟩: ∃x,x=xs[i]:=⟨_,rfl⟩;have hxB:x<B64:=by rw[hx];exact dx.get (List.getElem?_eq_getElem hi')
  rw[←hx]at d1;apply Zb;intro b3 hb3;apply Zx;apply Zb;intro b4 hb4;apply Za;simp[t20,t22,a1,d1];subst hb4;apply Zb;intro b4 hb4;apply Za;simp;subst hb4;refine Qz (fun s'=>s'.k=78∧Keep H s'.H∧ ∃(c:Nat) (O2:List Nat),c<B64∧O2.length=la+lb∧Dig B64 O2∧(∀j,i+lb≤j→nth O2 j=0)∧dv B64 O2+B64^(i+lb)*c=dv B64 O+B64^i*(x*dv B64 ys)∧Own H.n s'.H c0 O2∧s'.tm.get 1=some vb∧s'.tm.get 5=some c0∧s'.tm.get 6=some (.int .i64 (i:Int))∧s'.tm.get 8=some (.int .u64 (c:Int))∧s'.tm.get 20=some va∧s'.tm.get 21=some (.int .i64 (la:Int))∧s'.tm.get 22=some (.int .i64 (i:Int))) ?_ ?_
  ·intro Q'' hQ'';apply Zb;intro b4 hb4;apply Za;simp[t1,l2];subst hb4;apply Zx;refine Qg (fun m s'=>s'.k=78∧Keep H s'.H∧ ∃(j c:Nat) (O2:List Nat),m+j=lb∧c<B64∧O2.length=la+lb∧Dig B64 O2∧(∀j,i+lb≤j→nth O2 j=0)∧dv B64 O2+B64^(i+j)*c=dv B64 O+B64^i*(x*dv B64 (ys.take j))∧Own H.n s'.H c0 O2∧s'.tm.get 1=some vb∧s'.tm.get 5=some c0∧s'.tm.get 6=some (.int .i64 (i:Int))∧s'.tm.get 7=some (.int .u64 (x:Int))∧s'.tm.get 8=some (.int .u64 (c:Int))∧s'.tm.get 20=some va∧s'.tm.get 21=some (.int .i64 (la:Int))∧s'.tm.get 22=some (.int .i64 (i:Int))∧s'.tm.get 27=some vb∧s'.tm.get 28=some (.int .i64 (lb:Int))∧s'.tm.get 29=some (.int .i64 (j:Int))) ?_ lb _ ⟨rfl,kH,0,0,O,by omega,by decide,hO,dO,hz,by simp[dv],own,by simp[t1],by simp[t5],by simp,by simp,by simp,by simp[t20],by simp[t21],by simp[t22],by simp[t1],by simp,by simp⟩;clear t1 t5 t20 t21 t22;rintro m2 ⟨k,tm,H3⟩ ⟨hk,kH3,j,c,O2,hmj,hc,hO2,dO2,hz2,heq2,own2,t1,t5,t6,t7,t8,t20,t21,t22,t27,t28,t29⟩ Q5 hQ5;simp only at hk kH3 own2 t1 t5 t6 t7 t8 t20 t21 t22 t27 t28 t29;subst hk;apply Zb;intro b5 hb5;apply Za;simp[t28,t29];subst hb5;apply Zb;intro b5 hb5;by_cases hj:j<lb
   ·refine Zc (t:=true) (by simp[hj]) ?_;apply Zj;subst hb5;have hj':j<ys.length:=by omega
    have sb3:=hb.keep kH3;have a2:=sb3.adr Zk (k:= .i64) hj';have d2:=sb3.load hj';obtain⟨y,hy⟩: ∃y,y=ys[j]:=⟨_,rfl⟩;have hyB:y<B64:=by rw[hy];exact dy.get (List.getElem?_eq_getElem hj')
    rw[←hy]at d2;have hij:i+j<O2.length:=by omega
    have a3:=own2.sl.adr Zk (k:= .i64) hij;have d3:=own2.sl.load hij;obtain⟨o,ho⟩: ∃o,o=O2[i+j]:=⟨_,rfl⟩;have hoB:o<B64:=by rw[ho];exact dO2.get (List.getElem?_eq_getElem hij)
    rw[←ho]at d3;have step:=mul_step hxB hyB hoB hc;simp only at step;obtain⟨ph,hph⟩: ∃ph,ph=x*y/B64:=⟨_,rfl⟩;obtain⟨pl,hpl⟩: ∃pl,pl=x*y%B64:=⟨_,rfl⟩;rw[←hph,←hpl]at step;obtain⟨l,hl⟩: ∃l,l=(pl+c)%B64:=⟨_,rfl⟩;obtain⟨c1,hc1⟩: ∃c1,c1=(pl+c)/B64:=⟨_,rfl⟩;rw[←hl,←hc1]at step;obtain⟨o',ho'⟩: ∃o',o'=(o+l)%B64:=⟨_,rfl⟩;obtain⟨c2,hc2⟩: ∃c2,c2=(o+l)/B64:=⟨_,rfl⟩;rw[←ho',←hc2]at step;obtain⟨st1,st2,st3⟩:=step;have ho'B:o'<B64:=by rw[ho'];exact Nat.mod_lt _ (by decide)
    have e1:Zq Tryz.prog Zo 202 [.int .u64 (x:Int),.int .u64 (y:Int)] H3=some (.tuple #[.int .u64 (ph:Int),.int .u64 (pl:Int)],H3):=by rw[hph,hpl];exact Ao hxB hyB H3
    have e2:Zq Tryz.prog Zo 203 [.int .u64 (pl:Int),.int .u64 (c:Int),.int .u64 0] H3=some (.tuple #[.int .u64 (l:Int),.int .u64 (c1:Int)],H3):=by rw[hl,hc1];exact Gh pl c H3
    have e3:Zd .add .u64 (ph:Int) (c1:Int)=some (.int .u64 ((ph+c1:Nat):Int)):=Dn st1;have e4:Zq Tryz.prog Zo 203 [.int .u64 (o:Int),.int .u64 (l:Int),.int .u64 0] H3=some (.tuple #[.int .u64 (o':Int),.int .u64 (c2:Int)],H3):=by rw[ho',hc2];exact Gh o l H3
    have e5:Zd .add .u64 ((ph+c1:Nat):Int) (c2:Int)=some (.int .u64 ((ph+c1+c2:Nat):Int)):=Dn st2;have e6:Zd .add .i64 (i:Int) (j:Int)=some (.int .i64 ((i+j:Nat):Int)):=Gr (by omega);obtain⟨H4,st4,own4,n4,bt4,ka4⟩:=own2.put (i:=i+j) hij o';apply Zb;intro b5 hb5;apply Zx;apply Zb;intro b6 hb6;apply Za;simp[t27,t29,a2,d2];subst hb6;apply Zb;intro b6 hb6;apply Za;simp[t7,e1];subst hb6;apply Zb;intro b6 hb6;apply Za;simp;subst hb6;apply Zb;intro b6 hb6;apply Za;simp[t8,e2];subst hb6;apply Zb;intro b6 hb6;apply Za;simp[e3];subst hb6;apply Zb;intro b6 hb6;apply Za;simp[t5,t6,e6,a3,d3,e4,st4];subst hb6;apply Za;simp[e5];subst hb5;apply Za;simp[t29,Qd (x:=j) (by omega)];apply hQ5;refine⟨m2-1,by omega,rfl,ka4 H kH3 (Nat.le_refl _),j+1,ph+c1+c2,O2.set (i+j) o',by omega,st2,by simp[hO2],dO2.set ho'B,fun q hq=>by rw[nth_set (by omega)];exact hz2 q hq,?_,own4,by simp[t1],by simp[t5],by simp[t6],by simp[t7],by simp,by simp[t20],by simp[t21],by simp[t22],by simp[t27],by simp[t28],by simp⟩;have ds:=dv_set B64 O2 (i+j) o' hij;rw[←ho]at ds;rw[Qx hj',Xc,List.length_take,Nat.min_eq_left (by omega),←hy];simp only[dv,Nat.mul_zero,Nat.add_zero];generalize ph+c1+c2=cc at*;have f1:B64^(i+j)*(o'+B64*cc)=B64^(i+j)*(o+x*y+c):=by rw[st3]
    rw[Nat.mul_add,←Nat.mul_assoc (B64^(i+j)) B64,show B64^(i+j)*B64=B64^(i+(j+1))from rfl,Nat.mul_add,Nat.mul_add]at f1;have f2:B64^i*(x*(dv B64 (ys.take j)+B64^j*y))=B64^i*(x*dv B64 (ys.take j))+B64^(i+j)*(x*y):=by rw[Nat.mul_add x,Nat.mul_add (B64^i),Nat.pow_add,Nat.mul_left_comm x (B64^j) y,Nat.mul_assoc (B64^i)]
    rw[f2];omega
   ·refine Zc (t:=false) (by simp[hj]) ?_;apply Qf;apply hQ5;left;obtain rfl:j=lb:=by omega
    rw[List.take_of_length_le (by omega)]at heq2;exact⟨rfl,hQ'' _ ⟨rfl,kH3,c,O2,hc,hO2,dO2,hz2,heq2,own2,by simp[t1],by simp[t5],by simp[t6],by simp[t8],by simp[t20],by simp[t21],by simp[t22]⟩⟩
  clear t1 t5 t20 t21 t22;rintro⟨k,tm,H3⟩ ⟨hk,kH3,c,O2,hc,hO2,dO2,hz2,heq2,own2,t1,t5,t6,t8,t20,t21,t22⟩;simp only at hk kH3 own2 t1 t5 t6 t8 t20 t21 t22;subst hk;have hij:i+lb<O2.length:=by omega
  have a3:=own2.sl.adr Zk (k:= .i64) hij;have e6:Zd .add .i64 (i:Int) (lb:Int)=some (.int .i64 ((i+lb:Nat):Int)):=Gr (by omega);obtain⟨H4,st4,own4,n4,bt4,ka4⟩:=own2.put (i:=i+lb) hij c;apply Za;simp[t1,t5,t6,t8,l2,e6,a3,st4];subst hb3;apply Za;simp[t22,Qd (x:=i) (by omega)];apply hQ';refine⟨m-1,by omega,rfl,ka4 H kH3 (Nat.le_refl _),i+1,O2.set (i+lb) c,by omega,by simp[hO2],dO2.set hc,fun q hq=>by rw[nth_set (by omega)];exact hz2 q (by omega),?_,own4,by simp[t1],by simp[t5],by simp[t20],by simp[t21],by simp⟩;have ds:=dv_set B64 O2 (i+lb) c hij;have h0:=hz2 (i+lb) (Nat.le_refl _);rw[Vm hij]at h0;rw[h0,Nat.mul_zero,Nat.add_zero]at ds;rw[ds,heq2,heq,Qx hi',Xc,List.length_take,Nat.min_eq_left (by omega),←hx,Nat.add_mul];simp only[dv,Nat.mul_zero,Nat.add_zero];rw[Nat.mul_assoc (B64^i)]
 ·refine Zc (t:=false) (by simp[hi]) ?_;apply Qf;apply hQ';left;refine⟨rfl,?_⟩;obtain rfl:i=la:=by omega
  rw[List.take_of_length_le (by omega)]at heq;subst hb1;apply Zb;intro b4 hb4;apply Za;simp[t5];subst hb4;apply Zn;simp;exact⟨kH,O,hO,dO,heq,own⟩
end
end
theorem segL_low{xs:List Nat}(dx:Dig B64 xs)(k:Nat):dv B64 (segL xs 0 k)=dv B64 (xs.take k)∧(segL xs 0 k).length≤min k xs.length∧Dig B64 (segL xs 0 k):=by
 unfold segL;have e:(xs.drop (min 0 xs.length)).take (min k xs.length-min 0 xs.length)=xs.take k:=by
  rw[Nat.zero_min,List.drop_zero,Nat.sub_zero];rcases Nat.le_total k xs.length with h|h;·rw[Nat.min_eq_left h]
  ·rw[Nat.min_eq_right h,List.take_length,List.take_of_length_le h]
 rw[e];refine⟨Vv _ _,?_,Jo (dx.take k)⟩;have:=Jp (xs.take k);rwa[List.length_take]at this
theorem segL_high{xs:List Nat}(dx:Dig B64 xs){k:Nat}(hk:k≤xs.length):dv B64 (segL xs k xs.length)=dv B64 (xs.drop k)∧(segL xs k xs.length).length≤xs.length-k∧Dig B64 (segL xs k xs.length):=by unfold segL;rw[Nat.min_eq_left hk,Nat.min_self,List.take_of_length_le (l:=xs.drop k) (by rw[List.length_drop];omega)];refine⟨Vv _ _,?_,Jo (dx.drop k)⟩;have:=Jp (xs.drop k);rwa[List.length_drop]at this
theorem Zi2{xs:List Nat}(dx:Dig B64 xs)(k:Nat):dv B64 (segL xs k xs.length)=dv B64 (xs.drop k)∧(segL xs k xs.length).length≤xs.length-k∧Dig B64 (segL xs k xs.length):=by
 rcases Nat.lt_or_ge xs.length k with h|h;·unfold segL;rw[Nat.min_eq_right (a:=k) (by omega),Nat.min_self,Nat.sub_self,List.take_zero,List.drop_eq_nil_of_le (by omega)];exact⟨rfl,Nat.zero_le _,.nil _⟩
 ·exact segL_high dx h
theorem kara{al ah bl bh:Nat} :(al+ah)*(bl+bh)-al*bl-ah*bh=al*bh+ah*bl∧al*bl≤(al+ah)*(bl+bh)∧ah*bh≤(al+ah)*(bl+bh)-al*bl:=by
 have e:(al+ah)*(bl+bh)=al*bl+al*bh+(ah*bl+ah*bh):=by rw[Nat.add_mul,Nat.mul_add,Nat.mul_add]
 omega
theorem quo2_i64{x:Nat}(h:x<9223372036854775808):Zd .quo .i64 (x:Int) 2=some (.int .i64 ((x/2:Nat):Int)):=quo_i64 (y:=2) h (by decide)
section
attribute [-simp] Int.natCast_add Int.natCast_mul Int.natCast_ediv Int.natCast_emod Int.natCast_pow
attribute [local simp] strip Yd LW' LR gW Yf Xh Ya Xi Yo Xj Zr Zs Zh Yp Yy Yk Yq Zi Xa Ze opd Qe Ym plain Yj Tr.get_set Qc Zp Xy Yc sameKind undef Zt Yr Yv Zk Jg Jf Yb parts Jc unV DW Xq Zv LX Zy
def HalvedIs(n0:Nat)(lab N:Nat)(v:Value)(H':AH):Prop:= ∃len,len≤lab+1∧NewL n0 H' v len N
def HalvedOK(N:Nat):Prop:= ∀(H:AH)(va vb:Value)(xs ys:List Nat),Sl H va xs→Sl H vb ys→Dig B64 xs→Dig B64 ys→xs.length+ys.length≤N→ ∃v H',Zq Tryz.prog Zo 199 [va,vb,.int .i64 40] H=some (v,H')∧Keep H H'∧HalvedIs H.n (xs.length+ys.length) (dv B64 xs*dv B64 ys) v H'
theorem dv_mul_lt{xs ys:List Nat}(dx:Dig B64 xs)(dy:Dig B64 ys):dv B64 xs*dv B64 ys<B64^(xs.length+ys.length+1):=by have h1:=Ui dx;have h2:=Ui dy;have h3:dv B64 xs*dv B64 ys≤B64^xs.length*B64^ys.length:=Nat.mul_le_mul (Nat.le_of_lt h1) (Nat.le_of_lt h2);rw[←Nat.pow_add]at h3;have h4:B64^(xs.length+ys.length)<B64^(xs.length+ys.length+1):=Nat.pow_lt_pow_right (by decide) (Nat.lt_succ_self _);omega
set_option maxHeartbeats 4000000 in theorem halved_ok: ∀N,N≤4000000000000→HalvedOK N:=by intro N;induction N using Nat.strongRecOn with
 |_ N ih=>
  intro hN H va vb xs ys ha hb dx dy hl;suffices h:CW Tryz.prog Zo 199 [va,vb,.int .i64 40] H fun v H'=>Keep H H'∧HalvedIs H.n (xs.length+ys.length) (dv B64 xs*dv B64 ys) v H' by obtain⟨v,H',h1,h2,h3⟩:=h;exact⟨v,H',h1,h2,h3⟩
  refine Zl 124 (by decide) (by decide) Tryz.func199 rfl rfl ?_;apply Zb;intro b1 hb1;apply Za;simp;subst hb1;refine Qz (fun s'=>s'.k=124∧s'.H=H∧ ∃(a b:Value) (xa xb:List Nat),Sl H a xa∧Sl H b xb∧Dig B64 xa∧Dig B64 xb∧xb.length≤xa.length∧xa.length+xb.length=xs.length+ys.length∧dv B64 xa*dv B64 xb=dv B64 xs*dv B64 ys∧s'.tm.get 0=some a∧s'.tm.get 1=some b∧s'.tm.get 2=some (.int .i64 40)) ?_ ?_
  ·intro Q' hQ';have l1:=ha.len Zk;have l2:=hb.len Zk;apply Zb;intro b1 hb1;apply Za;simp[l1,l2];subst hb1;by_cases h:xs.length<ys.length;·refine Zc (t:=true) (by simp[h]) ?_;apply Za;simp;apply hQ';exact⟨rfl,rfl,vb,va,ys,xs,hb,ha,dy,dx,by omega,by omega,Nat.mul_comm _ _,by simp,by simp,by simp⟩
   ·refine Zc (t:=false) (by simp[h]) ?_;apply Zj;apply hQ';exact⟨rfl,rfl,va,vb,xs,ys,ha,hb,dx,dy,by omega,rfl,rfl,by simp,by simp,by simp⟩
  clear ha hb dx dy;rintro⟨k,tm,H0⟩ ⟨hk,hH,a,b,xa,xb,ha,hb,dx,dy,hba,hab,hprod,t0,t1,t2⟩;simp only at hk hH t0 t1 t2;subst hk;subst hH;rw[←hprod,←hab];rw[←hab]at hl;clear hprod hab;have l1:=ha.len Zk;have l2:=hb.len Zk;obtain⟨la,hla⟩: ∃la,la=xa.length:=⟨_,rfl⟩;obtain⟨lb,hlb⟩: ∃lb,lb=xb.length:=⟨_,rfl⟩;rw[←hla]at l1 hl hba⊢;rw[←hlb]at l2 hl hba⊢;have lt40:Zd .lss .i64 (lb:Int) 40=some (.bool (decide (lb<40))):=Jc (y:=40);have hpl:=dv_mul_lt dx dy;rw[←hla,←hlb]at hpl;apply Zb;intro b1 hb1;apply Zb;intro b2 hb2;apply Za;simp[t1,t2,l2,lt40];subst hb2;by_cases h40:lb<40;·obtain⟨v,H',hc,k,hn⟩:=school_spec ha hb dx dy (by omega) (by omega);rw[←hla,←hlb]at hn;refine Zc (t:=true) (by simp[h40]) ?_;apply Zb;intro b2 hb2;apply Za;simp[t0,t1,hc];subst hb2;apply Zn;simp[Xw];exact⟨k,_,Nat.le_succ _,hn⟩
  ·refine Zc (t:=false) (by simp[h40]) ?_;apply Zj;subst hb1;obtain⟨k,hk⟩: ∃k,k=(la+1)/2:=⟨_,rfl⟩;have q2:=quo2_i64 (x:=la+1) (by omega);rw[←hk]at q2;have ps: ∀{Hx:AH}{f t:Nat}{c:Value}{cs:List Nat},Sl Hx c cs→40≤cs.length→cs.length≤4000000000000→f≤t→ ∃w,Zq Tryz.prog Zo 225 [c,.int .i64 (f:Int),.int .i64 (t:Int)] Hx=some (w,Hx)∧Sl Hx w (segL cs f t):=fun{Hx f t c cs} hs h1 h2 h3=>by obtain⟨w,H',hc,e,hw⟩:=part_spec hs (by omega) (by omega) h3;subst e;exact⟨w,hc,hw⟩
   have adlab:Zd .add .i64 (la:Int) (lb:Int)=some (.int .i64 ((la+lb:Nat):Int)):=Gr (by omega);apply Zb;intro b1 hb1;apply Za;simp[t0,l1,Qd (x:=la) (by omega),q2];subst hb1;apply Zb;intro b1 hb1;apply Zb;intro b2 hb2;apply Za;simp[t1,l2,Zk2];subst hb2;by_cases hbk:lb≤k
   ·obtain⟨c0,H1,hmk,k1,o1,n1⟩:=Qj (H:=H0) Zk (n:=la+lb+1) (by omega);have a1:=ha.keep k1;have b1':=hb.keep k1;obtain⟨w1,e1,s1⟩:=ps (f:=0) (t:=k) a1 (by omega) (by omega) (Nat.zero_le _);have e1:Zq Tryz.prog Zo 225 [a,.int .i64 0,.int .i64 (k:Int)] H1=some (w1,H1):=e1;obtain⟨v1,z1,d1⟩:=segL_low dx k;obtain⟨p1,H2,e2,k2,len1,hlen1,zs1,lz1,dz1,vz1,oz1⟩:=ih (k+lb) (by omega) (by omega) H1 w1 b (segL xa 0 k) xb s1 b1' d1 dy (by omega);rw[v1]at vz1;have o2:=o1.mono (Nat.le_refl _) k2;have prod:dv B64 (xa.take k)*dv B64 xb+B64^k*(dv B64 (xa.drop k)*dv B64 xb)=dv B64 xa*dv B64 xb:=by rw[Bf B64 xa k (by omega),Nat.add_mul,Nat.mul_assoc]
    obtain⟨u3,H3,e3,bt3,ka3,zs3,lz3,dz3,vz3,oz3⟩:=Fi (a:=0) o2 oz1.sl (Fj o1 oz1 (Nat.le_refl _)) (Be (by decide) _) dz1 (by simp;omega) (by omega) (Nat.zero_le _) (by rw[Dr,List.length_replicate,Nat.pow_zero,Nat.one_mul,vz1];omega);have e3:Zq Tryz.prog Zo 224 [c0,p1,.int .i64 0] H2=some (u3,H3):=e3;rw[List.length_replicate]at lz3;rw[Dr,Nat.pow_zero,Nat.one_mul,Nat.zero_add,vz1]at vz3;have k3:Keep H0 H3:=ka3 H0 (k1.trans k2) (Nat.le_refl _);have a3:=ha.keep k3;have b3':=hb.keep k3;obtain⟨w4,e4,s4⟩:=ps (f:=k) (t:=la) a3 (by omega) (by omega) (by omega);obtain⟨v4,z4,d4⟩:=Zi2 dx k;rw[←hla]at v4 z4 d4;obtain⟨p5,H5,e5,k5,len5,hlen5,zs5,lz5,dz5,vz5,oz5⟩:=ih (la-k+lb) (by omega) (by omega) H3 w4 b (segL xa k la) xb s4 b3' d4 dy (by omega);rw[v4]at vz5;have o5:=oz3.mono (Nat.le_refl _) k5;obtain⟨u6,H6,e6,bt6,ka6,zs6,lz6,dz6,vz6,oz6⟩:=Fi (a:=k) o5 oz5.sl (Fj oz3 oz5 (Nat.le_refl _)) dz3 dz5 (by omega) (by omega) (by omega) (by rw[vz3,vz5,lz3,prod];exact hpl);have k6:Keep H0 H6:=ka6 H0 (k3.trans k5) (Nat.le_refl _);refine Zc (t:=true) (by simp[hbk]) ?_;apply Zb;intro b2 hb2;apply Za;simp[t0,t1,l1,l2,adlab,Qd (x:=la+lb) (by omega),hmk];subst hb2;apply Zb;intro b2 hb2;apply Za;simp[t0,t1,t2,e1,e2,e3];subst hb2;apply Zb;intro b2 hb2;apply Za;simp[t0,t1,t2,l1,e4,e5,e6];subst hb2;apply Zb;intro b2 hb2;apply Za;simp;subst hb2;apply Zn;simp[Xw];exact⟨k6,la+lb+1,Nat.le_refl _,zs6,by omega,dz6,by rw[vz6,vz3,vz5,prod],oz6⟩
   ·refine Zc (t:=false) (by simp[hbk]) ?_;apply Zj;subst hb1;obtain⟨wal,eal,sal⟩:=ps (f:=0) (t:=k) ha (by omega) (by omega) (Nat.zero_le _);have eal:Zq Tryz.prog Zo 225 [a,.int .i64 0,.int .i64 (k:Int)] H0=some (wal,H0):=eal;obtain⟨wah,eah,sah⟩:=ps (f:=k) (t:=la) ha (by omega) (by omega) (by omega);obtain⟨wbl,ebl,sbl⟩:=ps (f:=0) (t:=k) hb (by omega) (by omega) (Nat.zero_le _);have ebl:Zq Tryz.prog Zo 225 [b,.int .i64 0,.int .i64 (k:Int)] H0=some (wbl,H0):=ebl;obtain⟨wbh,ebh,sbh⟩:=ps (f:=k) (t:=lb) hb (by omega) (by omega) (by omega);obtain⟨val,zal,dal⟩:=segL_low dx k;obtain⟨vah,zah,dah⟩:=Zi2 dx k;obtain⟨vbl,zbl,dbl⟩:=segL_low dy k;obtain⟨vbh,zbh,dbh⟩:=Zi2 dy k;rw[←hla]at vah zah dah zal;rw[←hlb]at vbh zbh dbh zbl;have ea:=Bf B64 xa k (by omega);have eb:=Bf B64 xb k (by omega);rw[←val,←vah]at ea;rw[←vbl,←vbh]at eb;generalize hAL:segL xa 0 k=AL at*;generalize hAH:segL xa k la=AHh at*;generalize hBL:segL xb 0 k=BL at*;generalize hBH:segL xb k lb=BH at*;have hlal:AL.length≤k:=by omega
    have hlah:AHh.length≤la-k:=by omega
    have hlbl:BL.length≤k:=by omega
    have hlbh:BH.length≤lb-k:=by omega
    clear zal zah zbl zbh val vah vbl vbh hAL hAH hBL hBH;obtain⟨p1,H1,e1,k1,len1,hlen1,zs1,lz1,dz1,vz1,oz1⟩:=ih (k+k) (by omega) (by omega) H0 wal wbl AL BL sal sbl dal dbl (by omega);obtain⟨p2,H2,e2,k2,len2,hlen2,zs2,lz2,dz2,vz2,oz2⟩:=ih (la-k+(lb-k)) (by omega) (by omega) H1 wah wbh AHh BH (sah.keep k1) (sbh.keep k1) dah dbh (by omega);have k12:=k1.trans k2;obtain⟨s3,H3,e3,k3,zs3,lz3,dz3,vz3,oz3⟩:=sum_spec (sal.keep k12) (sah.keep k12) dal dah (by omega) (by omega);have k13:=k12.trans k3;obtain⟨n4,H4,e4,k4,o4⟩:=Uw oz3.sl (by omega);rw[Ji Zz dz3,vz3]at o4;have k14:=k13.trans k4;obtain⟨s5,H5,e5,k5,zs5,lz5,dz5,vz5,oz5⟩:=sum_spec (sbl.keep k14) (sbh.keep k14) dbl dbh (by omega) (by omega);obtain⟨n6,H6,e6,k6,o6⟩:=Uw oz5.sl (by omega);rw[Ji Zz dz5,vz5]at o6;have l4:(ds B64 (dv B64 AL+dv B64 AHh)).length≤k+1:=by rw[←vz3];exact Nat.le_trans (Ub dz3) (by omega)
    have l6:(ds B64 (dv B64 BL+dv B64 BH)).length≤k+1:=by rw[←vz5];exact Nat.le_trans (Ub dz5) (by omega)
    obtain⟨p7,H7,e7,k7,len7,hlen7,zs7,lz7,dz7,vz7,oz7⟩:=ih (k+1+(k+1)) (by omega) (by omega) H6 n4 n6 _ _ ((o4.sl.keep k5).keep k6) o6.sl (Xv Zz _) (Xv Zz _) (by omega);rw[Qk Zz,Qk Zz]at vz7;obtain⟨kr1,kr2,kr3⟩:=kara (al:=dv B64 AL) (ah:=dv B64 AHh) (bl:=dv B64 BL) (bh:=dv B64 BH);have k27:=(((k3.trans k4).trans k5).trans k6).trans k7;have k17:=k2.trans k27;obtain⟨p8,H8,e8,k8,zs8,lz8,dz8,vz8,oz8⟩:=less_spec oz7.sl (oz1.sl.keep k17) dz7 dz1 (by omega) (by omega) (by rw[vz7,vz1];exact kr2);rw[vz7,vz1]at vz8;have k28:=k27.trans k8;obtain⟨p9,H9,e9,k9,zs9,lz9,dz9,vz9,oz9⟩:=less_spec oz8.sl (oz2.sl.keep k28) dz8 dz2 (by omega) (by omega) (by rw[vz8,vz2];exact kr3);rw[vz8,vz2,kr1]at vz9;have k29:=k28.trans k9;obtain⟨c0,H10,hmk,k10,o10,n10⟩:=Qj (H:=H9) Zk (n:=la+lb+1) (by omega);have k210:=k29.trans k10;have k110:=k2.trans k210;have K10:=k1.trans k110;have apart': ∀{n0:Nat}{Hx:AH}{p:Value}{zs:List Nat},Own n0 Hx p zs→Hx.n≤H9.n→Ka c0 p:=fun{n0 Hx p zs} o hn c hc hc'=>by have x1:=(o10.blk_lo hc).1;have x2:=(o.blk_lo hc').2;omega
    have n1':=k2.n;have n2':=k29.n;have prod:dv B64 AL*dv B64 BL+B64^k*(dv B64 AL*dv B64 BH+dv B64 AHh*dv B64 BL)+B64^(2*k)*(dv B64 AHh*dv B64 BH)=dv B64 xa*dv B64 xb:=by
     rw[ea,eb,Nat.add_mul,Nat.mul_add,Nat.mul_add,Nat.mul_add,Nat.two_mul,Nat.pow_add];generalize dv B64 AL=x at*;generalize dv B64 AHh=y at*;generalize dv B64 BL=z at*;generalize dv B64 BH=w at*;generalize B64^k=q at*;have f1:x*(q*w)=q*(x*w):=by rw[Nat.mul_left_comm]
     have f2:q*y*z=q*(y*z):=by rw[Nat.mul_assoc]
     have f3:q*y*(q*w)=q*q*(y*w):=by rw[Nat.mul_mul_mul_comm]
     rw[f1,f2,f3];omega
    have p1le:dv B64 AL*dv B64 BL<B64^(la+lb+1):=by omega
    have p2le:dv B64 AL*dv B64 BL+B64^k*(dv B64 AL*dv B64 BH+dv B64 AHh*dv B64 BL)<B64^(la+lb+1):=by omega
    obtain⟨u11,H11,e11,bt11,ka11,zs11,lz11,dz11,vz11,oz11⟩:=Fi (a:=0) o10 (oz1.sl.keep k110) (apart' oz1 (by omega)) (Be (by decide) _) dz1 (by simp;omega) (by omega) (Nat.zero_le _) (by rw[Dr,List.length_replicate,Nat.pow_zero,Nat.one_mul,vz1];omega);have e11:Zq Tryz.prog Zo 224 [c0,p1,.int .i64 0] H10=some (u11,H11):=e11;rw[List.length_replicate]at lz11;rw[Dr,Nat.pow_zero,Nat.one_mul,Nat.zero_add,vz1]at vz11;have sp9:=(oz9.sl.keep k10).but bt11 (apart' oz9 (Nat.le_refl _));obtain⟨u12,H12,e12,bt12,ka12,zs12,lz12,dz12,vz12,oz12⟩:=Fi (a:=k) oz11 sp9 (apart' oz9 (Nat.le_refl _)) dz11 dz9 (by omega) (by omega) (by omega) (by rw[vz11,vz9,lz11];exact p2le);have sp2:=((oz2.sl.keep k210).but bt11 (apart' oz2 n2')).but bt12 (apart' oz2 n2');obtain⟨u13,H13,e13,bt13,ka13,zs13,lz13,dz13,vz13,oz13⟩:=Fi (a:=2*k) oz12 sp2 (apart' oz2 n2') dz12 dz2 (by omega) (by omega) (by omega) (by rw[vz12,vz11,vz9,vz2,lz12,lz11,prod];exact hpl);have K13:Keep H0 H13:=by
     have n9:H0.n≤H9.n:=by have:=(k1.trans (k2.trans k29)).n;exact this
     exact ka13 H0 (ka12 H0 (ka11 H0 K10 n9) n9) n9
    apply Zb;intro b1 hb1;apply Za;simp[t0,t1,l1,l2,eal,eah,ebl,ebh];subst hb1;apply Zb;intro b1 hb1;apply Za;simp[t2,e1,e2];subst hb1;apply Zb;intro b1 hb1;apply Za;simp[t2,e3,e4,e5,e6,e7,e8,e9];subst hb1;apply Zb;intro b1 hb1;apply Za;simp[t0,t1,l1,l2,adlab,Qd (x:=la+lb) (by omega),hmk];subst hb1;apply Zb;intro b1 hb1;apply Za;simp[e11];subst hb1;apply Zb;intro b1 hb1;apply Za;simp[e12];subst hb1;apply Zb;intro b1 hb1;apply Za;simp[dbl_i64 (x:=k) (by omega),e13];subst hb1;apply Zb;intro b1 hb1;apply Za;simp;subst hb1;apply Zn;simp;refine⟨K13,la+lb+1,Nat.le_refl _,zs13,by omega,dz13,by rw[vz13,vz12,vz11,vz9,vz2,prod],oz13.mono ?_ (.refl _)⟩;exact(k1.trans (k2.trans k29)).n
end
theorem Bc{n:Nat} :0<Zf n↔0<n:=by
 unfold Zf;by_cases h:n=0;·rw[if_pos h];omega
 ·rw[if_neg h];omega
theorem blen_mul{A B:Nat}(hA:0<A)(hB:0<B):Zf A+Zf B-1≤Zf (A*B):=by have h1:=Ul (n:=A) (by omega);have h2:=Ul (n:=B) (by omega);have h3:=Um (A*B);have h4:2^(Zf A-1)*2^(Zf B-1)≤A*B:=Nat.mul_le_mul h1 h2;rw[←Nat.pow_add]at h4;have h5:=(Nat.pow_lt_pow_iff_right (a:=2) (by decide)).mp (Nat.lt_of_le_of_lt h4 h3);have:=Bc.mpr hA;have:=Bc.mpr hB;omega
theorem blen_bound{A:Nat}{L:Nat}(h:(ds B64 A).length≤L):Zf A≤64*L:=by
 rcases Nat.eq_zero_or_pos A with h0|h0;·subst h0;exact Nat.zero_le _
 ·have h1:=ds_lt Zz A;have h2:B64^(ds B64 A).length≤B64^L:=Nat.pow_le_pow_right (by decide) h;have h4:B64^L=2^(64*L):=by rw[Nat.pow_mul]
  have h3:=Ul (n:=A) (by omega);have h5:2^(Zf A-1)<2^(64*L):=by rw[←h4];omega
  have:=(Nat.pow_lt_pow_iff_right (a:=2) (by decide)).mp h5;omega
section
attribute [-simp] Int.natCast_add Int.natCast_mul Int.natCast_ediv Int.natCast_emod Int.natCast_pow
attribute [local simp] strip Yd LW' LR gW Yf Xh Ya Xi Yo Xj Zr Zs Zh Yp Yy Yk Yq Zi Xa Ze opd Qe Ym plain Yj Tr.get_set Qc Zp Xy Yc sameKind undef Zt Yr Yv Zk Jg Jf Yb parts Jc unV DW Xq Zv LX Zy
section
variable {H : AH} {va vb : Value} {xs ys : List Nat}
def MulIs(n0:Nat)(N:Nat)(v:Value)(H':AH):Prop:=(67108864<Zf N∧v= .tuple #[.slice none 0 0,.int .i64 3])∨(Zf N≤67108864∧ ∃u,v= .tuple #[u,.int .i64 0]∧Own n0 H' u (ds B64 N))
theorem great_spec{A B:Nat}(ha:Sl H va (ds B64 A))(hb:Sl H vb (ds B64 B))(lA:(ds B64 A).length≤Lim)(lB:(ds B64 B).length≤Lim):CW Tryz.prog Zo 221 [va,vb] H fun v H'=>H'=H∧v= .bool (decide (0<A∧0<B∧67108864<Zf A+Zf B-1)):=by
 refine Zl 24 (by decide) (by decide) Tryz.func221 rfl rfl ?_;have c1:=Jr ha lA;have c2:=Jr hb lB;have bA:Zf A≤64*2000000000000:=blen_bound lA;have bB:Zf B≤64*2000000000000:=blen_bound lB;apply Zb;intro b1 hb1;apply Za;simp;subst hb1;apply Zb;intro b1 hb1;apply Za;simp[c1,c2];subst hb1;apply Zb;intro b1 hb1;apply Za;by_cases hA:0<Zf A
 ·by_cases hB:0<Zf B;·have s1:Zd .add .i64 (Zf A:Int) (Zf B:Int)=some (.int .i64 ((Zf A+Zf B:Nat):Int)):=Gr (by omega);have s2:Zd .sub .i64 ((Zf A+Zf B:Nat):Int) 1=some (.int .i64 ((Zf A+Zf B-1:Nat):Int)):=Fb (by omega) (by omega);simp[gtr0,hA,hB,s1,s2,gtrMax];subst hb1;apply Zn;have hA':=Bc.mp hA;have hB':=Bc.mp hB;simp[hA',hB']
  ·have hB': ¬0<B:=fun h=>hB (Bc.mpr h);simp[gtr0,hA,hB];subst hb1;apply Zn;simp;omega
 ·have hA': ¬0<A:=fun h=>hA (Bc.mpr h);simp[gtr0,hA];subst hb1;apply Zn;simp;omega
theorem fits_spec(ha:Sl H va xs)(dx:Dig B64 xs)(lx:xs.length≤2*Lim+1):CW Tryz.prog Zo 222 [va] H fun v H'=>Keep H H'∧MulIs H.n (dv B64 xs) v H':=by
 refine Zl 10 (by decide) (by decide) Tryz.func222 rfl rfl ?_;obtain⟨v1,H1,c1,k1,o1⟩:=Uw ha (Nat.le_trans lx (by decide));rw[Ji Zz dx]at o1;have lN:=Ub dx;have c2:Zq Tryz.prog Zo 123 [v1] H1=some (.int .i64 (Zf (dv B64 xs):Int),H1):=by obtain⟨_,_,hc,rfl,rfl⟩:=Uk o1.sl (Xv Zz _) (Nat.le_trans (Nat.le_trans lN lx) (by decide));rw[Qk Zz]at hc;exact hc
 generalize dv B64 xs=N at*;apply Zb;intro b1 hb1;apply Za;simp;subst hb1;apply Zb;intro b1 hb1;apply Za;simp[c1];subst hb1;apply Zb;intro b1 hb1;apply Zb;intro b2 hb2;apply Za;simp[c2,gtrMax];subst hb2;by_cases h:67108864<Zf N;·refine Zc (t:=true) (by simp[h]) ?_;apply Zb;intro b2 hb2;apply Za;simp;subst hb2;apply Zn;simp[Xw];exact⟨k1,.inl ⟨h,rfl⟩⟩
 ·refine Zc (t:=false) (by simp[h]) ?_;apply Zj;subst hb1;apply Zb;intro b2 hb2;apply Za;simp;subst hb2;apply Zn;simp;exact⟨k1,.inr ⟨by omega,v1,rfl,o1⟩⟩
theorem mulWay_call{A B:Nat}(ha:Sl H va (ds B64 A))(hb:Sl H vb (ds B64 B))(lA:(ds B64 A).length≤Lim)(lB:(ds B64 B).length≤Lim): ∃v H',Zq Tryz.prog Zo 198 [va,vb] H=some (v,H')∧Keep H H'∧HalvedIs H.n ((ds B64 A).length+(ds B64 B).length) (A*B) v H':=by
 obtain⟨v,H',hc,k,h⟩:=halved_ok ((ds B64 A).length+(ds B64 B).length) (by have:Lim=2000000000000:=rfl;omega) H va vb _ _ ha hb (Xv Zz A) (Xv Zz B) (Nat.le_refl _);rw[Qk Zz,Qk Zz]at h;suffices hs:CW Tryz.prog Zo 198 [va,vb] H fun v' H''=>v'=v∧H''=H' by obtain⟨_,_,hc2,rfl,rfl⟩:=hs;exact⟨_,_,hc2,k,h⟩
 refine Zl 8 (by decide) (by decide) Tryz.func198 rfl rfl ?_;apply Zb;intro b1 hb1;apply Za;simp;subst hb1;apply Zb;intro b1 hb1;apply Za;simp[hc];subst hb1;apply Zn;simp
theorem mul_spec(ha:Sl H va xs)(hb:Sl H vb ys)(dx:Dig B64 xs)(dy:Dig B64 ys)(lx:xs.length≤Lim)(ly:ys.length≤Lim):CW Tryz.prog Zo 146 [va,vb] H fun v H'=>Keep H H'∧MulIs H.n (dv B64 xs*dv B64 ys) v H':=by
 suffices hp:CW Tryz.prog Zo 197 [va,vb,.func (.func 198) #[] #[]] H fun v H'=>Keep H H'∧MulIs H.n (dv B64 xs*dv B64 ys) v H'∧ ∃a b,v= .tuple #[a,b] by obtain⟨_,H1,hc,k1,h1,a,b,rfl⟩:=hp;refine Zl 11 (by decide) (by decide) Tryz.func146 rfl rfl ?_;apply Zb;intro b1 hb1;apply Za;simp;subst hb1;apply Zb;intro b1 hb1;apply Za;simp[hc];subst hb1;apply Zn;simp;exact⟨k1,h1⟩
 refine Zl 22 (by decide) (by decide) Tryz.func197 rfl rfl ?_;obtain⟨v1,v2,H1,H2,c1,c2,k2,o1,o2,ap⟩:=Zl1 ha hb dx dy lx ly;have lA:=Nat.le_trans (Ub dx) lx;have lB:=Nat.le_trans (Ub dy) ly;generalize dv B64 xs=A at*;generalize dv B64 ys=B at*;have c3:Zq Tryz.prog Zo 221 [v1,v2] H2=some (.bool (decide (0<A∧0<B∧67108864<Zf A+Zf B-1)),H2):=by obtain⟨_,_,hc,rfl,rfl⟩:=great_spec o1.sl o2.sl lA lB;exact hc
 apply Zb;intro b1 hb1;apply Za;simp;subst hb1;apply Zb;intro b1 hb1;apply Za;simp[c1,c2];subst hb1;apply Zb;intro b1 hb1;apply Zb;intro b2 hb2;by_cases hg:0<A∧0<B∧67108864<Zf A+Zf B-1;·rw[decide_eq_true hg]at c3;apply Za;simp[c3];subst hb2;refine Zc (t:=true) (by simp) ?_;apply Zb;intro b2 hb2;apply Za;simp;subst hb2;apply Zn;simp[Xw];have:=blen_mul hg.1 hg.2.1;exact⟨k2,.inl ⟨by omega,rfl⟩⟩
 ·rw[decide_eq_false hg]at c3;obtain⟨v3,H3,c4,k3,len,hlen,zs,lz,dz,vz,oz⟩:=mulWay_call o1.sl o2.sl lA lB;obtain⟨v5,H5,c5,k5,h5⟩:=fits_spec oz.sl dz (by have:Lim=2000000000000:=rfl;omega);rw[vz]at h5;have hn:H.n≤H3.n:=(k2.trans k3).n;have h6:MulIs H.n (A*B) v5 H5∧ ∃a b,v5= .tuple #[a,b]:=by
   rcases h5 with⟨h,rfl⟩|⟨h,u,rfl,o⟩;·exact⟨.inl ⟨h,rfl⟩,_,_,rfl⟩
   ·exact⟨.inr ⟨h,u,rfl,o.mono hn (.refl _)⟩,_,_,rfl⟩
  obtain⟨h6,a,b,rfl⟩:=h6;apply Za;simp[c3];subst hb2;refine Zc (t:=false) (by simp) ?_;apply Zj;subst hb1;apply Zb;intro b2 hb2;apply Za;simp[c4,c5];subst hb2;apply Zn;simp;exact⟨(k2.trans k3).trans k5,h6⟩
end
section
variable {H : AH} {va vb : Value} {xs ys : List Nat}
theorem natAdd_spec(ha:Sl H va xs)(hb:Sl H vb ys)(dx:Dig B64 xs)(dy:Dig B64 ys)(lx:xs.length≤2*Lim)(ly:ys.length≤2*Lim):CW Tryz.prog Zo 167 [va,vb] H fun v H'=>Keep H H'∧MulIs H.n (dv B64 xs+dv B64 ys) v H':=by
 have hLim:Lim=2000000000000:=rfl;refine Zl 61 (by decide) (by decide) Tryz.func167 rfl rfl ?_;obtain⟨v1,H1,c1,e1,s1⟩:=Ug ha (by omega);obtain⟨v2,H2,c2,e2,s2⟩:=Ug hb (by omega);rw[e1]at c1;rw[e2]at c2;rw[←Vv B64 xs,←Vv B64 ys];have dx:=Jo dx;have dy:=Jo dy;have lx:(Xl xs).length≤2*Lim:=Nat.le_trans (Jp xs) lx;have ly:(Xl ys).length≤2*Lim:=Nat.le_trans (Jp ys) ly;generalize Xl xs=xs at*;generalize Xl ys=ys at*;apply Zb;intro b1 hb1;apply Za;simp;subst hb1;apply Zb;intro b1 hb1;apply Za;simp[c1,c2];subst hb1;refine Qz (fun s'=>s'.k=61∧s'.H=H∧ ∃(a b:Value) (xa xb:List Nat),Sl H a xa∧Sl H b xb∧Dig B64 xa∧Dig B64 xb∧xb.length≤xa.length∧xa.length≤2*Lim∧dv B64 xa+dv B64 xb=dv B64 xs+dv B64 ys∧s'.tm.get 0=some a∧s'.tm.get 1=some b) ?_ ?_
 ·intro Q' hQ';have l1:=s1.len Zk;have l2:=s2.len Zk;apply Zb;intro b1 hb1;apply Za;simp[l1,l2];subst hb1;by_cases h:xs.length<ys.length;·refine Zc (t:=true) (by simp[h]) ?_;apply Za;simp;apply hQ';exact⟨rfl,rfl,v2,v1,ys,xs,s2,s1,dy,dx,by omega,by omega,Nat.add_comm _ _,by simp,by simp⟩
  ·refine Zc (t:=false) (by simp[h]) ?_;apply Zj;apply hQ';exact⟨rfl,rfl,v1,v2,xs,ys,s1,s2,dx,dy,by omega,by omega,rfl,by simp,by simp⟩
 clear ha hb s1 s2 dx dy c1 c2;rintro⟨k,tm,H0⟩ ⟨hk,hH,a,b,xa,xb,ha,hb,dx,dy,hba,hla,hsum,t0,t1⟩;simp only at hk hH t0 t1;subst hk;subst hH;rw[←hsum];clear hsum lx ly;have l1:=ha.len Zk;have l2:=hb.len Zk;obtain⟨n,hn⟩: ∃n,n=xa.length:=⟨_,rfl⟩;rw[←hn]at l1;obtain⟨c0,H3,hmk,k3,o3,n3⟩:=Qj (H:=H0) Zk (n:=n+1) (by omega);apply Zb;intro b1 hb1;apply Za;simp[t0,l1,Qd (x:=n) (by omega),hmk];subst hb1;apply Zb;intro b1 hb1;apply Za;simp;subst hb1;apply Zb;intro b1 hb1;apply Zb;intro b2 hb2;apply Za;simp[t0,l1];subst hb2;apply Zx;refine Qg (fun m s'=>s'.k=61∧Keep H0 s'.H∧ ∃(i c:Nat) (L:List Nat),m+i=n∧L.length=i∧c≤1∧Dig B64 L∧dv B64 L+B64^i*c=dv B64 (xa.take i)+dv B64 (xb.take i)∧Own H0.n s'.H c0 (L++List.replicate (m+1) 0)∧s'.tm.get 0=some a∧s'.tm.get 1=some b∧s'.tm.get 6=some c0∧s'.tm.get 7=some (.int .u64 (c:Int))∧s'.tm.get 26=some (.int .i64 (n:Int))∧s'.tm.get 27=some (.int .i64 (i:Int))) ?_ n _ ⟨rfl,k3,0,0,[],by omega,rfl,by omega,.nil _,by simp[dv],by simpa using o3,by simp[t0],by simp[t1],by simp,by simp,by simp,by simp⟩;clear t0 t1;rintro m ⟨k,tm,H4⟩ ⟨hk,kH,i,c,L,hmi,hL,hc,dL,heq,own,t0,t1,t6,t7,t26,t27⟩ Q' hQ';simp only at hk kH own t0 t1 t6 t7 t26 t27;subst hk;apply Zb;intro b3 hb3;apply Za;simp[t26,t27];subst hb3;apply Zb;intro b3 hb3;by_cases hi:i<n
 ·refine Zc (t:=true) (by simp[hi]) ?_;apply Zj;subst hb3;obtain⟨m',rfl⟩: ∃m',m=m'+1:=⟨m-1,by omega⟩;have hi':i<xa.length:=by omega
  have sa:=ha.keep kH;have sb:=hb.keep kH;obtain⟨y,hy⟩: ∃y,y=nth xb i:=⟨_,rfl⟩;have hyB:y<B64:=by rw[hy];exact Cy dy (by decide) _
  obtain⟨x,hx⟩: ∃x,x=nth xa i:=⟨_,rfl⟩;have hxB:x<B64:=by rw[hx];exact Cy dx (by decide) _
  have a0:=sa.adr Zk (k:= .i64) hi';have d0:=sa.load hi';rw[←Vm hi',←hx]at d0;obtain⟨z,hz⟩: ∃z,z=(x+y+c)%B64:=⟨_,rfl⟩;obtain⟨c',hc'⟩: ∃c',c'=(x+y+c)/B64:=⟨_,rfl⟩;have hzc:B64*c'+z=x+y+c:=by rw[hz,hc'];exact Nat.div_add_mod _ _
  have hzB:z<B64:=by rw[hz];exact Nat.mod_lt _ (by decide)
  have hc1:c'≤1:=by
   have:c'<2:=by rw[hc',Nat.div_lt_iff_lt_mul (by decide)];omega
   omega
  have ac:Zq Tryz.prog Zo 203 [.int .u64 (x:Int),.int .u64 (y:Int),.int .u64 (c:Int)] H4=some (.tuple #[.int .u64 (z:Int),.int .u64 (c':Int)],H4):=by rw[hz,hc'];exact Bu x y c H4 hc
  obtain⟨H5,st5,own5,bt5,ka5⟩:=own.fill hL z;have a3:=own.sl.adr Zk (k:= .i64) (i:=i) (by simp;omega);apply Zb;intro b3 hb3;apply Zx;apply Zb;intro b4 hb4;apply Za;simp[t27];subst hb4;apply Zb;intro b4 hb4;apply Za;simp;subst hb4;refine Qz (fun s'=>s'.k=61∧s'.H=H4∧s'.tm.get 0=some a∧s'.tm.get 1=some b∧s'.tm.get 6=some c0∧s'.tm.get 7=some (.int .u64 (c:Int))∧s'.tm.get 8=some (.int .i64 (i:Int))∧s'.tm.get 9=some (.int .u64 (y:Int))∧s'.tm.get 26=some (.int .i64 (n:Int))∧s'.tm.get 27=some (.int .i64 (i:Int))) ?_ ?_
  ·intro Q'' hQ'';apply Zb;intro b4 hb4;apply Za;simp[t1,l2];subst hb4;by_cases hby:i<xb.length;·refine Zc (t:=true) (by simp[hby]) ?_;have a1:=sb.adr Zk (k:= .i64) hby;have d1:=sb.load hby;rw[←Vm hby,←hy]at d1;apply Za;simp[t1,a1,d1];apply hQ'';exact⟨rfl,rfl,by simp[t0],by simp[t1],by simp[t6],by simp[t7],by simp,by simp,by simp[t26],by simp[t27]⟩
   ·refine Zc (t:=false) (by simp[hby]) ?_;apply Zj;apply hQ'';rw[Gx (by omega)]at hy;subst hy;exact⟨rfl,rfl,by simp[t0],by simp[t1],by simp[t6],by simp[t7],by simp,by simp,by simp[t26],by simp[t27]⟩
  clear t0 t1 t6 t7 t26 t27;rintro⟨k,tm,H6⟩ ⟨hk,hH,t0,t1,t6,t7,t8,t9,t26,t27⟩;simp only at hk hH t0 t1 t6 t7 t8 t9 t26 t27;subst hk;subst hH;apply Za;simp[t0,t6,t7,t8,t9,a0,d0,ac,a3,st5];subst hb3;apply Za;simp[t27,Qd (x:=i) (by omega)];apply hQ';refine⟨m',by omega,rfl,ka5 H0 kH (Nat.le_refl _),i+1,c',L++[z],by omega,by simp[hL],hc1,dL.append (.cons hzB (.nil _)),?_,own5,by simp[t0],by simp[t1],by simp[t6],by simp,by simp[t26],by simp⟩;rw[Xc,hL,Vu,Vu,←hx,←hy];simp only[dv,Nat.mul_zero,Nat.add_zero];have e1:B64^i*(B64*c'+z)=B64^i*(x+y+c):=by rw[hzc]
  rw[Nat.mul_add,←Nat.mul_assoc,show B64^i*B64=B64^(i+1)from rfl,Nat.mul_add,Nat.mul_add]at e1;omega
 ·refine Zc (t:=false) (by simp[hi]) ?_;apply Qf;apply hQ';left;refine⟨rfl,?_⟩;obtain rfl:i=n:=by omega
  obtain rfl:m=0:=by omega
  rw[List.take_of_length_le (by omega),List.take_of_length_le (by omega)]at heq;have a3:=own.sl.adr Zk (k:= .i64) (i:=i) (by simp;omega);obtain⟨H5,st5,own5,bt5,ka5⟩:=own.fill hL c;rw[List.replicate_zero,List.append_nil]at own5;have dLc:Dig B64 (L++[c]):=dL.append (.cons (by show c<18446744073709551616;omega) (.nil _));have hval:dv B64 (L++[c])=dv B64 xa+dv B64 xb:=by rw[Xc,hL];simp only[dv,Nat.mul_zero,Nat.add_zero];exact heq
  obtain⟨v6,H6,c6,e6,h6⟩:=Zf4 own5 dLc (by simp;omega);subst e6;rw[hval]at h6;have k5:Keep H0 H6:=ka5 H0 kH (Nat.le_refl _);have h7:MulIs H0.n (dv B64 xa+dv B64 xb) v6 H6∧ ∃a b,v6= .tuple #[a,b]:=by
   rcases h6 with⟨h,rfl⟩|⟨h,u,rfl,o⟩;·exact⟨.inl ⟨h,rfl⟩,_,_,rfl⟩
   ·exact⟨.inr ⟨h,u,rfl,o⟩,_,_,rfl⟩
  obtain⟨h7,p,q,rfl⟩:=h7;subst hb1;apply Zb;intro b4 hb4;apply Za;simp[t0,t6,t7,l1,a3,st5];subst hb4;apply Zb;intro b4 hb4;apply Za;simp[t6,c6];subst hb4;apply Zn;simp;exact⟨k5,h7⟩
end
end
theorem gcd_pos{A B:Nat}(hA:0<A):0<Nat.gcd A B:=Nat.gcd_pos_of_pos_left B hA
section
attribute [-simp] Int.natCast_add Int.natCast_mul Int.natCast_ediv Int.natCast_emod Int.natCast_pow
attribute [local simp] strip Yd LW' LR gW Yf Xh Ya Xi Yo Xj Zr Zs Zh Yp Yy Yk Yq Zi Xa Ze opd Qe Ym plain Yj Tr.get_set Qc Zp Xy Yc sameKind undef Zt Yr Yv Zk Jg Jf Yb parts Jc unV DW Xq Zv LX Zy
section
variable {H : AH} {va vb : Value}
end
end
section
attribute [-simp] Int.natCast_add Int.natCast_mul Int.natCast_ediv Int.natCast_emod Int.natCast_pow
attribute [local simp] strip Yd LW' LR gW Yf Xh Ya Xi Yo Xj Zr Zs Zh Yp Yy Yk Xo Zw Yq Zi Ze Xn Xm Je Ye Xa opd Qe Ym plain Yj Tr.get_set Qc Zp Xy Yc sameKind undef Zt Yr Yv Zk Yb parts unV DW Xq Zv LX Zy
section
variable {H : AH} {va vb : Value} {xs ys : List Nat}
theorem natSub_spec(ha:Sl H va xs)(hb:Sl H vb ys)(dx:Dig B64 xs)(dy:Dig B64 ys)(lx:xs.length≤2*Lim)(ly:ys.length≤2*Lim)(hle:dv B64 ys≤dv B64 xs):CW Tryz.prog Zo 170 [va,vb] H fun v H'=>Keep H H'∧MulIs H.n (dv B64 xs-dv B64 ys) v H':=by
 have hLim:Lim=2000000000000:=rfl;refine Zl 52 (by decide) (by decide) Tryz.func170 rfl rfl ?_;obtain⟨v0,H0,cc,e0,ec⟩:=Gt ha hb dx dy (by omega) (by omega);rw[e0,ec]at cc;obtain⟨v1,H1,c1,e1,s1⟩:=Ug ha (by omega);obtain⟨v2,H2,c2,e2,s2⟩:=Ug hb (by omega);rw[e1]at c1;rw[e2]at c2;have hc0: ¬ (Un (dv B64 xs) (dv B64 ys)<0):=by rw[cmpN_lt];omega
 have hlt:Zd .lss .i64 (Un (dv B64 xs) (dv B64 ys)) 0=some (.bool false):=by rw[lss0,decide_eq_false hc0]
 generalize Un (dv B64 xs) (dv B64 ys)=cm at cc hlt;clear hc0 ec;rw[←Vv B64 xs,←Vv B64 ys]at hle⊢;have hyx:(Xl ys).length≤(Xl xs).length:=by
  rcases Nat.lt_or_ge (Xl xs).length (Xl ys).length with h|h;·have:=normal_lenlt Zz (Cd ys) (Jo dx) (Jo dy) h;omega
  ·exact h
 have dx:=Jo dx;have dy:=Jo dy;have lx:(Xl xs).length≤2*Lim:=Nat.le_trans (Jp xs) lx;have ly:(Xl ys).length≤2*Lim:=Nat.le_trans (Jp ys) ly;generalize Xl xs=xs at*;generalize Xl ys=ys at*;have l1:=s1.len Zk;have l2:=s2.len Zk;obtain⟨n,hn⟩: ∃n,n=xs.length:=⟨_,rfl⟩;rw[←hn]at l1;obtain⟨c0,H3,hmk,k3,o3,n3⟩:=Qj (H:=H) Zk (n:=n) (by omega);apply Zb;intro b1 hb1;apply Za;simp;subst hb1;apply Zb;intro b1 hb1;apply Zb;intro b2 hb2;apply Za;simp[cc,hlt];subst hb2;refine Zc (t:=false) (by simp) ?_;apply Zj;subst hb1;apply Zb;intro b1 hb1;apply Za;simp[c1,c2];subst hb1;apply Zb;intro b1 hb1;apply Za;simp[l1,hmk];subst hb1;apply Zb;intro b1 hb1;apply Za;simp;subst hb1;apply Zb;intro b1 hb1;apply Zb;intro b2 hb2;apply Za;simp[l1];subst hb2;apply Zx;refine Qg (fun m s'=>s'.k=52∧Keep H s'.H∧ ∃(i bor:Nat) (L:List Nat),m+i=n∧L.length=i∧bor≤1∧Dig B64 L∧dv B64 L+dv B64 (ys.take i)=dv B64 (xs.take i)+B64^i*bor∧Own H.n s'.H c0 (L++List.replicate m 0)∧s'.tm.get 0=some v1∧s'.tm.get 1=some v2∧s'.tm.get 6=some c0∧s'.tm.get 7=some (.int .u64 (bor:Int))∧s'.tm.get 22=some (.int .i64 (n:Int))∧s'.tm.get 23=some (.int .i64 (i:Int))) ?_ n _ ⟨rfl,k3,0,0,[],by omega,rfl,by omega,.nil _,by simp[dv],by simpa using o3,by simp,by simp,by simp,by simp,by simp,by simp⟩;rintro m ⟨k,tm,H4⟩ ⟨hk,kH,i,bor,L,hmi,hL,hbr,dL,heq,own,t0,t1,t6,t7,t22,t23⟩ Q' hQ';simp only at hk kH own t0 t1 t6 t7 t22 t23;subst hk;apply Zb;intro b3 hb3;apply Za;simp[t22,t23];subst hb3;apply Zb;intro b3 hb3;by_cases hi:i<n
 ·refine Zc (t:=true) (by simp[hi]) ?_;apply Zj;subst hb3;obtain⟨m',rfl⟩: ∃m',m=m'+1:=⟨m-1,by omega⟩;have hi':i<xs.length:=by omega
  have sa:=s1.keep kH;have sb:=s2.keep kH;obtain⟨y,hy⟩: ∃y,y=nth ys i:=⟨_,rfl⟩;have hyB:y<B64:=by rw[hy];exact Cy dy (by decide) _
  obtain⟨x,hx⟩: ∃x,x=nth xs i:=⟨_,rfl⟩;have hxB:x<B64:=by rw[hx];exact Cy dx (by decide) _
  have a0:=sa.adr Zk (k:= .i64) hi';have d0:=sa.load hi';rw[←Vm hi',←hx]at d0;have a3:=own.sl.adr Zk (k:= .i64) (i:=i) (by simp;omega);obtain⟨z,hz⟩: ∃z,z=(x+B64-y-bor)%B64:=⟨_,rfl⟩;obtain⟨b',hb'⟩: ∃b',b'=(if x<y+bor then 1 else 0):=⟨_,rfl⟩;have hzB:z<B64:=by rw[hz];exact Nat.mod_lt _ (by decide)
  have hb1':b'≤1:=by rw[hb'];split<;>omega
  have hst:z+y+bor=x+B64*b':=by
   by_cases h:x<y+bor;·rw[hz,hb',if_pos h,Nat.mod_eq_of_lt (by omega)];omega
   ·rw[hz,hb',if_neg h];have:x+B64-y-bor=(x-y-bor)+B64:=by omega
    rw[this,Nat.add_mod_right,Nat.mod_eq_of_lt (by omega)];omega
  have sc:Zq Tryz.prog Zo 206 [.int .u64 (x:Int),.int .u64 (y:Int),.int .u64 (bor:Int)] H4=some (.tuple #[.int .u64 (z:Int),.int .u64 (b':Int)],H4):=by rw[hz,hb'];exact Az x y bor H4 hbr
  obtain⟨H5,st5,own5,bt5,ka5⟩:=own.fill hL z;apply Zb;intro b3 hb3;apply Zx;apply Zb;intro b4 hb4;apply Za;simp[t23];subst hb4;apply Zb;intro b4 hb4;apply Za;simp;subst hb4;refine Qz (fun s'=>s'.k=52∧s'.H=H4∧s'.tm.get 0=some v1∧s'.tm.get 1=some v2∧s'.tm.get 6=some c0∧s'.tm.get 7=some (.int .u64 (bor:Int))∧s'.tm.get 8=some (.int .i64 (i:Int))∧s'.tm.get 9=some (.int .u64 (y:Int))∧s'.tm.get 22=some (.int .i64 (n:Int))∧s'.tm.get 23=some (.int .i64 (i:Int))) ?_ ?_
  ·intro Q'' hQ'';apply Zb;intro b5 hb5;apply Za;simp[t1,l2];subst hb5;by_cases hby:i<ys.length;·refine Zc (t:=true) (by simp[hby]) ?_;have a1:=sb.adr Zk (k:= .i64) hby;have d1:=sb.load hby;rw[←Vm hby,←hy]at d1;apply Za;simp[t1,a1,d1];apply hQ'';exact⟨rfl,rfl,by simp[t0],by simp[t1],by simp[t6],by simp[t7],by simp,by simp,by simp[t22],by simp[t23]⟩
   ·refine Zc (t:=false) (by simp[hby]) ?_;apply Zj;apply hQ'';rw[Gx (by omega)]at hy;subst hy;exact⟨rfl,rfl,by simp[t0],by simp[t1],by simp[t6],by simp[t7],by simp,by simp,by simp[t22],by simp[t23]⟩
  clear t0 t1 t6 t7 t22 t23;rintro⟨k,tm,H6⟩ ⟨hk,hH,t0,t1,t6,t7,t8,t9,t22,t23⟩;simp only at hk hH t0 t1 t6 t7 t8 t9 t22 t23;subst hk;subst hH;apply Za;simp[t0,t6,t7,t8,t9,a0,d0,sc,a3,st5];subst hb3;apply Za;simp[t23,Qd (x:=i) (by omega)];apply hQ';refine⟨m',by omega,rfl,ka5 H kH (Nat.le_refl _),i+1,b',L++[z],by omega,by simp[hL],hb1',dL.append (.cons hzB (.nil _)),?_,own5,by simp[t0],by simp[t1],by simp[t6],by simp,by simp[t22],by simp⟩;rw[Xc,hL,Vu,Vu,←hx,←hy];simp only[dv,Nat.mul_zero,Nat.add_zero];have e1:B64^i*(z+y+bor)=B64^i*(x+B64*b'):=by rw[hst]
  rw[Nat.mul_add,Nat.mul_add,Nat.mul_add,←Nat.mul_assoc,show B64^i*B64=B64^(i+1)from rfl]at e1;omega
 ·refine Zc (t:=false) (by simp[hi]) ?_;apply Qf;apply hQ';left;refine⟨rfl,?_⟩;obtain rfl:i=n:=by omega
  obtain rfl:m=0:=by omega
  rw[List.take_of_length_le (by omega),List.take_of_length_le (by omega)]at heq;rw[List.replicate_zero,List.append_nil]at own;have hlt:=Ui dL;rw[hL]at hlt;have hval:dv B64 L=dv B64 xs-dv B64 ys:=by
   generalize B64^i=P at heq hlt;have:bor=0∨bor=1:=by omega
   rcases this with rfl|rfl<;>omega
  obtain⟨v6,H6,c6,e6,h6⟩:=Zf4 own dL (by omega);subst e6;rw[hval]at h6;have h7:MulIs H.n (dv B64 xs-dv B64 ys) v6 H6∧ ∃a b,v6= .tuple #[a,b]:=by
   rcases h6 with⟨h,rfl⟩|⟨h,u,rfl,o⟩;·exact⟨.inl ⟨h,rfl⟩,_,_,rfl⟩
   ·exact⟨.inr ⟨h,u,rfl,o⟩,_,_,rfl⟩
  obtain⟨h7,p,q,rfl⟩:=h7;subst hb1;apply Zb;intro b4 hb4;apply Za;simp[t6,c6];subst hb4;apply Zn;simp;exact⟨kH,h7⟩
end
end
theorem neq30:Zd .neq .i64 3 0=some (.bool true):=rfl
theorem Es:Zd .neq .i64 0 0=some (.bool false):=rfl
theorem limb_step{x y c:Nat}(hx:x<B64)(hy:y<B64)(hc:c<B64):x*y/B64+(x*y%B64+c)/B64<B64∧(x*y%B64+c)%B64+B64*(x*y/B64+(x*y%B64+c)/B64)=x*y+c:=by have hx:x<18446744073709551616:=hx;have hy:y<18446744073709551616:=hy;have hc:c<18446744073709551616:=hc;have hp:x*y≤18446744073709551615*18446744073709551615:=Nat.mul_le_mul (by omega) (by omega);show x*y/18446744073709551616+(x*y%18446744073709551616+c)/18446744073709551616<18446744073709551616∧(x*y%18446744073709551616+c)%18446744073709551616+18446744073709551616*(x*y/18446744073709551616+(x*y%18446744073709551616+c)/18446744073709551616)=x*y+c;generalize x*y=p at*;omega
section
attribute [-simp] Int.natCast_add Int.natCast_mul Int.natCast_ediv Int.natCast_emod Int.natCast_pow
attribute [local simp] strip Yd LW' LR gW Yf Xh Ya Xi Yo Xj Zr Zs Zh Yp Yy Yk Xo Zw Yq Zi Ze Xn Xm Je Ye Xa opd Qe Ym plain Yj Tr.get_set Qc Zp Xy Yc sameKind undef Zt Yr Yv Zk Yb parts unV DW Xq Zv LX Zy
section
variable {H : AH} {va vb : Value} {xs ys : List Nat}
theorem times_spec{y:Nat}(ha:Sl H va xs)(dx:Dig B64 xs)(hy:y<B64)(lx:xs.length≤2*Lim):CW Tryz.prog Zo 166 [va,.int .u64 (y:Int)] H fun v H'=>Keep H H'∧MulIs H.n (dv B64 xs*y) v H':=by
 have hLim:Lim=2000000000000:=rfl;refine Zl 56 (by decide) (by decide) Tryz.func166 rfl rfl ?_;obtain⟨v1,H1,c1,e1,s1⟩:=Ug ha (by omega);rw[e1]at c1;rw[←Vv B64 xs];have dx:=Jo dx;have lx:(Xl xs).length≤2*Lim:=Nat.le_trans (Jp xs) lx;generalize Xl xs=xs at*;have l1:=s1.len Zk;obtain⟨n,hn⟩: ∃n,n=xs.length:=⟨_,rfl⟩;rw[←hn]at l1;obtain⟨c0,H3,hmk,k3,o3,n3⟩:=Qj (H:=H) Zk (n:=n+1) (by omega);apply Zb;intro b1 hb1;apply Za;simp;subst hb1;apply Zb;intro b1 hb1;apply Za;simp[c1];subst hb1;apply Zb;intro b1 hb1;apply Za;simp[l1,Qd (x:=n) (by omega),hmk];subst hb1;apply Zb;intro b1 hb1;apply Za;simp;subst hb1;apply Zb;intro b1 hb1;apply Zb;intro b2 hb2;apply Za;simp[l1];subst hb2;apply Zx;refine Qg (fun m s'=>s'.k=56∧Keep H s'.H∧ ∃(i c:Nat) (L:List Nat),m+i=n∧L.length=i∧c<B64∧Dig B64 L∧dv B64 L+B64^i*c=dv B64 (xs.take i)*y∧Own H.n s'.H c0 (L++List.replicate (m+1) 0)∧s'.tm.get 0=some v1∧s'.tm.get 1=some (.int .u64 (y:Int))∧s'.tm.get 6=some c0∧s'.tm.get 7=some (.int .u64 (c:Int))∧s'.tm.get 20=some v1∧s'.tm.get 21=some (.int .i64 (n:Int))∧s'.tm.get 22=some (.int .i64 (i:Int))) ?_ n _ ⟨rfl,k3,0,0,[],by omega,rfl,by decide,.nil _,by simp[dv],by simpa using o3,by simp,by simp,by simp,by simp,by simp,by simp,by simp⟩;rintro m ⟨k,tm,H4⟩ ⟨hk,kH,i,c,L,hmi,hL,hc,dL,heq,own,t0,t1,t6,t7,t20,t21,t22⟩ Q' hQ';simp only at hk kH own t0 t1 t6 t7 t20 t21 t22;subst hk;apply Zb;intro b3 hb3;apply Za;simp[t21,t22];subst hb3;apply Zb;intro b3 hb3;by_cases hi:i<n
 ·refine Zc (t:=true) (by simp[hi]) ?_;apply Zj;subst hb3;obtain⟨m',rfl⟩: ∃m',m=m'+1:=⟨m-1,by omega⟩;have hi':i<xs.length:=by omega
  have sa:=s1.keep kH;obtain⟨x,hx⟩: ∃x,x=nth xs i:=⟨_,rfl⟩;have hxB:x<B64:=by rw[hx];exact Cy dx (by decide) _
  have a0:=sa.adr Zk (k:= .i64) hi';have d0:=sa.load hi';rw[←Vm hi',←hx]at d0;have a3:=own.sl.adr Zk (k:= .i64) (i:=i) (by simp;omega);obtain⟨g1,g2⟩:=limb_step hxB hy hc;obtain⟨z,hz⟩: ∃z,z=(x*y%B64+c)%B64:=⟨_,rfl⟩;obtain⟨h1,hh1⟩: ∃h1,h1=x*y/B64:=⟨_,rfl⟩;obtain⟨h2,hh2⟩: ∃h2,h2=(x*y%B64+c)/B64:=⟨_,rfl⟩;have mc:=Ao hxB hy H4;have ac:=Gh (x*y%B64) c H4;have hzB:z<B64:=by rw[hz];exact Nat.mod_lt _ (by decide)
  rw[←hh1]at mc;rw[←hz,←hh2]at ac;rw[←hz,←hh1,←hh2]at g2;rw[←hh1,←hh2]at g1;obtain⟨H5,st5,own5,bt5,ka5⟩:=own.fill hL z;apply Zb;intro b3 hb3;apply Zx;apply Zb;intro b4 hb4;apply Za;simp[t20,t22,a0,d0];subst hb4;apply Zb;intro b4 hb4;apply Za;simp[t1,mc];subst hb4;apply Zb;intro b4 hb4;apply Za;simp[t7,ac];subst hb4;apply Zb;intro b4 hb4;apply Za;simp[t6,a3,st5];subst hb4;apply Za;simp[addu (x:=h1) (y:=h2) g1];subst hb3;apply Za;simp[t22,Qd (x:=i) (by omega)];apply hQ';refine⟨m',by omega,rfl,ka5 H kH (Nat.le_refl _),i+1,h1+h2,L++[z],by omega,by simp[hL],g1,dL.append (.cons hzB (.nil _)),?_,own5,by simp[t0],by simp[t1],by simp[t6],by simp,by simp[t20],by simp[t21],by simp⟩;rw[Xc,hL,Vu,←hx];simp only[dv,Nat.mul_zero,Nat.add_zero];have e1:B64^i*(z+B64*(h1+h2))=B64^i*(x*y+c):=by rw[g2]
  rw[Nat.mul_add (B64^i) z,←Nat.mul_assoc (B64^i) B64,show B64^i*B64=B64^(i+1)from rfl,Nat.mul_add (B64^i) (x*y) c,←Nat.mul_assoc (B64^i) x y]at e1;rw[Nat.add_mul];omega
 ·refine Zc (t:=false) (by simp[hi]) ?_;apply Qf;apply hQ';left;refine⟨rfl,?_⟩;obtain rfl:i=n:=by omega
  obtain rfl:m=0:=by omega
  rw[List.take_of_length_le (by omega)]at heq;have a3:=own.sl.adr Zk (k:= .i64) (i:=i) (by simp;omega);obtain⟨H5,st5,own5,bt5,ka5⟩:=own.fill hL c;rw[List.replicate_zero,List.append_nil]at own5;have dLc:Dig B64 (L++[c]):=dL.append (.cons hc (.nil _));have hval:dv B64 (L++[c])=dv B64 xs*y:=by rw[Xc,hL];simp only[dv,Nat.mul_zero,Nat.add_zero];exact heq
  obtain⟨v6,H6,c6,e6,h6⟩:=Zf4 own5 dLc (by simp;omega);subst e6;rw[hval]at h6;have k5:Keep H H6:=ka5 H kH (Nat.le_refl _);have h7:MulIs H.n (dv B64 xs*y) v6 H6∧ ∃a b,v6= .tuple #[a,b]:=by
   rcases h6 with⟨h,rfl⟩|⟨h,u,rfl,o⟩;·exact⟨.inl ⟨h,rfl⟩,_,_,rfl⟩
   ·exact⟨.inr ⟨h,u,rfl,o⟩,_,_,rfl⟩
  obtain⟨h7,p,q,rfl⟩:=h7;subst hb1;apply Zb;intro b4 hb4;apply Za;simp[t0,t6,t7,l1,a3,st5];subst hb4;apply Zb;intro b4 hb4;apply Za;simp[t6,c6];subst hb4;apply Zn;simp;exact⟨k5,h7⟩
def Zm2(n0:Nat)(N y:Nat)(v:Value)(H':AH):Prop:=(67108864<Zf (N/y)∧v= .tuple #[.slice none 0 0,.int .u64 0,.int .i64 3])∨(Zf (N/y)≤67108864∧ ∃u,v= .tuple #[u,.int .u64 ((N%y:Nat):Int),.int .i64 0]∧Own n0 H' u (ds B64 (N/y)))
theorem through_spec{y:Nat}(ha:Sl H va xs)(dx:Dig B64 xs)(hy:y<B64)(hy0:0<y)(lx:xs.length≤2*Lim):CW Tryz.prog Zo 168 [va,.int .u64 (y:Int)] H fun v H'=>Keep H H'∧Zm2 H.n (dv B64 xs) y v H':=by
 have hLim:Lim=2000000000000:=rfl;refine Zl 48 (by decide) (by decide) Tryz.func168 rfl rfl ?_;obtain⟨v1,H1,c1,e1,s1⟩:=Ug ha (by omega);rw[e1]at c1;rw[←Vv B64 xs];have dx:=Jo dx;have lx:(Xl xs).length≤2*Lim:=Nat.le_trans (Jp xs) lx;generalize Xl xs=xs at*;have l1:=s1.len Zk;obtain⟨n,hn⟩: ∃n,n=xs.length:=⟨_,rfl⟩;rw[←hn]at l1;have ey:Zd .eql .u64 (y:Int) 0=some (.bool false):=by rw[eql0,decide_eq_false (by omega)]
 obtain⟨c0,H3,hmk,k3,o3,n3⟩:=Qj (H:=H) Zk (n:=n) (by omega);apply Zb;intro b1 hb1;apply Za;simp;subst hb1;apply Zb;intro b1 hb1;apply Zb;intro b2 hb2;apply Za;simp[ey];subst hb2;refine Zc (t:=false) (by simp) ?_;apply Zj;subst hb1;apply Zb;intro b1 hb1;apply Za;simp[c1];subst hb1;apply Zb;intro b1 hb1;apply Za;simp[l1,hmk];subst hb1;apply Zb;intro b1 hb1;apply Za;simp;subst hb1;apply Zb;intro b1 hb1;apply Zb;intro b2 hb2;apply Za;simp[l1,Zl5 (m:=n) (by omega)];subst hb2;apply Zx;refine Qg (fun m s'=>s'.k=48∧Keep H s'.H∧ ∃(r:Nat) (R:List Nat),m+R.length=n∧r<y∧Dig B64 R∧dv B64 R*y+r=dv B64 (xs.drop m)∧Own H.n s'.H c0 (List.replicate m 0++R)∧s'.tm.get 0=some v1∧s'.tm.get 1=some (.int .u64 (y:Int))∧s'.tm.get 7=some c0∧s'.tm.get 8=some (.int .u64 (r:Int))∧s'.tm.get 9=some (.int .i64 ((m:Int)-1))) ?_ n _ ⟨rfl,k3,0,[],by simp,hy0,.nil _,by rw[List.drop_of_length_le (by omega)];simp[dv],by simpa using o3,by simp,by simp,by simp,by simp,by simp⟩;rintro m ⟨k,tm,H4⟩ ⟨hk,kH,r,R,hmR,hr,dR,heq,own,t0,t1,t7,t8,t9⟩ Q' hQ';simp only at hk kH own t0 t1 t7 t8 t9;subst hk;apply Zb;intro b3 hb3;apply Zb;intro b4 hb4;apply Za;simp[t9,geq_pred (m:=m)];subst hb4;by_cases hm:0<m
 ·refine Zc (t:=true) (by simp[hm]) ?_;apply Zj;subst hb3;obtain⟨m',rfl⟩: ∃m',m=m'+1:=⟨m-1,by omega⟩;have em:((m'+1:Nat):Int)-1=(m':Int):=by omega
  rw[em]at t9;have hi':m'<xs.length:=by omega
  have sa:=s1.keep kH;obtain⟨x,hx⟩: ∃x,x=nth xs m':=⟨_,rfl⟩;have hxB:x<B64:=by rw[hx];exact Cy dx (by decide) _
  have a0:=sa.adr Zk (k:= .i64) hi';have d0:=sa.load hi';rw[←Vm hi',←hx]at d0;have a3:=own.sl.adr Zk (k:= .i64) (i:=m') (by simp;omega);have dc:=Zg6 (h:=r) (l:=x) (y:=y) hr hxB hy H4;obtain⟨q,hq⟩: ∃q,q=(r*B64+x)/y:=⟨_,rfl⟩;obtain⟨r',hr'⟩: ∃r',r'=(r*B64+x)%y:=⟨_,rfl⟩;rw[←hq,←hr']at dc;have hqr:y*q+r'=r*B64+x:=by rw[hq,hr'];exact Nat.div_add_mod _ _
  have hqB:q<B64:=by rw[hq,Nat.div_lt_iff_lt_mul hy0];have:(r+1)*B64≤y*B64:=Nat.mul_le_mul_right _ hr;rw[Nat.add_mul,Nat.one_mul]at this;rw[Nat.mul_comm B64 y];omega
  have hr2:r'<y:=by rw[hr'];exact Nat.mod_lt _ hy0
  obtain⟨H5,st5,own5,n5,bt5,ka5⟩:=own.put (i:=m') (by simp;omega) q;have eset:(List.replicate (m'+1) 0++R).set m' q=List.replicate m' 0++(q::R):=by rw[List.replicate_succ',List.append_assoc];exact Ks _ _ _ _ (by simp)
  rw[eset]at own5;apply Zb;intro b3 hb3;apply Zx;apply Za;simp[t0,t1,t7,t8,t9,a0,d0,dc,a3,st5];subst hb3;apply Za;simp[t9,Zl5 (m:=m') (by omega)];apply hQ';refine⟨m',by omega,rfl,ka5 H kH (Nat.le_refl _),r',q::R,by simp at hmR⊢;omega,hr2,.cons hqB dR,?_,own5,by simp[t0],by simp[t1],by simp[t7],by simp,by simp⟩;have ed:xs.drop m'=x::xs.drop (m'+1):=by rw[List.drop_eq_getElem_cons hi',hx,Vm hi']
  rw[ed];simp only[dv];rw[←heq,Nat.mul_add,Nat.add_mul,Nat.mul_comm q y,Nat.mul_assoc];have:B64*r=r*B64:=Nat.mul_comm _ _;omega
 ·refine Zc (t:=false) (by simp[hm]) ?_;apply Qf;apply hQ';left;refine⟨rfl,?_⟩;obtain rfl:m=0:=by omega
  rw[List.drop_zero]at heq;rw[List.replicate_zero,List.nil_append]at own;have hdiv:dv B64 xs/y=dv B64 R∧dv B64 xs%y=r:=by rw[←heq,Nat.mul_comm];exact⟨by rw[Nat.mul_add_div hy0,Nat.div_eq_of_lt hr,Nat.add_zero],by rw[Nat.mul_add_mod,Nat.mod_eq_of_lt hr]⟩
  obtain⟨v6,H6,c6,e6,h6⟩:=Zf4 own dR (by omega);subst e6;rw[←hdiv.1]at h6;have h7: ∃a b,v6= .tuple #[a,.int .i64 b]∧((b=3∧Zm2 H.n (dv B64 xs) y (.tuple #[.slice none 0 0,.int .u64 0,.int .i64 3]) H6)∨(b=0∧Zm2 H.n (dv B64 xs) y (.tuple #[a,.int .u64 (r:Int),.int .i64 0]) H6)):=by
   rcases h6 with⟨h,rfl⟩|⟨h,u,rfl,o⟩;·exact⟨_,_,rfl,.inl ⟨rfl,.inl ⟨h,rfl⟩⟩⟩
   ·exact⟨_,_,rfl,.inr ⟨rfl,.inr ⟨h,u,by rw[hdiv.2],o⟩⟩⟩
  obtain⟨p,b,rfl,⟨rfl,h7⟩|⟨rfl,h7⟩⟩:=h7;·subst hb1;apply Zb;intro b1 hb1;apply Za;simp[t7,c6];subst hb1;apply Zb;intro b1 hb1;apply Zb;intro b2 hb2;apply Za;simp[neq30];subst hb2;refine Zc (t:=true) (by simp) ?_;apply Zb;intro b2 hb2;apply Za;simp;subst hb2;apply Zn;simp[Xw];exact⟨kH,h7⟩
  ·subst hb1;apply Zb;intro b1 hb1;apply Za;simp[t7,c6];subst hb1;apply Zb;intro b1 hb1;apply Zb;intro b2 hb2;apply Za;simp[Es];subst hb2;refine Zc (t:=false) (by simp) ?_;apply Zj;subst hb1;apply Zb;intro b2 hb2;apply Za;simp[t8];subst hb2;apply Zn;simp;exact⟨kH,h7⟩
end
end
theorem quo64{x:Nat}(h:x<9223372036854775808):Zd .quo .i64 (x:Int) 64=some (.int .i64 ((x/64:Nat):Int)):=quo_i64 (y:=64) h (by decide)
theorem rem64{x:Nat} :Zd .rem .i64 (x:Int) 64=some (.int .i64 ((x%64:Nat):Int)):=rem_i64 (y:=64) (by decide)
theorem lss_neg{x:Nat} :Zd .lss .i64 (x:Int) 0=some (.bool false):=by rw[lss0,decide_eq_false (by omega)]
theorem pow_limbs{n:Nat}{q s:Nat}(hq:q=n/64)(hs:s=n%64):Dig B64 ((List.replicate (q+2) 0).set q (2^s))∧dv B64 ((List.replicate (q+2) 0).set q (2^s))=2^n:=by
 have hs64:s<64:=by omega
 have hlt:2^s<B64:=by show 2^s<2^64;exact Nat.pow_lt_pow_right (by decide) hs64
 refine⟨(Be (by decide) _).set hlt,?_⟩;have h:=dv_set B64 (List.replicate (q+2) 0) q (2^s) (by simp);rw[List.getElem_replicate,Nat.mul_zero,Nat.add_zero]at h;rw[h];have h0:dv B64 (List.replicate (q+2) 0)=0:=dv_zero_of fun x hx=>(List.mem_replicate.mp hx).2;rw[h0,Nat.zero_add];have:B64^q=2^(64*q):=(Nat.pow_mul 2 64 q).symm;rw[this,←Nat.pow_add];congr 1;omega
section
attribute [-simp] Int.natCast_add Int.natCast_mul Int.natCast_ediv Int.natCast_emod Int.natCast_pow
attribute [local simp] strip Yd LW' LR gW Yf Xh Ya Xi Yo Xj Zr Zs Zh Yp Yy Yk Xo Zw Yq Zi Ze Xn Xm Je Ye Xa opd Qe Ym plain Yj Tr.get_set Qc Zp Xy Yc sameKind undef Zt Yr Yv Zk Yb parts unV DW Xq Zv LX Zy
section
variable {H : AH} {va vb : Value} {xs ys : List Nat}
theorem leftOne_spec{n:Nat}(ha:Sl H va [1])(hn:n≤60000000):CW Tryz.prog Zo 201 [va,.int .i64 (n:Int)] H fun v H'=>Keep H H'∧ ∃u,v= .tuple #[u,.int .i64 0]∧Own H.n H' u (ds B64 (2^n)):=by
 refine Zl 73 (by decide) (by decide) Tryz.func201 rfl rfl ?_;obtain⟨v1,H1,c1,e1,s1⟩:=Ug ha (by simp);rw[e1]at c1;have e3:Xl [1]=[1]:=rfl;rw[e3]at s1;have d1:Dig B64 [1]:= .cons (by decide) (.nil _);obtain⟨v2,H2,c2,e2,e2'⟩:=Uk s1 d1 (by simp);rw[e2,e2']at c2;have hbl:Zf (dv B64 [1])=1:=by decide
 rw[hbl]at c2;have c2:Zq Tryz.prog Zo 123 [v1] H=some (.int .i64 1,H):=c2;have l1:lenV Tryz.prog 30 v1=some 1:=s1.len Zk;have a0:Yt Tryz.prog 30 v1 (.int .i64 0)=some (adr v1 0):=s1.adr Zk (k:= .i64) (i:=0) (by simp);obtain⟨q,hq⟩: ∃q,q=n/64:=⟨_,rfl⟩;obtain⟨s,hs⟩: ∃s,s=n%64:=⟨_,rfl⟩;obtain⟨c0,H3,hmk,k3,o3,n3⟩:=Qj (H:=H) Zk (n:=q+2) (by omega);have d0:Yn Tryz.prog H3 101 (adr v1 0)=some (.int .u64 1):=(s1.keep k3).load (i:=0) (by simp);have g1:Zd .gtr .i64 (n:Int) 1099511627776=some (.bool false):=by have h:=Kc (k:= .i64) (x:=n) (y:=1099511627776);rw[decide_eq_false (by omega)]at h;exact h
 have g2:Zd .add .i64 1 (n:Int)=some (.int .i64 ((1+n:Nat):Int)):=Gr (x:=1) (y:=n) (by omega);have g3:Zd .gtr .i64 ((1+n:Nat):Int) 67108864=some (.bool false):=by have h:=Kc (k:= .i64) (x:=1+n) (y:=67108864);rw[decide_eq_false (by omega)]at h;exact h
 have g4:Zd .quo .i64 (n:Int) 64=some (.int .i64 (q:Int)):=by rw[hq];exact quo64 (by omega)
 have g5:Zd .rem .i64 (n:Int) 64=some (.int .i64 (s:Int)):=by rw[hs];exact rem64
 have g6:=conv_uint (n:=s) (by omega);have g7:Zd .add .i64 (q:Int) 1=some (.int .i64 ((q+1:Nat):Int)):=Qd (x:=q) (by omega);have g8:Zd .add .i64 ((q+1:Nat):Int) 1=some (.int .i64 ((q+2:Nat):Int)):=Qd (x:=q+1) (by omega);have g9:Zd .add .i64 (q:Int) 0=some (.int .i64 (q:Int)):=Gr (x:=q) (y:=0) (by omega);have hs64:s<64:=by omega
 have hlt:2^s<B64:=by show 2^s<2^64;exact Nat.pow_lt_pow_right (by decide) hs64
 obtain⟨P,hP⟩: ∃P,P=2^s:=⟨_,rfl⟩;have g10:Ql .shl .u64 1 (s:Int)=some (.int .u64 (P:Int)):=by have h:=Aw (x:=1) (s:=s) (by omega);rw[Nat.one_mul,Nat.mod_eq_of_lt hlt,←hP]at h;exact h
 have g11:Zd .or .u64 0 (P:Int)=some (.int .u64 (P:Int)):=by have h:=or_u64 (x:=0) (y:=P) (by decide) (by omega);rw[Nat.zero_or]at h;exact h
 have g12:Ql .shr .u64 1 1=some (.int .u64 0):=Cr (x:=1) (s:=1) (by omega);have g13:Zd .sub .u64 63 (s:Int)=some (.int .u64 ((63-s:Nat):Int)):=Zf3 (x:=63) (y:=s) (by decide) (by omega);have g14:Ql .shr .u64 0 ((63-s:Nat):Int)=some (.int .u64 0):=by have h:=Cr (x:=0) (s:=63-s) (by omega);rw[Nat.zero_div]at h;exact h
 have g15:Zd .or .u64 0 0=some (.int .u64 0):=or_u64 (x:=0) (y:=0) (by decide) (by decide);have i1:=o3.sl.adr Zk (k:= .i64) (i:=q) (by simp);have w1:=o3.sl.load (i:=q) (by simp);rw[List.getElem_replicate]at w1;have w1:Yn Tryz.prog H3 101 (adr c0 q)=some (.int .u64 0):=w1;obtain⟨H4,st4,o4,n4,bt4,ka4⟩:=o3.put (i:=q) (by simp) P;have i2:=o4.sl.adr Zk (k:= .i64) (i:=q+1) (by simp);have w2:=o4.sl.load (i:=q+1) (by simp);rw[List.getElem_set_ne (by omega),List.getElem_replicate]at w2;have w2:Yn Tryz.prog H4 101 (adr c0 (q+1))=some (.int .u64 0):=w2;obtain⟨H5,st5,o5,n5,bt5,ka5⟩:=o4.put (i:=q+1) (by simp) 0;have st5:Xp Tryz.prog H4 101 (adr c0 (q+1)) (.int .u64 0)=some H5:=st5;have eset:((List.replicate (q+2) 0).set q P).set (q+1) 0=(List.replicate (q+2) 0).set q P:=by
  apply List.ext_getElem;·simp
  ·intro i h1 h2;by_cases hi:q+1=i;·subst hi;rw[List.getElem_set_self,List.getElem_set_ne (by omega),List.getElem_replicate]
   ·rw[List.getElem_set_ne hi]
 rw[eset]at o5;obtain⟨p1,p2⟩:=pow_limbs hq hs;rw[←hP]at p1 p2;obtain⟨v6,H6,c6,e6,o6⟩:=trim_own o5 (by simp;omega);subst e6;rw[Ji Zz p1,p2]at o6;have k5:Keep H H6:=ka5 H (ka4 H k3 (Nat.le_refl _)) (Nat.le_refl _);apply Zb;intro b1 hb1;apply Za;simp;subst hb1;apply Zb;intro b1 hb1;apply Zb;intro b2 hb2;apply Za;simp[lss_neg,g1];subst hb2;refine Zc (t:=false) (by simp) ?_;apply Zj;subst hb1;apply Zb;intro b1 hb1;apply Za;simp[c1];subst hb1;apply Zb;intro b1 hb1;apply Zb;intro b2 hb2;apply Za;simp[l1,show Zd .eql .i64 1 0=some (.bool false)from rfl];subst hb2;refine Zc (t:=false) (by simp) ?_;apply Zj;subst hb1;apply Zb;intro b1 hb1;apply Zb;intro b2 hb2;apply Za;simp[c2,g2,g3];subst hb2;refine Zc (t:=false) (by simp) ?_;apply Zj;subst hb1;apply Zb;intro b1 hb1;apply Za;simp[g4,g5,g6];subst hb1;apply Zb;intro b1 hb1;apply Za;simp[l1,g7,g8,hmk];subst hb1;apply Zb;intro b1 hb1;apply Zb;intro b2 hb2;apply Za;simp[l1];subst hb2;apply Zx;apply W_loop1;apply Zb;intro b3 hb3;apply Za;simp[show Zd .lss .i64 0 1=some (.bool true)from rfl];subst hb3;apply Zb;intro b3 hb3;refine Zc (t:=true) (by simp) ?_;apply Zj;subst hb3;apply Zb;intro b3 hb3;apply Zx;apply Zb;intro b4 hb4;apply Za;simp[a0,d0];subst hb4;apply Zb;intro b4 hb4;apply Za;simp[g9,i1,w1,g10,g11,st4];subst hb4;apply Za;simp[g9,g7,i2,w2,g12,g13,g14,g15,st5];subst hb3;apply Za;simp[show Zd .add .i64 0 1=some (.int .i64 1)from rfl];apply W_loop1;apply Zb;intro b3 hb3;apply Za;simp[show Zd .lss .i64 1 1=some (.bool false)from rfl];subst hb3;apply Zb;intro b3 hb3;refine Zc (t:=false) (by simp) ?_;apply Qf;left;refine⟨rfl,?_⟩;subst hb1;apply Zb;intro b4 hb4;apply Za;simp[c6];subst hb4;apply Zn;simp;exact⟨k5,o6⟩
end
section
variable {H : AH} {va vb : Value} {xs ys : List Nat} {A B : Nat}
theorem power_call{n:Nat}(hn:n≤60000000): ∃u H',Zq Tryz.prog Zo 165 [.int .i64 (n:Int)] H=some (u,H')∧Keep H H'∧Own H.n H' u (ds B64 (2^n)):=by suffices h:CW Tryz.prog Zo 165 [.int .i64 (n:Int)] H fun v H'=>Keep H H'∧Own H.n H' v (ds B64 (2^n))from h;obtain⟨v1,H1,c1,k1,o1⟩:=Fq (H:=H) (x:=1) (by decide);rw[ds1 (by decide) (by decide)]at o1;have c1:Zq Tryz.prog Zo 164 [.int .u64 1] H=some (v1,H1):=c1;obtain⟨v2,H2,c2,k2,u,rfl,o2⟩:=leftOne_spec o1.sl hn;refine Zl 12 (by decide) (by decide) Tryz.func165 rfl rfl ?_;apply Zb;intro b1 hb1;apply Za;simp;subst hb1;apply Zb;intro b1 hb1;apply Za;simp[c1,c2];subst hb1;apply Zb;intro b1 hb1;apply Za;simp;subst hb1;apply Zn;simp;exact⟨k1.trans k2,o2.mono k1.n (.refl _)⟩
theorem rootsFits_call(ha:Sl H va xs)(dx:Dig B64 xs)(lx:xs.length≤17592186044416)(hb:Zf (dv B64 xs)≤67108864): ∃u H',Zq Tryz.prog Zo 126 [va] H=some (.tuple #[u,.int .i64 0],H')∧Keep H H'∧Own H.n H' u (ds B64 (dv B64 xs)):=by
 suffices h:CW Tryz.prog Zo 126 [va] H fun v H'=> ∃u,v= .tuple #[u,.int .i64 0]∧Keep H H'∧Own H.n H' u (ds B64 (dv B64 xs)) by obtain⟨v,H',hc,u,rfl,k,o⟩:=h;exact⟨u,H',hc,k,o⟩
 obtain⟨v1,H1,c1,e1,e1'⟩:=Uk ha dx lx;rw[e1,e1']at c1;obtain⟨v2,H2,c2,k2,o2⟩:=Uw ha lx;rw[Ji Zz dx]at o2;obtain⟨L,hL⟩: ∃L,L=Zf (dv B64 xs):=⟨_,rfl⟩;rw[←hL]at c1 hb;have g1:Zd .gtr .i64 (L:Int) 67108864=some (.bool false):=by have h:=Kc (k:= .i64) (x:=L) (y:=67108864);rw[decide_eq_false (by omega)]at h;exact h
 refine Zl 9 (by decide) (by decide) Tryz.func126 rfl rfl ?_;apply Zb;intro b1 hb1;apply Za;simp;subst hb1;apply Zb;intro b1 hb1;apply Zb;intro b2 hb2;apply Za;simp[c1,g1];subst hb2;refine Zc (t:=false) (by simp) ?_;apply Zj;subst hb1;apply Zb;intro b1 hb1;apply Za;simp[c2];subst hb1;apply Zn;simp;exact⟨k2,o2⟩
theorem Zo7(ha:Sl H va (ds B64 A))(hb:Sl H vb (ds B64 B))(lA:(ds B64 A).length≤Lim)(lB:(ds B64 B).length≤Lim)(hle:B≤A)(h:Zf A≤67108864): ∃u H',Zq Tryz.prog Zo 170 [va,vb] H=some (.tuple #[u,.int .i64 0],H')∧Keep H H'∧Own H.n H' u (ds B64 (A-B)):=by
 obtain⟨v,H',hc,k,hm⟩:=natSub_spec ha hb (Xv Zz A) (Xv Zz B) (by omega) (by omega) (by rw[Qk Zz,Qk Zz];exact hle);rw[Qk Zz,Qk Zz]at hm;have hmono:=Yi (n:=A-B) (m:=A) (by omega);rcases hm with⟨h1,_⟩|⟨h1,u,rfl,o⟩;·omega
 ·exact⟨u,H',hc,k,o⟩
theorem Zo6(ha:Sl H va (ds B64 A))(hb:Sl H vb (ds B64 B))(lA:(ds B64 A).length≤Lim)(lB:(ds B64 B).length≤Lim)(h:Zf (A+B)≤67108864): ∃u H',Zq Tryz.prog Zo 167 [va,vb] H=some (.tuple #[u,.int .i64 0],H')∧Keep H H'∧Own H.n H' u (ds B64 (A+B)):=by
 obtain⟨v,H',hc,k,hm⟩:=natAdd_spec ha hb (Xv Zz A) (Xv Zz B) (by omega) (by omega);rw[Qk Zz,Qk Zz]at hm;rcases hm with⟨h1,_⟩|⟨h1,u,rfl,o⟩;·omega
 ·exact⟨u,H',hc,k,o⟩
theorem Bj(ha:Sl H va (ds B64 A))(hb:Sl H vb (ds B64 B))(lA:(ds B64 A).length≤Lim)(lB:(ds B64 B).length≤Lim)(h:Zf (A*B)≤67108864): ∃u H',Zq Tryz.prog Zo 146 [va,vb] H=some (.tuple #[u,.int .i64 0],H')∧Keep H H'∧Own H.n H' u (ds B64 (A*B)):=by
 obtain⟨v,H',hc,k,hm⟩:=mul_spec ha hb (Xv Zz A) (Xv Zz B) (by omega) (by omega);rw[Qk Zz,Qk Zz]at hm;rcases hm with⟨h1,_⟩|⟨h1,u,rfl,o⟩;·omega
 ·exact⟨u,H',hc,k,o⟩
theorem Kk(ha:Sl H va (ds B64 A))(hb:Sl H vb (ds B64 B))(lA:(ds B64 A).length≤Lim)(lB:(ds B64 B).length≤Lim)(h0:0<B)(h:Zf A≤67108864): ∃u H',Zq Tryz.prog Zo 141 [va,vb] H=some (.tuple #[u,.int .i64 0],H')∧Keep H H'∧Own H.n H' u (ds B64 (A/B)):=by
 obtain⟨v,H',hc,k,hm⟩:=quo_spec ha hb (Xv Zz A) (Xv Zz B) lA lB;rw[Qk Zz,Qk Zz]at hm;have hmono:=Yi (n:=A/B) (m:=A) (Nat.div_le_self _ _);rcases hm with⟨h1,_⟩|⟨_,h1,_⟩|⟨_,h1,u,rfl,o⟩;·omega
 ·omega
 ·exact⟨u,H',hc,k,o⟩
theorem Zc4(ha:Sl H va (ds B64 A))(hb:Sl H vb (ds B64 B))(lA:(ds B64 A).length≤Lim)(lB:(ds B64 B).length≤Lim): ∃u H',Zq Tryz.prog Zo 139 [va,vb] H=some (u,H')∧Keep H H'∧Own H.n H' u (ds B64 (Nat.gcd A B)):=by obtain⟨v,H',hc,k,o⟩:=gcd_spec ha hb (Xv Zz A) (Xv Zz B) lA lB;rw[Qk Zz,Qk Zz]at o;exact⟨v,H',hc,k,o⟩
theorem Uv(ha:Sl H va xs)(dx:Dig B64 xs)(lx:xs.length≤17592186044416): ∃u H',Zq Tryz.prog Zo 120 [va] H=some (u,H')∧Keep H H'∧Own H.n H' u (ds B64 (dv B64 xs)):=by obtain⟨v,H',hc,k,o⟩:=Uw ha lx;rw[Ji Zz dx]at o;exact⟨v,H',hc,k,o⟩
theorem less_call(ha:Sl H va (ds B64 A))(hb:Sl H vb (ds B64 B))(lA:(ds B64 A).length≤Lim)(lB:(ds B64 B).length≤Lim)(hle:B≤A)(h:Zf A≤67108864): ∃u H',Zq Tryz.prog Zo 129 [va,vb] H=some (u,H')∧Keep H H'∧Own H.n H' u (ds B64 (A-B)):=by suffices hs:CW Tryz.prog Zo 129 [va,vb] H fun v H'=>Keep H H'∧Own H.n H' v (ds B64 (A-B))from hs;obtain⟨u,H1,c1,k1,o1⟩:=Zo7 ha hb lA lB hle h;refine Zl 14 (by decide) (by decide) Tryz.func129 rfl rfl ?_;apply Zb;intro b1 hb1;apply Za;simp;subst hb1;apply Zb;intro b1 hb1;apply Za;simp[c1];subst hb1;apply Zb;intro b1 hb1;apply Za;simp;subst hb1;apply Zn;simp;exact⟨k1,o1⟩
theorem square_call(ha:Sl H va (ds B64 A))(lA:(ds B64 A).length≤Lim)(h:Zf (A*A)≤67108864): ∃u H',Zq Tryz.prog Zo 169 [va] H=some (.tuple #[u,.int .i64 0],H')∧Keep H H'∧Own H.n H' u (ds B64 (A*A)):=by
 suffices hs:CW Tryz.prog Zo 169 [va] H fun v H'=> ∃u,v= .tuple #[u,.int .i64 0]∧Keep H H'∧Own H.n H' u (ds B64 (A*A)) by obtain⟨v,H',hc,u,rfl,k,o⟩:=hs;exact⟨u,H',hc,k,o⟩
 obtain⟨u,H1,c1,k1,o1⟩:=Bj ha ha lA lA h;refine Zl 9 (by decide) (by decide) Tryz.func169 rfl rfl ?_;apply Zb;intro b1 hb1;apply Za;simp;subst hb1;apply Zb;intro b1 hb1;apply Za;simp[c1];subst hb1;apply Zn;simp;exact⟨k1,o1⟩
end
end
theorem shr_i64{x s:Nat}(hs:s≤64):Ql .shr .i64 (x:Int) (s:Int)=some (.int .i64 ((x/2^s:Nat):Int)):=by unfold Ql;rw[if_neg (by omega)];simp only[show IntKind.i64.bits=64 from rfl,Int.toNat_natCast,Nat.min_eq_left hs];rw[Zc2]
theorem and1_i64{x:Nat}(hx:x<9223372036854775808):Zd .and .i64 (x:Int) 1=some (.int .i64 ((x%2:Nat):Int)):=by
 have hx':x<B64:=Nat.lt_trans hx (by decide);have e:(BitVec.ofInt 64 (x:Int)&&&BitVec.ofInt 64 ((1:Nat):Int)).toNat=x&&&1:=by rw[BitVec.toNat_and,bv_nat hx',bv_nat (by decide)]
 show some (Value.int .i64 (IntKind.i64.wrap ((BitVec.ofInt 64 (x:Int)&&&BitVec.ofInt 64 ((1:Nat):Int)).toNat:Nat)))=_;rw[e,Nat.and_one_is_mod,Zm1 (by omega)]
theorem blen_pow{A k:Nat}(hA:0<A):(Zf A-1)*k+1≤Zf (A^k):=by
 have h1:=Ul (n:=A) (by omega);have h2:2^((Zf A-1)*k)≤A^k:=by rw[Nat.pow_mul];exact Nat.pow_le_pow_left h1 k
 have h3:=Um (A^k);have:=(Nat.pow_lt_pow_iff_right (a:=2) (by decide)).mp (Nat.lt_of_le_of_lt h2 h3);omega
theorem eql1N{x:Nat} :Zd .eql .i64 (x:Int) 1=some (.bool (decide (x=1))):=Ze2 (y:=1)
theorem leq1N{x:Nat} :Zd .leq .i64 (x:Int) 1=some (.bool (decide (x≤1))):=Zk2 (y:=1)
theorem pow_shift{A k i:Nat} :A^(k/2^i)=A^(k/2^(i+1))*A^(k/2^(i+1))*(if k/2^i%2=1 then A else 1):=by
 have h:k/2^i=k/2^(i+1)+k/2^(i+1)+k/2^i%2:=by
  have:k/2^(i+1)=k/2^i/2:=by rw[Nat.pow_succ,Nat.div_div_eq_div_mul]
  omega
 rw[←Nat.pow_add];conv=>lhs;rw[h,Nat.pow_add]
 congr 1;split;·rename_i h1;rw[h1,Nat.pow_one]
 ·rw[show k/2^i%2=0 by omega,Nat.pow_zero]
section
attribute [-simp] Int.natCast_add Int.natCast_mul Int.natCast_ediv Int.natCast_emod Int.natCast_pow
attribute [local simp] strip Yd LW' LR gW Yf Xh Ya Xi Yo Xj Zr Zs Zh Yp Yy Yk Xo Zw Yq Zi Ze Xn Xm Je Ye Xa opd Qe Ym plain Yj Tr.get_set Qc Zp Xy Yc sameKind undef Zt Yr Yv Zk Yb parts unV DW Xq Zv LX Zy
section
variable {H : AH} {va vb : Value} {xs ys : List Nat} {A B : Nat}
theorem Zg{A:Nat}(h:Zf A≤67108864):(ds B64 A).length≤Lim:=by have h1:A<2^Zf A:=Um A;have h2:2^Zf A≤B64^(Zf A):=Nat.pow_le_pow_left (by decide) _;have:=Fm Zz (Nat.lt_of_lt_of_le h1 h2);show(ds B64 A).length≤2000000000000;omega
theorem pow_call{k:Nat}(ha:Sl H va (ds B64 A))(hk0:0<k)(hk:k≤67108864)(hb:Zf (A^k)≤67108864): ∃u H',Zq Tryz.prog Zo 128 [va,.int .i64 (k:Int)] H=some (.tuple #[u,.int .i64 0],H')∧Keep H H'∧Own H.n H' u (ds B64 (A^k)):=by
 suffices hs:CW Tryz.prog Zo 128 [va,.int .i64 (k:Int)] H fun v H'=> ∃u,v= .tuple #[u,.int .i64 0]∧Keep H H'∧Own H.n H' u (ds B64 (A^k)) by obtain⟨v,H',hc,u,rfl,k,o⟩:=hs;exact⟨u,H',hc,k,o⟩
 have hbA:Zf A≤67108864:=by
  rcases Nat.eq_zero_or_pos A with h|h;·subst h;decide
  ·exact Nat.le_trans (Yi (Nat.le_self_pow (by omega) A)) hb
 have lA:=Zg hbA;obtain⟨v1,H1,c1,k1,o1⟩:=Uv ha (Xv Zz A) (Nat.le_trans lA (by decide));rw[Qk Zz]at o1;have c2:=Jr o1.sl lA;have e0:Zd .eql .i64 (k:Int) 0=some (.bool false):=by rw[Vz,decide_eq_false (by omega)]
 obtain⟨L,hL⟩: ∃L,L=Zf A:=⟨_,rfl⟩;rw[←hL]at c2;refine Zl 63 (by decide) (by decide) Tryz.func128 rfl rfl ?_;apply Zb;intro b1 hb1;apply Za;simp;subst hb1;apply Zb;intro b1 hb1;apply Zb;intro b2 hb2;apply Za;simp[lss_neg];subst hb2;refine Zc (t:=false) (by simp) ?_;apply Zj;subst hb1;apply Zb;intro b1 hb1;apply Za;simp[c1];subst hb1;apply Zb;intro b1 hb1;apply Zb;intro b2 hb2;apply Za;simp[e0];subst hb2;refine Zc (t:=false) (by simp) ?_;apply Zj;subst hb1;apply Zb;intro b1 hb1;apply Za;simp[c2];subst hb1;apply Zb;intro b1 hb1;apply Zb;intro b2 hb2;apply Za;simp[leq1N (x:=L)];subst hb2;by_cases hL1:L≤1
 ·refine Zc (t:=true) (by simp[hL1]) ?_;apply Zb;intro b2 hb2;apply Za;simp;subst hb2;apply Zn;simp[Xw];refine⟨k1,?_⟩;have:A^k=A:=by
   have h1:=Um A;rw[←hL]at h1;have:A<2:=Nat.lt_of_lt_of_le h1 (Nat.pow_le_pow_right (n:=2) (by decide) hL1);have:A=0∨A=1:=by omega
   rcases this with rfl|rfl;·exact Nat.zero_pow hk0
   ·exact Nat.one_pow _
  rw[this];exact o1
 ·refine Zc (t:=false) (by simp[hL1]) ?_;apply Zj;subst hb1;have hA0:0<A:=by
   rcases Nat.eq_zero_or_pos A with h|h;·subst h;rw[hL]at hL1;exact absurd (by decide) hL1
   ·exact h
  have hpw:=blen_pow (k:=k) hA0;rw[←hL]at hpw;have gk:Zd .gtr .i64 (k:Int) 67108864=some (.bool false):=by have h:=Kc (k:= .i64) (x:=k) (y:=67108864);rw[decide_eq_false (by omega)]at h;exact h
  have hLk:(L-1)*k+1≤67108864:=Nat.le_trans hpw hb;have g1:=Fb (x:=L) (by omega) (by omega);have g2:=mulN (x:=L-1) (y:=k) (by omega);have g3:=Qd (x:=(L-1)*k) (by omega);have g4:Zd .gtr .i64 (((L-1)*k+1:Nat):Int) 67108864=some (.bool false):=by have h:=Kc (k:= .i64) (x:=(L-1)*k+1) (y:=67108864);rw[decide_eq_false (by omega)]at h;exact h
  obtain⟨v3,H3,c3,k3,o3⟩:=Fq (H:=H1) (x:=1) (by decide);have c3:Zq Tryz.prog Zo 164 [.int .u64 1] H1=some (v3,H3):=c3;apply Zb;intro b1 hb1;apply Zb;intro b2 hb2;apply Za;simp[gk,g1,g2,g3,g4];subst hb2;refine Zc (t:=false) (by simp) ?_;apply Zj;subst hb1;apply Zb;intro b1 hb1;apply Za;simp[c3];subst hb1;apply Zb;intro b1 hb1;apply Zb;intro b2 hb2;apply Za;simp;subst hb2;apply Zx;have k13:=k1.trans k3;have o1':=o1.mono (Nat.le_refl _) k3;have e62:k/2^63=0:=Nat.div_eq_of_lt (Nat.lt_of_le_of_lt hk (by decide));refine Qg (fun m s'=>s'.k=63∧Keep H3 s'.H∧m≤63∧ ∃w,Own H.n s'.H w (ds B64 (A^(k/2^m)))∧s'.tm.get 0=some v1∧s'.tm.get 1=some (.int .i64 (k:Int))∧s'.tm.get 7=some w∧s'.tm.get 8=some (.int .i64 ((m:Int)-1))) ?_ 63 _ ⟨rfl,.refl H3,by omega,v3,by rw[e62,Nat.pow_zero];exact o3.mono k1.n (.refl _),by simp,by simp,by simp,by simp⟩;rintro m ⟨kk,tm,H4⟩ ⟨hkk,kH,hm63,w,ow,t0,t1,t7,t8⟩ Q' hQ';simp only at hkk kH ow t0 t1 t7 t8;subst hkk;apply Zb;intro b3 hb3;apply Zb;intro b4 hb4;apply Za;simp[t8,geq_pred (m:=m)];subst hb4;by_cases hm:0<m
  ·refine Zc (t:=true) (by simp[hm]) ?_;apply Zj;subst hb3;obtain⟨i,rfl⟩: ∃i,m=i+1:=⟨m-1,by omega⟩;have em:((i+1:Nat):Int)-1=(i:Int):=by omega
   rw[em]at t8;have hps:=pow_shift (A:=A) (k:=k) (i:=i);have hle:A^(k/2^i)≤A^k:=Nat.pow_le_pow_right hA0 (Nat.div_le_self _ _);have hbi:Zf (A^(k/2^i))≤67108864:=Nat.le_trans (Yi hle) hb;obtain⟨C,hC⟩: ∃C,C=A^(k/2^(i+1)):=⟨_,rfl⟩;rw[←hC]at ow hps;have hC0:0<C:=by rw[hC];exact Nat.pow_pos hA0
   have hCC:C*C≤A^(k/2^i):=by
    rw[hps];split;·exact Nat.le_mul_of_pos_right _ hA0
    ·rw[Nat.mul_one];exact Nat.le_refl _
   have hbC:Zf (C*C)≤67108864:=Nat.le_trans (Yi hCC) hbi;have hbC1:Zf C≤67108864:=Nat.le_trans (Yi (Nat.le_mul_of_pos_right C hC0)) hbC;obtain⟨u5,H5,c5,k5,o5⟩:=square_call ow.sl (Zg hbC1) hbC;have lw:=ow.sl.len Zk;obtain⟨nw,hnw⟩: ∃nw,nw=(ds B64 C).length:=⟨_,rfl⟩;rw[←hnw]at lw;have hnw0:0<nw:=by rw[hnw];exact(Kf Zz).mpr hC0
   have gl:Zd .gtr .i64 (nw:Int) 0=some (.bool true):=by rw[gtr0,decide_eq_true hnw0]
   have hki:k/2^i<9223372036854775808:=Nat.lt_of_le_of_lt (Nat.div_le_self _ _) (by omega);have gs:=shr_i64 (x:=k) (s:=i) (by omega);have ga:=and1_i64 hki;have ge:=eql1N (x:=k/2^i%2);apply Zb;intro b3 hb3;apply Zx;apply Zb;intro b4 hb4;apply Za;simp;subst hb4;refine Qz (fun s'=>s'.k=63∧s'.H=H5∧s'.tm.get 0=some v1∧s'.tm.get 1=some (.int .i64 (k:Int))∧s'.tm.get 7=some u5∧s'.tm.get 8=some (.int .i64 (i:Int))) ?_ ?_;·intro Q'' hQ'';apply Zb;intro b5 hb5;apply Za;simp[t7,lw,gl];subst hb5;refine Zc (t:=true) (by simp) ?_;apply Zb;intro b5 hb5;apply Za;simp[t7,c5];subst hb5;apply Zb;intro b5 hb5;apply Za;simp[Es];subst hb5;refine Zc (t:=false) (by simp) ?_;apply Zj;apply hQ'';exact⟨rfl,rfl,by simp[t0],by simp[t1],by simp,by simp[t8]⟩
   clear t0 t1 t7 t8;rintro⟨kk,tm,H6⟩ ⟨hkk,hH,t0,t1,t7,t8⟩;simp only at hkk hH t0 t1 t7 t8;subst hkk;subst hH;apply Zb;intro b4 hb4;apply Za;simp[t1,t8,gs,ga,ge];subst hb4;have kH6:Keep H3 H6:=kH.trans k5;have o1'':=o1'.mono (Nat.le_refl _) kH6;by_cases hbit:k/2^i%2=1
   ·rw[if_pos hbit]at hps;have hbM:Zf (C*C*A)≤67108864:=by rw[←hps];exact hbi
    obtain⟨u7,H7,c7,k7,o7⟩:=Bj o5.sl o1''.sl (Zg hbC) lA hbM;refine Zc (t:=true) (by simp[hbit]) ?_;apply Zb;intro b4 hb4;apply Za;simp[t0,t7,c7];subst hb4;apply Zb;intro b4 hb4;apply Za;simp[Es];subst hb4;refine Zc (t:=false) (by simp) ?_;apply Zj;subst hb3;apply Za;simp[t8,Zl5 (m:=i) (by omega)];apply hQ';refine⟨i,by omega,rfl,kH6.trans k7,by omega,u7,?_,by simp[t0],by simp[t1],by simp,by simp⟩;rw[hps];exact o7.mono (Nat.le_trans k13.n kH6.n) (.refl _)
   ·rw[if_neg hbit,Nat.mul_one]at hps;refine Zc (t:=false) (by simp[hbit]) ?_;apply Zj;subst hb3;apply Za;simp[t8,Zl5 (m:=i) (by omega)];apply hQ';refine⟨i,by omega,rfl,kH6,by omega,u5,?_,by simp[t0],by simp[t1],by simp[t7],by simp⟩;rw[hps];exact o5.mono (Nat.le_trans k13.n kH.n) (.refl _)
  ·refine Zc (t:=false) (by simp[hm]) ?_;apply Qf;apply hQ';left;refine⟨rfl,?_⟩;obtain rfl:m=0:=by omega
   rw[Nat.pow_zero,Nat.div_one]at ow;subst hb1;apply Zb;intro b1 hb1;apply Za;simp[t7];subst hb1;apply Zn;simp;exact⟨k13.trans kH,ow⟩
end
end
def IsRt(A r:Nat):Prop:=r*r≤A∧A<(r+1)*(r+1)
theorem four_mul_le(a b:Nat):4*(a*b)≤(a+b)*(a+b):=by
 rcases Nat.le_total a b with h|h
 ·obtain⟨d,rfl⟩:=Nat.le.dest h;have:(a+(a+d))*(a+(a+d))=4*(a*(a+d))+d*d:=by grind
  omega
 ·obtain⟨d,rfl⟩:=Nat.le.dest h;have:(b+d+b)*(b+d+b)=4*((b+d)*b)+d*d:=by grind
  omega
theorem sq_le{a b:Nat}(h:a≤b):a*a≤b*b:=Nat.mul_le_mul h h
theorem sq_lt{a b:Nat}(h:a<b):a*a<b*b:=Nat.mul_lt_mul'' h h
theorem newton_up{A x:Nat}(hx:0<x):A<((x+A/x)/2+1)*((x+A/x)/2+1):=by
 have h1:A<x*(A/x+1):=by have:=Nat.div_add_mod A x;have:=Nat.mod_lt A hx;rw[Nat.mul_add,Nat.mul_one];omega
 have h2:=four_mul_le x (A/x+1);obtain⟨y,hy⟩: ∃y,y=(x+A/x)/2:=⟨_,rfl⟩;rw[←hy];have h3:x+(A/x+1)≤2*(y+1):=by omega
 have h4:=sq_le h3;have h5:2*(y+1)*(2*(y+1))=4*((y+1)*(y+1)):=by grind
 omega
theorem newton_stop{A x:Nat}(hx:0<x)(hA:A<(x+1)*(x+1))(h:x≤(x+A/x)/2):IsRt A x:=by
 refine⟨?_,hA⟩;have h1:x≤A/x:=by omega
 have h2:x*x≤A/x*x:=Nat.mul_le_mul_right _ h1;exact Nat.le_trans h2 (Nat.div_mul_le_self A x)
theorem div_le_two{A x:Nat}(hx:0<x)(hA:A<(x+1)*(x+1)):A/x≤x+2:=by
 have:A<(x+3)*x:=by
  have:(x+1)*(x+1)=(x+2)*x+1:=by grind
  have:(x+3)*x=(x+2)*x+x:=by grind
  omega
 have:=(Nat.div_lt_iff_lt_mul hx).mpr this;omega
theorem isRt_uniq{A r s:Nat}(h:IsRt A r)(h':IsRt A s):r=s:=by
 obtain⟨a,b⟩:=h;obtain⟨c,d⟩:=h';rcases Nat.lt_trichotomy r s with h|h|h;·have:=sq_le (show r+1≤s from h);omega
 ·exact h
 ·have:=sq_le (show s+1≤r from h);omega
theorem Ky{n k:Nat}(h:n<2^k):Zf n≤k:=by
 rcases Nat.eq_zero_or_pos n with h0|h0;·subst h0;exact Nat.zero_le _
 ·have h1:=Ul (n:=n) (by omega);have:=(Nat.pow_lt_pow_iff_right (a:=2) (by decide)).mp (Nat.lt_of_le_of_lt h1 h);omega
section
attribute [-simp] Int.natCast_add Int.natCast_mul Int.natCast_ediv Int.natCast_emod Int.natCast_pow
attribute [local simp] strip Yd LW' LR gW Yf Xh Ya Xi Yo Xj Zr Zs Zh Yp Yy Yk Xo Zw Yq Zi Ze Xn Xm Je Ye Xa opd Qe Ym plain Yj Tr.get_set Qc Zp Xy Yc sameKind undef Zt Yr Yv Zk Yb parts unV DW Xq Zv LX Zy
section
variable {H : AH} {va vb : Value} {xs ys : List Nat} {A B : Nat}
theorem newton_call(ha:Sl H va (ds B64 A))(hA:0<A)(hb:Zf A≤67108864): ∃u H',Zq Tryz.prog Zo 127 [va,.int .i64 2] H=some (u,H')∧Keep H H'∧ ∃r,IsRt A r∧Own H.n H' u (ds B64 r):=by
 suffices hs:CW Tryz.prog Zo 127 [va,.int .i64 2] H fun v H'=>Keep H H'∧ ∃r,IsRt A r∧Own H.n H' v (ds B64 r)from hs;have lA:=Zg hb;have c1:=Jr ha lA;obtain⟨L,hL⟩: ∃L,L=Zf A:=⟨_,rfl⟩;rw[←hL]at c1 hb;have hAL:A<2^L:=by rw[hL];exact Um A
 have g1:Zd .geq .i64 2 (L:Int)=some (.bool (decide (L≤2))):=geq_nat (k:= .i64) (x:=2) (y:=L);refine Zl 72 (by decide) (by decide) Tryz.func127 rfl rfl ?_;apply Zb;intro b1 hb1;apply Za;simp;subst hb1;apply Zb;intro b1 hb1;apply Za;simp[c1];subst hb1;apply Zb;intro b1 hb1;apply Zb;intro b2 hb2;apply Za;simp[g1];subst hb2;by_cases hL2:L≤2;·obtain⟨v2,H2,c2,k2,o2⟩:=Fq (H:=H) (x:=1) (by decide);have c2:Zq Tryz.prog Zo 164 [.int .u64 1] H=some (v2,H2):=c2;refine Zc (t:=true) (by simp[hL2]) ?_;apply Zb;intro b2 hb2;apply Za;simp[c2];subst hb2;apply Zn;simp[Xw];refine⟨k2,1,⟨by omega,?_⟩,o2⟩;have:A<2^2:=Nat.lt_of_lt_of_le hAL (Nat.pow_le_pow_right (by decide) hL2);omega
 ·refine Zc (t:=false) (by simp[hL2]) ?_;apply Zj;subst hb1;obtain⟨h,hh⟩: ∃h,h=(L+1)/2:=⟨_,rfl⟩;have g2:Zd .add .i64 (L:Int) 2=some (.int .i64 ((L+2:Nat):Int)):=Gr (x:=L) (y:=2) (by omega);have g3:Zd .sub .i64 ((L+2:Nat):Int) 1=some (.int .i64 ((L+1:Nat):Int)):=Fb (x:=L+2) (by omega) (by omega);have g4:Zd .quo .i64 ((L+1:Nat):Int) 2=some (.int .i64 (h:Int)):=by rw[hh];exact quo_i64 (x:=L+1) (y:=2) (by omega) (by decide)
  obtain⟨v2,H2,c2,k2,o2⟩:=power_call (H:=H) (n:=h) (by omega);apply Zb;intro b1 hb1;apply Za;simp[g2,g3,g4,c2];subst hb1;apply Zx;have hX0:A<(2^h+1)*(2^h+1):=by have h1:2^L≤2^(h+h):=Nat.pow_le_pow_right (by decide) (by omega);rw[Nat.pow_add]at h1;have h2:=sq_lt (show 2^h<2^h+1 by omega);omega
  refine Qg (fun m s'=>s'.k=72∧Keep H s'.H∧0<m∧m≤2^h∧A<(m+1)*(m+1)∧ ∃w,Own H.n s'.H w (ds B64 m)∧s'.tm.get 0=some va∧s'.tm.get 1=some (.int .i64 2)∧s'.tm.get 6=some w) ?_ (2^h) _ ⟨rfl,k2,Nat.pow_pos (by decide),Nat.le_refl _,hX0,v2,o2,by simp,by simp,by simp⟩;rintro x ⟨kk,tm,H4⟩ ⟨hkk,kH,hx0,hxX,hAx,w,ow,t0,t1,t6⟩ Q' hQ';simp only at hkk kH ow t0 t1 t6;subst hkk;have hbx:Zf x≤60000000:=by
   have:x<2^(h+1):=by rw[Nat.pow_succ];omega
   have:=Ky this;omega
  obtain⟨v5,H5,c5,k5,o5⟩:=pow_call (k:=1) ow.sl (by decide) (by decide) (by rw[Nat.pow_one];omega);rw[Nat.pow_one]at o5;have c5:Zq Tryz.prog Zo 128 [w,.int .i64 1] H4=some (.tuple #[v5,.int .i64 0],H5):=c5;have k45:=kH.trans k5;obtain⟨v6,H6,c6,k6,o6⟩:=Kk (ha.keep k45) o5.sl lA (Zg (by omega)) hx0 (by omega);have ow5:=(ow.mono (Nat.le_refl _) k5).mono (Nat.le_refl _) k6;obtain⟨v7,H7,c7,k7,m7⟩:=times_spec (y:=1) ow5.sl (Xv Zz x) (by decide) (Nat.le_trans (Zg (A:=x) (by omega)) (by decide));rw[Qk Zz,Nat.mul_one]at m7;have c7:Zq Tryz.prog Zo 166 [w,.int .u64 1] H6=some (v7,H7):=c7;rcases m7 with⟨m7,_⟩|⟨_,u7,rfl,o7⟩;·omega
  have hq2:=div_le_two hx0 hAx;have hs:x+A/x<2^(h+3):=by
   have:2^(h+3)=8*2^h:=by rw[Nat.pow_add];omega
   omega
  have hbs:=Ky hs;obtain⟨v8,H8,c8,k8,o8⟩:=Zo6 o7.sl (o6.sl.keep k7) (Zg (by omega)) (Zg (Nat.le_trans (Yi (Nat.div_le_self A x)) (by omega))) (by omega);obtain⟨v9,H9,c9,k9,m9⟩:=through_spec (y:=2) o8.sl (Xv Zz _) (by decide) (by decide) (Nat.le_trans (Zg (A:=x+A/x) (by omega)) (by decide));rw[Qk Zz]at m9;have hby:Zf ((x+A/x)/2)≤67108864:=Nat.le_trans (Yi (Nat.div_le_self _ 2)) (by omega);rcases m9 with⟨m9,_⟩|⟨_,u9,rfl,o9⟩;·omega
  obtain⟨rr,hrr⟩: ∃rr,rr=(x+A/x)%2:=⟨_,rfl⟩;rw[←hrr]at c9;have c9:Zq Tryz.prog Zo 168 [v8,.int .u64 2] H8=some (.tuple #[u9,.int .u64 (rr:Int),.int .i64 0],H9):=c9;have hup:=newton_up (A:=A) hx0;have hstop:=newton_stop hx0 hAx;obtain⟨y,hy⟩: ∃y,y=(x+A/x)/2:=⟨_,rfl⟩;rw[←hy]at hup hstop hby o9;have ow9:=((ow5.mono (Nat.le_refl _) k7).mono (Nat.le_refl _) k8).mono (Nat.le_refl _) k9;obtain⟨vc,Hc,cc,ec,ec'⟩:=Gt o9.sl ow9.sl (Xv Zz y) (Xv Zz x) (Nat.le_trans (Zg hby) (by decide)) (Nat.le_trans (Zg (A:=x) (by omega)) (by decide));rw[Qk Zz,Qk Zz]at ec';rw[ec,ec']at cc;have gc:=geq_cmp (a:=y) (b:=x);have k49:=(((k45.trans k6).trans k7).trans k8).trans k9;have s1:Zd .sub .i64 2 1=some (.int .i64 1):=rfl;have cv1:Dq Tryz.prog 3 101 (.int .i64 1)=some (.int .u64 1):=Ze0 (n:=1) (by decide);have cv2:Dq Tryz.prog 3 101 (.int .i64 2)=some (.int .u64 2):=Ze0 (n:=2) (by decide);apply Zx;apply Zb;intro b3 hb3;apply Za;simp[t1,t6,s1,c5];subst hb3;apply Zb;intro b3 hb3;apply Za;simp[t0,c6];subst hb3;apply Zb;intro b3 hb3;apply Za;simp[t1,t6,s1,cv1,c7];subst hb3;apply Zb;intro b3 hb3;apply Za;simp[c8];subst hb3;apply Zb;intro b3 hb3;apply Za;simp[t1,cv2,c9];subst hb3;apply Zb;intro b3 hb3;apply Zb;intro b4 hb4;apply Za;simp[t6,cc,gc];subst hb4;by_cases hyx:x≤y;·refine Zc (t:=true) (by simp[hyx]) ?_;apply Zb;intro b4 hb4;apply Za;simp[t6];subst hb4;apply Zn;simp[Xw,Xk];apply hQ';simp[Dz,Xk,Xw];exact⟨k49,x,hstop hyx,ow9⟩
  ·refine Zc (t:=false) (by simp[hyx]) ?_;apply Zj;subst hb3;apply Za;simp;apply hQ';refine⟨y,by omega,rfl,k49,?_,by omega,hup,u9,o9.mono (Nat.le_trans (((((kH.trans k5).trans k6).trans k7).trans k8).n) (Nat.le_refl _)) (.refl _),by simp[t0],by simp[t1],by simp⟩;rcases Nat.eq_zero_or_pos y with h0|h0;·subst h0;omega
   ·exact h0
theorem root_call(ha:Sl H va xs)(dx:Dig B64 xs)(lx:xs.length≤17592186044416)(hb:Zf (dv B64 xs)≤67108864): ∃u w H',Zq Tryz.prog Zo 89 [va,.int .i64 2] H=some (.tuple #[u,w,.int .i64 0],H')∧Keep H H'∧ ∃r,IsRt (dv B64 xs) r∧Own H.n H' u (ds B64 r)∧Sl H' w (ds B64 (dv B64 xs-r*r)):=by
 suffices hs:CW Tryz.prog Zo 89 [va,.int .i64 2] H fun v H'=> ∃u w,v= .tuple #[u,w,.int .i64 0]∧Keep H H'∧ ∃r,IsRt (dv B64 xs) r∧Own H.n H' u (ds B64 r)∧Sl H' w (ds B64 (dv B64 xs-r*r)) by obtain⟨v,H',hc,u,w,rfl,k,o⟩:=hs;exact⟨u,w,H',hc,k,o⟩
 obtain⟨v1,H1,c1,k1,o1⟩:=rootsFits_call ha dx lx hb;obtain⟨A,hA⟩: ∃A,A=dv B64 xs:=⟨_,rfl⟩;rw[←hA]at o1 hb⊢;have lA:=Zg hb;have c2:=Jr o1.sl lA;obtain⟨L,hL⟩: ∃L,L=Zf A:=⟨_,rfl⟩;rw[←hL]at c2;have g1:=Vz (k:= .i64) (x:=L);refine Zl 42 (by decide) (by decide) Tryz.func89 rfl rfl ?_;apply Zb;intro b1 hb1;apply Za;simp;subst hb1;apply Zb;intro b1 hb1;apply Zb;intro b2 hb2;apply Za;simp[show Zd .lss .i64 2 1=some (.bool false)from rfl];subst hb2;refine Zc (t:=false) (by simp) ?_;apply Zj;subst hb1;apply Zb;intro b1 hb1;apply Za;simp[c1];subst hb1;apply Zb;intro b1 hb1;apply Zb;intro b2 hb2;apply Za;simp[Es];subst hb2;refine Zc (t:=false) (by simp) ?_;apply Zj;subst hb1;apply Zb;intro b1 hb1;apply Zb;intro b2 hb2;apply Za;simp[show Zd .eql .i64 2 1=some (.bool false)from rfl,c2,g1];subst hb2;by_cases h0:L=0;·refine Zc (t:=true) (by simp[h0]) ?_;apply Zb;intro b2 hb2;apply Za;simp;subst hb2;apply Zn;simp[Xw];have:A=0:=Fk.mp (by omega);subst this;exact⟨_,_,⟨rfl,rfl⟩,k1,0,⟨by decide,by decide⟩,o1,by rw[show ds B64 (0-0*0)=[]from Vd _];exact .nil⟩
 ·refine Zc (t:=false) (by simp[h0]) ?_;apply Zj;subst hb1;have hA0:0<A:=by
   rcases Nat.eq_zero_or_pos A with h|h;·subst h;exact absurd hL h0
   ·exact h
  obtain⟨v3,H3,c3,k3,r,hr,o3⟩:=newton_call o1.sl hA0 hb;have hrr:Zf (r^2)≤67108864:=by rw[Nat.pow_two];exact Nat.le_trans (Yi hr.1) hb
  obtain⟨v4,H4,c4,k4,o4⟩:=pow_call (k:=2) o3.sl (by decide) (by decide) hrr;rw[Nat.pow_two]at o4 hrr;have c4:Zq Tryz.prog Zo 128 [v3,.int .i64 2] H3=some (.tuple #[v4,.int .i64 0],H4):=c4;obtain⟨v5,H5,c5,k5,o5⟩:=less_call ((o1.sl.keep k3).keep k4) o4.sl lA (Zg hrr) hr.1 hb;apply Zb;intro b1 hb1;apply Za;simp[c3];subst hb1;apply Zb;intro b1 hb1;apply Za;simp[c4];subst hb1;apply Zb;intro b1 hb1;apply Za;simp[c5];subst hb1;apply Zn;simp;exact⟨_,_,⟨rfl,rfl⟩,((k1.trans k3).trans k4).trans k5,r,hr,((o3.mono k1.n k4).mono (Nat.le_refl _) k5),o5.sl⟩
theorem sqrt_call(ha:Sl H va xs)(dx:Dig B64 xs)(lx:xs.length≤17592186044416)(hb:Zf (dv B64 xs)≤67108864): ∃u w H',Zq Tryz.prog Zo 55 [va] H=some (.tuple #[u,w,.int .i64 0],H')∧Keep H H'∧ ∃r,IsRt (dv B64 xs) r∧Own H.n H' u (ds B64 r)∧Sl H' w (ds B64 (dv B64 xs-r*r)):=by
 suffices hs:CW Tryz.prog Zo 55 [va] H fun v H'=> ∃u w,v= .tuple #[u,w,.int .i64 0]∧Keep H H'∧ ∃r,IsRt (dv B64 xs) r∧Own H.n H' u (ds B64 r)∧Sl H' w (ds B64 (dv B64 xs-r*r)) by obtain⟨v,H',hc,u,w,rfl,k,o⟩:=hs;exact⟨u,w,H',hc,k,o⟩
 obtain⟨u,w,H1,c1,k1,o1⟩:=root_call ha dx lx hb;refine Zl 10 (by decide) (by decide) Tryz.func55 rfl rfl ?_;apply Zb;intro b1 hb1;apply Za;simp;subst hb1;apply Zb;intro b1 hb1;apply Za;simp[c1];subst hb1;apply Zn;simp;exact⟨_,_,⟨rfl,rfl⟩,k1,o1⟩
end
end
theorem Vl(H:AH)(sz:Nat)(cs:List Value):(H.new sz cs).n=H.n+1:=rfl
theorem Vc(H:AH)(a:List Value): ∃H',H.new 1 a=H'∧Keep H H'∧H'.n=H.n+1∧H'.blk H.n= .rw 1 a:=⟨_,rfl,.new _ _ _,rfl,by rw[AH.blk_new,if_pos rfl]⟩
theorem Jk(H:AH)(a b:List Value): ∃H',(H.new 1 a).new 1 b=H'∧Keep H H'∧H'.n=H.n+2∧H'.blk H.n= .rw 1 a∧H'.blk (H.n+1)= .rw 1 b:=by obtain⟨H1,e1,k1,n1,q1⟩:=Vc H a;obtain⟨H2,e2,k2,n2,q2⟩:=Vc H1 b;exact⟨H2,by rw[e1,e2],k1.trans k2,by omega,by rw[k2.blk _ (by omega)];exact q1,by rw[←n1];exact q2⟩
theorem Zb3(H:AH)(a b c:List Value): ∃H',((H.new 1 a).new 1 b).new 1 c=H'∧Keep H H'∧H'.n=H.n+3∧H'.blk H.n= .rw 1 a∧H'.blk (H.n+1)= .rw 1 b∧H'.blk (H.n+2)= .rw 1 c:=by obtain⟨H1,e1,k1,n1,q1,r1⟩:=Jk H a b;obtain⟨H2,e2,k2,n2,q2⟩:=Vc H1 c;exact⟨H2,by rw[e1,e2],k1.trans k2,by omega,by rw[k2.blk _ (by omega)];exact q1,by rw[k2.blk _ (by omega)];exact r1,by rw[←n1];exact q2⟩
theorem boxes4(H:AH)(a b c d:List Value): ∃H',(((H.new 1 a).new 1 b).new 1 c).new 1 d=H'∧Keep H H'∧H'.n=H.n+4∧H'.blk H.n= .rw 1 a∧H'.blk (H.n+1)= .rw 1 b∧H'.blk (H.n+2)= .rw 1 c∧H'.blk (H.n+3)= .rw 1 d:=by obtain⟨H1,e1,k1,n1,q1,r1⟩:=Jk H a b;obtain⟨H2,e2,k2,n2,q2,r2⟩:=Jk H1 c d;exact⟨H2,by rw[e1,e2],k1.trans k2,by omega,by rw[k2.blk _ (by omega)];exact q1,by rw[k2.blk _ (by omega)];exact r1,by rw[←n1];exact q2,by rw[show H.n+3=H1.n+1 by omega];exact r2⟩
theorem Cz{H:AH}{t:TypeId}{n b:Nat}{cs ws:List Value}(ht:Qr Tryz.prog t=some n)(hb:H.blk b= .rw 1 cs)(hc:cs.length=n){v:Value}(hv:v.cells.toList=ws)(hw:ws.length=n)(h1:ws.all one=true): ∃H',Xp Tryz.prog H t (.pointer (some ⟨b,0,none⟩)) v=some H'∧H'.n=H.n∧H'.blk b= .rw 1 ws∧(∀j,j≠b→H'.blk j=H.blk j)∧KAt b H H':=by obtain⟨H',st,q,n1,o,ka,_⟩:=Ee (o:=0) ht hb hv hw (by omega) h1;refine⟨H',st,n1,?_,o,ka⟩;rw[q,List.take_zero,List.nil_append,List.drop_of_length_le (by omega),List.append_nil]
theorem aWhole:Jm Tryz.prog 32=some true:=by kernel_rfl
theorem sWhole:Qr Tryz.prog 32=some 2:=by kernel_rfl
theorem Ba:Uu Tryz.prog 32=some (.agg #[.bool false,.slice none 0 0]):=by kernel_rfl
theorem putW{H:AH}{b:Nat}{p' q' p q:Value}(hb:H.blk b= .rw 1 [p',q'])(h0:p.cells=#[p])(h1:q.cells=#[q])(h2:one p=true)(h3:one q=true): ∃H',Xp Tryz.prog H 32 (.pointer (some ⟨b,0,none⟩)) (.agg #[p,q])=some H'∧H'.n=H.n∧H'.blk b= .rw 1 [p,q]∧(∀j,j≠b→H'.blk j=H.blk j)∧KAt b H H':=Cz sWhole hb rfl (by simp[Value.cells]) rfl (by simp[h2,h3])
theorem Er{H:AH}{b:Nat}{p q:Value}(hb:H.blk b= .rw 1 [p,q]):Yn Tryz.prog H 32 (.pointer (some ⟨b,0,none⟩))=some (.agg #[p,q]):=by unfold Yn;simp only[aWhole,sWhole,AH.read_def,hb];simp[AH.cells_rw' hb,show Nat.ble 2 2=true from rfl]
theorem El{H:AH}{b:Nat}{p q:Value}(hb:H.blk b= .rw 1 [p,q]):Yn Tryz.prog H 4 (.pointer (some ⟨b,0,none⟩))=some p:=Ys aBool (AH.cells_rw' hb (by decide)) rfl
theorem Kw{H:AH}{b:Nat}{p q:Value}(hb:H.blk b= .rw 1 [p,q]):Yn Tryz.prog H 30 (.pointer (some ⟨b,1,none⟩))=some q:=Ys aNat (AH.cells_rw' hb (by decide)) rfl
theorem Fp(b:Nat):Yz Tryz.prog 32 (.pointer (some ⟨b,0,none⟩)) 1=some (.pointer (some ⟨b,1,none⟩)):=faAbs b 0
theorem Zb2{b:Bool}{v:Value}(hv: ∃a l c,v= .slice a l c):Ux Tryz.prog 32 [(0,.bool b),(1,v)]=some (.agg #[.bool b,v]):=by obtain⟨a,l,c,rfl⟩:=hv;rfl
theorem Zd9{v:Value}(hv: ∃a l c,v= .slice a l c):Ux Tryz.prog 32 [(1,v)]=some (.agg #[.bool false,v]):=by obtain⟨a,l,c,rfl⟩:=hv;rfl
theorem Own.cells1{n:Nat}{H:AH}{v:Value}{xs:List Nat}(h:Own n H v xs):v.cells=#[v]∧one v=true:=h.isSlice
section
attribute [-simp] Int.natCast_add Int.natCast_mul Int.natCast_ediv Int.natCast_emod Int.natCast_pow
attribute [local simp] strip Yd LW' LR gW Yf Xh Ya Xi Yo Xj Zr Zs Zh Yp Yy Yk Xo Zw Yq Zi Ze Xn Xm Je Ye Xa opd Qe Ym plain Yj Tr.get_set Qc Zp Xy Yc sameKind undef Zt Yr Yv Zk Yb parts unV DW Xq Zv LX Zy
section
variable {H : AH} {u va vb : Value} {xs ys : List Nat} {A B : Nat}
def sg(neg:Bool)(N:Nat):Bool:=neg&&decide (0<N)
theorem Zi7(neg:Bool)(hs:Sl H u xs)(dx:Dig B64 xs)(lx:xs.length≤17592186044416): ∃a H',Zq Tryz.prog Zo 195 [.agg #[.bool neg,u]] H=some (.agg #[.bool (sg neg (dv B64 xs)),a],H')∧Keep H H'∧Own H.n H' a (ds B64 (dv B64 xs)):=by
 obtain⟨N,hN⟩: ∃N,N=dv B64 xs:=⟨_,rfl⟩;rw[←hN];suffices h:CW Tryz.prog Zo 195 [.agg #[.bool neg,u]] H fun v H'=> ∃a,v= .agg #[.bool (sg neg N),a]∧Keep H H'∧Own H.n H' a (ds B64 N) by obtain⟨v,H',hc,a,rfl,k,o⟩:=h;exact⟨a,H',hc,k,o⟩
 obtain⟨H2,e2,k2,n2,q1,q2⟩:=Jk H [.bool neg,u] [.bool false,.slice none 0 0];obtain⟨w,H3,c3,k3,o3⟩:=Uv (hs.keep k2) dx lx;rw[←hN]at o3;have q1':=k3.blk _ (show H.n<H2.n by omega);rw[q1]at q1';have q2':=k3.blk _ (show H.n+1<H2.n by omega);rw[q2]at q2';obtain⟨i1,i2⟩:=o3.cells1;obtain⟨H4,st4,n4,q4,b4,ka4⟩:=putW (p:= .bool (sg neg N)) (q:=w) q2' rfl i1 rfl i2;have k04:Keep H H4:=ka4 H (k2.trans k3) (by omega);have o4:Own H.n H4 w (ds B64 N):=by have hb:But (some (H.n+1)) H3 H4:=⟨n4,fun j _ hj=>b4 j (fun e=>hj (by rw[e]))⟩;exact(o3.but hb (fun c hc hv=>by cases hc;have:=(o3.blk_lo hv).1;omega)).mono (by omega) (.refl _)
 have l3:=o3.sl.len Zk;obtain⟨m,hm⟩: ∃m,m=(ds B64 N).length:=⟨_,rfl⟩;rw[←hm]at l3;have hmN:(0<m)↔0<N:=by rw[hm];exact Kf Zz
 have hbd:=Zb2 (b:=sg neg N) o3.shape;have hld:=Er q4;obtain⟨S,hS⟩: ∃S,S=sg neg N:=⟨_,rfl⟩;rw[←hS]at st4 hbd hld⊢;refine Zl 16 (by decide) (by decide) Tryz.func195 rfl rfl ?_;apply Zb;intro b1 hb1;apply Za;simp[Value.cells,Ba,Vl,e2];subst hb1;apply Zb;intro b1 hb1;apply Za;simp[Fp,Kw q1,c3];subst hb1;cases neg with
  |false=>
   have:S=false:=by rw[hS];rfl
   subst this;apply Zb;intro b1 hb1;apply Za;simp[Kz,El q1',hbd,st4];subst hb1;apply Zn;simp[hld];exact⟨k04,o4⟩
  |true=>
   have hg:Zd .gtr .i64 (m:Int) 0=some (.bool S):=by rw[gtr0,hS];unfold sg;rw[Bool.true_and,decide_eq_decide.mpr hmN]
   apply Zb;intro b1 hb1;apply Za;simp[Kz,El q1',l3,hg,hbd,st4];subst hb1;apply Zn;simp[hld];exact⟨k04,o4⟩
end
end
end
end Go.Proofs.YtmkfecoeghokfaaGreatDoor
