/-
  The engine and the walks that the claim's last text leans on, part 8 of 8: Ut, Uu, Uv, Wa, Wb, Wd, We, Wf, Kept, ArgsA, Tf, Tg.
-/
import Derived.Test.YtmkfecoeghokfaaGreatDoorM7
import Derived.Carry
import Derived.Deep.Slices
import Derived.JoinedCond
namespace Go.Proofs.YtmkfecoeghokfaaGreatDoor
open Go Ev
set_option linter.unusedVariables false
set_option linter.unusedSimpArgs false
noncomputable section
set_option maxRecDepth 20000
set_option maxHeartbeats 1000000
theorem faRF0(b o:Nat):Xa Tryz.prog 77 (.pointer (some ⟨b,o,none⟩)) 0=some (.pointer (some ⟨b,o,none⟩)):=by kernel_rfl
theorem faRF1(b o:Nat):Xa Tryz.prog 77 (.pointer (some ⟨b,o,none⟩)) 1=some (.pointer (some ⟨b,o+1,none⟩)):=by kernel_rfl
theorem loadRF0{H:AH}{b:Nat}{k p q r:Value}(hb:H.blk b= .rw 1 [k,p,q,r]):Yr Tryz.prog H 3 (.pointer (some ⟨b,0,none⟩))=some k:=Yt aInt (AH.cells_rw' hb (by decide)) rfl
theorem loadRFR{H:AH}{b:Nat}{k p q r:Value}(hb:H.blk b= .rw 1 [k,p,q,r]):Yr Tryz.prog H 42 (.pointer (some ⟨b,1,none⟩))=some (.agg #[p,q,r]):=Zd1 hb (by decide) rfl rfl aR sR
theorem faRF1'(b:Nat):Xa Tryz.prog 77 (.pointer (some ⟨b,0,none⟩)) 1=some (.pointer (some ⟨b,1,none⟩)):=faRF1 b 0
def RFIn(H:AH)(vs:List Value):FD→Prop| .opn=>vs=[.int .i64 0,.bool false,.slice none 0 0,.slice none 0 0]| .und=>vs=[.int .i64 2,.bool false,.slice none 0 0,.slice none 0 0]| .rat s A B=> ∃p q,vs=[.int .i64 1,.bool s,p,q]∧Sl H p (ds b32 A)∧Sl H q (ds b32 B)
theorem RFIn.trio{H:AH}{vs:List Value}{f:FD}(h:RFIn H vs f): ∃p q r,vs=[.int .i64 f.kind,p,q,r]∧Fv p q r:=by cases f with|opn=>exact⟨_,_,_,h,⟨_,rfl⟩,⟨_,_,_,rfl⟩,⟨_,_,_,rfl⟩⟩|und=>exact⟨_,_,_,h,⟨_,rfl⟩,⟨_,_,_,rfl⟩,⟨_,_,_,rfl⟩⟩|rat s A B=>obtain⟨p,q,e,h1,h2⟩:=h;exact⟨_,p,q,e,⟨_,rfl⟩,h1.shape,h2.shape⟩
theorem RFIn.len{H:AH}{vs:List Value}{f:FD}(h:RFIn H vs f):vs.length=4:=by obtain⟨p,q,r,rfl,_⟩:=h.trio;rfl
theorem RFIn.ones{H:AH}{vs:List Value}{f:FD}(h:RFIn H vs f):vs.all one=true:=by obtain⟨p,q,r,rfl,⟨s,rfl⟩,⟨a,l,c,rfl⟩,⟨a',l',c',rfl⟩⟩:=h.trio;rfl
theorem RFIn.noU{H:AH}{vs:List Value}{f:FD}(h:RFIn H vs f):noU vs=true:=by obtain⟨p,q,r,rfl,⟨s,rfl⟩,⟨a,l,c,rfl⟩,⟨a',l',c',rfl⟩⟩:=h.trio;rfl
theorem RFIn.fr{H H':AH}{vs:List Value}{f:FD}(h:RFIn H vs f)(k:Fr H H'):RFIn H' vs f:=by cases f with|opn=>exact h|und=>exact h|rat s A B=>obtain⟨p,q,e,h1,h2⟩:=h;exact⟨p,q,e,h1.fr k,h2.fr k⟩
theorem eqBB(s:Bool):Xu Tryz.prog .eql 4 (.bool s) (.bool s)=some (.bool true):=by cases s<;>rfl
theorem Lim32{A:Nat}(h:Zf A≤67108864):(ds b32 A).length≤Lim:=by have h1:A<2^Zf A:=Uh A;have h2:2^Zf A≤b32^(Zf A):=Nat.pow_le_pow_left (by decide) _;have:=Ff two32 (Nat.lt_of_lt_of_le h1 h2);show(ds b32 A).length≤2000000000000;omega
section
attribute [-simp] Int.natCast_add Int.natCast_mul Int.natCast_ediv Int.natCast_emod Int.natCast_pow
attribute [local simp] strip Yf LW' LR gW Yk Xd Ya Xe Yo Xf Zr Zs Zg Yp Yy Yl Xl Zv Yq Zh Ze Xk Xj Qy Yg Yz opd Xz Ym plain Yi Tr.get_set Xx Zp Xu Yd sameKind undef Zt Ys Yw Zl Yc parts unV DW Xo Zy LX Zw
attribute [local simp] Qc Qo Gt
section
variable {H : AH} {u v w z : Value}
theorem Eb(e:Int)(H:AH):Zq Tryz.prog Zo 13 [.int .i64 e] H=some (.int .i64 e,H):=by
 suffices h:CW Tryz.prog Zo 13 [.int .i64 e] H fun v H'=>v= .int .i64 e∧H'=H by obtain⟨v,H',hc,rfl,rfl⟩:=h;exact hc
 refine Zk 4 (by decide) (by decide) Tryz.func13 rfl rfl ?_;apply Zb;intro b1 hb1;apply Za;simp;subst hb1;apply Zb;intro b1 hb1;apply Za;simp;subst hb1;apply Zn;simp
theorem is_call{A:Nat}(h:Sl H v (ds b32 A))(hw:Sl H w (ds B64 A))(lA:Zf A≤67108864): ∃H',Zq Tryz.prog Zo 65 [v,w] H=some (.bool true,H')∧Keep H H':=by obtain⟨x,H',hc,k,e⟩:=is_spec h hw (Xt two32 A) (Nat.le_trans (Lim32 lA) (by decide));rw[pairs_ds,decide_eq_true rfl]at e;subst e;exact⟨H',hc,k⟩
theorem lawNumber_call{s:Bool}{A B:Nat}(h1:Sl H u (ds B64 A))(h2:Sl H v (ds B64 B))(h3:Sl H w (ds b32 A))(h4:Sl H z (ds b32 B))(lA:Zf A≤67108864)(lB:Zf B≤67108864): ∃H',Zq Tryz.prog Zo 24 [.agg #[.bool s,u,v],.agg #[.bool s,w,z]] H=some (.bool true,H')∧Keep H H':=by
 suffices h:CW Tryz.prog Zo 24 [.agg #[.bool s,u,v],.agg #[.bool s,w,z]] H fun v H'=>v= .bool true∧Keep H H' by obtain⟨v,H',hc,rfl,k⟩:=h;exact⟨H',hc,k⟩
 obtain⟨H2,e2,k2,n2,q0,q1⟩:=Qv H [.bool s,u,v] [.bool s,w,z];have K:=k2;have z0:=q0;have z1:=q1;obtain⟨H3,c3,k3⟩:=is_call (h3.keep K) (h1.keep K) lA;have n3:=k3.n;have K:=K.trans k3;replace q0:=(k3.blk _ (by omega)).trans q0;replace q1:=(k3.blk _ (by omega)).trans q1;have y0:=q0;have y1:=q1;obtain⟨H4,c4,k4⟩:=is_call (h4.keep K) (h2.keep K) lB;have n4:=k4.n;have K:=K.trans k4;replace q0:=(k4.blk _ (by omega)).trans q0;replace q1:=(k4.blk _ (by omega)).trans q1;refine Zk 26 (by decide) (by decide) Tryz.func24 rfl rfl ?_;apply Zb;intro b1 hb1;apply Za;simp[Value.cells,Jw,e2];subst hb1;apply Zb;intro b1 hb1;apply Za;simp[Dp,Kw,faR0,faR1,Fg,faQ1,faR2,Zb2 z0,loadR0 z1,Uw z0,loadR1 z1,-Xu,eqBB,c3,Kc y0,loadR2 y1,c4];subst hb1;apply Zn;simp;exact K
theorem Zi7(H:AH): ∃H',Zq Tryz.prog Zo 20 [.agg #[.bool false,.slice none 0 0,.slice none 0 0]] H=some (.bool true,H')∧Keep H H':=by
 suffices h:CW Tryz.prog Zo 20 [.agg #[.bool false,.slice none 0 0,.slice none 0 0]] H fun v H'=>v= .bool true∧Keep H H' by obtain⟨v,H',hc,rfl,k⟩:=h;exact⟨H',hc,k⟩
 obtain⟨H2,e2,k2,n2,q0⟩:=Vr H [.bool false,.slice none 0 0,.slice none 0 0];have ln:lenV Tryz.prog 30 (.slice none 0 0)=some 0:=by kernel_rfl
 refine Zk 20 (by decide) (by decide) Tryz.func20 rfl rfl ?_;apply Zb;intro b1 hb1;apply Za;simp[Value.cells,e2];subst hb1;apply Zb;intro b1 hb1;apply Za;simp[Dp,Kw,Fg,faQ1,Zb2 q0,Uw q0,Kc q0,ln,show Zd .eql .i64 0 0=some (.bool true)from rfl];subst hb1;apply Zn;simp;exact k2
def FD.fit:FD→Prop| .rat _ A B=>Zf A≤67108864∧Zf B≤67108864|_=>True
theorem Zi6{us ws:List Value}{f:FD}(h:FIn H us f)(h':RFIn H ws f)(hf:f.fit): ∃H',Zq Tryz.prog Zo 36 [.agg us.toArray,.agg ws.toArray] H=some (.bool true,H')∧Keep H H':=by
 suffices hs:CW Tryz.prog Zo 36 [.agg us.toArray,.agg ws.toArray] H fun v H'=>v= .bool true∧Keep H H' by obtain⟨v,H',hc,rfl,k⟩:=hs;exact⟨H',hc,k⟩
 have hh:=h;have hh':=h';obtain⟨p,q,r,rfl,_⟩:=h.trio;obtain⟨p',q',r',rfl,_⟩:=h'.trio;obtain⟨H2,e2,k2,n2,q0,q1⟩:=Qv H [.int .i64 f.kind,p,q,r] [.int .i64 f.kind,p',q',r'];have gn:Zd .neq .i64 f.kind f.kind=some (.bool false):=by rw[Ds,decide_eq_false (by omega)]
 refine Zk 21 (by decide) (by decide) Tryz.func36 rfl rfl ?_;apply Zb;intro b1 hb1;apply Za;simp[Value.cells,Jw,e2];subst hb1;apply Zb;intro b1 hb1;apply Zb;intro b2 hb2;apply Za;simp[faF0,Eh q0,faRF0,loadRF0 q1,gn];subst hb2;refine Zc (t:=false) (by simp) ?_;apply Zj;subst hb1;apply Zb;intro b1 hb1;apply Zb;intro b2 hb2;apply Za;simp[faRF0,loadRF0 q1,Za5];subst hb2;cases f with|rat s A B=>obtain⟨_,_,e,h1,h2,_⟩:=hh;obtain⟨_,_,e',h3,h4⟩:=hh';cases e;cases e';obtain⟨H3,c3,k3⟩:=lawNumber_call (s:=s) (h1.keep k2) (h2.keep k2) (h3.keep k2) (h4.keep k2) hf.1 hf.2;refine Zc (t:=true) (by simp[FD.kind]) ?_;apply Zb;intro b2 hb2;apply Za;simp[faF1,loadFQ q0,faRF1',loadRFR q1,c3];subst hb2;apply Zn;simp[Xr];exact k2.trans k3|opn=>cases hh;cases hh';obtain⟨H3,c3,k3⟩:=Zi7 H2;refine Zc (t:=false) (by simp[FD.kind]) ?_;apply Zj;subst hb1;apply Zb;intro b1 hb1;apply Za;simp[faF1,loadFQ q0,c3];subst hb1;apply Zn;simp;exact k2.trans k3|und=>cases hh;cases hh';obtain⟨H3,c3,k3⟩:=Zi7 H2;refine Zc (t:=false) (by simp[FD.kind]) ?_;apply Zj;subst hb1;apply Zb;intro b1 hb1;apply Za;simp[faF1,loadFQ q0,c3];subst hb1;apply Zn;simp;exact k2.trans k3
end
end
theorem bXnum{a b:Value}{x:Bool}(ha: ∃s l c,a= .slice s l c)(hb: ∃s l c,b= .slice s l c):Ui Tryz.prog 53 [(0,.int .i64 0),(1,.agg #[.bool x,a,b])]=some (.agg #[.int .i64 0,.bool x,a,b,.slice none 0 0]):=by obtain⟨s,l,c,rfl⟩:=ha;obtain⟨s',l',c',rfl⟩:=hb;rfl
theorem bXargs{a:Value}{op:Int}(ha: ∃s l c,a= .slice s l c):Ui Tryz.prog 53 [(0,.int .i64 op),(2,a)]=some (.agg #[.int .i64 op,.bool false,.slice none 0 0,.slice none 0 0,a]):=by obtain⟨s,l,c,rfl⟩:=ha;rfl
theorem bXop{op:Int} :Ui Tryz.prog 53 [(0,.int .i64 op)]=some (.agg #[.int .i64 op,.bool false,.slice none 0 0,.slice none 0 0,.slice none 0 0]):=by rfl
theorem sXs:Up Tryz.prog 51=some (53,5,88):=by kernel_rfl
theorem bXs1(H:AH)(v0 v1 v2 v3 v4:Value):Xv Tryz.prog H 51 1 [(0,.agg #[v0,v1,v2,v3,v4])]=some (.slice (some ⟨H.n,0,none⟩) 1 1,H.new 5 [v0,v1,v2,v3,v4]):=by unfold Xv;simp only[sXs,Bi];kernel_rfl
theorem bXs2(H:AH)(v0 v1 v2 v3 v4 w0 w1 w2 w3 w4:Value):Xv Tryz.prog H 51 2 [(0,.agg #[v0,v1,v2,v3,v4]),(1,.agg #[w0,w1,w2,w3,w4])]=some (.slice (some ⟨H.n,0,none⟩) 2 2,H.new 5 [v0,v1,v2,v3,v4,w0,w1,w2,w3,w4]):=by unfold Xv;simp only[sXs,Bi];kernel_rfl
theorem Ex.five{H:AH}{vs:List Value}{t:ET}(h:Ex H vs t): ∃op s va vd vx,vs=[.int .i64 op,.bool s,va,vd,vx]:=by cases h;exact⟨_,_,_,_,_,rfl⟩
theorem Xs.one{H:AH}{vs:List Value}{t:ET}(h:Ex H vs t): ∃H',H'=H.new 5 vs∧Keep H H'∧Xs H' (.slice (some ⟨H.n,0,none⟩) 1 1) [t]:=by refine⟨_,rfl,Keep.new _ _ _,?_⟩;have hk:=h.keep (Keep.new H 5 vs);have hl:=h.len;refine .mk H.n 0 1 (cs:=vs) (args:=[t]) (Nat.lt_succ_self _) (Bc H 5 vs) (Nat.le_refl _) fun i t' hi=>?_;match i,hi with|0,hi=>simp at hi;subst hi;rw[Nat.zero_mul,Nat.add_zero,List.drop_zero,List.take_of_length_le (by omega)];exact hk
theorem Xs.two{H:AH}{vs ws:List Value}{t s:ET}(h:Ex H vs t)(h':Ex H ws s): ∃H',H'=H.new 5 (vs++ws)∧Keep H H'∧Xs H' (.slice (some ⟨H.n,0,none⟩) 2 2) [t,s]:=by refine⟨_,rfl,Keep.new _ _ _,?_⟩;have hk:=h.keep (Keep.new H 5 (vs++ws));have hk':=h'.keep (Keep.new H 5 (vs++ws));have hl:=h.len;have hl':=h'.len;refine .mk H.n 0 2 (cs:=vs++ws) (args:=[t,s]) (Nat.lt_succ_self _) (Bc H 5 _) (Nat.le_refl _) fun i t' hi=>?_;match i,hi with|0,hi=>simp at hi;subst hi;rw[Nat.zero_mul,Nat.add_zero,List.drop_zero,List.take_append_of_le_length (by omega),List.take_of_length_le (by omega)];exact hk|1,hi=>simp at hi;subst hi;rw[show 0+1*5=vs.length by omega,List.drop_left,List.take_of_length_le (by omega)];exact hk'
theorem Xs.shape{H:AH}{v:Value}{l:List ET}(h:Xs H v l): ∃s a c,v= .slice s a c:=by cases h<;>exact⟨_,_,_,rfl⟩
theorem Ex.args{H:AH}{v:Value}{l:List ET}{op:Int}(h:Xs H v l):Ex H [.int .i64 op,.bool false,.slice none 0 0,.slice none 0 0,v] (.node op false [] [] l):= .mk .nil .nil h
def Ku(x:Nat):ET:= .node 0 false [x] [1] []
section
attribute [-simp] Int.natCast_add Int.natCast_mul Int.natCast_ediv Int.natCast_emod Int.natCast_pow
attribute [local simp] strip Yf LW' LR gW Yk Xd Ya Xe Yo Xf Zr Zs Zg Yp Yy Yl Xl Zv Yq Zh Ze Xk Xj Qy Yg Yz opd Xz Ym plain Yi Tr.get_set Xx Zp Xu Yd sameKind undef Zt Ys Yw Zl Yc parts unV DW Xo Zy LX Zw
attribute [local simp] Qc Qo Gt
section
variable {H : AH} {u v w z : Value}
theorem Zh1{x:Nat}(hx:x<9223372036854775808)(H:AH): ∃us H',Zq Tryz.prog Zo 51 [.int .i64 (x:Int)] H=some (.agg us.toArray,H')∧Keep H H'∧Ex H' us (Ku x):=by
 suffices h:CW Tryz.prog Zo 51 [.int .i64 (x:Int)] H fun r H'=> ∃us:List Value,r= .agg us.toArray∧Keep H H'∧Ex H' us (Ku x) by obtain⟨r,H',hc,us,rfl,k⟩:=h;exact⟨us,H',hc,k⟩
 obtain⟨H2,e2,k2,n2,q0⟩:=Vr H [.int .i64 0,.bool false,.slice none 0 0,.slice none 0 0,.slice none 0 0];obtain⟨a,H3,c3,k3,o3⟩:=Za0 H2 (t:=30) Zl x;obtain⟨b,H4,c4,k4,o4⟩:=Za0 H3 (t:=30) Zl 1;have c4:Xv Tryz.prog H3 30 1 [(0,.int .u64 1)]=some (b,H4):=c4;have o3':=o3.mono (Nat.le_refl _) k4;have n3:=k3.n;have q4:=(k4.blk _ (by omega)).trans ((k3.blk _ (by omega)).trans q0);have hE:Ex H4 [.int .i64 0,.bool false,a,b,.slice none 0 0] (Ku x):= .mk o3'.sl o4.sl .nil;obtain⟨H5,st5,n5,q5,b5,ka5⟩:=Ek Zb7 q4 rfl (v:= .agg #[.int .i64 0,.bool false,a,b,.slice none 0 0]) (ws:=[.int .i64 0,.bool false,a,b,.slice none 0 0]) rfl rfl hE.ones;have k5:Keep H H5:=ka5 H ((k2.trans k3).trans k4) (by omega);have o5:=o3'.off (b:=H.n) (by omega) n5 b5;have o6:=o4.off (b:=H.n) (by omega) n5 b5;have hld:=Vf q5 rfl;have cv:=Zc5 (n:=x) (Nat.lt_trans hx (by decide));refine Zk 10 (by decide) (by decide) Tryz.func51 rfl rfl ?_;apply Zb;intro b1 hb1;apply Za;simp[Value.cells,Bi,e2];subst hb1;apply Zb;intro b1 hb1;apply Za;simp[cv,c3,c4,Zc4 o3.shape,Ax (x:=false) o3.shape o4.shape,bXnum o3.shape o4.shape,st5];subst hb1;apply Zn;simp[hld];exact⟨k5,.mk o5.sl o6.sl .nil⟩
theorem count_walk: ∀n(t:ET),t.nodes≤n→ ∀(H:AH)(vs:List Value)(left:Int),Ex H vs t→left≤10000→ -1000000000≤left-(t.nodes:Int)→CW Tryz.prog Zo 66 [.agg vs.toArray,.int .i64 left] H fun x H'=> ∃c:Int,x= .int .i64 c∧left-(t.nodes:Int)≤c∧c≤left∧Keep H H':=by intro n;induction n with
 |zero=>intro t h;have:=Vb t;omega
 |succ n ih=>intro t ht H vs left hE hl1 hl2;obtain⟨op,neg,abs,den,args⟩:=t;have hE':=hE;cases hE' with
  |@mk _ _ va vd vx _ _ _ h1 h2 h3=>
   simp only[ET.nodes]at ht hl2;simp only[ET.nodes];obtain⟨len,hln⟩: ∃len,len=args.length:=⟨_,rfl⟩;have hlx:=h3.len;rw[←hln]at hlx;have hlen9:=Gr args;obtain⟨H2,e2,k2,n2,q0⟩:=Vr H [.int .i64 op,.bool neg,va,vd,vx];have wr: ∀a:Int,-2000000000≤a→a≤2000000000→IntKind.i64.wrap a=a:=fun a h1 h2=>by rw[IntKind.wrap_i64];omega
   have g1:Zd .sub .i64 left 1=some (.int .i64 (left-1)):=by show some (Value.int .i64 (IntKind.i64.wrap (left-1)))=_;rw[wr _ (by omega) (by omega)]
   refine Zk 24 (by decide) (by decide) Tryz.func66 rfl rfl ?_;apply Zb;intro b1 hb1;apply Za;simp[Value.cells,e2];subst hb1;apply Zb;intro b1 hb1;apply Za;simp[g1];subst hb1;apply Zb;intro b1 hb1;apply Zb;intro b2 hb2;apply Za;simp[Zd0,loadX4 q0,hlx];subst hb2;apply Zx;refine Qf (fun n s'=>s'.k=24∧Keep H s'.H∧ ∃(i:Nat) (c:Int),n+i=len∧left-1-(Yb (args.take i):Int)≤c∧c≤left-1∧s'.tm.get 1=some (.int .i64 c)∧s'.tm.get 10=some vx∧s'.tm.get 11=some (.int .i64 (len:Int))∧s'.tm.get 12=some (.int .i64 (i:Int))) ?_ len _ ⟨rfl,k2,0,left-1,by omega,by simp[Yb],by omega,by simp,by simp,by simp,by simp⟩;rintro n' ⟨k,tm,Hc⟩ ⟨hk,kc,i,c,hni,hc1,hc2,u1,u10,u11,u12⟩ Q' hQ';simp only at hk kc u1 u10 u11 u12;subst hk;apply Zb;intro b3 hb3;apply Za;simp[u11,u12,lssN];subst hb3;apply Zb;intro b3 hb3;by_cases hi:i<len
   ·refine Zc (t:=true) (by simp[hi]) ?_;apply Zj;subst hb3;obtain⟨ti,hti⟩: ∃ti,args[i]?=some ti:=⟨args[i]'(by omega),List.getElem?_eq_getElem (by omega)⟩;have hnt:=Cn hti;have hnp:=Vb ti;obtain⟨p,us,hadr,hlod,hEt⟩:=h3.at hti;have hld:=hlod Hc kc;obtain⟨H4,st4,k4,q8,n4⟩:=newX (H:=Hc) hEt.len hEt.ones;have l8:=Vf q8 hEt.len;obtain⟨x,H5,c5,cc,rfl,hcc1,hcc2,k5⟩:=ih ti (by omega) H4 us c (hEt.keep (kc.trans k4)) (by omega) (by omega);have gl:Zd .lss .i64 c 0=some (.bool (decide (c<0))):=lssZZ;have htk:Yb (args.take (i+1))=Yb (args.take i)+ti.nodes:=by rw[List.take_add_one,hti,Ur];simp[Yb]
    apply Zb;intro b3 hb3;apply Zx;apply Zb;intro b4 hb4;apply Za;simp[u10,u12,hadr,hld,Bi,Value.cells,st4];subst hb4;apply Zb;intro b4 hb4;apply Zb;intro b5 hb5;apply Za;simp[u1,gl];subst hb5;by_cases h0:c<0;·refine Zc (t:=true) (by simp[h0]) ?_;apply Zb;intro b5 hb5;apply Za;simp[u1];subst hb5;apply Zn;simp[Xr,Xn];apply hQ';simp[Ba,Xn,Xr];exact⟨by omega,by omega,kc.trans k4⟩
    ·refine Zc (t:=false) (by simp[h0]) ?_;apply Zj;subst hb4;apply Za;simp[l8,u1,c5];simp[Xn];subst hb3;apply Za;simp[u12,Cs (x:=i) (by omega)];apply hQ';exact⟨n'-1,by omega,rfl,(kc.trans k4).trans k5,i+1,cc,by omega,by rw[htk];omega,by omega,by simp,by simp[u10],by simp[u11],by simp⟩
   ·refine Zc (t:=false) (by simp[hi]) ?_;apply Qe;apply hQ';left;refine⟨rfl,?_⟩;obtain rfl:i=len:=by omega
    rw[List.take_of_length_le (by omega)]at hc1;subst hb1;apply Zb;intro b1 hb1;apply Za;simp[u1];subst hb1;apply Zn;simp;exact⟨by omega,by omega,kc⟩
theorem great_call{vs:List Value}{t:ET}(h:Ex H vs t)(hn:t.nodes≤2000000): ∃b H',Zq Tryz.prog Zo 26 [.agg vs.toArray] H=some (.bool b,H')∧Keep H H':=by
 suffices hs:CW Tryz.prog Zo 26 [.agg vs.toArray] H fun v H'=> ∃b,v= .bool b∧Keep H H' by obtain⟨v,H',hc,b,rfl,k⟩:=hs;exact⟨b,H',hc,k⟩
 obtain⟨H2,e2,k2,n2,q0⟩:=Vr H vs;obtain⟨x,H3,c3,c,rfl,h1,h2,k3⟩:=count_walk _ t (Nat.le_refl _) H2 vs 10000 (h.keep k2) (by omega) (by omega);have gl:Zd .lss .i64 c 0=some (.bool (decide (c<0))):=lssZZ;refine Zk 6 (by decide) (by decide) Tryz.func26 rfl rfl ?_;apply Zb;intro b1 hb1;apply Za;simp[Value.cells,e2];subst hb1;apply Zb;intro b1 hb1;apply Za;simp[Vf q0 h.len,c3,gl];subst hb1;apply Zn;simp;exact⟨by omega,k2.trans k3⟩
end
end
def sqrt9:ET:= .node 10 false [] [] [Ku 9]
def piNone:ET:= .node 6 false [] [] [.node 1 false [] [] [],.node 4 false [] [] [Ku 1,Ku 1]]
theorem rt9:rt 9=3:=(rt_eq ⟨by decide,by decide⟩).symm
theorem rt1:rt 1=1:=(rt_eq ⟨by decide,by decide⟩).symm
theorem dv_one(x:Nat):dv B64 [x]=x:=by simp[dv]
theorem fold_numT(x:Nat):(Ku x).fold= .mk (Yn false x 1):=by show(if(Xq []).any FD.isUnd=true then FD.und else Qq 0 false (dv B64 [x]) (dv B64 [1]) (Xq []))=_;rw[dv_one,dv_one];rfl
theorem fold_sqrt9:sqrt9.fold= .rat false 3 1:=by
 have h:Xq [Ku 9]=[.rat false 9 1]:=by show[(Ku 9).fold]=_;rw[fold_numT];rfl
 show(if(Xq [Ku 9]).any FD.isUnd=true then FD.und else Qq 10 false (dv B64 []) (dv B64 []) (Xq [Ku 9]))=_;rw[h];show Us 10 false 9 1=_;unfold Us Bf;simp only[rt9,rt1];rfl
theorem fold_piNone:piNone.fold= .und:=by
 have h1:(Ku 1).fold= .rat false 1 1:=by rw[fold_numT];rfl
 have h2:(ET.node 4 false [] [] [Ku 1,Ku 1]).fold= .rat false 0 1:=by
  have h:Xq [Ku 1,Ku 1]=[.rat false 1 1,.rat false 1 1]:=by show[(Ku 1).fold,(Ku 1).fold]=_;rw[h1]
  show(if(Xq [Ku 1,Ku 1]).any FD.isUnd=true then FD.und else Qq 4 false (dv B64 []) (dv B64 []) (Xq [Ku 1,Ku 1]))=_;rw[h];rfl
 have h3:(ET.node 1 false [] [] []).fold= .opn:=rfl;have h:Xq [.node 1 false [] [] [],.node 4 false [] [] [Ku 1,Ku 1]]=[.opn,.rat false 0 1]:=by show[(ET.node 1 false [] [] []).fold,(ET.node 4 false [] [] [Ku 1,Ku 1]).fold]=_;rw[h2,h3]
 show(if(Xq [.node 1 false [] [] [],.node 4 false [] [] [Ku 1,Ku 1]]).any FD.isUnd=true then FD.und else Qq 6 false (dv B64 []) (dv B64 []) (Xq [.node 1 false [] [] [],.node 4 false [] [] [Ku 1,Ku 1]]))=_;rw[h];rfl
theorem dig_one{x:Nat}(h:x<B64):Dig B64 [x]:=fun y hy=>by rw[List.mem_singleton.mp hy];exact h
theorem Fo:Dig B64 []:=fun y hy=>by cases hy
theorem Zl5{x:Nat}(h:x<B64):(Ku x).wide 1048576:=⟨show 1≤1048576 by decide,by decide,dig_one h,dig_one (by decide),trivial⟩
theorem sqrt9_ok{H:AH}{vs:List Value}(h:Ex H vs sqrt9)(hr:RowsIn H):TreeOk H vs sqrt9∧Vi sqrt9=0:=⟨⟨⟨h,hr,⟨by decide,by decide,Fo,Fo,Zl5 (by decide),trivial⟩,by decide⟩,rfl,by decide⟩,rfl⟩
theorem piNone_ok{H:AH}{vs:List Value}(h:Ex H vs piNone)(hr:RowsIn H):TreeOk H vs piNone∧Vi piNone=0:=⟨⟨⟨h,hr,⟨by decide,by decide,Fo,Fo,⟨by decide,by decide,Fo,Fo,trivial⟩,⟨by decide,by decide,Fo,Fo,Zl5 (by decide),Zl5 (by decide),trivial⟩,trivial⟩,by decide⟩,rfl,by decide⟩,rfl⟩
theorem bRF2:Ui Tryz.prog 77 [(0,.int .i64 2)]=some (.agg #[.int .i64 2,.bool false,.slice none 0 0,.slice none 0 0]):=by rfl
theorem bRFr{p q r:Value}(ht:Fv p q r):Ui Tryz.prog 77 [(0,.int .i64 1),(1,.agg #[p,q,r])]=some (.agg #[.int .i64 1,p,q,r]):=by obtain⟨⟨s,rfl⟩,⟨a1,l1,c1,rfl⟩,⟨a2,l2,c2,rfl⟩⟩:=ht;rfl
section
attribute [-simp] Int.natCast_add Int.natCast_mul Int.natCast_ediv Int.natCast_emod Int.natCast_pow
attribute [local simp] strip Yf LW' LR gW Yk Xd Ya Xe Yo Xf Zr Zs Zg Yp Yy Yl Xl Zv Yq Zh Ze Xk Xj Qy Yg Yz opd Xz Ym plain Yi Tr.get_set Xx Zp Xu Yd sameKind undef Zt Ys Yw Zl Yc parts unV DW Xo Zy LX Zw
attribute [local simp] Qc Qo Gt
section
variable {H : AH} {u v w z : Value}
theorem awake_call(hr:RowsIn H): ∃H',Zq Tryz.prog Zo 14 [] H=some (.bool true,H')∧Keep H H':=by
 suffices h:CW Tryz.prog Zo 14 [] H fun v H'=>v= .bool true∧Keep H H' by obtain⟨v,H',hc,rfl,k⟩:=h;exact⟨H',hc,k⟩
 obtain⟨us9,H2,c2,k2,x2⟩:=Zh1 (x:=9) (by decide) H;replace c2:Zq Tryz.prog Zo 51 [.int .i64 9] H=some (.agg us9.toArray,H2):=c2;obtain⟨o9,s9,a9,b9,d9,rfl⟩:=x2.five;obtain⟨H3,e3,k3,xs3⟩:=Xs.one x2;have x3:Ex H3 _ sqrt9:=Ex.args (op:=10) xs3;have kA:=k2.trans k3;obtain⟨ok3,ch3⟩:=sqrt9_ok x3 (hr.keep kA);obtain⟨fs,H4,c4,k4,f4⟩:=Cc ok3 ch3;rw[fold_sqrt9]at f4;have f4':=f4;obtain⟨p4,q4,rfl,sp4,sq4,low4⟩:=f4';obtain⟨H5,st5,k5,y5,n5⟩:=newFv (H:=H4) f4.len f4.ones;have kB:=(kA.trans k4).trans k5;obtain⟨us1,H6,c6,k6,x6⟩:=Zh1 (x:=1) (by decide) H5;replace c6:Zq Tryz.prog Zo 51 [.int .i64 1] H5=some (.agg us1.toArray,H6):=c6;obtain⟨us2,H7,c7,k7,x7⟩:=Zh1 (x:=1) (by decide) H6;replace c7:Zq Tryz.prog Zo 51 [.int .i64 1] H6=some (.agg us2.toArray,H7):=c7;have x6':=x6.keep k7;obtain⟨o1,s1,a1,b1',d1,rfl⟩:=x6'.five;obtain⟨o2,s2,a2,b2',d2,rfl⟩:=x7.five;obtain⟨H8,e8,k8,xs8⟩:=Xs.two x6' x7;have x8:Ex H8 _ (.node 4 false [] [] [Ku 1,Ku 1]):=Ex.args (op:=4) xs8;have xpi:Ex H8 _ (.node 1 false [] [] []):=Ex.args (op:=1) .nil;obtain⟨H9,e9,k9,xs9⟩:=Xs.two xpi x8;have x9:Ex H9 _ piNone:=Ex.args (op:=6) xs9;simp only[List.cons_append,List.nil_append]at e8 e9;have kC:=((kB.trans k6).trans k7).trans (k8.trans k9);obtain⟨ok9,ch9⟩:=piNone_ok x9 (hr.keep kC);obtain⟨gs,H10,c10,k10,f10⟩:=Cc ok9 ch9;rw[fold_piNone]at f10;obtain rfl:=f10;obtain⟨H11,st11,k11,y11,n11⟩:=Kn (H:=H10) (k:= .int .i64 2) (p:= .bool false) (q:= .slice none 0 0) (r:= .slice none 0 0) rfl;have kD:=(kC.trans k10).trans k11;have kE:=(((k6.trans k7).trans (k8.trans k9)).trans k10).trans k11;have nE:=kE.n;have y5':=(kE.blk _ (by omega)).trans y5;have kE5:=k5.trans kE;have K:=kD;have y5'a:=y5';have y11a:=y11;have vka: ∀{J:AH}(k:Keep H11 J){bits ms},(∀x∈ms,H11.n≤x.2.1)→ ∀b,b<H11.n→(vis J bits ms).blk b=H11.blk b:=fun k _ _ h b hb=>(Qt k h).blk b hb;obtain⟨ip,iq,Ia1,da1,kIa1,j1,j2⟩:=refRInt_call (H:=H11.top) (n:=3) (by decide);obtain⟨Ja1,hJa1⟩: ∃J,J=grown H11 Ia1:=⟨_,rfl⟩;have kJa1:Keep H11 Ja1:=by rw[hJa1];exact Zu (.refl _) kIa1
 have ma1:H11.n≤Ia1.n:=kIa1.n;have kka1:=kJa1;have nka1:=kka1.n;have K:=K.trans kJa1;replace j1:=j1.same (Yj kIa1);rw[←hJa1]at j1;replace j1:Own H11.n Ja1 _ _:=j1;replace j2:=j2.same (Yj kIa1);rw[←hJa1]at j2;replace j2:Own H11.n Ja1 _ _:=j2;replace da1:Zq _ _ _ [Value.int .i64 3] _=_:=da1;have htr:Fv (.bool false) ip iq:=⟨⟨_,rfl⟩,j1.shape,j2.shape⟩;have hfin:FIn Ja1.top [.int .i64 1,.bool false,p4,q4] (.rat false 3 1):=f4.fr ((kE5.trans kJa1).top).fr;obtain⟨Ia2,da2,kIa2⟩:=Zi6 (us:=[.int .i64 1,.bool false,p4,q4]) (ws:=[.int .i64 1,.bool false,ip,iq]) (f:= .rat false 3 1) hfin ⟨_,_,rfl,j1.sl.top,j2.sl.top⟩ ⟨by decide,by decide⟩;obtain⟨Ja2,hJa2⟩: ∃J,J=grown Ja1 Ia2:=⟨_,rfl⟩;have kJa2:Keep Ja1 Ja2:=by rw[hJa2];exact Zu (.refl _) kIa2
 have ma2:Ja1.n≤Ia2.n:=kIa2.n;have kka2:=kka1.trans kJa2;have nka2:=kka2.n;have K:=K.trans kJa2;replace j1:=j1.mono (Nat.le_refl _) kJa2;replace j2:=j2.mono (Nat.le_refl _) kJa2;obtain⟨Ia3,da3,kIa3⟩:=Zi6 (H:=Ja2.top) (us:=[.int .i64 2,.bool false,.slice none 0 0,.slice none 0 0]) (ws:=[.int .i64 2,.bool false,.slice none 0 0,.slice none 0 0]) (f:= .und) rfl rfl trivial;obtain⟨Ja3,hJa3⟩: ∃J,J=grown Ja2 Ia3:=⟨_,rfl⟩;have kJa3:Keep Ja2 Ja3:=by rw[hJa3];exact Zu (.refl _) kIa3
 have ma3:Ja2.n≤Ia3.n:=kIa3.n;have kka3:=kka2.trans kJa3;have nka3:=kka3.n;have K:=K.trans kJa3;replace j1:=j1.mono (Nat.le_refl _) kJa3;replace j2:=j2.mono (Nat.le_refl _) kJa3;replace y5':=(kka3.blk _ (by omega)).trans y5';replace y11:=(kka3.blk _ (by omega)).trans y11;refine Zk 42 (by decide) (by decide) Tryz.func14 rfl rfl ?_;apply Zb;intro b1 hb1;apply Za;simp;subst hb1;apply Zb;intro b1 hb1;apply Za;simp[c2,bXs1,←e3,bXargs,c4,Jl,Value.cells,st5];subst hb1;apply Zb;intro b1 hb1;apply Za;simp[bXop,c6,c7,bXs2,←e8,bXargs,←e9,c10,Jl,Value.cells,st11];subst hb1;apply Zb;intro b1 hb1;apply Qm (by kernel_rfl);simp;refine Ye (v:= .int .i64 0) rfl rfl rfl (by rw[Zm rfl];simp[Eb]) ?_;simp[show Zd .eql .i64 0 0=some (.bool true)from rfl];refine Ye (v:= .agg #[.int .i64 1,.bool false,p4,q4]) rfl rfl rfl (by rw[Zm rfl];simp[Cz (H:=AH.top H11) y5'a]) ?_;simp;refine Yv (v:= .agg #[.bool false,ip,iq]) (H2:=Ia1) rfl rfl rfl (by rw[Zm rfl];simp[da1]) ma1 (Yx kIa1) ?_;rw[←hJa1];have Ma1:=(Fu.nil H11.n).cons (i:=5) (a:=H11.n) (b:=Ia1.n) (by omega);generalize cond (Nat.blt H11.n Ia1.n) _ _=msa1 at Ma1;simp[bRFr htr];refine Yv (v:= .bool true) (H2:=Ia2) rfl rfl rfl (by rw[Zm (Ma1.hid (by kernel_rfl))];simp[da2]) ma2 (Yx kIa2) ?_;rw[←hJa2];have Ma2:=Ma1.cons (i:=7) (a:=Ja1.n) (b:=Ia2.n) (by omega);generalize cond (Nat.blt Ja1.n Ia2.n) _ _=msa2 at Ma2;simp;refine Ye (v:= .int .i64 0) rfl rfl rfl (by rw[Zm (Ma2.hid (by kernel_rfl))];simp[Eb]) ?_;simp[show Zd .eql .i64 0 0=some (.bool true)from rfl];refine Ye (v:= .agg #[.int .i64 2,.bool false,.slice none 0 0,.slice none 0 0]) rfl rfl rfl (by simp[Cz ((vka kka2 Ma2.ge _ (by omega)).trans y11a)]) ?_;simp[bRF2];refine Yv (v:= .bool true) (H2:=Ia3) rfl rfl rfl (by rw[Zm (Ma2.hid (by kernel_rfl))];simp[da3]) ma3 (Yx kIa3) ?_;rw[←hJa3];have Ma3:=Ma2.cons (i:=17) (a:=Ja2.n) (b:=Ia3.n) (by omega);generalize cond (Nat.blt Ja2.n Ia3.n) _ _=msa3 at Ma3;simp;subst hb1;apply Zn;simp;exact K
end
end
def twS(op:Int)(neg:Bool)(abs den:List Nat):Bool×List Nat×List Nat:=if op=0 then((Yn neg (dv B64 abs) (dv B64 den)).1,ds B64 (Yn neg (dv B64 abs) (dv B64 den)).2.1,ds B64 (Yn neg (dv B64 abs) (dv B64 den)).2.2)else(false,[],[])
mutual def ET.twin:ET→ET| .node op neg abs den args=> .node op (twS op neg abs den).1 (twS op neg abs den).2.1 (twS op neg abs den).2.2 (Kq args) def Kq:List ET→List ET|[]=>[]|t::ts=>t.twin::Kq ts end
theorem Zn9(l:List ET):Kq l=l.map ET.twin:=by induction l with|nil=>rfl|cons x xs ih=>simp[Kq,ih]
theorem twinAll_len(l:List ET):(Kq l).length=l.length:=by rw[Zn9];simp
mutual theorem Fl: ∀t:ET,t.twin.nodes=t.nodes| .node op neg abs den args=>by simp only[ET.twin,ET.nodes,Zf2 args] theorem Zf2: ∀l:List ET,Yb (Kq l)=Yb l|[]=>rfl|t::ts=>by simp only[Kq,Yb,Fl t,Zf2 ts] end
theorem twS_len{op:Int}{neg:Bool}{abs den:List Nat}(hD:op=0→0<dv B64 den)(da:Dig B64 abs)(dd:Dig B64 den):(twS op neg abs den).2.1.length≤abs.length∧(twS op neg abs den).2.2.length≤den.length∧Dig B64 (twS op neg abs den).2.1∧Dig B64 (twS op neg abs den).2.2:=by
 unfold twS;by_cases h0:op=0;·simp only[if_pos h0];have hl:=Zg3 (s:=neg) (A:=dv B64 abs) (hD h0);exact⟨Nat.le_trans (Ge Zz hl.1) (Vx da),Nat.le_trans (Ge Zz hl.2) (Vx dd),Xt Zz _,Xt Zz _⟩
 ·simp only[if_neg h0];exact⟨Nat.zero_le _,Nat.zero_le _,Fo,Fo⟩
mutual theorem Bh: ∀t:ET,t.allGood=true→t.wide 1048576→t.twin.wide 1048576∧t.twin.wt≤t.wt| .node op neg abs den args,h,hw=>by obtain⟨wa,wd,da,dd,ws⟩:=hw;simp only[ET.allGood,Bool.and_eq_true]at h;obtain⟨h1,h2,h3,h4⟩:=twS_len (neg:=neg) (Kb h.1).2.2.2 da dd;obtain⟨i1,i2⟩:=Zk5 args h.2 ws;simp only[ET.twin];refine⟨⟨Nat.le_trans h1 wa,Nat.le_trans h2 wd,h3,h4,i1⟩,?_⟩;simp only[ET.wt];split<;>omega theorem Zk5: ∀l:List ET,Jr l=true→Fs 1048576 l→Fs 1048576 (Kq l)∧Kj (Kq l)≤Kj l|[],_,_=>⟨trivial,Nat.le_refl _⟩|t::ts,h,hw=>by simp only[Jr,Bool.and_eq_true]at h;obtain⟨h1,h2⟩:=Bh t h.1 hw.1;obtain⟨h3,h4⟩:=Zk5 ts h.2 hw.2;simp only[Kq,Kj];exact⟨⟨h1,h3⟩,by omega⟩ end
theorem twS_top{op:Int}{neg:Bool}{abs den:List Nat}(hD:op=0→0<dv B64 den)(fs:List FD):Qq op (twS op neg abs den).1 (dv B64 (twS op neg abs den).2.1) (dv B64 (twS op neg abs den).2.2) fs=Qq op neg (dv B64 abs) (dv B64 den) fs:=by
 by_cases h0:op=0;·have hl:=Af (neg:=neg) (n:=dv B64 abs) (hD h0);unfold Qq twS;simp only[if_pos h0];rw[Qh Zz,Qh Zz,hl.1]
 ·exact topFD_op h0 _ _ _ _ _ _ _
mutual theorem twin_fold: ∀t:ET,t.allGood=true→t.twin.fold=t.fold| .node op neg abs den args,h=>by simp only[ET.allGood,Bool.and_eq_true]at h;simp only[ET.twin,ET.fold,Zk4 args h.2];rw[twS_top (Kb h.1).2.2.2] theorem Zk4: ∀l:List ET,Jr l=true→Xq (Kq l)=Xq l|[],_=>rfl|t::ts,h=>by simp only[Jr,Bool.and_eq_true]at h;simp only[Kq,Xq,twin_fold t h.1,Zk4 ts h.2] end
inductive OX(H:AH):(Nat→Prop)→List Value→ET→Prop|mk{P:Nat→Prop}{op:Int}{neg:Bool}{va vd vx:Value}{abs den:List Nat}{args:List ET}(css:List (List Value))(Q:Nat→Nat→Prop):Sl H va abs→Sl H vd den→Lst 5 H vx css→css.length=args.length→(∀b,Qd vx=some b→P b)→(∀i c,Q i c→P c∧Qd vx≠some c)→(∀i j c,i≠j→Q i c→ ¬Q j c)→(∀(i:Nat)(cs:List Value)(t:ET),css[i]?=some cs→args[i]?=some t→OX H (Q i) cs t)→OX H P [.int .i64 op,.bool neg,va,vd,vx] (.node op neg abs den args)
theorem OX.len{H:AH}{P:Nat→Prop}{vs:List Value}{t:ET}(h:OX H P vs t):vs.length=5:=by cases h;rfl
theorem OX.five{H:AH}{P:Nat→Prop}{vs:List Value}{t:ET}(h:OX H P vs t): ∃op s va vd vx,vs=[.int .i64 op,.bool s,va,vd,vx]∧(∃a l c,va= .slice a l c)∧(∃a l c,vd= .slice a l c)∧ ∃a l c,vx= .slice a l c:=by cases h with|mk css Q h1 h2 h3=>exact⟨_,_,_,_,_,rfl,h1.shape,h2.shape,h3.shape⟩
theorem OX.ones{H:AH}{P:Nat→Prop}{vs:List Value}{t:ET}(h:OX H P vs t):vs.all one=true:=by obtain⟨op,s,va,vd,vx,rfl,⟨a,l,c,rfl⟩,⟨a',l',c',rfl⟩,⟨a'',l'',c'',rfl⟩⟩:=h.five;rfl
theorem OX.noU{H:AH}{P:Nat→Prop}{vs:List Value}{t:ET}(h:OX H P vs t):noU vs=true:=by obtain⟨op,s,va,vd,vx,rfl,⟨a,l,c,rfl⟩,⟨a',l',c',rfl⟩,⟨a'',l'',c'',rfl⟩⟩:=h.five;rfl
theorem OX.weak{H:AH}{P P':Nat→Prop}{vs:List Value}{t:ET}(h:OX H P vs t)(hp: ∀j,P j→P' j):OX H P' vs t:=by cases h with|mk css Q h1 h2 h3 h4 h5 h6 h7 h8=>exact .mk css Q h1 h2 h3 h4 (fun b hb=>hp b (h5 b hb)) (fun i c hc=>⟨hp c (h6 i c hc).1,(h6 i c hc).2⟩) h7 h8
theorem OX.fr{H H':AH}{P:Nat→Prop}{vs:List Value}{t:ET}(h:OX H P vs t)(f:Fr H H')(hf: ∀j,P j→j<H.n→H'.blk j=H.blk j):OX H' P vs t:=by induction h with|mk css Q h1 h2 h3 h4 h5 h6 h7 h8 ih=>exact .mk css Q (h1.fr f) (h2.fr f) (h3.frame f.1 fun b hb=>hf b (h5 b hb) (h3.blk_lt hb).1) h4 h5 h6 h7 fun i cs t hc ht=>ih i cs t hc ht fun j hj hn=>hf j (h6 i j hj).1 hn
theorem OX.keep{H H':AH}{P:Nat→Prop}{vs:List Value}{t:ET}(h:OX H P vs t)(k:Keep H H'):OX H' P vs t:=h.fr k.fr fun j _ hj=>k.blk j hj
theorem OX.ex{H:AH}{P:Nat→Prop}{vs:List Value}{t:ET}(h:OX H P vs t):Ex H vs t:=by induction h with
 |@mk P op neg va vd vx abs den args css Q h1 h2 h3 h4 h5 h6 h7 h8 ih=>
  refine .mk h1 h2 ?_;rcases h3 with⟨rfl,rfl⟩|⟨b,rfl,g1,g2,g3⟩;·obtain rfl:args=[]:=List.length_eq_zero_iff.mp h4.symm;exact .nil
  ·rw[h4];refine .mk b 0 args.length g1 (AH.cells_rw' g2 (by decide)) (Nat.le_refl _) fun i t hi=>?_;have hlt:i<css.length:=by rw[h4];exact(List.getElem?_eq_some_iff.mp hi).1
   have hc:=List.getElem?_eq_getElem hlt;rw[Nat.zero_add,Ab g3 hc];exact ih i _ t hc hi
theorem noU5{op:Int}{s:Bool}{p q v:Value}(hp: ∃a l c,p= .slice a l c)(hq: ∃a l c,q= .slice a l c)(hv: ∃a l c,v= .slice a l c):noU [.int .i64 op,.bool s,p,q,v]=true:=by obtain⟨a,l,c,rfl⟩:=hp;obtain⟨a',l',c',rfl⟩:=hq;obtain⟨a'',l'',c'',rfl⟩:=hv;rfl
theorem uXs:Tryz.prog.underlying 51=some (.slice 53):=by kernel_rfl
theorem top_nn(H:AH):H.top.n=H.n:=rfl
theorem grown_fr{H I:AH}(k:Keep H.top I):Fr I (grown H I):=⟨Nat.le_refl _,fun j hj=> .inl ((Yj k).blk j hj (fun e=>by cases e))⟩
theorem buildX1{ws:List Value}(hl:ws.length=5)(H:AH): ∃I,Xv Tryz.prog H 51 1 [(0,.agg ws.toArray)]=some (.slice (some ⟨H.n,0,none⟩) 1 1,I)∧Keep H I∧I.n=H.n+1∧I.blk H.n= .rw 5 ws:=by match ws,hl with|[v0,v1,v2,v3,v4],_=>exact⟨_,bXs1 H v0 v1 v2 v3 v4,Keep.new _ _ _,rfl,by rw[AH.blk_new,if_pos rfl]⟩
theorem putDX1{H:AH}{b:Nat}{op s p q r p' q':Value}{x:Bool}(hb:H.blk b= .rw 1 [op,s,p,q,r])(hbn:b<H.n)(h1:one op=true)(h2:one p'=true)(h3:one q'=true)(h4:one r=true): ∃H2,Xm Tryz.prog H.top 34 (.pointer (some ⟨b,1,none⟩)) (.agg #[.bool x,p',q'])=some H2∧H2.n=H.n∧H2.lw<H.n∧(low H H2).n=H.n∧(low H H2).blk b= .rw 1 [op,.bool x,p',q',r]∧(∀j,j≠b→(low H H2).blk j=H.blk j)∧KAt b H (low H H2):=by obtain⟨H2,st,q,n1,o,ka,lw⟩:=Ed (H:=H.top) (o:=1) Un hb (v:= .agg #[.bool x,p',q']) (ws:=[.bool x,p',q']) rfl rfl (by simp) (by simp[h2,h3,show one (Value.bool x)=true from rfl]);exact⟨H2,st,n1,by rw[lw];show min H.n b<H.n;omega,n1,q,o,Aa ka⟩
theorem putX1{H:AH}{b:Nat}{op s p q r p' q':Value}{x:Bool}(hb:H.blk b= .rw 1 [op,s,p,q,r])(h2:one p'=true)(h3:one q'=true): ∃H2,Xm Tryz.prog H 34 (.pointer (some ⟨b,1,none⟩)) (.agg #[.bool x,p',q'])=some H2∧H2.n=H.n∧H2.blk b= .rw 1 [op,.bool x,p',q',r]∧(∀j,j≠b→H2.blk j=H.blk j)∧KAt b H H2:=by obtain⟨H2,st,q,n1,o,ka,_⟩:=Ed (H:=H) (o:=1) Un hb (v:= .agg #[.bool x,p',q']) (ws:=[.bool x,p',q']) rfl rfl (by simp) (by simp[h2,h3,show one (Value.bool x)=true from rfl]);exact⟨H2,st,n1,q,o,ka⟩
theorem sXsl:Qp Tryz.prog 51=some 1:=by kernel_rfl
theorem putDX4{H:AH}{b:Nat}{op s p q r v:Value}(hb:H.blk b= .rw 1 [op,s,p,q,r])(hbn:b<H.n)(hv:v.cells=#[v])(h1:one v=true): ∃H2,Xm Tryz.prog H.top 51 (.pointer (some ⟨b,4,none⟩)) v=some H2∧H2.n=H.n∧H2.lw<H.n∧(low H H2).n=H.n∧(low H H2).blk b= .rw 1 [op,s,p,q,v]∧(∀j,j≠b→(low H H2).blk j=H.blk j)∧KAt b H (low H H2):=by obtain⟨H2,st,q,n1,o,ka,lw⟩:=Ed (H:=H.top) (o:=4) sXsl hb (v:=v) (ws:=[v]) (by rw[hv]) rfl (by simp) (by simp[h1]);exact⟨H2,st,n1,by rw[lw];show min H.n b<H.n;omega,n1,q,o,Aa ka⟩
theorem loadXA{H:AH}{b:Nat}{v0 v1 v2 v3 v4:Value}(h:H.blk b= .rw 1 [v0,v1,v2,v3,v4]):Yr Tryz.prog H 4 (.pointer (some ⟨b,1,none⟩))=some v1:=Yt aBool (AH.cells_rw' h (by decide)) rfl
theorem loadXB{H:AH}{b:Nat}{v0 v1 v2 v3 v4:Value}(h:H.blk b= .rw 1 [v0,v1,v2,v3,v4]):Yr Tryz.prog H 30 (.pointer (some ⟨b,2,none⟩))=some v2:=Yt aNat (AH.cells_rw' h (by decide)) rfl
theorem loadXC{H:AH}{b:Nat}{v0 v1 v2 v3 v4:Value}(h:H.blk b= .rw 1 [v0,v1,v2,v3,v4]):Yr Tryz.prog H 30 (.pointer (some ⟨b,3,none⟩))=some v3:=Yt aNat (AH.cells_rw' h (by decide)) rfl
theorem faN1(b:Nat):Xa Tryz.prog 34 (.pointer (some ⟨b,1,none⟩)) 0=some (.pointer (some ⟨b,1,none⟩)):=faN b 1
theorem faD1(b:Nat):Xa Tryz.prog 34 (.pointer (some ⟨b,1,none⟩)) 1=some (.pointer (some ⟨b,3,none⟩)):=faD b 1
theorem faNeg1(b:Nat):Xa Tryz.prog 32 (.pointer (some ⟨b,1,none⟩)) 0=some (.pointer (some ⟨b,1,none⟩)):=Kw b 1
theorem faAbs1(b:Nat):Xa Tryz.prog 32 (.pointer (some ⟨b,1,none⟩)) 1=some (.pointer (some ⟨b,2,none⟩)):=faAbs b 1
section
attribute [-simp] Int.natCast_add Int.natCast_mul Int.natCast_ediv Int.natCast_emod Int.natCast_pow
attribute [local simp] strip Yf LW' LR gW Yk Xd Ya Xe Yo Xf Zr Zs Zg Yp Yy Yl Xl Zv Yq Zh Ze Xk Xj Qy Yg Yz opd Xz Ym plain Yi Tr.get_set Xx Zp Xu Yd sameKind undef Zt Ys Yw Zl Yc parts unV DW Xo Zy LX Zw
attribute [local simp] top_nn
section
set_option maxHeartbeats 1000000 in theorem twin_walk: ∀n(t:ET),t.nodes≤n→ ∀(H:AH)(vs:List Value),Ex H vs t→t.wide 1048576→t.allGood=true→ ∃us H',Zq Tryz.prog Zo 78 [.agg vs.toArray] H=some (.agg us.toArray,H')∧Keep H H'∧OX H' (fun j=>H.n≤j∧j<H'.n) us t.twin:=by intro n;induction n with
 |zero=>intro t h;have:=Vb t;omega
 |succ n ih=>
  intro t ht H vs hE hw hg;suffices hs:CW Tryz.prog Zo 78 [.agg vs.toArray] H fun x H'=> ∃us:List Value,x= .agg us.toArray∧Keep H H'∧OX H' (fun j=>H.n≤j∧j<H'.n) us t.twin by obtain⟨x,H',hc,us,rfl,k,o⟩:=hs;exact⟨us,H',hc,k,o⟩
  obtain⟨op,neg,abs,den,args⟩:=t;have hE':=hE;cases hE' with
   |@mk _ _ va vd vx _ _ _ h1 h2 h3=>
    obtain⟨wa,wd,da,dd,wx⟩:=hw;simp only[ET.nodes]at ht;simp only[ET.allGood,Bool.and_eq_true]at hg;obtain⟨hgn,hga⟩:=hg;obtain⟨len,hln⟩: ∃len,len=args.length:=⟨_,rfl⟩;have hlx:=h3.len;rw[←hln]at hlx;have hlen9:=Gr args;have hlen:len≤1000000:=by
     have:=(Kb hgn).2.2.1;have h16:=(Kb hgn).2.1;have h0:=(Kb hgn).1;have har: ∀k,k<16→arity k≤2:=by decide
     have:=har op.toNat (by omega);omega
    have hD:=(Kb hgn).2.2.2;obtain⟨H2,e2,k2,n2,q0,q1⟩:=Qv H [.int .i64 op,.bool neg,va,vd,vx] [.int .i64 0,.bool false,.slice none 0 0,.slice none 0 0,.slice none 0 0];have z2:=q0;obtain⟨H3,st3,k3,q2,n3⟩:=newX (H:=H2) (vs:=[.int .i64 op,.bool false,.slice none 0 0,.slice none 0 0,.slice none 0 0]) rfl rfl;replace q0:=(k3.blk _ (by omega)).trans q0;replace q1:=(k3.blk _ (by omega)).trans q1;obtain⟨S3,hS3⟩: ∃S3,S3=twS op neg abs den:=⟨_,rfl⟩;refine Zk 56 (by decide) (by decide) Tryz.func78 rfl rfl ?_;apply Zb;intro b1 hb1;apply Za;simp[Value.cells,Bi,Jw,e2];subst hb1;apply Zb;intro b1 hb1;apply Za;simp[Fy,Kd z2,bXop,Bi,Value.cells,st3];subst hb1;refine Qu (fun s'=>s'.k=56∧Keep H s'.H∧H.n+3≤s'.H.n∧s'.H.blk H.n= .rw 1 [.int .i64 op,.bool neg,va,vd,vx]∧s'.H.blk (H.n+1)= .rw 1 [.int .i64 0,.bool false,.slice none 0 0,.slice none 0 0,.slice none 0 0]∧(∃p q,s'.H.blk H2.n= .rw 1 [.int .i64 op,.bool S3.1,p,q,.slice none 0 0]∧Sl s'.H p S3.2.1∧Sl s'.H q S3.2.2)∧s'.tm.get 1=some (.pointer (some ⟨H.n,0,none⟩))∧s'.tm.get 2=some (.pointer (some ⟨H.n+1,0,none⟩))∧s'.tm.get 3=some (.pointer (some ⟨H2.n,0,none⟩))) ?_ ?_
    ·intro Q'' hQ'';apply Zb;intro b2 hb2;apply Za;simp[Fy,Kd q0,Za5];subst hb2;by_cases h0:op=0
     ·have hS3:S3=((Yn neg (dv B64 abs) (dv B64 den)).1,ds B64 (Yn neg (dv B64 abs) (dv B64 den)).2.1,ds B64 (Yn neg (dv B64 abs) (dv B64 den)).2.2):=by rw[hS3];unfold twS;rw[if_pos h0]
      obtain⟨R,hR⟩: ∃R,R=Yn neg (dv B64 abs) (dv B64 den):=⟨_,rfl⟩;rw[←hR]at hS3;have bA:=Bl da wa;have bB:=Bl dd wd;have K:=(k2.trans k3);have q0a:=q0;have q1a:=q1;have q2a:=q2;have vka: ∀{J:AH}(k:Keep H3 J){bits ms},(∀x∈ms,H3.n≤x.2.1)→ ∀b,b<H3.n→(vis J bits ms).blk b=H3.blk b:=fun k _ _ h b hb=>(Qt k h).blk b hb;obtain⟨w1,Ia1,da1,kIa1,o1⟩:=Uu ((h1.keep K).top) da (Nat.le_trans wa (by decide));obtain⟨Ja1,hJa1⟩: ∃J,J=grown H3 Ia1:=⟨_,rfl⟩;have kJa1:Keep H3 Ja1:=by rw[hJa1];exact Zu (.refl _) kIa1
      have ma1:H3.n≤Ia1.n:=kIa1.n;have kka1:=kJa1;have nka1:=kka1.n;have K:=K.trans kJa1;replace o1:=o1.same (Yj kIa1);rw[←hJa1]at o1;replace o1:Own H3.n Ja1 _ _:=o1;obtain⟨w2,Ia2,da2,kIa2,o2⟩:=Uu ((h2.keep K).top) dd (Nat.le_trans wd (by decide));obtain⟨Ja2,hJa2⟩: ∃J,J=grown Ja1 Ia2:=⟨_,rfl⟩;have kJa2:Keep Ja1 Ja2:=by rw[hJa2];exact Zu (.refl _) kIa2
      have ma2:Ja1.n≤Ia2.n:=kIa2.n;have kka2:=kka1.trans kJa2;have nka2:=kka2.n;have K:=K.trans kJa2;replace o1:=o1.mono (Nat.le_refl _) kJa2;replace o2:=o2.same (Yj kIa2);rw[←hJa2]at o2;replace o2:Own Ja1.n Ja2 _ _:=o2;replace q0:=(kka2.blk _ (by omega)).trans q0;replace q1:=(kka2.blk _ (by omega)).trans q1;replace q2:=(kka2.blk _ (by omega)).trans q2;have r1:=q2;obtain⟨Sa1,ssta1,sna1,slwa1,fna1,q2,foa1,fka1⟩:=putDX1 (x:=neg) q2 (by omega) rfl o1.one1 o2.one1 rfl;obtain⟨Fa1,hFa1⟩: ∃F,F=low Ja2 Sa1:=⟨_,rfl⟩;rw[←hFa1]at fna1 q2 foa1 fka1;have K:=fka1 _ K (by omega);replace q0:=(foa1 _ (by omega)).trans q0;replace q1:=(foa1 _ (by omega)).trans q1;replace o1:=o1.off (b:=H2.n) (by first|omega|(show _<AH.n _;omega)) fna1 foa1;replace o2:=o2.off (b:=H2.n) (by first|omega|(show _<AH.n _;omega)) fna1 foa1;have z0:=q0;obtain⟨p,q,H4,c4,k4,o3,o4⟩:=El neg (h1.keep K) (h2.keep K) da dd (Nat.le_trans wa (by decide)) (Nat.le_trans wd (by decide)) rfl rfl (by omega) (by omega) (hD h0);have n4:=k4.n;have K:=K.trans k4;replace q0:=(k4.blk _ (by omega)).trans q0;replace q1:=(k4.blk _ (by omega)).trans q1;replace q2:=(k4.blk _ (by omega)).trans q2;replace o1:=o1.mono (Nat.le_refl _) k4;replace o2:=o2.mono (Nat.le_refl _) k4;rw[←hR]at c4 o3 o4;obtain⟨H5,st5,k5,q3,n5⟩:=newQ (H:=H4) (p:= .bool R.1) (q:=p) (r:=q) (by simp[o3.one1,o4.one1,show one (Value.bool R.1)=true from rfl]);have K:=K.trans k5;replace q0:=(k5.blk _ (by omega)).trans q0;replace q1:=(k5.blk _ (by omega)).trans q1;replace q2:=(k5.blk _ (by omega)).trans q2;replace o1:=o1.mono (Nat.le_refl _) k5;replace o2:=o2.mono (Nat.le_refl _) k5;replace o3:=o3.mono (Nat.le_refl _) k5;replace o4:=o4.mono (Nat.le_refl _) k5;have z3:=q3;obtain⟨H6,st6,n6,q2,b6,ka6⟩:=putX1 (x:=R.1) q2 o3.one1 o4.one1;have K:=ka6 _ K (by omega);replace q0:=(b6 _ (by omega)).trans q0;replace q1:=(b6 _ (by omega)).trans q1;replace q3:=(b6 _ (by omega)).trans q3;replace o1:=o1.off (b:=H2.n) (by first|omega|(show _<AH.n _;omega)) n6 b6;replace o2:=o2.off (b:=H2.n) (by first|omega|(show _<AH.n _;omega)) n6 b6;replace o3:=o3.off (b:=H2.n) (by first|omega|(show _<AH.n _;omega)) n6 b6;replace o4:=o4.off (b:=H2.n) (by first|omega|(show _<AH.n _;omega)) n6 b6;have nn4:=k4.n;refine Zc (t:=true) (by simp[h0]) ?_;apply Zb;intro b3 hb3;apply Qm (by kernel_rfl);simp[Bt,faN1,faNeg1];refine Ye (v:= .bool neg) rfl rfl rfl (by rw[Zm rfl];simp[loadXA (H:=AH.top H3) q0a]) ?_;simp[Bt,faN1,faAbs1];refine Ye (v:=va) rfl rfl rfl (by rw[Zm rfl];simp[loadXB (H:=AH.top H3) q0a]) ?_;simp;refine Yv (v:=w1) (H2:=Ia1) rfl rfl rfl (by rw[Zm rfl];simp[da1]) ma1 (Yx kIa1) ?_;rw[←hJa1];have Ma1:=(Fu.nil H3.n).cons (i:=8) (a:=H3.n) (b:=Ia1.n) (by omega);generalize cond (Nat.blt H3.n Ia1.n) _ _=msa1 at Ma1;simp[Ay (b:=neg) o1.shape,Bt,faD1];refine Ye (v:=vd) rfl rfl rfl (by simp[loadXC ((vka kka1 Ma1.ge _ (by omega)).trans q0a)]) ?_;simp;refine Yv (v:=w2) (H2:=Ia2) rfl rfl rfl (by rw[Zm (Ma1.hid (by kernel_rfl))];simp[da2]) ma2 (Yx kIa2) ?_;rw[←hJa2];have Ma2:=Ma1.cons (i:=13) (a:=Ja1.n) (b:=Ia2.n) (by omega);generalize cond (Nat.blt Ja1.n Ia2.n) _ _=msa2 at Ma2;simp[Ax (x:=neg) o1.shape o2.shape,Bt];refine Xg (v:= .tuple #[]) (H2:=Sa1) rfl rfl (by kernel_rfl) (Ma2.hid (by kernel_rfl)) ?_ (by omega) slwa1 ?_;·show Yk _ _ _ _ Ja2.top _=_;simp[ssta1,Bt]
      rw[show({ n:=Sa1.n,lw:=min Ja2.lw Sa1.lw,t:=Sa1.t } :AH)=Fa1 from hFa1.symm];rw[show Nat.blt Ja2.n Sa1.n=false from by rw[sna1];exact Qg _,cond_false];simp[Bt];subst hb3;apply Zb;intro b1 hb1;apply Za;simp[Bt,loadX1 z0,c4,Jv,Value.cells,st5];subst hb1;apply Zb;intro b1 hb1;apply Za;simp[show Zd .eql .i64 0 0=some (.bool true)from rfl];subst hb1;refine Zc (t:=true) (by simp) ?_;apply Za;simp[Xp z3,Bt,st6];apply hQ'';rw[hS3];exact⟨rfl,K,by show H.n+3≤H6.n;omega,q0,q1,⟨p,q,q2,o3.sl,o4.sl⟩,by simp,by simp,by simp⟩
     ·have hS3:S3=(false,[],[]):=by rw[hS3];unfold twS;rw[if_neg h0]
      refine Zc (t:=false) (by simp[h0]) ?_;apply Zj;apply hQ'';rw[hS3];exact⟨rfl,k2.trans k3,by show H.n+3≤H3.n;omega,q0,q1,⟨_,_,q2,.nil,.nil⟩,by simp,by simp,by simp⟩
    clear q0 q1 q2 z2;rintro⟨k,tm,Hb⟩ ⟨hk,kb,nb,q0,q1,⟨p,q,q2,sp,sq⟩,u1,u2,u3⟩;simp only at hk kb nb q0 q1 q2 sp sq u1 u2 u3;subst hk;have psh:=sp.shape;have qsh:=sq.shape;apply Zb;intro b1 hb1;apply Zb;intro b2 hb2;apply Za;simp[u1,Zd0,loadX4 q0,hlx];subst hb2;apply Zx;refine Qf (fun n s'=>s'.k=56∧ ∃(i:Nat) (av:Value) (css:List (List Value)) (Q:Nat→Nat→Prop),n+i=len∧Keep H s'.H∧H.n+3≤s'.H.n∧s'.H.blk H.n= .rw 1 [.int .i64 op,.bool neg,va,vd,vx]∧s'.H.blk (H.n+1)= .rw 1 [.int .i64 0,.bool false,.slice none 0 0,.slice none 0 0,.slice none 0 0]∧s'.H.blk H2.n= .rw 1 [.int .i64 op,.bool S3.1,p,q,av]∧Sl s'.H p S3.2.1∧Sl s'.H q S3.2.2∧Lst 5 s'.H av css∧css.length=i∧(∀b,Qd av=some b→H.n+3≤b)∧(∀j c,Q j c→H.n+3≤c∧c<s'.H.n∧Qd av≠some c)∧(∀j l c,j≠l→Q j c→ ¬Q l c)∧(∀(j:Nat)(cs:List Value)(t:ET),css[j]?=some cs→args[j]?=some t→OX s'.H (Q j) cs t.twin)∧s'.tm.get 1=some (.pointer (some ⟨H.n,0,none⟩))∧s'.tm.get 2=some (.pointer (some ⟨H.n+1,0,none⟩))∧s'.tm.get 3=some (.pointer (some ⟨H2.n,0,none⟩))∧s'.tm.get 41=some vx∧s'.tm.get 42=some (.int .i64 (len:Int))∧s'.tm.get 43=some (.int .i64 (i:Int))) ?_ len _ ⟨rfl,0,.slice none 0 0,[],fun _ _=>False,by omega,kb,nb,q0,q1,q2,sp,sq,.nil,rfl,(fun b hb=>by cases hb),(fun _ _ h=>h.elim),(fun _ _ _ _ h=>h.elim),(fun j cs t h=>by simp at h),by simp[u1],by simp[u2],by simp[u3],by simp,by simp,by simp⟩;clear q0 q1 q2 sp sq u1 u2 u3 kb nb;rintro n' ⟨k,tm,Hc⟩ ⟨hk,i,av,css,Q,hni,kc,nc,qx,qz,qy,spc,sqc,hL,hcl,hav,hQ1,hQ2,hQ3,u1,u2,u3,u41,u42,u43⟩ Q' hQ';simp only at hk kc nc qx qz qy spc sqc hL hQ1 hQ3 u1 u2 u3 u41 u42 u43;subst hk;apply Zb;intro b3 hb3;apply Za;simp[u42,u43,lssN];subst hb3;apply Zb;intro b3 hb3;by_cases hi:i<len
    ·refine Zc (t:=true) (by simp[hi]) ?_;apply Zj;subst hb3;obtain⟨ti,hti⟩: ∃ti,args[i]?=some ti:=⟨args[i]'(by omega),List.getElem?_eq_getElem (by omega)⟩;have hnt:=Ey hti;obtain⟨pp,us,hadr,hlod,hEt⟩:=h3.at hti;have hld:=hlod Hc kc;obtain⟨H4,st4,k4,q8,n4⟩:=newX (H:=Hc) hEt.len hEt.ones;have qx4:=(k4.blk _ (by omega)).trans qx;have qz4:=(k4.blk _ (by omega)).trans qz;have qy4:=(k4.blk _ (by omega)).trans qy;have K:=(kc.trans k4);have qx4a:=qx4;have qz4a:=qz4;have qy4a:=qy4;have q8a:=q8;have vka: ∀{J:AH}(k:Keep H4 J){bits ms},(∀x∈ms,H4.n≤x.2.1)→ ∀b,b<H4.n→(vis J bits ms).blk b=H4.blk b:=fun k _ _ h b hb=>(Qt k h).blk b hb;obtain⟨ws,Ia1,da1,kIa1,ox⟩:=ih ti (by omega) H4.top us ((hEt.keep K).keep (Dq _)) (Cj wx hti) (Zb1 hga hti);obtain⟨Ja1,hJa1⟩: ∃J,J=grown H4 Ia1:=⟨_,rfl⟩;have kJa1:Keep H4 Ja1:=by rw[hJa1];exact Zu (.refl _) kIa1
     have ma1:H4.n≤Ia1.n:=kIa1.n;have kka1:=kJa1;have nka1:=kka1.n;have K:=K.trans kJa1;obtain⟨Ia2,da2,kIa2,nI2,bI2⟩:=buildX1 ox.len Ja1.top;obtain⟨Ja2,hJa2⟩: ∃J,J=grown Ja1 Ia2:=⟨_,rfl⟩;have kJa2:Keep Ja1 Ja2:=by rw[hJa2];exact Zu (.refl _) kIa2
     have ma2:Ja1.n≤Ia2.n:=kIa2.n;have kka2:=kka1.trans kJa2;have nka2:=kka2.n;have K:=K.trans kJa2;replace qx4:=(kka2.blk _ (by omega)).trans qx4;replace qz4:=(kka2.blk _ (by omega)).trans qz4;replace qy4:=(kka2.blk _ (by omega)).trans qy4;replace q8:=(kka2.blk _ (by omega)).trans q8;have nJ1:Ja1.n=Ia1.n:=by rw[hJa1];rfl
     have nJ2:Ja2.n=Ja1.n+1:=by rw[hJa2];exact nI2
     have bJ2:Ja2.top.blk Ja1.n= .rw 5 ws:=by show Ja2.blk Ja1.n=_;rw[hJa2,(Yj kIa2).blk Ja1.n (by rw[nI2];exact Nat.lt_succ_self _) (fun e=>by cases e)];exact bI2
     have ox1:OX Ja1 (fun j=>H4.n≤j∧j<Ja1.n) ws ti.twin:=by rw[hJa1];exact ox.fr (grown_fr kIa1) fun j _ hj=>(Yj kIa1).blk j hj (fun e=>by cases e)
     have ox2:=ox1.keep kJa2;have kH4:=k4.trans kka2;obtain⟨He,hap,ne,othe,hLe,hk0,hk1⟩:=((hL.keep kH4).keep (Dq Ja2)).append (by decide) bJ2 ox.len ox.ones sXs (by decide) Bi rfl (by omega);replace ne:He.n=Ja2.n+1:=ne;replace hLe:Lst 5 He (.slice (some ⟨Ja2.n,0,none⟩) (css.length+1) (css.length+1)) (css++[ws]):=hLe;replace othe: ∀j,j<Ja2.n→Qd av≠some j→He.blk j=Ja2.blk j:=othe;have avsh:=hL.shape;have nkH:=kH4.n;obtain⟨Gd,hGd⟩: ∃Gd:AH→Prop,∀G,Gd G↔(G.n=He.n∧Keep H G∧G.blk H.n= .rw 1 [.int .i64 op,.bool neg,va,vd,vx]∧G.blk (H.n+1)= .rw 1 [.int .i64 0,.bool false,.slice none 0 0,.slice none 0 0,.slice none 0 0]∧G.blk H2.n= .rw 1 [.int .i64 op,.bool S3.1,p,q,.slice (some ⟨Ja2.n,0,none⟩) (css.length+1) (css.length+1)]∧Sl G p S3.2.1∧Sl G q S3.2.2∧Lst 5 G (.slice (some ⟨Ja2.n,0,none⟩) (css.length+1) (css.length+1)) (css++[ws])∧(∀(j:Nat)(cs:List Value)(t:ET),(css++[ws])[j]?=some cs→args[j]?=some t→OX G (fun c=>(j=i∧H4.n≤c∧c<Ja1.n)∨(j<i∧Q j c)) cs t.twin)):=⟨_,fun _=>Iff.rfl⟩;have fin: ∀G3:AH,But none He G3→KAt (H.n+3) Ja2 G3→ ∃Hs,Xm Tryz.prog G3.top 51 (.pointer (some ⟨H2.n,4,none⟩)) (.slice (some ⟨Ja2.n,0,none⟩) (css.length+1) (css.length+1))=some Hs∧Hs.n=G3.n∧Hs.lw<G3.n∧Gd (low G3 Hs):=fun G3 bt kag=>by
      have old: ∀j,j<Ja2.n→Qd av≠some j→G3.blk j=Ja2.blk j:=fun j hj h=>(bt.blk j (by omega) (fun e=>by cases e)).trans (othe j hj h);have nav: ∀j,j<H.n+3→Qd av≠some j:=fun j hj e=>by have:=hav j e;omega
      have qy3:G3.blk H2.n= .rw 1 [.int .i64 op,.bool S3.1,p,q,av]:=(old _ (by omega) (nav _ (by omega))).trans qy4;have n3e:=bt.n;obtain⟨Hs,ss,sn,slw,fn,fb,fo,fk⟩:=putDX4 (v:= .slice (some ⟨Ja2.n,0,none⟩) (css.length+1) (css.length+1)) qy3 (by omega) rfl rfl;refine⟨Hs,ss,sn,slw,(hGd _).2 ?_⟩;obtain⟨G4,hG4⟩: ∃G4,G4=low G3 Hs:=⟨_,rfl⟩;rw[←hG4]at fn fb fo fk⊢;have keepj: ∀j,j<Ja2.n→Qd av≠some j→j≠H2.n→G4.blk j=Ja2.blk j:=fun j hj h h2=>(fo j h2).trans (old j hj h);have f4:Fr Ja2 G4:=⟨by omega,fun j hj=>by
       by_cases e:j=H2.n;·subst e;exact .inr (.inr ⟨_,_,qy4,fb,rfl,noU5 psh qsh avsh,noU5 psh qsh ⟨_,_,_,rfl⟩⟩)
       ·by_cases e2:Qd av=some j;·exact .inr (.inl ⟨5,_,((hL.keep kH4).blk_lt e2).2,by decide⟩)
        ·exact .inl (keepj j hj e2 e)⟩;refine⟨by omega,fk H ((kag H K (by omega))) (by omega),(keepj _ (by omega) (nav _ (by omega)) (by omega)).trans qx4,(keepj _ (by omega) (nav _ (by omega)) (by omega)).trans qz4,fb,(spc.keep kH4).fr f4,(sqc.keep kH4).fr f4,hLe.frame (by omega) (fun b hb=>?_),fun j cs t hc ht=>?_⟩;·cases hb;exact(fo _ (by omega)).trans (bt.blk _ (by omega) (fun e=>by cases e))
      ·rcases Nat.lt_or_ge j i with hj|hj;·rw[List.getElem?_append_left (by omega)]at hc;refine((((hQ3 j cs t hc ht).keep kH4).fr f4 fun c hc' hn=>?_)).weak fun c hc'=> .inr ⟨hj,hc'⟩;obtain⟨g1,g2,g3⟩:=hQ1 j c hc';exact keepj c (by omega) g3 (by omega)
       ·rw[List.getElem?_append_right (by omega)]at hc;have hji:j=i:=by
         rcases Nat.lt_or_ge i j with h|h;·rw[List.getElem?_eq_none (by simp;omega)]at hc;cases hc
         ·omega
        subst hji;rw[hcl,Nat.sub_self]at hc;cases hc;rw[hti]at ht;cases ht;refine(ox2.fr f4 fun c hc' hn=>?_).weak fun c hc'=> .inl ⟨rfl,hc'⟩;exact keepj c (by omega) (fun e=>by have:=(hL.blk_lt e).1;omega) (by omega)
     have l8:=Vf q8 hEt.len;refine Qu (fun s'=>s'.k=56∧Gd s'.H∧s'.tm.get 1=some (.pointer (some ⟨H.n,0,none⟩))∧s'.tm.get 2=some (.pointer (some ⟨H.n+1,0,none⟩))∧s'.tm.get 3=some (.pointer (some ⟨H2.n,0,none⟩))∧s'.tm.get 41=some vx∧s'.tm.get 42=some (.int .i64 (len:Int))∧s'.tm.get 43=some (.int .i64 (i:Int))) ?_ ?_;·intro Q'' hQ'';apply Zx;apply Zb;intro b4 hb4;apply Za;simp[u41,u43,hadr,hld,Bi,Value.cells,st4];subst hb4;apply Qm (by kernel_rfl);simp[u3,Zd0];refine Ye (v:=av) rfl rfl rfl (by rw[Zm rfl];simp[loadX4 (H:=AH.top H4) qy4a]) ?_;simp[u3];refine Ye (v:= .agg us.toArray) rfl rfl rfl (by rw[Zm rfl];simp[Vf (H:=AH.top H4) q8a hEt.len]) ?_;simp;refine Yv (v:= .agg ws.toArray) (H2:=Ia1) rfl rfl rfl (by rw[Zm rfl];simp[da1]) ma1 (Yx kIa1) ?_;rw[←hJa1];have Ma1:=(Fu.nil H4.n).cons (i:=3) (a:=H4.n) (b:=Ia1.n) (by omega);generalize cond (Nat.blt H4.n Ia1.n) _ _=msa1 at Ma1;simp;refine Yv (v:= .slice (some ⟨Ja1.n,0,none⟩) 1 1) (H2:=Ia2) rfl rfl rfl (by rw[Zm (Ma1.hid (by kernel_rfl))];simp[da2]) ma2 (Yx kIa2) ?_;rw[←hJa2];have Ma2:=Ma1.cons (i:=4) (a:=Ja1.n) (b:=Ia2.n) (by omega);generalize cond (Nat.blt Ja1.n Ia2.n) _ _=msa2 at Ma2;simp;cases hxb:Qd av with
      |none=>
       refine Yv (v:= .slice (some ⟨Ja2.n,0,none⟩) (css.length+1) (css.length+1)) (H2:=He) rfl rfl rfl ?_ (by omega) (by rw[(hk0 hxb).2];exact Nat.le_refl _) ?_;·rw[Zm (Ma2.hid (by kernel_rfl))];simp[hap]
       obtain⟨Hs,ss,sn,slw,hfin⟩:=fin (grown Ja2 He) (Yj (hk0 hxb).1) ((Zu (.refl _) (hk0 hxb).1).kat _);have Ma3:=Ma2.cons (i:=5) (a:=Ja2.n) (b:=He.n) (by omega);generalize cond (Nat.blt Ja2.n He.n) _ _=msa3 at Ma3;simp[u3,Zd0];refine Xg (v:= .tuple #[]) (H2:=Hs) rfl rfl (by kernel_rfl) (Ma3.hid (by kernel_rfl)) ?_ (by rw[sn];exact Nat.le_refl _) slw ?_;·show Yk _ _ _ _ (grown Ja2 He).top _=_;simp[ss]
       simp;apply hQ'';exact⟨rfl,hfin,by simp[u1],by simp[u2],by simp[u3],by simp[u41],by simp[u42],by simp[u43]⟩
      |some b=>
       have hb1:=hk1 b hxb;have hb2:b<Ja2.n:=hb1.2.2;refine Xg (v:= .slice (some ⟨Ja2.n,0,none⟩) (css.length+1) (css.length+1)) (H2:=He) rfl rfl (by kernel_rfl) (Ma2.hid (by kernel_rfl)) ?_ (by omega) (by have h3:=hb1.2.1;omega) ?_;·show Yk _ _ _ _ Ja2.top _=_;simp[hap]
       obtain⟨Hs,ss,sn,slw,hfin⟩:=fin (low Ja2 He) (low_but Ja2 He) (Aa (hb1.1.weak (hav b hxb)));have Ma3:=Ma2.cons (i:=5) (a:=Ja2.n) (b:=He.n) (by omega);generalize cond (Nat.blt Ja2.n He.n) _ _=msa3 at Ma3;simp[u3,Zd0];refine Xg (v:= .tuple #[]) (H2:=Hs) rfl rfl (by kernel_rfl) (Ma3.hid (by kernel_rfl)) ?_ (by rw[sn];exact Nat.le_refl _) slw ?_;·show Yk _ _ _ _ (low Ja2 He).top _=_;simp[ss]
       simp;rw[show low (low Ja2 He) Hs= { n:=Hs.n,lw:=min Ja2.lw (min He.lw Hs.lw),t:=Hs.t } by simp[low,Nat.min_assoc]]at hfin;apply hQ'';exact⟨rfl,hfin,by simp[u1],by simp[u2],by simp[u3],by simp[u41],by simp[u42],by simp[u43]⟩
     clear u1 u2 u3 u41 u42 u43;rintro⟨k,tm2,Hx⟩ ⟨hk,hG,u1,u2,u3,u41,u42,u43⟩;simp only at hk hG u1 u2 u3 u41 u42 u43;subst hk;obtain⟨nx,kx,x0,x1,x2,xp,xq,xL,xO⟩:=(hGd _).1 hG;apply Za;simp[u43,Cs (x:=i) (by omega)];apply hQ';refine⟨n'-1,by omega,rfl,i+1,.slice (some ⟨Ja2.n,0,none⟩) (css.length+1) (css.length+1),css++[ws],fun j c=>(j=i∧H4.n≤c∧c<Ja1.n)∨(j<i∧Q j c),by omega,kx,by show H.n+3≤Hx.n;omega,x0,x1,x2,xp,xq,xL,by simp[hcl],(fun b hb=>by cases hb;omega),fun j c hc=>?_,fun j l c hjl h1 h2=>?_,xO,by simp[u1],by simp[u2],by simp[u3],by simp[u41],by simp[u42],by simp⟩
     ·show H.n+3≤c∧c<Hx.n∧_;rcases hc with⟨_,g1,g2⟩|⟨_,g⟩;·exact⟨by omega,by omega,fun e=>by cases e;omega⟩
      ·obtain⟨g1,g2,_⟩:=hQ1 j c g;exact⟨g1,by omega,fun e=>by cases e;omega⟩
     ·rcases h1 with⟨e1,g1,g2⟩|⟨e1,g1⟩
      ·rcases h2 with⟨e2,_,_⟩|⟨e2,g3⟩;·omega
       ·have:=(hQ1 l c g3).2.1;omega
      ·rcases h2 with⟨e2,g2,_⟩|⟨e2,g3⟩;·have:=(hQ1 j c g1).2.1;omega
       ·exact hQ2 j l c hjl g1 g3
    ·refine Zc (t:=false) (by simp[hi]) ?_;apply Qe;apply hQ';left;refine⟨rfl,?_⟩;clear hQ';obtain rfl:i=len:=by omega
     subst hb1;have ash:=hL.shape;have hones:[Value.int .i64 op,.bool S3.1,p,q,av].all one=true:=by obtain⟨a,l,c,rfl⟩:=psh;obtain⟨a',l',c',rfl⟩:=qsh;obtain⟨a'',l'',c'',rfl⟩:=ash;rfl
     obtain⟨H9,st9,n9,q9,b9,ka9⟩:=Ek Zb7 qz rfl (v:= .agg #[.int .i64 op,.bool S3.1,p,q,av]) (ws:=[.int .i64 op,.bool S3.1,p,q,av]) (by simp[Value.cells]) rfl hones;have f9:Fr Hc H9:=Fr.put qz q9 n9 b9 rfl rfl (noU5 psh qsh ash);have hld:=Vf q9 rfl;have hly:=Vf qy rfl;try simp at hld hly
     apply Zb;intro b1 hb1;apply Za;simp[u2,u3,hly,st9];subst hb1;apply Zn;simp[u2,hld];have hcl':css.length=(Kq args).length:=by rw[twinAll_len];omega
     refine⟨ka9 H kc (by omega),?_⟩;simp only[ET.twin];rw[←hS3];refine .mk css Q (spc.fr f9) (sqc.fr f9) (hL.frame (by omega) fun b hb=>b9 b (by have:=hav b hb;omega)) hcl' (fun b hb=>?_) (fun j c hc=>?_) hQ2 fun j cs t hc ht=>?_;·have:=hav b hb;have:=(hL.blk_lt hb).1;exact⟨by omega,by omega⟩
     ·obtain⟨g1,g2,g3⟩:=hQ1 j c hc;exact⟨⟨by omega,by omega⟩,g3⟩
     ·rw[Zn9,List.getElem?_map]at ht;cases hj:args[j]? with|none=>rw[hj]at ht;cases ht|some t0=>rw[hj]at ht;cases ht;exact(hQ3 j cs t0 hc hj).fr f9 fun c hc' hn=>b9 c (by have:=(hQ1 j c hc').1;omega)
end
end
mutual def plaT(p:ET):ET→Nat→ET| .node op neg abs den args,k=>if k=0 then p else .node op neg abs den (plaL p args (k-1)) def plaL(p:ET):List ET→Nat→List ET|[],_=>[]|t::ts,k=>if k<t.nodes then plaT p t k::ts else t::plaL p ts (k-t.nodes) end
theorem plaL_len(p:ET): ∀(l:List ET)(k:Nat),(plaL p l k).length=l.length
 |[],_=>rfl
 |t::ts,k=>by
  unfold plaL;split;·rfl
  ·simp[plaL_len p ts]
theorem plaL_set(p:ET): ∀(l:List ET)(k i:Nat)(t:ET),l[i]?=some t→Yb (l.take i)≤k→k<Yb (l.take i)+t.nodes→plaL p l k=l.set i (plaT p t (k-Yb (l.take i)))|[],k,i,t,h,_,_=>by simp at h|x::xs,k,0,t,h,h1,h2=>by simp at h;subst h;simp only[List.take_zero,Yb,Nat.zero_add,Nat.sub_zero]at h2⊢;unfold plaL;rw[if_pos h2];rfl|x::xs,k,i+1,t,h,h1,h2=>by simp at h;simp only[List.take_succ_cons,Yb]at h1 h2⊢;unfold plaL;rw[if_neg (by omega),plaL_set p xs (k-x.nodes) i t h (by omega) (by omega),List.set_cons_succ,Nat.sub_add_eq]
mutual theorem put_nodes(p:ET): ∀(t:ET)(k:Nat),(plaT p t k).nodes≤t.nodes+p.nodes
 | .node op neg abs den args,k=>by
  unfold plaT;split;·omega
  ·simp only[ET.nodes];have:=plaL_nodes p args (k-1);omega theorem plaL_nodes(p:ET): ∀(l:List ET)(k:Nat),Yb (plaL p l k)≤Yb l+p.nodes
 |[],_=>by simp[plaL,Yb]
 |t::ts,k=>by
  unfold plaL;split;·simp only[Yb];have:=put_nodes p t k;omega
  ·simp only[Yb];have:=plaL_nodes p ts (k-t.nodes);omega end
mutual theorem put_wide{p:ET}(hp:p.wide 1048576): ∀(t:ET)(k:Nat),t.wide 1048576→(plaT p t k).wide 1048576∧(plaT p t k).wt≤t.wt+p.wt
 | .node op neg abs den args,k,hw=>by
  unfold plaT;split;·exact⟨hp,by omega⟩
  ·obtain⟨wa,wd,da,dd,ws⟩:=hw;have:=plaL_wide hp args (k-1) ws;simp only[ET.wt];exact⟨⟨wa,wd,da,dd,this.1⟩,by omega⟩ theorem plaL_wide{p:ET}(hp:p.wide 1048576): ∀(l:List ET)(k:Nat),Fs 1048576 l→Fs 1048576 (plaL p l k)∧Kj (plaL p l k)≤Kj l+p.wt
 |[],_,_=>⟨trivial,by simp[plaL,Kj]⟩
 |t::ts,k,hw=>by
  unfold plaL;split;·have:=put_wide hp t k hw.1;simp only[Kj];exact⟨⟨this.1,hw.2⟩,by omega⟩
  ·have:=plaL_wide hp ts (k-t.nodes) hw.2;simp only[Kj];exact⟨⟨hw.1,this.1⟩,by omega⟩ end
mutual theorem put_und{p:ET}(hp:p.fold= .und): ∀(t:ET)(k:Nat),k<t.nodes→(plaT p t k).fold= .und
 | .node op neg abs den args,k,hk=>by
  simp only[ET.nodes]at hk;unfold plaT;split;·exact hp
  ·simp only[ET.fold];rw[if_pos (plaL_und hp args (k-1) (by omega))] theorem plaL_und{p:ET}(hp:p.fold= .und): ∀(l:List ET)(k:Nat),k<Yb l→(Xq (plaL p l k)).any FD.isUnd=true
 |[],k,hk=>by simp[Yb]at hk
 |t::ts,k,hk=>by
  simp only[Yb]at hk;unfold plaL;split;·simp only[Xq,put_und hp t k (by omega)];rfl
  ·simp only[Xq,List.any_cons,plaL_und hp ts (k-t.nodes) (by omega),Bool.or_true] end
def putClo(nb ab pb wb:Nat):Value:= .func (.func 79) #[] #[.pointer (some ⟨nb,0,none⟩),.pointer (some ⟨ab,0,none⟩),.pointer (some ⟨pb,0,none⟩),.pointer (some ⟨wb,0,none⟩)]
structure PutC (H : AH) (nb ab pb wb n k : Nat) (pvs : List Value) : Prop where
  n : H.blk nb = .rw 1 [.int .i64 (n : Int)]
  k : H.blk ab = .rw 1 [.int .i64 (k : Int)]
  p : H.blk pb = .rw 1 pvs
  w : H.blk wb = .rw 1 [putClo nb ab pb wb]
  ln : nb < H.n
  lk : ab < H.n
  lp : pb < H.n
  lw : wb < H.n
  na : nb ≠ ab
  np : nb ≠ pb
  nw : nb ≠ wb
theorem PutC.move{H H':AH}{nb ab pb wb n n' k:Nat}{pvs:List Value}(h:PutC H nb ab pb wb n k pvs)(hn:H.n≤H'.n)(h0:H'.blk nb= .rw 1 [.int .i64 (n':Int)])(ha:H'.blk ab=H.blk ab)(hp:H'.blk pb=H.blk pb)(hw:H'.blk wb=H.blk wb):PutC H' nb ab pb wb n' k pvs:=⟨h0,ha.trans h.k,hp.trans h.p,hw.trans h.w,Nat.lt_of_lt_of_le h.ln hn,Nat.lt_of_lt_of_le h.lk hn,Nat.lt_of_lt_of_le h.lp hn,Nat.lt_of_lt_of_le h.lw hn,h.na,h.np,h.nw⟩
theorem leqZ1{x y:Int} :Zd .leq .i64 x y=some (.bool (decide (x≤y))):=rfl
theorem aFnP:Jh Tryz.prog 136=some false:=by kernel_rfl
theorem loadFP{H:AH}{b:Nat}{v:Value}(h:H.blk b= .rw 1 [v]):Yr Tryz.prog H 136 (.pointer (some ⟨b,0,none⟩))=some v:=Yt aFnP (AH.cells_rw' h (by decide)) rfl
theorem Fr.putS{H H':AH}{b sz:Nat}{cs cs':List Value}(hb:H.blk b= .rw sz cs)(hb':H'.blk b= .rw sz cs')(hn:H'.n=H.n)(ho: ∀j,j≠b→H'.blk j=H.blk j)(hl:cs.length=cs'.length)(h:sz≠1∨(noU cs=true∧noU cs'=true)):Fr H H':=by
 refine⟨Nat.le_of_eq hn.symm,fun j hj=>?_⟩;by_cases e:j=b
 ·subst e;by_cases h1:sz=1
  ·subst h1;rcases h with h|⟨h2,h3⟩;·exact absurd rfl h
   ·exact .inr (.inr ⟨cs,cs',hb,hb',hl,h2,h3⟩)
  ·exact .inr (.inl ⟨sz,cs,hb,h1⟩)
 ·exact .inl (ho j e)
theorem flat_set: ∀{css:List (List Value)}{i:Nat}{ws:List Value},(∀cs∈css,cs.length=5)→i<css.length→css.flatten.take (i*5)++ws++css.flatten.drop (i*5+5)=(css.set i ws).flatten|[],i,ws,_,h=>by simp at h|c::css,0,ws,h,_=>by have hc:c.length=5:=h c (List.mem_cons_self ..);simp only[List.flatten_cons,Nat.zero_mul,List.take_zero,List.nil_append,List.set_cons_zero,Nat.zero_add];rw[←hc,List.drop_left]|c::css,i+1,ws,h,hi=>by have hc:c.length=5:=h c (List.mem_cons_self ..);have ih:=flat_set (ws:=ws) (fun x hx=>h x (List.mem_cons_of_mem _ hx)) (Nat.lt_of_succ_lt_succ hi);simp only[List.flatten_cons,List.set_cons_succ];rw[←ih,show(i+1)*5=c.length+i*5 by omega,show c.length+i*5+5=c.length+(i*5+5) by omega,List.take_length_add_append,←List.drop_drop,List.drop_left];simp[List.append_assoc]
theorem splice_self{cs vs:List Value}{o:Nat}(h:(cs.drop o).take 5=vs)(ho:o+5≤cs.length):cs.take o++vs++cs.drop (o+5)=cs:=by rw[←h,List.append_assoc,←List.drop_drop,List.take_append_drop,List.take_append_drop]
theorem cell4{cs:List Value}{o:Nat}{v0 v1 v2 v3 v4:Value}(h:(cs.drop o).take 5=[v0,v1,v2,v3,v4]):cs[o+4]?=some v4:=by have:=congrArg (fun l=>l[4]?) h;simp only[List.getElem?_take,List.getElem?_drop]at this;simpa using this
inductive PX(H:AH)(P:Nat→Prop):List Value→ET→Prop|mk{op:Int}{neg:Bool}{va vd vx:Value}{abs den:List Nat}{args:List ET}(css:List (List Value)):Sl H va abs→Sl H vd den→Lst 5 H vx css→css.length=args.length→(∀b,Qd vx=some b→P b)→(∀(i:Nat)(cs:List Value)(t:ET),css[i]?=some cs→args[i]?=some t→PX H P cs t)→PX H P [.int .i64 op,.bool neg,va,vd,vx] (.node op neg abs den args)
theorem OX.px{H:AH}{P P':Nat→Prop}{vs:List Value}{t:ET}(h:OX H P vs t)(hp: ∀j,P j→P' j):PX H P' vs t:=by induction h with|mk css Q h1 h2 h3 h4 h5 h6 h7 h8 ih=>exact .mk css h1 h2 h3 h4 (fun b hb=>hp b (h5 b hb)) fun i cs t hc ht=>ih i cs t hc ht fun j hj=>hp j (h6 i j hj).1
theorem PX.len{H:AH}{P:Nat→Prop}{vs:List Value}{t:ET}(h:PX H P vs t):vs.length=5:=by cases h;rfl
theorem PX.fr{H H':AH}{P:Nat→Prop}{vs:List Value}{t:ET}(h:PX H P vs t)(f:Fr H H')(hf: ∀j,P j→j<H.n→H'.blk j=H.blk j):PX H' P vs t:=by induction h with|mk css h1 h2 h3 h4 h5 h8 ih=>exact .mk css (h1.fr f) (h2.fr f) (h3.frame f.1 fun b hb=>hf b (h5 b hb) (h3.blk_lt hb).1) h4 h5 fun i cs t hc ht=>ih i cs t hc ht
theorem PX.ex{H:AH}{P:Nat→Prop}{vs:List Value}{t:ET}(h:PX H P vs t):Ex H vs t:=by induction h with
 |@mk op neg va vd vx abs den args css h1 h2 h3 h4 h5 h8 ih=>
  refine .mk h1 h2 ?_;rcases h3 with⟨rfl,rfl⟩|⟨b,rfl,g1,g2,g3⟩;·obtain rfl:args=[]:=List.length_eq_zero_iff.mp h4.symm;exact .nil
  ·rw[h4];refine .mk b 0 args.length g1 (AH.cells_rw' g2 (by decide)) (Nat.le_refl _) fun i t hi=>?_;have hlt:i<css.length:=by rw[h4];exact(List.getElem?_eq_some_iff.mp hi).1
   have hc:=List.getElem?_eq_getElem hlt;rw[Nat.zero_add,Ab g3 hc];exact ih i _ t hc hi
def PutIs(H:AH)(P:Nat→Prop)(t p:ET)(sz b o nb n k z:Nat)(cs:List Value)(H':AH):Prop:=H.n≤H'.n∧KAt z H H'∧Fr H H'∧H'.lw<H.n∧((n+t.nodes≤k∧H'.blk nb= .rw 1 [.int .i64 ((n+t.nodes:Nat):Int)]∧(∀j,j<H.n→j≠nb→H'.blk j=H.blk j))∨(k<n+t.nodes∧H'.blk nb= .rw 1 [.int .i64 ((k+1:Nat):Int)]∧(∀j,j<H.n→j≠nb→j≠b→ ¬P j→H'.blk j=H.blk j)∧ ∃vs',H'.blk b= .rw sz (cs.take o++vs'++cs.drop (o+5))∧PX H' (fun j=>z≤j) vs' (plaT p t (k-n))))
section
attribute [-simp] Int.natCast_add Int.natCast_mul Int.natCast_ediv Int.natCast_emod Int.natCast_pow
attribute [local simp] strip Yf LW' LR gW Yk Xd Ya Xe Yo Xf Zr Zs Zg Yp Yy Yl Xl Zv Yq Zh Ze Xk Xj Qy Yg Yz opd Xz Ym plain Yi Tr.get_set Xx Zp Xu Yd sameKind undef Zt Ys Yw Zl Yc parts unV DW Xo Zy LX Zw
attribute [local simp] top_nn Qc Qo
section
set_option maxHeartbeats 1000000 in theorem put_walk{H0:AH}{pvs:List Value}{pt:ET}(hPE:Ex H0 pvs pt)(hPw:pt.wide 1048576)(hPg:pt.allGood=true): ∀m(t:ET),t.nodes≤m→ ∀(H:AH)(P:Nat→Prop)(vs cs:List Value)(sz b o nb ab pb wb n k z:Nat),OX H P vs t→H.blk b= .rw sz cs→sz≠0→b<H.n→(cs.drop o).take 5=vs→o+5≤cs.length→(sz≠1∨(o=0∧cs=vs))→PutC H nb ab pb wb n k pvs→(∀j,P j→z≤j∧j≠b∧j≠nb∧j≠ab∧j≠pb∧j≠wb)→b≠nb→b≠ab→b≠pb→b≠wb→z≤b→z≤nb→Keep H0 H→H0.n≤z→n≤k→k+t.nodes<1000000000→ ∃x H',Zq Tryz.prog Zo 79 [.pointer (some ⟨b,o,none⟩),.pointer (some ⟨nb,0,none⟩),.pointer (some ⟨ab,0,none⟩),.pointer (some ⟨pb,0,none⟩),.pointer (some ⟨wb,0,none⟩)] H=some (x,H')∧PutIs H P t pt.twin sz b o nb n k z cs H':=by intro m;induction m with
 |zero=>intro t h;have:=Vb t;omega
 |succ m ih=>
  intro t ht H P vs cs sz b o nb ab pb wb n k z hO hb hz0 hbn hvs ho hz hC hPj b1n b2n b3n b4n zb zn k0 h0z hnk hkl;suffices hs:CW Tryz.prog Zo 79 [.pointer (some ⟨b,o,none⟩),.pointer (some ⟨nb,0,none⟩),.pointer (some ⟨ab,0,none⟩),.pointer (some ⟨pb,0,none⟩),.pointer (some ⟨wb,0,none⟩)] H fun _ H'=>PutIs H P t pt.twin sz b o nb n k z cs H' by obtain⟨x,H',hc,h⟩:=hs;exact⟨x,H',hc,h⟩
  have hpl:=hPE.len;have addn:Zd .add .i64 (n:Int) 1=some (.int .i64 ((n+1:Nat):Int)):=Cs (x:=n) (by omega);obtain⟨H2,st2,n2,q2,f2,ka2,lw2⟩:=putL sInt hC.n rfl (v:= .int .i64 ((n+1:Nat):Int)) (ws:=[.int .i64 ((n+1:Nat):Int)]) rfl rfl rfl;have fr2:Fr H H2:=Fr.put hC.n q2 n2 f2 rfl rfl rfl;have hC2:=hC.move (Nat.le_of_eq n2.symm) q2 (f2 _ hC.na.symm) (f2 _ hC.np.symm) (f2 _ hC.nw.symm);have kz2:KAt z H H2:=ka2.weak zn;refine Zk 38 (by decide) (by decide) Tryz.func79 rfl rfl ?_;apply Zb;intro b1 hb1;apply Zb;intro b2 hb2;apply Za;simp[Dr hC.n,Dr hC.k,Za5];subst hb2;by_cases hnk1:n=k
  ·subst hnk1;have k02:Keep H0 H2:=kz2 H0 k0 h0z;obtain⟨ws,H3,c3,k3,ox⟩:=twin_walk _ pt (Nat.le_refl _) H2 pvs (hPE.keep k02) hPw hPg;have hb3:H3.blk b= .rw sz cs:=(k3.blk _ (by omega)).trans ((f2 _ b1n).trans hb);obtain⟨H4,st4,q4,n4,f4,ka4,lw4⟩:=Ed (o:=o) Zb7 hb3 (v:= .agg ws.toArray) (ws:=ws) (by simp[Value.cells]) ox.len ho ox.ones hz0;have n3:=k3.n;have fr4:Fr H3 H4:=Fr.putS hb3 q4 n4 f4 (by simp[ox.len];omega) (by
    rcases hz with h|⟨h1,h2⟩;·exact .inl h
    ·right;subst h1;subst h2;have:=hO.len;rw[List.take_zero,List.nil_append,List.drop_of_length_le (by omega),List.append_nil];exact⟨hO.noU,ox.noU⟩);have lp:=Vf hC2.p hpl;refine Zc (t:=true) (by simp) ?_;apply Zb;intro b1 hb1;apply Za;simp[Dr hC.n,addn,st2];subst hb1;apply Zb;intro b1 hb1;apply Za;simp[lp,c3,st4];subst hb1;apply Zn;simp[Xr];refine⟨by omega,(kz2.trans (k3.kat z)).trans (ka4.weak zb),(fr2.trans k3.fr).trans fr4,by rw[lw4];omega,.inr ⟨by have:=Vb t;omega,?_,fun j hj h1 h2 _=>?_,ws,q4,?_⟩⟩;·exact(f4 _ (Ne.symm b1n)).trans ((k3.blk _ (by have:=hC.ln;omega)).trans q2)
   ·exact(f4 _ h2).trans ((k3.blk _ (by omega)).trans (f2 _ h1))
   ·rw[Nat.sub_self];obtain⟨op,neg,abs,den,args⟩:=t;unfold plaT;rw[if_pos rfl];exact(ox.fr fr4 fun j hj _=>f4 j (by have:=hj.1;omega)).px fun j hj=>by have:=hj.1;omega
  ·refine Zc (t:=false) (by simp;exact fun e=>hnk1 (Int.ofNat.inj e)) ?_;apply Zj;subst hb1;have hO2:=hO.fr fr2 fun j hj _=>f2 j (hPj j hj).2.2.1;obtain⟨op,neg,abs,den,args⟩:=t;simp only[ET.nodes]at ht hkl;cases hO with
   |@mk _ _ _ va vd vx _ _ _ css Q s1 s2 hL hcl hPx hQ1 hQ2 hQ3=>
    obtain⟨len,hln⟩: ∃len,len=args.length:=⟨_,rfl⟩;have hlen9:=Gr args;have hlx:=hL.len uXs;rw[hcl,←hln]at hlx;have hb2:H2.blk b= .rw sz cs:=(f2 _ b1n).trans hb;have lx: ∀G:AH,G.blk b= .rw sz cs→Yr Tryz.prog G 51 (.pointer (some ⟨b,o+4,none⟩))=some vx:=fun G h=>Yt aExprs (AH.cells_rw' h hz0) (cell4 hvs);have hcss: ∀cs∈css,cs.length=5:=by
     rcases hL with⟨_,rfl⟩|⟨_,_,_,_,h⟩;·intro cs hc;cases hc
     ·exact h
    have xP: ∀c,Qd vx=some c→c≠nb∧c≠b∧c≠ab∧c≠pb∧c≠wb∧z≤c:=fun c hc=>by have:=hPj c (hPx c hc);exact⟨this.2.2.1,this.2.1,this.2.2.2.1,this.2.2.2.2.1,this.2.2.2.2.2,this.1⟩
    apply Zb;intro b1 hb1;apply Za;simp[Dr hC.n,addn,st2];subst hb1;apply Zb;intro b1 hb1;apply Za;simp[faArgs,lx H2 hb2,hlx];subst hb1;apply Zx;refine Qf (fun n' s'=>s'.k=38∧ ∃(i:Nat),n'+i=len∧H.n≤s'.H.n∧KAt z H s'.H∧Fr H s'.H∧s'.H.lw≤nb∧((n+1+Yb (args.take i)≤k∧s'.H.blk nb= .rw 1 [.int .i64 ((n+1+Yb (args.take i):Nat):Int)]∧(∀j,j<H.n→j≠nb→s'.H.blk j=H.blk j))∨(k<n+1+Yb (args.take i)∧s'.H.blk nb= .rw 1 [.int .i64 ((k+1:Nat):Int)]∧(∀j,j<H.n→j≠nb→ ¬P j→s'.H.blk j=H.blk j)∧PX s'.H (fun j=>z≤j) [.int .i64 op,.bool neg,va,vd,vx] (.node op neg abs den (plaL pt.twin args (k-n-1)))))∧s'.tm.get 0=some (.pointer (some ⟨b,o,none⟩))∧s'.tm.get 1=some (.pointer (some ⟨nb,0,none⟩))∧s'.tm.get 2=some (.pointer (some ⟨ab,0,none⟩))∧s'.tm.get 4=some (.pointer (some ⟨wb,0,none⟩))∧s'.tm.get 22=some (.int .i64 (len:Int))∧s'.tm.get 23=some (.int .i64 (i:Int))) ?_ len _ ⟨rfl,0,by omega,by show H.n≤H2.n;omega,kz2,fr2,by show H2.lw≤nb;rw[lw2];omega,.inl ⟨by simp[Yb];omega,by simpa[Yb]using q2,fun j _ h=>f2 j h⟩,by simp,by simp,by simp,by simp,by simp,by simp⟩;rintro n' ⟨kk,tm,Hc⟩ ⟨hk,i,hni,nc,kac,frc,lwc,hAB,u0,u1,u2,u4,u22,u23⟩ Q' hQ';simp only at hk nc kac frc lwc hAB u0 u1 u2 u4 u22 u23;subst hk;have k0c:Keep H0 Hc:=kac H0 k0 h0z;have hka:Hc.blk ab= .rw 1 [.int .i64 (k:Int)]:=by
     rcases hAB with⟨_,_,h⟩|⟨_,_,h,_⟩;·exact(h _ hC.lk hC.na.symm).trans hC.k
     ·exact(h _ hC.lk hC.na.symm (fun hp=>(hPj _ hp).2.2.2.1 rfl)).trans hC.k
    apply Zb;intro b3 hb3;apply Za;simp[u22,u23,lssN];subst hb3;apply Zb;intro b3 hb3;by_cases hi:i<len
    ·refine Zc (t:=true) (by simp[hi]) ?_;apply Zj;subst hb3;obtain⟨ti,hti⟩: ∃ti,args[i]?=some ti:=⟨args[i]'(by omega),List.getElem?_eq_getElem (by omega)⟩;have hnt:=Cn hti;have hntt:Yb (args.take (i+1))=Yb (args.take i)+ti.nodes:=by rw[List.take_add_one,hti,Ur];simp[Yb]
     refine Qu (fun s'=>s'.k=38∧H.n≤s'.H.n∧KAt z H s'.H∧Fr H s'.H∧s'.H.lw≤nb∧((n+1+Yb (args.take (i+1))≤k∧s'.H.blk nb= .rw 1 [.int .i64 ((n+1+Yb (args.take (i+1)):Nat):Int)]∧(∀j,j<H.n→j≠nb→s'.H.blk j=H.blk j))∨(k<n+1+Yb (args.take (i+1))∧s'.H.blk nb= .rw 1 [.int .i64 ((k+1:Nat):Int)]∧(∀j,j<H.n→j≠nb→ ¬P j→s'.H.blk j=H.blk j)∧PX s'.H (fun j=>z≤j) [.int .i64 op,.bool neg,va,vd,vx] (.node op neg abs den (plaL pt.twin args (k-n-1)))))∧s'.tm.get 0=some (.pointer (some ⟨b,o,none⟩))∧s'.tm.get 1=some (.pointer (some ⟨nb,0,none⟩))∧s'.tm.get 2=some (.pointer (some ⟨ab,0,none⟩))∧s'.tm.get 4=some (.pointer (some ⟨wb,0,none⟩))∧s'.tm.get 22=some (.int .i64 (len:Int))∧s'.tm.get 23=some (.int .i64 (i:Int))) ?_ ?_
     ·intro Q'' hQ'';apply Zx;apply Zb;intro b4 hb4;apply Za;simp[u23];subst hb4;apply Zb;intro b4 hb4;rcases hAB with⟨g1,g2,g3⟩|⟨g1,g2,g3,g4⟩
      ·obtain⟨N,hN⟩: ∃N,N=n+1+Yb (args.take i):=⟨_,rfl⟩;rw[←hN]at g1 g2;obtain⟨cs1,hc1⟩: ∃cs1,css[i]?=some cs1:=⟨css[i]'(by omega),List.getElem?_eq_getElem (by omega)⟩;obtain⟨b1,hv1,hadr,hb1n,hb1,hl1,hd1⟩:=hL.at hc1 uXs Zb7 (by decide);obtain⟨x1,x2,x3,x4,x5,x6⟩:=xP b1 hv1;have hb1c:Hc.blk b1= .rw 5 css.flatten:=(g3 _ hb1n x1).trans hb1;have hflen:=Zb3 hcss;have hlt:i<css.length:=by omega
       have hOc:OX Hc (Q i) cs1 ti:=(hQ3 i cs1 ti hc1 hti).fr frc fun j hj hjn=>g3 j hjn (fun e=>by have:=(hPj j (hQ1 i j hj).1).2.2.1;exact this e);have hCc:PutC Hc nb ab pb wb N k pvs:=hC.move nc g2 (g3 _ hC.lk hC.na.symm) (g3 _ hC.lp hC.np.symm) (g3 _ hC.lw hC.nw.symm);obtain⟨x,H5,c5,n5,ka5,fr5,lw5,hcase⟩:=ih ti (by omega) Hc.top (Q i) cs1 css.flatten 5 b1 (i*5) nb ab pb wb N k z (hOc.keep (Dq Hc)) hb1c (by decide) (by show b1<Hc.n;omega) hd1 (by rw[hflen];omega) (.inl (by decide)) ⟨hCc.n,hCc.k,hCc.p,hCc.w,hCc.ln,hCc.lk,hCc.lp,hCc.lw,hC.na,hC.np,hC.nw⟩ (fun j hj=>by obtain⟨h1,h2⟩:=hQ1 i j hj;obtain⟨y1,y2,y3,y4,y5,y6⟩:=hPj j h1;exact⟨y1,fun e=>h2 (by rw[hv1,e]),y3,y4,y5,y6⟩) x1 x3 x4 x5 x6 zn k0c.top h0z g1 (by omega);have lF:=loadFP (H:=Hc.top) hCc.w;unfold putClo at lF;have hbc:Hc.blk b= .rw sz cs:=(g3 _ hbn b1n).trans hb;have gle:Zd .leq .i64 (N:Int) (k:Int)=some (.bool true):=by rw[leqZ1,decide_eq_true (by omega)]
       have l1:=lx Hc.top hbc;obtain⟨Hd,hHd⟩: ∃Hd,Hd=low Hc H5:=⟨_,rfl⟩;have fd:Fr Hc Hd:=by rw[hHd];exact fr5
       have nd:Hd.n=H5.n:=by rw[hHd];rfl
       have bd: ∀j,Hd.blk j=H5.blk j:=fun j=>by rw[hHd];rfl
       have kad:KAt z Hc Hd:=by rw[hHd];exact Aa ka5
       have lwd:Hd.lw≤nb:=by rw[hHd];show min Hc.lw H5.lw≤nb;omega
       replace n5:Hc.n≤H5.n:=n5;replace lw5:H5.lw<Hc.n:=lw5;apply Za;simp[u1,u2,Dr g2,Dr hka,gle];subst hb4;refine Zc (t:=true) (by simp) ?_;apply Qm (by kernel_rfl);simp[u4];refine Ye rfl rfl rfl (by rw[Zm rfl];simp[u4,lF];rfl) ?_;simp[u0,faArgs];refine Ye (v:=vx) rfl rfl rfl (by rw[Zm rfl];simp[l1]) ?_;simp[hadr];refine Xg (v:=x) (H2:=H5) rfl rfl (by kernel_rfl) rfl ?_ n5 lw5 ?_;·show Yk _ _ _ _ Hc.top _=_;simp[c5]
       rw[show({ n:=H5.n,lw:=min Hc.lw H5.lw,t:=H5.t } :AH)=Hd from hHd.symm];simp;apply hQ'';refine⟨rfl,by show H.n≤Hd.n;omega,kac.trans kad,frc.trans fd,lwd,?_,by simp[u0],by simp[u1],by simp[u2],by simp[u4],by simp[u22],by simp[u23]⟩;rcases hcase with⟨e1,e2,e3⟩|⟨e1,e2,e3,ws,e4,e5⟩
       ·left;rw[hntt];refine⟨by omega,?_,fun j hj h=>?_⟩;·rw[bd,e2,hN,Nat.add_assoc]
        ·rw[bd];exact(e3 j (by show j<Hc.n;omega) h).trans (g3 j hj h)
       ·right;rw[hntt];refine⟨by omega,(bd _).trans e2,fun j hj h hp=>?_,?_⟩;·rw[bd];exact(e3 j (by show j<Hc.n;omega) h (fun e=>hp (hPx j (by rw[hv1,e]))) (fun hq=>hp (hQ1 i j hq).1)).trans (g3 j hj h)
        ·have frT:=frc.trans fd;have exw:PX Hd (fun j=>z≤j) ws (plaT pt.twin ti (k-N)):=e5.fr ⟨by omega,fun j _=> .inl (bd j)⟩ fun j _ _=>bd j;rw[flat_set hcss hlt]at e4;have hcss': ∀c∈css.set i ws,c.length=5:=fun c hc=>by
          rcases List.mem_or_eq_of_mem_set hc with h|h;·exact hcss c h
          ·rw[h];exact exw.len
         have hset:plaL pt.twin args (k-n-1)=args.set i (plaT pt.twin ti (k-N)):=by rw[plaL_set pt.twin args (k-n-1) i ti hti (by omega) (by omega),show k-n-1-Yb (args.take i)=k-N by omega]
         refine .mk (css.set i ws) (s1.fr frT) (s2.fr frT) ?_ (by rw[plaL_len,List.length_set,hcl]) (fun c hc=>(xP c hc).2.2.2.2.2) fun j cj tj hcj hj=>?_
         ·have hb1d:b1<Hd.n:=by omega
          rcases hL with⟨rfl,_⟩|⟨b',rfl,_,_,_⟩;·cases hv1
          ·cases hv1;exact .inr ⟨b1,by rw[List.length_set],hb1d,(bd _).trans e4,hcss'⟩
         ·rw[hset]at hj;by_cases hji:j=i;·subst hji;rw[List.getElem?_set_self (by omega)]at hj;rw[List.getElem?_set_self hlt]at hcj;cases hj;cases hcj;exact exw
          ·rw[List.getElem?_set_ne (Ne.symm hji)]at hj hcj;refine((hQ3 j cj tj hcj hj).fr frT fun c hc hcn=>?_).px fun c hc=>(hPj c (hQ1 j c hc).1).1;have hcP:=(hQ1 j c hc).1;have hcx:=(hQ1 j c hc).2;rw[bd];exact(e3 c (by show c<Hc.n;omega) (hPj c hcP).2.2.1 (fun e=>hcx (by rw[e];exact hv1)) (hQ2 j i c hji hc)).trans (g3 c hcn (hPj c hcP).2.2.1)
      ·have gle:Zd .leq .i64 ((k+1:Nat):Int) (k:Int)=some (.bool false):=by rw[leqZ1,decide_eq_false (by omega)]
       apply Za;simp[u1,u2,Dr g2,Dr hka,gle];subst hb4;refine Zc (t:=false) (by simp) ?_;apply Zj;apply hQ'';refine⟨rfl,nc,kac,frc,lwc,.inr ⟨by rw[hntt];omega,g2,g3,g4⟩,by simp[u0],by simp[u1],by simp[u2],by simp[u4],by simp[u22],by simp[u23]⟩
     clear u0 u1 u2 u4 u22 u23 hAB hka nc kac frc lwc k0c;rintro⟨kk,tm2,Hx⟩ ⟨hk,nx,kax,frx,lwx,hAB,u0,u1,u2,u4,u22,u23⟩;simp only at hk nx kax frx lwx hAB u0 u1 u2 u4 u22 u23;subst hk;apply Za;simp[u23,Cs (x:=i) (by omega)];apply hQ';exact⟨n'-1,by omega,rfl,i+1,by omega,nx,kax,frx,lwx,hAB,by simp[u0],by simp[u1],by simp[u2],by simp[u4],by simp[u22],by simp⟩
    ·refine Zc (t:=false) (by simp[hi]) ?_;apply Qe;apply hQ';left;refine⟨rfl,?_⟩;clear hQ';obtain rfl:i=len:=by omega
     rw[List.take_of_length_le (by omega)]at hAB;obtain⟨Po,hPo⟩: ∃Po:Prop,Po↔PutIs H P (.node op neg abs den args) pt.twin sz b o nb n k z cs Hc:=⟨_,Iff.rfl⟩;rw[←hPo];simp;rw[hPo];refine⟨nc,kac,frc,by have:=hC.ln;omega,?_⟩;simp only[ET.nodes];rcases hAB with⟨g1,g2,g3⟩|⟨g1,g2,g3,g4⟩;·exact .inl ⟨by omega,by rw[g2,Nat.add_assoc],g3⟩
     ·refine .inr ⟨by omega,g2,fun j hj h _ hp=>g3 j hj h hp,[.int .i64 op,.bool neg,va,vd,vx],?_,?_⟩;·rw[splice_self hvs ho,g3 b hbn b1n (fun hp=>(hPj b hp).2.1 rfl)];exact hb
      ·unfold plaT;rw[if_neg (by omega)];exact g4
end
end
def PutR(H':AH)(t pt:ET)(z:Int)(us:List Value)(e:Int):Prop:=us.length=5∧us.all one=true∧(e=0→Vi t=0∧Vi pt=0∧0≤z∧z<(t.nodes:Int)∧TreeIn H' us (plaT pt.twin t.twin z.toNat)∧Vi (plaT pt.twin t.twin z.toNat)=0)
def zeroX:List Value:=[.int .i64 0,.bool false,.slice none 0 0,.slice none 0 0,.slice none 0 0]
theorem PutR.err{H':AH}{t pt:ET}{z e:Int}(h:e≠0):PutR H' t pt z zeroX e:=⟨rfl,rfl,fun h'=>absurd h' h⟩
theorem bX0:Ui Tryz.prog 53 []=some (.agg #[.int .i64 0,.bool false,.slice none 0 0,.slice none 0 0,.slice none 0 0]):=by rfl
theorem zFnP:Uy Tryz.prog 136=some .nilFunc:=by kernel_rfl
theorem sFnP:Qp Tryz.prog 136=some 1:=by kernel_rfl
theorem geqZ1{x y:Int} :Zd .geq .i64 x y=some (.bool (decide (y≤x))):=rfl
theorem Ut{t:ET}(h:Vi t=0):t.allGood=true∧t.nodes≤4000:=by
 unfold Vi at h;split at h;·cases h
 ·split at h;·cases h
  ·rename_i h1 h2;exact⟨by simpa using h1,by omega⟩
section
attribute [-simp] Int.natCast_add Int.natCast_mul Int.natCast_ediv Int.natCast_emod Int.natCast_pow
attribute [local simp] strip Yf LW' LR gW Yk Xd Ya Xe Yo Xf Zr Zs Zg Yp Yy Yl Xl Zv Yq Zh Ze Xk Xj Qy Yg Yz opd Xz Ym plain Yi Tr.get_set Xx Zp Xu Yd sameKind undef Zt Ys Yw Zl Yc parts unV DW Xo Zy LX Zw
attribute [local simp] top_nn Qc Qo
section
variable {H : AH} {vs ps : List Value} {t pt : ET}
set_option maxHeartbeats 2000000 in theorem put_call(h:TreeIn H vs t)(hp:TreeIn H ps pt)(z:Int): ∃us e H',Zq Tryz.prog Zo 46 [.agg vs.toArray,.int .i64 z,.agg ps.toArray] H=some (.tuple #[.agg us.toArray,.int .i64 e],H')∧Keep H H'∧PutR H' t pt z us e:=by
 obtain⟨Po,hPo⟩: ∃Po:Value→AH→Prop,∀x H',Po x H'↔ ∃(us:List Value) (e:Int),x= .tuple #[.agg us.toArray,.int .i64 e]∧Keep H H'∧PutR H' t pt z us e:=⟨_,fun _ _=>Iff.rfl⟩;suffices hs:CW Tryz.prog Zo 46 [.agg vs.toArray,.int .i64 z,.agg ps.toArray] H Po by obtain⟨x,H',hc,hh⟩:=hs;obtain⟨us,e,rfl,k,hr⟩:=(hPo _ _).1 hh;exact⟨us,e,H',hc,k,hr⟩
 obtain⟨H2,e2,k2,n2,q0,q1,q2,q3⟩:=Zf3 H vs [.int .i64 z] ps [.int .i64 0,.bool false,.slice none 0 0,.slice none 0 0,.slice none 0 0];have bad: ∀G,Keep H G→H.n+4≤G.n→G.blk (H.n+3)= .rw 1 [.int .i64 0,.bool false,.slice none 0 0,.slice none 0 0,.slice none 0 0]→ ∃G',Xm Tryz.prog G 53 (.pointer (some ⟨H.n+3,0,none⟩)) (.agg #[.int .i64 0,.bool false,.slice none 0 0,.slice none 0 0,.slice none 0 0])=some G'∧Yr Tryz.prog G' 53 (.pointer (some ⟨H.n+3,0,none⟩))=some (.agg #[.int .i64 0,.bool false,.slice none 0 0,.slice none 0 0,.slice none 0 0])∧ ∀e:Int,e≠0→Po (.tuple #[.agg #[.int .i64 0,.bool false,.slice none 0 0,.slice none 0 0,.slice none 0 0],.int .i64 e]) G':=fun G k hn hb=>by obtain⟨G',st,n1,q,f,ka⟩:=Ek Zb7 hb rfl (v:= .agg #[.int .i64 0,.bool false,.slice none 0 0,.slice none 0 0,.slice none 0 0]) (ws:=[.int .i64 0,.bool false,.slice none 0 0,.slice none 0 0,.slice none 0 0]) rfl rfl rfl;exact⟨G',st,Vf q rfl,fun e he=>(hPo _ _).2 ⟨zeroX,e,rfl,ka H k (by omega),.err he⟩⟩
 have hl:=h.ex.len;have hpl:=hp.ex.len;have z0:=q0;have K:=k2;obtain⟨H3,c3,k3⟩:=Di (h.keep K);have n3:=k3.n;have K:=K.trans k3;replace q0:=(k3.blk _ (by omega)).trans q0;replace q1:=(k3.blk _ (by omega)).trans q1;replace q2:=(k3.blk _ (by omega)).trans q2;replace q3:=(k3.blk _ (by omega)).trans q3;obtain⟨C,hC⟩: ∃C,C=Vi t:=⟨_,rfl⟩;rw[←hC]at c3;refine Zk 44 (by decide) (by decide) Tryz.func46 rfl rfl ?_;apply Zb;intro b1 hb1;apply Za;simp[Value.cells,Bi,Jw,e2];subst hb1;apply Zb;intro b1 hb1;apply Zb;intro b2 hb2;apply Za;simp[Vf z0 hl,c3];subst hb2;apply Zb;intro b2 hb2;apply Za;simp[Ds];subst hb2;by_cases hC0:C=0;case neg=>obtain⟨G',st,hld,hgo⟩:=bad H3 K (by omega) q3;refine Zc (t:=true) (by simp[hC0]) ?_;apply Zb;intro b2 hb2;apply Za;simp[bX0,st];subst hb2;apply Zn;simp only[Xr];simp[hld];exact hgo _ (by omega)
 refine Zc (t:=false) (by simp[hC0]) ?_;apply Zj;subst hb1;have z3:=q0;have y3:=q1;have x3:=q3;apply Zb;intro b1 hb1;apply Zb;intro b2 hb2;by_cases hz:z<0
 ·have gz:Zd .lss .i64 z 0=some (.bool true):=by rw[lssZZ,decide_eq_true hz]
  obtain⟨G',st,hld,hgo⟩:=bad H3 K (by omega) q3;apply Qm (by kernel_rfl);simp;refine Ye (v:= .int .i64 z) rfl rfl rfl (by rw[Zm rfl];simp[Dr (H:=AH.top H3) q1]) ?_;simp[gz];subst hb2;refine Zc (t:=true) (by simp) ?_;apply Zb;intro b2 hb2;apply Za;simp[bX0,st];subst hb2;apply Zn;simp only[Xr];simp[hld];exact hgo _ (by decide)
 have gz:Zd .lss .i64 z 0=some (.bool false):=by rw[lssZZ,decide_eq_false hz]
 have q0a:=q0;have q1a:=q1;have q2a:=q2;have q3a:=q3;have vka: ∀{J:AH}(k:Keep H3 J){bits ms},(∀x∈ms,H3.n≤x.2.1)→ ∀b,b<H3.n→(vis J bits ms).blk b=H3.blk b:=fun k _ _ h b hb=>(Qt k h).blk b hb;obtain⟨Ia1,da1,kIa1⟩:=nodes_call ((h.keep K).keep (Dq _));obtain⟨Ja1,hJa1⟩: ∃J,J=grown H3 Ia1:=⟨_,rfl⟩;have kJa1:Keep H3 Ja1:=by rw[hJa1];exact Zu (.refl _) kIa1
 have ma1:H3.n≤Ia1.n:=kIa1.n;have kka1:=kJa1;have nka1:=kka1.n;have K:=K.trans kJa1;replace q0:=(kka1.blk _ (by omega)).trans q0;replace q1:=(kka1.blk _ (by omega)).trans q1;replace q2:=(kka1.blk _ (by omega)).trans q2;replace q3:=(kka1.blk _ (by omega)).trans q3;apply Qm (by kernel_rfl);simp;refine Ye (v:= .int .i64 z) rfl rfl rfl (by rw[Zm rfl];simp[Dr (H:=AH.top H3) q1a]) ?_;simp[gz];refine Ye (v:= .int .i64 z) rfl rfl rfl (by rw[Zm rfl];simp[Dr (H:=AH.top H3) q1a]) ?_;simp;refine Ye (v:= .agg vs.toArray) rfl rfl rfl (by rw[Zm rfl];simp[Vf (H:=AH.top H3) q0a hl]) ?_;simp;refine Yv (v:= .int .i64 (t.nodes:Int)) (H2:=Ia1) rfl rfl rfl (by rw[Zm rfl];simp[da1]) ma1 (Yx kIa1) ?_;rw[←hJa1];have Ma1:=(Fu.nil H3.n).cons (i:=5) (a:=H3.n) (b:=Ia1.n) (by omega);generalize cond (Nat.blt H3.n Ia1.n) _ _=msa1 at Ma1;simp[geqZ1];subst hb2;by_cases hzn:(t.nodes:Int)≤z;·obtain⟨G',st,hld,hgo⟩:=bad Ja1 K (by omega) q3;refine Zc (t:=true) (by simp[hzn]) ?_;apply Zb;intro b2 hb2;apply Za;simp[bX0,st];subst hb2;apply Zn;simp only[Xr];simp[hld];exact hgo _ (by decide)
 refine Zc (t:=false) (by simp[hzn]) ?_;apply Zj;subst hb1;obtain⟨k,rfl⟩: ∃k:Nat,z=(k:Int):=⟨z.toNat,by omega⟩;have z4:=q2;obtain⟨H5,c5,k5⟩:=Di (hp.keep K);have n5:=k5.n;have K:=K.trans k5;replace q0:=(k5.blk _ (by omega)).trans q0;replace q1:=(k5.blk _ (by omega)).trans q1;replace q2:=(k5.blk _ (by omega)).trans q2;replace q3:=(k5.blk _ (by omega)).trans q3;obtain⟨D,hD⟩: ∃D,D=Vi pt:=⟨_,rfl⟩;rw[←hD]at c5;apply Zb;intro b1 hb1;apply Zb;intro b2 hb2;apply Za;simp[Vf z4 hpl,c5];subst hb2;apply Zb;intro b2 hb2;apply Za;simp[Ds];subst hb2;by_cases hD0:D=0;case neg=>obtain⟨G',st,hld,hgo⟩:=bad H5 K (by omega) q3;refine Zc (t:=true) (by simp[hD0]) ?_;apply Zb;intro b2 hb2;apply Za;simp[bX0,st];subst hb2;apply Zn;simp only[Xr];simp[hld];exact hgo _ (by omega)
 refine Zc (t:=false) (by simp[hD0]) ?_;apply Zj;subst hb1;obtain⟨hg,hn4⟩:=Ut (hC.symm.trans hC0);obtain⟨hpg,hpn4⟩:=Ut (hD.symm.trans hD0);have K5:=K;have n50:H.n+4≤H5.n:=by omega
 have z5:=q0;obtain⟨ws,H6,c6,k6,ox⟩:=twin_walk _ t (Nat.le_refl _) H5 vs (h.ex.keep K) h.wide hg;obtain⟨H7,st7,k7,r7,n7⟩:=newX (H:=H6) ox.len ox.ones;obtain⟨H8,st8,k8,r8,n8⟩:=Jm (H:=H7) (sz:=1) (zs:=[.int .i64 0]) sInt rfl (v:= .int .i64 0) (ws:=[.int .i64 0]) rfl rfl rfl;obtain⟨H9,hH9⟩: ∃H9,H8.new 1 [.nilFunc]=H9:=⟨_,rfl⟩;have k9:Keep H8 H9:=by rw[←hH9];exact Keep.new _ _ _
 have n9:H9.n=H8.n+1:=by rw[←hH9];rfl
 have r9:H9.blk H8.n= .rw 1 [.nilFunc]:=by rw[←hH9,AH.blk_new,if_pos rfl]
 have n6:=k6.n;obtain⟨HA,stA,nA,rA,fA,kaA⟩:=Ek sFnP r9 rfl (v:=putClo H7.n (H.n+1) (H.n+2) H8.n) (ws:=[putClo H7.n (H.n+1) (H.n+2) H8.n]) rfl rfl rfl;have frA:Fr H9 HA:=Fr.put r9 rA nA fA rfl rfl rfl;have k59:Keep H5 H9:=((k6.trans k7).trans k8).trans k9;have k5A:Keep H5 HA:=kaA H5 k59 (by omega);have kA:=K.trans k5A;have old: ∀j,j<H5.n→HA.blk j=H5.blk j:=fun j hj=>k5A.blk j hj;have r7A:HA.blk H6.n= .rw 1 ws:=(fA _ (by omega)).trans ((k9.blk _ (by omega)).trans ((k8.blk _ (by omega)).trans r7));have r8A:HA.blk H7.n= .rw 1 [.int .i64 0]:=(fA _ (by omega)).trans ((k9.blk _ (by omega)).trans r8);have oxA:OX HA (fun j=>H5.n≤j∧j<H6.n) ws t.twin:=(((ox.keep k7).keep k8).keep k9).fr frA fun j hj _=>fA j (by have:=hj.2;omega);have hPC:PutC HA H7.n (H.n+1) (H.n+2) H8.n 0 k ps:=⟨r8A,(old _ (by omega)).trans q1,(old _ (by omega)).trans q2,rA,by omega,by omega,by omega,by omega,by omega,by omega,by omega⟩;have hlo:=ox.len;obtain⟨x,HB,cB,nB,kaB,frB,_,hcase⟩:=put_walk (H0:=H5) (hp.ex.keep K) hp.wide hpg _ t.twin (Nat.le_refl _) HA (fun j=>H5.n≤j∧j<H6.n) ws ws 1 H6.n 0 H7.n (H.n+1) (H.n+2) H8.n 0 k H5.n oxA r7A (by decide) (by omega) (by rw[List.drop_zero,List.take_of_length_le (by omega)]) (by omega) (.inr ⟨rfl,rfl⟩) hPC (fun j hj=>by obtain⟨h1,h2⟩:=hj;exact⟨h1,by omega,by omega,by omega,by omega,by omega⟩) (by omega) (by omega) (by omega) (by omega) n6 (by omega) k5A (Nat.le_refl _) (Nat.zero_le _) (by rw[Fl];omega);rcases hcase with⟨bad1,_⟩|⟨_,_,fB,us,rB,pxB⟩;·rw[Fl]at bad1;omega
 rw[List.take_zero,List.nil_append,List.drop_of_length_le (by omega),List.append_nil]at rB;rw[Nat.sub_zero]at pxB;have kB:Keep H HB:=kaB H kA (by omega);have q3B:HB.blk (H.n+3)= .rw 1 [.int .i64 0,.bool false,.slice none 0 0,.slice none 0 0,.slice none 0 0]:=(fB _ (by omega) (by omega) (by omega) (fun hj=>by have:=hj.1;omega)).trans ((old _ (by omega)).trans q3);have htw:=Bh t hg h.wide;have hpw:=Bh pt hpg hp.wide;have hput:=put_wide hpw.1 t.twin k htw.1;have hnn:=put_nodes pt.twin t.twin k;rw[Fl,Fl]at hnn;obtain⟨T,hT⟩: ∃T,T=plaT pt.twin t.twin k:=⟨_,rfl⟩;rw[←hT]at pxB hput hnn;have hTB:TreeIn HB us T:=⟨pxB.ex,h.rows.keep kB,hput.1,by omega⟩;obtain⟨HC,cC,kC⟩:=Di hTB;obtain⟨E,hE⟩: ∃E,E=Vi T:=⟨_,rfl⟩;rw[←hE]at cC;have kHC:=kB.trans kC;have q3C:=(kC.blk _ (by omega)).trans q3B;have hul:=pxB.len;have lF:=loadFP rA;unfold putClo at lF;unfold putClo at stA;have lB:=Vf rB hul;apply Zb;intro b1 hb1;apply Za;simp[Vf z5 hl,c6,Bi,Value.cells,st7];subst hb1;apply Zb;intro b1 hb1;apply Za;simp[zInt,Value.cells,st8];subst hb1;apply Zb;intro b1 hb1;apply Za;simp[zFnP,Value.cells,hH9];subst hb1;apply Zb;intro b1 hb1;apply Za;simp[stA];subst hb1;apply Zb;intro b1 hb1;apply Za;simp[lF,cB];subst hb1;apply Zb;intro b1 hb1;apply Zb;intro b2 hb2;apply Za;simp[lB,cC,Ds];subst hb2;by_cases hE0:E=0;case neg=>obtain⟨G',st,hld,hgo⟩:=bad HC kHC (by have:=kC.n;omega) q3C;refine Zc (t:=true) (by simp[hE0]) ?_;apply Zb;intro b2 hb2;apply Za;simp[bX0,st];subst hb2;apply Zn;simp only[Xr];simp[hld];exact hgo _ (by decide)
 refine Zc (t:=false) (by simp[hE0]) ?_;apply Zj;subst hb1;have pxC:=pxB.fr kC.fr fun j _ hj=>kC.blk j hj;have lC:=Vf ((kC.blk _ (by omega)).trans rB) hul;have hones:=pxC.ex.ones;obtain⟨HD,stD,nD,rD,fD,kaD⟩:=Ek Zb7 q3C rfl (v:= .agg us.toArray) (ws:=us) (by simp[Value.cells]) hul hones;have frD:Fr HC HD:=Fr.put q3C rD nD fD (by simp[hul]) rfl (by cases pxC with|mk css g1 g2 g3=>exact noU5 g1.shape g2.shape g3.shape);have hld:=Vf rD hul;have kD:=kaD H kHC (by omega);have pxD:=pxC.fr frD fun j hj _=>fD j (by have:H5.n≤j:=hj;omega);apply Zb;intro b1 hb1;apply Za;simp[lC,stD];subst hb1;apply Zn;simp only[Xr];simp[hld];refine(hPo _ _).2 ⟨us,0,rfl,kD,hul,hones,fun _=>⟨by omega,by omega,by omega,by omega,?_,?_⟩⟩;·rw[Int.toNat_natCast,←hT];exact⟨pxD.ex,h.rows.keep kD,hput.1,by omega⟩
 ·rw[Int.toNat_natCast,←hT];omega
end
end
def FoldR(H:AH)(t:ET)(us:List Value)(e:Int):Prop:=us.length=4∧us.all one=true∧((Vi t=0∧e=0∧FIn H us t.fold)∨(Vi t≠0∧e≠0∧us=[.int .i64 0,.bool false,.slice none 0 0,.slice none 0 0]))
theorem fold_any{H:AH}{vs:List Value}{t:ET}(h:TreeIn H vs t)(hwt:t.wt≤67108864): ∃us e H',Zq Tryz.prog Zo 27 [.agg vs.toArray] H=some (.tuple #[.agg us.toArray,.int .i64 e],H')∧Keep H H'∧FoldR H' t us e:=by
 by_cases hc:Vi t=0;·obtain⟨us,H',c,k,f⟩:=Cc ⟨h,(Ut hc).1,hwt⟩ hc;exact⟨us,0,H',c,k,f.len,f.ones,.inl ⟨hc,rfl,f⟩⟩
 ·obtain⟨H',c,k⟩:=exFold_bad h hc;exact⟨_,_,H',c,k,rfl,rfl,.inr ⟨hc,by omega,rfl⟩⟩
theorem FoldR.four{H:AH}{t:ET}{us:List Value}{e:Int}(h:FoldR H t us e): ∃k p q r,us=[.int .i64 k,p,q,r]∧Fv p q r∧(e=0→Vi t=0∧k=t.fold.kind∧FIn H us t.fold):=by
 obtain⟨_,_,h⟩:=h;rcases h with⟨h1,h2,h3⟩|⟨h1,h2,h3⟩;·obtain⟨p,q,r,e1,e2⟩:=h3.trio;exact⟨_,p,q,r,e1,e2,fun _=>⟨h1,rfl,h3⟩⟩
 ·exact⟨_,_,_,_,h3,⟨⟨_,rfl⟩,⟨_,_,_,rfl⟩,⟨_,_,_,rfl⟩⟩,fun e0=>absurd e0 h2⟩
theorem kind_und{f:FD} :f.kind=2↔f= .und:=by cases f<;>simp[FD.kind]
section
attribute [-simp] Int.natCast_add Int.natCast_mul Int.natCast_ediv Int.natCast_emod Int.natCast_pow
attribute [local simp] strip Yf LW' LR gW Yk Xd Ya Xe Yo Xf Zr Zs Zg Yp Yy Yl Xl Zv Yq Zh Ze Xk Xj Qy Yg Yz opd Xz Ym plain Yi Tr.get_set Xx Zp Xu Yd sameKind undef Zt Ys Yw Zl Yc parts unV DW Xo Zy LX Zw
attribute [local simp] Qc Qo Gt top_nn
section
variable {H : AH} {vs1 vs2 : List Value} {t pt : ET}
set_option maxHeartbeats 1000000 in theorem exactUp_walk(h:TreeIn H vs1 t)(hp:TreeIn H vs2 pt)(hwt:t.wt+pt.wt≤67108864)(z:Int):CW Tryz.prog Zo 10 [.agg vs1.toArray,.agg vs2.toArray,.int .i64 z] H fun v H'=>v= .bool true∧Keep H H':=by
 have hl:=h.ex.len;have hpl:=hp.ex.len;have aw: ∀G,Keep H G→ ∃G',Zq Tryz.prog Zo 14 [] G=some (.bool true,G')∧Keep H G':=fun G k=>by obtain⟨G',c,k'⟩:=awake_call (h.rows.keep k);exact⟨G',c,k.trans k'⟩
 obtain⟨H2,e2,k2,n2,q0,q1⟩:=Qv H vs1 vs2;have K:=k2;have z0:=q0;obtain⟨b,H3,c3,k3⟩:=great_call (h.ex.keep K) h.nodes;have n3:=k3.n;have K:=K.trans k3;replace q0:=(k3.blk _ (by omega)).trans q0;replace q1:=(k3.blk _ (by omega)).trans q1;have z1:=q1;refine Zk 61 (by decide) (by decide) Tryz.func10 rfl rfl ?_;apply Zb;intro b1 hb1;apply Za;simp[Value.cells,Jw,e2];subst hb1;apply Zb;intro b1 hb1;apply Zb;intro b2 hb2;cases b with
  |true=>obtain⟨G,cG,kG⟩:=aw H3 K;apply Za;simp[Vf z0 hl,c3];subst hb2;refine Zc (t:=true) (by simp) ?_;apply Zb;intro b2 hb2;apply Za;simp[cG];subst hb2;apply Zn;simp[Xr];exact kG
  |false=>obtain⟨b,H4,c4,k4⟩:=great_call (hp.ex.keep K) hp.nodes;have n4:=k4.n;have K:=K.trans k4;replace q0:=(k4.blk _ (by omega)).trans q0;replace q1:=(k4.blk _ (by omega)).trans q1;cases b with
   |true=>obtain⟨G,cG,kG⟩:=aw H4 K;apply Za;simp[Vf z0 hl,c3,Vf z1 hpl,c4];subst hb2;refine Zc (t:=true) (by simp) ?_;apply Zb;intro b2 hb2;apply Za;simp[cG];subst hb2;apply Zn;simp[Xr];exact kG
   |false=>
    apply Za;simp[Vf z0 hl,c3,Vf z1 hpl,c4];subst hb2;refine Zc (t:=false) (by simp) ?_;apply Zj;subst hb1;have y1:=q1;obtain⟨fs,e,H5,c5,k5,hf5⟩:=fold_any (hp.keep K) (by omega);have n5:=k5.n;have K:=K.trans k5;replace q0:=(k5.blk _ (by omega)).trans q0;replace q1:=(k5.blk _ (by omega)).trans q1;obtain⟨kf,p,q,r,rfl,ht,hf⟩:=hf5.four;obtain⟨H6,st6,k6,q6,n6⟩:=newFv (H:=H5) (vs:=[.int .i64 kf,p,q,r]) rfl hf5.2.1;have K:=K.trans k6;replace q0:=(k6.blk _ (by omega)).trans q0;replace q1:=(k6.blk _ (by omega)).trans q1;have y6:=q6;apply Zb;intro b1 hb1;apply Za;simp[Vf y1 hpl,c5,Jl,Value.cells,st6];subst hb1;apply Zb;intro b1 hb1;apply Zb;intro b2 hb2;by_cases he:e=0∧kf=2;case neg=>
     obtain⟨G,cG,kG⟩:=aw H6 K;by_cases he0:e=0;·have hk2:kf≠2:=fun x=>he ⟨he0,x⟩;subst he0;apply Za;simp[Eb,Ep,faF0,Eh q6,Ds];subst hb2;refine Zc (t:=true) (by simp[hk2]) ?_;apply Zb;intro b2 hb2;apply Za;simp[cG];subst hb2;apply Zn;simp[Xr];exact kG
     ·have g:Zd .neq .i64 e 0=some (.bool true):=by rw[Ds,decide_eq_true he0]
      apply Za;simp[Eb,g];subst hb2;refine Zc (t:=true) (by simp) ?_;apply Zb;intro b2 hb2;apply Za;simp[cG];subst hb2;apply Zn;simp[Xr];exact kG
    obtain⟨rfl,rfl⟩:=he;obtain⟨hcp,hkp,_⟩:=hf rfl;have hund:=kind_und.1 hkp.symm;apply Za;simp[Eb,Ep,faF0,Eh q6,show Zd .neq .i64 2 2=some (.bool false)from rfl];subst hb2;refine Zc (t:=false) (by simp) ?_;apply Zj;subst hb1;have y0:=q0;have y1:=q1;obtain⟨us,e,H7,c7,k7,hput⟩:=put_call (h.keep K) (hp.keep K) z;have n7:=k7.n;have K:=K.trans k7;replace q0:=(k7.blk _ (by omega)).trans q0;replace q1:=(k7.blk _ (by omega)).trans q1;replace q6:=(k7.blk _ (by omega)).trans q6;obtain⟨hul,huo,hput⟩:=hput;obtain⟨H8,st8,k8,q8,n8⟩:=newX (H:=H7) hul huo;have K:=K.trans k8;replace q0:=(k8.blk _ (by omega)).trans q0;replace q1:=(k8.blk _ (by omega)).trans q1;replace q6:=(k8.blk _ (by omega)).trans q6;have y8:=q8;apply Zb;intro b1 hb1;apply Za;simp[Vf y0 hl,Vf y1 hpl,c7,Bi,Value.cells,st8];subst hb1;apply Zb;intro b1 hb1;apply Zb;intro b2 hb2;by_cases he:e=0;case neg=>
     obtain⟨G,cG,kG⟩:=aw H8 K;have g:Zd .neq .i64 e 0=some (.bool true):=by rw[Ds,decide_eq_true he]
     apply Za;simp[Eb,g];subst hb2;refine Zc (t:=true) (by simp) ?_;apply Zb;intro b2 hb2;apply Za;simp[cG];subst hb2;apply Zn;simp[Xr];exact kG
    subst he;obtain⟨hct,_,hz0,hzn,hT,hcT⟩:=hput rfl;apply Za;simp[Eb,Ep];subst hb2;refine Zc (t:=false) (by simp) ?_;apply Zj;subst hb1;have hg:=(Ut hct).1;have hpg:=(Ut hcp).1;have htw:=Bh t hg h.wide;have hpw:=Bh pt hpg hp.wide;have hpu:=put_wide hpw.1 t.twin z.toNat htw.1;have hfT:(plaT pt.twin t.twin z.toNat).fold= .und:=put_und (by rw[twin_fold pt hpg];exact hund) _ _ (by rw[Fl];omega);obtain⟨gs,H9,c9,k9,hf9⟩:=Cc ⟨hT.keep k8,(Ut hcT).1,by omega⟩ hcT;have n9:=k9.n;have K:=K.trans k9;replace q0:=(k9.blk _ (by omega)).trans q0;replace q1:=(k9.blk _ (by omega)).trans q1;replace q6:=(k9.blk _ (by omega)).trans q6;replace q8:=(k9.blk _ (by omega)).trans q8;rw[hfT]at hf9;obtain rfl:=hf9;obtain⟨H10,st10,k10,q10,n10⟩:=newFv (H:=H9) (vs:=[.int .i64 2,.bool false,.slice none 0 0,.slice none 0 0]) rfl rfl;have K:=K.trans k10;replace q0:=(k10.blk _ (by omega)).trans q0;replace q1:=(k10.blk _ (by omega)).trans q1;replace q6:=(k10.blk _ (by omega)).trans q6;replace q8:=(k10.blk _ (by omega)).trans q8;obtain⟨G,cG,kG⟩:=aw H10 K;apply Zb;intro b1 hb1;apply Za;simp[Vf y8 hul,c9,Jl,Value.cells,st10];subst hb1;apply Zb;intro b1 hb1;apply Za;simp[Eb,show Zd .eql .i64 0 0=some (.bool true)from rfl,faF0,Eh q10,show Zd .eql .i64 2 2=some (.bool true)from rfl,cG];subst hb1;apply Zn;simp;exact kG
end
end
end
end Go.Proofs.YtmkfecoeghokfaaGreatDoor
namespace Go.Proofs.YtmkfecoeghokfaaGreatDoor
open Go.ChangeShapes Go.WideShapes Go.ChangeAt Go.RowKit Go.Proofs.YtmkfecoeghokfaaGreatDoor.Ev
set_option linter.unusedVariables false
set_option maxHeartbeats 1000000
theorem laidOut:laidOutB Tryz.prog=true:=by kernel_rfl
theorem args_kept{P:Program}(hl:laidOutB P=true){H:Type}{enc:TypeId×Value→H}{W W':World}(hb:Below W.heap.size W W'): ∀(ts:List TypeId)(vs:List Value)(ds:List (DataW H))(ps:List MemPlace),(ts.all fun t=>P.readableRec t&&decide (t<P.types.size))=true→DataW.TrodAll enc P W 0 (fun _=>true) true ts vs ds ps→(∀x∈ps,x.block<W.heap.size)→DataW.TrodAll enc P W' 0 (fun b=>decide (b<W.heap.size)) true ts vs ds ps|[],[],[],_,_,h,_=>h|t::ts,v::vs,d::ds,_,ht,⟨p,q,h1,h2,e⟩,hlt=>by subst e;rw[List.all_cons,Bool.and_eq_true,Bool.and_eq_true]at ht;exact⟨p,q,Below.trod hl ht.1.1 (of_decide_eq_true ht.1.2) h1 hb (fun x hx=>hlt x (List.mem_append_left _ hx)),args_kept hl hb ts vs ds q ht.2 h2 (fun x hx=>hlt x (List.mem_append_right _ hx)),rfl⟩
end Go.Proofs.YtmkfecoeghokfaaGreatDoor
namespace Go.Proofs.YtmkfecoeghokfaaGreatDoor
open Go Go.ChangeShapes Go.WideShapes Go.RowKit Go.Proofs.YtmkfecoeghokfaaGreatDoor.Ev
set_option linter.unusedVariables false
noncomputable section
set_option maxRecDepth 20000
set_option maxHeartbeats 1000000
theorem bulk_one{H:Type}(d:DataW H):1≤Rows.uptoBulk d:=by cases d with|lit l=>cases l<;>simp[Rows.uptoBulk]|nil=>simp[Rows.uptoBulk]|ptr d=>simp[Rows.uptoBulk]|slice elems spare=>simp[Rows.uptoBulk]|agg parts=>simp[Rows.uptoBulk]|iface t d=>simp[Rows.uptoBulk]|map entries=>simp[Rows.uptoBulk]|held h=>simp[Rows.uptoBulk]
theorem bulk_len{H:Type}(l:List (DataW H)):l.length≤Rows.uptoBulkAll l:=by induction l with|nil=>simp[Rows.uptoBulkAll]|cons x r ih=>have:=bulk_one x;simp only[Rows.uptoBulkAll,List.length_cons];omega
theorem bulk_slice{H:Type}(elems spare:List (DataW H)):elems.length≤Rows.uptoBulk (.slice elems spare):=by have h1:=bulk_len elems;simp only[Rows.uptoBulk];omega
theorem bulk_part{H:Type}{d:DataW H}{l:List (DataW H)}(h:d∈l):Rows.uptoBulk d≤Rows.uptoBulkAll l:=by induction l with
 |nil=>cases h
 |cons x r ih=>simp only[Rows.uptoBulkAll];cases List.mem_cons.1 h with|inl e=>subst e;omega|inr e=>have:=ih e;omega
theorem bulk_bound{H:Type}{l:List (DataW H)}(hk:Rows.uptoSmall H l=true):Rows.uptoBulkAll l≤1048576:=of_decide_eq_true hk
def ArgIs(W:World)(v:Value)(xs:List Nat):Prop:=(v= .slice none 0 0∧xs=[])∨ ∃(a:Addr) (cap:Nat),v= .slice (some a) xs.length cap∧xs.length≤cap∧ ∀(i x:Nat),xs[i]?=some x→W.cell? (a.add i)=some (.int .u64 (x:Int))
theorem cU64:Tryz.prog.cellsOf 101=1:=by kernel_rfl
theorem add_arg{W:World}{S:Nat→Prop}{L:Nat→Ev.Loc}{H:AH}(hI:Inv W.heap.size S L H W){v:Value}{xs:List Nat}(h:ArgIs W v xs): ∃(S':Nat→Prop) (L':Nat→Ev.Loc) (H':AH) (v0:Value),Inv W.heap.size S' L' H' W∧(∀i,S i→S' i)∧(∀i,S i→L' i=L i)∧VR S' L' v0 v∧Sl H' v0 xs∧Keep H H':=by
 rcases h with⟨rfl,rfl⟩|⟨a,cap,rfl,hcap,hc⟩;·exact⟨S,L,H,.slice none 0 0,hI,fun _ h=>h,fun _ _=>rfl,.nilSlice,.nil,.refl H⟩
 ·by_cases h0:xs.length=0;·obtain rfl:xs=[]:=List.length_eq_zero_iff.mp h0;exact⟨S,L,H,_,hI,fun _ h=>h,fun _ _=>rfl,.emp 0 a cap,.emp 0,.refl H⟩
  ·have hx0:=hc 0 xs[0] (List.getElem?_eq_getElem (by omega));have ea:a.add 0=a:=rfl;rw[ea]at hx0;have hspot:a.spot=none:=by unfold World.cell? at hx0;cases hs:a.spot with
    |none=>rfl
    |some q=>
     rw[hs]at hx0;split at hx0;·simp at hx0
     ·cases hx0
   have hblk:a.block<W.heap.size:=World.block_lt_of_cell? W a hx0;have hadd: ∀k,a.add k=⟨a.block,a.off+k,none⟩:=fun k=>by
    unfold Addr.add;by_cases hk:k=0;·subst hk;rw[if_pos rfl];cases a with|mk b o s=>simp at hspot;subst hspot;rfl
    ·rw[if_neg hk]
   have hn: ∀i,S i→i≠H.n:=fun i hi e=>by have:=hI.bd i hi;omega
   let L':Nat→Ev.Loc:=fun i=>if i=H.n then⟨a.block,a.off,1,a.off+cap⟩else L i;let S':Nat→Prop:=fun i=>i=H.n∨S i;have hL: ∀i,S i→L' i=L i:=fun i hi=>if_neg (hn i hi);have hLn:L' H.n=⟨a.block,a.off,1,a.off+cap⟩:=if_pos rfl;let H':AH:= { n:=H.n+1,lw:=H.lw,t:=H.t.set H.n (.ro 1 (xs.map fun x:Nat=>Value.int .u64 (x:Int))) };have hb: ∀j,H'.blk j=if j=H.n then .ro 1 (xs.map fun x:Nat=>Value.int .u64 (x:Int))else H.blk j:=fun j=>by
    show(match(H.t.set H.n _).get j with|some b=>b|none=>Blk.dead)=_;rw[Tr.get_set];by_cases e:j=H.n;·rw[if_pos e,if_pos e]
    ·rw[if_neg e,if_neg e];rfl
   refine⟨S',L',H',.slice (some ⟨H.n,0,none⟩) xs.length xs.length,⟨?_,?_,?_,?_,hI.base⟩,fun i hi=> .inr hi,hL,?_,?_,?_⟩
   ·intro i sz cs hi;rw[hb]at hi;by_cases e:i=H.n;·rw[if_pos e]at hi;cases hi;subst e;rw[hLn];refine⟨.inl rfl,hblk,rfl,fun k v hk=>?_⟩;rw[List.getElem?_map]at hk;cases hxk:xs[k]? with|none=>rw[hxk]at hk;cases hk|some x=>rw[hxk]at hk;cases hk;refine⟨.int .u64 (x:Int),?_,.int _ _⟩;have:=hc k x hxk;rwa[hadd k]at this
    ·rw[if_neg e]at hi;obtain⟨h1,h2,h3,h4⟩:=hI.ro i sz cs hi;rw[hL i h1];refine⟨.inr h1,h2,h3,fun k v hk=>?_⟩;obtain⟨v',h5,h6⟩:=h4 k v hk;exact⟨v',h5,h6.mono (fun _ h=> .inr h) hL⟩
   ·intro i sz cs hi;rw[hb]at hi;by_cases e:i=H.n;·rw[if_pos e]at hi;cases hi
    ·rw[if_neg e]at hi;obtain⟨h1,h2,h3,C,e',h4,h5,h6⟩:=hI.rw i sz cs hi;rw[hL i h1];refine⟨.inr h1,h2,h3,C,e',h4,h5,fun k v hk=>?_⟩;obtain⟨v',h7,h8⟩:=h6 k v hk;exact⟨v',h7,h8.mono (fun _ h=> .inr h) hL⟩
   ·intro i j sz cs sz' cs' hi hj hg;rw[hb]at hi hj;by_cases e:i=H.n;·rw[if_pos e]at hi;cases hi
    ·by_cases e2:j=H.n;·rw[if_pos e2]at hj;cases hj
     ·rw[if_neg e]at hi;rw[if_neg e2]at hj;rw[hL i (hI.rw i _ _ hi).1,hL j (hI.rw j _ _ hj).1]at hg;exact hI.dj i j _ _ _ _ hi hj hg
   ·intro i hi;rcases hi with hi|hi;·subst hi;exact Nat.lt_succ_self _
    ·exact Nat.lt_succ_of_lt (hI.bd i hi)
   ·have hv:=VR.slice (S:=S') (L:=L') H.n 0 xs.length xs.length cap (.inl rfl) hcap (Nat.le_refl _) (by rw[hLn];simp);rw[hLn]at hv;have e:(some (⟨a.block,a.off+0,none⟩:Addr))=some a:=by congr 1;cases a with|mk b o s=>simp at hspot;subst hspot;rfl
    rw[e]at hv;exact hv
   ·refine .mk H.n 0 xs.length xs (Nat.le_refl _) ⟨Nat.lt_succ_self _,xs.map fun x:Nat=>Value.int .u64 (x:Int),?_,?_,fun i x hx=>?_,Nat.zero_le _⟩;·unfold AH.cells;rw[hb,if_pos rfl]
    ·unfold AH.size;rw[hb,if_pos rfl]
    ·rw[Nat.zero_add,List.getElem?_map,hx];rfl
   ·exact⟨Nat.le_succ _,Nat.min_le_left _ _,fun j hj=>by rw[hb,if_neg (by omega)]⟩
mutual inductive WEx(W:World):List Value→ET→Prop|mk{op:Int}{neg:Bool}{va vd vx:Value}{abs den:List Nat}{args:List ET} :ArgIs W va abs→ArgIs W vd den→WXs W vx args→WEx W [.int .i64 op,.bool neg,va,vd,vx] (.node op neg abs den args) inductive WXs(W:World):Value→List ET→Prop|nil:WXs W (.slice none 0 0) []|mk(a:Addr)(cap:Nat){args:List ET}(F:Nat→List Value):args.length≤cap→(∀i,i<args.length→W.cells? 0 (a.add (i*5)) 5=some (F i))→(∀(i:Nat)(t:ET),args[i]?=some t→WEx W (F i) t)→WXs W (.slice (some a) args.length cap) args end
instance:Inhabited ET:=⟨.node 0 false [] [] []⟩
theorem Ze6{H:Type}{enc:TypeId×Value→H}{W:World}{t:TypeId}{fuel:Nat}{cs:List Value}{x:DataW H×List MemPlace}(ht:Tryz.prog.underlying t=some (.slice 101))(hf:DataW.trod enc Tryz.prog W 0 (fun _=>true) true fuel t cs=some x): ∃v xs,cs=[v]∧Dig 18446744073709551616 xs∧xs.length≤Rows.uptoBulk x.1∧ArgIs W v xs:=by
 rcases Deep.open_slice1 ht cU64 hf with⟨h1,h2⟩|⟨a',len',cap',m,n,V,D,Pl,h1,_,hl,_,hm,hx,hV⟩;·exact⟨_,[],h1,.nil _,Nat.zero_le _,.inl ⟨rfl,rfl⟩⟩
 ·rw[if_pos rfl]at hm;rw[hm]at hx hV;have hval: ∀i,i<cap'→ ∃x:Nat,V i= .int .u64 (x:Int)∧x<18446744073709551616:=fun i hi=>by
   obtain⟨n',c',x',w'⟩:=DataW.trod_int Tryz.underlying101 (hV i hi).2;simp at c';simp only[Lit.wf,Bool.and_eq_true,decide_eq_true_eq]at w';have e1:IntKind.u64.min=0:=by decide
   have e2:IntKind.u64.max=18446744073709551615:=by decide
   exact⟨n'.toNat,by rw[c'];congr 1;omega,by omega⟩
  let f:Nat→Nat:=fun i=>match V i with| .int _ z=>z.toNat|_=>0;have hfe: ∀i,i<cap'→V i= .int .u64 ((f i:Nat):Int)∧f i<18446744073709551616:=fun i hi=>by
   obtain⟨x,h1,h2⟩:=hval i hi;have:f i=x:=by show(match V i with| .int _ z=>z.toNat|_=>0)=x;rw[h1];simp
   rw[this];exact⟨h1,h2⟩
  refine⟨_,(List.range len').map f,h1,?_,?_,.inr ⟨a',cap',by simp,by simpa using hl,?_⟩⟩;·intro x hx;obtain⟨i,hi,rfl⟩:=List.mem_map.mp hx;exact(hfe i (Nat.lt_of_lt_of_le (List.mem_range.mp hi) hl)).2
  ·rw[hx];have:=bulk_slice ((List.range len').map D) ((List.range (cap'-len')).map fun j=>D (len'+j));simpa using this
  ·intro i x hi;rw[List.getElem?_map]at hi;by_cases hil:i<len';·rw[List.getElem?_range hil]at hi;cases hi;have hic:i<cap':=Nat.lt_of_lt_of_le hil hl;rw[(hV i hic).1,(hfe i hic).1]
   ·rw[List.getElem?_eq_none (by simp;omega)]at hi;cases hi
theorem uExpr: ∃f0 f1 f2,Tryz.prog.underlying 53=some (.struct #[f0,f1,f2])∧f0.type=50∧f0.offset=0∧f1.type=34∧f1.offset=1∧f2.type=51∧f2.offset=4:=⟨_,_,_,Tryz.underlying53,rfl,rfl,rfl,rfl,rfl,rfl⟩
theorem uRatio: ∃f0 f1,Tryz.prog.underlying 34=some (.struct #[f0,f1])∧f0.type=32∧f0.offset=0∧f1.type=30∧f1.offset=2:=⟨_,_,Tryz.underlying34,rfl,rfl,rfl,rfl⟩
theorem uWhole: ∃f0 f1,Tryz.prog.underlying 32=some (.struct #[f0,f1])∧f0.type=4∧f0.offset=0∧f1.type=30∧f1.offset=1:=⟨_,_,Tryz.underlying32,rfl,rfl,rfl,rfl⟩
theorem cExpr:Tryz.prog.cellsOf 53=5:=by kernel_rfl
theorem cRatio:Tryz.prog.cellsOf 34=3:=by kernel_rfl
theorem cWhole:Tryz.prog.cellsOf 32=2:=by kernel_rfl
theorem cNat:Tryz.prog.cellsOf 30=1:=by kernel_rfl
theorem cBool:Tryz.prog.cellsOf 4=1:=by kernel_rfl
theorem cExprs:Tryz.prog.cellsOf 51=1:=by kernel_rfl
theorem Zj4{H:Type}{f:Nat→ET}{D:Nat→DataW H} : ∀(l:List Nat),(∀i∈l,(f i).nodes≤Rows.uptoBulk (D i))→Yb (l.map f)≤Rows.uptoBulkAll (l.map D)|[],_=>Nat.le_refl _|i::l,h=>by have h1:=h i (List.mem_cons_self ..);have h2:=Zj4 l fun j hj=>h j (List.mem_cons_of_mem _ hj);simp only[List.map_cons,Yb,Rows.uptoBulkAll];omega
theorem wtAll_map{H:Type}{f:Nat→ET}{D:Nat→DataW H} : ∀(l:List Nat),(∀i∈l,(f i).wt≤64*Rows.uptoBulk (D i))→Kj (l.map f)≤64*Rows.uptoBulkAll (l.map D)|[],_=>Nat.zero_le _|i::l,h=>by have h1:=h i (List.mem_cons_self ..);have h2:=wtAll_map l fun j hj=>h j (List.mem_cons_of_mem _ hj);simp only[List.map_cons,Kj,Rows.uptoBulkAll];omega
theorem Zo0{f:Nat→ET}{L:Nat} : ∀(l:List Nat),(∀i∈l,(f i).wide L)→Fs L (l.map f)|[],_=>trivial|i::l,h=>⟨h i (List.mem_cons_self ..),Zo0 l fun j hj=>h j (List.mem_cons_of_mem _ hj)⟩
theorem open_tree{H:Type}{enc:TypeId×Value→H}{W:World} : ∀(N:Nat)(d:DataW H),Rows.uptoBulk d≤N→ ∀(fuel:Nat)(cs:List Value)(ps:List MemPlace),DataW.trod enc Tryz.prog W 0 (fun _=>true) true fuel 53 cs=some (d,ps)→ ∃t:ET,WEx W cs t∧(∀L,Rows.uptoBulk d≤L→t.wide L)∧t.nodes≤Rows.uptoBulk d∧t.wt≤64*Rows.uptoBulk d:=by intro N;induction N with
 |zero=>intro d hd;have:=bulk_one d;omega
 |succ N ih=>
  intro d hd fuel cs ps h;obtain⟨f0,f1,f2,hu,e1,e2,e3,e4,e5,e6⟩:=uExpr;obtain⟨y0,y1,y2,n,hx,hl,h0,h1,h2⟩:=Deep.trod_struct3 hu h;rw[e1,e2,cOp]at h0;rw[e3,e4,cRatio]at h1;rw[e5,e6,cExprs]at h2;rw[cExpr]at hl;obtain⟨g0,g1,hu2,i1,i2,i3,i4⟩:=uRatio;obtain⟨z0,z1,n2,hx2,hl2,j0,j1⟩:=trod_struct2 hu2 h1;rw[i1,i2,cWhole]at j0;rw[i3,i4,cNat]at j1;obtain⟨k0,k1,hu3,m1,m2,m3,m4⟩:=uWhole;obtain⟨w0,w1,n3,hx3,hl3,q0,q1⟩:=trod_struct2 hu3 j0;rw[m1,m2,cBool]at q0;rw[m3,m4,cNat]at q1;obtain⟨op,c0,x0,_⟩:=DataW.trod_int uOp h0;obtain⟨neg,cb,xb⟩:=DataW.trod_bool Tryz.underlying4 q0;obtain⟨va,abs,ca,da,la,ra⟩:=Ze6 uNat q1;obtain⟨vd,den,cd,dd,ld,rd⟩:=Ze6 uNat j1;simp only[Prod.mk.injEq]at hx;obtain⟨hxd,_⟩:=hx;have hb1:Rows.uptoBulk w1.1+1≤Rows.uptoBulk z0.1:=by rw[hx3];simp only[Rows.uptoBulk,Rows.uptoBulkAll];omega
  have hb2:Rows.uptoBulk z0.1+Rows.uptoBulk z1.1+1≤Rows.uptoBulk y1.1:=by rw[hx2];simp only[Rows.uptoBulk,Rows.uptoBulkAll];omega
  have hb3:Rows.uptoBulk y1.1+Rows.uptoBulk y2.1+1≤Rows.uptoBulk d:=by rw[hxd];simp only[Rows.uptoBulk,Rows.uptoBulkAll];omega
  match cs,hl with
   |[a0,a1,a2,a3,a4],_=>
    simp at c0 cb ca cd h2;subst c0;subst cb;subst ca;subst cd;have u:Tryz.prog.underlying 51=some (.slice 53):=by kernel_rfl
    rcases Deep.open_slice u h2 with⟨p1,p2⟩|⟨a,len,cap,m,nn,D,Pl,p1,_,hlc,_,hm,p2,hV⟩
    ·cases p1;refine⟨.node op neg abs den [],.mk ra rd .nil,fun L hL=>⟨by omega,by omega,da,dd,trivial⟩,?_,?_⟩;·simp only[ET.nodes,Yb];have:=bulk_one d;omega
     ·simp only[ET.wt,Kj];split<;>omega
    ·cases p1;rw[if_pos rfl]at hm;subst hm;rw[cExpr]at hV p2;have hb4:Rows.uptoBulkAll ((List.range len).map D)+1≤Rows.uptoBulk y2.1:=by rw[p2];simp only[Rows.uptoBulk];omega
     obtain⟨F,hF⟩:=Deep.choose_lt (α:=List Value×ET) (n:=len) (p:=fun i q=>W.cells? 0 (a.add (i*5)) 5=some q.1∧WEx W q.1 q.2∧(∀L,Rows.uptoBulk (D i)≤L→q.2.wide L)∧q.2.nodes≤Rows.uptoBulk (D i)∧q.2.wt≤64*Rows.uptoBulk (D i)) (fun i hi=>by obtain⟨cs',s1,s2⟩:=hV i (Nat.lt_of_lt_of_le hi hlc);have hbi:Rows.uptoBulk (D i)≤Rows.uptoBulkAll ((List.range len).map D):=bulk_part (List.mem_map.mpr ⟨i,List.mem_range.mpr hi,rfl⟩);obtain⟨t,t1,t2,t3,t4⟩:=ih (D i) (by omega) _ _ _ s2;exact⟨(cs',t),s1,t1,t2,t3,t4⟩);have hlen:((List.range len).map fun i=>(F i).2).length=len:=by simp
     have hw:WXs W (.slice (some a) ((List.range len).map fun i=>(F i).2).length m) ((List.range len).map fun i=>(F i).2):=by
      refine .mk a m (fun i=>(F i).1) (by rw[hlen];exact hlc) (fun i hi=>(hF i (by rwa[hlen]at hi)).1) (fun i t ht=>?_);have hi:i<len:=by
       rcases Nat.lt_or_ge i len with h|h;·exact h
       ·rw[List.getElem?_eq_none (by rw[hlen];exact h)]at ht;cases ht
      rw[List.getElem?_map,List.getElem?_range hi]at ht;cases ht;exact(hF i hi).2.1
     rw[hlen]at hw;refine⟨.node op neg abs den ((List.range len).map fun i=>(F i).2),.mk ra rd hw,fun L hL=>⟨by omega,by omega,da,dd,Zo0 _ fun i hi=>?_⟩,?_,?_⟩;·have hi:=List.mem_range.mp hi;have hbi:Rows.uptoBulk (D i)≤Rows.uptoBulkAll ((List.range len).map D):=bulk_part (List.mem_map.mpr ⟨i,List.mem_range.mpr hi,rfl⟩);exact(hF i hi).2.2.1 L (by omega)
     ·have:=Zj4 (D:=D) (f:=fun i=>(F i).2) (List.range len) fun i hi=>(hF i (List.mem_range.mp hi)).2.2.2.1;simp only[ET.nodes];omega
     ·have:=wtAll_map (D:=D) (f:=fun i=>(F i).2) (List.range len) fun i hi=>(hF i (List.mem_range.mp hi)).2.2.2.2;simp only[ET.wt];split<;>omega
theorem add_block{W:World}{S:Nat→Prop}{L:Nat→Ev.Loc}{H:AH}(hI:Inv W.heap.size S L H W){g o sz cap:Nat}{cs cs':List Value}(hg:g<W.heap.size)(hc: ∀(k:Nat)(v':Value),cs'[k]?=some v'→W.cell? ⟨g,o+k,none⟩=some v')(hv:VRs S L cs cs'): ∃(S':Nat→Prop) (L':Nat→Ev.Loc) (H':AH),Inv W.heap.size S' L' H' W∧(∀i,S i→S' i)∧(∀i,S i→L' i=L i)∧Keep H H'∧H'.cells H.n=some cs∧S' H.n∧L' H.n=⟨g,o,sz,o+cap*sz⟩∧H'.n=H.n+1:=by
 have hn: ∀i,S i→i≠H.n:=fun i hi e=>by have:=hI.bd i hi;omega
 let L':Nat→Ev.Loc:=fun i=>if i=H.n then⟨g,o,sz,o+cap*sz⟩else L i;let S':Nat→Prop:=fun i=>i=H.n∨S i;have hL: ∀i,S i→L' i=L i:=fun i hi=>if_neg (hn i hi);have hLn:L' H.n=⟨g,o,sz,o+cap*sz⟩:=if_pos rfl;let H':AH:= { n:=H.n+1,lw:=H.lw,t:=H.t.set H.n (.ro sz cs) };have hb: ∀j,H'.blk j=if j=H.n then .ro sz cs else H.blk j:=fun j=>by
  show(match(H.t.set H.n _).get j with|some b=>b|none=>Blk.dead)=_;rw[Tr.get_set];by_cases e:j=H.n;·rw[if_pos e,if_pos e]
  ·rw[if_neg e,if_neg e];rfl
 refine⟨S',L',H',⟨?_,?_,?_,?_,hI.base⟩,fun i hi=> .inr hi,hL,?_,?_,.inl rfl,hLn,rfl⟩
 ·intro i sz2 cs2 hi;rw[hb]at hi;by_cases e:i=H.n;·rw[if_pos e]at hi;cases hi;subst e;rw[hLn];refine⟨.inl rfl,hg,rfl,fun k v hk=>?_⟩;obtain⟨v',h1,h2⟩:=hv.get hk;exact⟨v',hc k v' h1,h2.mono (fun _ h=> .inr h) hL⟩
  ·rw[if_neg e]at hi;obtain⟨h1,h2,h3,h4⟩:=hI.ro i sz2 cs2 hi;rw[hL i h1];refine⟨.inr h1,h2,h3,fun k v hk=>?_⟩;obtain⟨v',h5,h6⟩:=h4 k v hk;exact⟨v',h5,h6.mono (fun _ h=> .inr h) hL⟩
 ·intro i sz2 cs2 hi;rw[hb]at hi;by_cases e:i=H.n;·rw[if_pos e]at hi;cases hi
  ·rw[if_neg e]at hi;obtain⟨h1,h2,h3,C,e',h4,h5,h6⟩:=hI.rw i sz2 cs2 hi;rw[hL i h1];refine⟨.inr h1,h2,h3,C,e',h4,h5,fun k v hk=>?_⟩;obtain⟨v',h7,h8⟩:=h6 k v hk;exact⟨v',h7,h8.mono (fun _ h=> .inr h) hL⟩
 ·intro i j sz2 cs2 sz' cs' hi hj hg;rw[hb]at hi hj;by_cases e:i=H.n;·rw[if_pos e]at hi;cases hi
  ·by_cases e2:j=H.n;·rw[if_pos e2]at hj;cases hj
   ·rw[if_neg e]at hi;rw[if_neg e2]at hj;rw[hL i (hI.rw i _ _ hi).1,hL j (hI.rw j _ _ hj).1]at hg;exact hI.dj i j _ _ _ _ hi hj hg
 ·intro i hi;rcases hi with hi|hi;·subst hi;exact Nat.lt_succ_self _
  ·exact Nat.lt_succ_of_lt (hI.bd i hi)
 ·exact⟨Nat.le_succ _,Nat.min_le_left _ _,fun j hj=>by rw[hb,if_neg (by omega)]⟩
 ·unfold AH.cells;rw[hb,if_pos rfl]
theorem flat_len{G:Nat→List Value} : ∀m,(∀i,i<m→(G i).length=5)→(((List.range m).map G).flatten).length=m*5|0,_=>rfl|m+1,h=>by rw[List.range_succ,List.map_append,List.flatten_append,List.length_append,flat_len m fun i hi=>h i (by omega)];simp[h m (by omega)];omega
theorem flat_get{G:Nat→List Value} : ∀m,(∀i,i<m→(G i).length=5)→ ∀i,i<m→((((List.range m).map G).flatten).drop (i*5)).take 5=G i
 |0,_,i,hi=>absurd hi (Nat.not_lt_zero i)
 |m+1,h,i,hi=>by
  have hl:=flat_len m fun i hi=>h i (by omega);rw[List.range_succ,List.map_append,List.flatten_append];by_cases e:i=m;·subst e;rw[List.drop_append_of_le_length (by omega),List.drop_of_length_le (by omega),List.nil_append];simp only[List.map_cons,List.map_nil,List.flatten_cons,List.flatten_nil,List.append_nil];rw[List.take_of_length_le (by rw[h i (by omega)];omega)]
  ·rw[List.drop_append_of_le_length (by omega),List.take_append_of_le_length (by rw[List.length_drop];omega)];exact flat_get m (fun i hi=>h i (by omega)) i (by omega)
theorem flat_cells{W:World}{a:Addr}(hspot:a.spot=none){F:Nat→List Value} : ∀m,(∀i,i<m→W.cells? 0 (a.add (i*5)) 5=some (F i))→ ∀(k:Nat)(v':Value),(((List.range m).map F).flatten)[k]?=some v'→W.cell? ⟨a.block,a.off+k,none⟩=some v'
 |0,_,k,v',hk=>by simp at hk
 |m+1,h,k,v',hk=>by
  have hadd: ∀k,a.add k=⟨a.block,a.off+k,none⟩:=fun k=>by
   unfold Addr.add;by_cases hk:k=0;·subst hk;rw[if_pos rfl];cases a with|mk b o s=>simp at hspot;subst hspot;rfl
   ·rw[if_neg hk]
  have hF: ∀i,i<m+1→(F i).length=5:=fun i hi=>(World.cells?_some (h i hi)).2.1;have hl:=flat_len m fun i hi=>hF i (by omega);rw[List.range_succ,List.map_append,List.flatten_append]at hk;by_cases e:k<m*5;·rw[List.getElem?_append_left (by omega)]at hk;exact flat_cells hspot m (fun i hi=>h i (by omega)) k v' hk
  ·rw[List.getElem?_append_right (by omega),hl]at hk;simp only[List.map_cons,List.map_nil,List.flatten_cons,List.flatten_nil,List.append_nil]at hk;obtain⟨_,_,h3⟩:=World.cells?_some (h m (by omega));have hj:k-m*5<5:=by
    rcases Nat.lt_or_ge (k-m*5) 5 with h'|h';·exact h'
    ·rw[List.getElem?_eq_none (by rw[hF m (by omega)];exact h')]at hk;cases hk
   have:=h3 (k-m*5) hj;rw[hk,Deep.add_add,hadd,show m*5+(k-m*5)=k by omega]at this;exact this
theorem VRs_flat{S:Nat→Prop}{L:Nat→Ev.Loc}{G F:Nat→List Value} : ∀m,(∀i,i<m→VRs S L (G i) (F i))→VRs S L ((List.range m).map G).flatten ((List.range m).map F).flatten|0,_=> .nil|m+1,h=>by rw[List.range_succ,List.map_append,List.flatten_append,List.map_append,List.flatten_append];refine(VRs_flat m fun i hi=>h i (by omega)).append ?_;simpa using h m (by omega)
theorem add_tree{W:World} : ∀(N:Nat)(t:ET),t.nodes≤N→ ∀(cs:List Value),WEx W cs t→ ∀{S:Nat→Prop}{L:Nat→Ev.Loc}{H:AH},Inv W.heap.size S L H W→ ∃(S':Nat→Prop) (L':Nat→Ev.Loc) (H':AH) (vs:List Value),Inv W.heap.size S' L' H' W∧(∀i,S i→S' i)∧(∀i,S i→L' i=L i)∧VRs S' L' vs cs∧Ex H' vs t∧Keep H H':=by intro N;induction N with
 |zero=>intro t h;have:=Vb t;omega
 |succ N ih=>intro t ht cs hw S L H hI;cases hw with
  |@mk op neg va vd vx abs den args ra rd rx=>
   simp only[ET.nodes]at ht;obtain⟨S1,L1,H1,wa,I1,s1,l1,r1,q1,k1⟩:=add_arg hI ra;obtain⟨S2,L2,H2,wd,I2,s2,l2,r2,q2,k2⟩:=add_arg I1 rd;suffices hx: ∃(S':Nat→Prop) (L':Nat→Ev.Loc) (H':AH) (wx:Value),Inv W.heap.size S' L' H' W∧(∀i,S2 i→S' i)∧(∀i,S2 i→L' i=L2 i)∧VR S' L' wx vx∧Xs H' wx args∧Keep H2 H' by obtain⟨S3,L3,H3,wx,I3,s3,l3,r3,q3,k3⟩:=hx;refine⟨S3,L3,H3,[.int .i64 op,.bool neg,wa,wd,wx],I3,fun i h=>s3 i (s2 i (s1 i h)),fun i h=>by rw[l3 i (s2 i (s1 i h)),l2 i (s1 i h),l1 i h],?_,.mk (q1.keep (k2.trans k3)) (q2.keep k3) q3,(k1.trans k2).trans k3⟩;exact .cons (.int .i64 op) (.cons (.bool neg) (.cons ((r1.mono s2 l2).mono s3 l3) (.cons (r2.mono s3 l3) (.cons r3 .nil))))
   cases rx with
    |nil=>exact⟨S2,L2,H2,.slice none 0 0,I2,fun _ h=>h,fun _ _=>rfl,.nilSlice,.nil,.refl _⟩
    |mk a cap F hcap hF hE=>
     by_cases h0:args.length=0;·obtain rfl:args=[]:=List.length_eq_zero_iff.mp h0;exact⟨S2,L2,H2,.slice (some ⟨0,0,some 0⟩) 0 0,I2,fun _ h=>h,fun _ _=>rfl,.emp 0 a cap,.emp 0,.refl _⟩
     ·have hget: ∀i,i<args.length→args[i]?=some (args.getD i default):=fun i hi=>by rw[List.getElem?_eq_getElem hi];simp[List.getD,List.getElem?_eq_getElem hi]
      have key: ∀m,m≤args.length→ ∃(S':Nat→Prop) (L':Nat→Ev.Loc) (H':AH) (G:Nat→List Value),Inv W.heap.size S' L' H' W∧(∀i,S2 i→S' i)∧(∀i,S2 i→L' i=L2 i)∧(∀i,i<m→VRs S' L' (G i) (F i)∧Ex H' (G i) (args.getD i default))∧Keep H2 H':=by intro m;induction m with
       |zero=>intro _;exact⟨S2,L2,H2,fun _=>[],I2,fun _ h=>h,fun _ _=>rfl,fun i hi=>absurd hi (Nat.not_lt_zero i),.refl _⟩
       |succ m ihm=>
        intro hm;obtain⟨S3,L3,H3,G,I3,s3,l3,g3,k3⟩:=ihm (by omega);have hm':=hget m (by omega);have hn:=Ey hm';obtain⟨S4,L4,H4,vs,I4,s4,l4,r4,q4,k4⟩:=ih (args.getD m default) (by omega) (F m) (hE m _ hm') I3;refine⟨S4,L4,H4,fun i=>if i=m then vs else G i,I4,fun i h=>s4 i (s3 i h),fun i h=>by rw[l4 i (s3 i h),l3 i h],fun i hi=>?_,k3.trans k4⟩;by_cases e:i=m;·subst e;simp only[if_pos];exact⟨r4,q4⟩
        ·simp only[if_neg e];obtain⟨g1,g2⟩:=g3 i (by omega);exact⟨g1.mono s4 l4,g2.keep k4⟩
      obtain⟨S3,L3,H3,G,I3,s3,l3,g3,k3⟩:=key args.length (Nat.le_refl _);have hF0:=hF 0 (by omega);obtain⟨_,f1,f2⟩:=World.cells?_some hF0;have hx0:=f2 0 (by omega);rw[Deep.add_add,List.getElem?_eq_getElem (by omega)]at hx0;have ea:a.add (0*5+0)=a:=rfl;rw[ea]at hx0;have hspot:a.spot=none:=by have hx1:=hx0;unfold World.cell? at hx1;cases hs:a.spot with
       |none=>rfl
       |some q=>
        rw[hs]at hx1;split at hx1;·simp at hx1
        ·cases hx1
      have hblk:a.block<W.heap.size:=World.block_lt_of_cell? W a hx0;have hG: ∀i,i<args.length→(G i).length=5:=fun i hi=>(g3 i hi).2.len;obtain⟨S4,L4,H4,I4,s4,l4,k4,c4,sn,ln,n4⟩:=add_block (g:=a.block) (o:=a.off) (sz:=5) (cap:=cap) (cs:=((List.range args.length).map G).flatten) (cs':=((List.range args.length).map F).flatten) I3 hblk (flat_cells hspot args.length hF) (VRs_flat args.length fun i hi=>(g3 i hi).1);refine⟨S4,L4,H4,.slice (some ⟨H3.n,0,none⟩) args.length args.length,I4,fun i h=>s4 i (s3 i h),fun i h=>by rw[l4 i (s3 i h),l3 i h],?_,?_,k3.trans k4⟩
      ·have hv:=VR.slice (S:=S4) (L:=L4) H3.n 0 args.length args.length cap sn hcap (Nat.le_refl _) (by rw[ln];simp);rw[ln]at hv;have e:(some (⟨a.block,a.off+0,none⟩:Addr))=some a:=by congr 1;cases a with|mk b o s=>simp at hspot;subst hspot;rfl
       rw[e]at hv;exact hv
      ·refine .mk H3.n 0 args.length (by omega) c4 (Nat.le_refl _) fun i t hi=>?_;have hlt:i<args.length:=by
        rcases Nat.lt_or_ge i args.length with h'|h';·exact h'
        ·rw[List.getElem?_eq_none h']at hi;cases hi
       rw[Nat.zero_add,flat_get args.length hG i hlt];have:=(g3 i hlt).2.keep k4;rw[hget i hlt]at hi;cases hi;exact this
end
end Go.Proofs.YtmkfecoeghokfaaGreatDoor
