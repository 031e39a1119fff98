/-
  The engine and the walks that the claim's last text leans on, part 9 of 9: Ve, Vf, Wh, Wi, Kept, ArgsA, Tf, Tg.
-/
import Derived.Test.YtmkfecoeghokfaaGreatDoorM8
import Derived.Carry
import Derived.Deep.Slices
import Derived.JoinedCond
namespace Go.Proofs.YtmkfecoeghokfaaGreatDoor
open Go Ev
set_option linter.unusedVariables false
set_option linter.unusedSimpArgs false
noncomputable section
set_option maxRecDepth 20000
set_option maxRecDepth 20000
set_option maxHeartbeats 1000000
def rdB(r:Bool):Nat:=if r then b32 else B64
def rdZ(r:Bool):Nat:=if r then 6 else 5
def rdC(r:Bool)(op:Int)(neg:Bool)(vn vd:Value)(bad:Bool)(vx:Value):List Value:=if r then[.int .i64 op,.bool neg,vn,vd,.bool bad,vx]else[.int .i64 op,.bool neg,vn,vd,vx]
theorem rdZ_ne(r:Bool):rdZ r≠0:=by cases r<;>decide
theorem rdC_len(r:Bool)(op:Int)(neg:Bool)(vn vd:Value)(bad:Bool)(vx:Value):(rdC r op neg vn vd bad vx).length=rdZ r:=by cases r<;>rfl
mutual inductive Rd(r:Bool)(Q:Nat→Prop)(H:AH):List Value→RT→Prop|mk{op:Int}{neg bad:Bool}{vn vd vx:Value}{N D:Nat}{args:List RT} :Sl H vn (ds (rdB r) N)→Sl H vd (ds (rdB r) D)→Rds r Q H vx args→Rd r Q H (rdC r op neg vn vd bad vx) (.node op neg N D bad args) inductive Rds(r:Bool)(Q:Nat→Prop)(H:AH):Value→List RT→Prop|nil:Rds r Q H (.slice none 0 0) []|mk(b:Nat){css:List (List Value)}{args:List RT} :Q b→b<H.n→H.blk b= .rw (rdZ r) css.flatten→css.length=args.length→(∀cs∈css,cs.length=rdZ r)→(∀(i:Nat)(cs:List Value)(t:RT),css[i]?=some cs→args[i]?=some t→Rd r Q H cs t)→Rds r Q H (.slice (some ⟨b,0,none⟩) args.length args.length) args end
theorem rd_fr{r:Bool}{Q Q':Nat→Prop}{H H':AH}(f:Fr H H')(hQ: ∀j,j<H.n→(∃cs,H.blk j= .rw (rdZ r) cs)→Q j→H'.blk j=H.blk j∧Q' j): ∀n(t:RT),t.nodes≤n→ ∀vs,Rd r Q H vs t→Rd r Q' H' vs t:=by intro n;induction n with
 |zero=>intro t h;have:=rnodes_pos t;omega
 |succ n ih=>intro t h vs hx;cases hx with
  |mk h1 h2 h3=>simp only[RT.nodes]at h;refine .mk (h1.fr f) (h2.fr f) ?_;cases h3 with|nil=>exact .nil|mk b hq hb hc hl hz hf=>rename_i css;have e:=hQ b hb ⟨_,hc⟩ hq;refine .mk b (css:=css) e.2 (Nat.lt_of_lt_of_le hb f.1) (e.1.trans hc) hl hz fun i cs t hi ht=>?_;have:=Zg5 ht;exact ih t (by omega) _ (hf i cs t hi ht)
theorem Rd.fr{r:Bool}{Q Q':Nat→Prop}{H H':AH}{vs:List Value}{t:RT}(h:Rd r Q H vs t)(f:Fr H H')(hQ: ∀j,j<H.n→(∃cs,H.blk j= .rw (rdZ r) cs)→Q j→H'.blk j=H.blk j∧Q' j):Rd r Q' H' vs t:=rd_fr f hQ _ t (Nat.le_refl _) vs h
theorem Rd.keep{r:Bool}{Q:Nat→Prop}{H H':AH}{vs:List Value}{t:RT}(h:Rd r Q H vs t)(k:Keep H H'):Rd r Q H' vs t:=h.fr k.fr fun j hj _ hq=>⟨k.blk j hj,hq⟩
theorem Rd.len{r:Bool}{Q:Nat→Prop}{H:AH}{vs:List Value}{t:RT}(h:Rd r Q H vs t):vs.length=rdZ r:=by cases h;exact rdC_len ..
theorem Rds.shape{r:Bool}{Q:Nat→Prop}{H:AH}{v:Value}{l:List RT}(h:Rds r Q H v l): ∃a n c,v= .slice a n c:=by cases h<;>exact⟨_,_,_,rfl⟩
theorem Rd.ones{r:Bool}{Q:Nat→Prop}{H:AH}{vs:List Value}{t:RT}(h:Rd r Q H vs t):vs.all one=true:=by cases h with|mk h1 h2 h3=>obtain⟨_,_,_,rfl⟩:=h3.shape;have e1:=h1.one1;have e2:=h2.one1;cases r<;>simp only[rdC,List.all_cons,List.all_nil,e1,e2,Bool.and_true,if_true,if_false,Bool.false_eq_true]<;>rfl
def Rls(r:Bool)(Q:Nat→Prop)(H:AH)(css:List (List Value))(l:List RT):Prop:=css.length=l.length∧ ∀(i:Nat)(cs:List Value)(t:RT),css[i]?=some cs→l[i]?=some t→Rd r Q H cs t
theorem Rls.nil{r:Bool}{Q:Nat→Prop}{H:AH} :Rls r Q H [] []:=⟨rfl,fun i cs t h=>by simp at h⟩
theorem Rls.fr{r:Bool}{Q Q':Nat→Prop}{H H':AH}{css:List (List Value)}{l:List RT}(h:Rls r Q H css l)(f:Fr H H')(hQ: ∀j,j<H.n→(∃cs,H.blk j= .rw (rdZ r) cs)→Q j→H'.blk j=H.blk j∧Q' j):Rls r Q' H' css l:=⟨h.1,fun i cs t hi ht=>(h.2 i cs t hi ht).fr f hQ⟩
theorem Rls.append{r:Bool}{Q:Nat→Prop}{H:AH}{css:List (List Value)}{l:List RT}{us:List Value}{t:RT}(h:Rls r Q H css l)(hu:Rd r Q H us t):Rls r Q H (css++[us]) (l++[t]):=by
 refine⟨by simp[h.1],fun i cs t' hi ht=>?_⟩;rw[List.getElem?_append]at hi ht;rw[h.1]at hi;split at hi;·rename_i hlt;rw[if_pos hlt]at ht;exact h.2 i cs t' hi ht
 ·rename_i hlt;rw[if_neg hlt]at ht;obtain⟨k,hk⟩: ∃k,k=i-l.length:=⟨_,rfl⟩;rw[←hk]at hi ht;match k,hi,ht with|0,hi,ht=>simp at hi ht;subst hi;subst ht;exact hu
theorem Rls.done{r:Bool}{Q:Nat→Prop}{H:AH}{v:Value}{css:List (List Value)}{l:List RT}(hL:Lst (rdZ r) H v css)(h:Rls r Q H css l)(hq: ∀b,Qi v=some b→Q b):Rds r Q H v l:=by
 rcases hL with⟨rfl,rfl⟩|⟨b,rfl,h2,h3,h4⟩;·have h1:=h.1;cases l with|nil=>exact .nil|cons x xs=>simp at h1
 ·rw[h.1];exact .mk b (css:=css) (hq b rfl) h2 h3 h.1 h4 h.2
theorem Rds.len{r:Bool}{Q:Nat→Prop}{H:AH}{v:Value}{l:List RT}(h:Rds r Q H v l){t e:TypeId}(ht:Tryz.prog.underlying t=some (.slice e)):lenV Tryz.prog t v=some l.length:=by unfold lenV;rw[ht];cases h<;>rfl
theorem Rds.at{r:Bool}{Q:Nat→Prop}{H:AH}{v:Value}{l:List RT}(h:Rds r Q H v l){i:Nat}{x:RT}(hi:l[i]?=some x){t e:TypeId}(ht:Tryz.prog.underlying t=some (.slice e))(he:Qq Tryz.prog e=some (rdZ r))(ha:Jd Tryz.prog e=some true): ∃(p:Value) (us:List Value),Yu Tryz.prog t v (.int .i64 (i:Int))=some p∧(∀H',Keep H H'→Ys Tryz.prog H' e p=some (.agg us.toArray))∧Rd r Q H us x:=by have hlt:i<l.length:=(List.getElem?_eq_some_iff.mp hi).1;cases h with|nil=>simp at hi|mk b hq hb hc hl hz hf=>rename_i css;obtain⟨cs,hcs⟩: ∃cs,css[i]?=some cs:=⟨css[i]'(by omega),List.getElem?_eq_getElem (by omega)⟩;have hcl:=hz cs (List.mem_of_getElem? hcs);have hat:=Cf hz hcs;refine⟨.pointer (some ⟨b,i*rdZ r,none⟩),cs,?_,fun H' k=>Di ((k.blk b hb).trans hc) (rdZ_ne r) hat hcl ha he (Nat.pos_of_ne_zero (rdZ_ne r)),hf i cs x hcs hi⟩;unfold Yu;simp only[ht,he];rw[if_pos (by omega)];simp
end
end Go.Proofs.YtmkfecoeghokfaaGreatDoor
namespace Go.Proofs.YtmkfecoeghokfaaGreatDoor
open Go Ev
set_option linter.unusedVariables false
set_option linter.unusedSimpArgs false
noncomputable section
set_option maxRecDepth 20000
set_option maxHeartbeats 1000000
def giveV:Value:= .iface 168 (.agg #[.int .i64 70])
theorem bGive:Vs Tryz.prog 168 [(0,.int .i64 70)]=some (.agg #[.int .i64 70]):=by kernel_rfl
theorem isIfG:isIface Tryz.prog 168=some false:=by kernel_rfl
theorem eqGive:Xv Tryz.prog .eql 20 giveV .nilIface=some (.bool false):=by kernel_rfl
theorem asGive:Zj1 Tryz.prog giveV 168 true=some (.tuple #[.agg #[.int .i64 70],.bool true]):=by kernel_rfl
theorem zGive:Us Tryz.prog 168=some (.agg #[.int .i64 0]):=by kernel_rfl
theorem sGive:Qq Tryz.prog 168=some 1:=by kernel_rfl
theorem faGive(b:Nat):Xf Tryz.prog 168 (.pointer (some ⟨b,0,none⟩)) 0=some (.pointer (some ⟨b,0,none⟩)):=by kernel_rfl
theorem plainGive:plain giveV=true:=rfl
theorem W_memF{P:Program}{C:Cfg}{Q:Ev.Ex→St→Prop}{i:Nat}{ops:Array Oper}{s:St}(hd:(Uh ops&&Gy ops)=true)(h: ∃s',Kh P C (Zq P C) ops 0 [] ops.toList s=some s'∧Q .norm s'):W P C (.region i ops true) s Q:=by
 obtain⟨s',h1,h2⟩:=h;refine⟨.norm,s',?_,h2⟩;rw[Gf];simp only[Js];rw[Vc]at h1;rw[Bool.and_eq_true]at hd;have:Qg P C (Qh P C (lvI P C)) ops true s=some s':=by unfold Qg;rw[hd.1,hd.2];simp only[Bool.and_self,cond_true];exact h1
 rw[this]
section
attribute [-simp] Int.natCast_add Int.natCast_mul Int.natCast_ediv Int.natCast_emod Int.natCast_pow
attribute [local simp] strip Ye LW' LR gW Yk Xc Zz Xd Yn Xe Zr Zs Zg Yo Yz Yj Xi Zv Yp Zh Ze Xh Xg Qu Ya Xa opd Qd Yl plain Yg Tr.get_set Qb Zp Xv Yc sameKind undef Zu Yr Yw Zn Yb parts unV DW Xl Zy LX Zx
attribute [local simp] Qc Qo LP' Fp Kr Am
section
variable {H : AH} {u v : Value} {xs ys : List Nat}
end
section
variable {H : AH} {u v : Value}
theorem looked_bad{b m:Nat}(hl: ∀H',Keep H H'→Ys Tryz.prog H' 34 (.pointer (some ⟨b,0,none⟩))=some (.agg #[.bool false,.slice none 0 0,.slice none 0 0]))(hm:0<m):CWO Tryz.prog Zo 87 [.slice (some ⟨b,0,none⟩) m m] H fun o H'=>o= .pan giveV∧Keep H H':=by
 have lq:=lenQs b m;refine CWO_intro 17 (by decide) (by decide) Tryz.func87 rfl rfl ?_;apply Zb;intro b1 hb1;apply Za;simp[lq];subst hb1;apply Zt;refine Xw (fun n s'=>s'.k=17∧s'.H=H∧s'.tm.get 4=some (.slice (some ⟨b,0,none⟩) m m)∧s'.tm.get 5=some (.int .i64 (m:Int))∧s'.tm.get 6=some (.int .i64 ((0:Nat):Int))) ?_ m _ ⟨rfl,rfl,by simp,by simp,by simp⟩;rintro n ⟨k,tm,H4⟩ ⟨hk,kH,t4,t5,t6⟩ Q' hQ';simp only at hk kH t4 t5 t6;subst hk;subst kH;apply Zb;intro b3 hb3;apply Za;simp[t5,t6,lssN];subst hb3;apply Zb;intro b3 hb3;refine Zc (t:=true) (by simp[hm]) ?_;apply Zi;subst hb3;obtain⟨H5,st5,k5,blk5,n5⟩:=Qz (H:=H4) (sz:=1) (zs:=[.bool false,.slice none 0 0,.slice none 0 0]) Un rfl (v:= .agg #[.bool false,.slice none 0 0,.slice none 0 0]) (ws:=[.bool false,.slice none 0 0,.slice none 0 0]) rfl rfl rfl;have cl:=Jk (H:=H5) (A:=0) (v:= .slice none 0 0) (by rw[Jb];exact .nil) (by rw[Jb];decide);rw[show Zf 0=0 from by decide]at cl;have ha:Yu Tryz.prog 157 (.slice (some ⟨b,0,none⟩) m m) (.int .i64 0)=some (.pointer (some ⟨b,0,none⟩)):=by simpa using adrQs b m hm
 apply Zb;intro b3 hb3;apply Zt;apply Zb;intro b4 hb4;apply Za;simp[t4,t6,ha,hl H4 (.refl _),Jw,Value.cells,st5];subst hb4;apply Zb;intro b4 hb4;apply Za;simp[faQ1,Kf blk5,cl,show Zd .eql .i64 0 0=some (.bool true)from rfl];subst hb4;refine Zc (t:=true) (by simp) ?_;apply W_rpan;simp[bGive,isIfG,Xo,Xn];apply hQ';simp[Dc,Xo,Xn];exact⟨rfl,k5⟩
theorem caughtI_bad(c e:Int)(H:AH): ∃H',Zq Tryz.prog Zo 86 [giveV,.int .i64 c,.int .i64 e] H=some (.tuple #[.int .i64 0,.int .i64 70],H')∧Keep H H':=by
 suffices h:CW Tryz.prog Zo 86 [giveV,.int .i64 c,.int .i64 e] H fun v H'=>v= .tuple #[.int .i64 0,.int .i64 70]∧Keep H H' by obtain⟨v,H',hc,rfl,k⟩:=h;exact⟨H',hc,k⟩
 obtain⟨H3,st3,k3,q3,n3⟩:=Qz (H:=H) (sz:=1) (zs:=[.int .i64 0]) sGive rfl (v:= .agg #[.int .i64 70]) (ws:=[.int .i64 70]) rfl rfl rfl;have ld2:Ys Tryz.prog H3 23 (.pointer (some ⟨H.n,0,none⟩))=some (.int .i64 70):=Yt aErr (AH.cells_rw' q3 (by decide)) rfl;refine Zj 26 (by decide) (by decide) Tryz.func86 rfl rfl ?_;apply Zb;intro b1 hb1;apply Za;simp;subst hb1;apply Zb;intro b1 hb1;apply Zb;intro b2 hb2;apply Za;simp[-Xv,eqGive];subst hb2;refine Zc (t:=false) (by simp) ?_;apply Zi;subst hb1;apply Zb;intro b1 hb1;apply Za;simp[asGive,zGive,Value.cells,st3];subst hb1;apply Zb;intro b1 hb1;apply Zb;intro b2 hb2;apply Za;simp;subst hb2;refine Zc (t:=false) (by simp) ?_;apply Zi;subst hb1;apply Zb;intro b1 hb1;apply Za;simp;subst hb1;apply Zb;intro b1 hb1;apply W_memF (by kernel_rfl);simp[Kh,Jh,Ua,Ki,St.put,putSt,faGive,ld2,show Nat.blt 23 26=true from rfl,show Nat.blt 24 26=true from rfl,show Nat.blt 25 26=true from rfl,show Nat.blt 6 26=true from rfl,show Nat.blt 7 26=true from rfl];subst hb1;apply Zm;simp;exact k3
theorem compare1_bad{b2 b3:Nat}{c e:Int}{K:AH→Prop}(hq:H.blk b2= .rw 1 [.int .i64 c])(he:H.blk b3= .rw 1 [.int .i64 e])(h2:b2<H.n)(h3:b3<H.n)(hlt:b2<b3)(hK: ∀H',KAt b2 H H'→H'.blk b2= .rw 1 [.int .i64 0]→H'.blk b3= .rw 1 [.int .i64 70]→K H'):CWD Tryz.prog Zo 121 [.pointer (some ⟨b2,0,none⟩),.pointer (some ⟨b3,0,none⟩)] giveV H K:=by
 obtain⟨E1,c1,kE1⟩:=caughtI_bad c e H.top;obtain⟨G1,hG1⟩: ∃G1,G1=grown H E1:=⟨_,rfl⟩;have kG1:Keep H G1:=by rw[hG1];exact Zw (.refl H) kE1
 have nE1:H.n≤E1.n:=kE1.n;have nG1:=kG1.n;have r2:G1.blk b2= .rw 1 [.int .i64 c]:=by rw[kG1.blk _ h2];exact hq
 have r3:G1.blk b3= .rw 1 [.int .i64 e]:=by rw[kG1.blk _ h3];exact he
 obtain⟨S1,st1,sn1,slw1,fn1,fb1,fo1,fk1⟩:=Fc (v:= .int .i64 0) (ws:=[.int .i64 0]) sInt r2 (by omega) rfl rfl rfl rfl;obtain⟨F1,hF1⟩: ∃F1,F1=low G1 S1:=⟨_,rfl⟩;rw[←hF1]at fn1 fb1 fo1 fk1;have r3':F1.blk b3= .rw 1 [.int .i64 e]:=by rw[fo1 _ (by omega)];exact r3
 obtain⟨S2,st2,sn2,slw2,fn2,fb2,fo2,fk2⟩:=Fc (v:= .int .i64 70) (ws:=[.int .i64 70]) sErr r3' (by omega) rfl rfl rfl rfl;obtain⟨F,hF⟩: ∃F,F=low F1 S2:=⟨_,rfl⟩;rw[←hF]at fn2 fb2 fo2 fk2;have l1:=El (H:=H.top) hq;have l2:Ys Tryz.prog H.top 23 (.pointer (some ⟨b3,0,none⟩))=some (.int .i64 e):=Yt aErr (AH.cells_rw' (H:=H.top) he (by decide)) rfl;refine Vk 9 Tryz.func121 rfl rfl ?_;apply Vl (by kernel_rfl);apply Qm (by kernel_rfl);simp[Vr,isRec,plainGive,-plain];refine Yd (v:= .int .i64 c) rfl rfl rfl (by rw[Zk rfl];simp[l1]) ?_;simp;refine Yd (v:= .int .i64 e) rfl rfl rfl (by rw[Zk rfl];simp[l2]) ?_;simp;refine Yv (v:= .tuple #[.int .i64 0,.int .i64 70]) (H2:=E1) rfl rfl rfl (by rw[Zk rfl];simp[c1]) nE1 (Yx kE1) ?_;rw[←hG1];generalize hms:cond (Nat.blt H.n E1.n) _ _=ms;have hms1:=Gr hms;simp;refine Xk (v:= .tuple #[]) (H2:=S1) rfl rfl (by kernel_rfl) (Xb fun x hx=>by rw[(hms1 x hx).1];kernel_rfl) ?_ (by omega) slw1 ?_;·show Yk _ _ _ _ G1.top _=_;simp[st1]
 rw[show({ n:=S1.n,lw:=min G1.lw S1.lw,t:=S1.t } :AH)=F1 from hF1.symm];rw[show Nat.blt G1.n S1.n=false from by rw[sn1];exact Qj _,cond_false];simp;refine Xk (v:= .tuple #[]) (H2:=S2) rfl rfl (by kernel_rfl) (Xb fun x hx=>by rw[(hms1 x hx).1];kernel_rfl) ?_ (by omega) slw2 ?_;·show Yk _ _ _ _ F1.top _=_;simp[st2]
 rw[show({ n:=S2.n,lw:=min F1.lw S2.lw,t:=S2.t } :AH)=F from hF.symm];simp;exact hK F (fun H0 k hn=>fk2 H0 (fk1 H0 (k.trans kG1) hn) (by omega)) ((fo2 _ (by omega)).trans fb1) fb2
theorem Bp{p q r:Value}(ht:Fl p q r)(H:AH): ∃H',Zq Tryz.prog Zo 80 [.agg #[.bool false,.slice none 0 0,.slice none 0 0],.agg #[p,q,r]] H=some (.tuple #[.int .i64 0,.int .i64 70],H')∧Keep H H':=by
 suffices hs:CW Tryz.prog Zo 80 [.agg #[.bool false,.slice none 0 0,.slice none 0 0],.agg #[p,q,r]] H fun v H'=>v= .tuple #[.int .i64 0,.int .i64 70]∧Keep H H' by obtain⟨v,H',hc,rfl,k⟩:=hs;exact⟨H',hc,k⟩
 obtain⟨⟨t,rfl⟩,⟨a1,l1,c1,rfl⟩,⟨a2,l2,c2,rfl⟩⟩:=ht;obtain⟨H2,e2,k2,n2,q0,q1,q2,q3⟩:=Za8 H [.bool false,.slice none 0 0,.slice none 0 0] [.bool t,.slice a1 l1 c1,.slice a2 l2 c2] [.int .i64 0] [.int .i64 0];obtain⟨H3,hH3⟩: ∃H3,H3=H2.new 3 [.bool false,.slice none 0 0,.slice none 0 0,.bool t,.slice a1 l1 c1,.slice a2 l2 c2]:=⟨_,rfl⟩;have k3:Keep H2 H3:=by rw[hH3];exact Keep.new _ _ _
 have n3:H3.n=H2.n+1:=by rw[hH3];rfl
 have b3:H3.blk H2.n= .rw 3 [.bool false,.slice none 0 0,.slice none 0 0,.bool t,.slice a1 l1 c1,.slice a2 l2 c2]:=by rw[hH3,AH.blk_new,if_pos rfl]
 obtain⟨o,H4,hc4,rfl,k4⟩:=looked_bad (H:=H3) (b:=H2.n) (m:=2) (fun H' k=>Zc5 (AH.cells_rw' ((k.blk _ (by omega)).trans b3) (by decide)) rfl rfl) (by decide);have c4:=callI_no hc4;have p4:=Zh0 hc4;have n4:=k4.n;have q2':=(k4.blk _ (by omega)).trans ((k3.blk _ (by omega)).trans q2);have q3':=(k4.blk _ (by omega)).trans ((k3.blk _ (by omega)).trans q3);refine Vu 40 (by decide) (by decide) Tryz.func80 rfl rfl rfl ?_;intro b1 hb1;apply Za;simp[Value.cells,zInt,zErr,Jt,e2];refine⟨_,_,⟨rfl,rfl⟩,?_⟩;subst hb1;apply Zb;intro b1 hb1;apply W_rpan;simp[Xu q0,Xu q1,Zd9,←hH3,c4,p4,Xo,Kk,plainGive,-plain];refine⟨giveV,by rfl,?_⟩;refine compare1_bad q2' q3' (by omega) (by omega) (by omega) fun H6 ka6 q6 q7=>?_;simp[El q6,Ek q7];first|exact ka6 H ((k2.trans k3).trans k4) (by omega)|exact⟨_,rfl,ka6 H ((k2.trans k3).trans k4) (by omega),rfl⟩
theorem cmpQ_same(s:Bool)(A B:Nat):cmpQ s A B s A B=0:=by
 unfold cmpQ;rw[if_neg (fun h=>h rfl)];have:Vn (A*B) (A*B)=0:=by unfold Vn;simp
 rw[this,Int.mul_zero]
theorem same_call{us ws:List Value}{f:FD}(h:FIn H us f)(h':FIn H ws f)(hf:f.fit): ∃H',Zq Tryz.prog Zo 47 [.agg us.toArray,.agg ws.toArray] H=some (.bool true,H')∧Keep H H':=by
 suffices hs:CW Tryz.prog Zo 47 [.agg us.toArray,.agg ws.toArray] H fun v H'=>v= .bool true∧Keep H H' by obtain⟨v,H',hc,rfl,k⟩:=hs;exact⟨H',hc,k⟩
 have hh:=h;have hh':=h';obtain⟨p,q,r,rfl,ht⟩:=h.trio;obtain⟨p',q',r',rfl,ht'⟩:=h'.trio;obtain⟨H2,e2,k2,n2,q0,q1⟩:=Qy H [.int .i64 f.kind,p,q,r] [.int .i64 f.kind,p',q',r'];have gn:Zd .neq .i64 f.kind f.kind=some (.bool false):=by rw[Eo,decide_eq_false (by omega)]
 have hcmp: ∃e H3,Zq Tryz.prog Zo 80 [.agg #[p,q,r],.agg #[p',q',r']] H2=some (.tuple #[.int .i64 0,.int .i64 e],H3)∧Keep H2 H3∧(f.isRat=true→e=0):=by cases f with|rat s A B=>obtain⟨_,_,e,h1,h2,hl⟩:=hh;obtain⟨_,_,e',h3,h4,_⟩:=hh';cases e;cases e';obtain⟨H3,c3,k3⟩:=Kj s s (h1.keep k2) (h2.keep k2) (h3.keep k2) (h4.keep k2) hf.1 hf.2 hf.1 hf.2 hl.2 hl.2;rw[cmpQ_same]at c3;exact⟨0,H3,c3,k3,fun _=>rfl⟩|opn=>cases hh;cases hh';obtain⟨H3,c3,k3⟩:=Bp (p:= .bool false) (q:= .slice none 0 0) (r:= .slice none 0 0) ⟨⟨_,rfl⟩,⟨_,_,_,rfl⟩,⟨_,_,_,rfl⟩⟩ H2;exact⟨70,H3,c3,k3,fun h=>by cases h⟩|und=>cases hh;cases hh';obtain⟨H3,c3,k3⟩:=Bp (p:= .bool false) (q:= .slice none 0 0) (r:= .slice none 0 0) ⟨⟨_,rfl⟩,⟨_,_,_,rfl⟩,⟨_,_,_,rfl⟩⟩ H2;exact⟨70,H3,c3,k3,fun h=>by cases h⟩
 obtain⟨e,H3,c3,k3,he⟩:=hcmp;have r0:=(k3.blk _ (by omega)).trans q0;refine Zj 32 (by decide) (by decide) Tryz.func47 rfl rfl ?_;apply Zb;intro b1 hb1;apply Za;simp[Value.cells,Jt,e2];subst hb1;apply Zb;intro b1 hb1;apply Zb;intro b2 hb2;apply Za;simp[faF0,Gq q0,Gq q1,gn];subst hb2;refine Zc (t:=false) (by simp) ?_;apply Zi;subst hb1;apply Zb;intro b1 hb1;apply Za;simp[faF1,Zc3 q0,Zc3 q1,c3];subst hb1;cases hr:f.isRat with
  |true=>
   have:=he hr;subst this;have g1:Zd .neq .i64 f.kind 1=some (.bool false):=by cases f<;>first|rfl|cases hr
   apply Zb;intro b1 hb1;apply Za;simp[faF0,Gq r0,g1,Gl,show Zd .eql .i64 0 0=some (.bool true)from rfl];subst hb1;apply Zm;simp;exact k2.trans k3
  |false=>
   have g1:Zd .neq .i64 f.kind 1=some (.bool true):=by cases f<;>first|rfl|cases hr
   apply Zb;intro b1 hb1;apply Za;simp[faF0,Gq r0,g1];subst hb1;apply Zm;simp;exact k2.trans k3
end
end
def ratT(s:Bool)(A B:Nat):ET:= .node 0 s (ds B64 A) (ds B64 B) []
theorem ratT_fold{s:Bool}{A B:Nat}(h:Low s A B):(ratT s A B).fold= .rat s A B:=by show(if(Xq []).any FD.isUnd=true then FD.und else Qv 0 s (dv B64 (ds B64 A)) (dv B64 (ds B64 B)) (Xq []))=_;rw[Xx Yf,Xx Yf];show FD.mk (Yq s A B)=_;rw[h.1];rfl
theorem ratT_good{s:Bool}{A B:Nat}(h:0<B):(ratT s A B).allGood=true:=by simp[ratT,ET.allGood,Ju,ET.good,Xx Yf,h,arity]
theorem ds_len64(X:Nat):64*(ds B64 X).length≤Zf X+63:=by have h:(ds B64 X).length≤(Zf X+63)/64:=Jr Yf (by have h1:=Vx X;have h2:2^Zf X≤2^(64*((Zf X+63)/64)):=Nat.pow_le_pow_right (by decide) (by omega);rw[Nat.pow_mul]at h2;exact Nat.lt_of_lt_of_le h1 h2);omega
theorem kind_rat{f:FD} :f.kind=1↔ ∃s A B,f= .rat s A B:=by cases f<;>simp[FD.kind]
section
attribute [-simp] Int.natCast_add Int.natCast_mul Int.natCast_ediv Int.natCast_emod Int.natCast_pow
attribute [local simp] strip Ye LW' LR gW Yk Xc Zz Xd Yn Xe Zr Zs Zg Yo Yz Yj Xi Zv Yp Zh Ze Xh Xg Qu Ya Xa opd Qd Yl plain Yg Tr.get_set Qb Zp Xv Yc sameKind undef Zu Yr Yw Zn Yb parts unV DW Xl Zy LX Zx
attribute [local simp] Qc Qo Gb top_nn
section
variable {H : AH} {vs1 vs2 : List Value} {t pt : ET}
set_option maxHeartbeats 1000000 in theorem Zk3(h:TreeIn H vs1 t)(hp:TreeIn H vs2 pt)(hwt:t.wt+pt.wt+64≤67108864)(z:Int):CW Tryz.prog Zo 11 [.agg vs1.toArray,.agg vs2.toArray,.int .i64 z] H fun v H'=>v= .bool true∧Keep H H':=by
 have hl:=h.ex.len;have hpl:=hp.ex.len;have aw: ∀G,Keep H G→ ∃G',Zq Tryz.prog Zo 14 [] G=some (.bool true,G')∧Keep H G':=fun G k=>by obtain⟨G',c,k'⟩:=awake_call (h.rows.keep k);exact⟨G',c,k.trans k'⟩
 obtain⟨H2,e2,k2,n2,q0,q1⟩:=Qy H vs1 vs2;have K:=k2;have z0:=q0;obtain⟨b,H3,c3,k3⟩:=great_call (h.ex.keep K) h.nodes;have n3:=k3.n;have K:=K.trans k3;replace q0:=(k3.blk _ (by omega)).trans q0;replace q1:=(k3.blk _ (by omega)).trans q1;have z1:=q1;refine Zj 89 (by decide) (by decide) Tryz.func11 rfl rfl ?_;apply Zb;intro b1 hb1;apply Za;simp[Value.cells,Jt,e2];subst hb1;apply Zb;intro b1 hb1;apply Zb;intro b2 hb2;cases b with
  |true=>obtain⟨G,cG,kG⟩:=aw H3 K;apply Za;simp[Vd z0 hl,c3];subst hb2;refine Zc (t:=true) (by simp) ?_;apply Zb;intro b2 hb2;apply Za;simp[cG];subst hb2;apply Zm;simp[Xo];exact kG
  |false=>obtain⟨b,H4,c4,k4⟩:=great_call (hp.ex.keep K) hp.nodes;have n4:=k4.n;have K:=K.trans k4;replace q0:=(k4.blk _ (by omega)).trans q0;replace q1:=(k4.blk _ (by omega)).trans q1;cases b with
   |true=>obtain⟨G,cG,kG⟩:=aw H4 K;apply Za;simp[Vd z0 hl,c3,Vd z1 hpl,c4];subst hb2;refine Zc (t:=true) (by simp) ?_;apply Zb;intro b2 hb2;apply Za;simp[cG];subst hb2;apply Zm;simp[Xo];exact kG
   |false=>
    apply Za;simp[Vd z0 hl,c3,Vd z1 hpl,c4];subst hb2;refine Zc (t:=false) (by simp) ?_;apply Zi;subst hb1;have y1:=q1;obtain⟨fs,e,H5,c5,k5,hf5⟩:=fold_any (hp.keep K) (by omega);have n5:=k5.n;have K:=K.trans k5;replace q0:=(k5.blk _ (by omega)).trans q0;replace q1:=(k5.blk _ (by omega)).trans q1;obtain⟨kf,p,q,r,rfl,ht,hf⟩:=hf5.four;obtain⟨H6,st6,k6,q6,n6⟩:=newFv (H:=H5) (vs:=[.int .i64 kf,p,q,r]) rfl hf5.2.1;have K:=K.trans k6;replace q0:=(k6.blk _ (by omega)).trans q0;replace q1:=(k6.blk _ (by omega)).trans q1;have y6:=q6;apply Zb;intro b1 hb1;apply Za;simp[Vd y1 hpl,c5,Jp,Value.cells,st6];subst hb1;apply Zb;intro b1 hb1;apply Zb;intro b2 hb2;by_cases he:e=0∧kf=1;case neg=>
     obtain⟨G,cG,kG⟩:=aw H6 K;by_cases he0:e=0;·have hk2:kf≠1:=fun x=>he ⟨he0,x⟩;subst he0;apply Za;simp[Gl,En,faF0,Gq q6,Eo];subst hb2;refine Zc (t:=true) (by simp[hk2]) ?_;apply Zb;intro b2 hb2;apply Za;simp[cG];subst hb2;apply Zm;simp[Xo];exact kG
     ·have g:Zd .neq .i64 e 0=some (.bool true):=by rw[Eo,decide_eq_true he0]
      apply Za;simp[Gl,g];subst hb2;refine Zc (t:=true) (by simp) ?_;apply Zb;intro b2 hb2;apply Za;simp[cG];subst hb2;apply Zm;simp[Xo];exact kG
    obtain⟨rfl,rfl⟩:=he;obtain⟨hcp,hkp,hfi⟩:=hf rfl;obtain⟨s,A,B,hrat⟩:=kind_rat.1 hkp.symm;have hpg:=(Ud hcp).1;have hpok:=Zk5 _ pt (Nat.le_refl _) hpg hp.wide;rw[hrat]at hfi hpok;obtain⟨p2,q2,e,sp,sq,hlow⟩:=hfi;cases e;have hwp:max (Zf A) (Zf B)+1≤pt.wt:=hpok.2;apply Za;simp[Gl,En,faF0,Gq q6,show Zd .neq .i64 1 1=some (.bool false)from rfl];subst hb2;refine Zc (t:=false) (by simp) ?_;apply Zi;subst hb1;have y0:=q0;have y1:=q1;obtain⟨us,e,H7,c7,k7,hput⟩:=put_call (h.keep K) (hp.keep K) z;have n7:=k7.n;have K:=K.trans k7;replace q0:=(k7.blk _ (by omega)).trans q0;replace q1:=(k7.blk _ (by omega)).trans q1;replace q6:=(k7.blk _ (by omega)).trans q6;obtain⟨hul,huo,hput⟩:=hput;obtain⟨H8,st8,k8,q8,n8⟩:=newX (H:=H7) hul huo;have K:=K.trans k8;replace q0:=(k8.blk _ (by omega)).trans q0;replace q1:=(k8.blk _ (by omega)).trans q1;replace q6:=(k8.blk _ (by omega)).trans q6;apply Zb;intro b1 hb1;apply Za;simp[Vd y0 hl,Vd y1 hpl,c7,Cx,Value.cells,st8];subst hb1;have y0:=q0;have y6:=q6;have lA:=ds_len64 A;have lB:=ds_len64 B;have hN:TreeIn H8 [.int .i64 0,.bool s,q,r,.slice none 0 0] (ratT s A B):=⟨.mk (sp.keep ((k6.trans k7).trans k8)) (sq.keep ((k6.trans k7).trans k8)) .nil,h.rows.keep K,⟨by omega,by omega,Xj Yf _,Xj Yf _,trivial⟩,by show 1+0≤_;decide⟩;obtain⟨ws,e2',H9,c9,k9,hput2⟩:=put_call (h.keep K) hN z;have n9:=k9.n;have K:=K.trans k9;replace q0:=(k9.blk _ (by omega)).trans q0;replace q1:=(k9.blk _ (by omega)).trans q1;replace q6:=(k9.blk _ (by omega)).trans q6;replace q8:=(k9.blk _ (by omega)).trans q8;replace c9:Zq Tryz.prog Zo 46 [.agg vs1.toArray,.int .i64 z,.agg #[.int .i64 0,.bool s,q,r,.slice none 0 0]] H8=some (.tuple #[.agg ws.toArray,.int .i64 e2'],H9):=c9;obtain⟨hwl,hwo,hput2⟩:=hput2;obtain⟨H10,st10,k10,q10,n10⟩:=newX (H:=H9) hwl hwo;have K:=K.trans k10;replace q0:=(k10.blk _ (by omega)).trans q0;replace q1:=(k10.blk _ (by omega)).trans q1;replace q6:=(k10.blk _ (by omega)).trans q6;replace q8:=(k10.blk _ (by omega)).trans q8;have y8:=q8;have y10:=q10;apply Zb;intro b1 hb1;apply Za;simp[Vd y0 hl,faF1,Zc3 y6,bXnum (x:=s) sp.shape sq.shape,c9,Cx,Value.cells,st10];subst hb1;apply Zb;intro b1 hb1;apply Zb;intro b2 hb2;by_cases he:e=0∧e2'=0;case neg=>
     obtain⟨G,cG,kG⟩:=aw H10 K;by_cases he0:e=0
     ·have h2:e2'≠0:=fun x=>he ⟨he0,x⟩;have g:Zd .neq .i64 e2' 0=some (.bool true):=by rw[Eo,decide_eq_true h2]
      subst he0;apply Za;simp[Gl,En,g];subst hb2;refine Zc (t:=true) (by simp) ?_;apply Zb;intro b2 hb2;apply Za;simp[cG];subst hb2;apply Zm;simp[Xo];exact kG
     ·have g:Zd .neq .i64 e 0=some (.bool true):=by rw[Eo,decide_eq_true he0]
      apply Za;simp[Gl,g];subst hb2;refine Zc (t:=true) (by simp) ?_;apply Zb;intro b2 hb2;apply Za;simp[cG];subst hb2;apply Zm;simp[Xo];exact kG
    obtain⟨rfl,rfl⟩:=he;obtain⟨hct,_,hz0,hzn,hT,hcT⟩:=hput rfl;obtain⟨_,_,_,_,hT2,hcT2⟩:=hput2 rfl;apply Za;simp[Gl,En];subst hb2;refine Zc (t:=false) (by simp) ?_;apply Zi;subst hb1;have hg:=(Ud hct).1;have htw:=Du t hg h.wide;have hpw:=Du pt hpg hp.wide;have hpu:=Zl9 hpw.1 t.twin z.toNat htw.1;have hng:(ratT s A B).allGood=true:=ratT_good hlow.2;have hnw:=Du (ratT s A B) hng hN.wide;have hnu:=Zl9 hnw.1 t.twin z.toNat htw.1;have hnwt:(ratT s A B).wt=max (64*(ds B64 A).length) (64*(ds B64 B).length)+1+0:=rfl;have hsame:(plaT pt.twin t.twin z.toNat).fold=(plaT (ratT s A B).twin t.twin z.toNat).fold:=put_same (by rw[Zo0 pt hpg,Zo0 _ hng,ratT_fold hlow,hrat]) _ _;obtain⟨T1,hT1⟩: ∃T1,T1=plaT pt.twin t.twin z.toNat:=⟨_,rfl⟩;obtain⟨T2,hT2e⟩: ∃T2,T2=plaT (ratT s A B).twin t.twin z.toNat:=⟨_,rfl⟩;rw[←hT1]at hT hcT hpu hsame;rw[←hT2e]at hT2 hcT2 hnu hsame;have hg1:=(Ud hcT).1;have hfit:=FD.fit_of (Nat.le_trans (Zk5 _ T1 (Nat.le_refl _) hg1 hpu.1).2 (by omega));have kT:=(k8.trans k9).trans k10;obtain⟨gs,H11,c11,k11,hf11⟩:=Eh ⟨hT.keep kT,hg1,by omega⟩ hcT;have n11:=k11.n;have K:=K.trans k11;replace q0:=(k11.blk _ (by omega)).trans q0;replace q1:=(k11.blk _ (by omega)).trans q1;replace q6:=(k11.blk _ (by omega)).trans q6;replace q8:=(k11.blk _ (by omega)).trans q8;replace q10:=(k11.blk _ (by omega)).trans q10;have g11l:=hf11.len;have g11o:=hf11.ones;obtain⟨H12,st12,k12,q12,n12⟩:=newFv (H:=H11) g11l g11o;have K:=K.trans k12;replace q0:=(k12.blk _ (by omega)).trans q0;replace q1:=(k12.blk _ (by omega)).trans q1;replace q6:=(k12.blk _ (by omega)).trans q6;replace q8:=(k12.blk _ (by omega)).trans q8;replace q10:=(k12.blk _ (by omega)).trans q10;have y12:=q10;obtain⟨gs2,H13,c13,k13,hf13⟩:=Eh ⟨hT2.keep ((k10.trans k11).trans k12),(Ud hcT2).1,by omega⟩ hcT2;have n13:=k13.n;have K:=K.trans k13;replace q0:=(k13.blk _ (by omega)).trans q0;replace q1:=(k13.blk _ (by omega)).trans q1;replace q6:=(k13.blk _ (by omega)).trans q6;replace q8:=(k13.blk _ (by omega)).trans q8;replace q10:=(k13.blk _ (by omega)).trans q10;replace q12:=(k13.blk _ (by omega)).trans q12;rw[←hsame]at hf13;have g13l:=hf13.len;have g13o:=hf13.ones;obtain⟨H14,st14,k14,q14,n14⟩:=newFv (H:=H13) g13l g13o;have K:=K.trans k14;replace q0:=(k14.blk _ (by omega)).trans q0;replace q1:=(k14.blk _ (by omega)).trans q1;replace q6:=(k14.blk _ (by omega)).trans q6;replace q8:=(k14.blk _ (by omega)).trans q8;replace q10:=(k14.blk _ (by omega)).trans q10;replace q12:=(k14.blk _ (by omega)).trans q12;have w12:=q12;have w14:=q14;obtain⟨H15,c15,k15⟩:=same_call (hf11.fr (((k12.trans k13).trans k14)).fr) (hf13.fr k14.fr) hfit;have n15:=k15.n;have K:=K.trans k15;replace q0:=(k15.blk _ (by omega)).trans q0;replace q1:=(k15.blk _ (by omega)).trans q1;replace q6:=(k15.blk _ (by omega)).trans q6;replace q8:=(k15.blk _ (by omega)).trans q8;replace q10:=(k15.blk _ (by omega)).trans q10;replace q12:=(k15.blk _ (by omega)).trans q12;replace q14:=(k15.blk _ (by omega)).trans q14;obtain⟨G,cG,kG⟩:=aw H15 K;apply Zb;intro b1 hb1;apply Za;simp[Vd y8 hul,c11,Jp,Value.cells,st12];subst hb1;apply Zb;intro b1 hb1;apply Za;simp[Vd y12 hwl,c13,Jp,Value.cells,st14];subst hb1;apply Zb;intro b1 hb1;apply Za;simp[Gl,show Zd .eql .i64 0 0=some (.bool true)from rfl,Je w12 g11l,Je w14 g13l,c15,cG];subst hb1;apply Zm;simp;exact kG
end
end
end
end Go.Proofs.YtmkfecoeghokfaaGreatDoor
namespace Go.Proofs.YtmkfecoeghokfaaGreatDoor
open Go.ChangeShapes Go.WideShapes Go.ChangeAt Go.RowKit Go.Proofs.YtmkfecoeghokfaaGreatDoor.Ev
set_option linter.unusedVariables false
set_option maxHeartbeats 1000000
theorem laidOut:laidOutB Tryz.prog=true:=by kernel_rfl
theorem args_kept{P:Program}(hl:laidOutB P=true){H:Type}{enc:TypeId×Value→H}{W W':World}(hb:Below W.heap.size W W'): ∀(ts:List TypeId)(vs:List Value)(ds:List (DataW H))(ps:List MemPlace),(ts.all fun t=>P.readableRec t&&decide (t<P.types.size))=true→DataW.TrodAll enc P W 0 (fun _=>true) true ts vs ds ps→(∀x∈ps,x.block<W.heap.size)→DataW.TrodAll enc P W' 0 (fun b=>decide (b<W.heap.size)) true ts vs ds ps|[],[],[],_,_,h,_=>h|t::ts,v::vs,d::ds,_,ht,⟨p,q,h1,h2,e⟩,hlt=>by subst e;rw[List.all_cons,Bool.and_eq_true,Bool.and_eq_true]at ht;exact⟨p,q,Below.trod hl ht.1.1 (of_decide_eq_true ht.1.2) h1 hb (fun x hx=>hlt x (List.mem_append_left _ hx)),args_kept hl hb ts vs ds q ht.2 h2 (fun x hx=>hlt x (List.mem_append_right _ hx)),rfl⟩
end Go.Proofs.YtmkfecoeghokfaaGreatDoor
namespace Go.Proofs.YtmkfecoeghokfaaGreatDoor
open Go Go.ChangeShapes Go.WideShapes Go.RowKit Go.Proofs.YtmkfecoeghokfaaGreatDoor.Ev
set_option linter.unusedVariables false
noncomputable section
set_option maxRecDepth 20000
set_option maxHeartbeats 1000000
theorem bulk_one{H:Type}(d:DataW H):1≤Rows.uptoBulk d:=by cases d with|lit l=>cases l<;>simp[Rows.uptoBulk]|nil=>simp[Rows.uptoBulk]|ptr d=>simp[Rows.uptoBulk]|slice elems spare=>simp[Rows.uptoBulk]|agg parts=>simp[Rows.uptoBulk]|iface t d=>simp[Rows.uptoBulk]|map entries=>simp[Rows.uptoBulk]|held h=>simp[Rows.uptoBulk]
theorem bulk_len{H:Type}(l:List (DataW H)):l.length≤Rows.uptoBulkAll l:=by induction l with|nil=>simp[Rows.uptoBulkAll]|cons x r ih=>have:=bulk_one x;simp only[Rows.uptoBulkAll,List.length_cons];omega
theorem bulk_slice{H:Type}(elems spare:List (DataW H)):elems.length≤Rows.uptoBulk (.slice elems spare):=by have h1:=bulk_len elems;simp only[Rows.uptoBulk];omega
theorem bulk_part{H:Type}{d:DataW H}{l:List (DataW H)}(h:d∈l):Rows.uptoBulk d≤Rows.uptoBulkAll l:=by induction l with
 |nil=>cases h
 |cons x r ih=>simp only[Rows.uptoBulkAll];cases List.mem_cons.1 h with|inl e=>subst e;omega|inr e=>have:=ih e;omega
theorem bulk_bound{H:Type}{l:List (DataW H)}(hk:Rows.uptoSmall H l=true):Rows.uptoBulkAll l≤1048576:=of_decide_eq_true hk
def ArgIs(W:World)(v:Value)(xs:List Nat):Prop:=(v= .slice none 0 0∧xs=[])∨ ∃(a:Addr) (cap:Nat),v= .slice (some a) xs.length cap∧xs.length≤cap∧ ∀(i x:Nat),xs[i]?=some x→W.cell? (a.add i)=some (.int .u64 (x:Int))
theorem cU64:Tryz.prog.cellsOf 101=1:=by kernel_rfl
theorem add_arg{W:World}{S:Nat→Prop}{L:Nat→Ev.Loc}{H:AH}(hI:Inv W.heap.size S L H W){v:Value}{xs:List Nat}(h:ArgIs W v xs): ∃(S':Nat→Prop) (L':Nat→Ev.Loc) (H':AH) (v0:Value),Inv W.heap.size S' L' H' W∧(∀i,S i→S' i)∧(∀i,S i→L' i=L i)∧VR S' L' v0 v∧Sl H' v0 xs∧Keep H H':=by
 rcases h with⟨rfl,rfl⟩|⟨a,cap,rfl,hcap,hc⟩;·exact⟨S,L,H,.slice none 0 0,hI,fun _ h=>h,fun _ _=>rfl,.nilSlice,.nil,.refl H⟩
 ·by_cases h0:xs.length=0;·obtain rfl:xs=[]:=List.length_eq_zero_iff.mp h0;exact⟨S,L,H,_,hI,fun _ h=>h,fun _ _=>rfl,.emp 0 a cap,.emp 0,.refl H⟩
  ·have hx0:=hc 0 xs[0] (List.getElem?_eq_getElem (by omega));have ea:a.add 0=a:=rfl;rw[ea]at hx0;have hspot:a.spot=none:=by unfold World.cell? at hx0;cases hs:a.spot with
    |none=>rfl
    |some q=>
     rw[hs]at hx0;split at hx0;·simp at hx0
     ·cases hx0
   have hblk:a.block<W.heap.size:=World.block_lt_of_cell? W a hx0;have hadd: ∀k,a.add k=⟨a.block,a.off+k,none⟩:=fun k=>by
    unfold Addr.add;by_cases hk:k=0;·subst hk;rw[if_pos rfl];cases a with|mk b o s=>simp at hspot;subst hspot;rfl
    ·rw[if_neg hk]
   have hn: ∀i,S i→i≠H.n:=fun i hi e=>by have:=hI.bd i hi;omega
   let L':Nat→Ev.Loc:=fun i=>if i=H.n then⟨a.block,a.off,1,a.off+cap⟩else L i;let S':Nat→Prop:=fun i=>i=H.n∨S i;have hL: ∀i,S i→L' i=L i:=fun i hi=>if_neg (hn i hi);have hLn:L' H.n=⟨a.block,a.off,1,a.off+cap⟩:=if_pos rfl;let H':AH:= { n:=H.n+1,lw:=H.lw,t:=H.t.set H.n (.ro 1 (xs.map fun x:Nat=>Value.int .u64 (x:Int))) };have hb: ∀j,H'.blk j=if j=H.n then .ro 1 (xs.map fun x:Nat=>Value.int .u64 (x:Int))else H.blk j:=fun j=>by
    show(match(H.t.set H.n _).get j with|some b=>b|none=>Blk.dead)=_;rw[Tr.get_set];by_cases e:j=H.n;·rw[if_pos e,if_pos e]
    ·rw[if_neg e,if_neg e];rfl
   refine⟨S',L',H',.slice (some ⟨H.n,0,none⟩) xs.length xs.length,⟨?_,?_,?_,?_,hI.base⟩,fun i hi=> .inr hi,hL,?_,?_,?_⟩
   ·intro i sz cs hi;rw[hb]at hi;by_cases e:i=H.n;·rw[if_pos e]at hi;cases hi;subst e;rw[hLn];refine⟨.inl rfl,hblk,rfl,fun k v hk=>?_⟩;rw[List.getElem?_map]at hk;cases hxk:xs[k]? with|none=>rw[hxk]at hk;cases hk|some x=>rw[hxk]at hk;cases hk;refine⟨.int .u64 (x:Int),?_,.int _ _⟩;have:=hc k x hxk;rwa[hadd k]at this
    ·rw[if_neg e]at hi;obtain⟨h1,h2,h3,h4⟩:=hI.ro i sz cs hi;rw[hL i h1];refine⟨.inr h1,h2,h3,fun k v hk=>?_⟩;obtain⟨v',h5,h6⟩:=h4 k v hk;exact⟨v',h5,h6.mono (fun _ h=> .inr h) hL⟩
   ·intro i sz cs hi;rw[hb]at hi;by_cases e:i=H.n;·rw[if_pos e]at hi;cases hi
    ·rw[if_neg e]at hi;obtain⟨h1,h2,h3,C,e',h4,h5,h6⟩:=hI.rw i sz cs hi;rw[hL i h1];refine⟨.inr h1,h2,h3,C,e',h4,h5,fun k v hk=>?_⟩;obtain⟨v',h7,h8⟩:=h6 k v hk;exact⟨v',h7,h8.mono (fun _ h=> .inr h) hL⟩
   ·intro i j sz cs sz' cs' hi hj hg;rw[hb]at hi hj;by_cases e:i=H.n;·rw[if_pos e]at hi;cases hi
    ·by_cases e2:j=H.n;·rw[if_pos e2]at hj;cases hj
     ·rw[if_neg e]at hi;rw[if_neg e2]at hj;rw[hL i (hI.rw i _ _ hi).1,hL j (hI.rw j _ _ hj).1]at hg;exact hI.dj i j _ _ _ _ hi hj hg
   ·intro i hi;rcases hi with hi|hi;·subst hi;exact Nat.lt_succ_self _
    ·exact Nat.lt_succ_of_lt (hI.bd i hi)
   ·have hv:=VR.slice (S:=S') (L:=L') H.n 0 xs.length xs.length cap (.inl rfl) hcap (Nat.le_refl _) (by rw[hLn];simp);rw[hLn]at hv;have e:(some (⟨a.block,a.off+0,none⟩:Addr))=some a:=by congr 1;cases a with|mk b o s=>simp at hspot;subst hspot;rfl
    rw[e]at hv;exact hv
   ·refine .mk H.n 0 xs.length xs (Nat.le_refl _) ⟨Nat.lt_succ_self _,xs.map fun x:Nat=>Value.int .u64 (x:Int),?_,?_,fun i x hx=>?_,Nat.zero_le _⟩;·unfold AH.cells;rw[hb,if_pos rfl]
    ·unfold AH.size;rw[hb,if_pos rfl]
    ·rw[Nat.zero_add,List.getElem?_map,hx];rfl
   ·exact⟨Nat.le_succ _,Nat.min_le_left _ _,fun j hj=>by rw[hb,if_neg (by omega)]⟩
mutual inductive WEx(W:World):List Value→ET→Prop|mk{op:Int}{neg:Bool}{va vd vx:Value}{abs den:List Nat}{args:List ET} :ArgIs W va abs→ArgIs W vd den→WXs W vx args→WEx W [.int .i64 op,.bool neg,va,vd,vx] (.node op neg abs den args) inductive WXs(W:World):Value→List ET→Prop|nil:WXs W (.slice none 0 0) []|mk(a:Addr)(cap:Nat){args:List ET}(F:Nat→List Value):args.length≤cap→(∀i,i<args.length→W.cells? 0 (a.add (i*5)) 5=some (F i))→(∀(i:Nat)(t:ET),args[i]?=some t→WEx W (F i) t)→WXs W (.slice (some a) args.length cap) args end
instance:Inhabited ET:=⟨.node 0 false [] [] []⟩
theorem Zg1{H:Type}{enc:TypeId×Value→H}{W:World}{t:TypeId}{fuel:Nat}{cs:List Value}{x:DataW H×List MemPlace}(ht:Tryz.prog.underlying t=some (.slice 101))(hf:DataW.trod enc Tryz.prog W 0 (fun _=>true) true fuel t cs=some x): ∃v xs,cs=[v]∧Dig 18446744073709551616 xs∧xs.length≤Rows.uptoBulk x.1∧ArgIs W v xs:=by
 rcases Deep.open_slice1 ht cU64 hf with⟨h1,h2⟩|⟨a',len',cap',m,n,V,D,Pl,h1,_,hl,_,hm,hx,hV⟩;·exact⟨_,[],h1,.nil _,Nat.zero_le _,.inl ⟨rfl,rfl⟩⟩
 ·rw[if_pos rfl]at hm;rw[hm]at hx hV;have hval: ∀i,i<cap'→ ∃x:Nat,V i= .int .u64 (x:Int)∧x<18446744073709551616:=fun i hi=>by
   obtain⟨n',c',x',w'⟩:=DataW.trod_int Tryz.underlying101 (hV i hi).2;simp at c';simp only[Lit.wf,Bool.and_eq_true,decide_eq_true_eq]at w';have e1:IntKind.u64.min=0:=by decide
   have e2:IntKind.u64.max=18446744073709551615:=by decide
   exact⟨n'.toNat,by rw[c'];congr 1;omega,by omega⟩
  let f:Nat→Nat:=fun i=>match V i with| .int _ z=>z.toNat|_=>0;have hfe: ∀i,i<cap'→V i= .int .u64 ((f i:Nat):Int)∧f i<18446744073709551616:=fun i hi=>by
   obtain⟨x,h1,h2⟩:=hval i hi;have:f i=x:=by show(match V i with| .int _ z=>z.toNat|_=>0)=x;rw[h1];simp
   rw[this];exact⟨h1,h2⟩
  refine⟨_,(List.range len').map f,h1,?_,?_,.inr ⟨a',cap',by simp,by simpa using hl,?_⟩⟩;·intro x hx;obtain⟨i,hi,rfl⟩:=List.mem_map.mp hx;exact(hfe i (Nat.lt_of_lt_of_le (List.mem_range.mp hi) hl)).2
  ·rw[hx];have:=bulk_slice ((List.range len').map D) ((List.range (cap'-len')).map fun j=>D (len'+j));simpa using this
  ·intro i x hi;rw[List.getElem?_map]at hi;by_cases hil:i<len';·rw[List.getElem?_range hil]at hi;cases hi;have hic:i<cap':=Nat.lt_of_lt_of_le hil hl;rw[(hV i hic).1,(hfe i hic).1]
   ·rw[List.getElem?_eq_none (by simp;omega)]at hi;cases hi
theorem uExpr: ∃f0 f1 f2,Tryz.prog.underlying 53=some (.struct #[f0,f1,f2])∧f0.type=50∧f0.offset=0∧f1.type=34∧f1.offset=1∧f2.type=51∧f2.offset=4:=⟨_,_,_,Tryz.underlying53,rfl,rfl,rfl,rfl,rfl,rfl⟩
theorem uRatio: ∃f0 f1,Tryz.prog.underlying 34=some (.struct #[f0,f1])∧f0.type=32∧f0.offset=0∧f1.type=30∧f1.offset=2:=⟨_,_,Tryz.underlying34,rfl,rfl,rfl,rfl⟩
theorem uWhole: ∃f0 f1,Tryz.prog.underlying 32=some (.struct #[f0,f1])∧f0.type=4∧f0.offset=0∧f1.type=30∧f1.offset=1:=⟨_,_,Tryz.underlying32,rfl,rfl,rfl,rfl⟩
theorem cExpr:Tryz.prog.cellsOf 53=5:=by kernel_rfl
theorem cRatio:Tryz.prog.cellsOf 34=3:=by kernel_rfl
theorem cWhole:Tryz.prog.cellsOf 32=2:=by kernel_rfl
theorem cNat:Tryz.prog.cellsOf 30=1:=by kernel_rfl
theorem cBool:Tryz.prog.cellsOf 4=1:=by kernel_rfl
theorem cExprs:Tryz.prog.cellsOf 51=1:=by kernel_rfl
theorem Zl5{H:Type}{f:Nat→ET}{D:Nat→DataW H} : ∀(l:List Nat),(∀i∈l,(f i).nodes≤Rows.uptoBulk (D i))→Yi (l.map f)≤Rows.uptoBulkAll (l.map D)|[],_=>Nat.le_refl _|i::l,h=>by have h1:=h i (List.mem_cons_self ..);have h2:=Zl5 l fun j hj=>h j (List.mem_cons_of_mem _ hj);simp only[List.map_cons,Yi,Rows.uptoBulkAll];omega
theorem wtAll_map{H:Type}{f:Nat→ET}{D:Nat→DataW H} : ∀(l:List Nat),(∀i∈l,(f i).wt≤64*Rows.uptoBulk (D i))→Kw (l.map f)≤64*Rows.uptoBulkAll (l.map D)|[],_=>Nat.zero_le _|i::l,h=>by have h1:=h i (List.mem_cons_self ..);have h2:=wtAll_map l fun j hj=>h j (List.mem_cons_of_mem _ hj);simp only[List.map_cons,Kw,Rows.uptoBulkAll];omega
theorem Zq5{f:Nat→ET}{L:Nat} : ∀(l:List Nat),(∀i∈l,(f i).wide L)→Ed L (l.map f)|[],_=>trivial|i::l,h=>⟨h i (List.mem_cons_self ..),Zq5 l fun j hj=>h j (List.mem_cons_of_mem _ hj)⟩
theorem open_tree{H:Type}{enc:TypeId×Value→H}{W:World} : ∀(N:Nat)(d:DataW H),Rows.uptoBulk d≤N→ ∀(fuel:Nat)(cs:List Value)(ps:List MemPlace),DataW.trod enc Tryz.prog W 0 (fun _=>true) true fuel 53 cs=some (d,ps)→ ∃t:ET,WEx W cs t∧(∀L,Rows.uptoBulk d≤L→t.wide L)∧t.nodes≤Rows.uptoBulk d∧t.wt+64≤64*Rows.uptoBulk d:=by intro N;induction N with
 |zero=>intro d hd;have:=bulk_one d;omega
 |succ N ih=>
  intro d hd fuel cs ps h;obtain⟨f0,f1,f2,hu,e1,e2,e3,e4,e5,e6⟩:=uExpr;obtain⟨y0,y1,y2,n,hx,hl,h0,h1,h2⟩:=Deep.trod_struct3 hu h;rw[e1,e2,cOp]at h0;rw[e3,e4,cRatio]at h1;rw[e5,e6,cExprs]at h2;rw[cExpr]at hl;obtain⟨g0,g1,hu2,i1,i2,i3,i4⟩:=uRatio;obtain⟨z0,z1,n2,hx2,hl2,j0,j1⟩:=trod_struct2 hu2 h1;rw[i1,i2,cWhole]at j0;rw[i3,i4,cNat]at j1;obtain⟨k0,k1,hu3,m1,m2,m3,m4⟩:=uWhole;obtain⟨w0,w1,n3,hx3,hl3,q0,q1⟩:=trod_struct2 hu3 j0;rw[m1,m2,cBool]at q0;rw[m3,m4,cNat]at q1;obtain⟨op,c0,x0,_⟩:=DataW.trod_int uOp h0;obtain⟨neg,cb,xb⟩:=DataW.trod_bool Tryz.underlying4 q0;obtain⟨va,abs,ca,da,la,ra⟩:=Zg1 uNat q1;obtain⟨vd,den,cd,dd,ld,rd⟩:=Zg1 uNat j1;simp only[Prod.mk.injEq]at hx;obtain⟨hxd,_⟩:=hx;have hb1:Rows.uptoBulk w1.1+1≤Rows.uptoBulk z0.1:=by rw[hx3];simp only[Rows.uptoBulk,Rows.uptoBulkAll];omega
  have hb2:Rows.uptoBulk z0.1+Rows.uptoBulk z1.1+1≤Rows.uptoBulk y1.1:=by rw[hx2];simp only[Rows.uptoBulk,Rows.uptoBulkAll];omega
  have hb3:Rows.uptoBulk y1.1+Rows.uptoBulk y2.1+1≤Rows.uptoBulk d:=by rw[hxd];simp only[Rows.uptoBulk,Rows.uptoBulkAll];omega
  match cs,hl with
   |[a0,a1,a2,a3,a4],_=>
    simp at c0 cb ca cd h2;subst c0;subst cb;subst ca;subst cd;have u:Tryz.prog.underlying 51=some (.slice 53):=by kernel_rfl
    rcases Deep.open_slice u h2 with⟨p1,p2⟩|⟨a,len,cap,m,nn,D,Pl,p1,_,hlc,_,hm,p2,hV⟩
    ·cases p1;refine⟨.node op neg abs den [],.mk ra rd .nil,fun L hL=>⟨by omega,by omega,da,dd,trivial⟩,?_,?_⟩;·simp only[ET.nodes,Yi];have:=bulk_one d;omega
     ·simp only[ET.wt,Kw];split<;>omega
    ·cases p1;rw[if_pos rfl]at hm;subst hm;rw[cExpr]at hV p2;have hb4:Rows.uptoBulkAll ((List.range len).map D)+1≤Rows.uptoBulk y2.1:=by rw[p2];simp only[Rows.uptoBulk];omega
     obtain⟨F,hF⟩:=Deep.choose_lt (α:=List Value×ET) (n:=len) (p:=fun i q=>W.cells? 0 (a.add (i*5)) 5=some q.1∧WEx W q.1 q.2∧(∀L,Rows.uptoBulk (D i)≤L→q.2.wide L)∧q.2.nodes≤Rows.uptoBulk (D i)∧q.2.wt+64≤64*Rows.uptoBulk (D i)) (fun i hi=>by obtain⟨cs',s1,s2⟩:=hV i (Nat.lt_of_lt_of_le hi hlc);have hbi:Rows.uptoBulk (D i)≤Rows.uptoBulkAll ((List.range len).map D):=bulk_part (List.mem_map.mpr ⟨i,List.mem_range.mpr hi,rfl⟩);obtain⟨t,t1,t2,t3,t4⟩:=ih (D i) (by omega) _ _ _ s2;exact⟨(cs',t),s1,t1,t2,t3,t4⟩);have hlen:((List.range len).map fun i=>(F i).2).length=len:=by simp
     have hw:WXs W (.slice (some a) ((List.range len).map fun i=>(F i).2).length m) ((List.range len).map fun i=>(F i).2):=by
      refine .mk a m (fun i=>(F i).1) (by rw[hlen];exact hlc) (fun i hi=>(hF i (by rwa[hlen]at hi)).1) (fun i t ht=>?_);have hi:i<len:=by
       rcases Nat.lt_or_ge i len with h|h;·exact h
       ·rw[List.getElem?_eq_none (by rw[hlen];exact h)]at ht;cases ht
      rw[List.getElem?_map,List.getElem?_range hi]at ht;cases ht;exact(hF i hi).2.1
     rw[hlen]at hw;refine⟨.node op neg abs den ((List.range len).map fun i=>(F i).2),.mk ra rd hw,fun L hL=>⟨by omega,by omega,da,dd,Zq5 _ fun i hi=>?_⟩,?_,?_⟩;·have hi:=List.mem_range.mp hi;have hbi:Rows.uptoBulk (D i)≤Rows.uptoBulkAll ((List.range len).map D):=bulk_part (List.mem_map.mpr ⟨i,List.mem_range.mpr hi,rfl⟩);exact(hF i hi).2.2.1 L (by omega)
     ·have:=Zl5 (D:=D) (f:=fun i=>(F i).2) (List.range len) fun i hi=>(hF i (List.mem_range.mp hi)).2.2.2.1;simp only[ET.nodes];omega
     ·have:=wtAll_map (D:=D) (f:=fun i=>(F i).2) (List.range len) fun i hi=>Nat.le_trans (Nat.le_add_right _ 64) (hF i (List.mem_range.mp hi)).2.2.2.2;simp only[ET.wt];split<;>omega
theorem add_block{W:World}{S:Nat→Prop}{L:Nat→Ev.Loc}{H:AH}(hI:Inv W.heap.size S L H W){g o sz cap:Nat}{cs cs':List Value}(hg:g<W.heap.size)(hc: ∀(k:Nat)(v':Value),cs'[k]?=some v'→W.cell? ⟨g,o+k,none⟩=some v')(hv:VRs S L cs cs'): ∃(S':Nat→Prop) (L':Nat→Ev.Loc) (H':AH),Inv W.heap.size S' L' H' W∧(∀i,S i→S' i)∧(∀i,S i→L' i=L i)∧Keep H H'∧H'.cells H.n=some cs∧S' H.n∧L' H.n=⟨g,o,sz,o+cap*sz⟩∧H'.n=H.n+1:=by
 have hn: ∀i,S i→i≠H.n:=fun i hi e=>by have:=hI.bd i hi;omega
 let L':Nat→Ev.Loc:=fun i=>if i=H.n then⟨g,o,sz,o+cap*sz⟩else L i;let S':Nat→Prop:=fun i=>i=H.n∨S i;have hL: ∀i,S i→L' i=L i:=fun i hi=>if_neg (hn i hi);have hLn:L' H.n=⟨g,o,sz,o+cap*sz⟩:=if_pos rfl;let H':AH:= { n:=H.n+1,lw:=H.lw,t:=H.t.set H.n (.ro sz cs) };have hb: ∀j,H'.blk j=if j=H.n then .ro sz cs else H.blk j:=fun j=>by
  show(match(H.t.set H.n _).get j with|some b=>b|none=>Blk.dead)=_;rw[Tr.get_set];by_cases e:j=H.n;·rw[if_pos e,if_pos e]
  ·rw[if_neg e,if_neg e];rfl
 refine⟨S',L',H',⟨?_,?_,?_,?_,hI.base⟩,fun i hi=> .inr hi,hL,?_,?_,.inl rfl,hLn,rfl⟩
 ·intro i sz2 cs2 hi;rw[hb]at hi;by_cases e:i=H.n;·rw[if_pos e]at hi;cases hi;subst e;rw[hLn];refine⟨.inl rfl,hg,rfl,fun k v hk=>?_⟩;obtain⟨v',h1,h2⟩:=hv.get hk;exact⟨v',hc k v' h1,h2.mono (fun _ h=> .inr h) hL⟩
  ·rw[if_neg e]at hi;obtain⟨h1,h2,h3,h4⟩:=hI.ro i sz2 cs2 hi;rw[hL i h1];refine⟨.inr h1,h2,h3,fun k v hk=>?_⟩;obtain⟨v',h5,h6⟩:=h4 k v hk;exact⟨v',h5,h6.mono (fun _ h=> .inr h) hL⟩
 ·intro i sz2 cs2 hi;rw[hb]at hi;by_cases e:i=H.n;·rw[if_pos e]at hi;cases hi
  ·rw[if_neg e]at hi;obtain⟨h1,h2,h3,C,e',h4,h5,h6⟩:=hI.rw i sz2 cs2 hi;rw[hL i h1];refine⟨.inr h1,h2,h3,C,e',h4,h5,fun k v hk=>?_⟩;obtain⟨v',h7,h8⟩:=h6 k v hk;exact⟨v',h7,h8.mono (fun _ h=> .inr h) hL⟩
 ·intro i j sz2 cs2 sz' cs' hi hj hg;rw[hb]at hi hj;by_cases e:i=H.n;·rw[if_pos e]at hi;cases hi
  ·by_cases e2:j=H.n;·rw[if_pos e2]at hj;cases hj
   ·rw[if_neg e]at hi;rw[if_neg e2]at hj;rw[hL i (hI.rw i _ _ hi).1,hL j (hI.rw j _ _ hj).1]at hg;exact hI.dj i j _ _ _ _ hi hj hg
 ·intro i hi;rcases hi with hi|hi;·subst hi;exact Nat.lt_succ_self _
  ·exact Nat.lt_succ_of_lt (hI.bd i hi)
 ·exact⟨Nat.le_succ _,Nat.min_le_left _ _,fun j hj=>by rw[hb,if_neg (by omega)]⟩
 ·unfold AH.cells;rw[hb,if_pos rfl]
theorem flat_len{G:Nat→List Value} : ∀m,(∀i,i<m→(G i).length=5)→(((List.range m).map G).flatten).length=m*5|0,_=>rfl|m+1,h=>by rw[List.range_succ,List.map_append,List.flatten_append,List.length_append,flat_len m fun i hi=>h i (by omega)];simp[h m (by omega)];omega
theorem flat_get{G:Nat→List Value} : ∀m,(∀i,i<m→(G i).length=5)→ ∀i,i<m→((((List.range m).map G).flatten).drop (i*5)).take 5=G i
 |0,_,i,hi=>absurd hi (Nat.not_lt_zero i)
 |m+1,h,i,hi=>by
  have hl:=flat_len m fun i hi=>h i (by omega);rw[List.range_succ,List.map_append,List.flatten_append];by_cases e:i=m;·subst e;rw[List.drop_append_of_le_length (by omega),List.drop_of_length_le (by omega),List.nil_append];simp only[List.map_cons,List.map_nil,List.flatten_cons,List.flatten_nil,List.append_nil];rw[List.take_of_length_le (by rw[h i (by omega)];omega)]
  ·rw[List.drop_append_of_le_length (by omega),List.take_append_of_le_length (by rw[List.length_drop];omega)];exact flat_get m (fun i hi=>h i (by omega)) i (by omega)
theorem flat_cells{W:World}{a:Addr}(hspot:a.spot=none){F:Nat→List Value} : ∀m,(∀i,i<m→W.cells? 0 (a.add (i*5)) 5=some (F i))→ ∀(k:Nat)(v':Value),(((List.range m).map F).flatten)[k]?=some v'→W.cell? ⟨a.block,a.off+k,none⟩=some v'
 |0,_,k,v',hk=>by simp at hk
 |m+1,h,k,v',hk=>by
  have hadd: ∀k,a.add k=⟨a.block,a.off+k,none⟩:=fun k=>by
   unfold Addr.add;by_cases hk:k=0;·subst hk;rw[if_pos rfl];cases a with|mk b o s=>simp at hspot;subst hspot;rfl
   ·rw[if_neg hk]
  have hF: ∀i,i<m+1→(F i).length=5:=fun i hi=>(World.cells?_some (h i hi)).2.1;have hl:=flat_len m fun i hi=>hF i (by omega);rw[List.range_succ,List.map_append,List.flatten_append]at hk;by_cases e:k<m*5;·rw[List.getElem?_append_left (by omega)]at hk;exact flat_cells hspot m (fun i hi=>h i (by omega)) k v' hk
  ·rw[List.getElem?_append_right (by omega),hl]at hk;simp only[List.map_cons,List.map_nil,List.flatten_cons,List.flatten_nil,List.append_nil]at hk;obtain⟨_,_,h3⟩:=World.cells?_some (h m (by omega));have hj:k-m*5<5:=by
    rcases Nat.lt_or_ge (k-m*5) 5 with h'|h';·exact h'
    ·rw[List.getElem?_eq_none (by rw[hF m (by omega)];exact h')]at hk;cases hk
   have:=h3 (k-m*5) hj;rw[hk,Deep.add_add,hadd,show m*5+(k-m*5)=k by omega]at this;exact this
theorem VRs_flat{S:Nat→Prop}{L:Nat→Ev.Loc}{G F:Nat→List Value} : ∀m,(∀i,i<m→VRs S L (G i) (F i))→VRs S L ((List.range m).map G).flatten ((List.range m).map F).flatten|0,_=> .nil|m+1,h=>by rw[List.range_succ,List.map_append,List.flatten_append,List.map_append,List.flatten_append];refine(VRs_flat m fun i hi=>h i (by omega)).append ?_;simpa using h m (by omega)
theorem add_tree{W:World} : ∀(N:Nat)(t:ET),t.nodes≤N→ ∀(cs:List Value),WEx W cs t→ ∀{S:Nat→Prop}{L:Nat→Ev.Loc}{H:AH},Inv W.heap.size S L H W→ ∃(S':Nat→Prop) (L':Nat→Ev.Loc) (H':AH) (vs:List Value),Inv W.heap.size S' L' H' W∧(∀i,S i→S' i)∧(∀i,S i→L' i=L i)∧VRs S' L' vs cs∧Ex H' vs t∧Keep H H':=by intro N;induction N with
 |zero=>intro t h;have:=Vm t;omega
 |succ N ih=>intro t ht cs hw S L H hI;cases hw with
  |@mk op neg va vd vx abs den args ra rd rx=>
   simp only[ET.nodes]at ht;obtain⟨S1,L1,H1,wa,I1,s1,l1,r1,q1,k1⟩:=add_arg hI ra;obtain⟨S2,L2,H2,wd,I2,s2,l2,r2,q2,k2⟩:=add_arg I1 rd;suffices hx: ∃(S':Nat→Prop) (L':Nat→Ev.Loc) (H':AH) (wx:Value),Inv W.heap.size S' L' H' W∧(∀i,S2 i→S' i)∧(∀i,S2 i→L' i=L2 i)∧VR S' L' wx vx∧Xs H' wx args∧Keep H2 H' by obtain⟨S3,L3,H3,wx,I3,s3,l3,r3,q3,k3⟩:=hx;refine⟨S3,L3,H3,[.int .i64 op,.bool neg,wa,wd,wx],I3,fun i h=>s3 i (s2 i (s1 i h)),fun i h=>by rw[l3 i (s2 i (s1 i h)),l2 i (s1 i h),l1 i h],?_,.mk (q1.keep (k2.trans k3)) (q2.keep k3) q3,(k1.trans k2).trans k3⟩;exact .cons (.int .i64 op) (.cons (.bool neg) (.cons ((r1.mono s2 l2).mono s3 l3) (.cons (r2.mono s3 l3) (.cons r3 .nil))))
   cases rx with
    |nil=>exact⟨S2,L2,H2,.slice none 0 0,I2,fun _ h=>h,fun _ _=>rfl,.nilSlice,.nil,.refl _⟩
    |mk a cap F hcap hF hE=>
     by_cases h0:args.length=0;·obtain rfl:args=[]:=List.length_eq_zero_iff.mp h0;exact⟨S2,L2,H2,.slice (some ⟨0,0,some 0⟩) 0 0,I2,fun _ h=>h,fun _ _=>rfl,.emp 0 a cap,.emp 0,.refl _⟩
     ·have hget: ∀i,i<args.length→args[i]?=some (args.getD i default):=fun i hi=>by rw[List.getElem?_eq_getElem hi];simp[List.getD,List.getElem?_eq_getElem hi]
      have key: ∀m,m≤args.length→ ∃(S':Nat→Prop) (L':Nat→Ev.Loc) (H':AH) (G:Nat→List Value),Inv W.heap.size S' L' H' W∧(∀i,S2 i→S' i)∧(∀i,S2 i→L' i=L2 i)∧(∀i,i<m→VRs S' L' (G i) (F i)∧Ex H' (G i) (args.getD i default))∧Keep H2 H':=by intro m;induction m with
       |zero=>intro _;exact⟨S2,L2,H2,fun _=>[],I2,fun _ h=>h,fun _ _=>rfl,fun i hi=>absurd hi (Nat.not_lt_zero i),.refl _⟩
       |succ m ihm=>
        intro hm;obtain⟨S3,L3,H3,G,I3,s3,l3,g3,k3⟩:=ihm (by omega);have hm':=hget m (by omega);have hn:=Dk hm';obtain⟨S4,L4,H4,vs,I4,s4,l4,r4,q4,k4⟩:=ih (args.getD m default) (by omega) (F m) (hE m _ hm') I3;refine⟨S4,L4,H4,fun i=>if i=m then vs else G i,I4,fun i h=>s4 i (s3 i h),fun i h=>by rw[l4 i (s3 i h),l3 i h],fun i hi=>?_,k3.trans k4⟩;by_cases e:i=m;·subst e;simp only[if_pos];exact⟨r4,q4⟩
        ·simp only[if_neg e];obtain⟨g1,g2⟩:=g3 i (by omega);exact⟨g1.mono s4 l4,g2.keep k4⟩
      obtain⟨S3,L3,H3,G,I3,s3,l3,g3,k3⟩:=key args.length (Nat.le_refl _);have hF0:=hF 0 (by omega);obtain⟨_,f1,f2⟩:=World.cells?_some hF0;have hx0:=f2 0 (by omega);rw[Deep.add_add,List.getElem?_eq_getElem (by omega)]at hx0;have ea:a.add (0*5+0)=a:=rfl;rw[ea]at hx0;have hspot:a.spot=none:=by have hx1:=hx0;unfold World.cell? at hx1;cases hs:a.spot with
       |none=>rfl
       |some q=>
        rw[hs]at hx1;split at hx1;·simp at hx1
        ·cases hx1
      have hblk:a.block<W.heap.size:=World.block_lt_of_cell? W a hx0;have hG: ∀i,i<args.length→(G i).length=5:=fun i hi=>(g3 i hi).2.len;obtain⟨S4,L4,H4,I4,s4,l4,k4,c4,sn,ln,n4⟩:=add_block (g:=a.block) (o:=a.off) (sz:=5) (cap:=cap) (cs:=((List.range args.length).map G).flatten) (cs':=((List.range args.length).map F).flatten) I3 hblk (flat_cells hspot args.length hF) (VRs_flat args.length fun i hi=>(g3 i hi).1);refine⟨S4,L4,H4,.slice (some ⟨H3.n,0,none⟩) args.length args.length,I4,fun i h=>s4 i (s3 i h),fun i h=>by rw[l4 i (s3 i h),l3 i h],?_,?_,k3.trans k4⟩
      ·have hv:=VR.slice (S:=S4) (L:=L4) H3.n 0 args.length args.length cap sn hcap (Nat.le_refl _) (by rw[ln];simp);rw[ln]at hv;have e:(some (⟨a.block,a.off+0,none⟩:Addr))=some a:=by congr 1;cases a with|mk b o s=>simp at hspot;subst hspot;rfl
       rw[e]at hv;exact hv
      ·refine .mk H3.n 0 args.length (by omega) c4 (Nat.le_refl _) fun i t hi=>?_;have hlt:i<args.length:=by
        rcases Nat.lt_or_ge i args.length with h'|h';·exact h'
        ·rw[List.getElem?_eq_none h']at hi;cases hi
       rw[Nat.zero_add,flat_get args.length hG i hlt];have:=(g3 i hlt).2.keep k4;rw[hget i hlt]at hi;cases hi;exact this
end
end Go.Proofs.YtmkfecoeghokfaaGreatDoor
