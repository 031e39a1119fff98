/-
  The engine and the walks that the claim's last text leans on, part 8 of 9: Uo, Up, Uq, Ur, Us, Ut, Uu, Uv, Wa, Wb, Wc, Wm, Kept, ArgsA.
-/
import Derived.Test.YtmkfecoeghokfaaGreatDoorM7
import Derived.Carry
import Derived.Deep.Slices
import Derived.JoinedCond
namespace Go.Proofs.YtmkfecoeghokfaaGreatDoor
open Go Ev
set_option linter.unusedVariables false
set_option linter.unusedSimpArgs false
noncomputable section
set_option maxRecDepth 20000
set_option maxHeartbeats 1000000
theorem sFs:Ur Tryz.prog 83=some (57,4,64):=by kernel_rfl
theorem aMapW:Jm Tryz.prog 129=some false:=by kernel_rfl
theorem faFo0(b:Nat):Yz Tryz.prog 132 (.pointer (some ⟨b,0,none⟩)) 0=some (.pointer (some ⟨b,0,none⟩)):=by kernel_rfl
theorem loadFo0{H:AH}{b:Nat}{u v w:Value}(h:H.blk b= .rw 1 [u,v,w]):Yn Tryz.prog H 129 (.pointer (some ⟨b,0,none⟩))=some u:=Ys aMapW (AH.cells_rw' h (by decide)) rfl
theorem workOf_ne{op:Int}{two:Bool}{f:FuncId}(h:Eo op=some (two,f)):op≠0∧op≠1∧op≠10∧op≠12∧op≠11∧op≠14∧op≠13∧op≠15:=by refine⟨?_,?_,?_,?_,?_,?_,?_,?_⟩<;>(intro e;subst e;revert h;simp[Eo])
theorem eqlNo{x c:Int}(h:x≠c):Zd .eql .i64 x c=some (.bool false):=by rw[Za4,decide_eq_false h]
theorem topFD_op{op:Int}(h:op≠0)(neg neg':Bool)(N D N' D':Nat)(fs:List FD):Qw op neg N D fs=Qw op neg' N' D' fs:=by unfold Qw;rw[if_neg h,if_neg h]
theorem putDF{H:AH}{b:Nat}{k' p' q' r' p q r:Value}{k:Int}(hb:H.blk b= .rw 1 [k',p',q',r'])(hbn:b<H.n)(h1:one p=true)(h2:one q=true)(h3:one r=true): ∃H2,Xp Tryz.prog H.top 57 (.pointer (some ⟨b,0,none⟩)) (.agg #[.int .i64 k,p,q,r])=some H2∧H2.n=H.n∧H2.lw<H.n∧(low H H2).n=H.n∧(low H H2).blk b= .rw 1 [.int .i64 k,p,q,r]∧(∀j,j≠b→(low H H2).blk j=H.blk j)∧KAt b H (low H H2):=Fu Za9 hb hbn rfl rfl rfl (by simp[h1,h2,h3,show one (Value.int .i64 k)=true from rfl])
theorem Eg.get{H:AH} : ∀{css:List (List Value)}{fs:List FD}{i:Nat}{c:List Value},Eg H css fs→css[i]?=some c→ ∃f,fs[i]?=some f∧FIn H c f|[],[],i,f,_,hi=>by simp at hi|c::cs,g::fs,0,f,h,hi=>by simp at hi;subst hi;exact⟨g,rfl,h.1⟩|c::cs,g::fs,i+1,f,h,hi=>by simp at hi;obtain⟨vs,h1,h2⟩:=Eg.get h.2 hi;exact⟨vs,by simpa using h1,h2⟩|[],_::_,i,f,h,_=>h.elim|_::_,[],i,f,h,_=>h.elim
theorem len1{α:Type}{l:List α}(h:l.length=1): ∃a,l=[a]:=by match l,h with|[a],_=>exact⟨a,rfl⟩
theorem len2{α:Type}{l:List α}(h:l.length=2): ∃a b,l=[a,b]:=by match l,h with|[a,b],_=>exact⟨a,b,rfl⟩
theorem topFD_opn{op:Int}(h0:op≠0){neg:Bool}{N D:Nat}{fs:List FD}{i:Nat}(hi:fs[i]?=some .opn)(hl:fs.length≤2)(h6:op=6→ ∀g,fs[1]?=some g→g.isZero=false):Qw op neg N D fs= .opn:=by unfold Qw;rw[if_neg h0];match fs,hi,hl with
 |[f],hi,_=>cases i with|zero=>simp at hi;subst hi;rfl|succ i=>simp at hi
 |[f,g],hi,_=>
  have h6': ¬ (op=6∧g.isZero=true):=fun h=>by have:=h6 h.1 g rfl;rw[h.2]at this;cases this
  cases i with
   |zero=>simp at hi;subst hi;simp only;rw[if_neg h6']
   |succ i=>cases i with|zero=>simp at hi;subst hi;cases f<;>(simp only;rw[if_neg h6'])|succ i=>simp at hi
section
attribute [-simp] Int.natCast_add Int.natCast_mul Int.natCast_ediv Int.natCast_emod Int.natCast_pow
attribute [local simp] strip Yd LW' LR gW Yf Xh Ya Xi Yo Xj Zr Zs Zh Yp Yy Yk Xo Zw Yq Zi Ze Xn Xm Je Ye Xa opd Qe Ym plain Yj Tr.get_set Qc Zp Xy Yc sameKind undef Zt Yr Yv Zk Yb parts unV DW Xq Zv LX Zy
attribute [local simp] Qh Qt Gy
section
variable {H : AH} {fw av : Value}
theorem top_quo0{v1 v2 v3 v4:Value}{c1 c2:List Value}{f:FD}{t:Bool}{D:Nat}(hA:Lst 4 H av [c1,c2])(hf:FIn H c1 f)(hg:FIn H c2 (.rat t 0 D))(hD:Zf D≤67108864):CW Tryz.prog Zo 116 [fw,.agg #[.int .i64 6,v1,v2,v3,v4],av] H (Za1 H .und):=by
 obtain⟨ab,rfl,hab,qa⟩:=hA.pair;obtain⟨p,q,rfl,hp,hq,low⟩:=hg;obtain⟨p1,p2,p3,rfl,_⟩:=hf.trio;obtain⟨H2,e2,k2,n2,q0,q1⟩:=Jk H [.int .i64 6,v1,v2,v3,v4] [.int .i64 0,.bool false,.slice none 0 0,.slice none 0 0];have qa:=(k2.blk _ hab).trans qa;simp only[List.cons_append,List.nil_append]at qa;have K:=k2;obtain⟨H3,st3,k3,q2,n3⟩:=Kq (H:=H2) (k:= .int .i64 2) (p:= .bool false) (q:= .slice none 0 0) (r:= .slice none 0 0) rfl;have K:=K.trans k3;replace q0:=(k3.blk _ (by omega)).trans q0;replace q1:=(k3.blk _ (by omega)).trans q1;replace qa:=(k3.blk _ (by omega)).trans qa;have z0:=q0;have qz:=qa;obtain⟨H4,c4,k4⟩:=Uj t (hp.keep K) (hq.keep K) (by decide) hD low.2;have n4:=k4.n;have K:=K.trans k4;replace q0:=(k4.blk _ (by omega)).trans q0;replace q1:=(k4.blk _ (by omega)).trans q1;replace qa:=(k4.blk _ (by omega)).trans qa;replace q2:=(k4.blk _ (by omega)).trans q2;have c4:Zq Tryz.prog Zo 153 [.agg #[.int .i64 1,.bool t,p,q]] H3=some (.int .i64 0,H4):=c4;have z2:=Za5 q2;have hF:FIn H4 [.int .i64 2,.bool false,.slice none 0 0,.slice none 0 0] .und:=rfl;obtain⟨H5,st5,n5,q1,b5,ka5,hF⟩:=Vy q1 rfl hF;have K:=ka5 _ K (by omega);have hld:=Jn q1 rfl;try simp at st5 hld
 refine Zl 141 (by decide) (by decide) Tryz.func116 rfl rfl ?_;apply Zb;intro b1 hb1;apply Za;simp[Value.cells,Jv,Vl,e2];subst hb1;apply Zb;intro b1 hb1;apply Za;simp[Ei,Jv,Value.cells,st3];subst hb1;apply Zb;intro b1 hb1;apply Zb;intro b2 hb2;apply Za;simp[Gk,Ue z0];subst hb2;apply Zx;apply Zb;intro b2 hb2;apply Za;simp[show Zd .eql .i64 6 0=some (.bool false)from rfl];subst hb2;refine Zc (t:=false) (by simp) ?_;apply Zb;intro b2 hb2;apply Za;simp[show Zd .eql .i64 6 1=some (.bool false)from rfl];subst hb2;refine Zc (t:=false) (by simp) ?_;apply Zb;intro b2 hb2;apply Za;simp[show Zd .eql .i64 6 6=some (.bool true)from rfl];subst hb2;refine Zc (t:=true) (by simp) ?_;apply Zb;intro b2 hb2;apply Za;simp[adrFs1 (show 1<2 by decide),loadFb qz,c4,show Zd .eql .i64 0 0=some (.bool true)from rfl];subst hb2;refine Zc (t:=true) (by simp) ?_;apply Zb;intro b2 hb2;apply Za;simp[z2,st5];subst hb2;apply Zn;simp[Xw,Xk,hld];exact⟨K,_,rfl,hF⟩
theorem top_rest{v1 v2 v3 v4:Value}{op:Int}{two:Bool}{f:FuncId}(hop:Eo op=some (two,f)){css:List (List Value)}{fs:List FD}(hA:Lst 4 H av css)(hF:Eg H css fs)(hlen:fs.length=if two then 2 else 1)(hu: ∀(i:Nat)(g:FD),fs[i]?=some g→g.isUnd=false)(hw:(fs.map FD.w).sum≤67108864)(h6:op=6→ ∀g:FD,fs[1]?=some g→g.isZero=false){bw m:Nat}{tv kv:Value}(hbw:H.blk bw= .rw 1 [.map (some m),tv,kv])(hbn:bw<H.n)(hW:Ew H m){neg:Bool}{N D:Nat} :CW Tryz.prog Zo 116 [.pointer (some ⟨bw,0,none⟩),.agg #[.int .i64 op,v1,v2,v3,v4],av] H (Za1 H (Qw op neg N D fs)):=by
 obtain⟨o0,o1,o10,o12,o11,o14,o13,o15⟩:=workOf_ne hop;have hl2:fs.length≤2:=by rw[hlen];cases two<;>simp
 have hcl:=hF.len;obtain⟨H2,e2,k2,n2,q0,q1⟩:=Jk H [.int .i64 op,v1,v2,v3,v4] [.int .i64 0,.bool false,.slice none 0 0,.slice none 0 0];have hbw:=(k2.blk _ hbn).trans hbw;have K:=k2;obtain⟨H3,st3,k3,q2,n3⟩:=Kq (H:=H2) (k:= .int .i64 2) (p:= .bool false) (q:= .slice none 0 0) (r:= .slice none 0 0) rfl;have K:=K.trans k3;replace q0:=(k3.blk _ (by omega)).trans q0;replace q1:=(k3.blk _ (by omega)).trans q1;replace hbw:=(k3.blk _ (by omega)).trans hbw;have z0:=q0;have hA3:=hA.keep K;have hF3:=hF.fr K.fr;have hW3:=hW.keep K;refine Zl 141 (by decide) (by decide) Tryz.func116 rfl rfl ?_;apply Zb;intro b1 hb1;apply Za;simp[Value.cells,Jv,Vl,e2];subst hb1;apply Zb;intro b1 hb1;apply Za;simp[Ei,Jv,Value.cells,st3];subst hb1;refine Qz (fun s'=>s'.k=141∧Keep H3 s'.H∧s'.tm.get 0=some (.pointer (some ⟨bw,0,none⟩))∧s'.tm.get 2=some av∧s'.tm.get 4=some (.pointer (some ⟨H.n,0,none⟩))∧s'.tm.get 6=some (.pointer (some ⟨H.n+1,0,none⟩))) ?_ ?_
 ·intro Q' hQ';apply Zb;intro b2 hb2;apply Za;simp[Gk,Ue z0];subst hb2;apply Zx;apply Zb;intro b2 hb2;apply Za;simp[eqlNo o0];subst hb2;refine Zc (t:=false) (by simp) ?_;apply Zb;intro b2 hb2;apply Za;simp[eqlNo o1];subst hb2;refine Zc (t:=false) (by simp) ?_;apply Zb;intro b2 hb2;apply Za;simp[Za4];subst hb2;by_cases h66:op=6
  ·refine Zc (t:=true) (by simp[h66]) ?_;have htwo:two=true:=by subst h66;simp[Eo]at hop;first|exact hop.1|exact hop.1.symm
   have hlen2:fs.length=2:=by rw[hlen,htwo];rfl
   have hclen2:css.length=2:=by omega
   obtain⟨g0,g,rfl⟩:=len2 hlen2;obtain⟨c1,c2,rfl⟩:=len2 hclen2;have h6:=h6 h66 g rfl;obtain⟨ab,rfl,hab,qa⟩:=hA3.pair;obtain⟨p1,p2,p3,rfl,_⟩:=hF3.1.trio;simp only[List.map_cons,List.map_nil,List.sum_cons,List.sum_nil]at hw;have hsign: ∃S H4,Zq Tryz.prog Zo 153 [.agg c2.toArray] H3=some (.int .i64 S,H4)∧Keep H3 H4∧S≠0:=by cases g with|und=>have:=hu 1 .und rfl;cases this|opn=>obtain rfl:=hF3.2.1;obtain⟨H4,c4,k4⟩:=Vx (k:=0) (p:= .bool false) (q:= .slice none 0 0) (r:= .slice none 0 0) (by decide) H3;exact⟨2,H4,c4,k4,by decide⟩|rat t C D=>obtain⟨p,q,rfl,hp,hq,low⟩:=hF3.2.1;have hw:g0.w+(max (Zf C) (Zf D)+1+0)≤67108864:=hw;obtain⟨H4,c4,k4⟩:=Uj t hp hq (by omega) (by omega) low.2;refine⟨_,H4,c4,k4,fun e=>?_⟩;have:=Bq.mp e;have:decide (C=0)=false:=h6;simp at this;omega
   obtain⟨S,H4,c4,k4,hS⟩:=hsign;obtain⟨r1,r2,r3,rfl,_⟩:=hF3.2.1.trio;simp only[List.cons_append,List.nil_append]at qa;have c4:Zq Tryz.prog Zo 153 [.agg #[.int .i64 g.kind,r1,r2,r3]] H3=some (.int .i64 S,H4):=c4;apply Zb;intro b2 hb2;apply Za;simp[adrFs1 (show 1<2 by decide),loadFb qa,c4,eqlNo hS];subst hb2;refine Zc (t:=false) (by simp) ?_;apply Zj;simp[Xk];apply hQ';exact⟨rfl,k4,by simp,by simp,by simp,by simp⟩
  ·refine Zc (t:=false) (by simp[h66]) ?_;apply Zb;intro b2 hb2;apply Za;simp[eqlNo o10];subst hb2;refine Zc (t:=false) (by simp) ?_;apply Zb;intro b2 hb2;apply Za;simp[eqlNo o12];subst hb2;refine Zc (t:=false) (by simp) ?_;apply Zb;intro b2 hb2;apply Zb;intro b3 hb3;apply Za;simp[eqlNo o11];subst hb3;refine Zc (t:=false) (by simp) ?_;apply Zb;intro b3 hb3;apply Za;simp[eqlNo o14];subst hb3;refine Zc (t:=false) (by simp) ?_;apply Zb;intro b3 hb3;apply Za;simp[eqlNo o13];subst hb3;refine Zc (t:=false) (by simp) ?_;apply Za;simp[eqlNo o15];subst hb2;refine Zc (t:=false) (by simp) ?_;apply Zj;simp[Xk];apply hQ';exact⟨rfl,.refl _,by simp,by simp,by simp,by simp⟩
 rintro⟨k,tm,Ha⟩ ⟨hk,kHa,t0,t2,t4,t6⟩;simp only at hk kHa t0 t2 t4 t6;subst hk;have hAl:=hA3.len uFs;obtain⟨len,hln⟩: ∃len,len=css.length:=⟨_,rfl⟩;rw[←hln]at hAl hcl;apply Zb;intro b1 hb1;apply Za;simp;subst hb1;apply Zb;intro b1 hb1;apply Zb;intro b2 hb2;apply Za;simp[t2,hAl];subst hb2;apply Zx;have nH3:H3.n=H.n+3:=by omega
 refine Qg (fun n s'=>s'.k=141∧Keep H3 s'.H∧ ∃(i:Nat) (lv:Value),n+i=len∧Lst 3 s'.H lv ((css.take i).map (List.drop 1))∧(∀b,Xt lv=some b→H3.n≤b)∧(∀j g,j<i→fs[j]?=some g→g.isRat=true)∧s'.tm.get 0=some (.pointer (some ⟨bw,0,none⟩))∧s'.tm.get 4=some (.pointer (some ⟨H.n,0,none⟩))∧s'.tm.get 6=some (.pointer (some ⟨H.n+1,0,none⟩))∧s'.tm.get 13=some lv∧s'.tm.get 113=some av∧s'.tm.get 114=some (.int .i64 (len:Int))∧s'.tm.get 115=some (.int .i64 (i:Int))) ?_ len _ ⟨rfl,kHa,0,.slice none 0 0,by omega,.inl ⟨rfl,by simp⟩,(fun b hb=>by cases hb),(fun j g hj=>by omega),by simp[t0],by simp[t4],by simp[t6],by simp,by simp,by simp,by simp⟩;rintro n ⟨k,tm2,Hb⟩ ⟨hk,kHb,i,lv,hni,hL,hlb,hrat,u0,u4,u6,u13,u113,u114,u115⟩ Q' hQ';simp only at hk kHb hL u0 u4 u6 u13 u113 u114 u115;subst hk;have nHb:=kHb.n;apply Zb;intro b3 hb3;apply Za;simp[u114,u115,lssN];subst hb3;apply Zb;intro b3 hb3;have q1b:=(kHb.blk _ (by omega)).trans q1;have q0b:=(kHb.blk _ (by omega)).trans q0;have hbwb:=(kHb.blk _ (by omega)).trans hbw;have kH:Keep H Hb:=K.trans kHb;by_cases hi:i<len;·refine Zc (t:=true) (by simp[hi]) ?_;apply Zj;subst hb3;obtain⟨cs,hcs⟩: ∃cs,css[i]?=some cs:=⟨css[i]'(by omega),List.getElem?_eq_getElem (by omega)⟩;obtain⟨g,hg,hfg⟩:=hF3.get hcs;obtain⟨ab,hvb,hadr,hab,hblk,hcl4,hcut⟩:=hA3.at hcs uFs Za9 (by decide);have hld:=An ((kHb.blk _ hab).trans hblk) (by decide) hcut hcl4 aFold Za9;have hfgb:=hfg.fr kHb.fr;have hug:=hu i g hg;obtain⟨p,q,r,rfl,htr⟩:=hfg.trio;have hones:=hfg.ones;have K:=kH;obtain⟨H4,st4,k4,q15,n4⟩:=Kq (H:=Hb) hones;have K:=K.trans k4;replace q0b:=(k4.blk _ (by omega)).trans q0b;replace q1b:=(k4.blk _ (by omega)).trans q1b;replace hbwb:=(k4.blk _ (by omega)).trans hbwb;have z15:=q15;apply Zb;intro b3 hb3;apply Zx;apply Zb;intro b4 hb4;apply Za;simp[u113,u115,hadr,hld,Jv,Value.cells,st4];subst hb4;apply Zb;intro b4 hb4;apply Zb;intro b5 hb5;cases g with
  |und=>cases hug
  |opn=>
   obtain⟨H5,c5,k5⟩:=Jt H4;have n5:=k5.n;have K:=K.trans k5;replace q0b:=(k5.blk _ (by omega)).trans q0b;replace q1b:=(k5.blk _ (by omega)).trans q1b;replace hbwb:=(k5.blk _ (by omega)).trans hbwb;replace q15:=(k5.blk _ (by omega)).trans q15;have hFo:FIn H5 [.int .i64 0,.bool false,.slice none 0 0,.slice none 0 0] .opn:=rfl;obtain⟨H6,st6,n6,q1b,b6,ka6,hFo⟩:=Vy q1b rfl hFo;have K:=ka6 _ K (by omega);have hld2:=Jn q1b rfl;try simp at st6 hld2
   apply Za;simp[faF0,Cw z15,FD.kind,show Zd .neq .i64 0 1=some (.bool true)from rfl];subst hb5;refine Zc (t:=true) (by simp) ?_;apply Zb;intro b5 hb5;apply Za;simp[u6,c5,st6];subst hb5;apply Zn;simp[Xw,Xk];apply hQ';simp[Dz,Xk,Xw,u6,hld2];rw[topFD_opn o0 hg hl2 h6];exact⟨K,_,rfl,hFo⟩
  |rat s A B=>
   obtain⟨xs',hxs'⟩: ∃x,x=(css.take i).map (List.drop 1):=⟨_,rfl⟩;rw[←hxs']at hL;have hxl:xs'.length=i:=by rw[hxs',List.length_map,List.length_take];omega
   have hL4:=hL.keep k4;have ones3:[p,q,r].all one=true:=by simp only[List.all_cons,Bool.and_eq_true]at hones⊢;exact hones.2
   obtain⟨G,hG⟩: ∃G,G=H4.new 3 [p,q,r]:=⟨_,rfl⟩;have kG:Keep H4 G:=by rw[hG];exact Keep.new _ _ _
   have nG:G.n=H4.n+1:=by rw[hG];rfl
   have bG:G.blk H4.n= .rw 3 [p,q,r]:=by rw[hG,AH.blk_new,if_pos rfl]
   obtain⟨H5,hap,n5,oth5,hL5,hk0,hk1⟩:=(hL4.keep kG).append (by decide) bG rfl ones3 sQs (by decide) Jz rfl (by omega);rw[hxl]at hap hL5;have kH3G:Keep H3 G:=(kHb.trans k4).trans kG;have kH5:Keep H3 H5:=by cases hvl:Xt lv with|none=>exact kH3G.trans (hk0 hvl).1|some b=>exact(hk1 b hvl).1 H3 kH3G (hlb b hvl)
   have hbs:=buildQ1 H4 p q r;rw[←hG]at hbs;apply Za;simp[faF0,Cw z15,FD.kind,show Zd .neq .i64 1 1=some (.bool false)from rfl];subst hb5;refine Zc (t:=false) (by simp) ?_;apply Zj;subst hb4;apply Za;simp[u13,faF1,loadFQ z15,hbs,hap];simp[Xk];subst hb3;apply Za;simp[u115,Cf (x:=i) (by omega)];apply hQ';refine⟨n-1,by omega,rfl,kH5,i+1,.slice (some ⟨G.n,0,none⟩) (i+1) (i+1),by omega,?_,(fun b hb=>by cases hb;omega),?_,by simp[u0],by simp[u4],by simp[u6],by simp,by simp[u113],by simp[u114],by simp⟩;·rw[List.take_add_one,List.map_append,←hxs',hcs];exact hL5
   ·intro j g' hj hg';by_cases e:j=i;·subst e;rw[hg]at hg';injection hg' with hg';subst hg';rfl
    ·exact hrat j g' (by omega) hg'
 ·refine Zc (t:=false) (by simp[hi]) ?_;apply Qf;apply hQ';left;refine⟨rfl,?_⟩;obtain rfl:i=len:=by omega
  rw[List.take_of_length_le (by omega)]at hL;subst hb1;clear hQ';obtain⟨cb,hlook,hcb,hcf⟩:=lookM (hW3.keep kHb) hop;have hFb:=hF3.fr kHb.fr;have hgive: ∃R,Qw op neg N D fs= .mk R∧(Qw op neg N D fs).ok∧Gives (cond two 105 107) [lv,.pointer (some ⟨cb,0,none⟩)] Hb.top R:=by cases two with
   |false=>obtain⟨g,rfl⟩:=len1 (show fs.length=1 from hlen);obtain⟨c,rfl⟩:=len1 (show css.length=1 by rw[hF.len];rfl);obtain⟨lb,rfl,hlb,ql⟩:=hL.single;have:=hrat 0 g (by simp at hln;omega) rfl;cases g with
    |opn=>cases this
    |und=>cases this
    |rat s A B=>
     obtain⟨p,q,rfl,hp,hq,low⟩:=hFb.1;have hw':(FD.rat s A B).w≤67108864:=by simpa using hw
     obtain⟨R,hR,_⟩:=gives_one hop hp hq low hw';have hres:Qw op neg N D [.rat s A B]=Ut op s A B:=by unfold Qw;rw[if_neg o0]
     refine⟨R,hres.trans hR,by rw[hres];exact(oneFD_ok low).1,clo1_run (H:=Hb.top) (p:= .bool s) (q:=p) (r:=q) (l:=[]) hcf hcb (by decide) ql hlb fun G kG=>?_⟩;obtain⟨R',hR',gv⟩:=gives_one hop (hp.top.keep kG) (hq.top.keep kG) low hw';rw[hR]at hR';injection hR' with e1 e2 e3;obtain⟨a,b,c⟩:=R;obtain⟨a',b',c'⟩:=R';simp only at e1 e2 e3;subst e1;subst e2;subst e3;exact gv
   |true=>obtain⟨g,g',rfl⟩:=len2 (show fs.length=2 from hlen);obtain⟨c,c',rfl⟩:=len2 (show css.length=2 by rw[hF.len];rfl);obtain⟨lb,rfl,hlb,ql⟩:=hL.pair;have r1:=hrat 0 g (by simp at hln;omega) rfl;have r2:=hrat 1 g' (by simp at hln;omega) rfl;cases g with
    |opn=>cases r1
    |und=>cases r1
    |rat s A B=>cases g' with
     |opn=>cases r2
     |und=>cases r2
     |rat t C E=>
      obtain⟨p,q,rfl,hp,hq,low⟩:=hFb.1;obtain⟨p',q',rfl,hp',hq',low'⟩:=hFb.2.1;have hw':(FD.rat s A B).w+(FD.rat t C E).w≤67108864:=by simpa using hw
      have h6':op=6→C≠0:=fun e h=>by have:=h6 e _ rfl;have:decide (C=0)=false:=this;simp at this;exact this h
      obtain⟨R,hR,_⟩:=gives_two hop hp hq hp' hq' low low' h6' hw';have hres:Qw op neg N D [.rat s A B,.rat t C E]=Br op s A B t C E:=by unfold Qw;rw[if_neg o0]
      refine⟨R,hres.trans hR,by rw[hres];exact(twoFD_ok low low').1,clo2_run (H:=Hb.top) (p:= .bool s) (q:=p) (r:=q) (p':= .bool t) (q':=p') (r':=q') hcf hcb ql hlb fun G kG=>?_⟩;obtain⟨R',hR',gv⟩:=gives_two hop (hp.top.keep kG) (hq.top.keep kG) (hp'.top.keep kG) (hq'.top.keep kG) low low' h6' hw';rw[hR]at hR';injection hR' with e1 e2 e3;obtain⟨a,b,c⟩:=R;obtain⟨a',b',c'⟩:=R';simp only at e1 e2 e3;subst e1;subst e2;subst e3;exact gv
  obtain⟨R,hR,hok,hgv⟩:=hgive;rw[hR]at hok⊢;obtain⟨S,N',D'⟩:=R;have K:=kH;have q0ba:=q0b;have q1ba:=q1b;have hbwba:=hbwb;have vka: ∀{J:AH}(k:Keep Hb J){bits ms},(∀x∈ms,Hb.n≤x.2.1)→ ∀b,b<Hb.n→(vis J bits ms).blk b=Hb.blk b:=fun k _ _ h b hb=>(Qy k h).blk b hb;obtain⟨g1,g2,Ia1,da1,kIa1,x1,x2⟩:=hgv;obtain⟨Ja1,hJa1⟩: ∃J,J=grown Hb Ia1:=⟨_,rfl⟩;have kJa1:Keep Hb Ja1:=by rw[hJa1];exact Zu (.refl _) kIa1
  have ma1:Hb.n≤Ia1.n:=kIa1.n;have kka1:=kJa1;have nka1:=kka1.n;have K:=K.trans kJa1;simp only at da1 x1 x2;replace x1:=x1.same (Yg kIa1);replace x2:=x2.same (Yg kIa1);rw[←hJa1]at x1 x2;obtain⟨Ia2,da2,kIa2⟩:=Gp (p:= .bool S) ⟨⟨_,rfl⟩,x1.shape,x2.shape⟩ Ja1.top;obtain⟨Ja2,hJa2⟩: ∃J,J=grown Ja1 Ia2:=⟨_,rfl⟩;have kJa2:Keep Ja1 Ja2:=by rw[hJa2];exact Zu (.refl _) kIa2
  have ma2:Ja1.n≤Ia2.n:=kIa2.n;have kka2:=kka1.trans kJa2;have nka2:=kka2.n;have K:=K.trans kJa2;replace x1:=x1.keep kJa2;replace x2:=x2.keep kJa2;replace q0b:=(kka2.blk _ (by omega)).trans q0b;replace q1b:=(kka2.blk _ (by omega)).trans q1b;replace hbwb:=(kka2.blk _ (by omega)).trans hbwb;have r1:=q1b;obtain⟨Sa1,ssta1,sna1,slwa1,fna1,q1b,foa1,fka1⟩:=putDF (k:=1) (p:= .bool S) q1b (by omega) rfl x1.one1 x2.one1;obtain⟨Fa1,hFa1⟩: ∃F,F=low Ja2 Sa1:=⟨_,rfl⟩;rw[←hFa1]at fna1 q1b foa1 fka1;have K:=fka1 _ K (by omega);replace q0b:=(foa1 _ (by omega)).trans q0b;replace hbwb:=(foa1 _ (by omega)).trans hbwb;have fr:=Fr.put r1 q1b fna1 foa1 rfl rfl (show noU [.int .i64 1,.bool S,g1,g2]=true by obtain⟨_,_,_,rfl⟩:=x1.shape;obtain⟨_,_,_,rfl⟩:=x2.shape;rfl);have hFin:FIn Fa1 [.int .i64 1,.bool S,g1,g2] (.mk (S,N',D')):=⟨_,_,rfl,x1.fr fr,x2.fr fr,hok⟩;have hld2:=Za5 q1b;have hlook':Ze4 Tryz.prog Hb.top 129 (.map (some m)) (.int .i64 op) false=some (clo two cb):=hlook;apply Zb;intro b1 hb1;apply Qs (by kernel_rfl);simp[u0,faFo0];refine Yh (v:= .map (some m)) rfl rfl rfl (by rw[Zm rfl];simp[loadFo0 (H:=AH.top Hb) hbwba]) ?_;simp[u4,Gk];refine Yh (v:= .int .i64 op) rfl rfl rfl (by rw[Zm rfl];simp[Ue (H:=AH.top Hb) q0ba]) ?_;simp;refine Yh (v:=clo two cb) rfl rfl rfl (by rw[Zm rfl];simp[hlook']) ?_;simp[u13,clo];refine Yu (v:= .tuple #[.agg #[.bool S,g1,g2],.int .i64 0]) (H2:=Ia1) rfl rfl rfl (by rw[Zm rfl];simp[da1]) ma1 (Yw kIa1) ?_;rw[←hJa1];have Ma1:=(Fc.nil Hb.n).cons (i:=8) (a:=Hb.n) (b:=Ia1.n) (by omega);generalize cond (Nat.blt Hb.n Ia1.n) _ _=msa1 at Ma1;simp;refine Yu (v:= .agg #[.int .i64 1,.bool S,g1,g2]) (H2:=Ia2) rfl rfl rfl (by rw[Zm (Ma1.hid (by kernel_rfl))];simp[da2]) ma2 (Yw kIa2) ?_;rw[←hJa2];have Ma2:=Ma1.cons (i:=11) (a:=Ja1.n) (b:=Ia2.n) (by omega);generalize cond (Nat.blt Ja1.n Ia2.n) _ _=msa2 at Ma2;simp[u6];refine Xd (v:= .tuple #[]) (H2:=Sa1) rfl rfl (by kernel_rfl) (Ma2.hid (by kernel_rfl)) ?_ (by omega) slwa1 ?_;·show Yf _ _ _ _ Ja2.top _=_;simp[ssta1,u6]
  rw[show({ n:=Sa1.n,lw:=min Ja2.lw Sa1.lw,t:=Sa1.t } :AH)=Fa1 from hFa1.symm];rw[show Nat.blt Ja2.n Sa1.n=false from by rw[sna1];exact Qi _,cond_false];simp[u6];subst hb1;apply Zn;simp[u6,hld2];exact⟨K,_,rfl,hFin⟩
end
end
mutual def ET.fold:ET→FD| .node op neg abs den args=>if(Xu args).any FD.isUnd=true then .und else Qw op neg (dv B64 abs) (dv B64 den) (Xu args) def Xu:List ET→List FD|[]=>[]|t::ts=>t.fold::Xu ts end
mutual def ET.parts:ET→List FD| .node op neg abs den args=>Jd args++[if(Xu args).any FD.isUnd=true then .und else Qw op neg (dv B64 abs) (dv B64 den) (Xu args)] def Jd:List ET→List FD|[]=>[]|t::ts=>t.parts++Jd ts end
mutual def ET.wt:ET→Nat| .node op neg abs den args=>(if op=0 then max (64*abs.length) (64*den.length)else 0)+1+Fg args def Fg:List ET→Nat|[]=>0|t::ts=>t.wt+Fg ts end
theorem Kg(l:List ET):Xu l=l.map ET.fold:=by induction l with|nil=>rfl|cons x xs ih=>simp[Xu,ih]
theorem Zp9(xs ys:List ET):Jd (xs++ys)=Jd xs++Jd ys:=by induction xs with|nil=>simp[Jd]|cons x xs ih=>simp[Jd,ih]
theorem parts_node(op:Int)(neg:Bool)(abs den:List Nat)(args:List ET):(ET.node op neg abs den args).parts=Jd args++[(ET.node op neg abs den args).fold]:=by simp only[ET.parts,ET.fold]
theorem wtAll_get{xs:List ET}{i:Nat}{t:ET}(hi:xs[i]?=some t):t.wt≤Fg xs:=by induction xs generalizing i with
 |nil=>simp at hi
 |cons x xs ih=>cases i with|zero=>simp at hi;subst hi;simp[Fg]|succ i=>simp at hi;have:=ih hi;simp only[Fg];omega
theorem Cj{xs:List ET}(h:Jh xs=true){i:Nat}{t:ET}(hi:xs[i]?=some t):t.allGood=true:=by induction xs generalizing i with
 |nil=>simp at hi
 |cons x xs ih=>simp only[Jh,Bool.and_eq_true]at h;cases i with|zero=>simp at hi;subst hi;exact h.1|succ i=>simp at hi;exact ih h.2 hi
theorem Zj1{xs:List Nat}(h:Dig B64 xs):Zf (dv B64 xs)≤64*xs.length:=by refine Ky ?_;rw[Nat.pow_mul];exact Ui h
theorem Kh{op:Int}{neg:Bool}{abs den:List Nat}{args:List ET}(h:(ET.node op neg abs den args).good=true):0≤op∧op<16∧args.length=arity op.toNat∧(op=0→0<dv B64 den):=by unfold ET.good at h;simp only[Bool.and_eq_true,decide_eq_true_eq]at h;refine⟨h.1.1,h.1.2.1,h.1.2.2,fun h0=>?_⟩;have:=h.2;rw[if_pos h0]at this;simpa using this
theorem topFD_ok{op:Int}{neg:Bool}{N D:Nat}{fs:List FD}(hD:op=0→0<D)(h: ∀g∈fs,g.ok){k:Nat}(hN:op=0→Zf N≤k∧Zf D≤k):(Qw op neg N D fs).ok∧(Qw op neg N D fs).w≤(if op=0 then k else 0)+1+(fs.map FD.w).sum:=by
 unfold Qw;by_cases h0:op=0;·rw[if_pos h0,if_pos h0];have:=mk_w (neg:=neg) (n:=N) (hD h0) (k:=k+1) (by have:=(hN h0).1;omega) (by have:=(hN h0).2;omega);exact⟨this.2,by have:=this.1;omega⟩
 ·rw[if_neg h0,if_neg h0];split;·rename_i s A B;have:=oneFD_ok (op:=op) (h _ (List.mem_singleton.mpr rfl));exact⟨this.1,by have:=this.2;simp;omega⟩
  ·rename_i s A B t C E;have h1:Low s A B:=h (.rat s A B) (by simp);have h2:Low t C E:=h (.rat t C E) (by simp);have:=twoFD_ok (op:=op) h1 h2;exact⟨this.1,by have:=this.2;simp;omega⟩
  ·split;·exact⟨trivial,by show 1≤_;omega⟩
   ·exact⟨trivial,by show 1≤_;omega⟩
  ·exact⟨trivial,by show 1≤_;omega⟩
theorem fold_ok: ∀n(t:ET),t.nodes≤n→t.allGood=true→t.wide 1048576→t.fold.ok∧t.fold.w≤t.wt:=by intro n;induction n with
 |zero=>intro t h;have:=Vq t;omega
 |succ n ih=>
  intro t ht hg hw;obtain⟨op,neg,abs,den,args⟩:=t;simp only[ET.nodes]at ht;simp only[ET.allGood,Bool.and_eq_true]at hg;obtain⟨_,_,da,dd,ws⟩:=hw;have key: ∀l:List ET,Xb l≤n→Jh l=true→Dg 1048576 l→(∀g∈Xu l,g.ok)∧((Xu l).map FD.w).sum≤Fg l:=by intro l;induction l with
   |nil=>intro _ _ _;exact⟨fun g hg=>by simp[Xu]at hg,by simp[Xu,Fg]⟩
   |cons x xs ihl=>
    intro hl hgl hwl;simp only[Xb]at hl;simp only[Jh,Bool.and_eq_true]at hgl;have h1:=ih x (by omega) hgl.1 hwl.1;have h2:=ihl (by omega) hgl.2 hwl.2;refine⟨fun g hg=>?_,by simp only[Xu,Fg,List.map_cons,List.sum_cons];have:=h1.2;have:=h2.2;omega⟩;simp only[Xu,List.mem_cons]at hg;rcases hg with e|e;·rw[e];exact h1.1
    ·exact h2.1 g e
  obtain⟨k1,k2⟩:=key args (by omega) hg.2 ws;simp only[ET.fold,ET.wt];split;·exact⟨trivial,by show 1≤_;omega⟩
  ·obtain⟨_,_,_,hD⟩:=Kh hg.1;have b1:=Zj1 da;have b2:=Zj1 dd;have:=topFD_ok (op:=op) (neg:=neg) (N:=dv B64 abs) (D:=dv B64 den) hD k1 (k:=max (64*abs.length) (64*den.length)) (fun _=>⟨by omega,by omega⟩);exact⟨this.1,by have:=this.2;omega⟩
theorem foldAll_w{args:List ET}(hg:Jh args=true)(hw:Dg 1048576 args):((Xu args).map FD.w).sum≤Fg args:=by induction args with|nil=>simp[Xu,Fg]|cons x xs ih=>simp only[Jh,Bool.and_eq_true]at hg;have h1:=fold_ok _ x (Nat.le_refl _) hg.1 hw.1;have h2:=ih hg.2 hw.2;simp only[Xu,Fg,List.map_cons,List.sum_cons];have:=h1.2;omega
section
variable {H : AH}
theorem top_ok{op:Int}{neg:Bool}{va vd vx av:Value}{abs den:List Nat}{args:List ET}{css:List (List Value)}{fs:List FD}(ha:Sl H va abs)(hd:Sl H vd den)(da:Dig B64 abs)(dd:Dig B64 den)(la:abs.length≤1048576)(ld:den.length≤1048576)(hg:(ET.node op neg abs den args).good=true)(hA:Lst 4 H av css)(hF:Eg H css fs)(hl:fs.length=args.length)(hu:fs.any FD.isUnd=false)(hok: ∀g∈fs,g.ok)(hw:(fs.map FD.w).sum≤67108864)(hb:op=0→Zf (dv B64 abs)≤67108864∧Zf (dv B64 den)≤67108864){bw m:Nat}{tv kv:Value}(hbw:H.blk bw= .rw 1 [.map (some m),tv,kv])(hbn:bw<H.n)(hW:Ew H m):CW Tryz.prog Zo 116 [.pointer (some ⟨bw,0,none⟩),.agg #[.int .i64 op,.bool neg,va,vd,vx],av] H (Za1 H (Qw op neg (dv B64 abs) (dv B64 den) fs)):=by
 obtain⟨h0,h16,har,hD⟩:=Kh hg;have hu': ∀(i:Nat)(g:FD),fs[i]?=some g→g.isUnd=false:=fun i g hi=>by have:=List.any_eq_false.mp hu g (List.mem_of_getElem? hi);simpa using this
 have hlen:fs.length=arity op.toNat:=by omega
 have hcl:=hF.len;obtain⟨k,rfl⟩: ∃k:Nat,op=(k:Int):=⟨op.toNat,by omega⟩;have hk:k<16:=by omega
 have hlen:fs.length=arity k:=by simpa using hlen
 have one: ∀{X:Int},arity k=1→ ∃c f,css=[c]∧fs=[f]∧FIn H c f∧f.isUnd=false∧f.w≤67108864:=fun{X} h=>by obtain⟨f,rfl⟩:=len1 (hlen.trans h);obtain⟨c,rfl⟩:=len1 (hcl.trans (by rfl));exact⟨c,f,rfl,rfl,hF.1,hu' 0 f rfl,by simpa using hw⟩
 have rest: ∀(two:Bool)(f:FuncId),Eo (k:Int)=some (two,f)→arity k=(if two then 2 else 1)→CW Tryz.prog Zo 116 [.pointer (some ⟨bw,0,none⟩),.agg #[.int .i64 (k:Int),.bool neg,va,vd,vx],av] H (Za1 H (Qw (k:Int) neg (dv B64 abs) (dv B64 den) fs)):=fun two f hop har2=>by
  by_cases h6:(k:Int)=6∧ ∃g,fs[1]?=some g∧g.isZero=true
  ·obtain⟨e6,g,hg1,hz⟩:=h6;have k6:k=6:=by omega
   subst k6;obtain⟨f0,f1,rfl⟩:=len2 (hlen.trans rfl);obtain⟨c0,c1,rfl⟩:=len2 (hcl.trans rfl);simp at hg1;subst hg1;cases f1 with
    |opn=>cases hz
    |und=>cases hz
    |rat t C E=>
     have hC:C=0:=by simpa[FD.isZero]using hz
     subst hC;have:Qw ((6:Nat):Int) neg (dv B64 abs) (dv B64 den) [f0,.rat t 0 E]= .und:=by unfold Qw;rw[if_neg (by decide)];cases f0<;>rfl
     rw[this];have hwE:f0.w+(max (Zf 0) (Zf E)+1+0)≤67108864:=hw;exact top_quo0 hA hF.1 hF.2.1 (by omega)
  ·exact top_rest hop hA hF (hlen.trans har2) hu' hw (fun e g hg1=>by cases hz:g.isZero with|false=>rfl|true=>exact absurd ⟨e,g,hg1,hz⟩ h6) hbw hbn hW
 have nm: ∀{op:Int},op≠0→Qw op neg (dv B64 abs) (dv B64 den) fs=Qw op false 0 0 fs:=fun h=>topFD_op h _ _ _ _ _ _ _;match k,hk with|0,_=>have:fs=[]:=List.length_eq_zero_iff.mp (hlen.trans rfl);subst this;have:=hb rfl;exact top_num ha hd da dd la ld this.1 this.2 (hD rfl)|1,_=>have:fs=[]:=List.length_eq_zero_iff.mp (hlen.trans rfl);subst this;exact top_pi|2,_=>exact rest false _ rfl rfl|3,_=>exact rest true _ rfl rfl|4,_=>exact rest true _ rfl rfl|5,_=>exact rest true _ rfl rfl|6,_=>exact rest true _ rfl rfl|7,_=>exact rest false _ rfl rfl|8,_=>exact rest true _ rfl rfl|9,_=>exact rest true _ rfl rfl|10,_=>obtain⟨c,f,rfl,rfl,h1,h2,h3⟩:=one (X:=0) rfl;rw[nm (by decide)];exact top_sqrt hA h1 h2 h3|11,_=>obtain⟨c,f,rfl,rfl,h1,h2,h3⟩:=one (X:=0) rfl;rw[nm (by decide)];exact top_f11 hA h1 h2 h3|12,_=>obtain⟨c,f,rfl,rfl,h1,h2,h3⟩:=one (X:=0) rfl;rw[nm (by decide)];exact top_ln hA h1 h2 h3|13,_=>obtain⟨c,f,rfl,rfl,h1,h2,h3⟩:=one (X:=0) rfl;rw[nm (by decide)];exact top_f13 hA h1 h2 h3|14,_=>obtain⟨c,f,rfl,rfl,h1,h2,h3⟩:=one (X:=0) rfl;rw[nm (by decide)];exact top_f14 hA h1 h2 h3|15,_=>obtain⟨c,f,rfl,rfl,h1,h2,h3⟩:=one (X:=0) rfl;rw[nm (by decide)];exact top_f15 hA h1 h2 h3
end
def FoIn(H:AH)(bw m:Nat)(keep:Bool)(L:List FD)(tv:Value):Prop:=H.blk bw= .rw 1 [.map (some m),tv,.bool keep]∧bw<H.n∧ ∃css,Lst 4 H tv css∧Eg H css L
def undV:Value:= .iface 148 (.agg #[])
def FoldIs(H:AH)(bw m:Nat)(keep:Bool)(L:List FD)(tv:Value)(t:ET)(x:Value)(H':AH):Prop:= ∃vs tv',x= .agg vs.toArray∧FIn H' vs t.fold∧FoIn H' bw m keep (L++t.parts) tv'∧(∀b,Xt tv'=some b→H.n≤b)∧H.n≤H'.n∧KAt bw H H'∧ ∀j,j<H.n→j≠bw→Xt tv≠some j→H'.blk j=H.blk j
theorem fold_fr{H H':AH}{bw m:Nat}{keep:Bool}{L:List FD}{tv tv':Value}(h:FoIn H bw m keep L tv)(h':H'.blk bw= .rw 1 [.map (some m),tv',.bool keep])(hs: ∃a l c,tv'= .slice a l c)(hn:H.n≤H'.n)(hf: ∀j,j<H.n→j≠bw→Xt tv≠some j→H'.blk j=H.blk j):Fr H H':=by
 obtain⟨h1,h2,css,h3,h4⟩:=h;refine⟨hn,fun j hj=>?_⟩;by_cases e:j=bw;·subst e;obtain⟨a,l,c,rfl⟩:=hs;obtain⟨a',l',c',rfl⟩:=h3.shape;exact .inr (.inr ⟨_,_,h1,h',rfl,rfl,rfl⟩)
 ·by_cases e2:Xt tv=some j;·exact .inr (.inl ⟨4,_,(h3.blk_lt e2).2,by decide⟩)
  ·exact .inl (hf j hj e e2)
theorem FoIn.keep{H H':AH}{bw m:Nat}{keep:Bool}{L:List FD}{tv:Value}(h:FoIn H bw m keep L tv)(k:Keep H H'):FoIn H' bw m keep L tv:=by obtain⟨h1,h2,css,h3,h4⟩:=h;exact⟨(k.blk _ h2).trans h1,Nat.lt_of_lt_of_le h2 k.n,css,h3.keep k,h4.fr k.fr⟩
theorem FoIn.off{H H':AH}{bw m b:Nat}{keep:Bool}{L:List FD}{tv:Value}(h:FoIn H bw m keep L tv)(hb:b≠bw)(ht:Xt tv≠some b)(hn:H'.n=H.n)(ho: ∀j,j≠b→H'.blk j=H.blk j)(fr:Fr H H'):FoIn H' bw m keep L tv:=by obtain⟨h1,h2,css,h3,h4⟩:=h;exact⟨(ho _ (Ne.symm hb)).trans h1,by omega,css,h3.frame (by omega) (fun c hc=>ho c (fun e=>ht (by rw[hc,e]))),h4.fr fr⟩
section
variable {P : Program} {C : Cfg}
theorem callI_no{f:FuncId}{args:List Value}{H H':AH}{v:Value}(h:callOI P C f args H=some (.pan v,H')):Zq P C f args H=none:=by rw[Va];unfold Qa;have:Js P C (lvI P C) f args H=_:=h;rw[this];rfl
end
theorem newX{H:AH}{vs:List Value}(hl:vs.length=5)(h:vs.all one=true): ∃H',Xp Tryz.prog (H.new 1 [.int .i64 0,.bool false,.slice none 0 0,.slice none 0 0,.slice none 0 0]) 53 (.pointer (some ⟨H.n,0,none⟩)) (.agg vs.toArray)=some H'∧Keep H H'∧H'.blk H.n= .rw 1 vs∧H'.n=H.n+1:=Vg Zd1 rfl (by simp[Value.cells]) hl h
theorem Kd{H:AH}{b:Nat}{vs:List Value}(hb:H.blk b= .rw 1 vs)(hl:vs.length=5):Yn Tryz.prog H 53 (.pointer (some ⟨b,0,none⟩))=some (.agg vs.toArray):=An hb (by decide) (by rw[List.drop_zero,List.take_of_length_le (by omega)]) hl aExpr Zd1
theorem loadX4{H:AH}{b:Nat}{v0 v1 v2 v3 v4:Value}(h:H.blk b= .rw 1 [v0,v1,v2,v3,v4]):Yn Tryz.prog H 51 (.pointer (some ⟨b,4,none⟩))=some v4:=Ys aExprs (AH.cells_rw' h (by decide)) rfl
theorem Ah(b:Nat):Yz Tryz.prog 53 (.pointer (some ⟨b,0,none⟩)) 2=some (.pointer (some ⟨b,4,none⟩)):=faArgs b 0
theorem newFv{H:AH}{vs:List Value}(hl:vs.length=4)(h:vs.all one=true): ∃H',Xp Tryz.prog (H.new 1 [.int .i64 0,.bool false,.slice none 0 0,.slice none 0 0]) 57 (.pointer (some ⟨H.n,0,none⟩)) (.agg vs.toArray)=some H'∧Keep H H'∧H'.blk H.n= .rw 1 vs∧H'.n=H.n+1:=Vg Za9 rfl (by simp[Value.cells]) hl h
theorem kindUnd(g:FD):Zd .eql .i64 g.kind 2=some (.bool g.isUnd):=by cases g<;>rfl
theorem buildF1(H:AH)(k p q r:Value):Xx Tryz.prog H 83 1 [(0,.agg #[k,p,q,r])]=some (.slice (some ⟨H.n,0,none⟩) 1 1,H.new 4 [k,p,q,r]):=by unfold Xx;simp only[sFs,Jv];kernel_rfl
theorem aFs:Jm Tryz.prog 83=some false:=by kernel_rfl
theorem sFsl:Qr Tryz.prog 83=some 1:=by kernel_rfl
theorem faFo1(b:Nat):Yz Tryz.prog 132 (.pointer (some ⟨b,0,none⟩)) 1=some (.pointer (some ⟨b,1,none⟩)):=by kernel_rfl
theorem faFo2(b:Nat):Yz Tryz.prog 132 (.pointer (some ⟨b,0,none⟩)) 2=some (.pointer (some ⟨b,2,none⟩)):=by kernel_rfl
theorem loadFo1{H:AH}{b:Nat}{u v w:Value}(h:H.blk b= .rw 1 [u,v,w]):Yn Tryz.prog H 83 (.pointer (some ⟨b,1,none⟩))=some v:=Ys aFs (AH.cells_rw' h (by decide)) rfl
theorem loadFo2{H:AH}{b:Nat}{u v w:Value}(h:H.blk b= .rw 1 [u,v,w]):Yn Tryz.prog H 4 (.pointer (some ⟨b,2,none⟩))=some w:=Ys aBool (AH.cells_rw' h (by decide)) rfl
theorem putFo1{H:AH}{b:Nat}{u t w v:Value}(hb:H.blk b= .rw 1 [u,t,w])(hbn:b<H.n)(hv:v.cells=#[v])(h1:one v=true): ∃H2,Xp Tryz.prog H.top 83 (.pointer (some ⟨b,1,none⟩)) v=some H2∧H2.n=H.n∧H2.lw<H.n∧(low H H2).n=H.n∧(low H H2).blk b= .rw 1 [u,v,w]∧(∀j,j≠b→(low H H2).blk j=H.blk j)∧KAt b H (low H H2):=by obtain⟨H2,st,q,n1,o,ka,lw⟩:=Ee (H:=H.top) (o:=1) sFsl hb (v:=v) (ws:=[v]) (by rw[hv]) rfl (by simp) (by simp[h1]);exact⟨H2,st,n1,by rw[lw];show min H.n b<H.n;omega,n1,q,o,Cl ka⟩
mutual theorem parts_len: ∀t:ET,t.parts.length=t.nodes| .node op neg abs den args=>by simp only[ET.parts,ET.nodes,List.length_append,List.length_singleton,Db args];omega theorem Db: ∀l:List ET,(Jd l).length=Xb l|[]=>rfl|t::ts=>by simp only[Jd,Xb,List.length_append,parts_len t,Db ts] end
theorem Ai{args:List ET}{i:Nat}{t:ET}(h:args[i]?=some t):Xu (args.take (i+1))=Xu (args.take i)++[t.fold]:=by rw[Kg,Kg,List.take_add_one,h,List.map_append];rfl
theorem partsAll_take{args:List ET}{i:Nat}{t:ET}(h:args[i]?=some t):Jd (args.take (i+1))=Jd (args.take i)++t.parts:=by rw[List.take_add_one,h,Zp9];simp[Jd]
theorem Cx{args:List ET}{i:Nat}{t:ET}(h:args[i]?=some t):Xb (args.take i)+t.nodes≤Xb args:=by
 have h1:args=args.take (i+1)++args.drop (i+1):=(List.take_append_drop _ _).symm;have h2:args.take (i+1)=args.take i++[t]:=by rw[List.take_add_one,h];rfl
 have:Xb args=Xb (args.take i)+t.nodes+Xb (args.drop (i+1)):=by
  conv=>lhs;rw[h1,h2]
  simp[Gb,Xb,Nat.add_assoc]
 omega
theorem KAt.weak{a b:Nat}{H H':AH}(h:KAt b H H')(hab:a≤b):KAt a H H':=fun H0 k hn=>h H0 k (Nat.le_trans hn hab)
def FoldO(H:AH)(bw m:Nat)(keep:Bool)(L:List FD)(tv:Value)(t:ET):Out→AH→Prop| .ret x,H'=>(keep=true∨t.fold.isUnd=false)∧FoldIs H bw m keep L tv t x H'| .pan v,H'=>keep=false∧t.fold.isUnd=true∧v=undV∧KAt bw H H'
theorem isIfU:isIface Tryz.prog 148=some false:=by kernel_rfl
theorem bUnd:Ux Tryz.prog 148 []=some (.agg #[]):=by kernel_rfl
section
attribute [-simp] Int.natCast_add Int.natCast_mul Int.natCast_ediv Int.natCast_emod Int.natCast_pow
attribute [local simp] strip Yd LW' LR gW Yf Xh Ya Xi Yo Xj Zr Zs Zh Yp Yy Yk Xo Zw Yq Zi Ze Xn Xm Je Ye Xa opd Qe Ym plain Yj Tr.get_set Qc Zp Xy Yc sameKind undef Zt Yr Yv Zk Yb parts unV DW Xq Zv LX Zy
attribute [local simp] Qh Qt Gy LP' Et Ft
section
set_option maxHeartbeats 2000000 in theorem fold_walk: ∀n(t:ET),t.nodes≤n→ ∀(H0 H:AH)(vs:List Value)(bw m:Nat)(keep:Bool)(L:List FD)(tv:Value),Ex H0 vs t→t.wide 1048576→t.allGood=true→t.wt≤67108864→Ew H0 m→Keep H0 H→H0.n≤bw→FoIn H bw m keep L tv→(∀b,Xt tv=some b→bw≤b)→L.length+t.nodes≤500000000→CWO Tryz.prog Zo 75 [.pointer (some ⟨bw,0,none⟩),.agg vs.toArray] H (FoldO H bw m keep L tv t):=by intro n;induction n with
 |zero=>intro t h;have:=Vq t;omega
 |succ n ih=>intro t ht H0 H vs bw m keep L tv hE hw hg hwt hW k0 hb0 hFo htv hL;obtain⟨op,neg,abs,den,args⟩:=t;have hE':=hE;cases hE' with
  |@mk _ _ va vd vx _ _ _ h1 h2 h3=>
   obtain⟨wa,wd,da,dd,ws⟩:=hw;simp only[ET.nodes]at ht hL;simp only[ET.allGood,Bool.and_eq_true]at hg;obtain⟨hgn,hga⟩:=hg;have hwt':Fg args≤67108864:=by simp only[ET.wt]at hwt;omega
   have hbw:=hFo.2.1;obtain⟨len,hln⟩: ∃len,len=args.length:=⟨_,rfl⟩;have hlx:=h3.len;rw[←hln]at hlx;have hlen9:=Gw args;obtain⟨H2,e2,k2,n2,q0,q1⟩:=Jk H [.int .i64 op,.bool neg,va,vd,vx] [.int .i64 0,.bool false,.slice none 0 0,.slice none 0 0];refine CWO_intro 62 (by decide) (by decide) Tryz.func75 rfl rfl ?_;apply Zb;intro b1 hb1;apply Za;simp[Value.cells,Jv,Vl,e2];subst hb1;apply Zb;intro b1 hb1;apply Za;simp;subst hb1;apply Zb;intro b1 hb1;apply Za;simp;subst hb1;apply Zb;intro b1 hb1;apply Zb;intro b2 hb2;apply Za;simp[Ah,loadX4 q0,hlx];subst hb2;apply Zx;refine Qg (fun n s'=>s'.k=62∧ ∃(i:Nat) (av tv':Value) (css:List (List Value)),n+i=len∧KAt bw H s'.H∧H.n+2≤s'.H.n∧(∀j,j<H.n→j≠bw→Xt tv≠some j→s'.H.blk j=H.blk j)∧FoIn s'.H bw m keep (L++Jd (args.take i)) tv'∧(∀b,Xt tv'=some b→Xt tv=some b∨H.n+2≤b)∧s'.H.blk H.n= .rw 1 [.int .i64 op,.bool neg,va,vd,vx]∧s'.H.blk (H.n+1)= .rw 1 [.int .i64 0,.bool false,.slice none 0 0,.slice none 0 0]∧Lst 4 s'.H av css∧Eg s'.H css (Xu (args.take i))∧(∀b,Xt av=some b→H.n+2≤b∧Xt tv'≠some b)∧(keep=true∨(Xu (args.take i)).any FD.isUnd=false)∧s'.tm.get 0=some (.pointer (some ⟨bw,0,none⟩))∧s'.tm.get 3=some (.pointer (some ⟨H.n,0,none⟩))∧s'.tm.get 4=some (.pointer (some ⟨H.n+1,0,none⟩))∧s'.tm.get 5=some av∧s'.tm.get 6=some (.bool ((Xu (args.take i)).any FD.isUnd))∧s'.tm.get 12=some vx∧s'.tm.get 13=some (.int .i64 (len:Int))∧s'.tm.get 14=some (.int .i64 (i:Int))) ?_ len _ ⟨rfl,0,.slice none 0 0,tv,[],by omega,k2.kat bw,by show H.n+2≤H2.n;omega,fun j hj _ _=>k2.blk j hj,by simpa[Jd]using hFo.keep k2,fun b hb=> .inl hb,q0,q1,.nil,by simp[Xu,Eg],(fun b hb=>by cases hb),by simp[Xu],by simp,by simp,by simp,by simp,by simp[Xu],by simp,by simp,by simp⟩;rintro n' ⟨k,tm,Hc⟩ ⟨hk,i,av,tv',css,hni,kac,nHc,frc,hFoc,htv',qx,qz,hLa,hFa,hav,hky,u0,u3,u4,u5,u6,u12,u13,u14⟩ Q' hQ';simp only at hk kac nHc frc hFoc qx qz hLa hFa u0 u3 u4 u5 u6 u12 u13 u14;subst hk;obtain⟨a,ha⟩: ∃a,a=(Xu (args.take i)).any FD.isUnd:=⟨_,rfl⟩;rw[←ha]at u6 hky;have kc0:Keep H0 Hc:=kac H0 k0 hb0;have hcl:=hFa.len;have htvb: ∀b,Xt tv'=some b→bw≤b:=fun b hb=>by
    rcases htv' b hb with h|h;·exact htv b h
    ·omega
   apply Zb;intro b3 hb3;apply Za;simp[u13,u14,lssN];subst hb3;apply Zb;intro b3 hb3;by_cases hi:i<len;·refine Zc (t:=true) (by simp[hi]) ?_;apply Zj;subst hb3;obtain⟨ti,hti⟩: ∃ti,args[i]?=some ti:=⟨args[i]'(by omega),List.getElem?_eq_getElem (by omega)⟩;have hnt:=Cx hti;obtain⟨p,us,hadr,hlod,hEt⟩:=h3.at hti;have hld:=hlod Hc kc0;obtain⟨H4,st4,k4,q8,n4⟩:=newX (H:=Hc) hEt.len hEt.ones;have hFo4:=hFoc.keep k4;have hplen:=Db (args.take i);obtain⟨o,H5,hc5,hp5⟩:=ih ti (by omega) H0 H4 us bw m keep _ tv' hEt (Ef ws hti) (Cj hga hti) (by have:=wtAll_get hti;omega) hW (kc0.trans k4) hb0 hFo4 htvb (by rw[List.length_append,hplen];omega);have l8:=Kd q8 hEt.len;apply Zb;intro b3 hb3;apply Zx;apply Zb;intro b4 hb4;apply Za;simp[u12,u14,hadr,hld,Bs,Value.cells,st4];subst hb4;apply Zb;intro b4 hb4;cases o with
    |pan v=>obtain⟨hk0,hund,rfl,ka5⟩:=hp5;have c5:=callI_no hc5;have p5:=callOI_pan hc5;apply W_rpan;simp[u0,l8,c5,p5,Xw,Xk];apply hQ';simp[Dz,Xw,Xk];refine⟨hk0,?_,rfl,(kac.trans (k4.kat bw)).trans ka5⟩;have:(Xu args).any FD.isUnd=true:=List.any_eq_true.mpr ⟨ti.fold,by rw[Kg];exact List.mem_map.mpr ⟨ti,List.mem_of_getElem? hti,rfl⟩,hund⟩;simp only[ET.fold];rw[if_pos this];rfl
    |ret x=>
     obtain⟨hkd,fvs,tv5,rfl,hfv,hFo5,htv5,n5,ka5,fr5⟩:=hp5;have c5:=callOI_ret hc5;have f45:=fold_fr hFo4 hFo5.1 (by obtain⟨_,_,_,h,_⟩:=hFo5;exact h.shape) n5 fr5;obtain⟨H6,st6,k6,q9,n6⟩:=newFv (H:=H5) hfv.len hfv.ones;apply Za;simp[u0,l8,c5,Jv,Value.cells,st6];subst hb4;have hfv6:=hfv.fr k6.fr;obtain⟨p1,p2,p3,rfl,htr⟩:=hfv.trio;have hones:=hfv.ones;refine Qz (fun s'=>s'.k=62∧s'.H=H6∧s'.tm.get 0=some (.pointer (some ⟨bw,0,none⟩))∧s'.tm.get 3=some (.pointer (some ⟨H.n,0,none⟩))∧s'.tm.get 4=some (.pointer (some ⟨H.n+1,0,none⟩))∧s'.tm.get 5=some av∧s'.tm.get 6=some (.bool (a||ti.fold.isUnd))∧s'.tm.get 9=some (.pointer (some ⟨H5.n,0,none⟩))∧s'.tm.get 12=some vx∧s'.tm.get 13=some (.int .i64 (len:Int))∧s'.tm.get 14=some (.int .i64 (i:Int))) ?_ ?_;·intro Q'' hQ'';cases a with|true=>apply Za;simp[u6];apply hQ'';exact⟨rfl,rfl,by simp[u0],by simp[u3],by simp[u4],by simp[u5],by simp,by simp,by simp[u12],by simp[u13],by simp[u14]⟩|false=>apply Za;simp[u6,faF0,Cw q9,kindUnd];apply hQ'';exact⟨rfl,rfl,by simp[u0],by simp[u3],by simp[u4],by simp[u5],by simp,by simp,by simp[u12],by simp[u13],by simp[u14]⟩
     clear u0 u3 u4 u5 u6 u12 u13 u14;rintro⟨k,tm2,Hx⟩ ⟨hk,hHx,u0,u3,u4,u5,u6,u9,u12,u13,u14⟩;simp only at hk hHx u0 u3 u4 u5 u6 u9 u12 u13 u14;subst hk;subst hHx;have hLa6:Lst 4 Hx av css:=by have h4:=hLa.keep k4;have h5:Lst 4 H5 av css:=h4.frame n5 fun b hb=>fr5 b (h4.blk_lt hb).1 (by have:=(hav b hb).1;omega) (hav b hb).2;exact h5.keep k6
     have hFa6:=((hFa.fr k4.fr).fr f45).fr k6.fr;obtain⟨G,hG⟩: ∃G,G=Hx.new 4 [.int .i64 ti.fold.kind,p1,p2,p3]:=⟨_,rfl⟩;have kG:Keep Hx G:=by rw[hG];exact Keep.new _ _ _
     have nG:G.n=Hx.n+1:=by rw[hG];rfl
     have bG:G.blk Hx.n= .rw 4 [.int .i64 ti.fold.kind,p1,p2,p3]:=by rw[hG,AH.blk_new,if_pos rfl]
     have hbs:=buildF1 Hx (.int .i64 ti.fold.kind) p1 p2 p3;rw[←hG]at hbs;have hfl:(Xu (args.take i)).length=i:=by rw[Kg,List.length_map,List.length_take];omega
     obtain⟨H7,hap,n7,oth7,hL7,hk0,hk1⟩:=(hLa6.keep kG).append (by decide) bG rfl hones sFs (by decide) Jv rfl (by omega);have ka7:KAt bw G H7:=by cases hvl:Xt av with|none=>exact(hk0 hvl).1.kat bw|some b=>exact(hk1 b hvl).1.weak (by have:=(hav b hvl).1;omega)
     have nn:Hc.n≤H4.n:=k4.n;have nn6:=k6.n;have f7:Fr G H7:=⟨by omega,fun j hj=>by
      by_cases e:Xt av=some j;·exact .inr (.inl ⟨4,_,((hLa6.keep kG).blk_lt e).2,by decide⟩)
      ·exact .inl (oth7 j hj e)⟩;have hFo7:FoIn H7 bw m keep (L++Jd (args.take i)++ti.parts) tv5:=by have hG5:=(hFo5.keep k6).keep kG;obtain⟨g1,g2,css5,g3,g4⟩:=hG5;refine⟨(oth7 bw g2 (fun e=>by have:=(hav bw e).1;omega)).trans g1,by omega,css5,g3.frame (by omega) fun b hb=>oth7 b (g3.blk_lt hb).1 (fun e=>?_),g4.fr f7⟩;have h1:=htv5 b hb;have h2:=(hLa.blk_lt e).1;omega
     have hb7: ∀j,j<H4.n→j≠bw→Xt tv'≠some j→Xt av≠some j→H7.blk j=Hc.blk j∨Hc.n≤j:=fun j hj h1 h2 h3=>by
      rcases Nat.lt_or_ge j Hc.n with h|h;·refine .inl ?_;rw[oth7 j (by omega) h3,kG.blk j (by omega),k6.blk j (by omega),fr5 j hj h1 h2,k4.blk j h]
      ·exact .inr h
     have old: ∀j,j<H.n+2→j≠bw→Xt tv≠some j→H7.blk j=Hc.blk j:=fun j hj h1 h2=>by
      rcases hb7 j (by omega) h1 (fun e=>by
       rcases htv' j e with h|h;·exact h2 h
       ·omega) (fun e=>by have:=(hav j e).1;omega)with h|h;·exact h
      ·omega
     have htn: ∀j,H.n≤j→Xt tv≠some j:=fun j hj e=>by obtain⟨_,_,c0,hc0,_⟩:=hFo;have:=(hc0.blk_lt e).1;omega
     apply Za;simp[u5,u9,Za5 q9,hbs,hap];simp[Xk];subst hb3;apply Za;simp[u14,Cf (x:=i) (by omega)];apply hQ';refine⟨n'-1,by omega,rfl,i+1,.slice (some ⟨G.n,0,none⟩) (css.length+1) (css.length+1),tv5,css++[[.int .i64 ti.fold.kind,p1,p2,p3]],by omega,(((((kac.trans (k4.kat bw)).trans ka5).trans (k6.kat bw)).trans (kG.kat bw)).trans ka7),by show H.n+2≤H7.n;omega,fun j hj h1 h2=>(old j (by omega) h1 h2).trans (frc j hj h1 h2),?_,fun b hb=> .inr (by have:=htv5 b hb;omega),(old _ (by omega) (by omega) (htn _ (by omega))).trans qx,(old _ (by omega) (by omega) (htn _ (by omega))).trans qz,hL7,?_,(fun b hb=>?_),?_,by simp[u0],by simp[u3],by simp[u4],by simp,?_,by simp[u12],by simp[u13],by simp⟩;·rw[partsAll_take hti,←List.append_assoc];exact hFo7
     ·rw[Ai hti];exact Eg.append ((hfv6.fr kG.fr).fr f7) ((hFa6.fr kG.fr).fr f7)
     ·cases hb;refine⟨by omega,fun e=>?_⟩;obtain⟨_,_,c0,hc0,_⟩:=hFo5;have:=(hc0.blk_lt e).1;omega
     ·rcases hkd with h|h;·exact .inl h
      ·rcases hky with h'|h';·exact .inl h'
       ·right;rw[Ai hti,List.any_append,←ha,h'];simp[h]
     ·rw[Ai hti,List.any_append,←ha];simp[u6]
   ·refine Zc (t:=false) (by simp[hi]) ?_;apply Qf;apply hQ';left;refine⟨rfl,?_⟩;clear hQ';obtain rfl:i=len:=by omega
    have htk:args.take i=args:=List.take_of_length_le (by omega);rw[htk]at hFoc hFa ha;subst hb1;obtain⟨H4,st4,k4,q10,n4⟩:=Kq (H:=Hc) (k:= .int .i64 2) (p:= .bool false) (q:= .slice none 0 0) (r:= .slice none 0 0) rfl;have hfold:(ET.node op neg abs den args).fold=if a=true then .und else Qw op neg (dv B64 abs) (dv B64 den) (Xu args):=by simp only[ET.fold];rw[←ha]
    obtain⟨T,hT⟩: ∃T,T=(ET.node op neg abs den args).fold:=⟨_,rfl⟩;rw[←hT]at hfold;have qx4:=(k4.blk _ (by omega)).trans qx;apply Zb;intro b1 hb1;apply Za;simp[Ei,Jv,Value.cells,st4];subst hb1;refine Qz (fun s'=>s'.k=62∧Keep Hc s'.H∧Hc.n<s'.H.n∧(∃cs,s'.H.blk Hc.n= .rw 1 cs∧FIn s'.H cs T)∧s'.tm.get 0=some (.pointer (some ⟨bw,0,none⟩))∧s'.tm.get 4=some (.pointer (some ⟨H.n+1,0,none⟩))∧s'.tm.get 10=some (.pointer (some ⟨Hc.n,0,none⟩))) ?_ ?_;·intro Q'' hQ'';apply Zb;intro b2 hb2;apply Za;simp[u6];subst hb2;cases a with|true=>refine Zc (t:=false) (by simp) ?_;apply Zj;apply hQ'';rw[if_pos rfl]at hfold;exact⟨rfl,k4,by show Hc.n<H4.n;omega,⟨_,q10,by rw[hfold];rfl⟩,by simp[u0],by simp[u4],by simp⟩|false=>rw[if_neg (by decide)]at hfold;have hFo4:=hFoc.keep k4;have k04:=kc0.trans k4;have hokf:=fold_ok;obtain⟨x,H5,c5,k5,cs5,rfl,hf5⟩:=top_ok (vx:=vx) (h1.keep k04) (h2.keep k04) da dd wa wd hgn (hLa.keep k4) (hFa.fr k4.fr) (by rw[Kg,List.length_map]) ha.symm (fun g hgm=>by rw[Kg]at hgm;obtain⟨t',ht',rfl⟩:=List.mem_map.mp hgm;obtain⟨j,hj⟩:=List.mem_iff_getElem?.mp ht';exact(fold_ok _ t' (Nat.le_refl _) (Cj hga hj) (Ef ws hj)).1) (Nat.le_trans (foldAll_w hga ws) hwt') (fun e=>by have b1:=Zj1 da;have b2:=Zj1 dd;simp only[ET.wt,if_pos e]at hwt;omega) hFo4.1 hFo4.2.1 (hW.keep k04);rw[←hfold]at hf5;have q10':=(k5.blk _ (by omega)).trans q10;obtain⟨H6,st6,n6,q10',b6,ka6,hf6⟩:=Vy q10' rfl hf5;have hlX:=Kd (vs:=[.int .i64 op,.bool neg,va,vd,vx]) qx4 rfl;have n5:=k5.n;have k6:Keep Hc H6:=ka6 Hc (k4.trans k5) (Nat.le_refl _);refine Zc (t:=true) (by simp) ?_;apply Za;simp[u0,u3,u5,hlX,c5,st6];apply hQ'';exact⟨rfl,k6,by show Hc.n<H6.n;omega,⟨_,q10',hf6⟩,by simp[u0],by simp[u4],by simp⟩
    clear u0 u3 u4 u5 u6 u12 u13 u14;rintro⟨k,tm2,Hd⟩ ⟨hk,kcd,nHd,⟨cs,q10,hfc⟩,u0,u4,u10⟩;simp only at hk kcd nHd q10 hfc u0 u4 u10;subst hk;have hFod:=hFoc.keep kcd;have qzd:=(kcd.blk _ (by omega)).trans qz;have hu2:=hfc.ones;obtain⟨c1,c2,c3,rfl,htr⟩:=hfc.trio;have kad:KAt bw H Hd:=kac.trans (kcd.kat bw);by_cases hpn:keep=false∧T.isUnd=true;·obtain⟨hk0,hund⟩:=hpn;subst hk0;apply Zb;intro b1 hb1;apply Zb;intro b2 hb2;apply Za;simp[u10,faF0,Cw q10,kindUnd,hund,u0,faFo2,loadFo2 hFod.1];subst hb2;refine Zc (t:=true) (by simp) ?_;apply W_rpan;simp[bUnd,isIfU,Xw];exact⟨rfl,by rw[←hT];exact hund,rfl,kad⟩
    ·refine Qz (fun s'=>s'.k=62∧s'.H=Hd∧s'.tm.get 0=some (.pointer (some ⟨bw,0,none⟩))∧s'.tm.get 4=some (.pointer (some ⟨H.n+1,0,none⟩))∧s'.tm.get 10=some (.pointer (some ⟨Hc.n,0,none⟩))) ?_ ?_;·intro Q'' hQ'';apply Zb;intro b2 hb2;cases hund:T.isUnd with
      |false=>apply Za;simp[u10,faF0,Cw q10,kindUnd,hund];subst hb2;refine Zc (t:=false) (by simp) ?_;apply Zj;apply hQ'';exact⟨rfl,rfl,by simp[u0],by simp[u4],by simp[u10]⟩
      |true=>
       have hk1:keep=true:=by cases keep with|true=>rfl|false=>exact absurd ⟨rfl,hund⟩ hpn
       subst hk1;apply Za;simp[u10,faF0,Cw q10,kindUnd,hund,u0,faFo2,loadFo2 hFod.1];subst hb2;refine Zc (t:=false) (by simp) ?_;apply Zj;apply hQ'';exact⟨rfl,rfl,by simp[u0],by simp[u4],by simp[u10]⟩
     clear u0 u4 u10;rintro⟨k,tm3,Hx⟩ ⟨hk,hHx,u0,u4,u10⟩;simp only at hk hHx u0 u4 u10;subst hk;subst hHx;have hkeep:keep=true∨T.isUnd=false:=by cases keep with
      |true=>exact .inl rfl
      |false=>cases hund:T.isUnd with|false=>exact .inr rfl|true=>exact absurd ⟨rfl,hund⟩ hpn
     obtain⟨css0,hLt,hFt⟩:=hFod.2.2;have hlt:=hFt.len;have hplen:=Db args;rw[List.length_append,hplen]at hlt;obtain⟨Gc,hGc⟩: ∃Gc,Gc=grown Hx (Hx.top.new 4 [.int .i64 T.kind,c1,c2,c3]):=⟨_,rfl⟩;have kGc:Keep Hx Gc:=by rw[hGc];exact Zu (.refl _) (Keep.new _ _ _)
     have nGc:Gc.n=Hx.n+1:=by rw[hGc];rfl
     have bGc:Gc.blk Hx.n= .rw 4 [.int .i64 T.kind,c1,c2,c3]:=by rw[hGc,(Yg (Keep.new Hx.top 4 _)).blk Hx.n (Nat.lt_succ_self _) (fun e=>by cases e),AH.blk_new,if_pos (show Hx.n=Hx.top.n from rfl)]
     have hbs:=buildF1 Hx.top (.int .i64 T.kind) c1 c2 c3;obtain⟨He,hap,ne,othe,hLe,hk0,hk1⟩:=((hLt.keep kGc).keep (Dy Gc)).append (by decide) (show Gc.top.blk Hx.n=_ from bGc) rfl hu2 sFs (by decide) Jv rfl (by omega);have ne:He.n=Gc.n+1:=ne;have hLe:Lst 4 He (.slice (some ⟨Gc.n,0,none⟩) (css0.length+1) (css0.length+1)) (css0++[[.int .i64 T.kind,c1,c2,c3]]):=hLe;have hap:Vb Tryz.prog Gc.top 83 83 tv' (.slice (some ⟨Hx.n,0,none⟩) 1 1)=some (.slice (some ⟨Gc.n,0,none⟩) (css0.length+1) (css0.length+1),He):=hap;have htvn: ∀b,Xt tv'=some b→b<Hx.n:=fun b hb=>(hLt.blk_lt hb).1;have fin: ∀G3:AH,But none He G3→KAt bw Gc G3→ ∃Hs,Xp Tryz.prog G3.top 83 (.pointer (some ⟨bw,1,none⟩)) (.slice (some ⟨Gc.n,0,none⟩) (css0.length+1) (css0.length+1))=some Hs∧G3.n≤Hs.n∧Hs.lw<G3.n∧ ∀G4,G4=low G3 Hs→G4.n=He.n∧FoIn G4 bw m keep (L++Jd args++[T]) (.slice (some ⟨Gc.n,0,none⟩) (css0.length+1) (css0.length+1))∧KAt bw Hx G4∧(∀j,j<Hx.n→j≠bw→Xt tv'≠some j→G4.blk j=Hx.blk j)∧Fr Hx G4:=fun G3 bt kag=>by
      have hbw3:G3.blk bw= .rw 1 [.map (some m),tv',.bool keep]:=by have hb1:=hFod.2.1;rw[bt.blk bw (by omega) (fun e=>by cases e),othe bw (by show bw<Gc.n;omega) (fun e=>by have h:=(hLt.blk_lt e).2;rw[hFod.1]at h;cases h)];exact(kGc.blk _ hb1).trans hFod.1
      have hb3:bw<G3.n:=by rw[bt.n];have:=hFod.2.1;omega
      obtain⟨Hs,ss,sn,slw,fn,fb,fo,fk⟩:=putFo1 (v:= .slice (some ⟨Gc.n,0,none⟩) (css0.length+1) (css0.length+1)) hbw3 hb3 rfl rfl;refine⟨Hs,ss,by omega,slw,fun G4 hG4=>?_⟩;rw[←hG4]at fn fb fo fk;have n4:G4.n=He.n:=by rw[fn,bt.n]
      have hfrm: ∀j,j<Hx.n→j≠bw→Xt tv'≠some j→G4.blk j=Hx.blk j:=fun j hj h1 h2=>by rw[fo j h1,bt.blk j (by omega) (fun e=>by cases e),othe j (by show j<Gc.n;omega) h2];exact kGc.blk j hj
      have fr:Fr Hx G4:=fold_fr hFod fb ⟨_,_,_,rfl⟩ (by omega) hfrm;refine⟨n4,⟨fb,by have:=hFod.2.1;omega,_,hLe.frame (by omega) fun b hb=>?_,?_⟩,((kGc.kat bw).trans kag).trans fk,hfrm,fr⟩;·cases hb;have:=hFod.2.1;rw[fo Gc.n (by omega),bt.blk Gc.n (by omega) (fun e=>by cases e)]
      ·exact Eg.append (hfc.fr fr) (hFt.fr fr)
     refine Qz (fun s'=>s'.k=62∧s'.H.n=He.n∧FoIn s'.H bw m keep (L++Jd args++[T]) (.slice (some ⟨Gc.n,0,none⟩) (css0.length+1) (css0.length+1))∧KAt bw Hx s'.H∧(∀j,j<Hx.n→j≠bw→Xt tv'≠some j→s'.H.blk j=Hx.blk j)∧Fr Hx s'.H∧s'.tm.get 4=some (.pointer (some ⟨H.n+1,0,none⟩))∧s'.tm.get 10=some (.pointer (some ⟨Hc.n,0,none⟩))) ?_ ?_
     ·intro Q'' hQ'';apply Qs (by kernel_rfl);simp[u0,faFo1];refine Yh (v:=tv') rfl rfl rfl (by rw[Zm rfl];simp[loadFo1 (H:=AH.top Hx) hFod.1]) ?_;simp[u10];refine Yh (v:= .agg #[.int .i64 T.kind,c1,c2,c3]) rfl rfl rfl (by rw[Zm rfl];simp[u10,Za5 (H:=AH.top Hx) q10]) ?_;simp;refine Yu (v:= .slice (some ⟨Hx.n,0,none⟩) 1 1) (H2:=Hx.top.new 4 [.int .i64 T.kind,c1,c2,c3]) rfl rfl rfl ?_ (Nat.le_succ _) (Nat.le_refl _) ?_;·rw[Zm rfl];simp[hbs];rfl
      rw[←hGc];have hbt:Nat.blt Hx.n (Hx.top.new 4 [.int .i64 T.kind,c1,c2,c3]).n=true:=by rw[Nat.blt_eq];exact Nat.lt_succ_self _
      rw[hbt,cond_true];have hid: ∀bits:Nat,bits.testBit 6=true→ ∀x∈[((6:Nat),Hx.n,(Hx.top.new 4 [.int .i64 T.kind,c1,c2,c3]).n)],bits.testBit x.1=true:=fun bits b6 x hx=>by rw[List.mem_singleton.mp hx];exact b6
      simp;cases hxb:Xt tv' with
       |none=>
        refine Yu (v:= .slice (some ⟨Gc.n,0,none⟩) (css0.length+1) (css0.length+1)) (H2:=He) rfl rfl rfl ?_ (by omega) (by rw[(hk0 hxb).2];exact Nat.le_refl _) ?_;·rw[Zm (Xe (hid _ (by kernel_rfl)))];simp[hap]
        have bt:But none He (grown Gc He):=Yg (hk0 hxb).1;have kag:KAt bw Gc (grown Gc He):=(Zu (.refl _) (hk0 hxb).1).kat bw;obtain⟨Hs,ss,sn,slw,hfin⟩:=fin _ bt kag;obtain⟨f1,f2,f3,f4,f5⟩:=hfin _ rfl;have hbt2:Nat.blt Gc.n He.n=true:=by rw[Nat.blt_eq];omega
        rw[hbt2,cond_true];simp[u0,faFo1];refine Xd (v:= .tuple #[]) (H2:=Hs) rfl rfl (by kernel_rfl) (Xe fun x hx=>?_) ?_ sn slw ?_
        ·rcases List.mem_cons.mp hx with e|e;·rw[e];kernel_rfl
         ·exact hid _ (by kernel_rfl) x e
        ·show Yf _ _ _ _ (grown Gc He).top _=_;simp[ss]
        simp;apply hQ'';exact⟨rfl,f1,f2,f3,f4,f5,by simp[u4],by simp[u10]⟩
       |some b=>
        have hb1:=hk1 b hxb;refine Xd (v:= .slice (some ⟨Gc.n,0,none⟩) (css0.length+1) (css0.length+1)) (H2:=He) rfl rfl (by kernel_rfl) (Xe (hid _ (by kernel_rfl))) ?_ (by omega) (by have h2:b<Gc.n:=hb1.2.2;have h3:=hb1.2.1;omega) ?_;·show Yf _ _ _ _ Gc.top _=_;simp[hap]
        have bt:But none He (low Gc He):=Zk4 Gc He;have kag:KAt bw Gc (low Gc He):=Cl (hb1.1.weak (htvb b hxb));obtain⟨Hs,ss,sn,slw,hfin⟩:=fin _ bt kag;obtain⟨f1,f2,f3,f4,f5⟩:=hfin ({ n:=Hs.n,lw:=min Gc.lw (min He.lw Hs.lw),t:=Hs.t } :AH) (by simp[low,Nat.min_assoc]);have hbt2:Nat.blt Gc.n He.n=true:=by rw[Nat.blt_eq];omega
        rw[hbt2,cond_true];simp[u0,faFo1];refine Xd (v:= .tuple #[]) (H2:=Hs) rfl rfl (by kernel_rfl) (Xe fun x hx=>?_) ?_ sn slw ?_
        ·rcases List.mem_cons.mp hx with e|e;·rw[e];kernel_rfl
         ·exact hid _ (by kernel_rfl) x e
        ·show Yf _ _ _ _ (low Gc He).top _=_;simp[ss]
        simp;apply hQ'';exact⟨rfl,f1,f2,f3,f4,f5,by simp[u4],by simp[u10]⟩
     clear u0 u4 u10;rintro⟨k,tm4,Hf⟩ ⟨hk,nHf,hFof,kaf,frf,f5,u4,u10⟩;simp only at hk nHf hFof kaf frf f5 u4 u10;subst hk;have htn: ∀j,H.n≤j→j<H.n+2→Xt tv'≠some j:=fun j hj hj2 e=>by
      rcases htv' j e with h|h;·obtain⟨_,_,c0,hc0,_⟩:=hFo;have:=(hc0.blk_lt h).1;omega
      ·omega
     have ntc:Xt tv'≠some Hc.n:=fun e=>by obtain⟨_,_,c0,hc0,_⟩:=hFoc;have:=(hc0.blk_lt e).1;omega
     have q10f:=(frf _ nHd (by omega) ntc).trans q10;have qzf:=(frf _ (by omega) (by omega) (htn _ (by omega) (by omega))).trans qzd;have hfcf:=hfc.fr f5;obtain⟨H9,st9,n9,q9,b9,ka9,hf9⟩:=Vy qzf rfl hfcf;have fr9:=Fr.put qzf q9 n9 b9 rfl rfl hfcf.noU;have hFo9:FoIn H9 bw m keep (L++Jd args++[T]) (.slice (some ⟨Gc.n,0,none⟩) (css0.length+1) (css0.length+1)):=hFof.off (b:=H.n+1) (by omega) (fun e=>by injection e with e;omega) n9 b9 fr9;have hl9:=Jn q9 rfl;try simp at st9 hl9
     apply Zb;intro b1 hb1;apply Za;simp[u10,u4,Za5 q10f,st9];subst hb1;apply Zn;simp[u4,hl9];refine⟨by rw[←hT];exact hkeep,[.int .i64 T.kind,c1,c2,c3],.slice (some ⟨Gc.n,0,none⟩) (css0.length+1) (css0.length+1),rfl,by rw[←hT];exact hf9,?_,fun b hb=>?_,by omega,(kad.trans kaf).trans (ka9.weak (by omega)),fun j hj h1 h2=>?_⟩;·rw[parts_node,←hT,←List.append_assoc];exact hFo9
     ·cases hb;omega
     ·rw[b9 _ (by omega),frf _ (by omega) h1 (fun e=>by
      rcases htv' j e with h|h;·exact h2 h
      ·omega),kcd.blk _ (by omega)];exact frc j hj h1 h2
end
end
theorem neqNil:Xy Tryz.prog .neq 20 .nilIface .nilIface=some (.bool false):=by kernel_rfl
theorem neqUndV:Xy Tryz.prog .neq 20 undV .nilIface=some (.bool true):=by kernel_rfl
theorem asUnd:assertV Tryz.prog undV 148 true=some (.tuple #[.agg #[],.bool true]):=by kernel_rfl
theorem zUnd:Uu Tryz.prog 148=some (.agg #[]):=by kernel_rfl
theorem sUnd:Qr Tryz.prog 148=some 0:=by kernel_rfl
theorem newUnd(H:AH): ∃H',Xp Tryz.prog (H.new 1 []) 148 (.pointer (some ⟨H.n,0,none⟩)) (.agg #[])=some H'∧Keep H H'∧H'.blk H.n= .rw 1 []∧H'.n=H.n+1:=Vg sUnd rfl rfl rfl rfl
theorem bFolder(m:Nat):Ux Tryz.prog 132 [(0,.map (some m))]=some (.agg #[.map (some m),.slice none 0 0,.bool false]):=by rfl
theorem plainUnd:plain undV=true:=rfl
structure TreeOk (H : AH) (vs : List Value) (t : ET) : Prop where
  tin : TreeIn H vs t
  good : t.allGood = true
  wt : t.wt ≤ 67108864
theorem TreeOk.keep{H H':AH}{vs:List Value}{t:ET}(h:TreeOk H vs t)(k:Keep H H'):TreeOk H' vs t:=⟨h.tin.keep k,h.good,h.wt⟩
section
attribute [-simp] Int.natCast_add Int.natCast_mul Int.natCast_ediv Int.natCast_emod Int.natCast_pow
attribute [local simp] strip Yd LW' LR gW Yf Xh Ya Xi Yo Xj Zr Zs Zh Yp Yy Yk Xo Zw Yq Zi Ze Xn Xm Je Ye Xa opd Qe Ym plain Yj Tr.get_set Qc Zp Xy Yc sameKind undef Zt Yr Yv Zk Yb parts unV DW Xq Zv LX Zy
attribute [local simp] Qh Qt Gy LP' Et Ft Zl2
section
variable {H : AH} {vs : List Value} {t : ET}
theorem folded1_nil{b:Nat}{K:AH→Prop}(hK:K H):CWD Tryz.prog Zo 95 [.pointer (some ⟨b,0,none⟩)] .nilIface H K:=by refine Vo 16 Tryz.func95 rfl rfl ?_;refine WS_seq (by kernel_rfl) ?_;apply Vp (by kernel_rfl);apply Za;simp[Vn,isRec];apply Zb;intro b1 hb1;apply Za;simp[-Xy,neqNil];subst hb1;refine Zc (t:=false) (by simp) ?_;apply Zj;simp;exact hK
theorem folded1_und{b:Nat}{k' p' q' r':Value}{K:AH→Prop}(hb:H.blk b= .rw 1 [k',p',q',r'])(hn:b<H.n)(hK: ∀H',KAt b H H'→H.n≤H'.n→H'.blk b= .rw 1 [.int .i64 2,.bool false,.slice none 0 0,.slice none 0 0]→K H'):CWD Tryz.prog Zo 95 [.pointer (some ⟨b,0,none⟩)] undV H K:=by obtain⟨H2,st2,k2,q2,n2⟩:=newUnd H;have hb2:=(k2.blk _ hn).trans hb;obtain⟨H3,st3,n3,q3,b3,ka3⟩:=putF (k:=2) hb2 (p:= .bool false) (q:= .slice none 0 0) (r:= .slice none 0 0) ⟨⟨_,rfl⟩,⟨_,_,_,rfl⟩,⟨_,_,_,rfl⟩⟩;refine Vo 16 Tryz.func95 rfl rfl ?_;refine WS_seq (by kernel_rfl) ?_;apply Vp (by kernel_rfl);apply Za;simp[Vn,isRec,plainUnd,-plain];apply Zb;intro b1 hb1;apply Za;simp[-Xy,neqUndV];subst hb1;refine Zc (t:=true) (by simp) ?_;apply Zb;intro b1 hb1;apply Zb;intro b2 hb2;apply Za;simp[asUnd,zUnd,Value.cells,st2];subst hb2;apply Zb;intro b2 hb2;apply Za;simp;subst hb2;refine Zc (t:=false) (by simp) ?_;apply Zj;subst hb1;apply Za;simp[Ei,st3];exact hK H3 ((k2.kat b).trans ka3) (by omega) q3
theorem folded_call(h:TreeOk H vs t): ∃us H',Zq Tryz.prog Zo 67 [.agg vs.toArray] H=some (.agg us.toArray,H')∧Keep H H'∧FIn H' us t.fold:=by
 suffices hs:CW Tryz.prog Zo 67 [.agg vs.toArray] H fun x H'=> ∃us:List Value,x= .agg us.toArray∧Keep H H'∧FIn H' us t.fold by obtain⟨x,H',hc,us,rfl,k⟩:=hs;exact⟨us,H',hc,k⟩
 have hl:=h.tin.ex.len;obtain⟨H2,e2,k2,n2,q0,q1⟩:=Jk H vs [.int .i64 0,.bool false,.slice none 0 0,.slice none 0 0];obtain⟨m,H3,c3,k3,hW⟩:=works_call H2;obtain⟨H4,hH4⟩: ∃H4,H4=H3.new 1 [.map (some m),.slice none 0 0,.bool false]:=⟨_,rfl⟩;have k4:Keep H3 H4:=by rw[hH4];exact Keep.new _ _ _
 have n4:H4.n=H3.n+1:=by rw[hH4];rfl
 have q4:H4.blk H3.n= .rw 1 [.map (some m),.slice none 0 0,.bool false]:=by rw[hH4,AH.blk_new,if_pos rfl]
 have n3:=k3.n;have q0':=(k4.blk _ (by omega)).trans ((k3.blk _ (by omega)).trans q0);have q1':=(k4.blk _ (by omega)).trans ((k3.blk _ (by omega)).trans q1);have hX:=Kd q0' hl;obtain⟨o,H5,hc5,hp5⟩:=fold_walk _ t (Nat.le_refl _) H3 H4 vs H3.n m false [] (.slice none 0 0) ((h.tin.ex.keep k2).keep k3) h.tin.wide h.good h.wt hW k4 (Nat.le_refl _) ⟨q4,by omega,[],.nil,trivial⟩ (fun b hb=>by cases hb) (by have:=h.tin.nodes;simp;omega);have kk:=k2.trans k3;refine Ua 11 (by decide) (by decide) Tryz.func67 rfl rfl rfl ?_;intro b1 hb1;apply Za;simp[Value.cells,Jv,Vl,e2];refine⟨_,_,⟨rfl,rfl⟩,?_⟩;subst hb1;apply Zb;intro b1 hb1;apply Za;simp[c3,bFolder,Value.cells,←hH4];subst hb1;cases o with
  |ret x=>obtain⟨_,us,tv',rfl,hf5,hFo5,_,n5,ka5,fr5⟩:=hp5;have c5:=callOI_ret hc5;have q1'':=(fr5 _ (by omega) (by omega) (by simp[Xt])).trans q1';obtain⟨H6,st6,n6,q6,b6,ka6,hf6⟩:=Vy q1'' rfl hf5;have k6:Keep H H6:=ka6 H (ka5 H (kk.trans k4) (by have:=kk.n;omega)) (by omega);have hld:=Jn q6 hf6.len;apply Zb;intro b1 hb1;apply Za;simp[hX,c5,st6];subst hb1;apply Zn;simp[Kl];refine folded1_nil ?_;simp[hld];exact⟨k6,hf6⟩
  |pan v=>
   obtain⟨_,hund,rfl,ka5⟩:=hp5;have c5:=callI_no hc5;have p5:=callOI_pan hc5;have hres:t.fold= .und:=by cases hf:t.fold with|und=>rfl|opn=>rw[hf]at hund;cases hund|rat _ _ _=>rw[hf]at hund;cases hund
   rw[hres];have k5:Keep H3 H5:=ka5 H3 k4 (Nat.le_refl _);have q1'':=(k5.blk _ (by omega)).trans ((k3.blk _ (by omega)).trans q1);apply Zb;intro b1 hb1;apply W_rpan;simp[hX,c5,p5,Xw,Kl,plainUnd,-plain];refine⟨undV,by rfl,?_⟩;have n5:=k5.n;refine folded1_und q1'' (by omega) fun H6 ka6 n6 q6=>?_;simp[Za5 q6];first|exact⟨ka6 H (kk.trans k5) (by omega),rfl⟩|exact⟨_,rfl,ka6 H (kk.trans k5) (by omega),rfl⟩
theorem Zc1(h:TreeOk H vs t)(hc:Dp t=0): ∃us H',Zq Tryz.prog Zo 27 [.agg vs.toArray] H=some (.tuple #[.agg us.toArray,.int .i64 0],H')∧Keep H H'∧FIn H' us t.fold:=by
 suffices hs:CW Tryz.prog Zo 27 [.agg vs.toArray] H fun x H'=> ∃us:List Value,x= .tuple #[.agg us.toArray,.int .i64 0]∧Keep H H'∧FIn H' us t.fold by obtain⟨x,H',hc,us,rfl,k⟩:=hs;exact⟨us,H',hc,k⟩
 have hl:=h.tin.ex.len;obtain⟨H2,e2,k2,n2,q0,q1⟩:=Jk H vs [.int .i64 0,.bool false,.slice none 0 0,.slice none 0 0];have K:=k2;have z0:=q0;obtain⟨H3,c3,k3⟩:=Zg5 (h.tin.keep K);have n3:=k3.n;have K:=K.trans k3;replace q0:=(k3.blk _ (by omega)).trans q0;replace q1:=(k3.blk _ (by omega)).trans q1;rw[hc]at c3;replace c3:Zq Tryz.prog Zo 28 [.agg vs.toArray] H2=some (.int .i64 0,H3):=c3;have z1:=q0;obtain⟨us,H4,c4,k4,hf⟩:=folded_call (h.keep K);have n4:=k4.n;have K:=K.trans k4;replace q0:=(k4.blk _ (by omega)).trans q0;replace q1:=(k4.blk _ (by omega)).trans q1;obtain⟨H5,st5,n5,q5,b5,ka5,hf5⟩:=Vy q1 rfl hf;have K:=ka5 _ K (by omega);have hld:=Jn q5 hf5.len;refine Zl 13 (by decide) (by decide) Tryz.func27 rfl rfl ?_;apply Zb;intro b1 hb1;apply Za;simp[Value.cells,Jv,Vl,e2];subst hb1;apply Zb;intro b1 hb1;apply Zb;intro b2 hb2;apply Za;simp[Kd z0 hl,c3];subst hb2;apply Zb;intro b2 hb2;apply Za;simp[Es];subst hb2;refine Zc (t:=false) (by simp) ?_;apply Zj;subst hb1;apply Zb;intro b1 hb1;apply Za;simp[Kd z1 hl,c4,st5];subst hb1;apply Zn;simp[hld];exact⟨K,hf5⟩
end
end
theorem faRF0(b o:Nat):Yz Tryz.prog 77 (.pointer (some ⟨b,o,none⟩)) 0=some (.pointer (some ⟨b,o,none⟩)):=by kernel_rfl
theorem faRF1(b o:Nat):Yz Tryz.prog 77 (.pointer (some ⟨b,o,none⟩)) 1=some (.pointer (some ⟨b,o+1,none⟩)):=by kernel_rfl
theorem loadRF0{H:AH}{b:Nat}{k p q r:Value}(hb:H.blk b= .rw 1 [k,p,q,r]):Yn Tryz.prog H 3 (.pointer (some ⟨b,0,none⟩))=some k:=Ys aInt (AH.cells_rw' hb (by decide)) rfl
theorem loadRFR{H:AH}{b:Nat}{k p q r:Value}(hb:H.blk b= .rw 1 [k,p,q,r]):Yn Tryz.prog H 42 (.pointer (some ⟨b,1,none⟩))=some (.agg #[p,q,r]):=An hb (by decide) rfl rfl aR sR
theorem faRF1'(b:Nat):Yz Tryz.prog 77 (.pointer (some ⟨b,0,none⟩)) 1=some (.pointer (some ⟨b,1,none⟩)):=faRF1 b 0
def RFIn(H:AH)(vs:List Value):FD→Prop| .opn=>vs=[.int .i64 0,.bool false,.slice none 0 0,.slice none 0 0]| .und=>vs=[.int .i64 2,.bool false,.slice none 0 0,.slice none 0 0]| .rat s A B=> ∃p q,vs=[.int .i64 1,.bool s,p,q]∧Sl H p (ds b32 A)∧Sl H q (ds b32 B)
theorem RFIn.trio{H:AH}{vs:List Value}{f:FD}(h:RFIn H vs f): ∃p q r,vs=[.int .i64 f.kind,p,q,r]∧Eh p q r:=by cases f with|opn=>exact⟨_,_,_,h,⟨_,rfl⟩,⟨_,_,_,rfl⟩,⟨_,_,_,rfl⟩⟩|und=>exact⟨_,_,_,h,⟨_,rfl⟩,⟨_,_,_,rfl⟩,⟨_,_,_,rfl⟩⟩|rat s A B=>obtain⟨p,q,e,h1,h2⟩:=h;exact⟨_,p,q,e,⟨_,rfl⟩,h1.shape,h2.shape⟩
theorem RFIn.len{H:AH}{vs:List Value}{f:FD}(h:RFIn H vs f):vs.length=4:=by obtain⟨p,q,r,rfl,_⟩:=h.trio;rfl
theorem RFIn.ones{H:AH}{vs:List Value}{f:FD}(h:RFIn H vs f):vs.all one=true:=by obtain⟨p,q,r,rfl,⟨s,rfl⟩,⟨a,l,c,rfl⟩,⟨a',l',c',rfl⟩⟩:=h.trio;rfl
theorem RFIn.noU{H:AH}{vs:List Value}{f:FD}(h:RFIn H vs f):noU vs=true:=by obtain⟨p,q,r,rfl,⟨s,rfl⟩,⟨a,l,c,rfl⟩,⟨a',l',c',rfl⟩⟩:=h.trio;rfl
theorem RFIn.fr{H H':AH}{vs:List Value}{f:FD}(h:RFIn H vs f)(k:Fr H H'):RFIn H' vs f:=by cases f with|opn=>exact h|und=>exact h|rat s A B=>obtain⟨p,q,e,h1,h2⟩:=h;exact⟨p,q,e,h1.fr k,h2.fr k⟩
theorem eqBB(s:Bool):Xy Tryz.prog .eql 4 (.bool s) (.bool s)=some (.bool true):=by cases s<;>rfl
theorem Lim32{A:Nat}(h:Zf A≤67108864):(ds b32 A).length≤Lim:=by have h1:A<2^Zf A:=Um A;have h2:2^Zf A≤b32^(Zf A):=Nat.pow_le_pow_left (by decide) _;have:=Fm two32 (Nat.lt_of_lt_of_le h1 h2);show(ds b32 A).length≤2000000000000;omega
section
attribute [-simp] Int.natCast_add Int.natCast_mul Int.natCast_ediv Int.natCast_emod Int.natCast_pow
attribute [local simp] strip Yd LW' LR gW Yf Xh Ya Xi Yo Xj Zr Zs Zh Yp Yy Yk Xo Zw Yq Zi Ze Xn Xm Je Ye Xa opd Qe Ym plain Yj Tr.get_set Qc Zp Xy Yc sameKind undef Zt Yr Yv Zk Yb parts unV DW Xq Zv LX Zy
attribute [local simp] Qh Qt Gy
section
variable {H : AH} {u v w z : Value}
theorem Bl(e:Int)(H:AH):Zq Tryz.prog Zo 13 [.int .i64 e] H=some (.int .i64 e,H):=by
 suffices h:CW Tryz.prog Zo 13 [.int .i64 e] H fun v H'=>v= .int .i64 e∧H'=H by obtain⟨v,H',hc,rfl,rfl⟩:=h;exact hc
 refine Zl 4 (by decide) (by decide) Tryz.func13 rfl rfl ?_;apply Zb;intro b1 hb1;apply Za;simp;subst hb1;apply Zb;intro b1 hb1;apply Za;simp;subst hb1;apply Zn;simp
theorem is_call{A:Nat}(h:Sl H v (ds b32 A))(hw:Sl H w (ds B64 A))(lA:Zf A≤67108864): ∃H',Zq Tryz.prog Zo 65 [v,w] H=some (.bool true,H')∧Keep H H':=by obtain⟨x,H',hc,k,e⟩:=is_spec h hw (Xv two32 A) (Nat.le_trans (Lim32 lA) (by decide));rw[pairs_ds,decide_eq_true rfl]at e;subst e;exact⟨H',hc,k⟩
theorem lawNumber_call{s:Bool}{A B:Nat}(h1:Sl H u (ds B64 A))(h2:Sl H v (ds B64 B))(h3:Sl H w (ds b32 A))(h4:Sl H z (ds b32 B))(lA:Zf A≤67108864)(lB:Zf B≤67108864): ∃H',Zq Tryz.prog Zo 24 [.agg #[.bool s,u,v],.agg #[.bool s,w,z]] H=some (.bool true,H')∧Keep H H':=by
 suffices h:CW Tryz.prog Zo 24 [.agg #[.bool s,u,v],.agg #[.bool s,w,z]] H fun v H'=>v= .bool true∧Keep H H' by obtain⟨v,H',hc,rfl,k⟩:=h;exact⟨H',hc,k⟩
 obtain⟨H2,e2,k2,n2,q0,q1⟩:=Jk H [.bool s,u,v] [.bool s,w,z];have K:=k2;have z0:=q0;have z1:=q1;obtain⟨H3,c3,k3⟩:=is_call (h3.keep K) (h1.keep K) lA;have n3:=k3.n;have K:=K.trans k3;replace q0:=(k3.blk _ (by omega)).trans q0;replace q1:=(k3.blk _ (by omega)).trans q1;have y0:=q0;have y1:=q1;obtain⟨H4,c4,k4⟩:=is_call (h4.keep K) (h2.keep K) lB;have n4:=k4.n;have K:=K.trans k4;replace q0:=(k4.blk _ (by omega)).trans q0;replace q1:=(k4.blk _ (by omega)).trans q1;refine Zl 26 (by decide) (by decide) Tryz.func24 rfl rfl ?_;apply Zb;intro b1 hb1;apply Za;simp[Value.cells,Vl,e2];subst hb1;apply Zb;intro b1 hb1;apply Za;simp[Dx,Kz,faR0,faR1,Fp,faQ1,faR2,Zc6 z0,loadR0 z1,Uy z0,loadR1 z1,-Xy,eqBB,c3,Ki y0,loadR2 y1,c4];subst hb1;apply Zn;simp;exact K
theorem Zk1(H:AH): ∃H',Zq Tryz.prog Zo 20 [.agg #[.bool false,.slice none 0 0,.slice none 0 0]] H=some (.bool true,H')∧Keep H H':=by
 suffices h:CW Tryz.prog Zo 20 [.agg #[.bool false,.slice none 0 0,.slice none 0 0]] H fun v H'=>v= .bool true∧Keep H H' by obtain⟨v,H',hc,rfl,k⟩:=h;exact⟨H',hc,k⟩
 obtain⟨H2,e2,k2,n2,q0⟩:=Vc H [.bool false,.slice none 0 0,.slice none 0 0];have ln:lenV Tryz.prog 30 (.slice none 0 0)=some 0:=by kernel_rfl
 refine Zl 20 (by decide) (by decide) Tryz.func20 rfl rfl ?_;apply Zb;intro b1 hb1;apply Za;simp[Value.cells,e2];subst hb1;apply Zb;intro b1 hb1;apply Za;simp[Dx,Kz,Fp,faQ1,Zc6 q0,Uy q0,Ki q0,ln,show Zd .eql .i64 0 0=some (.bool true)from rfl];subst hb1;apply Zn;simp;exact k2
def FD.fit:FD→Prop| .rat _ A B=>Zf A≤67108864∧Zf B≤67108864|_=>True
theorem Zk0{us ws:List Value}{f:FD}(h:FIn H us f)(h':RFIn H ws f)(hf:f.fit): ∃H',Zq Tryz.prog Zo 36 [.agg us.toArray,.agg ws.toArray] H=some (.bool true,H')∧Keep H H':=by
 suffices hs:CW Tryz.prog Zo 36 [.agg us.toArray,.agg ws.toArray] H fun v H'=>v= .bool true∧Keep H H' by obtain⟨v,H',hc,rfl,k⟩:=hs;exact⟨H',hc,k⟩
 have hh:=h;have hh':=h';obtain⟨p,q,r,rfl,_⟩:=h.trio;obtain⟨p',q',r',rfl,_⟩:=h'.trio;obtain⟨H2,e2,k2,n2,q0,q1⟩:=Jk H [.int .i64 f.kind,p,q,r] [.int .i64 f.kind,p',q',r'];have gn:Zd .neq .i64 f.kind f.kind=some (.bool false):=by rw[neqZZ,decide_eq_false (by omega)]
 refine Zl 21 (by decide) (by decide) Tryz.func36 rfl rfl ?_;apply Zb;intro b1 hb1;apply Za;simp[Value.cells,Vl,e2];subst hb1;apply Zb;intro b1 hb1;apply Zb;intro b2 hb2;apply Za;simp[faF0,Cw q0,faRF0,loadRF0 q1,gn];subst hb2;refine Zc (t:=false) (by simp) ?_;apply Zj;subst hb1;apply Zb;intro b1 hb1;apply Zb;intro b2 hb2;apply Za;simp[faRF0,loadRF0 q1,Za4];subst hb2;cases f with|rat s A B=>obtain⟨_,_,e,h1,h2,_⟩:=hh;obtain⟨_,_,e',h3,h4⟩:=hh';cases e;cases e';obtain⟨H3,c3,k3⟩:=lawNumber_call (s:=s) (h1.keep k2) (h2.keep k2) (h3.keep k2) (h4.keep k2) hf.1 hf.2;refine Zc (t:=true) (by simp[FD.kind]) ?_;apply Zb;intro b2 hb2;apply Za;simp[faF1,loadFQ q0,faRF1',loadRFR q1,c3];subst hb2;apply Zn;simp[Xw];exact k2.trans k3|opn=>cases hh;cases hh';obtain⟨H3,c3,k3⟩:=Zk1 H2;refine Zc (t:=false) (by simp[FD.kind]) ?_;apply Zj;subst hb1;apply Zb;intro b1 hb1;apply Za;simp[faF1,loadFQ q0,c3];subst hb1;apply Zn;simp;exact k2.trans k3|und=>cases hh;cases hh';obtain⟨H3,c3,k3⟩:=Zk1 H2;refine Zc (t:=false) (by simp[FD.kind]) ?_;apply Zj;subst hb1;apply Zb;intro b1 hb1;apply Za;simp[faF1,loadFQ q0,c3];subst hb1;apply Zn;simp;exact k2.trans k3
end
end
theorem bXnum{a b:Value}{x:Bool}(ha: ∃s l c,a= .slice s l c)(hb: ∃s l c,b= .slice s l c):Ux Tryz.prog 53 [(0,.int .i64 0),(1,.agg #[.bool x,a,b])]=some (.agg #[.int .i64 0,.bool x,a,b,.slice none 0 0]):=by obtain⟨s,l,c,rfl⟩:=ha;obtain⟨s',l',c',rfl⟩:=hb;rfl
theorem bXargs{a:Value}{op:Int}(ha: ∃s l c,a= .slice s l c):Ux Tryz.prog 53 [(0,.int .i64 op),(2,a)]=some (.agg #[.int .i64 op,.bool false,.slice none 0 0,.slice none 0 0,a]):=by obtain⟨s,l,c,rfl⟩:=ha;rfl
theorem bXop{op:Int} :Ux Tryz.prog 53 [(0,.int .i64 op)]=some (.agg #[.int .i64 op,.bool false,.slice none 0 0,.slice none 0 0,.slice none 0 0]):=by rfl
theorem sXs:Ur Tryz.prog 51=some (53,5,88):=by kernel_rfl
theorem bXs1(H:AH)(v0 v1 v2 v3 v4:Value):Xx Tryz.prog H 51 1 [(0,.agg #[v0,v1,v2,v3,v4])]=some (.slice (some ⟨H.n,0,none⟩) 1 1,H.new 5 [v0,v1,v2,v3,v4]):=by unfold Xx;simp only[sXs,Bs];kernel_rfl
theorem bXs2(H:AH)(v0 v1 v2 v3 v4 w0 w1 w2 w3 w4:Value):Xx Tryz.prog H 51 2 [(0,.agg #[v0,v1,v2,v3,v4]),(1,.agg #[w0,w1,w2,w3,w4])]=some (.slice (some ⟨H.n,0,none⟩) 2 2,H.new 5 [v0,v1,v2,v3,v4,w0,w1,w2,w3,w4]):=by unfold Xx;simp only[sXs,Bs];kernel_rfl
theorem Ex.five{H:AH}{vs:List Value}{t:ET}(h:Ex H vs t): ∃op s va vd vx,vs=[.int .i64 op,.bool s,va,vd,vx]:=by cases h;exact⟨_,_,_,_,_,rfl⟩
theorem Xs.one{H:AH}{vs:List Value}{t:ET}(h:Ex H vs t): ∃H',H'=H.new 5 vs∧Keep H H'∧Xs H' (.slice (some ⟨H.n,0,none⟩) 1 1) [t]:=by refine⟨_,rfl,Keep.new _ _ _,?_⟩;have hk:=h.keep (Keep.new H 5 vs);have hl:=h.len;refine .mk H.n 0 1 (cs:=vs) (args:=[t]) (Nat.lt_succ_self _) (Bk H 5 vs) (Nat.le_refl _) fun i t' hi=>?_;match i,hi with|0,hi=>simp at hi;subst hi;rw[Nat.zero_mul,Nat.add_zero,List.drop_zero,List.take_of_length_le (by omega)];exact hk
theorem Xs.two{H:AH}{vs ws:List Value}{t s:ET}(h:Ex H vs t)(h':Ex H ws s): ∃H',H'=H.new 5 (vs++ws)∧Keep H H'∧Xs H' (.slice (some ⟨H.n,0,none⟩) 2 2) [t,s]:=by refine⟨_,rfl,Keep.new _ _ _,?_⟩;have hk:=h.keep (Keep.new H 5 (vs++ws));have hk':=h'.keep (Keep.new H 5 (vs++ws));have hl:=h.len;have hl':=h'.len;refine .mk H.n 0 2 (cs:=vs++ws) (args:=[t,s]) (Nat.lt_succ_self _) (Bk H 5 _) (Nat.le_refl _) fun i t' hi=>?_;match i,hi with|0,hi=>simp at hi;subst hi;rw[Nat.zero_mul,Nat.add_zero,List.drop_zero,List.take_append_of_le_length (by omega),List.take_of_length_le (by omega)];exact hk|1,hi=>simp at hi;subst hi;rw[show 0+1*5=vs.length by omega,List.drop_left,List.take_of_length_le (by omega)];exact hk'
theorem Xs.shape{H:AH}{v:Value}{l:List ET}(h:Xs H v l): ∃s a c,v= .slice s a c:=by cases h<;>exact⟨_,_,_,rfl⟩
theorem Ex.args{H:AH}{v:Value}{l:List ET}{op:Int}(h:Xs H v l):Ex H [.int .i64 op,.bool false,.slice none 0 0,.slice none 0 0,v] (.node op false [] [] l):= .mk .nil .nil h
def Kx(x:Nat):ET:= .node 0 false [x] [1] []
section
attribute [-simp] Int.natCast_add Int.natCast_mul Int.natCast_ediv Int.natCast_emod Int.natCast_pow
attribute [local simp] strip Yd LW' LR gW Yf Xh Ya Xi Yo Xj Zr Zs Zh Yp Yy Yk Xo Zw Yq Zi Ze Xn Xm Je Ye Xa opd Qe Ym plain Yj Tr.get_set Qc Zp Xy Yc sameKind undef Zt Yr Yv Zk Yb parts unV DW Xq Zv LX Zy
attribute [local simp] Qh Qt Gy
section
variable {H : AH} {u v w z : Value}
theorem Zi6{x:Nat}(hx:x<9223372036854775808)(H:AH): ∃us H',Zq Tryz.prog Zo 51 [.int .i64 (x:Int)] H=some (.agg us.toArray,H')∧Keep H H'∧Ex H' us (Kx x):=by
 suffices h:CW Tryz.prog Zo 51 [.int .i64 (x:Int)] H fun r H'=> ∃us:List Value,r= .agg us.toArray∧Keep H H'∧Ex H' us (Kx x) by obtain⟨r,H',hc,us,rfl,k⟩:=h;exact⟨us,H',hc,k⟩
 obtain⟨H2,e2,k2,n2,q0⟩:=Vc H [.int .i64 0,.bool false,.slice none 0 0,.slice none 0 0,.slice none 0 0];obtain⟨a,H3,c3,k3,o3⟩:=Zb4 H2 (t:=30) Zk x;obtain⟨b,H4,c4,k4,o4⟩:=Zb4 H3 (t:=30) Zk 1;have c4:Xx Tryz.prog H3 30 1 [(0,.int .u64 1)]=some (b,H4):=c4;have o3':=o3.mono (Nat.le_refl _) k4;have n3:=k3.n;have q4:=(k4.blk _ (by omega)).trans ((k3.blk _ (by omega)).trans q0);have hE:Ex H4 [.int .i64 0,.bool false,a,b,.slice none 0 0] (Kx x):= .mk o3'.sl o4.sl .nil;obtain⟨H5,st5,n5,q5,b5,ka5⟩:=Cz Zd1 q4 rfl (v:= .agg #[.int .i64 0,.bool false,a,b,.slice none 0 0]) (ws:=[.int .i64 0,.bool false,a,b,.slice none 0 0]) rfl rfl hE.ones;have k5:Keep H H5:=ka5 H ((k2.trans k3).trans k4) (by omega);have o5:=o3'.off (b:=H.n) (by omega) n5 b5;have o6:=o4.off (b:=H.n) (by omega) n5 b5;have hld:=Kd q5 rfl;have cv:=Ze0 (n:=x) (Nat.lt_trans hx (by decide));refine Zl 10 (by decide) (by decide) Tryz.func51 rfl rfl ?_;apply Zb;intro b1 hb1;apply Za;simp[Value.cells,Bs,e2];subst hb1;apply Zb;intro b1 hb1;apply Za;simp[cv,c3,c4,Zd9 o3.shape,Zb1 (x:=false) o3.shape o4.shape,bXnum o3.shape o4.shape,st5];subst hb1;apply Zn;simp[hld];exact⟨k5,.mk o5.sl o6.sl .nil⟩
theorem count_walk: ∀n(t:ET),t.nodes≤n→ ∀(H:AH)(vs:List Value)(left:Int),Ex H vs t→left≤10000→ -1000000000≤left-(t.nodes:Int)→CW Tryz.prog Zo 66 [.agg vs.toArray,.int .i64 left] H fun x H'=> ∃c:Int,x= .int .i64 c∧left-(t.nodes:Int)≤c∧c≤left∧Keep H H':=by intro n;induction n with
 |zero=>intro t h;have:=Vq t;omega
 |succ n ih=>intro t ht H vs left hE hl1 hl2;obtain⟨op,neg,abs,den,args⟩:=t;have hE':=hE;cases hE' with
  |@mk _ _ va vd vx _ _ _ h1 h2 h3=>
   simp only[ET.nodes]at ht hl2;simp only[ET.nodes];obtain⟨len,hln⟩: ∃len,len=args.length:=⟨_,rfl⟩;have hlx:=h3.len;rw[←hln]at hlx;have hlen9:=Gw args;obtain⟨H2,e2,k2,n2,q0⟩:=Vc H [.int .i64 op,.bool neg,va,vd,vx];have wr: ∀a:Int,-2000000000≤a→a≤2000000000→IntKind.i64.wrap a=a:=fun a h1 h2=>by rw[IntKind.wrap_i64];omega
   have g1:Zd .sub .i64 left 1=some (.int .i64 (left-1)):=by show some (Value.int .i64 (IntKind.i64.wrap (left-1)))=_;rw[wr _ (by omega) (by omega)]
   refine Zl 24 (by decide) (by decide) Tryz.func66 rfl rfl ?_;apply Zb;intro b1 hb1;apply Za;simp[Value.cells,e2];subst hb1;apply Zb;intro b1 hb1;apply Za;simp[g1];subst hb1;apply Zb;intro b1 hb1;apply Zb;intro b2 hb2;apply Za;simp[Ah,loadX4 q0,hlx];subst hb2;apply Zx;refine Qg (fun n s'=>s'.k=24∧Keep H s'.H∧ ∃(i:Nat) (c:Int),n+i=len∧left-1-(Xb (args.take i):Int)≤c∧c≤left-1∧s'.tm.get 1=some (.int .i64 c)∧s'.tm.get 10=some vx∧s'.tm.get 11=some (.int .i64 (len:Int))∧s'.tm.get 12=some (.int .i64 (i:Int))) ?_ len _ ⟨rfl,k2,0,left-1,by omega,by simp[Xb],by omega,by simp,by simp,by simp,by simp⟩;rintro n' ⟨k,tm,Hc⟩ ⟨hk,kc,i,c,hni,hc1,hc2,u1,u10,u11,u12⟩ Q' hQ';simp only at hk kc u1 u10 u11 u12;subst hk;apply Zb;intro b3 hb3;apply Za;simp[u11,u12,lssN];subst hb3;apply Zb;intro b3 hb3;by_cases hi:i<len
   ·refine Zc (t:=true) (by simp[hi]) ?_;apply Zj;subst hb3;obtain⟨ti,hti⟩: ∃ti,args[i]?=some ti:=⟨args[i]'(by omega),List.getElem?_eq_getElem (by omega)⟩;have hnt:=Cx hti;have hnp:=Vq ti;obtain⟨p,us,hadr,hlod,hEt⟩:=h3.at hti;have hld:=hlod Hc kc;obtain⟨H4,st4,k4,q8,n4⟩:=newX (H:=Hc) hEt.len hEt.ones;have l8:=Kd q8 hEt.len;obtain⟨x,H5,c5,cc,rfl,hcc1,hcc2,k5⟩:=ih ti (by omega) H4 us c (hEt.keep (kc.trans k4)) (by omega) (by omega);have gl:Zd .lss .i64 c 0=some (.bool (decide (c<0))):=lssZZ;have htk:Xb (args.take (i+1))=Xb (args.take i)+ti.nodes:=by rw[List.take_add_one,hti,Gb];simp[Xb]
    apply Zb;intro b3 hb3;apply Zx;apply Zb;intro b4 hb4;apply Za;simp[u10,u12,hadr,hld,Bs,Value.cells,st4];subst hb4;apply Zb;intro b4 hb4;apply Zb;intro b5 hb5;apply Za;simp[u1,gl];subst hb5;by_cases h0:c<0;·refine Zc (t:=true) (by simp[h0]) ?_;apply Zb;intro b5 hb5;apply Za;simp[u1];subst hb5;apply Zn;simp[Xw,Xk];apply hQ';simp[Dz,Xk,Xw];exact⟨by omega,by omega,kc.trans k4⟩
    ·refine Zc (t:=false) (by simp[h0]) ?_;apply Zj;subst hb4;apply Za;simp[l8,u1,c5];simp[Xk];subst hb3;apply Za;simp[u12,Cf (x:=i) (by omega)];apply hQ';exact⟨n'-1,by omega,rfl,(kc.trans k4).trans k5,i+1,cc,by omega,by rw[htk];omega,by omega,by simp,by simp[u10],by simp[u11],by simp⟩
   ·refine Zc (t:=false) (by simp[hi]) ?_;apply Qf;apply hQ';left;refine⟨rfl,?_⟩;obtain rfl:i=len:=by omega
    rw[List.take_of_length_le (by omega)]at hc1;subst hb1;apply Zb;intro b1 hb1;apply Za;simp[u1];subst hb1;apply Zn;simp;exact⟨by omega,by omega,kc⟩
theorem great_call{vs:List Value}{t:ET}(h:Ex H vs t)(hn:t.nodes≤2000000): ∃b H',Zq Tryz.prog Zo 26 [.agg vs.toArray] H=some (.bool b,H')∧Keep H H':=by
 suffices hs:CW Tryz.prog Zo 26 [.agg vs.toArray] H fun v H'=> ∃b,v= .bool b∧Keep H H' by obtain⟨v,H',hc,b,rfl,k⟩:=hs;exact⟨b,H',hc,k⟩
 obtain⟨H2,e2,k2,n2,q0⟩:=Vc H vs;obtain⟨x,H3,c3,c,rfl,h1,h2,k3⟩:=count_walk _ t (Nat.le_refl _) H2 vs 10000 (h.keep k2) (by omega) (by omega);have gl:Zd .lss .i64 c 0=some (.bool (decide (c<0))):=lssZZ;refine Zl 6 (by decide) (by decide) Tryz.func26 rfl rfl ?_;apply Zb;intro b1 hb1;apply Za;simp[Value.cells,e2];subst hb1;apply Zb;intro b1 hb1;apply Za;simp[Kd q0 h.len,c3,gl];subst hb1;apply Zn;simp;exact⟨by omega,k2.trans k3⟩
end
end
def sqrt9:ET:= .node 10 false [] [] [Kx 9]
def piNone:ET:= .node 6 false [] [] [.node 1 false [] [] [],.node 4 false [] [] [Kx 1,Kx 1]]
theorem rt9:rt 9=3:=(rt_eq ⟨by decide,by decide⟩).symm
theorem rt1:rt 1=1:=(rt_eq ⟨by decide,by decide⟩).symm
theorem dv_one(x:Nat):dv B64 [x]=x:=by simp[dv]
theorem fold_numT(x:Nat):(Kx x).fold= .mk (Yl false x 1):=by show(if(Xu []).any FD.isUnd=true then FD.und else Qw 0 false (dv B64 [x]) (dv B64 [1]) (Xu []))=_;rw[dv_one,dv_one];rfl
theorem fold_sqrt9:sqrt9.fold= .rat false 3 1:=by
 have h:Xu [Kx 9]=[.rat false 9 1]:=by show[(Kx 9).fold]=_;rw[fold_numT];rfl
 show(if(Xu [Kx 9]).any FD.isUnd=true then FD.und else Qw 10 false (dv B64 []) (dv B64 []) (Xu [Kx 9]))=_;rw[h];show Ut 10 false 9 1=_;unfold Ut Bp;simp only[rt9,rt1];rfl
theorem fold_piNone:piNone.fold= .und:=by
 have h1:(Kx 1).fold= .rat false 1 1:=by rw[fold_numT];rfl
 have h2:(ET.node 4 false [] [] [Kx 1,Kx 1]).fold= .rat false 0 1:=by
  have h:Xu [Kx 1,Kx 1]=[.rat false 1 1,.rat false 1 1]:=by show[(Kx 1).fold,(Kx 1).fold]=_;rw[h1]
  show(if(Xu [Kx 1,Kx 1]).any FD.isUnd=true then FD.und else Qw 4 false (dv B64 []) (dv B64 []) (Xu [Kx 1,Kx 1]))=_;rw[h];rfl
 have h3:(ET.node 1 false [] [] []).fold= .opn:=rfl;have h:Xu [.node 1 false [] [] [],.node 4 false [] [] [Kx 1,Kx 1]]=[.opn,.rat false 0 1]:=by show[(ET.node 1 false [] [] []).fold,(ET.node 4 false [] [] [Kx 1,Kx 1]).fold]=_;rw[h2,h3]
 show(if(Xu [.node 1 false [] [] [],.node 4 false [] [] [Kx 1,Kx 1]]).any FD.isUnd=true then FD.und else Qw 6 false (dv B64 []) (dv B64 []) (Xu [.node 1 false [] [] [],.node 4 false [] [] [Kx 1,Kx 1]]))=_;rw[h];rfl
theorem dig_one{x:Nat}(h:x<B64):Dig B64 [x]:=fun y hy=>by rw[List.mem_singleton.mp hy];exact h
theorem Fx:Dig B64 []:=fun y hy=>by cases hy
theorem Zn2{x:Nat}(h:x<B64):(Kx x).wide 1048576:=⟨show 1≤1048576 by decide,by decide,dig_one h,dig_one (by decide),trivial⟩
theorem sqrt9_ok{H:AH}{vs:List Value}(h:Ex H vs sqrt9)(hr:RowsIn H):TreeOk H vs sqrt9∧Dp sqrt9=0:=⟨⟨⟨h,hr,⟨by decide,by decide,Fx,Fx,Zn2 (by decide),trivial⟩,by decide⟩,rfl,by decide⟩,rfl⟩
theorem piNone_ok{H:AH}{vs:List Value}(h:Ex H vs piNone)(hr:RowsIn H):TreeOk H vs piNone∧Dp piNone=0:=⟨⟨⟨h,hr,⟨by decide,by decide,Fx,Fx,⟨by decide,by decide,Fx,Fx,trivial⟩,⟨by decide,by decide,Fx,Fx,Zn2 (by decide),Zn2 (by decide),trivial⟩,trivial⟩,by decide⟩,rfl,by decide⟩,rfl⟩
theorem bRF2:Ux Tryz.prog 77 [(0,.int .i64 2)]=some (.agg #[.int .i64 2,.bool false,.slice none 0 0,.slice none 0 0]):=by rfl
theorem bRFr{p q r:Value}(ht:Eh p q r):Ux Tryz.prog 77 [(0,.int .i64 1),(1,.agg #[p,q,r])]=some (.agg #[.int .i64 1,p,q,r]):=by obtain⟨⟨s,rfl⟩,⟨a1,l1,c1,rfl⟩,⟨a2,l2,c2,rfl⟩⟩:=ht;rfl
section
attribute [-simp] Int.natCast_add Int.natCast_mul Int.natCast_ediv Int.natCast_emod Int.natCast_pow
attribute [local simp] strip Yd LW' LR gW Yf Xh Ya Xi Yo Xj Zr Zs Zh Yp Yy Yk Xo Zw Yq Zi Ze Xn Xm Je Ye Xa opd Qe Ym plain Yj Tr.get_set Qc Zp Xy Yc sameKind undef Zt Yr Yv Zk Yb parts unV DW Xq Zv LX Zy
attribute [local simp] Qh Qt Gy
section
variable {H : AH} {u v w z : Value}
theorem awake_call(hr:RowsIn H): ∃H',Zq Tryz.prog Zo 14 [] H=some (.bool true,H')∧Keep H H':=by
 suffices h:CW Tryz.prog Zo 14 [] H fun v H'=>v= .bool true∧Keep H H' by obtain⟨v,H',hc,rfl,k⟩:=h;exact⟨H',hc,k⟩
 obtain⟨us9,H2,c2,k2,x2⟩:=Zi6 (x:=9) (by decide) H;replace c2:Zq Tryz.prog Zo 51 [.int .i64 9] H=some (.agg us9.toArray,H2):=c2;obtain⟨o9,s9,a9,b9,d9,rfl⟩:=x2.five;obtain⟨H3,e3,k3,xs3⟩:=Xs.one x2;have x3:Ex H3 _ sqrt9:=Ex.args (op:=10) xs3;have kA:=k2.trans k3;obtain⟨ok3,ch3⟩:=sqrt9_ok x3 (hr.keep kA);obtain⟨fs,H4,c4,k4,f4⟩:=Zc1 ok3 ch3;rw[fold_sqrt9]at f4;have f4':=f4;obtain⟨p4,q4,rfl,sp4,sq4,low4⟩:=f4';obtain⟨H5,st5,k5,y5,n5⟩:=newFv (H:=H4) f4.len f4.ones;have kB:=(kA.trans k4).trans k5;obtain⟨us1,H6,c6,k6,x6⟩:=Zi6 (x:=1) (by decide) H5;replace c6:Zq Tryz.prog Zo 51 [.int .i64 1] H5=some (.agg us1.toArray,H6):=c6;obtain⟨us2,H7,c7,k7,x7⟩:=Zi6 (x:=1) (by decide) H6;replace c7:Zq Tryz.prog Zo 51 [.int .i64 1] H6=some (.agg us2.toArray,H7):=c7;have x6':=x6.keep k7;obtain⟨o1,s1,a1,b1',d1,rfl⟩:=x6'.five;obtain⟨o2,s2,a2,b2',d2,rfl⟩:=x7.five;obtain⟨H8,e8,k8,xs8⟩:=Xs.two x6' x7;have x8:Ex H8 _ (.node 4 false [] [] [Kx 1,Kx 1]):=Ex.args (op:=4) xs8;have xpi:Ex H8 _ (.node 1 false [] [] []):=Ex.args (op:=1) .nil;obtain⟨H9,e9,k9,xs9⟩:=Xs.two xpi x8;have x9:Ex H9 _ piNone:=Ex.args (op:=6) xs9;simp only[List.cons_append,List.nil_append]at e8 e9;have kC:=((kB.trans k6).trans k7).trans (k8.trans k9);obtain⟨ok9,ch9⟩:=piNone_ok x9 (hr.keep kC);obtain⟨gs,H10,c10,k10,f10⟩:=Zc1 ok9 ch9;rw[fold_piNone]at f10;obtain rfl:=f10;obtain⟨H11,st11,k11,y11,n11⟩:=Kq (H:=H10) (k:= .int .i64 2) (p:= .bool false) (q:= .slice none 0 0) (r:= .slice none 0 0) rfl;have kD:=(kC.trans k10).trans k11;have kE:=(((k6.trans k7).trans (k8.trans k9)).trans k10).trans k11;have nE:=kE.n;have y5':=(kE.blk _ (by omega)).trans y5;have kE5:=k5.trans kE;have K:=kD;have y5'a:=y5';have y11a:=y11;have vka: ∀{J:AH}(k:Keep H11 J){bits ms},(∀x∈ms,H11.n≤x.2.1)→ ∀b,b<H11.n→(vis J bits ms).blk b=H11.blk b:=fun k _ _ h b hb=>(Qy k h).blk b hb;obtain⟨ip,iq,Ia1,da1,kIa1,j1,j2⟩:=refRInt_call (H:=H11.top) (n:=3) (by decide);obtain⟨Ja1,hJa1⟩: ∃J,J=grown H11 Ia1:=⟨_,rfl⟩;have kJa1:Keep H11 Ja1:=by rw[hJa1];exact Zu (.refl _) kIa1
 have ma1:H11.n≤Ia1.n:=kIa1.n;have kka1:=kJa1;have nka1:=kka1.n;have K:=K.trans kJa1;replace j1:=j1.same (Yg kIa1);rw[←hJa1]at j1;replace j1:Own H11.n Ja1 _ _:=j1;replace j2:=j2.same (Yg kIa1);rw[←hJa1]at j2;replace j2:Own H11.n Ja1 _ _:=j2;replace da1:Zq _ _ _ [Value.int .i64 3] _=_:=da1;have htr:Eh (.bool false) ip iq:=⟨⟨_,rfl⟩,j1.shape,j2.shape⟩;have hfin:FIn Ja1.top [.int .i64 1,.bool false,p4,q4] (.rat false 3 1):=f4.fr ((kE5.trans kJa1).top).fr;obtain⟨Ia2,da2,kIa2⟩:=Zk0 (us:=[.int .i64 1,.bool false,p4,q4]) (ws:=[.int .i64 1,.bool false,ip,iq]) (f:= .rat false 3 1) hfin ⟨_,_,rfl,j1.sl.top,j2.sl.top⟩ ⟨by decide,by decide⟩;obtain⟨Ja2,hJa2⟩: ∃J,J=grown Ja1 Ia2:=⟨_,rfl⟩;have kJa2:Keep Ja1 Ja2:=by rw[hJa2];exact Zu (.refl _) kIa2
 have ma2:Ja1.n≤Ia2.n:=kIa2.n;have kka2:=kka1.trans kJa2;have nka2:=kka2.n;have K:=K.trans kJa2;replace j1:=j1.mono (Nat.le_refl _) kJa2;replace j2:=j2.mono (Nat.le_refl _) kJa2;obtain⟨Ia3,da3,kIa3⟩:=Zk0 (H:=Ja2.top) (us:=[.int .i64 2,.bool false,.slice none 0 0,.slice none 0 0]) (ws:=[.int .i64 2,.bool false,.slice none 0 0,.slice none 0 0]) (f:= .und) rfl rfl trivial;obtain⟨Ja3,hJa3⟩: ∃J,J=grown Ja2 Ia3:=⟨_,rfl⟩;have kJa3:Keep Ja2 Ja3:=by rw[hJa3];exact Zu (.refl _) kIa3
 have ma3:Ja2.n≤Ia3.n:=kIa3.n;have kka3:=kka2.trans kJa3;have nka3:=kka3.n;have K:=K.trans kJa3;replace j1:=j1.mono (Nat.le_refl _) kJa3;replace j2:=j2.mono (Nat.le_refl _) kJa3;replace y5':=(kka3.blk _ (by omega)).trans y5';replace y11:=(kka3.blk _ (by omega)).trans y11;refine Zl 42 (by decide) (by decide) Tryz.func14 rfl rfl ?_;apply Zb;intro b1 hb1;apply Za;simp;subst hb1;apply Zb;intro b1 hb1;apply Za;simp[c2,bXs1,←e3,bXargs,c4,Jv,Value.cells,st5];subst hb1;apply Zb;intro b1 hb1;apply Za;simp[bXop,c6,c7,bXs2,←e8,bXargs,←e9,c10,Jv,Value.cells,st11];subst hb1;apply Zb;intro b1 hb1;apply Qs (by kernel_rfl);simp;refine Yh (v:= .int .i64 0) rfl rfl rfl (by rw[Zm rfl];simp[Bl]) ?_;simp[show Zd .eql .i64 0 0=some (.bool true)from rfl];refine Yh (v:= .agg #[.int .i64 1,.bool false,p4,q4]) rfl rfl rfl (by rw[Zm rfl];simp[Za5 (H:=AH.top H11) y5'a]) ?_;simp;refine Yu (v:= .agg #[.bool false,ip,iq]) (H2:=Ia1) rfl rfl rfl (by rw[Zm rfl];simp[da1]) ma1 (Yw kIa1) ?_;rw[←hJa1];have Ma1:=(Fc.nil H11.n).cons (i:=5) (a:=H11.n) (b:=Ia1.n) (by omega);generalize cond (Nat.blt H11.n Ia1.n) _ _=msa1 at Ma1;simp[bRFr htr];refine Yu (v:= .bool true) (H2:=Ia2) rfl rfl rfl (by rw[Zm (Ma1.hid (by kernel_rfl))];simp[da2]) ma2 (Yw kIa2) ?_;rw[←hJa2];have Ma2:=Ma1.cons (i:=7) (a:=Ja1.n) (b:=Ia2.n) (by omega);generalize cond (Nat.blt Ja1.n Ia2.n) _ _=msa2 at Ma2;simp;refine Yh (v:= .int .i64 0) rfl rfl rfl (by rw[Zm (Ma2.hid (by kernel_rfl))];simp[Bl]) ?_;simp[show Zd .eql .i64 0 0=some (.bool true)from rfl];refine Yh (v:= .agg #[.int .i64 2,.bool false,.slice none 0 0,.slice none 0 0]) rfl rfl rfl (by simp[Za5 ((vka kka2 Ma2.ge _ (by omega)).trans y11a)]) ?_;simp[bRF2];refine Yu (v:= .bool true) (H2:=Ia3) rfl rfl rfl (by rw[Zm (Ma2.hid (by kernel_rfl))];simp[da3]) ma3 (Yw kIa3) ?_;rw[←hJa3];have Ma3:=Ma2.cons (i:=17) (a:=Ja2.n) (b:=Ia3.n) (by omega);generalize cond (Nat.blt Ja2.n Ia3.n) _ _=msa3 at Ma3;simp;subst hb1;apply Zn;simp;exact K
end
end
def twS(op:Int)(neg:Bool)(abs den:List Nat):Bool×List Nat×List Nat:=if op=0 then((Yl neg (dv B64 abs) (dv B64 den)).1,ds B64 (Yl neg (dv B64 abs) (dv B64 den)).2.1,ds B64 (Yl neg (dv B64 abs) (dv B64 den)).2.2)else(false,[],[])
mutual def ET.twin:ET→ET| .node op neg abs den args=> .node op (twS op neg abs den).1 (twS op neg abs den).2.1 (twS op neg abs den).2.2 (De args) def De:List ET→List ET|[]=>[]|t::ts=>t.twin::De ts end
theorem Zp5(l:List ET):De l=l.map ET.twin:=by induction l with|nil=>rfl|cons x xs ih=>simp[De,ih]
theorem twinAll_len(l:List ET):(De l).length=l.length:=by rw[Zp5];simp
theorem twS_len{op:Int}{neg:Bool}{abs den:List Nat}(hD:op=0→0<dv B64 den)(da:Dig B64 abs)(dd:Dig B64 den):(twS op neg abs den).2.1.length≤abs.length∧(twS op neg abs den).2.2.length≤den.length∧Dig B64 (twS op neg abs den).2.1∧Dig B64 (twS op neg abs den).2.2:=by
 unfold twS;by_cases h0:op=0;·simp only[if_pos h0];have hl:=Zh7 (s:=neg) (A:=dv B64 abs) (hD h0);exact⟨Nat.le_trans (Gi Zz hl.1) (Ub da),Nat.le_trans (Gi Zz hl.2) (Ub dd),Xv Zz _,Xv Zz _⟩
 ·simp only[if_neg h0];exact⟨Nat.zero_le _,Nat.zero_le _,Fx,Fx⟩
mutual theorem twin_wide: ∀t:ET,t.allGood=true→t.wide 1048576→t.twin.wide 1048576∧t.twin.wt≤t.wt| .node op neg abs den args,h,hw=>by obtain⟨wa,wd,da,dd,ws⟩:=hw;simp only[ET.allGood,Bool.and_eq_true]at h;obtain⟨h1,h2,h3,h4⟩:=twS_len (neg:=neg) (Kh h.1).2.2.2 da dd;obtain⟨i1,i2⟩:=Zm0 args h.2 ws;simp only[ET.twin];refine⟨⟨Nat.le_trans h1 wa,Nat.le_trans h2 wd,h3,h4,i1⟩,?_⟩;simp only[ET.wt];split<;>omega theorem Zm0: ∀l:List ET,Jh l=true→Dg 1048576 l→Dg 1048576 (De l)∧Fg (De l)≤Fg l|[],_,_=>⟨trivial,Nat.le_refl _⟩|t::ts,h,hw=>by simp only[Jh,Bool.and_eq_true]at h;obtain⟨h1,h2⟩:=twin_wide t h.1 hw.1;obtain⟨h3,h4⟩:=Zm0 ts h.2 hw.2;simp only[De,Fg];exact⟨⟨h1,h3⟩,by omega⟩ end
inductive OX(H:AH):(Nat→Prop)→List Value→ET→Prop|mk{P:Nat→Prop}{op:Int}{neg:Bool}{va vd vx:Value}{abs den:List Nat}{args:List ET}(css:List (List Value))(Q:Nat→Nat→Prop):Sl H va abs→Sl H vd den→Lst 5 H vx css→css.length=args.length→(∀b,Xt vx=some b→P b)→(∀i c,Q i c→P c∧Xt vx≠some c)→(∀i j c,i≠j→Q i c→ ¬Q j c)→(∀(i:Nat)(cs:List Value)(t:ET),css[i]?=some cs→args[i]?=some t→OX H (Q i) cs t)→OX H P [.int .i64 op,.bool neg,va,vd,vx] (.node op neg abs den args)
theorem OX.len{H:AH}{P:Nat→Prop}{vs:List Value}{t:ET}(h:OX H P vs t):vs.length=5:=by cases h;rfl
theorem OX.five{H:AH}{P:Nat→Prop}{vs:List Value}{t:ET}(h:OX H P vs t): ∃op s va vd vx,vs=[.int .i64 op,.bool s,va,vd,vx]∧(∃a l c,va= .slice a l c)∧(∃a l c,vd= .slice a l c)∧ ∃a l c,vx= .slice a l c:=by cases h with|mk css Q h1 h2 h3=>exact⟨_,_,_,_,_,rfl,h1.shape,h2.shape,h3.shape⟩
theorem OX.ones{H:AH}{P:Nat→Prop}{vs:List Value}{t:ET}(h:OX H P vs t):vs.all one=true:=by obtain⟨op,s,va,vd,vx,rfl,⟨a,l,c,rfl⟩,⟨a',l',c',rfl⟩,⟨a'',l'',c'',rfl⟩⟩:=h.five;rfl
theorem OX.noU{H:AH}{P:Nat→Prop}{vs:List Value}{t:ET}(h:OX H P vs t):noU vs=true:=by obtain⟨op,s,va,vd,vx,rfl,⟨a,l,c,rfl⟩,⟨a',l',c',rfl⟩,⟨a'',l'',c'',rfl⟩⟩:=h.five;rfl
theorem OX.weak{H:AH}{P P':Nat→Prop}{vs:List Value}{t:ET}(h:OX H P vs t)(hp: ∀j,P j→P' j):OX H P' vs t:=by cases h with|mk css Q h1 h2 h3 h4 h5 h6 h7 h8=>exact .mk css Q h1 h2 h3 h4 (fun b hb=>hp b (h5 b hb)) (fun i c hc=>⟨hp c (h6 i c hc).1,(h6 i c hc).2⟩) h7 h8
theorem OX.fr{H H':AH}{P:Nat→Prop}{vs:List Value}{t:ET}(h:OX H P vs t)(f:Fr H H')(hf: ∀j,P j→j<H.n→H'.blk j=H.blk j):OX H' P vs t:=by induction h with|mk css Q h1 h2 h3 h4 h5 h6 h7 h8 ih=>exact .mk css Q (h1.fr f) (h2.fr f) (h3.frame f.1 fun b hb=>hf b (h5 b hb) (h3.blk_lt hb).1) h4 h5 h6 h7 fun i cs t hc ht=>ih i cs t hc ht fun j hj hn=>hf j (h6 i j hj).1 hn
theorem OX.keep{H H':AH}{P:Nat→Prop}{vs:List Value}{t:ET}(h:OX H P vs t)(k:Keep H H'):OX H' P vs t:=h.fr k.fr fun j _ hj=>k.blk j hj
theorem OX.ex{H:AH}{P:Nat→Prop}{vs:List Value}{t:ET}(h:OX H P vs t):Ex H vs t:=by induction h with
 |@mk P op neg va vd vx abs den args css Q h1 h2 h3 h4 h5 h6 h7 h8 ih=>
  refine .mk h1 h2 ?_;rcases h3 with⟨rfl,rfl⟩|⟨b,rfl,g1,g2,g3⟩;·obtain rfl:args=[]:=List.length_eq_zero_iff.mp h4.symm;exact .nil
  ·rw[h4];refine .mk b 0 args.length g1 (AH.cells_rw' g2 (by decide)) (Nat.le_refl _) fun i t hi=>?_;have hlt:i<css.length:=by rw[h4];exact(List.getElem?_eq_some_iff.mp hi).1
   have hc:=List.getElem?_eq_getElem hlt;rw[Nat.zero_add,Zh1 g3 hc];exact ih i _ t hc hi
theorem noU5{op:Int}{s:Bool}{p q v:Value}(hp: ∃a l c,p= .slice a l c)(hq: ∃a l c,q= .slice a l c)(hv: ∃a l c,v= .slice a l c):noU [.int .i64 op,.bool s,p,q,v]=true:=by obtain⟨a,l,c,rfl⟩:=hp;obtain⟨a',l',c',rfl⟩:=hq;obtain⟨a'',l'',c'',rfl⟩:=hv;rfl
theorem uXs:Tryz.prog.underlying 51=some (.slice 53):=by kernel_rfl
theorem top_nn(H:AH):H.top.n=H.n:=rfl
theorem grown_fr{H I:AH}(k:Keep H.top I):Fr I (grown H I):=⟨Nat.le_refl _,fun j hj=> .inl ((Yg k).blk j hj (fun e=>by cases e))⟩
theorem buildX1{ws:List Value}(hl:ws.length=5)(H:AH): ∃I,Xx Tryz.prog H 51 1 [(0,.agg ws.toArray)]=some (.slice (some ⟨H.n,0,none⟩) 1 1,I)∧Keep H I∧I.n=H.n+1∧I.blk H.n= .rw 5 ws:=by match ws,hl with|[v0,v1,v2,v3,v4],_=>exact⟨_,bXs1 H v0 v1 v2 v3 v4,Keep.new _ _ _,rfl,by rw[AH.blk_new,if_pos rfl]⟩
theorem putDX1{H:AH}{b:Nat}{op s p q r p' q':Value}{x:Bool}(hb:H.blk b= .rw 1 [op,s,p,q,r])(hbn:b<H.n)(h1:one op=true)(h2:one p'=true)(h3:one q'=true)(h4:one r=true): ∃H2,Xp Tryz.prog H.top 34 (.pointer (some ⟨b,1,none⟩)) (.agg #[.bool x,p',q'])=some H2∧H2.n=H.n∧H2.lw<H.n∧(low H H2).n=H.n∧(low H H2).blk b= .rw 1 [op,.bool x,p',q',r]∧(∀j,j≠b→(low H H2).blk j=H.blk j)∧KAt b H (low H H2):=by obtain⟨H2,st,q,n1,o,ka,lw⟩:=Ee (H:=H.top) (o:=1) Up hb (v:= .agg #[.bool x,p',q']) (ws:=[.bool x,p',q']) rfl rfl (by simp) (by simp[h2,h3,show one (Value.bool x)=true from rfl]);exact⟨H2,st,n1,by rw[lw];show min H.n b<H.n;omega,n1,q,o,Cl ka⟩
theorem putX1{H:AH}{b:Nat}{op s p q r p' q':Value}{x:Bool}(hb:H.blk b= .rw 1 [op,s,p,q,r])(h2:one p'=true)(h3:one q'=true): ∃H2,Xp Tryz.prog H 34 (.pointer (some ⟨b,1,none⟩)) (.agg #[.bool x,p',q'])=some H2∧H2.n=H.n∧H2.blk b= .rw 1 [op,.bool x,p',q',r]∧(∀j,j≠b→H2.blk j=H.blk j)∧KAt b H H2:=by obtain⟨H2,st,q,n1,o,ka,_⟩:=Ee (H:=H) (o:=1) Up hb (v:= .agg #[.bool x,p',q']) (ws:=[.bool x,p',q']) rfl rfl (by simp) (by simp[h2,h3,show one (Value.bool x)=true from rfl]);exact⟨H2,st,n1,q,o,ka⟩
theorem sXsl:Qr Tryz.prog 51=some 1:=by kernel_rfl
theorem putDX4{H:AH}{b:Nat}{op s p q r v:Value}(hb:H.blk b= .rw 1 [op,s,p,q,r])(hbn:b<H.n)(hv:v.cells=#[v])(h1:one v=true): ∃H2,Xp Tryz.prog H.top 51 (.pointer (some ⟨b,4,none⟩)) v=some H2∧H2.n=H.n∧H2.lw<H.n∧(low H H2).n=H.n∧(low H H2).blk b= .rw 1 [op,s,p,q,v]∧(∀j,j≠b→(low H H2).blk j=H.blk j)∧KAt b H (low H H2):=by obtain⟨H2,st,q,n1,o,ka,lw⟩:=Ee (H:=H.top) (o:=4) sXsl hb (v:=v) (ws:=[v]) (by rw[hv]) rfl (by simp) (by simp[h1]);exact⟨H2,st,n1,by rw[lw];show min H.n b<H.n;omega,n1,q,o,Cl ka⟩
theorem loadXA{H:AH}{b:Nat}{v0 v1 v2 v3 v4:Value}(h:H.blk b= .rw 1 [v0,v1,v2,v3,v4]):Yn Tryz.prog H 4 (.pointer (some ⟨b,1,none⟩))=some v1:=Ys aBool (AH.cells_rw' h (by decide)) rfl
theorem loadXB{H:AH}{b:Nat}{v0 v1 v2 v3 v4:Value}(h:H.blk b= .rw 1 [v0,v1,v2,v3,v4]):Yn Tryz.prog H 30 (.pointer (some ⟨b,2,none⟩))=some v2:=Ys aNat (AH.cells_rw' h (by decide)) rfl
theorem loadXC{H:AH}{b:Nat}{v0 v1 v2 v3 v4:Value}(h:H.blk b= .rw 1 [v0,v1,v2,v3,v4]):Yn Tryz.prog H 30 (.pointer (some ⟨b,3,none⟩))=some v3:=Ys aNat (AH.cells_rw' h (by decide)) rfl
theorem faN1(b:Nat):Yz Tryz.prog 34 (.pointer (some ⟨b,1,none⟩)) 0=some (.pointer (some ⟨b,1,none⟩)):=faN b 1
theorem faD1(b:Nat):Yz Tryz.prog 34 (.pointer (some ⟨b,1,none⟩)) 1=some (.pointer (some ⟨b,3,none⟩)):=faD b 1
theorem faNeg1(b:Nat):Yz Tryz.prog 32 (.pointer (some ⟨b,1,none⟩)) 0=some (.pointer (some ⟨b,1,none⟩)):=Kz b 1
theorem faAbs1(b:Nat):Yz Tryz.prog 32 (.pointer (some ⟨b,1,none⟩)) 1=some (.pointer (some ⟨b,2,none⟩)):=faAbs b 1
section
attribute [-simp] Int.natCast_add Int.natCast_mul Int.natCast_ediv Int.natCast_emod Int.natCast_pow
attribute [local simp] strip Yd LW' LR gW Yf Xh Ya Xi Yo Xj Zr Zs Zh Yp Yy Yk Xo Zw Yq Zi Ze Xn Xm Je Ye Xa opd Qe Ym plain Yj Tr.get_set Qc Zp Xy Yc sameKind undef Zt Yr Yv Zk Yb parts unV DW Xq Zv LX Zy
attribute [local simp] top_nn
section
set_option maxHeartbeats 1000000 in theorem twin_walk: ∀n(t:ET),t.nodes≤n→ ∀(H:AH)(vs:List Value),Ex H vs t→t.wide 1048576→t.allGood=true→ ∃us H',Zq Tryz.prog Zo 78 [.agg vs.toArray] H=some (.agg us.toArray,H')∧Keep H H'∧OX H' (fun j=>H.n≤j∧j<H'.n) us t.twin:=by intro n;induction n with
 |zero=>intro t h;have:=Vq t;omega
 |succ n ih=>
  intro t ht H vs hE hw hg;suffices hs:CW Tryz.prog Zo 78 [.agg vs.toArray] H fun x H'=> ∃us:List Value,x= .agg us.toArray∧Keep H H'∧OX H' (fun j=>H.n≤j∧j<H'.n) us t.twin by obtain⟨x,H',hc,us,rfl,k,o⟩:=hs;exact⟨us,H',hc,k,o⟩
  obtain⟨op,neg,abs,den,args⟩:=t;have hE':=hE;cases hE' with
   |@mk _ _ va vd vx _ _ _ h1 h2 h3=>
    obtain⟨wa,wd,da,dd,wx⟩:=hw;simp only[ET.nodes]at ht;simp only[ET.allGood,Bool.and_eq_true]at hg;obtain⟨hgn,hga⟩:=hg;obtain⟨len,hln⟩: ∃len,len=args.length:=⟨_,rfl⟩;have hlx:=h3.len;rw[←hln]at hlx;have hlen9:=Gw args;have hlen:len≤1000000:=by
     have:=(Kh hgn).2.2.1;have h16:=(Kh hgn).2.1;have h0:=(Kh hgn).1;have har: ∀k,k<16→arity k≤2:=by decide
     have:=har op.toNat (by omega);omega
    have hD:=(Kh hgn).2.2.2;obtain⟨H2,e2,k2,n2,q0,q1⟩:=Jk H [.int .i64 op,.bool neg,va,vd,vx] [.int .i64 0,.bool false,.slice none 0 0,.slice none 0 0,.slice none 0 0];have z2:=q0;obtain⟨H3,st3,k3,q2,n3⟩:=newX (H:=H2) (vs:=[.int .i64 op,.bool false,.slice none 0 0,.slice none 0 0,.slice none 0 0]) rfl rfl;replace q0:=(k3.blk _ (by omega)).trans q0;replace q1:=(k3.blk _ (by omega)).trans q1;obtain⟨S3,hS3⟩: ∃S3,S3=twS op neg abs den:=⟨_,rfl⟩;refine Zl 56 (by decide) (by decide) Tryz.func78 rfl rfl ?_;apply Zb;intro b1 hb1;apply Za;simp[Value.cells,Bs,Vl,e2];subst hb1;apply Zb;intro b1 hb1;apply Za;simp[Gk,Ue z2,bXop,Bs,Value.cells,st3];subst hb1;refine Qz (fun s'=>s'.k=56∧Keep H s'.H∧H.n+3≤s'.H.n∧s'.H.blk H.n= .rw 1 [.int .i64 op,.bool neg,va,vd,vx]∧s'.H.blk (H.n+1)= .rw 1 [.int .i64 0,.bool false,.slice none 0 0,.slice none 0 0,.slice none 0 0]∧(∃p q,s'.H.blk H2.n= .rw 1 [.int .i64 op,.bool S3.1,p,q,.slice none 0 0]∧Sl s'.H p S3.2.1∧Sl s'.H q S3.2.2)∧s'.tm.get 1=some (.pointer (some ⟨H.n,0,none⟩))∧s'.tm.get 2=some (.pointer (some ⟨H.n+1,0,none⟩))∧s'.tm.get 3=some (.pointer (some ⟨H2.n,0,none⟩))) ?_ ?_
    ·intro Q'' hQ'';apply Zb;intro b2 hb2;apply Za;simp[Gk,Ue q0,Za4];subst hb2;by_cases h0:op=0
     ·have hS3:S3=((Yl neg (dv B64 abs) (dv B64 den)).1,ds B64 (Yl neg (dv B64 abs) (dv B64 den)).2.1,ds B64 (Yl neg (dv B64 abs) (dv B64 den)).2.2):=by rw[hS3];unfold twS;rw[if_pos h0]
      obtain⟨R,hR⟩: ∃R,R=Yl neg (dv B64 abs) (dv B64 den):=⟨_,rfl⟩;rw[←hR]at hS3;have bA:=Bw da wa;have bB:=Bw dd wd;have K:=(k2.trans k3);have q0a:=q0;have q1a:=q1;have q2a:=q2;have vka: ∀{J:AH}(k:Keep H3 J){bits ms},(∀x∈ms,H3.n≤x.2.1)→ ∀b,b<H3.n→(vis J bits ms).blk b=H3.blk b:=fun k _ _ h b hb=>(Qy k h).blk b hb;obtain⟨w1,Ia1,da1,kIa1,o1⟩:=Uv ((h1.keep K).top) da (Nat.le_trans wa (by decide));obtain⟨Ja1,hJa1⟩: ∃J,J=grown H3 Ia1:=⟨_,rfl⟩;have kJa1:Keep H3 Ja1:=by rw[hJa1];exact Zu (.refl _) kIa1
      have ma1:H3.n≤Ia1.n:=kIa1.n;have kka1:=kJa1;have nka1:=kka1.n;have K:=K.trans kJa1;replace o1:=o1.same (Yg kIa1);rw[←hJa1]at o1;replace o1:Own H3.n Ja1 _ _:=o1;obtain⟨w2,Ia2,da2,kIa2,o2⟩:=Uv ((h2.keep K).top) dd (Nat.le_trans wd (by decide));obtain⟨Ja2,hJa2⟩: ∃J,J=grown Ja1 Ia2:=⟨_,rfl⟩;have kJa2:Keep Ja1 Ja2:=by rw[hJa2];exact Zu (.refl _) kIa2
      have ma2:Ja1.n≤Ia2.n:=kIa2.n;have kka2:=kka1.trans kJa2;have nka2:=kka2.n;have K:=K.trans kJa2;replace o1:=o1.mono (Nat.le_refl _) kJa2;replace o2:=o2.same (Yg kIa2);rw[←hJa2]at o2;replace o2:Own Ja1.n Ja2 _ _:=o2;replace q0:=(kka2.blk _ (by omega)).trans q0;replace q1:=(kka2.blk _ (by omega)).trans q1;replace q2:=(kka2.blk _ (by omega)).trans q2;have r1:=q2;obtain⟨Sa1,ssta1,sna1,slwa1,fna1,q2,foa1,fka1⟩:=putDX1 (x:=neg) q2 (by omega) rfl o1.one1 o2.one1 rfl;obtain⟨Fa1,hFa1⟩: ∃F,F=low Ja2 Sa1:=⟨_,rfl⟩;rw[←hFa1]at fna1 q2 foa1 fka1;have K:=fka1 _ K (by omega);replace q0:=(foa1 _ (by omega)).trans q0;replace q1:=(foa1 _ (by omega)).trans q1;replace o1:=o1.off (b:=H2.n) (by first|omega|(show _<AH.n _;omega)) fna1 foa1;replace o2:=o2.off (b:=H2.n) (by first|omega|(show _<AH.n _;omega)) fna1 foa1;have z0:=q0;obtain⟨p,q,H4,c4,k4,o3,o4⟩:=Em neg (h1.keep K) (h2.keep K) da dd (Nat.le_trans wa (by decide)) (Nat.le_trans wd (by decide)) rfl rfl (by omega) (by omega) (hD h0);have n4:=k4.n;have K:=K.trans k4;replace q0:=(k4.blk _ (by omega)).trans q0;replace q1:=(k4.blk _ (by omega)).trans q1;replace q2:=(k4.blk _ (by omega)).trans q2;replace o1:=o1.mono (Nat.le_refl _) k4;replace o2:=o2.mono (Nat.le_refl _) k4;rw[←hR]at c4 o3 o4;obtain⟨H5,st5,k5,q3,n5⟩:=newQ (H:=H4) (p:= .bool R.1) (q:=p) (r:=q) (by simp[o3.one1,o4.one1,show one (Value.bool R.1)=true from rfl]);have K:=K.trans k5;replace q0:=(k5.blk _ (by omega)).trans q0;replace q1:=(k5.blk _ (by omega)).trans q1;replace q2:=(k5.blk _ (by omega)).trans q2;replace o1:=o1.mono (Nat.le_refl _) k5;replace o2:=o2.mono (Nat.le_refl _) k5;replace o3:=o3.mono (Nat.le_refl _) k5;replace o4:=o4.mono (Nat.le_refl _) k5;have z3:=q3;obtain⟨H6,st6,n6,q2,b6,ka6⟩:=putX1 (x:=R.1) q2 o3.one1 o4.one1;have K:=ka6 _ K (by omega);replace q0:=(b6 _ (by omega)).trans q0;replace q1:=(b6 _ (by omega)).trans q1;replace q3:=(b6 _ (by omega)).trans q3;replace o1:=o1.off (b:=H2.n) (by first|omega|(show _<AH.n _;omega)) n6 b6;replace o2:=o2.off (b:=H2.n) (by first|omega|(show _<AH.n _;omega)) n6 b6;replace o3:=o3.off (b:=H2.n) (by first|omega|(show _<AH.n _;omega)) n6 b6;replace o4:=o4.off (b:=H2.n) (by first|omega|(show _<AH.n _;omega)) n6 b6;have nn4:=k4.n;refine Zc (t:=true) (by simp[h0]) ?_;apply Zb;intro b3 hb3;apply Qs (by kernel_rfl);simp[Ct,faN1,faNeg1];refine Yh (v:= .bool neg) rfl rfl rfl (by rw[Zm rfl];simp[loadXA (H:=AH.top H3) q0a]) ?_;simp[Ct,faN1,faAbs1];refine Yh (v:=va) rfl rfl rfl (by rw[Zm rfl];simp[loadXB (H:=AH.top H3) q0a]) ?_;simp;refine Yu (v:=w1) (H2:=Ia1) rfl rfl rfl (by rw[Zm rfl];simp[da1]) ma1 (Yw kIa1) ?_;rw[←hJa1];have Ma1:=(Fc.nil H3.n).cons (i:=8) (a:=H3.n) (b:=Ia1.n) (by omega);generalize cond (Nat.blt H3.n Ia1.n) _ _=msa1 at Ma1;simp[Zb2 (b:=neg) o1.shape,Ct,faD1];refine Yh (v:=vd) rfl rfl rfl (by simp[loadXC ((vka kka1 Ma1.ge _ (by omega)).trans q0a)]) ?_;simp;refine Yu (v:=w2) (H2:=Ia2) rfl rfl rfl (by rw[Zm (Ma1.hid (by kernel_rfl))];simp[da2]) ma2 (Yw kIa2) ?_;rw[←hJa2];have Ma2:=Ma1.cons (i:=13) (a:=Ja1.n) (b:=Ia2.n) (by omega);generalize cond (Nat.blt Ja1.n Ia2.n) _ _=msa2 at Ma2;simp[Zb1 (x:=neg) o1.shape o2.shape,Ct];refine Xd (v:= .tuple #[]) (H2:=Sa1) rfl rfl (by kernel_rfl) (Ma2.hid (by kernel_rfl)) ?_ (by omega) slwa1 ?_;·show Yf _ _ _ _ Ja2.top _=_;simp[ssta1,Ct]
      rw[show({ n:=Sa1.n,lw:=min Ja2.lw Sa1.lw,t:=Sa1.t } :AH)=Fa1 from hFa1.symm];rw[show Nat.blt Ja2.n Sa1.n=false from by rw[sna1];exact Qi _,cond_false];simp[Ct];subst hb3;apply Zb;intro b1 hb1;apply Za;simp[Ct,loadX1 z0,c4,Jz,Value.cells,st5];subst hb1;apply Zb;intro b1 hb1;apply Za;simp[show Zd .eql .i64 0 0=some (.bool true)from rfl];subst hb1;refine Zc (t:=true) (by simp) ?_;apply Za;simp[Xr z3,Ct,st6];apply hQ'';rw[hS3];exact⟨rfl,K,by show H.n+3≤H6.n;omega,q0,q1,⟨p,q,q2,o3.sl,o4.sl⟩,by simp,by simp,by simp⟩
     ·have hS3:S3=(false,[],[]):=by rw[hS3];unfold twS;rw[if_neg h0]
      refine Zc (t:=false) (by simp[h0]) ?_;apply Zj;apply hQ'';rw[hS3];exact⟨rfl,k2.trans k3,by show H.n+3≤H3.n;omega,q0,q1,⟨_,_,q2,.nil,.nil⟩,by simp,by simp,by simp⟩
    clear q0 q1 q2 z2;rintro⟨k,tm,Hb⟩ ⟨hk,kb,nb,q0,q1,⟨p,q,q2,sp,sq⟩,u1,u2,u3⟩;simp only at hk kb nb q0 q1 q2 sp sq u1 u2 u3;subst hk;have psh:=sp.shape;have qsh:=sq.shape;apply Zb;intro b1 hb1;apply Zb;intro b2 hb2;apply Za;simp[u1,Ah,loadX4 q0,hlx];subst hb2;apply Zx;refine Qg (fun n s'=>s'.k=56∧ ∃(i:Nat) (av:Value) (css:List (List Value)) (Q:Nat→Nat→Prop),n+i=len∧Keep H s'.H∧H.n+3≤s'.H.n∧s'.H.blk H.n= .rw 1 [.int .i64 op,.bool neg,va,vd,vx]∧s'.H.blk (H.n+1)= .rw 1 [.int .i64 0,.bool false,.slice none 0 0,.slice none 0 0,.slice none 0 0]∧s'.H.blk H2.n= .rw 1 [.int .i64 op,.bool S3.1,p,q,av]∧Sl s'.H p S3.2.1∧Sl s'.H q S3.2.2∧Lst 5 s'.H av css∧css.length=i∧(∀b,Xt av=some b→H.n+3≤b)∧(∀j c,Q j c→H.n+3≤c∧c<s'.H.n∧Xt av≠some c)∧(∀j l c,j≠l→Q j c→ ¬Q l c)∧(∀(j:Nat)(cs:List Value)(t:ET),css[j]?=some cs→args[j]?=some t→OX s'.H (Q j) cs t.twin)∧s'.tm.get 1=some (.pointer (some ⟨H.n,0,none⟩))∧s'.tm.get 2=some (.pointer (some ⟨H.n+1,0,none⟩))∧s'.tm.get 3=some (.pointer (some ⟨H2.n,0,none⟩))∧s'.tm.get 41=some vx∧s'.tm.get 42=some (.int .i64 (len:Int))∧s'.tm.get 43=some (.int .i64 (i:Int))) ?_ len _ ⟨rfl,0,.slice none 0 0,[],fun _ _=>False,by omega,kb,nb,q0,q1,q2,sp,sq,.nil,rfl,(fun b hb=>by cases hb),(fun _ _ h=>h.elim),(fun _ _ _ _ h=>h.elim),(fun j cs t h=>by simp at h),by simp[u1],by simp[u2],by simp[u3],by simp,by simp,by simp⟩;clear q0 q1 q2 sp sq u1 u2 u3 kb nb;rintro n' ⟨k,tm,Hc⟩ ⟨hk,i,av,css,Q,hni,kc,nc,qx,qz,qy,spc,sqc,hL,hcl,hav,hQ1,hQ2,hQ3,u1,u2,u3,u41,u42,u43⟩ Q' hQ';simp only at hk kc nc qx qz qy spc sqc hL hQ1 hQ3 u1 u2 u3 u41 u42 u43;subst hk;apply Zb;intro b3 hb3;apply Za;simp[u42,u43,lssN];subst hb3;apply Zb;intro b3 hb3;by_cases hi:i<len
    ·refine Zc (t:=true) (by simp[hi]) ?_;apply Zj;subst hb3;obtain⟨ti,hti⟩: ∃ti,args[i]?=some ti:=⟨args[i]'(by omega),List.getElem?_eq_getElem (by omega)⟩;have hnt:=Da hti;obtain⟨pp,us,hadr,hlod,hEt⟩:=h3.at hti;have hld:=hlod Hc kc;obtain⟨H4,st4,k4,q8,n4⟩:=newX (H:=Hc) hEt.len hEt.ones;have qx4:=(k4.blk _ (by omega)).trans qx;have qz4:=(k4.blk _ (by omega)).trans qz;have qy4:=(k4.blk _ (by omega)).trans qy;have K:=(kc.trans k4);have qx4a:=qx4;have qz4a:=qz4;have qy4a:=qy4;have q8a:=q8;have vka: ∀{J:AH}(k:Keep H4 J){bits ms},(∀x∈ms,H4.n≤x.2.1)→ ∀b,b<H4.n→(vis J bits ms).blk b=H4.blk b:=fun k _ _ h b hb=>(Qy k h).blk b hb;obtain⟨ws,Ia1,da1,kIa1,ox⟩:=ih ti (by omega) H4.top us ((hEt.keep K).keep (Dy _)) (Ef wx hti) (Cj hga hti);obtain⟨Ja1,hJa1⟩: ∃J,J=grown H4 Ia1:=⟨_,rfl⟩;have kJa1:Keep H4 Ja1:=by rw[hJa1];exact Zu (.refl _) kIa1
     have ma1:H4.n≤Ia1.n:=kIa1.n;have kka1:=kJa1;have nka1:=kka1.n;have K:=K.trans kJa1;obtain⟨Ia2,da2,kIa2,nI2,bI2⟩:=buildX1 ox.len Ja1.top;obtain⟨Ja2,hJa2⟩: ∃J,J=grown Ja1 Ia2:=⟨_,rfl⟩;have kJa2:Keep Ja1 Ja2:=by rw[hJa2];exact Zu (.refl _) kIa2
     have ma2:Ja1.n≤Ia2.n:=kIa2.n;have kka2:=kka1.trans kJa2;have nka2:=kka2.n;have K:=K.trans kJa2;replace qx4:=(kka2.blk _ (by omega)).trans qx4;replace qz4:=(kka2.blk _ (by omega)).trans qz4;replace qy4:=(kka2.blk _ (by omega)).trans qy4;replace q8:=(kka2.blk _ (by omega)).trans q8;have nJ1:Ja1.n=Ia1.n:=by rw[hJa1];rfl
     have nJ2:Ja2.n=Ja1.n+1:=by rw[hJa2];exact nI2
     have bJ2:Ja2.top.blk Ja1.n= .rw 5 ws:=by show Ja2.blk Ja1.n=_;rw[hJa2,(Yg kIa2).blk Ja1.n (by rw[nI2];exact Nat.lt_succ_self _) (fun e=>by cases e)];exact bI2
     have ox1:OX Ja1 (fun j=>H4.n≤j∧j<Ja1.n) ws ti.twin:=by rw[hJa1];exact ox.fr (grown_fr kIa1) fun j _ hj=>(Yg kIa1).blk j hj (fun e=>by cases e)
     have ox2:=ox1.keep kJa2;have kH4:=k4.trans kka2;obtain⟨He,hap,ne,othe,hLe,hk0,hk1⟩:=((hL.keep kH4).keep (Dy Ja2)).append (by decide) bJ2 ox.len ox.ones sXs (by decide) Bs rfl (by omega);replace ne:He.n=Ja2.n+1:=ne;replace hLe:Lst 5 He (.slice (some ⟨Ja2.n,0,none⟩) (css.length+1) (css.length+1)) (css++[ws]):=hLe;replace othe: ∀j,j<Ja2.n→Xt av≠some j→He.blk j=Ja2.blk j:=othe;have avsh:=hL.shape;have nkH:=kH4.n;obtain⟨Gd,hGd⟩: ∃Gd:AH→Prop,∀G,Gd G↔(G.n=He.n∧Keep H G∧G.blk H.n= .rw 1 [.int .i64 op,.bool neg,va,vd,vx]∧G.blk (H.n+1)= .rw 1 [.int .i64 0,.bool false,.slice none 0 0,.slice none 0 0,.slice none 0 0]∧G.blk H2.n= .rw 1 [.int .i64 op,.bool S3.1,p,q,.slice (some ⟨Ja2.n,0,none⟩) (css.length+1) (css.length+1)]∧Sl G p S3.2.1∧Sl G q S3.2.2∧Lst 5 G (.slice (some ⟨Ja2.n,0,none⟩) (css.length+1) (css.length+1)) (css++[ws])∧(∀(j:Nat)(cs:List Value)(t:ET),(css++[ws])[j]?=some cs→args[j]?=some t→OX G (fun c=>(j=i∧H4.n≤c∧c<Ja1.n)∨(j<i∧Q j c)) cs t.twin)):=⟨_,fun _=>Iff.rfl⟩;have fin: ∀G3:AH,But none He G3→KAt (H.n+3) Ja2 G3→ ∃Hs,Xp Tryz.prog G3.top 51 (.pointer (some ⟨H2.n,4,none⟩)) (.slice (some ⟨Ja2.n,0,none⟩) (css.length+1) (css.length+1))=some Hs∧Hs.n=G3.n∧Hs.lw<G3.n∧Gd (low G3 Hs):=fun G3 bt kag=>by
      have old: ∀j,j<Ja2.n→Xt av≠some j→G3.blk j=Ja2.blk j:=fun j hj h=>(bt.blk j (by omega) (fun e=>by cases e)).trans (othe j hj h);have nav: ∀j,j<H.n+3→Xt av≠some j:=fun j hj e=>by have:=hav j e;omega
      have qy3:G3.blk H2.n= .rw 1 [.int .i64 op,.bool S3.1,p,q,av]:=(old _ (by omega) (nav _ (by omega))).trans qy4;have n3e:=bt.n;obtain⟨Hs,ss,sn,slw,fn,fb,fo,fk⟩:=putDX4 (v:= .slice (some ⟨Ja2.n,0,none⟩) (css.length+1) (css.length+1)) qy3 (by omega) rfl rfl;refine⟨Hs,ss,sn,slw,(hGd _).2 ?_⟩;obtain⟨G4,hG4⟩: ∃G4,G4=low G3 Hs:=⟨_,rfl⟩;rw[←hG4]at fn fb fo fk⊢;have keepj: ∀j,j<Ja2.n→Xt av≠some j→j≠H2.n→G4.blk j=Ja2.blk j:=fun j hj h h2=>(fo j h2).trans (old j hj h);have f4:Fr Ja2 G4:=⟨by omega,fun j hj=>by
       by_cases e:j=H2.n;·subst e;exact .inr (.inr ⟨_,_,qy4,fb,rfl,noU5 psh qsh avsh,noU5 psh qsh ⟨_,_,_,rfl⟩⟩)
       ·by_cases e2:Xt av=some j;·exact .inr (.inl ⟨5,_,((hL.keep kH4).blk_lt e2).2,by decide⟩)
        ·exact .inl (keepj j hj e2 e)⟩;refine⟨by omega,fk H ((kag H K (by omega))) (by omega),(keepj _ (by omega) (nav _ (by omega)) (by omega)).trans qx4,(keepj _ (by omega) (nav _ (by omega)) (by omega)).trans qz4,fb,(spc.keep kH4).fr f4,(sqc.keep kH4).fr f4,hLe.frame (by omega) (fun b hb=>?_),fun j cs t hc ht=>?_⟩;·cases hb;exact(fo _ (by omega)).trans (bt.blk _ (by omega) (fun e=>by cases e))
      ·rcases Nat.lt_or_ge j i with hj|hj;·rw[List.getElem?_append_left (by omega)]at hc;refine((((hQ3 j cs t hc ht).keep kH4).fr f4 fun c hc' hn=>?_)).weak fun c hc'=> .inr ⟨hj,hc'⟩;obtain⟨g1,g2,g3⟩:=hQ1 j c hc';exact keepj c (by omega) g3 (by omega)
       ·rw[List.getElem?_append_right (by omega)]at hc;have hji:j=i:=by
         rcases Nat.lt_or_ge i j with h|h;·rw[List.getElem?_eq_none (by simp;omega)]at hc;cases hc
         ·omega
        subst hji;rw[hcl,Nat.sub_self]at hc;cases hc;rw[hti]at ht;cases ht;refine(ox2.fr f4 fun c hc' hn=>?_).weak fun c hc'=> .inl ⟨rfl,hc'⟩;exact keepj c (by omega) (fun e=>by have:=(hL.blk_lt e).1;omega) (by omega)
     have l8:=Kd q8 hEt.len;refine Qz (fun s'=>s'.k=56∧Gd s'.H∧s'.tm.get 1=some (.pointer (some ⟨H.n,0,none⟩))∧s'.tm.get 2=some (.pointer (some ⟨H.n+1,0,none⟩))∧s'.tm.get 3=some (.pointer (some ⟨H2.n,0,none⟩))∧s'.tm.get 41=some vx∧s'.tm.get 42=some (.int .i64 (len:Int))∧s'.tm.get 43=some (.int .i64 (i:Int))) ?_ ?_;·intro Q'' hQ'';apply Zx;apply Zb;intro b4 hb4;apply Za;simp[u41,u43,hadr,hld,Bs,Value.cells,st4];subst hb4;apply Qs (by kernel_rfl);simp[u3,Ah];refine Yh (v:=av) rfl rfl rfl (by rw[Zm rfl];simp[loadX4 (H:=AH.top H4) qy4a]) ?_;simp[u3];refine Yh (v:= .agg us.toArray) rfl rfl rfl (by rw[Zm rfl];simp[Kd (H:=AH.top H4) q8a hEt.len]) ?_;simp;refine Yu (v:= .agg ws.toArray) (H2:=Ia1) rfl rfl rfl (by rw[Zm rfl];simp[da1]) ma1 (Yw kIa1) ?_;rw[←hJa1];have Ma1:=(Fc.nil H4.n).cons (i:=3) (a:=H4.n) (b:=Ia1.n) (by omega);generalize cond (Nat.blt H4.n Ia1.n) _ _=msa1 at Ma1;simp;refine Yu (v:= .slice (some ⟨Ja1.n,0,none⟩) 1 1) (H2:=Ia2) rfl rfl rfl (by rw[Zm (Ma1.hid (by kernel_rfl))];simp[da2]) ma2 (Yw kIa2) ?_;rw[←hJa2];have Ma2:=Ma1.cons (i:=4) (a:=Ja1.n) (b:=Ia2.n) (by omega);generalize cond (Nat.blt Ja1.n Ia2.n) _ _=msa2 at Ma2;simp;cases hxb:Xt av with
      |none=>
       refine Yu (v:= .slice (some ⟨Ja2.n,0,none⟩) (css.length+1) (css.length+1)) (H2:=He) rfl rfl rfl ?_ (by omega) (by rw[(hk0 hxb).2];exact Nat.le_refl _) ?_;·rw[Zm (Ma2.hid (by kernel_rfl))];simp[hap]
       obtain⟨Hs,ss,sn,slw,hfin⟩:=fin (grown Ja2 He) (Yg (hk0 hxb).1) ((Zu (.refl _) (hk0 hxb).1).kat _);have Ma3:=Ma2.cons (i:=5) (a:=Ja2.n) (b:=He.n) (by omega);generalize cond (Nat.blt Ja2.n He.n) _ _=msa3 at Ma3;simp[u3,Ah];refine Xd (v:= .tuple #[]) (H2:=Hs) rfl rfl (by kernel_rfl) (Ma3.hid (by kernel_rfl)) ?_ (by rw[sn];exact Nat.le_refl _) slw ?_;·show Yf _ _ _ _ (grown Ja2 He).top _=_;simp[ss]
       simp;apply hQ'';exact⟨rfl,hfin,by simp[u1],by simp[u2],by simp[u3],by simp[u41],by simp[u42],by simp[u43]⟩
      |some b=>
       have hb1:=hk1 b hxb;have hb2:b<Ja2.n:=hb1.2.2;refine Xd (v:= .slice (some ⟨Ja2.n,0,none⟩) (css.length+1) (css.length+1)) (H2:=He) rfl rfl (by kernel_rfl) (Ma2.hid (by kernel_rfl)) ?_ (by omega) (by have h3:=hb1.2.1;omega) ?_;·show Yf _ _ _ _ Ja2.top _=_;simp[hap]
       obtain⟨Hs,ss,sn,slw,hfin⟩:=fin (low Ja2 He) (Zk4 Ja2 He) (Cl (hb1.1.weak (hav b hxb)));have Ma3:=Ma2.cons (i:=5) (a:=Ja2.n) (b:=He.n) (by omega);generalize cond (Nat.blt Ja2.n He.n) _ _=msa3 at Ma3;simp[u3,Ah];refine Xd (v:= .tuple #[]) (H2:=Hs) rfl rfl (by kernel_rfl) (Ma3.hid (by kernel_rfl)) ?_ (by rw[sn];exact Nat.le_refl _) slw ?_;·show Yf _ _ _ _ (low Ja2 He).top _=_;simp[ss]
       simp;rw[show low (low Ja2 He) Hs= { n:=Hs.n,lw:=min Ja2.lw (min He.lw Hs.lw),t:=Hs.t } by simp[low,Nat.min_assoc]]at hfin;apply hQ'';exact⟨rfl,hfin,by simp[u1],by simp[u2],by simp[u3],by simp[u41],by simp[u42],by simp[u43]⟩
     clear u1 u2 u3 u41 u42 u43;rintro⟨k,tm2,Hx⟩ ⟨hk,hG,u1,u2,u3,u41,u42,u43⟩;simp only at hk hG u1 u2 u3 u41 u42 u43;subst hk;obtain⟨nx,kx,x0,x1,x2,xp,xq,xL,xO⟩:=(hGd _).1 hG;apply Za;simp[u43,Cf (x:=i) (by omega)];apply hQ';refine⟨n'-1,by omega,rfl,i+1,.slice (some ⟨Ja2.n,0,none⟩) (css.length+1) (css.length+1),css++[ws],fun j c=>(j=i∧H4.n≤c∧c<Ja1.n)∨(j<i∧Q j c),by omega,kx,by show H.n+3≤Hx.n;omega,x0,x1,x2,xp,xq,xL,by simp[hcl],(fun b hb=>by cases hb;omega),fun j c hc=>?_,fun j l c hjl h1 h2=>?_,xO,by simp[u1],by simp[u2],by simp[u3],by simp[u41],by simp[u42],by simp⟩
     ·show H.n+3≤c∧c<Hx.n∧_;rcases hc with⟨_,g1,g2⟩|⟨_,g⟩;·exact⟨by omega,by omega,fun e=>by cases e;omega⟩
      ·obtain⟨g1,g2,_⟩:=hQ1 j c g;exact⟨g1,by omega,fun e=>by cases e;omega⟩
     ·rcases h1 with⟨e1,g1,g2⟩|⟨e1,g1⟩
      ·rcases h2 with⟨e2,_,_⟩|⟨e2,g3⟩;·omega
       ·have:=(hQ1 l c g3).2.1;omega
      ·rcases h2 with⟨e2,g2,_⟩|⟨e2,g3⟩;·have:=(hQ1 j c g1).2.1;omega
       ·exact hQ2 j l c hjl g1 g3
    ·refine Zc (t:=false) (by simp[hi]) ?_;apply Qf;apply hQ';left;refine⟨rfl,?_⟩;clear hQ';obtain rfl:i=len:=by omega
     subst hb1;have ash:=hL.shape;have hones:[Value.int .i64 op,.bool S3.1,p,q,av].all one=true:=by obtain⟨a,l,c,rfl⟩:=psh;obtain⟨a',l',c',rfl⟩:=qsh;obtain⟨a'',l'',c'',rfl⟩:=ash;rfl
     obtain⟨H9,st9,n9,q9,b9,ka9⟩:=Cz Zd1 qz rfl (v:= .agg #[.int .i64 op,.bool S3.1,p,q,av]) (ws:=[.int .i64 op,.bool S3.1,p,q,av]) (by simp[Value.cells]) rfl hones;have f9:Fr Hc H9:=Fr.put qz q9 n9 b9 rfl rfl (noU5 psh qsh ash);have hld:=Kd q9 rfl;have hly:=Kd qy rfl;try simp at hld hly
     apply Zb;intro b1 hb1;apply Za;simp[u2,u3,hly,st9];subst hb1;apply Zn;simp[u2,hld];have hcl':css.length=(De args).length:=by rw[twinAll_len];omega
     refine⟨ka9 H kc (by omega),?_⟩;simp only[ET.twin];rw[←hS3];refine .mk css Q (spc.fr f9) (sqc.fr f9) (hL.frame (by omega) fun b hb=>b9 b (by have:=hav b hb;omega)) hcl' (fun b hb=>?_) (fun j c hc=>?_) hQ2 fun j cs t hc ht=>?_;·have:=hav b hb;have:=(hL.blk_lt hb).1;exact⟨by omega,by omega⟩
     ·obtain⟨g1,g2,g3⟩:=hQ1 j c hc;exact⟨⟨by omega,by omega⟩,g3⟩
     ·rw[Zp5,List.getElem?_map]at ht;cases hj:args[j]? with|none=>rw[hj]at ht;cases ht|some t0=>rw[hj]at ht;cases ht;exact(hQ3 j cs t0 hc hj).fr f9 fun c hc' hn=>b9 c (by have:=(hQ1 j c hc').1;omega)
end
end
mutual def ET.subs:ET→List ET| .node op neg abs den args=>(ET.node op neg abs den args).twin::Vf args def Vf:List ET→List ET|[]=>[]|t::ts=>t.subs++Vf ts end
mutual theorem subs_len: ∀t:ET,t.subs.length=t.nodes| .node op neg abs den args=>by simp only[ET.subs,ET.nodes,List.length_cons,Zd3 args];omega theorem Zd3: ∀l:List ET,(Vf l).length=Xb l|[]=>rfl|t::ts=>by simp only[Vf,Xb,List.length_append,subs_len t,Zd3 ts] end
theorem subsAll_append(xs ys:List ET):Vf (xs++ys)=Vf xs++Vf ys:=by induction xs with|nil=>simp[Vf]|cons x xs ih=>simp[Vf,ih]
theorem subsAll_take{args:List ET}{i:Nat}{t:ET}(h:args[i]?=some t):Vf (args.take (i+1))=Vf (args.take i)++t.subs:=by rw[List.take_add_one,h,subsAll_append];simp[Vf]
def PtIn(H:AH)(lb:Nat)(lv:Value)(L:List ET):Prop:=H.blk lb= .rw 1 [lv]∧lb<H.n∧ ∃css,Lst 5 H lv css∧css.length=L.length∧ ∀(i:Nat)(cs:List Value)(t:ET),css[i]?=some cs→L[i]?=some t→OX H (fun c=>c<H.n∧c≠lb∧Xt lv≠some c) cs t
theorem PtIn.keep{H H':AH}{lb:Nat}{lv:Value}{L:List ET}(h:PtIn H lb lv L)(k:Keep H H'):PtIn H' lb lv L:=by obtain⟨h1,h2,css,h3,h4,h5⟩:=h;exact⟨(k.blk _ h2).trans h1,Nat.lt_of_lt_of_le h2 k.n,css,h3.keep k,h4,fun i cs t hc ht=>((h5 i cs t hc ht).keep k).weak fun c hc=>⟨Nat.lt_of_lt_of_le hc.1 k.n,hc.2⟩⟩
theorem PtIn.ne{H:AH}{lb:Nat}{lv:Value}{L:List ET}(h:PtIn H lb lv L){b:Nat}{cs:List Value}(hb:H.blk b= .rw 1 cs):Xt lv≠some b:=fun e=>by obtain⟨_,_,css,h3,_⟩:=h;have:=(h3.blk_lt e).2;rw[hb]at this;injection this with this _;exact absurd this (by decide)
theorem PtIn.lt{H:AH}{lb:Nat}{lv:Value}{L:List ET}(h:PtIn H lb lv L){b:Nat}(e:Xt lv=some b):b<H.n:=by obtain⟨_,_,css,h3,_⟩:=h;exact(h3.blk_lt e).1
theorem adrXs{b m cap i:Nat}(hi:i<m):Yt Tryz.prog 51 (.slice (some ⟨b,0,none⟩) m cap) (.int .i64 (i:Int))=some (.pointer (some ⟨b,i*5,none⟩)):=by unfold Yt;simp only[uXs,Zd1];rw[if_pos (by omega)];simp
theorem loadXs{H:AH}{b:Nat}{v:Value}(h:H.blk b= .rw 1 [v]):Yn Tryz.prog H 51 (.pointer (some ⟨b,0,none⟩))=some v:=Ys aExprs (AH.cells_rw' h (by decide)) rfl
theorem flat_put{css:List (List Value)}{z ws:List Value}(h: ∀cs∈css,cs.length=5)(hz:z.length=5):(css++[z]).flatten.take (css.length*5)++ws++(css++[z]).flatten.drop (css.length*5+5)=(css++[ws]).flatten:=by have hl:=Cm h;simp only[List.flatten_append,List.flatten_cons,List.flatten_nil,List.append_nil];rw[←hl,List.take_left,←List.drop_drop,List.drop_left,List.drop_of_length_le (by omega),List.append_nil]
theorem grown_newS{V H:AH}{sz:Nat}(hV:V.n=H.n)(z:List Value):grown H (V.new sz z)=grown H (H.top.new sz z):=by
 unfold grown;have e1:(V.new sz z).n=H.n+1:=by show V.n+1=_;omega
 have e2:(H.top.new sz z).n=H.n+1:=rfl;have e3:(V.new sz z).blk H.n=(H.top.new sz z).blk H.n:=by rw[AH.blk_new,AH.blk_new,if_pos hV.symm,if_pos (show H.n=H.top.n from rfl)]
 rw[e1,e2,show H.n+1-H.n=1 by omega];simp only[addT,Nat.add_zero,e3]
theorem allocS(sz:Nat)(H:AH)(z:List Value): ∃I,H.new sz z=I∧Keep H I:=⟨_,rfl,Keep.new _ _ _⟩
def rev(H:AH)(b:Nat)(x:Blk):AH:= { n:=H.n,lw:=H.lw,t:=H.t.set b x }
theorem rev_blk(H:AH)(b:Nat)(x:Blk)(j:Nat):(rev H b x).blk j=if j=b then x else H.blk j:=by
 show(match(H.t.set b x).get j with|some y=>y|none=>Blk.dead)=_;rw[Tr.get_set];by_cases e:j=b;·rw[if_pos e,if_pos e]
 ·rw[if_neg e,if_neg e];rfl
theorem rev_kat(H:AH)(b:Nat)(x:Blk):KAt b H (rev H b x):=fun H0 k hn=>⟨k.n,k.lw,fun j hj=>by rw[rev_blk,if_neg (by omega)];exact k.blk j hj⟩
theorem Sl.alive{H H':AH}{v:Value}{xs:List Nat}(h:Sl H v xs)(hn:H.n≤H'.n)(hb: ∀j,j<H.n→H.blk j= .dead∨H'.blk j=H.blk j):Sl H' v xs:=by cases h with
 |nil=>exact .nil
 |emp b=>exact .emp b
 |mk b o cap xs h1 h2=>
  refine .mk b o cap xs h1 ?_;obtain⟨g1,cs,g2,g3,g4,g5⟩:=h2;rcases hb b g1 with e|e;·unfold AH.cells at g2;rw[e]at g2;cases g2
  ·exact⟨Nat.lt_of_lt_of_le g1 hn,cs,by unfold AH.cells;rw[e];exact g2,by unfold AH.size;rw[e];exact g3,g4,g5⟩
theorem Lst.alive{sz:Nat}{H H':AH}{v:Value}{css:List (List Value)}(h:Lst sz H v css)(hn:H.n≤H'.n)(hb: ∀j,j<H.n→H.blk j= .dead∨H'.blk j=H.blk j):Lst sz H' v css:=h.frame hn fun b hv=>by
 obtain⟨h1,h2⟩:=h.blk_lt hv;rcases hb b h1 with e|e;·rw[h2]at e;cases e
 ·exact e
theorem OX.alive{H H':AH}{P:Nat→Prop}{vs:List Value}{t:ET}(h:OX H P vs t)(hn:H.n≤H'.n)(hb: ∀j,j<H.n→H.blk j= .dead∨H'.blk j=H.blk j):OX H' P vs t:=by induction h with|mk css Q h1 h2 h3 h4 h5 h6 h7 h8 ih=>exact .mk css Q (h1.alive hn hb) (h2.alive hn hb) (h3.alive hn hb) h4 h5 h6 h7 fun i cs t hc ht=>ih i cs t hc ht
def subClo(lb cb:Nat):Value:= .func (.func 77) #[] #[.pointer (some ⟨lb,0,none⟩),.pointer (some ⟨cb,0,none⟩)]
theorem aFnX:Jm Tryz.prog 135=some false:=by kernel_rfl
theorem loadFX{H:AH}{b:Nat}{v:Value}(h:H.blk b= .rw 1 [v]):Yn Tryz.prog H 135 (.pointer (some ⟨b,0,none⟩))=some v:=Ys aFnX (AH.cells_rw' h (by decide)) rfl
section
attribute [-simp] Int.natCast_add Int.natCast_mul Int.natCast_ediv Int.natCast_emod Int.natCast_pow
attribute [local simp] strip Yd LW' LR gW Yf Xh Ya Xi Yo Xj Zr Zs Zh Yp Yy Yk Xo Zw Yq Zi Ze Xn Xm Je Ye Xa opd Qe Ym plain Yj Tr.get_set Qc Zp Xy Yc sameKind undef Zt Yr Yv Zk Yb parts unV DW Xq Zv LX Zy
attribute [local simp] top_nn Qh Qt
section
set_option maxHeartbeats 1000000 in
theorem sub_walk : ∀ n (t : ET), t.nodes ≤ n → ∀ (H0 H : AH) (vs : List Value) (lb cb : Nat) (L : List ET) (lv : Value), Ex H0 vs t → t.wide 1048576 → t.allGood = true → Keep H0 H → H0.n ≤ lb → H.blk cb = .rw 1 [subClo lb cb] → cb < H.n → cb ≠ lb → PtIn H lb lv L →
    (∀ b, Xt lv = some b → lb ≤ b) → L.length + t.nodes ≤ 500000000 →
    ∃ x lv' H', Zq Tryz.prog Zo 77 [.agg vs.toArray, .pointer (some ⟨lb, 0, none⟩), .pointer (some ⟨cb, 0, none⟩)] H = some (x, H') ∧ H.n ≤ H'.n ∧ PtIn H' lb lv' (L ++ t.subs) ∧ (∀ b, Xt lv' = some b → H.n ≤ b) ∧ KAt lb H H' ∧
      (∀ j, j < H.n → j ≠ lb → Xt lv ≠ some j → H'.blk j = H.blk j) := by
  intro n
  induction n with
  | zero => intro t h; have := Vq t; omega
  | succ n ih =>
  intro t ht H0 H vs lb cb L lv hE hw hg k0 hb0 hcb hcn hcl hP hlv hLn
  obtain ⟨Po, hPo⟩ : ∃ Po : AH → Prop, ∀ H', Po H' ↔ ∃ lv', H.n ≤ H'.n ∧ PtIn H' lb lv' (L ++ t.subs) ∧ (∀ b, Xt lv' = some b → H.n ≤ b) ∧ KAt lb H H' ∧
      (∀ j, j < H.n → j ≠ lb → Xt lv ≠ some j → H'.blk j = H.blk j) := ⟨_, fun _ => Iff.rfl⟩
  suffices hs : CW Tryz.prog Zo 77 [.agg vs.toArray, .pointer (some ⟨lb, 0, none⟩), .pointer (some ⟨cb, 0, none⟩)] H fun _ H' => Po H' by
    obtain ⟨x, H', hc, h⟩ := hs
    obtain ⟨lv', h⟩ := (hPo _).1 h
    exact ⟨x, lv', H', hc, h⟩
  have htw := twin_walk _ t (Nat.le_refl _)
  obtain ⟨T, hT⟩ : ∃ T, T = t.twin := ⟨_, rfl⟩
  rw [← hT] at htw
  obtain ⟨op, neg, abs, den, args⟩ := t
  have hE' := hE
  cases hE' with
  | @mk _ _ va vd vx _ _ _ h1 h2 h3 =>
  have hwt := hw
  obtain ⟨wa, wd, da, dd, wx⟩ := hw
  simp only [ET.nodes] at ht hLn
  have hgt := hg
  simp only [ET.allGood, Bool.and_eq_true] at hg
  obtain ⟨hgn, hga⟩ := hg
  obtain ⟨len, hln⟩ : ∃ len, len = args.length := ⟨_, rfl⟩
  have hlx := h3.len
  rw [← hln] at hlx
  have hlen9 := Gw args
  have hlbn := hP.2.1
  obtain ⟨H2, e2, k2, n2, q0⟩ := Vc H [.int .i64 op, .bool neg, va, vd, vx]
  have hP2 := hP.keep k2
  have hcb2 := (k2.blk _ hcn).trans hcb
  obtain ⟨hl2, _, css, hL, hcL, hO⟩ := hP2
  have lvsh := hL.shape
  have nvl : Xt lv ≠ some lb := PtIn.ne hP hP.1
  have nvc : Xt lv ≠ some cb := PtIn.ne hP hcb
  have nvH : ∀ j, H.n ≤ j → Xt lv ≠ some j := fun j hj e => by have := hP.lt e; omega
  obtain ⟨Hd, hHd⟩ : ∃ Hd, Hd = rev H2 lb .dead := ⟨_, rfl⟩
  have hdb : ∀ j, Hd.blk j = if j = lb then .dead else H2.blk j := fun j => by rw [hHd]; exact rev_blk _ _ _ _
  have hdn : Hd.n = H2.n := by rw [hHd]; rfl
  have kad : KAt lb H2 Hd := by rw [hHd]; exact rev_kat _ _ _
  have hLd : Lst 5 Hd lv css := hL.frame (Nat.le_of_eq hdn.symm) fun b hb => by rw [hdb, if_neg (fun e => nvl (by rw [← e]; exact hb))]
  have q0d : Hd.blk H.n = .rw 1 [.int .i64 op, .bool neg, va, vd, vx] := by rw [hdb, if_neg (by omega)]; exact q0
  have K := (kad H0 (k0.trans k2) hb0)
  have q0da := q0d
  have vka : ∀ {J : AH} (k : Keep Hd J) {bits ms}, (∀ x ∈ ms, Hd.n ≤ x.2.1) → ∀ b, b < Hd.n → (vis J bits ms).blk b = Hd.blk b := fun k _ _ h b hb => (Qy k h).blk b hb
  obtain ⟨ws, Ia1, da1, kIa1, ox⟩ := htw Hd.top _ ((hE.keep K).keep (Dy _)) hwt hgt
  obtain ⟨Ja1, hJa1⟩ : ∃ J, J = grown Hd Ia1 := ⟨_, rfl⟩
  have kJa1 : Keep Hd Ja1 := by rw [hJa1]; exact Zu (.refl _) kIa1
  have ma1 : Hd.n ≤ Ia1.n := kIa1.n
  have kka1 := kJa1
  have nka1 := kka1.n
  have K := K.trans kJa1
  obtain ⟨Ia2, da2, kIa2⟩ := allocS 5 Ja1.top [.int .i64 0, .bool false, .slice none 0 0, .slice none 0 0, .slice none 0 0]
  obtain ⟨Ja2, hJa2⟩ : ∃ J, J = grown Ja1 Ia2 := ⟨_, rfl⟩
  have kJa2 : Keep Ja1 Ja2 := by rw [hJa2]; exact Zu (.refl _) kIa2
  have ma2 : Ja1.n ≤ Ia2.n := kIa2.n
  have kka2 := kka1.trans kJa2
  have nka2 := kka2.n
  have K := K.trans kJa2
  replace q0d := (kka2.blk _ (by omega)).trans q0d
  have nI2 : Ia2.n = Ja1.n + 1 := by rw [← da2]; rfl
  have bI2 : Ia2.blk Ja1.n = .rw 5 [.int .i64 0, .bool false, .slice none 0 0, .slice none 0 0, .slice none 0 0] := by rw [← da2, AH.blk_new, if_pos (show Ja1.n = Ja1.top.n from rfl)]
  have nJ1 : Ja1.n = Ia1.n := by rw [hJa1]; rfl
  have nJ2 : Ja2.n = Ja1.n + 1 := by rw [hJa2]; exact nI2
  have bJ2 : Ja2.top.blk Ja1.n = .rw 5 [.int .i64 0, .bool false, .slice none 0 0, .slice none 0 0, .slice none 0 0] := by
    show Ja2.blk Ja1.n = _
    rw [hJa2, (Yg kIa2).blk Ja1.n (by rw [nI2]; exact Nat.lt_succ_self _) (fun e => by cases e)]
    exact bI2
  have ox1 : OX Ja1 (fun j => Hd.n ≤ j ∧ j < Ja1.n) ws T := by
    rw [hJa1]
    exact ox.fr (grown_fr kIa1) fun j _ hj => (Yg kIa1).blk j hj (fun e => by cases e)
  have ox2 := ox1.keep kJa2
  have hLJ := hLd.keep kka2
  obtain ⟨He, hap, ne, othe, hLe, hk0, hk1⟩ := (hLJ.keep (Dy Ja2)).append (by decide) bJ2 rfl rfl sXs (by decide) Bs rfl (by omega)
  replace ne : He.n = Ja2.n + 1 := ne
  replace hLe : Lst 5 He (.slice (some ⟨Ja2.n, 0, none⟩) (css.length + 1) (css.length + 1)) (css ++ [[.int .i64 0, .bool false, .slice none 0 0, .slice none 0 0, .slice none 0 0]]) := hLe
  replace othe : ∀ j, j < Ja2.n → Xt lv ≠ some j → He.blk j = Ja2.blk j := othe
  have hcss : ∀ cs ∈ css, cs.length = 5 := by
    rcases hL with ⟨_, rfl⟩ | ⟨_, _, _, _, h⟩
    · intro cs hc; cases hc
    · exact h
  have ndk := kka2.n
  obtain ⟨Gd, hGd⟩ : ∃ Gd : AH → Prop, ∀ G, Gd G ↔ (H.n + 1 ≤ G.n ∧ PtIn G lb (.slice (some ⟨Ja2.n, 0, none⟩) (css.length + 1) (css.length + 1)) (L ++ [T]) ∧ KAt lb H G ∧ (∀ j, j < H.n → j ≠ lb → Xt lv ≠ some j → G.blk j = H.blk j) ∧
      G.blk H.n = .rw 1 [.int .i64 op, .bool neg, va, vd, vx]) := ⟨_, fun _ => Iff.rfl⟩
  have fin : ∀ G3 : AH, But none He G3 → KAt lb Ja2 G3 → ∃ Hs1, Xp Tryz.prog G3.top 53 (.pointer (some ⟨Ja2.n, css.length * 5, none⟩)) (.agg ws.toArray) = some Hs1 ∧ Hs1.n = G3.n ∧ Hs1.lw < G3.n ∧
      ∃ H4, Xp Tryz.prog (only (low G3 Hs1) lb (.rw 1 [lv])) 51 (.pointer (some ⟨lb, 0, none⟩)) (.slice (some ⟨Ja2.n, 0, none⟩) (css.length + 1) (css.length + 1)) = some H4 ∧ H4.blk lb = .rw 1 [.slice (some ⟨Ja2.n, 0, none⟩) (css.length + 1) (css.length + 1)] ∧ H4.lw ≤ lb ∧ H4.n = (low G3 Hs1).n ∧
        Gd { n := (low G3 Hs1).n, lw := min (low G3 Hs1).lw H4.lw, t := (low G3 Hs1).t.set lb (.rw 1 [.slice (some ⟨Ja2.n, 0, none⟩) (css.length + 1) (css.length + 1)]) } := fun G3 bt kag => by
    have n3e := bt.n
    have old : ∀ j, j < Ja2.n → Xt lv ≠ some j → G3.blk j = Ja2.blk j := fun j hj h => (bt.blk j (by omega) (fun e => by cases e)).trans (othe j hj h)
    have hnew : G3.top.blk Ja2.n = .rw 5 ((css ++ [([.int .i64 0, .bool false, .slice none 0 0, .slice none 0 0, .slice none 0 0] : List Value)]).flatten) := (bt.blk _ (by omega) (fun e => by cases e)).trans (hLe.blk_lt rfl).2
    have hflen : ((css ++ [([.int .i64 0, .bool false, .slice none 0 0, .slice none 0 0, .slice none 0 0] : List Value)]).flatten).length = css.length * 5 + 5 := by
      rw [Cm (sz := 5) (fun cs hc => by
        rcases List.mem_append.mp hc with h | h
        · exact hcss cs h
        · rw [List.mem_singleton.mp h]; rfl)]
      simp; omega
    obtain ⟨Hs1, ss1, fb1, sn1, fo1, ka1, lw1⟩ := Ee (H := G3.top) (o := css.length * 5) (v := .agg ws.toArray) (ws := ws) Zd1 hnew (by simp [Value.cells]) ox.len (by omega) ox.ones
    rw [flat_put hcss rfl] at fb1
    replace sn1 : Hs1.n = G3.n := sn1
    have slw1 : Hs1.lw < G3.n := by rw [lw1]; show min G3.n Ja2.n < G3.n; omega
    obtain ⟨H3, hH3⟩ : ∃ H3, H3 = low G3 Hs1 := ⟨_, rfl⟩
    have kb1 : KAt lb Ja2 H3 := by rw [hH3]; exact kag.trans ((Cl ka1).weak (by omega))
    have n3 : H3.n = G3.n := by rw [hH3]; exact sn1
    have b3 : ∀ j, H3.blk j = Hs1.blk j := fun j => by rw [hH3]; rfl
    have hol : (only H3 lb (.rw 1 [lv])).blk lb = .rw 1 [lv] := by rw [Bn, if_pos rfl]
    obtain ⟨H4, st4, n4, q4, o4, ka4, lw4⟩ := putL sXsl hol rfl (v := .slice (some ⟨Ja2.n, 0, none⟩) (css.length + 1) (css.length + 1)) (ws := [.slice (some ⟨Ja2.n, 0, none⟩) (css.length + 1) (css.length + 1)]) rfl rfl rfl
    replace lw4 : H4.lw = min H3.n lb := lw4
    refine ⟨Hs1, ss1, sn1, slw1, ?_⟩
    rw [← hH3]
    refine ⟨H4, st4, q4, by omega, n4, (hGd _).2 ?_⟩
    obtain ⟨G4, hG4⟩ : ∃ G4 : AH, G4 = { n := H3.n, lw := min H3.lw H4.lw, t := H3.t.set lb (.rw 1 [.slice (some ⟨Ja2.n, 0, none⟩) (css.length + 1) (css.length + 1)]) } := ⟨_, rfl⟩
    rw [← hG4]
    have g4b : ∀ j, G4.blk j = if j = lb then .rw 1 [.slice (some ⟨Ja2.n, 0, none⟩) (css.length + 1) (css.length + 1)] else H3.blk j := fun j => by rw [hG4]; exact rev_blk H3 lb _ j
    have g4n : G4.n = H3.n := by rw [hG4]
    have kG4 : KAt lb H3 G4 := fun H0' k hn => ⟨by rw [g4n]; exact k.n, by rw [hG4]; show min H0'.lw H0'.n ≤ min H3.lw H4.lw; have := k.lw; have := k.n; omega, fun j hj => by rw [g4b, if_neg (by omega)]; exact k.blk j hj⟩
    have keepj : ∀ j, j < Ja2.n → Xt lv ≠ some j → j ≠ lb → G4.blk j = Ja2.blk j := fun j hj h h2 => by
      rw [g4b, if_neg h2, b3]
      exact (fo1 j (by omega)).trans (old j hj h)
    have kad' : ∀ j, j < H2.n → j ≠ lb → Ja2.blk j = H2.blk j := fun j hj h => by
      rw [kka2.blk j (by omega), hdb, if_neg h]
    -- the heap with the slice as it was
    obtain ⟨J, hJ⟩ : ∃ J, J = rev Ja2 lb (.rw 1 [lv]) := ⟨_, rfl⟩
    have hJb : ∀ j, J.blk j = if j = lb then .rw 1 [lv] else Ja2.blk j := fun j => by rw [hJ]; exact rev_blk _ _ _ _
    have hJn : J.n = Ja2.n := by rw [hJ]; rfl
    have deadl : Ja2.blk lb = .dead := by rw [kka2.blk lb (by omega), hdb, if_pos rfl]
    have f4 : Fr J G4 := ⟨by omega, fun j hj => by
      by_cases e : j = lb
      · subst e
        obtain ⟨a, l, c, rfl⟩ := lvsh
        exact .inr (.inr ⟨[.slice a l c], [.slice (some ⟨Ja2.n, 0, none⟩) (css.length + 1) (css.length + 1)], by rw [hJb, if_pos rfl], by rw [g4b, if_pos rfl], rfl, rfl, rfl⟩)
      · by_cases e2 : Xt lv = some j
        · exact .inr (.inl ⟨5, _, by rw [hJb, if_neg e]; exact (hLJ.blk_lt e2).2, by decide⟩)
        · exact .inl (by rw [hJb, if_neg e]; exact keepj j (by omega) e2 e)⟩
    have kJ : Keep H2 J := ⟨by omega, by
      have h1 := kka2.lw
      have h2 : Hd.lw = H2.lw := by rw [hHd]; rfl
      have h3 : J.lw = Ja2.lw := by rw [hJ]; rfl
      omega, fun j hj => by
      rw [hJb]
      by_cases e : j = lb
      · rw [if_pos e, e]; exact hl2.symm
      · rw [if_neg e]; exact kad' j hj e⟩
    have oxJ : OX J (fun j => Hd.n ≤ j ∧ j < Ja1.n) ws T := ox2.alive (by omega) fun j hj => by
      by_cases e : j = lb
      · left; rw [e]; exact deadl
      · right; rw [hJb, if_neg e]
    have bnew : G4.blk Ja2.n = .rw 5 ((css ++ [ws]).flatten) := by rw [g4b, if_neg (by omega), b3]; exact fb1
    have katH : KAt lb H G4 := fun H0' k hn => kG4 H0' (kb1 H0' ((kad H0' (k.trans k2) hn).trans kka2) hn) hn
    refine ⟨by omega, ⟨by rw [g4b, if_pos rfl], by omega, css ++ [ws], .inr ⟨Ja2.n, by simp, by omega, bnew, fun cs hc => ?_⟩, by simp [hcL], fun i cs t hc ht => ?_⟩, katH, fun j hj h h2 => ?_, ?_⟩
    · rcases List.mem_append.mp hc with h | h
      · exact hcss cs h
      · rw [List.mem_singleton.mp h]; exact ox.len
    · rcases Nat.lt_or_ge i css.length with hi | hi
      · rw [List.getElem?_append_left hi] at hc
        rw [List.getElem?_append_left (by omega)] at ht
        refine (((hO i cs t hc ht).keep kJ).fr f4 fun c hc' hn => ?_).weak fun c hc' => ⟨by omega, hc'.2.1, fun e => by cases e; omega⟩
        rw [hJb, if_neg hc'.2.1]
        exact keepj c (by omega) hc'.2.2 hc'.2.1
      · rw [List.getElem?_append_right hi] at hc
        have hji : i = css.length := by
          rcases Nat.lt_or_ge css.length i with h | h
          · rw [List.getElem?_eq_none (by simp; omega)] at hc; cases hc
          · omega
        rw [List.getElem?_append_right (by omega), show i - L.length = 0 by omega] at ht
        rw [show i - css.length = 0 by omega] at hc
        cases hc; cases ht
        refine (oxJ.fr f4 fun c hc' hn => ?_).weak fun c hc' => ⟨by omega, by omega, fun e => by cases e; omega⟩
        rw [hJb, if_neg (by omega)]
        exact keepj c (by omega) (nvH c (by omega)) (by omega)
    · exact (keepj j (by omega) h2 h).trans ((kad' j (by omega) h).trans (k2.blk j hj))
    · exact (keepj _ (by omega) (nvH _ (by omega)) (by omega)).trans ((kad' _ (by omega) (by omega)).trans q0)
  have hlenL := hL.len uXs
  have l0 := Kd q0 rfl
  refine Zl 24 (by decide) (by decide) Tryz.func77 rfl rfl ?_
  apply Zb; intro b1 hb1
  apply Za
  simp [Value.cells, e2]
  subst hb1
  refine Qz (fun s' => s'.k = 24 ∧ Gd s'.H ∧ s'.tm.get 1 = some (.pointer (some ⟨lb, 0, none⟩)) ∧ s'.tm.get 2 = some (.pointer (some ⟨cb, 0, none⟩)) ∧ s'.tm.get 3 = some (.pointer (some ⟨H.n, 0, none⟩))) ?_ ?_
  · intro Q'' hQ''
    have lon : Yn Tryz.prog (only H2 lb (.rw 1 [lv])) 51 (.pointer (some ⟨lb, 0, none⟩)) = some lv := loadXs (by rw [Bn, if_pos rfl])
    refine W_split (fl := 0) (z := 8) (b := lb) (sz := 1) (cs := [lv]) (cs2 := [.slice (some ⟨Ja2.n, 0, none⟩) (css.length + 1) (css.length + 1)]) (v := lv) (by kernel_rfl) (by kernel_rfl) (by kernel_rfl) rfl rfl hl2 ⟨_, false, rfl, by simp [Ve], by simp [lon]⟩ ?_
    rw [show ({ n := H2.n, lw := H2.lw, t := H2.t.set lb .dead } : AH) = Hd from hHd.symm]
    simp
    refine DG_self (v := lv) rfl rfl (by kernel_rfl) ?_
    simp
    refine Yh (v := .agg #[.int .i64 op, .bool neg, va, vd, vx]) rfl rfl rfl (by rw [Zm rfl]; simp [Kd (H := AH.top Hd) q0da rfl]) ?_
    simp
    have Ma0 : Fc Hd.n [] [] := Fc.nil Hd.n
    skip
    refine Yu (v := .agg ws.toArray) (H2 := Ia1) rfl rfl rfl (by rw [Zm rfl]; simp [da1]) ma1 (Yw kIa1) ?_
    rw [← hJa1]
    have Ma1 := (Fc.nil Hd.n).cons (i := 2) (a := Hd.n) (b := Ia1.n) (by omega)
    generalize cond (Nat.blt Hd.n Ia1.n) _ _ = msa1 at Ma1
    simp [hlenL]
    have nV : ∀ b m, (vis Ja1 b m).n = Ja1.n := fun _ _ => rfl
    have nV2 : ∀ b m z, ((vis Ja1 b m).new 5 z).n = Ia2.n := fun _ _ _ => nI2.symm ▸ rfl
    refine Yu (v := .slice (some ⟨Ja1.n, 0, none⟩) 1 1) (H2 := (vis Ja1 _ _).new 5 [.int .i64 0, .bool false, .slice none 0 0, .slice none 0 0, .slice none 0 0]) rfl rfl rfl (by simp [bXs1, nV]; rfl) (by rw [nV2]; omega) (Nat.le_refl _) ?_
    rw [grown_newS (H := Ja1) (V := vis Ja1 _ _) rfl, da2, ← hJa2, nV2]
    have Ma2 := Ma1.cons (i := 4) (a := Ja1.n) (b := Ia2.n) (by omega)
    generalize cond (Nat.blt Ja1.n Ia2.n) _ _ = msa2 at Ma2
    simp
    have hadr := adrXs (b := Ja2.n) (m := css.length + 1) (cap := css.length + 1) (i := css.length) (by omega)
    cases hxb : Xt lv with
    | none =>
      refine Yu (v := .slice (some ⟨Ja2.n, 0, none⟩) (css.length + 1) (css.length + 1)) (H2 := He) rfl rfl rfl ?_ (by omega) (by rw [(hk0 hxb).2]; exact Nat.le_refl _) ?_
      · rw [Zm (Ma2.hid (by kernel_rfl))]
        simp [hap]
      obtain ⟨Hs1, ss1, sn1, slw1, H4, st4, g1, g2, g3, hfin⟩ := fin (grown Ja2 He) (Yg (hk0 hxb).1) ((Zu (.refl _) (hk0 hxb).1).kat _)
      have Ma3 := Ma2.cons (i := 5) (a := Ja2.n) (b := He.n) (by omega)
      generalize cond (Nat.blt Ja2.n He.n) _ _ = msa3 at Ma3
      simp [hadr]
      refine Xd (v := .tuple #[]) (H2 := Hs1) rfl rfl (by kernel_rfl) (Ma3.hid (by kernel_rfl)) ?_ (by rw [sn1]; exact Nat.le_refl _) slw1 ?_
      · show Yf _ _ _ _ (grown Ja2 He).top _ = _
        simp [ss1]
      rw [show ({ n := Hs1.n, lw := min (grown Ja2 He).lw Hs1.lw, t := Hs1.t } : AH) = low (grown Ja2 He) Hs1 from rfl]
      simp
      refine DG_self (v := .tuple #[]) rfl rfl (by kernel_rfl) ?_
      simp
      refine ⟨H4, by rw [st4], g1, g2, g3, ?_⟩
      apply hQ''
      exact ⟨rfl, hfin, by simp, by simp, by simp⟩
    | some b =>
      have hb1 := hk1 b hxb
      have hb2 : b < Ja2.n := hb1.2.2
      refine Xd (v := .slice (some ⟨Ja2.n, 0, none⟩) (css.length + 1) (css.length + 1)) (H2 := He) rfl rfl (by kernel_rfl) (Ma2.hid (by kernel_rfl)) ?_ (by omega) (by have h3 := hb1.2.1; omega) ?_
      · show Yf _ _ _ _ Ja2.top _ = _
        simp [hap]
      obtain ⟨Hs1, ss1, sn1, slw1, H4, st4, g1, g2, g3, hfin⟩ := fin (low Ja2 He) (Zk4 Ja2 He) (Cl (hb1.1.weak (hlv b hxb)))
      have Ma3 := Ma2.cons (i := 5) (a := Ja2.n) (b := He.n) (by omega)
      generalize cond (Nat.blt Ja2.n He.n) _ _ = msa3 at Ma3
      rw [show ({ n := He.n, lw := min Ja2.lw He.lw, t := He.t } : AH) = low Ja2 He from rfl]
      simp [hadr]
      refine Xd (v := .tuple #[]) (H2 := Hs1) rfl rfl (by kernel_rfl) (Ma3.hid (by kernel_rfl)) ?_ (by rw [sn1]; exact Nat.le_refl _) slw1 ?_
      · show Yf _ _ _ _ (low Ja2 He).top _ = _
        simp [ss1]
      rw [show ({ n := Hs1.n, lw := min (low Ja2 He).lw Hs1.lw, t := Hs1.t } : AH) = low (low Ja2 He) Hs1 from rfl]
      simp
      refine DG_self (v := .tuple #[]) rfl rfl (by kernel_rfl) ?_
      simp
      refine ⟨H4, by rw [st4], g1, g2, g3, ?_⟩
      apply hQ''
      exact ⟨rfl, hfin, by simp, by simp, by simp⟩
  rintro ⟨k, tm, Hb⟩ ⟨hk, hG, u1, u2, u3⟩
  simp only at hk hG u1 u2 u3
  subst hk
  obtain ⟨nb, hPb, kab, frb, q0⟩ := (hGd _).1 hG
  apply Zb; intro b1 hb1
  apply Za
  simp [u3, Ah, loadX4 q0, hlx]
  subst hb1
  apply Zx
  refine Qg (fun n s' => s'.k = 24 ∧ ∃ (i : Nat) (lw : Value), n + i = len ∧ H.n + 1 ≤ s'.H.n ∧ PtIn s'.H lb lw (L ++ [T] ++ Vf (args.take i)) ∧ (∀ b, Xt lw = some b → H.n + 1 ≤ b) ∧ KAt lb H s'.H ∧ (∀ j, j < H.n → j ≠ lb → Xt lv ≠ some j → s'.H.blk j = H.blk j) ∧
      s'.tm.get 1 = some (.pointer (some ⟨lb, 0, none⟩)) ∧ s'.tm.get 2 = some (.pointer (some ⟨cb, 0, none⟩)) ∧ s'.tm.get 14 = some vx ∧ s'.tm.get 15 = some (.int .i64 (len : Int)) ∧ s'.tm.get 16 = some (.int .i64 (i : Int))) ?_ len _
    ⟨rfl, 0, .slice (some ⟨Ja2.n, 0, none⟩) (css.length + 1) (css.length + 1), by omega, nb, by simpa [Vf] using hPb, (fun b hb => by cases hb; omega), kab, frb, by simp [u1], by simp [u2], by simp, by simp, by simp⟩
  clear hG hPb kab frb nb q0 u1 u2 u3 fin hGd
  rintro n' ⟨k, tm, Hc⟩ ⟨hk, i, lw, hni, nc, hPc, hlw, kac, frc, u1, u2, u14, u15, u16⟩ Q' hQ'
  simp only at hk nc hPc kac frc u1 u2 u14 u15 u16
  subst hk
  have kc0 : Keep H0 Hc := kac H0 k0 hb0
  apply Zb; intro b3 hb3
  apply Za
  simp [u15, u16, lssN]
  subst hb3
  apply Zb; intro b3 hb3
  by_cases hi : i < len
  · refine Zc (t := true) (by simp [hi]) ?_
    apply Zj
    subst hb3
    obtain ⟨ti, hti⟩ : ∃ ti, args[i]? = some ti := ⟨args[i]'(by omega), List.getElem?_eq_getElem (by omega)⟩
    have hnt := Cx hti
    have hsl := Zd3 (args.take i)
    obtain ⟨pp, us, hadr, hlod, hEt⟩ := h3.at hti
    have hld := hlod Hc kc0
    obtain ⟨H4, st4, k4, q8, n4⟩ := newX (H := Hc) hEt.len hEt.ones
    have l8 := Kd q8 hEt.len
    have hcb4 : H4.blk cb = .rw 1 [subClo lb cb] := (k4.blk _ (by omega)).trans ((frc cb hcn hcl nvc).trans hcb)
    have hP4 := hPc.keep k4
    obtain ⟨x, lv5, H5, c5, n5, hP5, hlv5, ka5, fr5⟩ := ih ti (by omega) H0 H4 us lb cb _ lw hEt (Ef wx hti) (Cj hga hti) (kc0.trans k4) hb0 hcb4 (by omega) hcl hP4 (fun b hb => by have := hlw b hb; omega) (by rw [List.length_append, List.length_append, hsl]; simp; omega)
    have lF := loadFX hcb4
    unfold subClo at lF
    apply Zb; intro b3 hb3
    apply Zx
    apply Zb; intro b4 hb4
    apply Za
    simp [u14, u16, hadr, hld, Bs, Value.cells, st4]
    subst hb4
    apply Za
    simp [u2, lF, l8, c5]
    simp [Xk]
    subst hb3
    apply Za
    simp [u16, Cf (x := i) (by omega)]
    apply hQ'
    refine ⟨n' - 1, by omega, rfl, i + 1, lv5, by omega, by show H.n + 1 ≤ H5.n; omega, ?_, (fun b hb => by have := hlv5 b hb; omega), (kac.trans (k4.kat lb)).trans ka5, fun j hj h h2 => ?_, by simp [u1], by simp [u2], by simp [u14], by simp [u15], by simp⟩
    · rw [subsAll_take hti, ← List.append_assoc]; exact hP5
    · rw [fr5 j (by omega) h (fun e => by have := hlw j e; omega), k4.blk j (by omega)]
      exact frc j hj h h2
  · refine Zc (t := false) (by simp [hi]) ?_
    apply Qf
    apply hQ'
    left
    refine ⟨rfl, ?_⟩
    clear hQ'
    obtain rfl : i = len := by omega
    rw [List.take_of_length_le (by omega)] at hPc
    simp
    refine (hPo _).2 ⟨lw, by omega, ?_, fun b hb => by have := hlw b hb; omega, kac, frc⟩
    simp only [ET.subs, ← hT]
    rw [List.append_assoc] at hPc
    exact hPc
end
end
mutual def ET.arith:ET→Prop| .node op neg abs den args=>op≠1∧op<10∧Zi9 args def Zi9:List ET→Prop|[]=>True|t::ts=>t.arith∧Zi9 ts end
def ET.op:ET→Int| .node op _ _ _ _=>op
mutual theorem subs_arith: ∀t:ET,(∀u∈t.subs,u.op≠1∧u.op<10)→t.arith| .node op neg abs den args,h=>by simp only[ET.subs,List.mem_cons]at h;have h0:=h _ (.inl rfl);simp only[ET.twin,ET.op]at h0;exact⟨h0.1,h0.2,Zg2 args fun u hu=>h u (.inr hu)⟩ theorem Zg2: ∀l:List ET,(∀u∈Vf l,u.op≠1∧u.op<10)→Zi9 l|[],_=>trivial|t::ts,h=>by simp only[Vf,List.mem_append]at h;exact⟨subs_arith t fun u hu=>h u (.inl hu),Zg2 ts fun u hu=>h u (.inr hu)⟩ end
mutual theorem subs_wide: ∀t:ET,t.allGood=true→t.wide 1048576→ ∀u∈t.subs,u.wide 1048576
 | .node op neg abs den args,hg,hw,u,hu=>by
  simp only[ET.subs,List.mem_cons]at hu;rcases hu with e|e;·rw[e];exact(twin_wide _ hg hw).1
  ·simp only[ET.allGood,Bool.and_eq_true]at hg;exact Zl9 args hg.2 hw.2.2.2.2 u e theorem Zl9: ∀l:List ET,Jh l=true→Dg 1048576 l→ ∀u∈Vf l,u.wide 1048576
 |[],_,_,u,hu=>by simp[Vf]at hu
 |t::ts,hg,hw,u,hu=>by
  simp only[Jh,Bool.and_eq_true]at hg;simp only[Vf,List.mem_append]at hu;rcases hu with e|e;·exact subs_wide t hg.1 hw.1 u e
  ·exact Zl9 ts hg.2 hw.2 u e end
theorem top_closed{op:Int}{neg bad:Bool}{N D:Nat}{fs:List FD}(h0:0≤op)(h1:op≠1)(h10:op<10)(hl:fs.length=arity op.toNat)(hf: ∀f∈fs,f.isRat=true):Qw op neg N D fs≠ .opn:=by
 obtain⟨k,rfl⟩: ∃k:Nat,op=(k:Int):=⟨op.toNat,by omega⟩;have hl:fs.length=arity k:=by simpa using hl
 have hk:k<10:=by omega
 have one:fs.length=1→ ∃s A B,fs=[.rat s A B]:=fun h=>by obtain⟨f,rfl⟩:=len1 h;have:=hf f (List.mem_singleton.mpr rfl);cases f with|rat s A B=>exact⟨s,A,B,rfl⟩|opn=>cases this|und=>cases this
 have two:fs.length=2→ ∃s A B t C E,fs=[.rat s A B,.rat t C E]:=fun h=>by obtain⟨f,g,rfl⟩:=len2 h;have h1:=hf f (by simp);have h2:=hf g (by simp);cases f with
  |opn=>cases h1
  |und=>cases h1
  |rat s A B=>cases g with|opn=>cases h2|und=>cases h2|rat t C E=>exact⟨s,A,B,t,C,E,rfl⟩
 match k,hk with
  |0,_=>intro e;cases e
  |1,_=>exact absurd rfl h1
  |2,_=>obtain⟨s,A,B,rfl⟩:=one (hl.trans rfl);intro e;cases e
  |3,_=>obtain⟨s,A,B,t,C,E,rfl⟩:=two (hl.trans rfl);intro e;cases e
  |4,_=>obtain⟨s,A,B,t,C,E,rfl⟩:=two (hl.trans rfl);intro e;cases e
  |5,_=>obtain⟨s,A,B,t,C,E,rfl⟩:=two (hl.trans rfl);intro e;cases e
  |6,_=>
   obtain⟨s,A,B,t,C,E,rfl⟩:=two (hl.trans rfl);show Br 6 s A B t C E≠_;unfold Br;by_cases hC:C=0;·simp[hC]
   ·simp[hC,FD.mk]
  |7,_=>obtain⟨s,A,B,rfl⟩:=one (hl.trans rfl);intro e;cases e
  |8,_=>obtain⟨s,A,B,t,C,E,rfl⟩:=two (hl.trans rfl);show Br 8 s A B t C E≠_;unfold Br;simp;split<;>simp
  |9,_=>obtain⟨s,A,B,t,C,E,rfl⟩:=two (hl.trans rfl);show Br 9 s A B t C E≠_;unfold Br;simp;split<;>simp
mutual theorem Zo1: ∀t:ET,t.allGood=true→t.arith→t.fold≠ .opn
 | .node op neg abs den args,hg,ha=>by
  have hgn:=hg;simp only[ET.allGood,Bool.and_eq_true]at hgn;obtain⟨h0,h16,har,_⟩:=Kh hgn.1;simp only[ET.fold];split;·intro e;cases e
  ·rename_i hu;refine top_closed (bad:=false) h0 ha.1 ha.2.1 (by rw[Kg,List.length_map];exact har) fun f hf=>?_;have h1:=Zc3 args hgn.2 ha.2.2 f hf;have h2:f.isUnd=false:=by cases h:f.isUnd with|false=>rfl|true=>exact absurd (List.any_eq_true.mpr ⟨f,hf,h⟩) hu
   cases f with|opn=>exact absurd rfl h1|und=>cases h2|rat s A B=>rfl theorem Zc3: ∀l:List ET,Jh l=true→Zi9 l→ ∀f∈Xu l,f≠ .opn
 |[],_,_,f,hf=>by simp[Xu]at hf
 |t::ts,hg,ha,f,hf=>by
  simp only[Jh,Bool.and_eq_true]at hg;simp only[Xu,List.mem_cons]at hf;rcases hf with e|e;·rw[e];exact Zo1 t hg.1 ha.1
  ·exact Zc3 ts hg.2 ha.2 f e end
theorem kind_opn{f:FD} :f.kind=0↔f= .opn:=by cases f<;>simp[FD.kind]
theorem Ck{t:ET}(h:Dp t=0):t.allGood=true∧t.nodes≤4000:=by
 unfold Dp at h;split at h;·cases h
 ·split at h;·cases h
  ·rename_i h1 h2;exact⟨by simpa using h1,by omega⟩
theorem zXsl:Uu Tryz.prog 51=some (.slice none 0 0):=by kernel_rfl
theorem zFnX:Uu Tryz.prog 135=some .nilFunc:=by kernel_rfl
theorem sFnX:Qr Tryz.prog 135=some 1:=by kernel_rfl
theorem geqZ{x y:Int} :Zd .geq .i64 x y=some (.bool (decide (y≤x))):=rfl
theorem gtr24{x:Nat} :Zd .gtr .i64 (x:Int) 16777216=some (.bool (decide (16777216<x))):=Kc (y:=16777216)
theorem mul64{x:Nat}(h:64*x<9223372036854775808):Zd .mul .i64 64 (x:Int)=some (.int .i64 ((64*x:Nat):Int)):=mul_i64 (x:=64) h
section
attribute [-simp] Int.natCast_add Int.natCast_mul Int.natCast_ediv Int.natCast_emod Int.natCast_pow
attribute [local simp] strip Yd LW' LR gW Yf Xh Ya Xi Yo Xj Zr Zs Zh Yp Yy Yk Xo Zw Yq Zi Ze Xn Xm Je Ye Xa opd Qe Ym plain Yj Tr.get_set Qc Zp Xy Yc sameKind undef Zt Yr Yv Zk Yb parts unV DW Xq Zv LX Zy
attribute [local simp] Qh Qt Gy top_nn
section
variable {H : AH} {vs : List Value} {t : ET}
theorem exprParts_call(h:TreeIn H vs t)(hc:Dp t=0): ∃lv css H',Zq Tryz.prog Zo 45 [.agg vs.toArray] H=some (.tuple #[lv,.int .i64 0],H')∧Keep H H'∧Lst 5 H' lv css∧css.length=t.nodes∧(∀(i:Nat)(cs:List Value)(u:ET),css[i]?=some cs→t.subs[i]?=some u→Ex H' cs u):=by
 obtain⟨Po,hPo⟩: ∃Po:Value→AH→Prop,∀x H',Po x H'↔ ∃lv css,x= .tuple #[lv,.int .i64 0]∧Keep H H'∧Lst 5 H' lv css∧css.length=t.nodes∧(∀(i:Nat)(cs:List Value)(u:ET),css[i]?=some cs→t.subs[i]?=some u→Ex H' cs u):=⟨_,fun _ _=>Iff.rfl⟩;suffices hs:CW Tryz.prog Zo 45 [.agg vs.toArray] H Po by obtain⟨x,H',hc,hh⟩:=hs;obtain⟨lv,css,rfl,hr⟩:=(hPo _ _).1 hh;exact⟨lv,css,H',hc,hr⟩
 have hl:=h.ex.len;have hg:=(Ck hc).1;have hnn:=(Ck hc).2;obtain⟨H2,e2,k2,n2,q0⟩:=Vc H vs;have K:=k2;have z0:=q0;obtain⟨H3,c3,k3⟩:=Zg5 (h.keep K);have n3:=k3.n;have K:=K.trans k3;replace q0:=(k3.blk _ (by omega)).trans q0;rw[hc]at c3;replace c3:Zq Tryz.prog Zo 28 [.agg vs.toArray] H2=some (.int .i64 0,H3):=c3;obtain⟨H4,hH4⟩: ∃H4,H3.new 1 [.slice none 0 0]=H4:=⟨_,rfl⟩;have k4:Keep H3 H4:=by rw[←hH4];exact Keep.new _ _ _
 have n4:H4.n=H3.n+1:=by rw[←hH4];rfl
 have q4:H4.blk H3.n= .rw 1 [.slice none 0 0]:=by rw[←hH4,AH.blk_new,if_pos rfl]
 obtain⟨H5,hH5⟩: ∃H5,H4.new 1 [.nilFunc]=H5:=⟨_,rfl⟩;have k5:Keep H4 H5:=by rw[←hH5];exact Keep.new _ _ _
 have n5:H5.n=H4.n+1:=by rw[←hH5];rfl
 have q5:H5.blk H4.n= .rw 1 [.nilFunc]:=by rw[←hH5,AH.blk_new,if_pos rfl]
 obtain⟨H6,st6,n6,q6,f6,ka6⟩:=Cz sFnX q5 rfl (v:=subClo H3.n H4.n) (ws:=[subClo H3.n H4.n]) rfl rfl rfl;have k36:Keep H3 H6:=ka6 H3 (k4.trans k5) (by omega);have q4':H6.blk H3.n= .rw 1 [.slice none 0 0]:=(f6 _ (by omega)).trans ((k5.blk _ (by omega)).trans q4);have z6:=(k36.blk _ (by omega)).trans q0;obtain⟨x,lv,H7,c7,n7,hP7,_,ka7,fr7⟩:=sub_walk _ t (Nat.le_refl _) H3 H6 vs H3.n H4.n [] (.slice none 0 0) (h.ex.keep K) h.wide hg k36 (Nat.le_refl _) q6 (by omega) (by omega) ⟨q4',by omega,[],.nil,rfl,fun i cs t hi=>by simp at hi⟩ (fun b hb=>by cases hb) (by simp;omega);rw[List.nil_append]at hP7;obtain⟨q7,_,css,hL,hcl,hO⟩:=hP7;have K7:Keep H H7:=(K.trans (ka7 H3 k36 (Nat.le_refl _)));have lF:=loadFX q6;unfold subClo at lF st6;refine Zl 17 (by decide) (by decide) Tryz.func45 rfl rfl ?_;apply Zb;intro b1 hb1;apply Za;simp[Value.cells,e2];subst hb1;apply Zb;intro b1 hb1;apply Zb;intro b2 hb2;apply Za;simp[Kd z0 hl,c3];subst hb2;apply Zb;intro b2 hb2;apply Za;simp[Es];subst hb2;refine Zc (t:=false) (by simp) ?_;apply Zj;subst hb1;apply Zb;intro b1 hb1;apply Za;simp[zXsl,Value.cells,hH4];subst hb1;apply Zb;intro b1 hb1;apply Za;simp[zFnX,Value.cells,hH5];subst hb1;apply Zb;intro b1 hb1;apply Za;simp[st6];subst hb1;apply Zb;intro b1 hb1;apply Za;simp[lF,Kd z6 hl,c7];subst hb1;apply Zb;intro b1 hb1;apply Za;simp[loadXs q7];subst hb1;apply Zn;simp;refine(hPo _ _).2 ⟨lv,css,rfl,K7,hL,by rw[hcl,subs_len],fun i cs u hi hu=>(hO i cs u hi hu).ex⟩
set_option maxHeartbeats 1000000 in theorem Zm7(h:TreeIn H vs t)(hwt:t.wt≤67108864):CW Tryz.prog Zo 9 [.agg vs.toArray] H fun v H'=>v= .bool true∧Keep H H':=by
 have hl:=h.ex.len;have aw: ∀G,Keep H G→ ∃G',Zq Tryz.prog Zo 14 [] G=some (.bool true,G')∧Keep H G':=fun G k=>by obtain⟨G',c,k'⟩:=awake_call (h.rows.keep k);exact⟨G',c,k.trans k'⟩
 obtain⟨H2,e2,k2,n2,q0⟩:=Vc H vs;have K:=k2;have z0:=q0;obtain⟨b,H3,c3,k3⟩:=great_call (h.ex.keep K) h.nodes;have n3:=k3.n;have K:=K.trans k3;replace q0:=(k3.blk _ (by omega)).trans q0;have z1:=q0;refine Zl 76 (by decide) (by decide) Tryz.func9 rfl rfl ?_;apply Zb;intro b1 hb1;apply Za;simp[Value.cells,e2];subst hb1;apply Zb;intro b1 hb1;apply Zb;intro b2 hb2;cases b with
  |true=>obtain⟨G,cG,kG⟩:=aw H3 K;apply Za;simp[Kd z0 hl,c3];subst hb2;refine Zc (t:=true) (by simp) ?_;apply Zb;intro b2 hb2;apply Za;simp[cG];subst hb2;apply Zn;simp[Xw];exact kG
  |false=>
   obtain⟨H4,c4,k4⟩:=Zg5 (h.keep K);have n4:=k4.n;have K:=K.trans k4;replace q0:=(k4.blk _ (by omega)).trans q0;obtain⟨C,hC⟩: ∃C,C=Dp t:=⟨_,rfl⟩;rw[←hC]at c4;by_cases hc0:C=0;case neg=>
    obtain⟨G,cG,kG⟩:=aw H4 K;have g:Zd .neq .i64 (C:Int) 0=some (.bool true):=by rw[neqZZ,decide_eq_true (by omega)]
    apply Za;simp[Kd z0 hl,c3,Kd z1 hl,c4,Bl,g];subst hb2;refine Zc (t:=true) (by simp) ?_;apply Zb;intro b2 hb2;apply Za;simp[cG];subst hb2;apply Zn;simp[Xw];exact kG
   subst hc0;replace c4:Zq Tryz.prog Zo 28 [.agg vs.toArray] H3=some (.int .i64 0,H4):=c4;apply Za;simp[Kd z0 hl,c3,Kd z1 hl,c4,Bl,Es];subst hb2;refine Zc (t:=false) (by simp) ?_;apply Zj;subst hb1;have hc:=hC.symm;have hg:=(Ck hc).1;have hnn:=(Ck hc).2;have z4:=q0;obtain⟨lv,css,H5,c5,k5,hP⟩:=exprParts_call (h.keep K) hc;have n5:=k5.n;have K:=K.trans k5;replace q0:=(k5.blk _ (by omega)).trans q0;obtain⟨hL,hcl,hX⟩:=hP;have hsl:=subs_len t;have hlx:=hL.len uXs;obtain⟨len,hln⟩: ∃len,len=css.length:=⟨_,rfl⟩;rw[←hln]at hlx;have q05:=q0;have K5:=K;apply Zb;intro b1 hb1;apply Za;simp[Kd z4 hl,c5];subst hb1;apply Zb;intro b1 hb1;apply Zb;intro b2 hb2;apply Za;simp[Bl,Es];subst hb2;refine Zc (t:=false) (by simp) ?_;apply Zj;subst hb1;apply Zb;intro b1 hb1;apply Za;simp;subst hb1;apply Zb;intro b1 hb1;apply Zb;intro b2 hb2;apply Za;simp[hlx];subst hb2;apply Zx;refine Qg (fun n s'=>s'.k=76∧ ∃(i z:Nat),n+i=len∧Keep H5 s'.H∧z≤i*140000000∧(∀j u,j<i→t.subs[j]?=some u→u.op≠1∧u.op<10)∧s'.tm.get 1=some (.pointer (some ⟨H.n,0,none⟩))∧s'.tm.get 5=some (.int .i64 (z:Int))∧s'.tm.get 27=some lv∧s'.tm.get 28=some (.int .i64 (len:Int))∧s'.tm.get 29=some (.int .i64 (i:Int))) ?_ len _ ⟨rfl,0,0,by omega,.refl _,by omega,fun j u hj=>absurd hj (Nat.not_lt_zero _),by simp,by simp,by simp,by simp,by simp⟩;rintro n' ⟨k,tm,Hc⟩ ⟨hk,i,z,hni,kc,hz,hop,u1,u5,u27,u28,u29⟩ Q' hQ';simp only at hk kc u1 u5 u27 u28 u29;subst hk;apply Zb;intro b3 hb3;apply Za;simp[u28,u29,lssN];subst hb3;apply Zb;intro b3 hb3;by_cases hi:i<len;·refine Zc (t:=true) (by simp[hi]) ?_;apply Zj;subst hb3;obtain⟨cs,hcs⟩: ∃cs,css[i]?=some cs:=⟨css[i]'(by omega),List.getElem?_eq_getElem (by omega)⟩;obtain⟨u,hu⟩: ∃u,t.subs[i]?=some u:=⟨t.subs[i]'(by omega),List.getElem?_eq_getElem (by omega)⟩;have hxu:=hX i cs u hcs hu;have hwu:=subs_wide t hg h.wide u (List.mem_of_getElem? hu);obtain⟨b,hv,hadr,hbn,hb,hl5,hd⟩:=hL.at hcs uXs Zd1 (by decide);have hlE:=An (H:=Hc) ((kc.blk _ hbn).trans hb) (by decide) hd hl5 aExpr Zd1;obtain⟨H7,st7,k7,q7,n7⟩:=newX (H:=Hc) hxu.len hxu.ones;obtain⟨uop,un,ua,ud,ux⟩:=u;obtain⟨wa,wd,_,_,_⟩:=hwu;cases hxu with
    |@mk _ _ va vd vx _ _ _ h1 h2 h3=>
     have la:=(h1.keep (kc.trans k7)).len Zk;have ld:=(h2.keep (kc.trans k7)).len Zk;apply Zb;intro b3 hb3;apply Zx;apply Zb;intro b4 hb4;apply Za;simp[u27,u29,hadr,hlE,Bs,Value.cells,st7];subst hb4;apply Zb;intro b4 hb4;apply Zb;intro b5 hb5;by_cases hp:uop=1∨10≤uop
     ·obtain⟨G,cG,kG⟩:=aw H7 (K5.trans (kc.trans k7));by_cases h1':uop=1;·subst h1';apply Za;simp[Gk,Ue q7,show Zd .eql .i64 1 1=some (.bool true)from rfl];subst hb5;refine Zc (t:=true) (by simp) ?_;apply Zb;intro b5 hb5;apply Za;simp[cG];subst hb5;apply Zn;simp[Xw,Xk];apply hQ';simp[Dz,Xk,Xw];exact kG
      ·have g1:Zd .eql .i64 uop 1=some (.bool false):=by rw[Za4,decide_eq_false h1']
       have g2:Zd .geq .i64 uop 10=some (.bool true):=by rw[geqZ,decide_eq_true (by omega)]
       apply Za;simp[Gk,Ue q7,g1,g2];subst hb5;refine Zc (t:=true) (by simp) ?_;apply Zb;intro b5 hb5;apply Za;simp[cG];subst hb5;apply Zn;simp[Xw,Xk];apply hQ';simp[Dz,Xk,Xw];exact kG
     ·have g1:Zd .eql .i64 uop 1=some (.bool false):=by rw[Za4,decide_eq_false (by omega)]
      have g2:Zd .geq .i64 uop 10=some (.bool false):=by rw[geqZ,decide_eq_false (by omega)]
      have a1:Zd .add .i64 (ua.length:Int) (ud.length:Int)=some (.int .i64 ((ua.length+ud.length:Nat):Int)):=addN (by omega);have a2:Zd .add .i64 ((ua.length+ud.length:Nat):Int) 1=some (.int .i64 ((ua.length+ud.length+1:Nat):Int)):=Cf (by omega);have a3:=mul64 (x:=ua.length+ud.length+1) (by omega);have a4:Zd .add .i64 (z:Int) ((64*(ua.length+ud.length+1):Nat):Int)=some (.int .i64 ((z+64*(ua.length+ud.length+1):Nat):Int)):=addN (by omega);apply Za;simp[Gk,Ue q7,g1,g2];subst hb5;refine Zc (t:=false) (by simp) ?_;apply Zj;subst hb4;apply Za;simp[u5,Ct,faN1,faAbs1,faD1,loadXB q7,loadXC q7,la,ld,a1,a2,a3,a4];simp[Xk];subst hb3;apply Za;simp[u29,Cf (x:=i) (by omega)];apply hQ';refine⟨n'-1,by omega,rfl,i+1,z+64*(ua.length+ud.length+1),by omega,kc.trans k7,by omega,fun j u hj hu'=>?_,by simp[u1],by simp,by simp[u27],by simp[u28],by simp⟩;by_cases e:j=i;·subst e;rw[hu]at hu';cases hu';show uop≠1∧uop<10;omega
      ·exact hop j u (by omega) hu'
   ·refine Zc (t:=false) (by simp[hi]) ?_;apply Qf;apply hQ';left;refine⟨rfl,?_⟩;clear hQ';obtain rfl:i=len:=by omega
    have hrest: ∀u∈t.subs,u.op≠1∧u.op<10:=fun u hu=>by obtain⟨j,hj⟩:=List.mem_iff_getElem?.mp hu;exact hop j u (by have:=(List.getElem?_eq_some_iff.mp hj).1;omega) hj
    have hnop:=Zo1 t hg (subs_arith t hrest);have kH:=K5.trans kc;have z9:=(kc.blk _ (by have:=K5.n;omega)).trans q05;subst hb1;apply Zb;intro b1 hb1;apply Zb;intro b2 hb2;apply Za;simp[u5,gtr24];subst hb2;by_cases hbig:16777216<z;·obtain⟨G,cG,kG⟩:=aw Hc kH;refine Zc (t:=true) (by simp[hbig]) ?_;apply Zb;intro b2 hb2;apply Za;simp[cG];subst hb2;apply Zn;simp[Xw];exact kG
    ·refine Zc (t:=false) (by simp[(Nat.le_of_not_lt hbig)]) ?_;apply Zj;subst hb1;obtain⟨fs,H9,c9,k9,hf9⟩:=Zc1 (H:=Hc) ⟨h.keep kH,hg,hwt⟩ hc;have f9l:=hf9.len;have f9o:=hf9.ones;obtain⟨HA,stA,kA,qA,nA⟩:=newFv (H:=H9) f9l f9o;obtain⟨p1,p2,p3,rfl,_⟩:=hf9.trio;obtain⟨G,cG,kG⟩:=aw HA ((kH.trans k9).trans kA);have g:Zd .neq .i64 t.fold.kind 0=some (.bool true):=by rw[neqZZ,decide_eq_true (show t.fold.kind≠0 from fun e=>hnop (kind_opn.1 e))]
     apply Zb;intro b1 hb1;apply Za;simp[u1,Kd z9 hl,c9,Jv,Value.cells,stA];subst hb1;apply Zb;intro b1 hb1;apply Za;simp[Bl,show Zd .eql .i64 0 0=some (.bool true)from rfl,faF0,Cw qA,g,cG];subst hb1;apply Zn;simp;exact kG
end
end
end
end Go.Proofs.YtmkfecoeghokfaaGreatDoor
namespace Go.Proofs.YtmkfecoeghokfaaGreatDoor
open Go.ChangeShapes Go.WideShapes Go.ChangeAt Go.RowKit Go.Proofs.YtmkfecoeghokfaaGreatDoor.Ev
set_option linter.unusedVariables false
set_option maxHeartbeats 1000000
theorem laidOut:laidOutB Tryz.prog=true:=by kernel_rfl
theorem args_kept{P:Program}(hl:laidOutB P=true){H:Type}{enc:TypeId×Value→H}{W W':World}(hb:Below W.heap.size W W'): ∀(ts:List TypeId)(vs:List Value)(ds:List (DataW H))(ps:List MemPlace),(ts.all fun t=>P.readableRec t&&decide (t<P.types.size))=true→DataW.TrodAll enc P W 0 (fun _=>true) true ts vs ds ps→(∀x∈ps,x.block<W.heap.size)→DataW.TrodAll enc P W' 0 (fun b=>decide (b<W.heap.size)) true ts vs ds ps|[],[],[],_,_,h,_=>h|t::ts,v::vs,d::ds,_,ht,⟨p,q,h1,h2,e⟩,hlt=>by subst e;rw[List.all_cons,Bool.and_eq_true,Bool.and_eq_true]at ht;exact⟨p,q,Below.trod hl ht.1.1 (of_decide_eq_true ht.1.2) h1 hb (fun x hx=>hlt x (List.mem_append_left _ hx)),args_kept hl hb ts vs ds q ht.2 h2 (fun x hx=>hlt x (List.mem_append_right _ hx)),rfl⟩
end Go.Proofs.YtmkfecoeghokfaaGreatDoor
namespace Go.Proofs.YtmkfecoeghokfaaGreatDoor
open Go Go.ChangeShapes Go.WideShapes Go.RowKit Go.Proofs.YtmkfecoeghokfaaGreatDoor.Ev
set_option linter.unusedVariables false
noncomputable section
set_option maxRecDepth 20000
set_option maxHeartbeats 1000000
theorem bulk_one{H:Type}(d:DataW H):1≤Rows.uptoBulk d:=by cases d with|lit l=>cases l<;>simp[Rows.uptoBulk]|nil=>simp[Rows.uptoBulk]|ptr d=>simp[Rows.uptoBulk]|slice elems spare=>simp[Rows.uptoBulk]|agg parts=>simp[Rows.uptoBulk]|iface t d=>simp[Rows.uptoBulk]|map entries=>simp[Rows.uptoBulk]|held h=>simp[Rows.uptoBulk]
theorem bulk_len{H:Type}(l:List (DataW H)):l.length≤Rows.uptoBulkAll l:=by induction l with|nil=>simp[Rows.uptoBulkAll]|cons x r ih=>have:=bulk_one x;simp only[Rows.uptoBulkAll,List.length_cons];omega
theorem bulk_slice{H:Type}(elems spare:List (DataW H)):elems.length≤Rows.uptoBulk (.slice elems spare):=by have h1:=bulk_len elems;simp only[Rows.uptoBulk];omega
theorem bulk_part{H:Type}{d:DataW H}{l:List (DataW H)}(h:d∈l):Rows.uptoBulk d≤Rows.uptoBulkAll l:=by induction l with
 |nil=>cases h
 |cons x r ih=>simp only[Rows.uptoBulkAll];cases List.mem_cons.1 h with|inl e=>subst e;omega|inr e=>have:=ih e;omega
theorem bulk_bound{H:Type}{l:List (DataW H)}(hk:Rows.uptoSmall H l=true):Rows.uptoBulkAll l≤1048576:=of_decide_eq_true hk
def ArgIs(W:World)(v:Value)(xs:List Nat):Prop:=(v= .slice none 0 0∧xs=[])∨ ∃(a:Addr) (cap:Nat),v= .slice (some a) xs.length cap∧xs.length≤cap∧ ∀(i x:Nat),xs[i]?=some x→W.cell? (a.add i)=some (.int .u64 (x:Int))
theorem cU64:Tryz.prog.cellsOf 101=1:=by kernel_rfl
theorem add_arg{W:World}{S:Nat→Prop}{L:Nat→Ev.Loc}{H:AH}(hI:Inv W.heap.size S L H W){v:Value}{xs:List Nat}(h:ArgIs W v xs): ∃(S':Nat→Prop) (L':Nat→Ev.Loc) (H':AH) (v0:Value),Inv W.heap.size S' L' H' W∧(∀i,S i→S' i)∧(∀i,S i→L' i=L i)∧VR S' L' v0 v∧Sl H' v0 xs∧Keep H H':=by
 rcases h with⟨rfl,rfl⟩|⟨a,cap,rfl,hcap,hc⟩;·exact⟨S,L,H,.slice none 0 0,hI,fun _ h=>h,fun _ _=>rfl,.nilSlice,.nil,.refl H⟩
 ·by_cases h0:xs.length=0;·obtain rfl:xs=[]:=List.length_eq_zero_iff.mp h0;exact⟨S,L,H,_,hI,fun _ h=>h,fun _ _=>rfl,.emp 0 a cap,.emp 0,.refl H⟩
  ·have hx0:=hc 0 xs[0] (List.getElem?_eq_getElem (by omega));have ea:a.add 0=a:=rfl;rw[ea]at hx0;have hspot:a.spot=none:=by unfold World.cell? at hx0;cases hs:a.spot with
    |none=>rfl
    |some q=>
     rw[hs]at hx0;split at hx0;·simp at hx0
     ·cases hx0
   have hblk:a.block<W.heap.size:=World.block_lt_of_cell? W a hx0;have hadd: ∀k,a.add k=⟨a.block,a.off+k,none⟩:=fun k=>by
    unfold Addr.add;by_cases hk:k=0;·subst hk;rw[if_pos rfl];cases a with|mk b o s=>simp at hspot;subst hspot;rfl
    ·rw[if_neg hk]
   have hn: ∀i,S i→i≠H.n:=fun i hi e=>by have:=hI.bd i hi;omega
   let L':Nat→Ev.Loc:=fun i=>if i=H.n then⟨a.block,a.off,1,a.off+cap⟩else L i;let S':Nat→Prop:=fun i=>i=H.n∨S i;have hL: ∀i,S i→L' i=L i:=fun i hi=>if_neg (hn i hi);have hLn:L' H.n=⟨a.block,a.off,1,a.off+cap⟩:=if_pos rfl;let H':AH:= { n:=H.n+1,lw:=H.lw,t:=H.t.set H.n (.ro 1 (xs.map fun x:Nat=>Value.int .u64 (x:Int))) };have hb: ∀j,H'.blk j=if j=H.n then .ro 1 (xs.map fun x:Nat=>Value.int .u64 (x:Int))else H.blk j:=fun j=>by
    show(match(H.t.set H.n _).get j with|some b=>b|none=>Blk.dead)=_;rw[Tr.get_set];by_cases e:j=H.n;·rw[if_pos e,if_pos e]
    ·rw[if_neg e,if_neg e];rfl
   refine⟨S',L',H',.slice (some ⟨H.n,0,none⟩) xs.length xs.length,⟨?_,?_,?_,?_,hI.base⟩,fun i hi=> .inr hi,hL,?_,?_,?_⟩
   ·intro i sz cs hi;rw[hb]at hi;by_cases e:i=H.n;·rw[if_pos e]at hi;cases hi;subst e;rw[hLn];refine⟨.inl rfl,hblk,rfl,fun k v hk=>?_⟩;rw[List.getElem?_map]at hk;cases hxk:xs[k]? with|none=>rw[hxk]at hk;cases hk|some x=>rw[hxk]at hk;cases hk;refine⟨.int .u64 (x:Int),?_,.int _ _⟩;have:=hc k x hxk;rwa[hadd k]at this
    ·rw[if_neg e]at hi;obtain⟨h1,h2,h3,h4⟩:=hI.ro i sz cs hi;rw[hL i h1];refine⟨.inr h1,h2,h3,fun k v hk=>?_⟩;obtain⟨v',h5,h6⟩:=h4 k v hk;exact⟨v',h5,h6.mono (fun _ h=> .inr h) hL⟩
   ·intro i sz cs hi;rw[hb]at hi;by_cases e:i=H.n;·rw[if_pos e]at hi;cases hi
    ·rw[if_neg e]at hi;obtain⟨h1,h2,h3,C,e',h4,h5,h6⟩:=hI.rw i sz cs hi;rw[hL i h1];refine⟨.inr h1,h2,h3,C,e',h4,h5,fun k v hk=>?_⟩;obtain⟨v',h7,h8⟩:=h6 k v hk;exact⟨v',h7,h8.mono (fun _ h=> .inr h) hL⟩
   ·intro i j sz cs sz' cs' hi hj hg;rw[hb]at hi hj;by_cases e:i=H.n;·rw[if_pos e]at hi;cases hi
    ·by_cases e2:j=H.n;·rw[if_pos e2]at hj;cases hj
     ·rw[if_neg e]at hi;rw[if_neg e2]at hj;rw[hL i (hI.rw i _ _ hi).1,hL j (hI.rw j _ _ hj).1]at hg;exact hI.dj i j _ _ _ _ hi hj hg
   ·intro i hi;rcases hi with hi|hi;·subst hi;exact Nat.lt_succ_self _
    ·exact Nat.lt_succ_of_lt (hI.bd i hi)
   ·have hv:=VR.slice (S:=S') (L:=L') H.n 0 xs.length xs.length cap (.inl rfl) hcap (Nat.le_refl _) (by rw[hLn];simp);rw[hLn]at hv;have e:(some (⟨a.block,a.off+0,none⟩:Addr))=some a:=by congr 1;cases a with|mk b o s=>simp at hspot;subst hspot;rfl
    rw[e]at hv;exact hv
   ·refine .mk H.n 0 xs.length xs (Nat.le_refl _) ⟨Nat.lt_succ_self _,xs.map fun x:Nat=>Value.int .u64 (x:Int),?_,?_,fun i x hx=>?_,Nat.zero_le _⟩;·unfold AH.cells;rw[hb,if_pos rfl]
    ·unfold AH.size;rw[hb,if_pos rfl]
    ·rw[Nat.zero_add,List.getElem?_map,hx];rfl
   ·exact⟨Nat.le_succ _,Nat.min_le_left _ _,fun j hj=>by rw[hb,if_neg (by omega)]⟩
end
end Go.Proofs.YtmkfecoeghokfaaGreatDoor
