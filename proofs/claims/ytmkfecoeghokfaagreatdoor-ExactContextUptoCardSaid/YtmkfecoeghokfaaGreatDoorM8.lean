/-
  The engine and the walks that the claim's last text leans on, part 8 of 9: Uo, Up, Uq, Ur, Us, Ut, Uu, Uv, Wa, Wb, Wd, We, Wf, Uw, Ux, Uy, Uz, Va, Vb, Vc.
-/
import Derived.Test.YtmkfecoeghokfaaGreatDoorM7
namespace Go.Proofs.YtmkfecoeghokfaaGreatDoor
open Go Ev
set_option linter.unusedVariables false
set_option linter.unusedSimpArgs false
noncomputable section
set_option maxRecDepth 20000
set_option maxHeartbeats 1000000
theorem sFs:Uy Tryz.prog 83=some (57,4,64):=by kernel_rfl
theorem aMapW:Jd Tryz.prog 129=some false:=by kernel_rfl
theorem faFo0(b:Nat):Xf Tryz.prog 132 (.pointer (some ⟨b,0,none⟩)) 0=some (.pointer (some ⟨b,0,none⟩)):=by kernel_rfl
theorem loadFo0{H:AH}{b:Nat}{u v w:Value}(h:H.blk b= .rw 1 [u,v,w]):Ys Tryz.prog H 129 (.pointer (some ⟨b,0,none⟩))=some u:=Yt aMapW (AH.cells_rw' h (by decide)) rfl
theorem workOf_ne{op:Int}{two:Bool}{f:FuncId}(h:Da op=some (two,f)):op≠0∧op≠1∧op≠10∧op≠12∧op≠11∧op≠14∧op≠13∧op≠15:=by refine⟨?_,?_,?_,?_,?_,?_,?_,?_⟩<;>(intro e;subst e;revert h;simp[Da])
theorem eqlNo{x c:Int}(h:x≠c):Zd .eql .i64 x c=some (.bool false):=by rw[Zb5,decide_eq_false h]
theorem topFD_op{op:Int}(h:op≠0)(neg neg':Bool)(N D N' D':Nat)(fs:List FD):Qv op neg N D fs=Qv op neg' N' D' fs:=by unfold Qv;rw[if_neg h,if_neg h]
theorem putDF{H:AH}{b:Nat}{k' p' q' r' p q r:Value}{k:Int}(hb:H.blk b= .rw 1 [k',p',q',r'])(hbn:b<H.n)(h1:one p=true)(h2:one q=true)(h3:one r=true): ∃H2,Xt Tryz.prog H.top 57 (.pointer (some ⟨b,0,none⟩)) (.agg #[.int .i64 k,p,q,r])=some H2∧H2.n=H.n∧H2.lw<H.n∧(low H H2).n=H.n∧(low H H2).blk b= .rw 1 [.int .i64 k,p,q,r]∧(∀j,j≠b→(low H H2).blk j=H.blk j)∧KAt b H (low H H2):=Fc Za4 hb hbn rfl rfl rfl (by simp[h1,h2,h3,show one (Value.int .i64 k)=true from rfl])
theorem Es.get{H:AH} : ∀{css:List (List Value)}{fs:List FD}{i:Nat}{c:List Value},Es H css fs→css[i]?=some c→ ∃f,fs[i]?=some f∧FIn H c f|[],[],i,f,_,hi=>by simp at hi|c::cs,g::fs,0,f,h,hi=>by simp at hi;subst hi;exact⟨g,rfl,h.1⟩|c::cs,g::fs,i+1,f,h,hi=>by simp at hi;obtain⟨vs,h1,h2⟩:=Es.get h.2 hi;exact⟨vs,by simpa using h1,h2⟩|[],_::_,i,f,h,_=>h.elim|_::_,[],i,f,h,_=>h.elim
theorem len1{α:Type}{l:List α}(h:l.length=1): ∃a,l=[a]:=by match l,h with|[a],_=>exact⟨a,rfl⟩
theorem len2{α:Type}{l:List α}(h:l.length=2): ∃a b,l=[a,b]:=by match l,h with|[a,b],_=>exact⟨a,b,rfl⟩
theorem topFD_opn{op:Int}(h0:op≠0){neg:Bool}{N D:Nat}{fs:List FD}{i:Nat}(hi:fs[i]?=some .opn)(hl:fs.length≤2)(h6:op=6→ ∀g,fs[1]?=some g→g.isZero=false):Qv op neg N D fs= .opn:=by unfold Qv;rw[if_neg h0];match fs,hi,hl with
 |[f],hi,_=>cases i with|zero=>simp at hi;subst hi;rfl|succ i=>simp at hi
 |[f,g],hi,_=>
  have h6': ¬ (op=6∧g.isZero=true):=fun h=>by have:=h6 h.1 g rfl;rw[h.2]at this;cases this
  cases i with
   |zero=>simp at hi;subst hi;simp only;rw[if_neg h6']
   |succ i=>cases i with|zero=>simp at hi;subst hi;cases f<;>(simp only;rw[if_neg h6'])|succ i=>simp at hi
section
attribute [-simp] Int.natCast_add Int.natCast_mul Int.natCast_ediv Int.natCast_emod Int.natCast_pow
attribute [local simp] strip Ye LW' LR gW Yk Xc Zz Xd Yn Xe Zr Zs Zg Yo Yz Yj Xi Zv Yp Zh Ze Xh Xg Qu Ya Xa opd Qd Yl plain Yg Tr.get_set Qb Zp Xv Yc sameKind undef Zu Yr Yw Zn Yb parts unV DW Xl Zy LX Zx
attribute [local simp] Qc Qo Gb
section
variable {H : AH} {fw av : Value}
theorem top_quo0{v1 v2 v3 v4:Value}{c1 c2:List Value}{f:FD}{t:Bool}{D:Nat}(hA:Lst 4 H av [c1,c2])(hf:FIn H c1 f)(hg:FIn H c2 (.rat t 0 D))(hD:Zf D≤67108864):CW Tryz.prog Zo 116 [fw,.agg #[.int .i64 6,v1,v2,v3,v4],av] H (Ay H .und):=by
 obtain⟨ab,rfl,hab,qa⟩:=hA.pair;obtain⟨p,q,rfl,hp,hq,low⟩:=hg;obtain⟨p1,p2,p3,rfl,_⟩:=hf.trio;obtain⟨H2,e2,k2,n2,q0,q1⟩:=Qy H [.int .i64 6,v1,v2,v3,v4] [.int .i64 0,.bool false,.slice none 0 0,.slice none 0 0];have qa:=(k2.blk _ hab).trans qa;simp only[List.cons_append,List.nil_append]at qa;have K:=k2;obtain⟨H3,st3,k3,q2,n3⟩:=Kz (H:=H2) (k:= .int .i64 2) (p:= .bool false) (q:= .slice none 0 0) (r:= .slice none 0 0) rfl;have K:=K.trans k3;replace q0:=(k3.blk _ (by omega)).trans q0;replace q1:=(k3.blk _ (by omega)).trans q1;replace qa:=(k3.blk _ (by omega)).trans qa;have z0:=q0;have qz:=qa;obtain⟨H4,c4,k4⟩:=Uq t (hp.keep K) (hq.keep K) (by decide) hD low.2;have n4:=k4.n;have K:=K.trans k4;replace q0:=(k4.blk _ (by omega)).trans q0;replace q1:=(k4.blk _ (by omega)).trans q1;replace qa:=(k4.blk _ (by omega)).trans qa;replace q2:=(k4.blk _ (by omega)).trans q2;have c4:Zq Tryz.prog Zo 153 [.agg #[.int .i64 1,.bool t,p,q]] H3=some (.int .i64 0,H4):=c4;have z2:=Bl q2;have hF:FIn H4 [.int .i64 2,.bool false,.slice none 0 0,.slice none 0 0] .und:=rfl;obtain⟨H5,st5,n5,q1,b5,ka5,hF⟩:=Ue q1 rfl hF;have K:=ka5 _ K (by omega);have hld:=Je q1 rfl;try simp at st5 hld
 refine Zj 141 (by decide) (by decide) Tryz.func116 rfl rfl ?_;apply Zb;intro b1 hb1;apply Za;simp[Value.cells,Jp,Jt,e2];subst hb1;apply Zb;intro b1 hb1;apply Za;simp[Et,Jp,Value.cells,st3];subst hb1;apply Zb;intro b1 hb1;apply Zb;intro b2 hb2;apply Za;simp[Ei,Ko z0];subst hb2;apply Zt;apply Zb;intro b2 hb2;apply Za;simp[show Zd .eql .i64 6 0=some (.bool false)from rfl];subst hb2;refine Zc (t:=false) (by simp) ?_;apply Zb;intro b2 hb2;apply Za;simp[show Zd .eql .i64 6 1=some (.bool false)from rfl];subst hb2;refine Zc (t:=false) (by simp) ?_;apply Zb;intro b2 hb2;apply Za;simp[show Zd .eql .i64 6 6=some (.bool true)from rfl];subst hb2;refine Zc (t:=true) (by simp) ?_;apply Zb;intro b2 hb2;apply Za;simp[adrFs1 (show 1<2 by decide),loadFb qz,c4,show Zd .eql .i64 0 0=some (.bool true)from rfl];subst hb2;refine Zc (t:=true) (by simp) ?_;apply Zb;intro b2 hb2;apply Za;simp[z2,st5];subst hb2;apply Zm;simp[Xo,Xn,hld];exact⟨K,_,rfl,hF⟩
theorem top_rest{v1 v2 v3 v4:Value}{op:Int}{two:Bool}{f:FuncId}(hop:Da op=some (two,f)){css:List (List Value)}{fs:List FD}(hA:Lst 4 H av css)(hF:Es H css fs)(hlen:fs.length=if two then 2 else 1)(hu: ∀(i:Nat)(g:FD),fs[i]?=some g→g.isUnd=false)(hw:(fs.map FD.w).sum≤67108864)(h6:op=6→ ∀g:FD,fs[1]?=some g→g.isZero=false){bw m:Nat}{tv kv:Value}(hbw:H.blk bw= .rw 1 [.map (some m),tv,kv])(hbn:bw<H.n)(hW:De H m){neg:Bool}{N D:Nat} :CW Tryz.prog Zo 116 [.pointer (some ⟨bw,0,none⟩),.agg #[.int .i64 op,v1,v2,v3,v4],av] H (Ay H (Qv op neg N D fs)):=by
 obtain⟨o0,o1,o10,o12,o11,o14,o13,o15⟩:=workOf_ne hop;have hl2:fs.length≤2:=by rw[hlen];cases two<;>simp
 have hcl:=hF.len;obtain⟨H2,e2,k2,n2,q0,q1⟩:=Qy H [.int .i64 op,v1,v2,v3,v4] [.int .i64 0,.bool false,.slice none 0 0,.slice none 0 0];have hbw:=(k2.blk _ hbn).trans hbw;have K:=k2;obtain⟨H3,st3,k3,q2,n3⟩:=Kz (H:=H2) (k:= .int .i64 2) (p:= .bool false) (q:= .slice none 0 0) (r:= .slice none 0 0) rfl;have K:=K.trans k3;replace q0:=(k3.blk _ (by omega)).trans q0;replace q1:=(k3.blk _ (by omega)).trans q1;replace hbw:=(k3.blk _ (by omega)).trans hbw;have z0:=q0;have hA3:=hA.keep K;have hF3:=hF.fr K.fr;have hW3:=hW.keep K;refine Zj 141 (by decide) (by decide) Tryz.func116 rfl rfl ?_;apply Zb;intro b1 hb1;apply Za;simp[Value.cells,Jp,Jt,e2];subst hb1;apply Zb;intro b1 hb1;apply Za;simp[Et,Jp,Value.cells,st3];subst hb1;refine Qs (fun s'=>s'.k=141∧Keep H3 s'.H∧s'.tm.get 0=some (.pointer (some ⟨bw,0,none⟩))∧s'.tm.get 2=some av∧s'.tm.get 4=some (.pointer (some ⟨H.n,0,none⟩))∧s'.tm.get 6=some (.pointer (some ⟨H.n+1,0,none⟩))) ?_ ?_
 ·intro Q' hQ';apply Zb;intro b2 hb2;apply Za;simp[Ei,Ko z0];subst hb2;apply Zt;apply Zb;intro b2 hb2;apply Za;simp[eqlNo o0];subst hb2;refine Zc (t:=false) (by simp) ?_;apply Zb;intro b2 hb2;apply Za;simp[eqlNo o1];subst hb2;refine Zc (t:=false) (by simp) ?_;apply Zb;intro b2 hb2;apply Za;simp[Zb5];subst hb2;by_cases h66:op=6
  ·refine Zc (t:=true) (by simp[h66]) ?_;have htwo:two=true:=by subst h66;simp[Da]at hop;first|exact hop.1|exact hop.1.symm
   have hlen2:fs.length=2:=by rw[hlen,htwo];rfl
   have hclen2:css.length=2:=by omega
   obtain⟨g0,g,rfl⟩:=len2 hlen2;obtain⟨c1,c2,rfl⟩:=len2 hclen2;have h6:=h6 h66 g rfl;obtain⟨ab,rfl,hab,qa⟩:=hA3.pair;obtain⟨p1,p2,p3,rfl,_⟩:=hF3.1.trio;simp only[List.map_cons,List.map_nil,List.sum_cons,List.sum_nil]at hw;have hsign: ∃S H4,Zq Tryz.prog Zo 153 [.agg c2.toArray] H3=some (.int .i64 S,H4)∧Keep H3 H4∧S≠0:=by cases g with|und=>have:=hu 1 .und rfl;cases this|opn=>obtain rfl:=hF3.2.1;obtain⟨H4,c4,k4⟩:=Uc (k:=0) (p:= .bool false) (q:= .slice none 0 0) (r:= .slice none 0 0) (by decide) H3;exact⟨2,H4,c4,k4,by decide⟩|rat t C D=>obtain⟨p,q,rfl,hp,hq,low⟩:=hF3.2.1;have hw:g0.w+(max (Zf C) (Zf D)+1+0)≤67108864:=hw;obtain⟨H4,c4,k4⟩:=Uq t hp hq (by omega) (by omega) low.2;refine⟨_,H4,c4,k4,fun e=>?_⟩;have:=Bs.mp e;have:decide (C=0)=false:=h6;simp at this;omega
   obtain⟨S,H4,c4,k4,hS⟩:=hsign;obtain⟨r1,r2,r3,rfl,_⟩:=hF3.2.1.trio;simp only[List.cons_append,List.nil_append]at qa;have c4:Zq Tryz.prog Zo 153 [.agg #[.int .i64 g.kind,r1,r2,r3]] H3=some (.int .i64 S,H4):=c4;apply Zb;intro b2 hb2;apply Za;simp[adrFs1 (show 1<2 by decide),loadFb qa,c4,eqlNo hS];subst hb2;refine Zc (t:=false) (by simp) ?_;apply Zi;simp[Xn];apply hQ';exact⟨rfl,k4,by simp,by simp,by simp,by simp⟩
  ·refine Zc (t:=false) (by simp[h66]) ?_;apply Zb;intro b2 hb2;apply Za;simp[eqlNo o10];subst hb2;refine Zc (t:=false) (by simp) ?_;apply Zb;intro b2 hb2;apply Za;simp[eqlNo o12];subst hb2;refine Zc (t:=false) (by simp) ?_;apply Zb;intro b2 hb2;apply Zb;intro b3 hb3;apply Za;simp[eqlNo o11];subst hb3;refine Zc (t:=false) (by simp) ?_;apply Zb;intro b3 hb3;apply Za;simp[eqlNo o14];subst hb3;refine Zc (t:=false) (by simp) ?_;apply Zb;intro b3 hb3;apply Za;simp[eqlNo o13];subst hb3;refine Zc (t:=false) (by simp) ?_;apply Za;simp[eqlNo o15];subst hb2;refine Zc (t:=false) (by simp) ?_;apply Zi;simp[Xn];apply hQ';exact⟨rfl,.refl _,by simp,by simp,by simp,by simp⟩
 rintro⟨k,tm,Ha⟩ ⟨hk,kHa,t0,t2,t4,t6⟩;simp only at hk kHa t0 t2 t4 t6;subst hk;have hAl:=hA3.len uFs;obtain⟨len,hln⟩: ∃len,len=css.length:=⟨_,rfl⟩;rw[←hln]at hAl hcl;apply Zb;intro b1 hb1;apply Za;simp;subst hb1;apply Zb;intro b1 hb1;apply Zb;intro b2 hb2;apply Za;simp[t2,hAl];subst hb2;apply Zt;have nH3:H3.n=H.n+3:=by omega
 refine Xw (fun n s'=>s'.k=141∧Keep H3 s'.H∧ ∃(i:Nat) (lv:Value),n+i=len∧Lst 3 s'.H lv ((css.take i).map (List.drop 1))∧(∀b,Qi lv=some b→H3.n≤b)∧(∀j g,j<i→fs[j]?=some g→g.isRat=true)∧s'.tm.get 0=some (.pointer (some ⟨bw,0,none⟩))∧s'.tm.get 4=some (.pointer (some ⟨H.n,0,none⟩))∧s'.tm.get 6=some (.pointer (some ⟨H.n+1,0,none⟩))∧s'.tm.get 13=some lv∧s'.tm.get 113=some av∧s'.tm.get 114=some (.int .i64 (len:Int))∧s'.tm.get 115=some (.int .i64 (i:Int))) ?_ len _ ⟨rfl,kHa,0,.slice none 0 0,by omega,.inl ⟨rfl,by simp⟩,(fun b hb=>by cases hb),(fun j g hj=>by omega),by simp[t0],by simp[t4],by simp[t6],by simp,by simp,by simp,by simp⟩;rintro n ⟨k,tm2,Hb⟩ ⟨hk,kHb,i,lv,hni,hL,hlb,hrat,u0,u4,u6,u13,u113,u114,u115⟩ Q' hQ';simp only at hk kHb hL u0 u4 u6 u13 u113 u114 u115;subst hk;have nHb:=kHb.n;apply Zb;intro b3 hb3;apply Za;simp[u114,u115,lssN];subst hb3;apply Zb;intro b3 hb3;have q1b:=(kHb.blk _ (by omega)).trans q1;have q0b:=(kHb.blk _ (by omega)).trans q0;have hbwb:=(kHb.blk _ (by omega)).trans hbw;have kH:Keep H Hb:=K.trans kHb;by_cases hi:i<len;·refine Zc (t:=true) (by simp[hi]) ?_;apply Zi;subst hb3;obtain⟨cs,hcs⟩: ∃cs,css[i]?=some cs:=⟨css[i]'(by omega),List.getElem?_eq_getElem (by omega)⟩;obtain⟨g,hg,hfg⟩:=hF3.get hcs;obtain⟨ab,hvb,hadr,hab,hblk,hcl4,hcut⟩:=hA3.at hcs uFs Za4 (by decide);have hld:=Di ((kHb.blk _ hab).trans hblk) (by decide) hcut hcl4 aFold Za4;have hfgb:=hfg.fr kHb.fr;have hug:=hu i g hg;obtain⟨p,q,r,rfl,htr⟩:=hfg.trio;have hones:=hfg.ones;have K:=kH;obtain⟨H4,st4,k4,q15,n4⟩:=Kz (H:=Hb) hones;have K:=K.trans k4;replace q0b:=(k4.blk _ (by omega)).trans q0b;replace q1b:=(k4.blk _ (by omega)).trans q1b;replace hbwb:=(k4.blk _ (by omega)).trans hbwb;have z15:=q15;apply Zb;intro b3 hb3;apply Zt;apply Zb;intro b4 hb4;apply Za;simp[u113,u115,hadr,hld,Jp,Value.cells,st4];subst hb4;apply Zb;intro b4 hb4;apply Zb;intro b5 hb5;cases g with
  |und=>cases hug
  |opn=>
   obtain⟨H5,c5,k5⟩:=Jy H4;have n5:=k5.n;have K:=K.trans k5;replace q0b:=(k5.blk _ (by omega)).trans q0b;replace q1b:=(k5.blk _ (by omega)).trans q1b;replace hbwb:=(k5.blk _ (by omega)).trans hbwb;replace q15:=(k5.blk _ (by omega)).trans q15;have hFo:FIn H5 [.int .i64 0,.bool false,.slice none 0 0,.slice none 0 0] .opn:=rfl;obtain⟨H6,st6,n6,q1b,b6,ka6,hFo⟩:=Ue q1b rfl hFo;have K:=ka6 _ K (by omega);have hld2:=Je q1b rfl;try simp at st6 hld2
   apply Za;simp[faF0,Gq z15,FD.kind,show Zd .neq .i64 0 1=some (.bool true)from rfl];subst hb5;refine Zc (t:=true) (by simp) ?_;apply Zb;intro b5 hb5;apply Za;simp[u6,c5,st6];subst hb5;apply Zm;simp[Xo,Xn];apply hQ';simp[Dc,Xn,Xo,u6,hld2];rw[topFD_opn o0 hg hl2 h6];exact⟨K,_,rfl,hFo⟩
  |rat s A B=>
   obtain⟨xs',hxs'⟩: ∃x,x=(css.take i).map (List.drop 1):=⟨_,rfl⟩;rw[←hxs']at hL;have hxl:xs'.length=i:=by rw[hxs',List.length_map,List.length_take];omega
   have hL4:=hL.keep k4;have ones3:[p,q,r].all one=true:=by simp only[List.all_cons,Bool.and_eq_true]at hones⊢;exact hones.2
   obtain⟨G,hG⟩: ∃G,G=H4.new 3 [p,q,r]:=⟨_,rfl⟩;have kG:Keep H4 G:=by rw[hG];exact Keep.new _ _ _
   have nG:G.n=H4.n+1:=by rw[hG];rfl
   have bG:G.blk H4.n= .rw 3 [p,q,r]:=by rw[hG,AH.blk_new,if_pos rfl]
   obtain⟨H5,hap,n5,oth5,hL5,hk0,hk1⟩:=(hL4.keep kG).append (by decide) bG rfl ones3 sQs (by decide) Jw rfl (by omega);rw[hxl]at hap hL5;have kH3G:Keep H3 G:=(kHb.trans k4).trans kG;have kH5:Keep H3 H5:=by cases hvl:Qi lv with|none=>exact kH3G.trans (hk0 hvl).1|some b=>exact(hk1 b hvl).1 H3 kH3G (hlb b hvl)
   have hbs:=buildQ1 H4 p q r;rw[←hG]at hbs;apply Za;simp[faF0,Gq z15,FD.kind,show Zd .neq .i64 1 1=some (.bool false)from rfl];subst hb5;refine Zc (t:=false) (by simp) ?_;apply Zi;subst hb4;apply Za;simp[u13,faF1,Zc3 z15,hbs,hap];simp[Xn];subst hb3;apply Za;simp[u115,Bg (x:=i) (by omega)];apply hQ';refine⟨n-1,by omega,rfl,kH5,i+1,.slice (some ⟨G.n,0,none⟩) (i+1) (i+1),by omega,?_,(fun b hb=>by cases hb;omega),?_,by simp[u0],by simp[u4],by simp[u6],by simp,by simp[u113],by simp[u114],by simp⟩;·rw[List.take_add_one,List.map_append,←hxs',hcs];exact hL5
   ·intro j g' hj hg';by_cases e:j=i;·subst e;rw[hg]at hg';injection hg' with hg';subst hg';rfl
    ·exact hrat j g' (by omega) hg'
 ·refine Zc (t:=false) (by simp[hi]) ?_;apply Xy;apply hQ';left;refine⟨rfl,?_⟩;obtain rfl:i=len:=by omega
  rw[List.take_of_length_le (by omega)]at hL;subst hb1;clear hQ';obtain⟨cb,hlook,hcb,hcf⟩:=lookM (hW3.keep kHb) hop;have hFb:=hF3.fr kHb.fr;have hgive: ∃R,Qv op neg N D fs= .mk R∧(Qv op neg N D fs).ok∧Gives (cond two 105 107) [lv,.pointer (some ⟨cb,0,none⟩)] Hb.top R:=by cases two with
   |false=>obtain⟨g,rfl⟩:=len1 (show fs.length=1 from hlen);obtain⟨c,rfl⟩:=len1 (show css.length=1 by rw[hF.len];rfl);obtain⟨lb,rfl,hlb,ql⟩:=hL.single;have:=hrat 0 g (by simp at hln;omega) rfl;cases g with
    |opn=>cases this
    |und=>cases this
    |rat s A B=>
     obtain⟨p,q,rfl,hp,hq,low⟩:=hFb.1;have hw':(FD.rat s A B).w≤67108864:=by simpa using hw
     obtain⟨R,hR,_⟩:=gives_one hop hp hq low hw';have hres:Qv op neg N D [.rat s A B]=Kb op s A B:=by unfold Qv;rw[if_neg o0]
     refine⟨R,hres.trans hR,by rw[hres];exact(oneFD_ok low).1,clo1_run (H:=Hb.top) (p:= .bool s) (q:=p) (r:=q) (l:=[]) hcf hcb (by decide) ql hlb fun G kG=>?_⟩;obtain⟨R',hR',gv⟩:=gives_one hop (hp.top.keep kG) (hq.top.keep kG) low hw';rw[hR]at hR';injection hR' with e1 e2 e3;obtain⟨a,b,c⟩:=R;obtain⟨a',b',c'⟩:=R';simp only at e1 e2 e3;subst e1;subst e2;subst e3;exact gv
   |true=>obtain⟨g,g',rfl⟩:=len2 (show fs.length=2 from hlen);obtain⟨c,c',rfl⟩:=len2 (show css.length=2 by rw[hF.len];rfl);obtain⟨lb,rfl,hlb,ql⟩:=hL.pair;have r1:=hrat 0 g (by simp at hln;omega) rfl;have r2:=hrat 1 g' (by simp at hln;omega) rfl;cases g with
    |opn=>cases r1
    |und=>cases r1
    |rat s A B=>cases g' with
     |opn=>cases r2
     |und=>cases r2
     |rat t C E=>
      obtain⟨p,q,rfl,hp,hq,low⟩:=hFb.1;obtain⟨p',q',rfl,hp',hq',low'⟩:=hFb.2.1;have hw':(FD.rat s A B).w+(FD.rat t C E).w≤67108864:=by simpa using hw
      have h6':op=6→C≠0:=fun e h=>by have:=h6 e _ rfl;have:decide (C=0)=false:=this;simp at this;exact this h
      obtain⟨R,hR,_⟩:=gives_two hop hp hq hp' hq' low low' h6' hw';have hres:Qv op neg N D [.rat s A B,.rat t C E]=twoFD op s A B t C E:=by unfold Qv;rw[if_neg o0]
      refine⟨R,hres.trans hR,by rw[hres];exact(twoFD_ok low low').1,clo2_run (H:=Hb.top) (p:= .bool s) (q:=p) (r:=q) (p':= .bool t) (q':=p') (r':=q') hcf hcb ql hlb fun G kG=>?_⟩;obtain⟨R',hR',gv⟩:=gives_two hop (hp.top.keep kG) (hq.top.keep kG) (hp'.top.keep kG) (hq'.top.keep kG) low low' h6' hw';rw[hR]at hR';injection hR' with e1 e2 e3;obtain⟨a,b,c⟩:=R;obtain⟨a',b',c'⟩:=R';simp only at e1 e2 e3;subst e1;subst e2;subst e3;exact gv
  obtain⟨R,hR,hok,hgv⟩:=hgive;rw[hR]at hok⊢;obtain⟨S,N',D'⟩:=R;have K:=kH;have q0ba:=q0b;have q1ba:=q1b;have hbwba:=hbwb;have vka: ∀{J:AH}(k:Keep Hb J){bits ms},(∀x∈ms,Hb.n≤x.2.1)→ ∀b,b<Hb.n→(vis J bits ms).blk b=Hb.blk b:=fun k _ _ h b hb=>(Qw k h).blk b hb;obtain⟨g1,g2,Ia1,da1,kIa1,x1,x2⟩:=hgv;obtain⟨Ja1,hJa1⟩: ∃J,J=grown Hb Ia1:=⟨_,rfl⟩;have kJa1:Keep Hb Ja1:=by rw[hJa1];exact Zw (.refl _) kIa1
  have ma1:Hb.n≤Ia1.n:=kIa1.n;have kka1:=kJa1;have nka1:=kka1.n;have K:=K.trans kJa1;simp only at da1 x1 x2;replace x1:=x1.same (Yh kIa1);replace x2:=x2.same (Yh kIa1);rw[←hJa1]at x1 x2;obtain⟨Ia2,da2,kIa2⟩:=Fa (p:= .bool S) ⟨⟨_,rfl⟩,x1.shape,x2.shape⟩ Ja1.top;obtain⟨Ja2,hJa2⟩: ∃J,J=grown Ja1 Ia2:=⟨_,rfl⟩;have kJa2:Keep Ja1 Ja2:=by rw[hJa2];exact Zw (.refl _) kIa2
  have ma2:Ja1.n≤Ia2.n:=kIa2.n;have kka2:=kka1.trans kJa2;have nka2:=kka2.n;have K:=K.trans kJa2;replace x1:=x1.keep kJa2;replace x2:=x2.keep kJa2;replace q0b:=(kka2.blk _ (by omega)).trans q0b;replace q1b:=(kka2.blk _ (by omega)).trans q1b;replace hbwb:=(kka2.blk _ (by omega)).trans hbwb;have r1:=q1b;obtain⟨Sa1,ssta1,sna1,slwa1,fna1,q1b,foa1,fka1⟩:=putDF (k:=1) (p:= .bool S) q1b (by omega) rfl x1.one1 x2.one1;obtain⟨Fa1,hFa1⟩: ∃F,F=low Ja2 Sa1:=⟨_,rfl⟩;rw[←hFa1]at fna1 q1b foa1 fka1;have K:=fka1 _ K (by omega);replace q0b:=(foa1 _ (by omega)).trans q0b;replace hbwb:=(foa1 _ (by omega)).trans hbwb;have fr:=Fr.put r1 q1b fna1 foa1 rfl rfl (show noU [.int .i64 1,.bool S,g1,g2]=true by obtain⟨_,_,_,rfl⟩:=x1.shape;obtain⟨_,_,_,rfl⟩:=x2.shape;rfl);have hFin:FIn Fa1 [.int .i64 1,.bool S,g1,g2] (.mk (S,N',D')):=⟨_,_,rfl,x1.fr fr,x2.fr fr,hok⟩;have hld2:=Bl q1b;have hlook':Ze9 Tryz.prog Hb.top 129 (.map (some m)) (.int .i64 op) false=some (clo two cb):=hlook;apply Zb;intro b1 hb1;apply Qm (by kernel_rfl);simp[u0,faFo0];refine Yd (v:= .map (some m)) rfl rfl rfl (by rw[Zk rfl];simp[loadFo0 (H:=AH.top Hb) hbwba]) ?_;simp[u4,Ei];refine Yd (v:= .int .i64 op) rfl rfl rfl (by rw[Zk rfl];simp[Ko (H:=AH.top Hb) q0ba]) ?_;simp;refine Yd (v:=clo two cb) rfl rfl rfl (by rw[Zk rfl];simp[hlook']) ?_;simp[u13,clo];refine Yv (v:= .tuple #[.agg #[.bool S,g1,g2],.int .i64 0]) (H2:=Ia1) rfl rfl rfl (by rw[Zk rfl];simp[da1]) ma1 (Yx kIa1) ?_;rw[←hJa1];have Ma1:=(Fs.nil Hb.n).cons (i:=8) (a:=Hb.n) (b:=Ia1.n) (by omega);generalize cond (Nat.blt Hb.n Ia1.n) _ _=msa1 at Ma1;simp;refine Yv (v:= .agg #[.int .i64 1,.bool S,g1,g2]) (H2:=Ia2) rfl rfl rfl (by rw[Zk (Ma1.hid (by kernel_rfl))];simp[da2]) ma2 (Yx kIa2) ?_;rw[←hJa2];have Ma2:=Ma1.cons (i:=11) (a:=Ja1.n) (b:=Ia2.n) (by omega);generalize cond (Nat.blt Ja1.n Ia2.n) _ _=msa2 at Ma2;simp[u6];refine Xk (v:= .tuple #[]) (H2:=Sa1) rfl rfl (by kernel_rfl) (Ma2.hid (by kernel_rfl)) ?_ (by omega) slwa1 ?_;·show Yk _ _ _ _ Ja2.top _=_;simp[ssta1,u6]
  rw[show({ n:=Sa1.n,lw:=min Ja2.lw Sa1.lw,t:=Sa1.t } :AH)=Fa1 from hFa1.symm];rw[show Nat.blt Ja2.n Sa1.n=false from by rw[sna1];exact Qj _,cond_false];simp[u6];subst hb1;apply Zm;simp[u6,hld2];exact⟨K,_,rfl,hFin⟩
end
end
mutual def ET.fold:ET→FD| .node op neg abs den args=>if(Xq args).any FD.isUnd=true then .und else Qv op neg (dv B64 abs) (dv B64 den) (Xq args) def Xq:List ET→List FD|[]=>[]|t::ts=>t.fold::Xq ts end
mutual def ET.parts:ET→List FD| .node op neg abs den args=>Jg args++[if(Xq args).any FD.isUnd=true then .und else Qv op neg (dv B64 abs) (dv B64 den) (Xq args)] def Jg:List ET→List FD|[]=>[]|t::ts=>t.parts++Jg ts end
mutual def ET.wt:ET→Nat| .node op neg abs den args=>(if op=0 then max (64*abs.length) (64*den.length)else 0)+1+Kw args def Kw:List ET→Nat|[]=>0|t::ts=>t.wt+Kw ts end
theorem Gw(l:List ET):Xq l=l.map ET.fold:=by induction l with|nil=>rfl|cons x xs ih=>simp[Xq,ih]
theorem Zq7(xs ys:List ET):Jg (xs++ys)=Jg xs++Jg ys:=by induction xs with|nil=>simp[Jg]|cons x xs ih=>simp[Jg,ih]
theorem parts_node(op:Int)(neg:Bool)(abs den:List Nat)(args:List ET):(ET.node op neg abs den args).parts=Jg args++[(ET.node op neg abs den args).fold]:=by simp only[ET.parts,ET.fold]
theorem wtAll_get{xs:List ET}{i:Nat}{t:ET}(hi:xs[i]?=some t):t.wt≤Kw xs:=by induction xs generalizing i with
 |nil=>simp at hi
 |cons x xs ih=>cases i with|zero=>simp at hi;subst hi;simp[Kw]|succ i=>simp at hi;have:=ih hi;simp only[Kw];omega
theorem Zc1{xs:List ET}(h:Ju xs=true){i:Nat}{t:ET}(hi:xs[i]?=some t):t.allGood=true:=by induction xs generalizing i with
 |nil=>simp at hi
 |cons x xs ih=>simp only[Ju,Bool.and_eq_true]at h;cases i with|zero=>simp at hi;subst hi;exact h.1|succ i=>simp at hi;exact ih h.2 hi
theorem Zj3{xs:List Nat}(h:Dig B64 xs):Zf (dv B64 xs)≤64*xs.length:=by refine Gi ?_;rw[Nat.pow_mul];exact Vh h
theorem Kn{op:Int}{neg:Bool}{abs den:List Nat}{args:List ET}(h:(ET.node op neg abs den args).good=true):0≤op∧op<16∧args.length=arity op.toNat∧(op=0→0<dv B64 den):=by unfold ET.good at h;simp only[Bool.and_eq_true,decide_eq_true_eq]at h;refine⟨h.1.1,h.1.2.1,h.1.2.2,fun h0=>?_⟩;have:=h.2;rw[if_pos h0]at this;simpa using this
theorem topFD_ok{op:Int}{neg:Bool}{N D:Nat}{fs:List FD}(hD:op=0→0<D)(h: ∀g∈fs,g.ok){k:Nat}(hN:op=0→Zf N≤k∧Zf D≤k):(Qv op neg N D fs).ok∧(Qv op neg N D fs).w≤(if op=0 then k else 0)+1+(fs.map FD.w).sum:=by
 unfold Qv;by_cases h0:op=0;·rw[if_pos h0,if_pos h0];have:=mk_w (neg:=neg) (n:=N) (hD h0) (k:=k+1) (by have:=(hN h0).1;omega) (by have:=(hN h0).2;omega);exact⟨this.2,by have:=this.1;omega⟩
 ·rw[if_neg h0,if_neg h0];split;·rename_i s A B;have:=oneFD_ok (op:=op) (h _ (List.mem_singleton.mpr rfl));exact⟨this.1,by have:=this.2;simp;omega⟩
  ·rename_i s A B t C E;have h1:Low s A B:=h (.rat s A B) (by simp);have h2:Low t C E:=h (.rat t C E) (by simp);have:=twoFD_ok (op:=op) h1 h2;exact⟨this.1,by have:=this.2;simp;omega⟩
  ·split;·exact⟨trivial,by show 1≤_;omega⟩
   ·exact⟨trivial,by show 1≤_;omega⟩
  ·exact⟨trivial,by show 1≤_;omega⟩
theorem Zk5: ∀n(t:ET),t.nodes≤n→t.allGood=true→t.wide 1048576→t.fold.ok∧t.fold.w≤t.wt:=by intro n;induction n with
 |zero=>intro t h;have:=Vm t;omega
 |succ n ih=>
  intro t ht hg hw;obtain⟨op,neg,abs,den,args⟩:=t;simp only[ET.nodes]at ht;simp only[ET.allGood,Bool.and_eq_true]at hg;obtain⟨_,_,da,dd,ws⟩:=hw;have key: ∀l:List ET,Yi l≤n→Ju l=true→Ed 1048576 l→(∀g∈Xq l,g.ok)∧((Xq l).map FD.w).sum≤Kw l:=by intro l;induction l with
   |nil=>intro _ _ _;exact⟨fun g hg=>by simp[Xq]at hg,by simp[Xq,Kw]⟩
   |cons x xs ihl=>
    intro hl hgl hwl;simp only[Yi]at hl;simp only[Ju,Bool.and_eq_true]at hgl;have h1:=ih x (by omega) hgl.1 hwl.1;have h2:=ihl (by omega) hgl.2 hwl.2;refine⟨fun g hg=>?_,by simp only[Xq,Kw,List.map_cons,List.sum_cons];have:=h1.2;have:=h2.2;omega⟩;simp only[Xq,List.mem_cons]at hg;rcases hg with e|e;·rw[e];exact h1.1
    ·exact h2.1 g e
  obtain⟨k1,k2⟩:=key args (by omega) hg.2 ws;simp only[ET.fold,ET.wt];split;·exact⟨trivial,by show 1≤_;omega⟩
  ·obtain⟨_,_,_,hD⟩:=Kn hg.1;have b1:=Zj3 da;have b2:=Zj3 dd;have:=topFD_ok (op:=op) (neg:=neg) (N:=dv B64 abs) (D:=dv B64 den) hD k1 (k:=max (64*abs.length) (64*den.length)) (fun _=>⟨by omega,by omega⟩);exact⟨this.1,by have:=this.2;omega⟩
theorem foldAll_w{args:List ET}(hg:Ju args=true)(hw:Ed 1048576 args):((Xq args).map FD.w).sum≤Kw args:=by induction args with|nil=>simp[Xq,Kw]|cons x xs ih=>simp only[Ju,Bool.and_eq_true]at hg;have h1:=Zk5 _ x (Nat.le_refl _) hg.1 hw.1;have h2:=ih hg.2 hw.2;simp only[Xq,Kw,List.map_cons,List.sum_cons];have:=h1.2;omega
section
variable {H : AH}
theorem top_ok{op:Int}{neg:Bool}{va vd vx av:Value}{abs den:List Nat}{args:List ET}{css:List (List Value)}{fs:List FD}(ha:Sl H va abs)(hd:Sl H vd den)(da:Dig B64 abs)(dd:Dig B64 den)(la:abs.length≤1048576)(ld:den.length≤1048576)(hg:(ET.node op neg abs den args).good=true)(hA:Lst 4 H av css)(hF:Es H css fs)(hl:fs.length=args.length)(hu:fs.any FD.isUnd=false)(hok: ∀g∈fs,g.ok)(hw:(fs.map FD.w).sum≤67108864)(hb:op=0→Zf (dv B64 abs)≤67108864∧Zf (dv B64 den)≤67108864){bw m:Nat}{tv kv:Value}(hbw:H.blk bw= .rw 1 [.map (some m),tv,kv])(hbn:bw<H.n)(hW:De H m):CW Tryz.prog Zo 116 [.pointer (some ⟨bw,0,none⟩),.agg #[.int .i64 op,.bool neg,va,vd,vx],av] H (Ay H (Qv op neg (dv B64 abs) (dv B64 den) fs)):=by
 obtain⟨h0,h16,har,hD⟩:=Kn hg;have hu': ∀(i:Nat)(g:FD),fs[i]?=some g→g.isUnd=false:=fun i g hi=>by have:=List.any_eq_false.mp hu g (List.mem_of_getElem? hi);simpa using this
 have hlen:fs.length=arity op.toNat:=by omega
 have hcl:=hF.len;obtain⟨k,rfl⟩: ∃k:Nat,op=(k:Int):=⟨op.toNat,by omega⟩;have hk:k<16:=by omega
 have hlen:fs.length=arity k:=by simpa using hlen
 have one: ∀{X:Int},arity k=1→ ∃c f,css=[c]∧fs=[f]∧FIn H c f∧f.isUnd=false∧f.w≤67108864:=fun{X} h=>by obtain⟨f,rfl⟩:=len1 (hlen.trans h);obtain⟨c,rfl⟩:=len1 (hcl.trans (by rfl));exact⟨c,f,rfl,rfl,hF.1,hu' 0 f rfl,by simpa using hw⟩
 have rest: ∀(two:Bool)(f:FuncId),Da (k:Int)=some (two,f)→arity k=(if two then 2 else 1)→CW Tryz.prog Zo 116 [.pointer (some ⟨bw,0,none⟩),.agg #[.int .i64 (k:Int),.bool neg,va,vd,vx],av] H (Ay H (Qv (k:Int) neg (dv B64 abs) (dv B64 den) fs)):=fun two f hop har2=>by
  by_cases h6:(k:Int)=6∧ ∃g,fs[1]?=some g∧g.isZero=true
  ·obtain⟨e6,g,hg1,hz⟩:=h6;have k6:k=6:=by omega
   subst k6;obtain⟨f0,f1,rfl⟩:=len2 (hlen.trans rfl);obtain⟨c0,c1,rfl⟩:=len2 (hcl.trans rfl);simp at hg1;subst hg1;cases f1 with
    |opn=>cases hz
    |und=>cases hz
    |rat t C E=>
     have hC:C=0:=by simpa[FD.isZero]using hz
     subst hC;have:Qv ((6:Nat):Int) neg (dv B64 abs) (dv B64 den) [f0,.rat t 0 E]= .und:=by unfold Qv;rw[if_neg (by decide)];cases f0<;>rfl
     rw[this];have hwE:f0.w+(max (Zf 0) (Zf E)+1+0)≤67108864:=hw;exact top_quo0 hA hF.1 hF.2.1 (by omega)
  ·exact top_rest hop hA hF (hlen.trans har2) hu' hw (fun e g hg1=>by cases hz:g.isZero with|false=>rfl|true=>exact absurd ⟨e,g,hg1,hz⟩ h6) hbw hbn hW
 have nm: ∀{op:Int},op≠0→Qv op neg (dv B64 abs) (dv B64 den) fs=Qv op false 0 0 fs:=fun h=>topFD_op h _ _ _ _ _ _ _;match k,hk with|0,_=>have:fs=[]:=List.length_eq_zero_iff.mp (hlen.trans rfl);subst this;have:=hb rfl;exact top_num ha hd da dd la ld this.1 this.2 (hD rfl)|1,_=>have:fs=[]:=List.length_eq_zero_iff.mp (hlen.trans rfl);subst this;exact top_pi|2,_=>exact rest false _ rfl rfl|3,_=>exact rest true _ rfl rfl|4,_=>exact rest true _ rfl rfl|5,_=>exact rest true _ rfl rfl|6,_=>exact rest true _ rfl rfl|7,_=>exact rest false _ rfl rfl|8,_=>exact rest true _ rfl rfl|9,_=>exact rest true _ rfl rfl|10,_=>obtain⟨c,f,rfl,rfl,h1,h2,h3⟩:=one (X:=0) rfl;rw[nm (by decide)];exact top_sqrt hA h1 h2 h3|11,_=>obtain⟨c,f,rfl,rfl,h1,h2,h3⟩:=one (X:=0) rfl;rw[nm (by decide)];exact top_f11 hA h1 h2 h3|12,_=>obtain⟨c,f,rfl,rfl,h1,h2,h3⟩:=one (X:=0) rfl;rw[nm (by decide)];exact top_ln hA h1 h2 h3|13,_=>obtain⟨c,f,rfl,rfl,h1,h2,h3⟩:=one (X:=0) rfl;rw[nm (by decide)];exact top_f13 hA h1 h2 h3|14,_=>obtain⟨c,f,rfl,rfl,h1,h2,h3⟩:=one (X:=0) rfl;rw[nm (by decide)];exact top_f14 hA h1 h2 h3|15,_=>obtain⟨c,f,rfl,rfl,h1,h2,h3⟩:=one (X:=0) rfl;rw[nm (by decide)];exact top_f15 hA h1 h2 h3
end
def FoIn(H:AH)(bw m:Nat)(keep:Bool)(L:List FD)(tv:Value):Prop:=H.blk bw= .rw 1 [.map (some m),tv,.bool keep]∧bw<H.n∧ ∃css,Lst 4 H tv css∧Es H css L
def undV:Value:= .iface 148 (.agg #[])
def FoldIs(H:AH)(bw m:Nat)(keep:Bool)(L:List FD)(tv:Value)(t:ET)(x:Value)(H':AH):Prop:= ∃vs tv',x= .agg vs.toArray∧FIn H' vs t.fold∧FoIn H' bw m keep (L++t.parts) tv'∧(∀b,Qi tv'=some b→H.n≤b)∧H.n≤H'.n∧KAt bw H H'∧ ∀j,j<H.n→j≠bw→Qi tv≠some j→H'.blk j=H.blk j
theorem fold_fr{H H':AH}{bw m:Nat}{keep:Bool}{L:List FD}{tv tv':Value}(h:FoIn H bw m keep L tv)(h':H'.blk bw= .rw 1 [.map (some m),tv',.bool keep])(hs: ∃a l c,tv'= .slice a l c)(hn:H.n≤H'.n)(hf: ∀j,j<H.n→j≠bw→Qi tv≠some j→H'.blk j=H.blk j):Fr H H':=by
 obtain⟨h1,h2,css,h3,h4⟩:=h;refine⟨hn,fun j hj=>?_⟩;by_cases e:j=bw;·subst e;obtain⟨a,l,c,rfl⟩:=hs;obtain⟨a',l',c',rfl⟩:=h3.shape;exact .inr (.inr ⟨_,_,h1,h',rfl,rfl,rfl⟩)
 ·by_cases e2:Qi tv=some j;·exact .inr (.inl ⟨4,_,(h3.blk_lt e2).2,by decide⟩)
  ·exact .inl (hf j hj e e2)
theorem FoIn.keep{H H':AH}{bw m:Nat}{keep:Bool}{L:List FD}{tv:Value}(h:FoIn H bw m keep L tv)(k:Keep H H'):FoIn H' bw m keep L tv:=by obtain⟨h1,h2,css,h3,h4⟩:=h;exact⟨(k.blk _ h2).trans h1,Nat.lt_of_lt_of_le h2 k.n,css,h3.keep k,h4.fr k.fr⟩
theorem FoIn.off{H H':AH}{bw m b:Nat}{keep:Bool}{L:List FD}{tv:Value}(h:FoIn H bw m keep L tv)(hb:b≠bw)(ht:Qi tv≠some b)(hn:H'.n=H.n)(ho: ∀j,j≠b→H'.blk j=H.blk j)(fr:Fr H H'):FoIn H' bw m keep L tv:=by obtain⟨h1,h2,css,h3,h4⟩:=h;exact⟨(ho _ (Ne.symm hb)).trans h1,by omega,css,h3.frame (by omega) (fun c hc=>ho c (fun e=>ht (by rw[hc,e]))),h4.fr fr⟩
section
variable {P : Program} {C : Cfg}
theorem callI_no{f:FuncId}{args:List Value}{H H':AH}{v:Value}(h:callOI P C f args H=some (.pan v,H')):Zq P C f args H=none:=by rw[Vc];unfold Qh;have:Jx P C (lvI P C) f args H=_:=h;rw[this];rfl
end
theorem newX{H:AH}{vs:List Value}(hl:vs.length=5)(h:vs.all one=true): ∃H',Xt Tryz.prog (H.new 1 [.int .i64 0,.bool false,.slice none 0 0,.slice none 0 0,.slice none 0 0]) 53 (.pointer (some ⟨H.n,0,none⟩)) (.agg vs.toArray)=some H'∧Keep H H'∧H'.blk H.n= .rw 1 vs∧H'.n=H.n+1:=Qz Zd2 rfl (by simp[Value.cells]) hl h
theorem Vd{H:AH}{b:Nat}{vs:List Value}(hb:H.blk b= .rw 1 vs)(hl:vs.length=5):Ys Tryz.prog H 53 (.pointer (some ⟨b,0,none⟩))=some (.agg vs.toArray):=Di hb (by decide) (by rw[List.drop_zero,List.take_of_length_le (by omega)]) hl aExpr Zd2
theorem loadX4{H:AH}{b:Nat}{v0 v1 v2 v3 v4:Value}(h:H.blk b= .rw 1 [v0,v1,v2,v3,v4]):Ys Tryz.prog H 51 (.pointer (some ⟨b,4,none⟩))=some v4:=Yt aExprs (AH.cells_rw' h (by decide)) rfl
theorem Ze6(b:Nat):Xf Tryz.prog 53 (.pointer (some ⟨b,0,none⟩)) 2=some (.pointer (some ⟨b,4,none⟩)):=faArgs b 0
theorem newFv{H:AH}{vs:List Value}(hl:vs.length=4)(h:vs.all one=true): ∃H',Xt Tryz.prog (H.new 1 [.int .i64 0,.bool false,.slice none 0 0,.slice none 0 0]) 57 (.pointer (some ⟨H.n,0,none⟩)) (.agg vs.toArray)=some H'∧Keep H H'∧H'.blk H.n= .rw 1 vs∧H'.n=H.n+1:=Qz Za4 rfl (by simp[Value.cells]) hl h
theorem kindUnd(g:FD):Zd .eql .i64 g.kind 2=some (.bool g.isUnd):=by cases g<;>rfl
theorem buildF1(H:AH)(k p q r:Value):Qe Tryz.prog H 83 1 [(0,.agg #[k,p,q,r])]=some (.slice (some ⟨H.n,0,none⟩) 1 1,H.new 4 [k,p,q,r]):=by unfold Qe;simp only[sFs,Jp];kernel_rfl
theorem aFs:Jd Tryz.prog 83=some false:=by kernel_rfl
theorem sFsl:Qq Tryz.prog 83=some 1:=by kernel_rfl
theorem faFo1(b:Nat):Xf Tryz.prog 132 (.pointer (some ⟨b,0,none⟩)) 1=some (.pointer (some ⟨b,1,none⟩)):=by kernel_rfl
theorem faFo2(b:Nat):Xf Tryz.prog 132 (.pointer (some ⟨b,0,none⟩)) 2=some (.pointer (some ⟨b,2,none⟩)):=by kernel_rfl
theorem loadFo1{H:AH}{b:Nat}{u v w:Value}(h:H.blk b= .rw 1 [u,v,w]):Ys Tryz.prog H 83 (.pointer (some ⟨b,1,none⟩))=some v:=Yt aFs (AH.cells_rw' h (by decide)) rfl
theorem loadFo2{H:AH}{b:Nat}{u v w:Value}(h:H.blk b= .rw 1 [u,v,w]):Ys Tryz.prog H 4 (.pointer (some ⟨b,2,none⟩))=some w:=Yt aBool (AH.cells_rw' h (by decide)) rfl
theorem putFo1{H:AH}{b:Nat}{u t w v:Value}(hb:H.blk b= .rw 1 [u,t,w])(hbn:b<H.n)(hv:v.cells=#[v])(h1:one v=true): ∃H2,Xt Tryz.prog H.top 83 (.pointer (some ⟨b,1,none⟩)) v=some H2∧H2.n=H.n∧H2.lw<H.n∧(low H H2).n=H.n∧(low H H2).blk b= .rw 1 [u,v,w]∧(∀j,j≠b→(low H H2).blk j=H.blk j)∧KAt b H (low H H2):=by obtain⟨H2,st,q,n1,o,ka,lw⟩:=Gm (H:=H.top) (o:=1) sFsl hb (v:=v) (ws:=[v]) (by rw[hv]) rfl (by simp) (by simp[h1]);exact⟨H2,st,n1,by rw[lw];show min H.n b<H.n;omega,n1,q,o,Aj ka⟩
mutual theorem parts_len: ∀t:ET,t.parts.length=t.nodes| .node op neg abs den args=>by simp only[ET.parts,ET.nodes,List.length_append,List.length_singleton,Dl args];omega theorem Dl: ∀l:List ET,(Jg l).length=Yi l|[]=>rfl|t::ts=>by simp only[Jg,Yi,List.length_append,parts_len t,Dl ts] end
theorem Ae{args:List ET}{i:Nat}{t:ET}(h:args[i]?=some t):Xq (args.take (i+1))=Xq (args.take i)++[t.fold]:=by rw[Gw,Gw,List.take_add_one,h,List.map_append];rfl
theorem partsAll_take{args:List ET}{i:Nat}{t:ET}(h:args[i]?=some t):Jg (args.take (i+1))=Jg (args.take i)++t.parts:=by rw[List.take_add_one,h,Zq7];simp[Jg]
theorem Bc{args:List ET}{i:Nat}{t:ET}(h:args[i]?=some t):Yi (args.take i)+t.nodes≤Yi args:=by
 have h1:args=args.take (i+1)++args.drop (i+1):=(List.take_append_drop _ _).symm;have h2:args.take (i+1)=args.take i++[t]:=by rw[List.take_add_one,h];rfl
 have:Yi args=Yi (args.take i)+t.nodes+Yi (args.drop (i+1)):=by
  conv=>lhs;rw[h1,h2]
  simp[Ka,Yi,Nat.add_assoc]
 omega
theorem KAt.weak{a b:Nat}{H H':AH}(h:KAt b H H')(hab:a≤b):KAt a H H':=fun H0 k hn=>h H0 k (Nat.le_trans hn hab)
def FoldO(H:AH)(bw m:Nat)(keep:Bool)(L:List FD)(tv:Value)(t:ET):Out→AH→Prop| .ret x,H'=>(keep=true∨t.fold.isUnd=false)∧FoldIs H bw m keep L tv t x H'| .pan v,H'=>keep=false∧t.fold.isUnd=true∧v=undV∧KAt bw H H'
theorem isIfU:isIface Tryz.prog 148=some false:=by kernel_rfl
theorem bUnd:Vs Tryz.prog 148 []=some (.agg #[]):=by kernel_rfl
section
attribute [-simp] Int.natCast_add Int.natCast_mul Int.natCast_ediv Int.natCast_emod Int.natCast_pow
attribute [local simp] strip Ye LW' LR gW Yk Xc Zz Xd Yn Xe Zr Zs Zg Yo Yz Yj Xi Zv Yp Zh Ze Xh Xg Qu Ya Xa opd Qd Yl plain Yg Tr.get_set Qb Zp Xv Yc sameKind undef Zu Yr Yw Zn Yb parts unV DW Xl Zy LX Zx
attribute [local simp] Qc Qo Gb LP' Fp Kr
section
set_option maxHeartbeats 2000000 in theorem fold_walk: ∀n(t:ET),t.nodes≤n→ ∀(H0 H:AH)(vs:List Value)(bw m:Nat)(keep:Bool)(L:List FD)(tv:Value),Ex H0 vs t→t.wide 1048576→t.allGood=true→t.wt≤67108864→De H0 m→Keep H0 H→H0.n≤bw→FoIn H bw m keep L tv→(∀b,Qi tv=some b→bw≤b)→L.length+t.nodes≤500000000→CWO Tryz.prog Zo 75 [.pointer (some ⟨bw,0,none⟩),.agg vs.toArray] H (FoldO H bw m keep L tv t):=by intro n;induction n with
 |zero=>intro t h;have:=Vm t;omega
 |succ n ih=>intro t ht H0 H vs bw m keep L tv hE hw hg hwt hW k0 hb0 hFo htv hL;obtain⟨op,neg,abs,den,args⟩:=t;have hE':=hE;cases hE' with
  |@mk _ _ va vd vx _ _ _ h1 h2 h3=>
   obtain⟨wa,wd,da,dd,ws⟩:=hw;simp only[ET.nodes]at ht hL;simp only[ET.allGood,Bool.and_eq_true]at hg;obtain⟨hgn,hga⟩:=hg;have hwt':Kw args≤67108864:=by simp only[ET.wt]at hwt;omega
   have hbw:=hFo.2.1;obtain⟨len,hln⟩: ∃len,len=args.length:=⟨_,rfl⟩;have hlx:=h3.len;rw[←hln]at hlx;have hlen9:=Fi args;obtain⟨H2,e2,k2,n2,q0,q1⟩:=Qy H [.int .i64 op,.bool neg,va,vd,vx] [.int .i64 0,.bool false,.slice none 0 0,.slice none 0 0];refine CWO_intro 62 (by decide) (by decide) Tryz.func75 rfl rfl ?_;apply Zb;intro b1 hb1;apply Za;simp[Value.cells,Jp,Jt,e2];subst hb1;apply Zb;intro b1 hb1;apply Za;simp;subst hb1;apply Zb;intro b1 hb1;apply Za;simp;subst hb1;apply Zb;intro b1 hb1;apply Zb;intro b2 hb2;apply Za;simp[Ze6,loadX4 q0,hlx];subst hb2;apply Zt;refine Xw (fun n s'=>s'.k=62∧ ∃(i:Nat) (av tv':Value) (css:List (List Value)),n+i=len∧KAt bw H s'.H∧H.n+2≤s'.H.n∧(∀j,j<H.n→j≠bw→Qi tv≠some j→s'.H.blk j=H.blk j)∧FoIn s'.H bw m keep (L++Jg (args.take i)) tv'∧(∀b,Qi tv'=some b→Qi tv=some b∨H.n+2≤b)∧s'.H.blk H.n= .rw 1 [.int .i64 op,.bool neg,va,vd,vx]∧s'.H.blk (H.n+1)= .rw 1 [.int .i64 0,.bool false,.slice none 0 0,.slice none 0 0]∧Lst 4 s'.H av css∧Es s'.H css (Xq (args.take i))∧(∀b,Qi av=some b→H.n+2≤b∧Qi tv'≠some b)∧(keep=true∨(Xq (args.take i)).any FD.isUnd=false)∧s'.tm.get 0=some (.pointer (some ⟨bw,0,none⟩))∧s'.tm.get 3=some (.pointer (some ⟨H.n,0,none⟩))∧s'.tm.get 4=some (.pointer (some ⟨H.n+1,0,none⟩))∧s'.tm.get 5=some av∧s'.tm.get 6=some (.bool ((Xq (args.take i)).any FD.isUnd))∧s'.tm.get 12=some vx∧s'.tm.get 13=some (.int .i64 (len:Int))∧s'.tm.get 14=some (.int .i64 (i:Int))) ?_ len _ ⟨rfl,0,.slice none 0 0,tv,[],by omega,k2.kat bw,by show H.n+2≤H2.n;omega,fun j hj _ _=>k2.blk j hj,by simpa[Jg]using hFo.keep k2,fun b hb=> .inl hb,q0,q1,.nil,by simp[Xq,Es],(fun b hb=>by cases hb),by simp[Xq],by simp,by simp,by simp,by simp,by simp[Xq],by simp,by simp,by simp⟩;rintro n' ⟨k,tm,Hc⟩ ⟨hk,i,av,tv',css,hni,kac,nHc,frc,hFoc,htv',qx,qz,hLa,hFa,hav,hky,u0,u3,u4,u5,u6,u12,u13,u14⟩ Q' hQ';simp only at hk kac nHc frc hFoc qx qz hLa hFa u0 u3 u4 u5 u6 u12 u13 u14;subst hk;obtain⟨a,ha⟩: ∃a,a=(Xq (args.take i)).any FD.isUnd:=⟨_,rfl⟩;rw[←ha]at u6 hky;have kc0:Keep H0 Hc:=kac H0 k0 hb0;have hcl:=hFa.len;have htvb: ∀b,Qi tv'=some b→bw≤b:=fun b hb=>by
    rcases htv' b hb with h|h;·exact htv b h
    ·omega
   apply Zb;intro b3 hb3;apply Za;simp[u13,u14,lssN];subst hb3;apply Zb;intro b3 hb3;by_cases hi:i<len;·refine Zc (t:=true) (by simp[hi]) ?_;apply Zi;subst hb3;obtain⟨ti,hti⟩: ∃ti,args[i]?=some ti:=⟨args[i]'(by omega),List.getElem?_eq_getElem (by omega)⟩;have hnt:=Bc hti;obtain⟨p,us,hadr,hlod,hEt⟩:=h3.at hti;have hld:=hlod Hc kc0;obtain⟨H4,st4,k4,q8,n4⟩:=newX (H:=Hc) hEt.len hEt.ones;have hFo4:=hFoc.keep k4;have hplen:=Dl (args.take i);obtain⟨o,H5,hc5,hp5⟩:=ih ti (by omega) H0 H4 us bw m keep _ tv' hEt (Cw ws hti) (Zc1 hga hti) (by have:=wtAll_get hti;omega) hW (kc0.trans k4) hb0 hFo4 htvb (by rw[List.length_append,hplen];omega);have l8:=Vd q8 hEt.len;apply Zb;intro b3 hb3;apply Zt;apply Zb;intro b4 hb4;apply Za;simp[u12,u14,hadr,hld,Cx,Value.cells,st4];subst hb4;apply Zb;intro b4 hb4;cases o with
    |pan v=>obtain⟨hk0,hund,rfl,ka5⟩:=hp5;have c5:=callI_no hc5;have p5:=Zh0 hc5;apply W_rpan;simp[u0,l8,c5,p5,Xo,Xn];apply hQ';simp[Dc,Xo,Xn];refine⟨hk0,?_,rfl,(kac.trans (k4.kat bw)).trans ka5⟩;have:(Xq args).any FD.isUnd=true:=List.any_eq_true.mpr ⟨ti.fold,by rw[Gw];exact List.mem_map.mpr ⟨ti,List.mem_of_getElem? hti,rfl⟩,hund⟩;simp only[ET.fold];rw[if_pos this];rfl
    |ret x=>
     obtain⟨hkd,fvs,tv5,rfl,hfv,hFo5,htv5,n5,ka5,fr5⟩:=hp5;have c5:=callOI_ret hc5;have f45:=fold_fr hFo4 hFo5.1 (by obtain⟨_,_,_,h,_⟩:=hFo5;exact h.shape) n5 fr5;obtain⟨H6,st6,k6,q9,n6⟩:=newFv (H:=H5) hfv.len hfv.ones;apply Za;simp[u0,l8,c5,Jp,Value.cells,st6];subst hb4;have hfv6:=hfv.fr k6.fr;obtain⟨p1,p2,p3,rfl,htr⟩:=hfv.trio;have hones:=hfv.ones;refine Qs (fun s'=>s'.k=62∧s'.H=H6∧s'.tm.get 0=some (.pointer (some ⟨bw,0,none⟩))∧s'.tm.get 3=some (.pointer (some ⟨H.n,0,none⟩))∧s'.tm.get 4=some (.pointer (some ⟨H.n+1,0,none⟩))∧s'.tm.get 5=some av∧s'.tm.get 6=some (.bool (a||ti.fold.isUnd))∧s'.tm.get 9=some (.pointer (some ⟨H5.n,0,none⟩))∧s'.tm.get 12=some vx∧s'.tm.get 13=some (.int .i64 (len:Int))∧s'.tm.get 14=some (.int .i64 (i:Int))) ?_ ?_;·intro Q'' hQ'';cases a with|true=>apply Za;simp[u6];apply hQ'';exact⟨rfl,rfl,by simp[u0],by simp[u3],by simp[u4],by simp[u5],by simp,by simp,by simp[u12],by simp[u13],by simp[u14]⟩|false=>apply Za;simp[u6,faF0,Gq q9,kindUnd];apply hQ'';exact⟨rfl,rfl,by simp[u0],by simp[u3],by simp[u4],by simp[u5],by simp,by simp,by simp[u12],by simp[u13],by simp[u14]⟩
     clear u0 u3 u4 u5 u6 u12 u13 u14;rintro⟨k,tm2,Hx⟩ ⟨hk,hHx,u0,u3,u4,u5,u6,u9,u12,u13,u14⟩;simp only at hk hHx u0 u3 u4 u5 u6 u9 u12 u13 u14;subst hk;subst hHx;have hLa6:Lst 4 Hx av css:=by have h4:=hLa.keep k4;have h5:Lst 4 H5 av css:=h4.frame n5 fun b hb=>fr5 b (h4.blk_lt hb).1 (by have:=(hav b hb).1;omega) (hav b hb).2;exact h5.keep k6
     have hFa6:=((hFa.fr k4.fr).fr f45).fr k6.fr;obtain⟨G,hG⟩: ∃G,G=Hx.new 4 [.int .i64 ti.fold.kind,p1,p2,p3]:=⟨_,rfl⟩;have kG:Keep Hx G:=by rw[hG];exact Keep.new _ _ _
     have nG:G.n=Hx.n+1:=by rw[hG];rfl
     have bG:G.blk Hx.n= .rw 4 [.int .i64 ti.fold.kind,p1,p2,p3]:=by rw[hG,AH.blk_new,if_pos rfl]
     have hbs:=buildF1 Hx (.int .i64 ti.fold.kind) p1 p2 p3;rw[←hG]at hbs;have hfl:(Xq (args.take i)).length=i:=by rw[Gw,List.length_map,List.length_take];omega
     obtain⟨H7,hap,n7,oth7,hL7,hk0,hk1⟩:=(hLa6.keep kG).append (by decide) bG rfl hones sFs (by decide) Jp rfl (by omega);have ka7:KAt bw G H7:=by cases hvl:Qi av with|none=>exact(hk0 hvl).1.kat bw|some b=>exact(hk1 b hvl).1.weak (by have:=(hav b hvl).1;omega)
     have nn:Hc.n≤H4.n:=k4.n;have nn6:=k6.n;have f7:Fr G H7:=⟨by omega,fun j hj=>by
      by_cases e:Qi av=some j;·exact .inr (.inl ⟨4,_,((hLa6.keep kG).blk_lt e).2,by decide⟩)
      ·exact .inl (oth7 j hj e)⟩;have hFo7:FoIn H7 bw m keep (L++Jg (args.take i)++ti.parts) tv5:=by have hG5:=(hFo5.keep k6).keep kG;obtain⟨g1,g2,css5,g3,g4⟩:=hG5;refine⟨(oth7 bw g2 (fun e=>by have:=(hav bw e).1;omega)).trans g1,by omega,css5,g3.frame (by omega) fun b hb=>oth7 b (g3.blk_lt hb).1 (fun e=>?_),g4.fr f7⟩;have h1:=htv5 b hb;have h2:=(hLa.blk_lt e).1;omega
     have hb7: ∀j,j<H4.n→j≠bw→Qi tv'≠some j→Qi av≠some j→H7.blk j=Hc.blk j∨Hc.n≤j:=fun j hj h1 h2 h3=>by
      rcases Nat.lt_or_ge j Hc.n with h|h;·refine .inl ?_;rw[oth7 j (by omega) h3,kG.blk j (by omega),k6.blk j (by omega),fr5 j hj h1 h2,k4.blk j h]
      ·exact .inr h
     have old: ∀j,j<H.n+2→j≠bw→Qi tv≠some j→H7.blk j=Hc.blk j:=fun j hj h1 h2=>by
      rcases hb7 j (by omega) h1 (fun e=>by
       rcases htv' j e with h|h;·exact h2 h
       ·omega) (fun e=>by have:=(hav j e).1;omega)with h|h;·exact h
      ·omega
     have htn: ∀j,H.n≤j→Qi tv≠some j:=fun j hj e=>by obtain⟨_,_,c0,hc0,_⟩:=hFo;have:=(hc0.blk_lt e).1;omega
     apply Za;simp[u5,u9,Bl q9,hbs,hap];simp[Xn];subst hb3;apply Za;simp[u14,Bg (x:=i) (by omega)];apply hQ';refine⟨n'-1,by omega,rfl,i+1,.slice (some ⟨G.n,0,none⟩) (css.length+1) (css.length+1),tv5,css++[[.int .i64 ti.fold.kind,p1,p2,p3]],by omega,(((((kac.trans (k4.kat bw)).trans ka5).trans (k6.kat bw)).trans (kG.kat bw)).trans ka7),by show H.n+2≤H7.n;omega,fun j hj h1 h2=>(old j (by omega) h1 h2).trans (frc j hj h1 h2),?_,fun b hb=> .inr (by have:=htv5 b hb;omega),(old _ (by omega) (by omega) (htn _ (by omega))).trans qx,(old _ (by omega) (by omega) (htn _ (by omega))).trans qz,hL7,?_,(fun b hb=>?_),?_,by simp[u0],by simp[u3],by simp[u4],by simp,?_,by simp[u12],by simp[u13],by simp⟩;·rw[partsAll_take hti,←List.append_assoc];exact hFo7
     ·rw[Ae hti];exact Es.append ((hfv6.fr kG.fr).fr f7) ((hFa6.fr kG.fr).fr f7)
     ·cases hb;refine⟨by omega,fun e=>?_⟩;obtain⟨_,_,c0,hc0,_⟩:=hFo5;have:=(hc0.blk_lt e).1;omega
     ·rcases hkd with h|h;·exact .inl h
      ·rcases hky with h'|h';·exact .inl h'
       ·right;rw[Ae hti,List.any_append,←ha,h'];simp[h]
     ·rw[Ae hti,List.any_append,←ha];simp[u6]
   ·refine Zc (t:=false) (by simp[hi]) ?_;apply Xy;apply hQ';left;refine⟨rfl,?_⟩;clear hQ';obtain rfl:i=len:=by omega
    have htk:args.take i=args:=List.take_of_length_le (by omega);rw[htk]at hFoc hFa ha;subst hb1;obtain⟨H4,st4,k4,q10,n4⟩:=Kz (H:=Hc) (k:= .int .i64 2) (p:= .bool false) (q:= .slice none 0 0) (r:= .slice none 0 0) rfl;have hfold:(ET.node op neg abs den args).fold=if a=true then .und else Qv op neg (dv B64 abs) (dv B64 den) (Xq args):=by simp only[ET.fold];rw[←ha]
    obtain⟨T,hT⟩: ∃T,T=(ET.node op neg abs den args).fold:=⟨_,rfl⟩;rw[←hT]at hfold;have qx4:=(k4.blk _ (by omega)).trans qx;apply Zb;intro b1 hb1;apply Za;simp[Et,Jp,Value.cells,st4];subst hb1;refine Qs (fun s'=>s'.k=62∧Keep Hc s'.H∧Hc.n<s'.H.n∧(∃cs,s'.H.blk Hc.n= .rw 1 cs∧FIn s'.H cs T)∧s'.tm.get 0=some (.pointer (some ⟨bw,0,none⟩))∧s'.tm.get 4=some (.pointer (some ⟨H.n+1,0,none⟩))∧s'.tm.get 10=some (.pointer (some ⟨Hc.n,0,none⟩))) ?_ ?_;·intro Q'' hQ'';apply Zb;intro b2 hb2;apply Za;simp[u6];subst hb2;cases a with|true=>refine Zc (t:=false) (by simp) ?_;apply Zi;apply hQ'';rw[if_pos rfl]at hfold;exact⟨rfl,k4,by show Hc.n<H4.n;omega,⟨_,q10,by rw[hfold];rfl⟩,by simp[u0],by simp[u4],by simp⟩|false=>rw[if_neg (by decide)]at hfold;have hFo4:=hFoc.keep k4;have k04:=kc0.trans k4;have hokf:=Zk5;obtain⟨x,H5,c5,k5,cs5,rfl,hf5⟩:=top_ok (vx:=vx) (h1.keep k04) (h2.keep k04) da dd wa wd hgn (hLa.keep k4) (hFa.fr k4.fr) (by rw[Gw,List.length_map]) ha.symm (fun g hgm=>by rw[Gw]at hgm;obtain⟨t',ht',rfl⟩:=List.mem_map.mp hgm;obtain⟨j,hj⟩:=List.mem_iff_getElem?.mp ht';exact(Zk5 _ t' (Nat.le_refl _) (Zc1 hga hj) (Cw ws hj)).1) (Nat.le_trans (foldAll_w hga ws) hwt') (fun e=>by have b1:=Zj3 da;have b2:=Zj3 dd;simp only[ET.wt,if_pos e]at hwt;omega) hFo4.1 hFo4.2.1 (hW.keep k04);rw[←hfold]at hf5;have q10':=(k5.blk _ (by omega)).trans q10;obtain⟨H6,st6,n6,q10',b6,ka6,hf6⟩:=Ue q10' rfl hf5;have hlX:=Vd (vs:=[.int .i64 op,.bool neg,va,vd,vx]) qx4 rfl;have n5:=k5.n;have k6:Keep Hc H6:=ka6 Hc (k4.trans k5) (Nat.le_refl _);refine Zc (t:=true) (by simp) ?_;apply Za;simp[u0,u3,u5,hlX,c5,st6];apply hQ'';exact⟨rfl,k6,by show Hc.n<H6.n;omega,⟨_,q10',hf6⟩,by simp[u0],by simp[u4],by simp⟩
    clear u0 u3 u4 u5 u6 u12 u13 u14;rintro⟨k,tm2,Hd⟩ ⟨hk,kcd,nHd,⟨cs,q10,hfc⟩,u0,u4,u10⟩;simp only at hk kcd nHd q10 hfc u0 u4 u10;subst hk;have hFod:=hFoc.keep kcd;have qzd:=(kcd.blk _ (by omega)).trans qz;have hu2:=hfc.ones;obtain⟨c1,c2,c3,rfl,htr⟩:=hfc.trio;have kad:KAt bw H Hd:=kac.trans (kcd.kat bw);by_cases hpn:keep=false∧T.isUnd=true;·obtain⟨hk0,hund⟩:=hpn;subst hk0;apply Zb;intro b1 hb1;apply Zb;intro b2 hb2;apply Za;simp[u10,faF0,Gq q10,kindUnd,hund,u0,faFo2,loadFo2 hFod.1];subst hb2;refine Zc (t:=true) (by simp) ?_;apply W_rpan;simp[bUnd,isIfU,Xo];exact⟨rfl,by rw[←hT];exact hund,rfl,kad⟩
    ·refine Qs (fun s'=>s'.k=62∧s'.H=Hd∧s'.tm.get 0=some (.pointer (some ⟨bw,0,none⟩))∧s'.tm.get 4=some (.pointer (some ⟨H.n+1,0,none⟩))∧s'.tm.get 10=some (.pointer (some ⟨Hc.n,0,none⟩))) ?_ ?_;·intro Q'' hQ'';apply Zb;intro b2 hb2;cases hund:T.isUnd with
      |false=>apply Za;simp[u10,faF0,Gq q10,kindUnd,hund];subst hb2;refine Zc (t:=false) (by simp) ?_;apply Zi;apply hQ'';exact⟨rfl,rfl,by simp[u0],by simp[u4],by simp[u10]⟩
      |true=>
       have hk1:keep=true:=by cases keep with|true=>rfl|false=>exact absurd ⟨rfl,hund⟩ hpn
       subst hk1;apply Za;simp[u10,faF0,Gq q10,kindUnd,hund,u0,faFo2,loadFo2 hFod.1];subst hb2;refine Zc (t:=false) (by simp) ?_;apply Zi;apply hQ'';exact⟨rfl,rfl,by simp[u0],by simp[u4],by simp[u10]⟩
     clear u0 u4 u10;rintro⟨k,tm3,Hx⟩ ⟨hk,hHx,u0,u4,u10⟩;simp only at hk hHx u0 u4 u10;subst hk;subst hHx;have hkeep:keep=true∨T.isUnd=false:=by cases keep with
      |true=>exact .inl rfl
      |false=>cases hund:T.isUnd with|false=>exact .inr rfl|true=>exact absurd ⟨rfl,hund⟩ hpn
     obtain⟨css0,hLt,hFt⟩:=hFod.2.2;have hlt:=hFt.len;have hplen:=Dl args;rw[List.length_append,hplen]at hlt;obtain⟨Gc,hGc⟩: ∃Gc,Gc=grown Hx (Hx.top.new 4 [.int .i64 T.kind,c1,c2,c3]):=⟨_,rfl⟩;have kGc:Keep Hx Gc:=by rw[hGc];exact Zw (.refl _) (Keep.new _ _ _)
     have nGc:Gc.n=Hx.n+1:=by rw[hGc];rfl
     have bGc:Gc.blk Hx.n= .rw 4 [.int .i64 T.kind,c1,c2,c3]:=by rw[hGc,(Yh (Keep.new Hx.top 4 _)).blk Hx.n (Nat.lt_succ_self _) (fun e=>by cases e),AH.blk_new,if_pos (show Hx.n=Hx.top.n from rfl)]
     have hbs:=buildF1 Hx.top (.int .i64 T.kind) c1 c2 c3;obtain⟨He,hap,ne,othe,hLe,hk0,hk1⟩:=((hLt.keep kGc).keep (Ce Gc)).append (by decide) (show Gc.top.blk Hx.n=_ from bGc) rfl hu2 sFs (by decide) Jp rfl (by omega);have ne:He.n=Gc.n+1:=ne;have hLe:Lst 4 He (.slice (some ⟨Gc.n,0,none⟩) (css0.length+1) (css0.length+1)) (css0++[[.int .i64 T.kind,c1,c2,c3]]):=hLe;have hap:Ve Tryz.prog Gc.top 83 83 tv' (.slice (some ⟨Hx.n,0,none⟩) 1 1)=some (.slice (some ⟨Gc.n,0,none⟩) (css0.length+1) (css0.length+1),He):=hap;have htvn: ∀b,Qi tv'=some b→b<Hx.n:=fun b hb=>(hLt.blk_lt hb).1;have fin: ∀G3:AH,But none He G3→KAt bw Gc G3→ ∃Hs,Xt Tryz.prog G3.top 83 (.pointer (some ⟨bw,1,none⟩)) (.slice (some ⟨Gc.n,0,none⟩) (css0.length+1) (css0.length+1))=some Hs∧G3.n≤Hs.n∧Hs.lw<G3.n∧ ∀G4,G4=low G3 Hs→G4.n=He.n∧FoIn G4 bw m keep (L++Jg args++[T]) (.slice (some ⟨Gc.n,0,none⟩) (css0.length+1) (css0.length+1))∧KAt bw Hx G4∧(∀j,j<Hx.n→j≠bw→Qi tv'≠some j→G4.blk j=Hx.blk j)∧Fr Hx G4:=fun G3 bt kag=>by
      have hbw3:G3.blk bw= .rw 1 [.map (some m),tv',.bool keep]:=by have hb1:=hFod.2.1;rw[bt.blk bw (by omega) (fun e=>by cases e),othe bw (by show bw<Gc.n;omega) (fun e=>by have h:=(hLt.blk_lt e).2;rw[hFod.1]at h;cases h)];exact(kGc.blk _ hb1).trans hFod.1
      have hb3:bw<G3.n:=by rw[bt.n];have:=hFod.2.1;omega
      obtain⟨Hs,ss,sn,slw,fn,fb,fo,fk⟩:=putFo1 (v:= .slice (some ⟨Gc.n,0,none⟩) (css0.length+1) (css0.length+1)) hbw3 hb3 rfl rfl;refine⟨Hs,ss,by omega,slw,fun G4 hG4=>?_⟩;rw[←hG4]at fn fb fo fk;have n4:G4.n=He.n:=by rw[fn,bt.n]
      have hfrm: ∀j,j<Hx.n→j≠bw→Qi tv'≠some j→G4.blk j=Hx.blk j:=fun j hj h1 h2=>by rw[fo j h1,bt.blk j (by omega) (fun e=>by cases e),othe j (by show j<Gc.n;omega) h2];exact kGc.blk j hj
      have fr:Fr Hx G4:=fold_fr hFod fb ⟨_,_,_,rfl⟩ (by omega) hfrm;refine⟨n4,⟨fb,by have:=hFod.2.1;omega,_,hLe.frame (by omega) fun b hb=>?_,?_⟩,((kGc.kat bw).trans kag).trans fk,hfrm,fr⟩;·cases hb;have:=hFod.2.1;rw[fo Gc.n (by omega),bt.blk Gc.n (by omega) (fun e=>by cases e)]
      ·exact Es.append (hfc.fr fr) (hFt.fr fr)
     refine Qs (fun s'=>s'.k=62∧s'.H.n=He.n∧FoIn s'.H bw m keep (L++Jg args++[T]) (.slice (some ⟨Gc.n,0,none⟩) (css0.length+1) (css0.length+1))∧KAt bw Hx s'.H∧(∀j,j<Hx.n→j≠bw→Qi tv'≠some j→s'.H.blk j=Hx.blk j)∧Fr Hx s'.H∧s'.tm.get 4=some (.pointer (some ⟨H.n+1,0,none⟩))∧s'.tm.get 10=some (.pointer (some ⟨Hc.n,0,none⟩))) ?_ ?_
     ·intro Q'' hQ'';apply Qm (by kernel_rfl);simp[u0,faFo1];refine Yd (v:=tv') rfl rfl rfl (by rw[Zk rfl];simp[loadFo1 (H:=AH.top Hx) hFod.1]) ?_;simp[u10];refine Yd (v:= .agg #[.int .i64 T.kind,c1,c2,c3]) rfl rfl rfl (by rw[Zk rfl];simp[u10,Bl (H:=AH.top Hx) q10]) ?_;simp;refine Yv (v:= .slice (some ⟨Hx.n,0,none⟩) 1 1) (H2:=Hx.top.new 4 [.int .i64 T.kind,c1,c2,c3]) rfl rfl rfl ?_ (Nat.le_succ _) (Nat.le_refl _) ?_;·rw[Zk rfl];simp[hbs];rfl
      rw[←hGc];have hbt:Nat.blt Hx.n (Hx.top.new 4 [.int .i64 T.kind,c1,c2,c3]).n=true:=by rw[Nat.blt_eq];exact Nat.lt_succ_self _
      rw[hbt,cond_true];have hid: ∀bits:Nat,bits.testBit 6=true→ ∀x∈[((6:Nat),Hx.n,(Hx.top.new 4 [.int .i64 T.kind,c1,c2,c3]).n)],bits.testBit x.1=true:=fun bits b6 x hx=>by rw[List.mem_singleton.mp hx];exact b6
      simp;cases hxb:Qi tv' with
       |none=>
        refine Yv (v:= .slice (some ⟨Gc.n,0,none⟩) (css0.length+1) (css0.length+1)) (H2:=He) rfl rfl rfl ?_ (by omega) (by rw[(hk0 hxb).2];exact Nat.le_refl _) ?_;·rw[Zk (Xb (hid _ (by kernel_rfl)))];simp[hap]
        have bt:But none He (grown Gc He):=Yh (hk0 hxb).1;have kag:KAt bw Gc (grown Gc He):=(Zw (.refl _) (hk0 hxb).1).kat bw;obtain⟨Hs,ss,sn,slw,hfin⟩:=fin _ bt kag;obtain⟨f1,f2,f3,f4,f5⟩:=hfin _ rfl;have hbt2:Nat.blt Gc.n He.n=true:=by rw[Nat.blt_eq];omega
        rw[hbt2,cond_true];simp[u0,faFo1];refine Xk (v:= .tuple #[]) (H2:=Hs) rfl rfl (by kernel_rfl) (Xb fun x hx=>?_) ?_ sn slw ?_
        ·rcases List.mem_cons.mp hx with e|e;·rw[e];kernel_rfl
         ·exact hid _ (by kernel_rfl) x e
        ·show Yk _ _ _ _ (grown Gc He).top _=_;simp[ss]
        simp;apply hQ'';exact⟨rfl,f1,f2,f3,f4,f5,by simp[u4],by simp[u10]⟩
       |some b=>
        have hb1:=hk1 b hxb;refine Xk (v:= .slice (some ⟨Gc.n,0,none⟩) (css0.length+1) (css0.length+1)) (H2:=He) rfl rfl (by kernel_rfl) (Xb (hid _ (by kernel_rfl))) ?_ (by omega) (by have h2:b<Gc.n:=hb1.2.2;have h3:=hb1.2.1;omega) ?_;·show Yk _ _ _ _ Gc.top _=_;simp[hap]
        have bt:But none He (low Gc He):=low_but Gc He;have kag:KAt bw Gc (low Gc He):=Aj (hb1.1.weak (htvb b hxb));obtain⟨Hs,ss,sn,slw,hfin⟩:=fin _ bt kag;obtain⟨f1,f2,f3,f4,f5⟩:=hfin ({ n:=Hs.n,lw:=min Gc.lw (min He.lw Hs.lw),t:=Hs.t } :AH) (by simp[low,Nat.min_assoc]);have hbt2:Nat.blt Gc.n He.n=true:=by rw[Nat.blt_eq];omega
        rw[hbt2,cond_true];simp[u0,faFo1];refine Xk (v:= .tuple #[]) (H2:=Hs) rfl rfl (by kernel_rfl) (Xb fun x hx=>?_) ?_ sn slw ?_
        ·rcases List.mem_cons.mp hx with e|e;·rw[e];kernel_rfl
         ·exact hid _ (by kernel_rfl) x e
        ·show Yk _ _ _ _ (low Gc He).top _=_;simp[ss]
        simp;apply hQ'';exact⟨rfl,f1,f2,f3,f4,f5,by simp[u4],by simp[u10]⟩
     clear u0 u4 u10;rintro⟨k,tm4,Hf⟩ ⟨hk,nHf,hFof,kaf,frf,f5,u4,u10⟩;simp only at hk nHf hFof kaf frf f5 u4 u10;subst hk;have htn: ∀j,H.n≤j→j<H.n+2→Qi tv'≠some j:=fun j hj hj2 e=>by
      rcases htv' j e with h|h;·obtain⟨_,_,c0,hc0,_⟩:=hFo;have:=(hc0.blk_lt h).1;omega
      ·omega
     have ntc:Qi tv'≠some Hc.n:=fun e=>by obtain⟨_,_,c0,hc0,_⟩:=hFoc;have:=(hc0.blk_lt e).1;omega
     have q10f:=(frf _ nHd (by omega) ntc).trans q10;have qzf:=(frf _ (by omega) (by omega) (htn _ (by omega) (by omega))).trans qzd;have hfcf:=hfc.fr f5;obtain⟨H9,st9,n9,q9,b9,ka9,hf9⟩:=Ue qzf rfl hfcf;have fr9:=Fr.put qzf q9 n9 b9 rfl rfl hfcf.noU;have hFo9:FoIn H9 bw m keep (L++Jg args++[T]) (.slice (some ⟨Gc.n,0,none⟩) (css0.length+1) (css0.length+1)):=hFof.off (b:=H.n+1) (by omega) (fun e=>by injection e with e;omega) n9 b9 fr9;have hl9:=Je q9 rfl;try simp at st9 hl9
     apply Zb;intro b1 hb1;apply Za;simp[u10,u4,Bl q10f,st9];subst hb1;apply Zm;simp[u4,hl9];refine⟨by rw[←hT];exact hkeep,[.int .i64 T.kind,c1,c2,c3],.slice (some ⟨Gc.n,0,none⟩) (css0.length+1) (css0.length+1),rfl,by rw[←hT];exact hf9,?_,fun b hb=>?_,by omega,(kad.trans kaf).trans (ka9.weak (by omega)),fun j hj h1 h2=>?_⟩;·rw[parts_node,←hT,←List.append_assoc];exact hFo9
     ·cases hb;omega
     ·rw[b9 _ (by omega),frf _ (by omega) h1 (fun e=>by
      rcases htv' j e with h|h;·exact h2 h
      ·omega),kcd.blk _ (by omega)];exact frc j hj h1 h2
end
end
theorem neqNil:Xv Tryz.prog .neq 20 .nilIface .nilIface=some (.bool false):=by kernel_rfl
theorem neqUndV:Xv Tryz.prog .neq 20 undV .nilIface=some (.bool true):=by kernel_rfl
theorem asUnd:Zj1 Tryz.prog undV 148 true=some (.tuple #[.agg #[],.bool true]):=by kernel_rfl
theorem zUnd:Us Tryz.prog 148=some (.agg #[]):=by kernel_rfl
theorem sUnd:Qq Tryz.prog 148=some 0:=by kernel_rfl
theorem newUnd(H:AH): ∃H',Xt Tryz.prog (H.new 1 []) 148 (.pointer (some ⟨H.n,0,none⟩)) (.agg #[])=some H'∧Keep H H'∧H'.blk H.n= .rw 1 []∧H'.n=H.n+1:=Qz sUnd rfl rfl rfl rfl
theorem bFolder(m:Nat):Vs Tryz.prog 132 [(0,.map (some m))]=some (.agg #[.map (some m),.slice none 0 0,.bool false]):=by rfl
theorem plainUnd:plain undV=true:=rfl
structure TreeOk (H : AH) (vs : List Value) (t : ET) : Prop where
  tin : TreeIn H vs t
  good : t.allGood = true
  wt : t.wt ≤ 67108864
theorem TreeOk.keep{H H':AH}{vs:List Value}{t:ET}(h:TreeOk H vs t)(k:Keep H H'):TreeOk H' vs t:=⟨h.tin.keep k,h.good,h.wt⟩
section
attribute [-simp] Int.natCast_add Int.natCast_mul Int.natCast_ediv Int.natCast_emod Int.natCast_pow
attribute [local simp] strip Ye LW' LR gW Yk Xc Zz Xd Yn Xe Zr Zs Zg Yo Yz Yj Xi Zv Yp Zh Ze Xh Xg Qu Ya Xa opd Qd Yl plain Yg Tr.get_set Qb Zp Xv Yc sameKind undef Zu Yr Yw Zn Yb parts unV DW Xl Zy LX Zx
attribute [local simp] Qc Qo Gb LP' Fp Kr Am
section
variable {H : AH} {vs : List Value} {t : ET}
theorem folded1_nil{b:Nat}{K:AH→Prop}(hK:K H):CWD Tryz.prog Zo 95 [.pointer (some ⟨b,0,none⟩)] .nilIface H K:=by refine Vk 16 Tryz.func95 rfl rfl ?_;refine WS_seq (by kernel_rfl) ?_;apply Vl (by kernel_rfl);apply Za;simp[Vr,isRec];apply Zb;intro b1 hb1;apply Za;simp[-Xv,neqNil];subst hb1;refine Zc (t:=false) (by simp) ?_;apply Zi;simp;exact hK
theorem folded1_und{b:Nat}{k' p' q' r':Value}{K:AH→Prop}(hb:H.blk b= .rw 1 [k',p',q',r'])(hn:b<H.n)(hK: ∀H',KAt b H H'→H.n≤H'.n→H'.blk b= .rw 1 [.int .i64 2,.bool false,.slice none 0 0,.slice none 0 0]→K H'):CWD Tryz.prog Zo 95 [.pointer (some ⟨b,0,none⟩)] undV H K:=by obtain⟨H2,st2,k2,q2,n2⟩:=newUnd H;have hb2:=(k2.blk _ hn).trans hb;obtain⟨H3,st3,n3,q3,b3,ka3⟩:=putF (k:=2) hb2 (p:= .bool false) (q:= .slice none 0 0) (r:= .slice none 0 0) ⟨⟨_,rfl⟩,⟨_,_,_,rfl⟩,⟨_,_,_,rfl⟩⟩;refine Vk 16 Tryz.func95 rfl rfl ?_;refine WS_seq (by kernel_rfl) ?_;apply Vl (by kernel_rfl);apply Za;simp[Vr,isRec,plainUnd,-plain];apply Zb;intro b1 hb1;apply Za;simp[-Xv,neqUndV];subst hb1;refine Zc (t:=true) (by simp) ?_;apply Zb;intro b1 hb1;apply Zb;intro b2 hb2;apply Za;simp[asUnd,zUnd,Value.cells,st2];subst hb2;apply Zb;intro b2 hb2;apply Za;simp;subst hb2;refine Zc (t:=false) (by simp) ?_;apply Zi;subst hb1;apply Za;simp[Et,st3];exact hK H3 ((k2.kat b).trans ka3) (by omega) q3
theorem folded_call(h:TreeOk H vs t): ∃us H',Zq Tryz.prog Zo 67 [.agg vs.toArray] H=some (.agg us.toArray,H')∧Keep H H'∧FIn H' us t.fold:=by
 suffices hs:CW Tryz.prog Zo 67 [.agg vs.toArray] H fun x H'=> ∃us:List Value,x= .agg us.toArray∧Keep H H'∧FIn H' us t.fold by obtain⟨x,H',hc,us,rfl,k⟩:=hs;exact⟨us,H',hc,k⟩
 have hl:=h.tin.ex.len;obtain⟨H2,e2,k2,n2,q0,q1⟩:=Qy H vs [.int .i64 0,.bool false,.slice none 0 0,.slice none 0 0];obtain⟨m,H3,c3,k3,hW⟩:=works_call H2;obtain⟨H4,hH4⟩: ∃H4,H4=H3.new 1 [.map (some m),.slice none 0 0,.bool false]:=⟨_,rfl⟩;have k4:Keep H3 H4:=by rw[hH4];exact Keep.new _ _ _
 have n4:H4.n=H3.n+1:=by rw[hH4];rfl
 have q4:H4.blk H3.n= .rw 1 [.map (some m),.slice none 0 0,.bool false]:=by rw[hH4,AH.blk_new,if_pos rfl]
 have n3:=k3.n;have q0':=(k4.blk _ (by omega)).trans ((k3.blk _ (by omega)).trans q0);have q1':=(k4.blk _ (by omega)).trans ((k3.blk _ (by omega)).trans q1);have hX:=Vd q0' hl;obtain⟨o,H5,hc5,hp5⟩:=fold_walk _ t (Nat.le_refl _) H3 H4 vs H3.n m false [] (.slice none 0 0) ((h.tin.ex.keep k2).keep k3) h.tin.wide h.good h.wt hW k4 (Nat.le_refl _) ⟨q4,by omega,[],.nil,trivial⟩ (fun b hb=>by cases hb) (by have:=h.tin.nodes;simp;omega);have kk:=k2.trans k3;refine Vu 11 (by decide) (by decide) Tryz.func67 rfl rfl rfl ?_;intro b1 hb1;apply Za;simp[Value.cells,Jp,Jt,e2];refine⟨_,_,⟨rfl,rfl⟩,?_⟩;subst hb1;apply Zb;intro b1 hb1;apply Za;simp[c3,bFolder,Value.cells,←hH4];subst hb1;cases o with
  |ret x=>obtain⟨_,us,tv',rfl,hf5,hFo5,_,n5,ka5,fr5⟩:=hp5;have c5:=callOI_ret hc5;have q1'':=(fr5 _ (by omega) (by omega) (by simp[Qi])).trans q1';obtain⟨H6,st6,n6,q6,b6,ka6,hf6⟩:=Ue q1'' rfl hf5;have k6:Keep H H6:=ka6 H (ka5 H (kk.trans k4) (by have:=kk.n;omega)) (by omega);have hld:=Je q6 hf6.len;apply Zb;intro b1 hb1;apply Za;simp[hX,c5,st6];subst hb1;apply Zm;simp[Kk];refine folded1_nil ?_;simp[hld];exact⟨k6,hf6⟩
  |pan v=>
   obtain⟨_,hund,rfl,ka5⟩:=hp5;have c5:=callI_no hc5;have p5:=Zh0 hc5;have hres:t.fold= .und:=by cases hf:t.fold with|und=>rfl|opn=>rw[hf]at hund;cases hund|rat _ _ _=>rw[hf]at hund;cases hund
   rw[hres];have k5:Keep H3 H5:=ka5 H3 k4 (Nat.le_refl _);have q1'':=(k5.blk _ (by omega)).trans ((k3.blk _ (by omega)).trans q1);apply Zb;intro b1 hb1;apply W_rpan;simp[hX,c5,p5,Xo,Kk,plainUnd,-plain];refine⟨undV,by rfl,?_⟩;have n5:=k5.n;refine folded1_und q1'' (by omega) fun H6 ka6 n6 q6=>?_;simp[Bl q6];first|exact⟨ka6 H (kk.trans k5) (by omega),rfl⟩|exact⟨_,rfl,ka6 H (kk.trans k5) (by omega),rfl⟩
theorem Eh(h:TreeOk H vs t)(hc:Vt t=0): ∃us H',Zq Tryz.prog Zo 27 [.agg vs.toArray] H=some (.tuple #[.agg us.toArray,.int .i64 0],H')∧Keep H H'∧FIn H' us t.fold:=by
 suffices hs:CW Tryz.prog Zo 27 [.agg vs.toArray] H fun x H'=> ∃us:List Value,x= .tuple #[.agg us.toArray,.int .i64 0]∧Keep H H'∧FIn H' us t.fold by obtain⟨x,H',hc,us,rfl,k⟩:=hs;exact⟨us,H',hc,k⟩
 have hl:=h.tin.ex.len;obtain⟨H2,e2,k2,n2,q0,q1⟩:=Qy H vs [.int .i64 0,.bool false,.slice none 0 0,.slice none 0 0];have K:=k2;have z0:=q0;obtain⟨H3,c3,k3⟩:=Dx (h.tin.keep K);have n3:=k3.n;have K:=K.trans k3;replace q0:=(k3.blk _ (by omega)).trans q0;replace q1:=(k3.blk _ (by omega)).trans q1;rw[hc]at c3;replace c3:Zq Tryz.prog Zo 28 [.agg vs.toArray] H2=some (.int .i64 0,H3):=c3;have z1:=q0;obtain⟨us,H4,c4,k4,hf⟩:=folded_call (h.keep K);have n4:=k4.n;have K:=K.trans k4;replace q0:=(k4.blk _ (by omega)).trans q0;replace q1:=(k4.blk _ (by omega)).trans q1;obtain⟨H5,st5,n5,q5,b5,ka5,hf5⟩:=Ue q1 rfl hf;have K:=ka5 _ K (by omega);have hld:=Je q5 hf5.len;refine Zj 13 (by decide) (by decide) Tryz.func27 rfl rfl ?_;apply Zb;intro b1 hb1;apply Za;simp[Value.cells,Jp,Jt,e2];subst hb1;apply Zb;intro b1 hb1;apply Zb;intro b2 hb2;apply Za;simp[Vd z0 hl,c3];subst hb2;apply Zb;intro b2 hb2;apply Za;simp[En];subst hb2;refine Zc (t:=false) (by simp) ?_;apply Zi;subst hb1;apply Zb;intro b1 hb1;apply Za;simp[Vd z1 hl,c4,st5];subst hb1;apply Zm;simp[hld];exact⟨K,hf5⟩
theorem exFold_bad(h:TreeIn H vs t)(hc:Vt t≠0): ∃H',Zq Tryz.prog Zo 27 [.agg vs.toArray] H=some (.tuple #[.agg #[.int .i64 0,.bool false,.slice none 0 0,.slice none 0 0],.int .i64 (Vt t:Int)],H')∧Keep H H':=by
 obtain⟨C,hC⟩: ∃C,C=Vt t:=⟨_,rfl⟩;rw[←hC]at hc⊢;suffices hs:CW Tryz.prog Zo 27 [.agg vs.toArray] H fun x H'=>x= .tuple #[.agg #[.int .i64 0,.bool false,.slice none 0 0,.slice none 0 0],.int .i64 (C:Int)]∧Keep H H' by obtain⟨x,H',hc,rfl,k⟩:=hs;exact⟨H',hc,k⟩
 have hl:=h.ex.len;obtain⟨H2,e2,k2,n2,q0,q1⟩:=Qy H vs [.int .i64 0,.bool false,.slice none 0 0,.slice none 0 0];have K:=k2;have z0:=q0;obtain⟨H3,c3,k3⟩:=Dx (h.keep K);have n3:=k3.n;have K:=K.trans k3;replace q0:=(k3.blk _ (by omega)).trans q0;replace q1:=(k3.blk _ (by omega)).trans q1;rw[←hC]at c3;obtain⟨H4,st4,n4,q1,b4,ka4⟩:=putF (k:=0) q1 (p:= .bool false) (q:= .slice none 0 0) (r:= .slice none 0 0) ⟨⟨_,rfl⟩,⟨_,_,_,rfl⟩,⟨_,_,_,rfl⟩⟩;have K:=ka4 _ K (by omega);replace q0:=(b4 _ (by omega)).trans q0;have hld:=Bl q1;have gn:Zd .neq .i64 (C:Int) 0=some (.bool true):=by rw[Eo,decide_eq_true (by omega)]
 refine Zj 13 (by decide) (by decide) Tryz.func27 rfl rfl ?_;apply Zb;intro b1 hb1;apply Za;simp[Value.cells,Jp,Jt,e2];subst hb1;apply Zb;intro b1 hb1;apply Zb;intro b2 hb2;apply Za;simp[Vd z0 hl,c3];subst hb2;apply Zb;intro b2 hb2;apply Za;simp[gn];subst hb2;refine Zc (t:=true) (by simp) ?_;apply Zb;intro b2 hb2;apply Za;simp[bFold0,st4];subst hb2;apply Zm;simp[Xo,hld];exact K
end
end
theorem aRF:Jd Tryz.prog 77=some true:=by kernel_rfl
theorem sRF:Qq Tryz.prog 77=some 4:=by kernel_rfl
theorem zRF:Us Tryz.prog 77=some (.agg #[.int .i64 0,.bool false,.slice none 0 0,.slice none 0 0]):=by kernel_rfl
theorem faRF0(b o:Nat):Xf Tryz.prog 77 (.pointer (some ⟨b,o,none⟩)) 0=some (.pointer (some ⟨b,o,none⟩)):=by kernel_rfl
theorem faRF1(b o:Nat):Xf Tryz.prog 77 (.pointer (some ⟨b,o,none⟩)) 1=some (.pointer (some ⟨b,o+1,none⟩)):=by kernel_rfl
theorem loadRF{H:AH}{b:Nat}{k p q r:Value}(hb:H.blk b= .rw 1 [k,p,q,r]):Ys Tryz.prog H 77 (.pointer (some ⟨b,0,none⟩))=some (.agg #[k,p,q,r]):=Di hb (by decide) rfl rfl aRF sRF
theorem loadRF0{H:AH}{b:Nat}{k p q r:Value}(hb:H.blk b= .rw 1 [k,p,q,r]):Ys Tryz.prog H 3 (.pointer (some ⟨b,0,none⟩))=some k:=Yt aInt (AH.cells_rw' hb (by decide)) rfl
theorem loadRFR{H:AH}{b:Nat}{k p q r:Value}(hb:H.blk b= .rw 1 [k,p,q,r]):Ys Tryz.prog H 42 (.pointer (some ⟨b,1,none⟩))=some (.agg #[p,q,r]):=Di hb (by decide) rfl rfl aR sR
theorem faRF1'(b:Nat):Xf Tryz.prog 77 (.pointer (some ⟨b,0,none⟩)) 1=some (.pointer (some ⟨b,1,none⟩)):=faRF1 b 0
def RFIn(H:AH)(vs:List Value):FD→Prop| .opn=>vs=[.int .i64 0,.bool false,.slice none 0 0,.slice none 0 0]| .und=>vs=[.int .i64 2,.bool false,.slice none 0 0,.slice none 0 0]| .rat s A B=> ∃p q,vs=[.int .i64 1,.bool s,p,q]∧Sl H p (ds b32 A)∧Sl H q (ds b32 B)
theorem RFIn.trio{H:AH}{vs:List Value}{f:FD}(h:RFIn H vs f): ∃p q r,vs=[.int .i64 f.kind,p,q,r]∧Fl p q r:=by cases f with|opn=>exact⟨_,_,_,h,⟨_,rfl⟩,⟨_,_,_,rfl⟩,⟨_,_,_,rfl⟩⟩|und=>exact⟨_,_,_,h,⟨_,rfl⟩,⟨_,_,_,rfl⟩,⟨_,_,_,rfl⟩⟩|rat s A B=>obtain⟨p,q,e,h1,h2⟩:=h;exact⟨_,p,q,e,⟨_,rfl⟩,h1.shape,h2.shape⟩
theorem RFIn.len{H:AH}{vs:List Value}{f:FD}(h:RFIn H vs f):vs.length=4:=by obtain⟨p,q,r,rfl,_⟩:=h.trio;rfl
theorem RFIn.ones{H:AH}{vs:List Value}{f:FD}(h:RFIn H vs f):vs.all one=true:=by obtain⟨p,q,r,rfl,⟨s,rfl⟩,⟨a,l,c,rfl⟩,⟨a',l',c',rfl⟩⟩:=h.trio;rfl
theorem RFIn.noU{H:AH}{vs:List Value}{f:FD}(h:RFIn H vs f):noU vs=true:=by obtain⟨p,q,r,rfl,⟨s,rfl⟩,⟨a,l,c,rfl⟩,⟨a',l',c',rfl⟩⟩:=h.trio;rfl
theorem RFIn.fr{H H':AH}{vs:List Value}{f:FD}(h:RFIn H vs f)(k:Fr H H'):RFIn H' vs f:=by cases f with|opn=>exact h|und=>exact h|rat s A B=>obtain⟨p,q,e,h1,h2⟩:=h;exact⟨p,q,e,h1.fr k,h2.fr k⟩
theorem eqBB(s:Bool):Xv Tryz.prog .eql 4 (.bool s) (.bool s)=some (.bool true):=by cases s<;>rfl
theorem Lim32{A:Nat}(h:Zf A≤67108864):(ds b32 A).length≤Lim:=by have h1:A<2^Zf A:=Vx A;have h2:2^Zf A≤b32^(Zf A):=Nat.pow_le_pow_left (by decide) _;have:=Jr two32 (Nat.lt_of_lt_of_le h1 h2);show(ds b32 A).length≤2000000000000;omega
section
attribute [-simp] Int.natCast_add Int.natCast_mul Int.natCast_ediv Int.natCast_emod Int.natCast_pow
attribute [local simp] strip Ye LW' LR gW Yk Xc Zz Xd Yn Xe Zr Zs Zg Yo Yz Yj Xi Zv Yp Zh Ze Xh Xg Qu Ya Xa opd Qd Yl plain Yg Tr.get_set Qb Zp Xv Yc sameKind undef Zu Yr Yw Zn Yb parts unV DW Xl Zy LX Zx
attribute [local simp] Qc Qo Gb
section
variable {H : AH} {u v w z : Value}
theorem Gl(e:Int)(H:AH):Zq Tryz.prog Zo 13 [.int .i64 e] H=some (.int .i64 e,H):=by
 suffices h:CW Tryz.prog Zo 13 [.int .i64 e] H fun v H'=>v= .int .i64 e∧H'=H by obtain⟨v,H',hc,rfl,rfl⟩:=h;exact hc
 refine Zj 4 (by decide) (by decide) Tryz.func13 rfl rfl ?_;apply Zb;intro b1 hb1;apply Za;simp;subst hb1;apply Zb;intro b1 hb1;apply Za;simp;subst hb1;apply Zm;simp
theorem is_call{A:Nat}(h:Sl H v (ds b32 A))(hw:Sl H w (ds B64 A))(lA:Zf A≤67108864): ∃H',Zq Tryz.prog Zo 65 [v,w] H=some (.bool true,H')∧Keep H H':=by obtain⟨x,H',hc,k,e⟩:=is_spec h hw (Xj two32 A) (Nat.le_trans (Lim32 lA) (by decide));rw[pairs_ds,decide_eq_true rfl]at e;subst e;exact⟨H',hc,k⟩
theorem lawNumber_call{s:Bool}{A B:Nat}(h1:Sl H u (ds B64 A))(h2:Sl H v (ds B64 B))(h3:Sl H w (ds b32 A))(h4:Sl H z (ds b32 B))(lA:Zf A≤67108864)(lB:Zf B≤67108864): ∃H',Zq Tryz.prog Zo 24 [.agg #[.bool s,u,v],.agg #[.bool s,w,z]] H=some (.bool true,H')∧Keep H H':=by
 suffices h:CW Tryz.prog Zo 24 [.agg #[.bool s,u,v],.agg #[.bool s,w,z]] H fun v H'=>v= .bool true∧Keep H H' by obtain⟨v,H',hc,rfl,k⟩:=h;exact⟨H',hc,k⟩
 obtain⟨H2,e2,k2,n2,q0,q1⟩:=Qy H [.bool s,u,v] [.bool s,w,z];have K:=k2;have z0:=q0;have z1:=q1;obtain⟨H3,c3,k3⟩:=is_call (h3.keep K) (h1.keep K) lA;have n3:=k3.n;have K:=K.trans k3;replace q0:=(k3.blk _ (by omega)).trans q0;replace q1:=(k3.blk _ (by omega)).trans q1;have y0:=q0;have y1:=q1;obtain⟨H4,c4,k4⟩:=is_call (h4.keep K) (h2.keep K) lB;have n4:=k4.n;have K:=K.trans k4;replace q0:=(k4.blk _ (by omega)).trans q0;replace q1:=(k4.blk _ (by omega)).trans q1;refine Zj 26 (by decide) (by decide) Tryz.func24 rfl rfl ?_;apply Zb;intro b1 hb1;apply Za;simp[Value.cells,Jt,e2];subst hb1;apply Zb;intro b1 hb1;apply Za;simp[Cd,Gj,faR0,faR1,Fx,faQ1,faR2,Zc4 z0,loadR0 z1,Ke z0,loadR1 z1,-Xv,eqBB,c3,Kf y0,loadR2 y1,c4];subst hb1;apply Zm;simp;exact K
theorem Zk9(H:AH): ∃H',Zq Tryz.prog Zo 20 [.agg #[.bool false,.slice none 0 0,.slice none 0 0]] H=some (.bool true,H')∧Keep H H':=by
 suffices h:CW Tryz.prog Zo 20 [.agg #[.bool false,.slice none 0 0,.slice none 0 0]] H fun v H'=>v= .bool true∧Keep H H' by obtain⟨v,H',hc,rfl,k⟩:=h;exact⟨H',hc,k⟩
 obtain⟨H2,e2,k2,n2,q0⟩:=Ub H [.bool false,.slice none 0 0,.slice none 0 0];have ln:lenV Tryz.prog 30 (.slice none 0 0)=some 0:=by kernel_rfl
 refine Zj 20 (by decide) (by decide) Tryz.func20 rfl rfl ?_;apply Zb;intro b1 hb1;apply Za;simp[Value.cells,e2];subst hb1;apply Zb;intro b1 hb1;apply Za;simp[Cd,Gj,Fx,faQ1,Zc4 q0,Ke q0,Kf q0,ln,show Zd .eql .i64 0 0=some (.bool true)from rfl];subst hb1;apply Zm;simp;exact k2
def FD.fit:FD→Prop| .rat _ A B=>Zf A≤67108864∧Zf B≤67108864|_=>True
theorem FD.fit_of{f:FD}(h:f.w≤67108864):f.fit:=by cases f with|opn=>trivial|und=>trivial|rat s A B=>have h:max (Zf A) (Zf B)+1≤67108864:=h;exact⟨by omega,by omega⟩
theorem Zk8{us ws:List Value}{f:FD}(h:FIn H us f)(h':RFIn H ws f)(hf:f.fit): ∃H',Zq Tryz.prog Zo 36 [.agg us.toArray,.agg ws.toArray] H=some (.bool true,H')∧Keep H H':=by
 suffices hs:CW Tryz.prog Zo 36 [.agg us.toArray,.agg ws.toArray] H fun v H'=>v= .bool true∧Keep H H' by obtain⟨v,H',hc,rfl,k⟩:=hs;exact⟨H',hc,k⟩
 have hh:=h;have hh':=h';obtain⟨p,q,r,rfl,_⟩:=h.trio;obtain⟨p',q',r',rfl,_⟩:=h'.trio;obtain⟨H2,e2,k2,n2,q0,q1⟩:=Qy H [.int .i64 f.kind,p,q,r] [.int .i64 f.kind,p',q',r'];have gn:Zd .neq .i64 f.kind f.kind=some (.bool false):=by rw[Eo,decide_eq_false (by omega)]
 refine Zj 21 (by decide) (by decide) Tryz.func36 rfl rfl ?_;apply Zb;intro b1 hb1;apply Za;simp[Value.cells,Jt,e2];subst hb1;apply Zb;intro b1 hb1;apply Zb;intro b2 hb2;apply Za;simp[faF0,Gq q0,faRF0,loadRF0 q1,gn];subst hb2;refine Zc (t:=false) (by simp) ?_;apply Zi;subst hb1;apply Zb;intro b1 hb1;apply Zb;intro b2 hb2;apply Za;simp[faRF0,loadRF0 q1,Zb5];subst hb2;cases f with|rat s A B=>obtain⟨_,_,e,h1,h2,_⟩:=hh;obtain⟨_,_,e',h3,h4⟩:=hh';cases e;cases e';obtain⟨H3,c3,k3⟩:=lawNumber_call (s:=s) (h1.keep k2) (h2.keep k2) (h3.keep k2) (h4.keep k2) hf.1 hf.2;refine Zc (t:=true) (by simp[FD.kind]) ?_;apply Zb;intro b2 hb2;apply Za;simp[faF1,Zc3 q0,faRF1',loadRFR q1,c3];subst hb2;apply Zm;simp[Xo];exact k2.trans k3|opn=>cases hh;cases hh';obtain⟨H3,c3,k3⟩:=Zk9 H2;refine Zc (t:=false) (by simp[FD.kind]) ?_;apply Zi;subst hb1;apply Zb;intro b1 hb1;apply Za;simp[faF1,Zc3 q0,c3];subst hb1;apply Zm;simp;exact k2.trans k3|und=>cases hh;cases hh';obtain⟨H3,c3,k3⟩:=Zk9 H2;refine Zc (t:=false) (by simp[FD.kind]) ?_;apply Zi;subst hb1;apply Zb;intro b1 hb1;apply Za;simp[faF1,Zc3 q0,c3];subst hb1;apply Zm;simp;exact k2.trans k3
end
end
theorem bXnum{a b:Value}{x:Bool}(ha: ∃s l c,a= .slice s l c)(hb: ∃s l c,b= .slice s l c):Vs Tryz.prog 53 [(0,.int .i64 0),(1,.agg #[.bool x,a,b])]=some (.agg #[.int .i64 0,.bool x,a,b,.slice none 0 0]):=by obtain⟨s,l,c,rfl⟩:=ha;obtain⟨s',l',c',rfl⟩:=hb;rfl
theorem bXargs{a:Value}{op:Int}(ha: ∃s l c,a= .slice s l c):Vs Tryz.prog 53 [(0,.int .i64 op),(2,a)]=some (.agg #[.int .i64 op,.bool false,.slice none 0 0,.slice none 0 0,a]):=by obtain⟨s,l,c,rfl⟩:=ha;rfl
theorem bXop{op:Int} :Vs Tryz.prog 53 [(0,.int .i64 op)]=some (.agg #[.int .i64 op,.bool false,.slice none 0 0,.slice none 0 0,.slice none 0 0]):=by rfl
theorem sXs:Uy Tryz.prog 51=some (53,5,88):=by kernel_rfl
theorem bXs1(H:AH)(v0 v1 v2 v3 v4:Value):Qe Tryz.prog H 51 1 [(0,.agg #[v0,v1,v2,v3,v4])]=some (.slice (some ⟨H.n,0,none⟩) 1 1,H.new 5 [v0,v1,v2,v3,v4]):=by unfold Qe;simp only[sXs,Cx];kernel_rfl
theorem bXs2(H:AH)(v0 v1 v2 v3 v4 w0 w1 w2 w3 w4:Value):Qe Tryz.prog H 51 2 [(0,.agg #[v0,v1,v2,v3,v4]),(1,.agg #[w0,w1,w2,w3,w4])]=some (.slice (some ⟨H.n,0,none⟩) 2 2,H.new 5 [v0,v1,v2,v3,v4,w0,w1,w2,w3,w4]):=by unfold Qe;simp only[sXs,Cx];kernel_rfl
theorem Ex.five{H:AH}{vs:List Value}{t:ET}(h:Ex H vs t): ∃op s va vd vx,vs=[.int .i64 op,.bool s,va,vd,vx]:=by cases h;exact⟨_,_,_,_,_,rfl⟩
theorem Xs.one{H:AH}{vs:List Value}{t:ET}(h:Ex H vs t): ∃H',H'=H.new 5 vs∧Keep H H'∧Xs H' (.slice (some ⟨H.n,0,none⟩) 1 1) [t]:=by refine⟨_,rfl,Keep.new _ _ _,?_⟩;have hk:=h.keep (Keep.new H 5 vs);have hl:=h.len;refine .mk H.n 0 1 (cs:=vs) (args:=[t]) (Nat.lt_succ_self _) (Bn H 5 vs) (Nat.le_refl _) fun i t' hi=>?_;match i,hi with|0,hi=>simp at hi;subst hi;rw[Nat.zero_mul,Nat.add_zero,List.drop_zero,List.take_of_length_le (by omega)];exact hk
theorem Xs.two{H:AH}{vs ws:List Value}{t s:ET}(h:Ex H vs t)(h':Ex H ws s): ∃H',H'=H.new 5 (vs++ws)∧Keep H H'∧Xs H' (.slice (some ⟨H.n,0,none⟩) 2 2) [t,s]:=by refine⟨_,rfl,Keep.new _ _ _,?_⟩;have hk:=h.keep (Keep.new H 5 (vs++ws));have hk':=h'.keep (Keep.new H 5 (vs++ws));have hl:=h.len;have hl':=h'.len;refine .mk H.n 0 2 (cs:=vs++ws) (args:=[t,s]) (Nat.lt_succ_self _) (Bn H 5 _) (Nat.le_refl _) fun i t' hi=>?_;match i,hi with|0,hi=>simp at hi;subst hi;rw[Nat.zero_mul,Nat.add_zero,List.drop_zero,List.take_append_of_le_length (by omega),List.take_of_length_le (by omega)];exact hk|1,hi=>simp at hi;subst hi;rw[show 0+1*5=vs.length by omega,List.drop_left,List.take_of_length_le (by omega)];exact hk'
theorem Xs.shape{H:AH}{v:Value}{l:List ET}(h:Xs H v l): ∃s a c,v= .slice s a c:=by cases h<;>exact⟨_,_,_,rfl⟩
theorem Ex.args{H:AH}{v:Value}{l:List ET}{op:Int}(h:Xs H v l):Ex H [.int .i64 op,.bool false,.slice none 0 0,.slice none 0 0,v] (.node op false [] [] l):= .mk .nil .nil h
def Gh(x:Nat):ET:= .node 0 false [x] [1] []
section
attribute [-simp] Int.natCast_add Int.natCast_mul Int.natCast_ediv Int.natCast_emod Int.natCast_pow
attribute [local simp] strip Ye LW' LR gW Yk Xc Zz Xd Yn Xe Zr Zs Zg Yo Yz Yj Xi Zv Yp Zh Ze Xh Xg Qu Ya Xa opd Qd Yl plain Yg Tr.get_set Qb Zp Xv Yc sameKind undef Zu Yr Yw Zn Yb parts unV DW Xl Zy LX Zx
attribute [local simp] Qc Qo Gb
section
variable {H : AH} {u v w z : Value}
theorem Zi7{x:Nat}(hx:x<9223372036854775808)(H:AH): ∃us H',Zq Tryz.prog Zo 51 [.int .i64 (x:Int)] H=some (.agg us.toArray,H')∧Keep H H'∧Ex H' us (Gh x):=by
 suffices h:CW Tryz.prog Zo 51 [.int .i64 (x:Int)] H fun r H'=> ∃us:List Value,r= .agg us.toArray∧Keep H H'∧Ex H' us (Gh x) by obtain⟨r,H',hc,us,rfl,k⟩:=h;exact⟨us,H',hc,k⟩
 obtain⟨H2,e2,k2,n2,q0⟩:=Ub H [.int .i64 0,.bool false,.slice none 0 0,.slice none 0 0,.slice none 0 0];obtain⟨a,H3,c3,k3,o3⟩:=Za9 H2 (t:=30) Zn x;obtain⟨b,H4,c4,k4,o4⟩:=Za9 H3 (t:=30) Zn 1;have c4:Qe Tryz.prog H3 30 1 [(0,.int .u64 1)]=some (b,H4):=c4;have o3':=o3.mono (Nat.le_refl _) k4;have n3:=k3.n;have q4:=(k4.blk _ (by omega)).trans ((k3.blk _ (by omega)).trans q0);have hE:Ex H4 [.int .i64 0,.bool false,a,b,.slice none 0 0] (Gh x):= .mk o3'.sl o4.sl .nil;obtain⟨H5,st5,n5,q5,b5,ka5⟩:=Fk Zd2 q4 rfl (v:= .agg #[.int .i64 0,.bool false,a,b,.slice none 0 0]) (ws:=[.int .i64 0,.bool false,a,b,.slice none 0 0]) rfl rfl hE.ones;have k5:Keep H H5:=ka5 H ((k2.trans k3).trans k4) (by omega);have o5:=o3'.off (b:=H.n) (by omega) n5 b5;have o6:=o4.off (b:=H.n) (by omega) n5 b5;have hld:=Vd q5 rfl;have cv:=Ze0 (n:=x) (Nat.lt_trans hx (by decide));refine Zj 10 (by decide) (by decide) Tryz.func51 rfl rfl ?_;apply Zb;intro b1 hb1;apply Za;simp[Value.cells,Cx,e2];subst hb1;apply Zb;intro b1 hb1;apply Za;simp[cv,c3,c4,Zd8 o3.shape,Za6 (x:=false) o3.shape o4.shape,bXnum o3.shape o4.shape,st5];subst hb1;apply Zm;simp[hld];exact⟨k5,.mk o5.sl o6.sl .nil⟩
theorem count_walk: ∀n(t:ET),t.nodes≤n→ ∀(H:AH)(vs:List Value)(left:Int),Ex H vs t→left≤10000→ -1000000000≤left-(t.nodes:Int)→CW Tryz.prog Zo 66 [.agg vs.toArray,.int .i64 left] H fun x H'=> ∃c:Int,x= .int .i64 c∧left-(t.nodes:Int)≤c∧c≤left∧Keep H H':=by intro n;induction n with
 |zero=>intro t h;have:=Vm t;omega
 |succ n ih=>intro t ht H vs left hE hl1 hl2;obtain⟨op,neg,abs,den,args⟩:=t;have hE':=hE;cases hE' with
  |@mk _ _ va vd vx _ _ _ h1 h2 h3=>
   simp only[ET.nodes]at ht hl2;simp only[ET.nodes];obtain⟨len,hln⟩: ∃len,len=args.length:=⟨_,rfl⟩;have hlx:=h3.len;rw[←hln]at hlx;have hlen9:=Fi args;obtain⟨H2,e2,k2,n2,q0⟩:=Ub H [.int .i64 op,.bool neg,va,vd,vx];have wr: ∀a:Int,-2000000000≤a→a≤2000000000→IntKind.i64.wrap a=a:=fun a h1 h2=>by rw[IntKind.wrap_i64];omega
   have g1:Zd .sub .i64 left 1=some (.int .i64 (left-1)):=by show some (Value.int .i64 (IntKind.i64.wrap (left-1)))=_;rw[wr _ (by omega) (by omega)]
   refine Zj 24 (by decide) (by decide) Tryz.func66 rfl rfl ?_;apply Zb;intro b1 hb1;apply Za;simp[Value.cells,e2];subst hb1;apply Zb;intro b1 hb1;apply Za;simp[g1];subst hb1;apply Zb;intro b1 hb1;apply Zb;intro b2 hb2;apply Za;simp[Ze6,loadX4 q0,hlx];subst hb2;apply Zt;refine Xw (fun n s'=>s'.k=24∧Keep H s'.H∧ ∃(i:Nat) (c:Int),n+i=len∧left-1-(Yi (args.take i):Int)≤c∧c≤left-1∧s'.tm.get 1=some (.int .i64 c)∧s'.tm.get 10=some vx∧s'.tm.get 11=some (.int .i64 (len:Int))∧s'.tm.get 12=some (.int .i64 (i:Int))) ?_ len _ ⟨rfl,k2,0,left-1,by omega,by simp[Yi],by omega,by simp,by simp,by simp,by simp⟩;rintro n' ⟨k,tm,Hc⟩ ⟨hk,kc,i,c,hni,hc1,hc2,u1,u10,u11,u12⟩ Q' hQ';simp only at hk kc u1 u10 u11 u12;subst hk;apply Zb;intro b3 hb3;apply Za;simp[u11,u12,lssN];subst hb3;apply Zb;intro b3 hb3;by_cases hi:i<len
   ·refine Zc (t:=true) (by simp[hi]) ?_;apply Zi;subst hb3;obtain⟨ti,hti⟩: ∃ti,args[i]?=some ti:=⟨args[i]'(by omega),List.getElem?_eq_getElem (by omega)⟩;have hnt:=Bc hti;have hnp:=Vm ti;obtain⟨p,us,hadr,hlod,hEt⟩:=h3.at hti;have hld:=hlod Hc kc;obtain⟨H4,st4,k4,q8,n4⟩:=newX (H:=Hc) hEt.len hEt.ones;have l8:=Vd q8 hEt.len;obtain⟨x,H5,c5,cc,rfl,hcc1,hcc2,k5⟩:=ih ti (by omega) H4 us c (hEt.keep (kc.trans k4)) (by omega) (by omega);have gl:Zd .lss .i64 c 0=some (.bool (decide (c<0))):=lssZZ;have htk:Yi (args.take (i+1))=Yi (args.take i)+ti.nodes:=by rw[List.take_add_one,hti,Ka];simp[Yi]
    apply Zb;intro b3 hb3;apply Zt;apply Zb;intro b4 hb4;apply Za;simp[u10,u12,hadr,hld,Cx,Value.cells,st4];subst hb4;apply Zb;intro b4 hb4;apply Zb;intro b5 hb5;apply Za;simp[u1,gl];subst hb5;by_cases h0:c<0;·refine Zc (t:=true) (by simp[h0]) ?_;apply Zb;intro b5 hb5;apply Za;simp[u1];subst hb5;apply Zm;simp[Xo,Xn];apply hQ';simp[Dc,Xn,Xo];exact⟨by omega,by omega,kc.trans k4⟩
    ·refine Zc (t:=false) (by simp[h0]) ?_;apply Zi;subst hb4;apply Za;simp[l8,u1,c5];simp[Xn];subst hb3;apply Za;simp[u12,Bg (x:=i) (by omega)];apply hQ';exact⟨n'-1,by omega,rfl,(kc.trans k4).trans k5,i+1,cc,by omega,by rw[htk];omega,by omega,by simp,by simp[u10],by simp[u11],by simp⟩
   ·refine Zc (t:=false) (by simp[hi]) ?_;apply Xy;apply hQ';left;refine⟨rfl,?_⟩;obtain rfl:i=len:=by omega
    rw[List.take_of_length_le (by omega)]at hc1;subst hb1;apply Zb;intro b1 hb1;apply Za;simp[u1];subst hb1;apply Zm;simp;exact⟨by omega,by omega,kc⟩
theorem great_call{vs:List Value}{t:ET}(h:Ex H vs t)(hn:t.nodes≤2000000): ∃b H',Zq Tryz.prog Zo 26 [.agg vs.toArray] H=some (.bool b,H')∧Keep H H':=by
 suffices hs:CW Tryz.prog Zo 26 [.agg vs.toArray] H fun v H'=> ∃b,v= .bool b∧Keep H H' by obtain⟨v,H',hc,b,rfl,k⟩:=hs;exact⟨b,H',hc,k⟩
 obtain⟨H2,e2,k2,n2,q0⟩:=Ub H vs;obtain⟨x,H3,c3,c,rfl,h1,h2,k3⟩:=count_walk _ t (Nat.le_refl _) H2 vs 10000 (h.keep k2) (by omega) (by omega);have gl:Zd .lss .i64 c 0=some (.bool (decide (c<0))):=lssZZ;refine Zj 6 (by decide) (by decide) Tryz.func26 rfl rfl ?_;apply Zb;intro b1 hb1;apply Za;simp[Value.cells,e2];subst hb1;apply Zb;intro b1 hb1;apply Za;simp[Vd q0 h.len,c3,gl];subst hb1;apply Zm;simp;exact⟨by omega,k2.trans k3⟩
end
end
def sqrt9:ET:= .node 10 false [] [] [Gh 9]
def piNone:ET:= .node 6 false [] [] [.node 1 false [] [] [],.node 4 false [] [] [Gh 1,Gh 1]]
theorem rt9:rt 9=3:=(rt_eq ⟨by decide,by decide⟩).symm
theorem rt1:rt 1=1:=(rt_eq ⟨by decide,by decide⟩).symm
theorem dv_one(x:Nat):dv B64 [x]=x:=by simp[dv]
theorem fold_numT(x:Nat):(Gh x).fold= .mk (Yq false x 1):=by show(if(Xq []).any FD.isUnd=true then FD.und else Qv 0 false (dv B64 [x]) (dv B64 [1]) (Xq []))=_;rw[dv_one,dv_one];rfl
theorem fold_sqrt9:sqrt9.fold= .rat false 3 1:=by
 have h:Xq [Gh 9]=[.rat false 9 1]:=by show[(Gh 9).fold]=_;rw[fold_numT];rfl
 show(if(Xq [Gh 9]).any FD.isUnd=true then FD.und else Qv 10 false (dv B64 []) (dv B64 []) (Xq [Gh 9]))=_;rw[h];show Kb 10 false 9 1=_;unfold Kb Br;simp only[rt9,rt1];rfl
theorem fold_piNone:piNone.fold= .und:=by
 have h1:(Gh 1).fold= .rat false 1 1:=by rw[fold_numT];rfl
 have h2:(ET.node 4 false [] [] [Gh 1,Gh 1]).fold= .rat false 0 1:=by
  have h:Xq [Gh 1,Gh 1]=[.rat false 1 1,.rat false 1 1]:=by show[(Gh 1).fold,(Gh 1).fold]=_;rw[h1]
  show(if(Xq [Gh 1,Gh 1]).any FD.isUnd=true then FD.und else Qv 4 false (dv B64 []) (dv B64 []) (Xq [Gh 1,Gh 1]))=_;rw[h];rfl
 have h3:(ET.node 1 false [] [] []).fold= .opn:=rfl;have h:Xq [.node 1 false [] [] [],.node 4 false [] [] [Gh 1,Gh 1]]=[.opn,.rat false 0 1]:=by show[(ET.node 1 false [] [] []).fold,(ET.node 4 false [] [] [Gh 1,Gh 1]).fold]=_;rw[h2,h3]
 show(if(Xq [.node 1 false [] [] [],.node 4 false [] [] [Gh 1,Gh 1]]).any FD.isUnd=true then FD.und else Qv 6 false (dv B64 []) (dv B64 []) (Xq [.node 1 false [] [] [],.node 4 false [] [] [Gh 1,Gh 1]]))=_;rw[h];rfl
theorem dig_one{x:Nat}(h:x<B64):Dig B64 [x]:=fun y hy=>by rw[List.mem_singleton.mp hy];exact h
theorem Ea:Dig B64 []:=fun y hy=>by cases hy
theorem Zn6{x:Nat}(h:x<B64):(Gh x).wide 1048576:=⟨show 1≤1048576 by decide,by decide,dig_one h,dig_one (by decide),trivial⟩
theorem sqrt9_ok{H:AH}{vs:List Value}(h:Ex H vs sqrt9)(hr:RowsIn H):TreeOk H vs sqrt9∧Vt sqrt9=0:=⟨⟨⟨h,hr,⟨by decide,by decide,Ea,Ea,Zn6 (by decide),trivial⟩,by decide⟩,rfl,by decide⟩,rfl⟩
theorem piNone_ok{H:AH}{vs:List Value}(h:Ex H vs piNone)(hr:RowsIn H):TreeOk H vs piNone∧Vt piNone=0:=⟨⟨⟨h,hr,⟨by decide,by decide,Ea,Ea,⟨by decide,by decide,Ea,Ea,trivial⟩,⟨by decide,by decide,Ea,Ea,Zn6 (by decide),Zn6 (by decide),trivial⟩,trivial⟩,by decide⟩,rfl,by decide⟩,rfl⟩
theorem bRF2:Vs Tryz.prog 77 [(0,.int .i64 2)]=some (.agg #[.int .i64 2,.bool false,.slice none 0 0,.slice none 0 0]):=by rfl
theorem bRFr{p q r:Value}(ht:Fl p q r):Vs Tryz.prog 77 [(0,.int .i64 1),(1,.agg #[p,q,r])]=some (.agg #[.int .i64 1,p,q,r]):=by obtain⟨⟨s,rfl⟩,⟨a1,l1,c1,rfl⟩,⟨a2,l2,c2,rfl⟩⟩:=ht;rfl
section
attribute [-simp] Int.natCast_add Int.natCast_mul Int.natCast_ediv Int.natCast_emod Int.natCast_pow
attribute [local simp] strip Ye LW' LR gW Yk Xc Zz Xd Yn Xe Zr Zs Zg Yo Yz Yj Xi Zv Yp Zh Ze Xh Xg Qu Ya Xa opd Qd Yl plain Yg Tr.get_set Qb Zp Xv Yc sameKind undef Zu Yr Yw Zn Yb parts unV DW Xl Zy LX Zx
attribute [local simp] Qc Qo Gb
section
variable {H : AH} {u v w z : Value}
theorem awake_call(hr:RowsIn H): ∃H',Zq Tryz.prog Zo 14 [] H=some (.bool true,H')∧Keep H H':=by
 suffices h:CW Tryz.prog Zo 14 [] H fun v H'=>v= .bool true∧Keep H H' by obtain⟨v,H',hc,rfl,k⟩:=h;exact⟨H',hc,k⟩
 obtain⟨us9,H2,c2,k2,x2⟩:=Zi7 (x:=9) (by decide) H;replace c2:Zq Tryz.prog Zo 51 [.int .i64 9] H=some (.agg us9.toArray,H2):=c2;obtain⟨o9,s9,a9,b9,d9,rfl⟩:=x2.five;obtain⟨H3,e3,k3,xs3⟩:=Xs.one x2;have x3:Ex H3 _ sqrt9:=Ex.args (op:=10) xs3;have kA:=k2.trans k3;obtain⟨ok3,ch3⟩:=sqrt9_ok x3 (hr.keep kA);obtain⟨fs,H4,c4,k4,f4⟩:=Eh ok3 ch3;rw[fold_sqrt9]at f4;have f4':=f4;obtain⟨p4,q4,rfl,sp4,sq4,low4⟩:=f4';obtain⟨H5,st5,k5,y5,n5⟩:=newFv (H:=H4) f4.len f4.ones;have kB:=(kA.trans k4).trans k5;obtain⟨us1,H6,c6,k6,x6⟩:=Zi7 (x:=1) (by decide) H5;replace c6:Zq Tryz.prog Zo 51 [.int .i64 1] H5=some (.agg us1.toArray,H6):=c6;obtain⟨us2,H7,c7,k7,x7⟩:=Zi7 (x:=1) (by decide) H6;replace c7:Zq Tryz.prog Zo 51 [.int .i64 1] H6=some (.agg us2.toArray,H7):=c7;have x6':=x6.keep k7;obtain⟨o1,s1,a1,b1',d1,rfl⟩:=x6'.five;obtain⟨o2,s2,a2,b2',d2,rfl⟩:=x7.five;obtain⟨H8,e8,k8,xs8⟩:=Xs.two x6' x7;have x8:Ex H8 _ (.node 4 false [] [] [Gh 1,Gh 1]):=Ex.args (op:=4) xs8;have xpi:Ex H8 _ (.node 1 false [] [] []):=Ex.args (op:=1) .nil;obtain⟨H9,e9,k9,xs9⟩:=Xs.two xpi x8;have x9:Ex H9 _ piNone:=Ex.args (op:=6) xs9;simp only[List.cons_append,List.nil_append]at e8 e9;have kC:=((kB.trans k6).trans k7).trans (k8.trans k9);obtain⟨ok9,ch9⟩:=piNone_ok x9 (hr.keep kC);obtain⟨gs,H10,c10,k10,f10⟩:=Eh ok9 ch9;rw[fold_piNone]at f10;obtain rfl:=f10;obtain⟨H11,st11,k11,y11,n11⟩:=Kz (H:=H10) (k:= .int .i64 2) (p:= .bool false) (q:= .slice none 0 0) (r:= .slice none 0 0) rfl;have kD:=(kC.trans k10).trans k11;have kE:=(((k6.trans k7).trans (k8.trans k9)).trans k10).trans k11;have nE:=kE.n;have y5':=(kE.blk _ (by omega)).trans y5;have kE5:=k5.trans kE;have K:=kD;have y5'a:=y5';have y11a:=y11;have vka: ∀{J:AH}(k:Keep H11 J){bits ms},(∀x∈ms,H11.n≤x.2.1)→ ∀b,b<H11.n→(vis J bits ms).blk b=H11.blk b:=fun k _ _ h b hb=>(Qw k h).blk b hb;obtain⟨ip,iq,Ia1,da1,kIa1,j1,j2⟩:=refRInt_call (H:=H11.top) (n:=3) (by decide);obtain⟨Ja1,hJa1⟩: ∃J,J=grown H11 Ia1:=⟨_,rfl⟩;have kJa1:Keep H11 Ja1:=by rw[hJa1];exact Zw (.refl _) kIa1
 have ma1:H11.n≤Ia1.n:=kIa1.n;have kka1:=kJa1;have nka1:=kka1.n;have K:=K.trans kJa1;replace j1:=j1.same (Yh kIa1);rw[←hJa1]at j1;replace j1:Own H11.n Ja1 _ _:=j1;replace j2:=j2.same (Yh kIa1);rw[←hJa1]at j2;replace j2:Own H11.n Ja1 _ _:=j2;replace da1:Zq _ _ _ [Value.int .i64 3] _=_:=da1;have htr:Fl (.bool false) ip iq:=⟨⟨_,rfl⟩,j1.shape,j2.shape⟩;have hfin:FIn Ja1.top [.int .i64 1,.bool false,p4,q4] (.rat false 3 1):=f4.fr ((kE5.trans kJa1).top).fr;obtain⟨Ia2,da2,kIa2⟩:=Zk8 (us:=[.int .i64 1,.bool false,p4,q4]) (ws:=[.int .i64 1,.bool false,ip,iq]) (f:= .rat false 3 1) hfin ⟨_,_,rfl,j1.sl.top,j2.sl.top⟩ ⟨by decide,by decide⟩;obtain⟨Ja2,hJa2⟩: ∃J,J=grown Ja1 Ia2:=⟨_,rfl⟩;have kJa2:Keep Ja1 Ja2:=by rw[hJa2];exact Zw (.refl _) kIa2
 have ma2:Ja1.n≤Ia2.n:=kIa2.n;have kka2:=kka1.trans kJa2;have nka2:=kka2.n;have K:=K.trans kJa2;replace j1:=j1.mono (Nat.le_refl _) kJa2;replace j2:=j2.mono (Nat.le_refl _) kJa2;obtain⟨Ia3,da3,kIa3⟩:=Zk8 (H:=Ja2.top) (us:=[.int .i64 2,.bool false,.slice none 0 0,.slice none 0 0]) (ws:=[.int .i64 2,.bool false,.slice none 0 0,.slice none 0 0]) (f:= .und) rfl rfl trivial;obtain⟨Ja3,hJa3⟩: ∃J,J=grown Ja2 Ia3:=⟨_,rfl⟩;have kJa3:Keep Ja2 Ja3:=by rw[hJa3];exact Zw (.refl _) kIa3
 have ma3:Ja2.n≤Ia3.n:=kIa3.n;have kka3:=kka2.trans kJa3;have nka3:=kka3.n;have K:=K.trans kJa3;replace j1:=j1.mono (Nat.le_refl _) kJa3;replace j2:=j2.mono (Nat.le_refl _) kJa3;replace y5':=(kka3.blk _ (by omega)).trans y5';replace y11:=(kka3.blk _ (by omega)).trans y11;refine Zj 42 (by decide) (by decide) Tryz.func14 rfl rfl ?_;apply Zb;intro b1 hb1;apply Za;simp;subst hb1;apply Zb;intro b1 hb1;apply Za;simp[c2,bXs1,←e3,bXargs,c4,Jp,Value.cells,st5];subst hb1;apply Zb;intro b1 hb1;apply Za;simp[bXop,c6,c7,bXs2,←e8,bXargs,←e9,c10,Jp,Value.cells,st11];subst hb1;apply Zb;intro b1 hb1;apply Qm (by kernel_rfl);simp;refine Yd (v:= .int .i64 0) rfl rfl rfl (by rw[Zk rfl];simp[Gl]) ?_;simp[show Zd .eql .i64 0 0=some (.bool true)from rfl];refine Yd (v:= .agg #[.int .i64 1,.bool false,p4,q4]) rfl rfl rfl (by rw[Zk rfl];simp[Bl (H:=AH.top H11) y5'a]) ?_;simp;refine Yv (v:= .agg #[.bool false,ip,iq]) (H2:=Ia1) rfl rfl rfl (by rw[Zk rfl];simp[da1]) ma1 (Yx kIa1) ?_;rw[←hJa1];have Ma1:=(Fs.nil H11.n).cons (i:=5) (a:=H11.n) (b:=Ia1.n) (by omega);generalize cond (Nat.blt H11.n Ia1.n) _ _=msa1 at Ma1;simp[bRFr htr];refine Yv (v:= .bool true) (H2:=Ia2) rfl rfl rfl (by rw[Zk (Ma1.hid (by kernel_rfl))];simp[da2]) ma2 (Yx kIa2) ?_;rw[←hJa2];have Ma2:=Ma1.cons (i:=7) (a:=Ja1.n) (b:=Ia2.n) (by omega);generalize cond (Nat.blt Ja1.n Ia2.n) _ _=msa2 at Ma2;simp;refine Yd (v:= .int .i64 0) rfl rfl rfl (by rw[Zk (Ma2.hid (by kernel_rfl))];simp[Gl]) ?_;simp[show Zd .eql .i64 0 0=some (.bool true)from rfl];refine Yd (v:= .agg #[.int .i64 2,.bool false,.slice none 0 0,.slice none 0 0]) rfl rfl rfl (by simp[Bl ((vka kka2 Ma2.ge _ (by omega)).trans y11a)]) ?_;simp[bRF2];refine Yv (v:= .bool true) (H2:=Ia3) rfl rfl rfl (by rw[Zk (Ma2.hid (by kernel_rfl))];simp[da3]) ma3 (Yx kIa3) ?_;rw[←hJa3];have Ma3:=Ma2.cons (i:=17) (a:=Ja2.n) (b:=Ia3.n) (by omega);generalize cond (Nat.blt Ja2.n Ia3.n) _ _=msa3 at Ma3;simp;subst hb1;apply Zm;simp;exact K
end
end
def twS(op:Int)(neg:Bool)(abs den:List Nat):Bool×List Nat×List Nat:=if op=0 then((Yq neg (dv B64 abs) (dv B64 den)).1,ds B64 (Yq neg (dv B64 abs) (dv B64 den)).2.1,ds B64 (Yq neg (dv B64 abs) (dv B64 den)).2.2)else(false,[],[])
mutual def ET.twin:ET→ET| .node op neg abs den args=> .node op (twS op neg abs den).1 (twS op neg abs den).2.1 (twS op neg abs den).2.2 (Ge args) def Ge:List ET→List ET|[]=>[]|t::ts=>t.twin::Ge ts end
theorem Zq4(l:List ET):Ge l=l.map ET.twin:=by induction l with|nil=>rfl|cons x xs ih=>simp[Ge,ih]
theorem twinAll_len(l:List ET):(Ge l).length=l.length:=by rw[Zq4];simp
mutual theorem Cl: ∀t:ET,t.twin.nodes=t.nodes| .node op neg abs den args=>by simp only[ET.twin,ET.nodes,Zg8 args] theorem Zg8: ∀l:List ET,Yi (Ge l)=Yi l|[]=>rfl|t::ts=>by simp only[Ge,Yi,Cl t,Zg8 ts] end
theorem twS_len{op:Int}{neg:Bool}{abs den:List Nat}(hD:op=0→0<dv B64 den)(da:Dig B64 abs)(dd:Dig B64 den):(twS op neg abs den).2.1.length≤abs.length∧(twS op neg abs den).2.2.length≤den.length∧Dig B64 (twS op neg abs den).2.1∧Dig B64 (twS op neg abs den).2.2:=by
 unfold twS;by_cases h0:op=0;·simp only[if_pos h0];have hl:=Zh9 (s:=neg) (A:=dv B64 abs) (hD h0);exact⟨Nat.le_trans (Up Yf hl.1) (Uj da),Nat.le_trans (Up Yf hl.2) (Uj dd),Xj Yf _,Xj Yf _⟩
 ·simp only[if_neg h0];exact⟨Nat.zero_le _,Nat.zero_le _,Ea,Ea⟩
mutual theorem Du: ∀t:ET,t.allGood=true→t.wide 1048576→t.twin.wide 1048576∧t.twin.wt≤t.wt| .node op neg abs den args,h,hw=>by obtain⟨wa,wd,da,dd,ws⟩:=hw;simp only[ET.allGood,Bool.and_eq_true]at h;obtain⟨h1,h2,h3,h4⟩:=twS_len (neg:=neg) (Kn h.1).2.2.2 da dd;obtain⟨i1,i2⟩:=Zm6 args h.2 ws;simp only[ET.twin];refine⟨⟨Nat.le_trans h1 wa,Nat.le_trans h2 wd,h3,h4,i1⟩,?_⟩;simp only[ET.wt];split<;>omega theorem Zm6: ∀l:List ET,Ju l=true→Ed 1048576 l→Ed 1048576 (Ge l)∧Kw (Ge l)≤Kw l|[],_,_=>⟨trivial,Nat.le_refl _⟩|t::ts,h,hw=>by simp only[Ju,Bool.and_eq_true]at h;obtain⟨h1,h2⟩:=Du t h.1 hw.1;obtain⟨h3,h4⟩:=Zm6 ts h.2 hw.2;simp only[Ge,Kw];exact⟨⟨h1,h3⟩,by omega⟩ end
theorem twS_top{op:Int}{neg:Bool}{abs den:List Nat}(hD:op=0→0<dv B64 den)(fs:List FD):Qv op (twS op neg abs den).1 (dv B64 (twS op neg abs den).2.1) (dv B64 (twS op neg abs den).2.2) fs=Qv op neg (dv B64 abs) (dv B64 den) fs:=by
 by_cases h0:op=0;·have hl:=Ap (neg:=neg) (n:=dv B64 abs) (hD h0);unfold Qv twS;simp only[if_pos h0];rw[Xx Yf,Xx Yf,hl.1]
 ·exact topFD_op h0 _ _ _ _ _ _ _
mutual theorem Zo0: ∀t:ET,t.allGood=true→t.twin.fold=t.fold| .node op neg abs den args,h=>by simp only[ET.allGood,Bool.and_eq_true]at h;simp only[ET.twin,ET.fold,Zm5 args h.2];rw[twS_top (Kn h.1).2.2.2] theorem Zm5: ∀l:List ET,Ju l=true→Xq (Ge l)=Xq l|[],_=>rfl|t::ts,h=>by simp only[Ju,Bool.and_eq_true]at h;simp only[Ge,Xq,Zo0 t h.1,Zm5 ts h.2] end
inductive OX(H:AH):(Nat→Prop)→List Value→ET→Prop|mk{P:Nat→Prop}{op:Int}{neg:Bool}{va vd vx:Value}{abs den:List Nat}{args:List ET}(css:List (List Value))(Q:Nat→Nat→Prop):Sl H va abs→Sl H vd den→Lst 5 H vx css→css.length=args.length→(∀b,Qi vx=some b→P b)→(∀i c,Q i c→P c∧Qi vx≠some c)→(∀i j c,i≠j→Q i c→ ¬Q j c)→(∀(i:Nat)(cs:List Value)(t:ET),css[i]?=some cs→args[i]?=some t→OX H (Q i) cs t)→OX H P [.int .i64 op,.bool neg,va,vd,vx] (.node op neg abs den args)
theorem OX.len{H:AH}{P:Nat→Prop}{vs:List Value}{t:ET}(h:OX H P vs t):vs.length=5:=by cases h;rfl
theorem OX.five{H:AH}{P:Nat→Prop}{vs:List Value}{t:ET}(h:OX H P vs t): ∃op s va vd vx,vs=[.int .i64 op,.bool s,va,vd,vx]∧(∃a l c,va= .slice a l c)∧(∃a l c,vd= .slice a l c)∧ ∃a l c,vx= .slice a l c:=by cases h with|mk css Q h1 h2 h3=>exact⟨_,_,_,_,_,rfl,h1.shape,h2.shape,h3.shape⟩
theorem OX.ones{H:AH}{P:Nat→Prop}{vs:List Value}{t:ET}(h:OX H P vs t):vs.all one=true:=by obtain⟨op,s,va,vd,vx,rfl,⟨a,l,c,rfl⟩,⟨a',l',c',rfl⟩,⟨a'',l'',c'',rfl⟩⟩:=h.five;rfl
theorem OX.noU{H:AH}{P:Nat→Prop}{vs:List Value}{t:ET}(h:OX H P vs t):noU vs=true:=by obtain⟨op,s,va,vd,vx,rfl,⟨a,l,c,rfl⟩,⟨a',l',c',rfl⟩,⟨a'',l'',c'',rfl⟩⟩:=h.five;rfl
theorem OX.weak{H:AH}{P P':Nat→Prop}{vs:List Value}{t:ET}(h:OX H P vs t)(hp: ∀j,P j→P' j):OX H P' vs t:=by cases h with|mk css Q h1 h2 h3 h4 h5 h6 h7 h8=>exact .mk css Q h1 h2 h3 h4 (fun b hb=>hp b (h5 b hb)) (fun i c hc=>⟨hp c (h6 i c hc).1,(h6 i c hc).2⟩) h7 h8
theorem OX.fr{H H':AH}{P:Nat→Prop}{vs:List Value}{t:ET}(h:OX H P vs t)(f:Fr H H')(hf: ∀j,P j→j<H.n→H'.blk j=H.blk j):OX H' P vs t:=by induction h with|mk css Q h1 h2 h3 h4 h5 h6 h7 h8 ih=>exact .mk css Q (h1.fr f) (h2.fr f) (h3.frame f.1 fun b hb=>hf b (h5 b hb) (h3.blk_lt hb).1) h4 h5 h6 h7 fun i cs t hc ht=>ih i cs t hc ht fun j hj hn=>hf j (h6 i j hj).1 hn
theorem OX.keep{H H':AH}{P:Nat→Prop}{vs:List Value}{t:ET}(h:OX H P vs t)(k:Keep H H'):OX H' P vs t:=h.fr k.fr fun j _ hj=>k.blk j hj
theorem OX.ex{H:AH}{P:Nat→Prop}{vs:List Value}{t:ET}(h:OX H P vs t):Ex H vs t:=by induction h with
 |@mk P op neg va vd vx abs den args css Q h1 h2 h3 h4 h5 h6 h7 h8 ih=>
  refine .mk h1 h2 ?_;rcases h3 with⟨rfl,rfl⟩|⟨b,rfl,g1,g2,g3⟩;·obtain rfl:args=[]:=List.length_eq_zero_iff.mp h4.symm;exact .nil
  ·rw[h4];refine .mk b 0 args.length g1 (AH.cells_rw' g2 (by decide)) (Nat.le_refl _) fun i t hi=>?_;have hlt:i<css.length:=by rw[h4];exact(List.getElem?_eq_some_iff.mp hi).1
   have hc:=List.getElem?_eq_getElem hlt;rw[Nat.zero_add,Cf g3 hc];exact ih i _ t hc hi
theorem noU5{op:Int}{s:Bool}{p q v:Value}(hp: ∃a l c,p= .slice a l c)(hq: ∃a l c,q= .slice a l c)(hv: ∃a l c,v= .slice a l c):noU [.int .i64 op,.bool s,p,q,v]=true:=by obtain⟨a,l,c,rfl⟩:=hp;obtain⟨a',l',c',rfl⟩:=hq;obtain⟨a'',l'',c'',rfl⟩:=hv;rfl
theorem uXs:Tryz.prog.underlying 51=some (.slice 53):=by kernel_rfl
theorem top_nn(H:AH):H.top.n=H.n:=rfl
theorem grown_fr{H I:AH}(k:Keep H.top I):Fr I (grown H I):=⟨Nat.le_refl _,fun j hj=> .inl ((Yh k).blk j hj (fun e=>by cases e))⟩
theorem buildX1{ws:List Value}(hl:ws.length=5)(H:AH): ∃I,Qe Tryz.prog H 51 1 [(0,.agg ws.toArray)]=some (.slice (some ⟨H.n,0,none⟩) 1 1,I)∧Keep H I∧I.n=H.n+1∧I.blk H.n= .rw 5 ws:=by match ws,hl with|[v0,v1,v2,v3,v4],_=>exact⟨_,bXs1 H v0 v1 v2 v3 v4,Keep.new _ _ _,rfl,by rw[AH.blk_new,if_pos rfl]⟩
theorem putDX1{H:AH}{b:Nat}{op s p q r p' q':Value}{x:Bool}(hb:H.blk b= .rw 1 [op,s,p,q,r])(hbn:b<H.n)(h1:one op=true)(h2:one p'=true)(h3:one q'=true)(h4:one r=true): ∃H2,Xt Tryz.prog H.top 34 (.pointer (some ⟨b,1,none⟩)) (.agg #[.bool x,p',q'])=some H2∧H2.n=H.n∧H2.lw<H.n∧(low H H2).n=H.n∧(low H H2).blk b= .rw 1 [op,.bool x,p',q',r]∧(∀j,j≠b→(low H H2).blk j=H.blk j)∧KAt b H (low H H2):=by obtain⟨H2,st,q,n1,o,ka,lw⟩:=Gm (H:=H.top) (o:=1) Un hb (v:= .agg #[.bool x,p',q']) (ws:=[.bool x,p',q']) rfl rfl (by simp) (by simp[h2,h3,show one (Value.bool x)=true from rfl]);exact⟨H2,st,n1,by rw[lw];show min H.n b<H.n;omega,n1,q,o,Aj ka⟩
theorem putX1{H:AH}{b:Nat}{op s p q r p' q':Value}{x:Bool}(hb:H.blk b= .rw 1 [op,s,p,q,r])(h2:one p'=true)(h3:one q'=true): ∃H2,Xt Tryz.prog H 34 (.pointer (some ⟨b,1,none⟩)) (.agg #[.bool x,p',q'])=some H2∧H2.n=H.n∧H2.blk b= .rw 1 [op,.bool x,p',q',r]∧(∀j,j≠b→H2.blk j=H.blk j)∧KAt b H H2:=by obtain⟨H2,st,q,n1,o,ka,_⟩:=Gm (H:=H) (o:=1) Un hb (v:= .agg #[.bool x,p',q']) (ws:=[.bool x,p',q']) rfl rfl (by simp) (by simp[h2,h3,show one (Value.bool x)=true from rfl]);exact⟨H2,st,n1,q,o,ka⟩
theorem sXsl:Qq Tryz.prog 51=some 1:=by kernel_rfl
theorem putDX4{H:AH}{b:Nat}{op s p q r v:Value}(hb:H.blk b= .rw 1 [op,s,p,q,r])(hbn:b<H.n)(hv:v.cells=#[v])(h1:one v=true): ∃H2,Xt Tryz.prog H.top 51 (.pointer (some ⟨b,4,none⟩)) v=some H2∧H2.n=H.n∧H2.lw<H.n∧(low H H2).n=H.n∧(low H H2).blk b= .rw 1 [op,s,p,q,v]∧(∀j,j≠b→(low H H2).blk j=H.blk j)∧KAt b H (low H H2):=by obtain⟨H2,st,q,n1,o,ka,lw⟩:=Gm (H:=H.top) (o:=4) sXsl hb (v:=v) (ws:=[v]) (by rw[hv]) rfl (by simp) (by simp[h1]);exact⟨H2,st,n1,by rw[lw];show min H.n b<H.n;omega,n1,q,o,Aj ka⟩
theorem loadXA{H:AH}{b:Nat}{v0 v1 v2 v3 v4:Value}(h:H.blk b= .rw 1 [v0,v1,v2,v3,v4]):Ys Tryz.prog H 4 (.pointer (some ⟨b,1,none⟩))=some v1:=Yt aBool (AH.cells_rw' h (by decide)) rfl
theorem loadXB{H:AH}{b:Nat}{v0 v1 v2 v3 v4:Value}(h:H.blk b= .rw 1 [v0,v1,v2,v3,v4]):Ys Tryz.prog H 30 (.pointer (some ⟨b,2,none⟩))=some v2:=Yt aNat (AH.cells_rw' h (by decide)) rfl
theorem loadXC{H:AH}{b:Nat}{v0 v1 v2 v3 v4:Value}(h:H.blk b= .rw 1 [v0,v1,v2,v3,v4]):Ys Tryz.prog H 30 (.pointer (some ⟨b,3,none⟩))=some v3:=Yt aNat (AH.cells_rw' h (by decide)) rfl
theorem faN1(b:Nat):Xf Tryz.prog 34 (.pointer (some ⟨b,1,none⟩)) 0=some (.pointer (some ⟨b,1,none⟩)):=faN b 1
theorem faD1(b:Nat):Xf Tryz.prog 34 (.pointer (some ⟨b,1,none⟩)) 1=some (.pointer (some ⟨b,3,none⟩)):=faD b 1
theorem faNeg1(b:Nat):Xf Tryz.prog 32 (.pointer (some ⟨b,1,none⟩)) 0=some (.pointer (some ⟨b,1,none⟩)):=Gj b 1
theorem faAbs1(b:Nat):Xf Tryz.prog 32 (.pointer (some ⟨b,1,none⟩)) 1=some (.pointer (some ⟨b,2,none⟩)):=faAbs b 1
section
attribute [-simp] Int.natCast_add Int.natCast_mul Int.natCast_ediv Int.natCast_emod Int.natCast_pow
attribute [local simp] strip Ye LW' LR gW Yk Xc Zz Xd Yn Xe Zr Zs Zg Yo Yz Yj Xi Zv Yp Zh Ze Xh Xg Qu Ya Xa opd Qd Yl plain Yg Tr.get_set Qb Zp Xv Yc sameKind undef Zu Yr Yw Zn Yb parts unV DW Xl Zy LX Zx
attribute [local simp] top_nn
section
set_option maxHeartbeats 1000000 in theorem twin_walk: ∀n(t:ET),t.nodes≤n→ ∀(H:AH)(vs:List Value),Ex H vs t→t.wide 1048576→t.allGood=true→ ∃us H',Zq Tryz.prog Zo 78 [.agg vs.toArray] H=some (.agg us.toArray,H')∧Keep H H'∧OX H' (fun j=>H.n≤j∧j<H'.n) us t.twin:=by intro n;induction n with
 |zero=>intro t h;have:=Vm t;omega
 |succ n ih=>
  intro t ht H vs hE hw hg;suffices hs:CW Tryz.prog Zo 78 [.agg vs.toArray] H fun x H'=> ∃us:List Value,x= .agg us.toArray∧Keep H H'∧OX H' (fun j=>H.n≤j∧j<H'.n) us t.twin by obtain⟨x,H',hc,us,rfl,k,o⟩:=hs;exact⟨us,H',hc,k,o⟩
  obtain⟨op,neg,abs,den,args⟩:=t;have hE':=hE;cases hE' with
   |@mk _ _ va vd vx _ _ _ h1 h2 h3=>
    obtain⟨wa,wd,da,dd,wx⟩:=hw;simp only[ET.nodes]at ht;simp only[ET.allGood,Bool.and_eq_true]at hg;obtain⟨hgn,hga⟩:=hg;obtain⟨len,hln⟩: ∃len,len=args.length:=⟨_,rfl⟩;have hlx:=h3.len;rw[←hln]at hlx;have hlen9:=Fi args;have hlen:len≤1000000:=by
     have:=(Kn hgn).2.2.1;have h16:=(Kn hgn).2.1;have h0:=(Kn hgn).1;have har: ∀k,k<16→arity k≤2:=by decide
     have:=har op.toNat (by omega);omega
    have hD:=(Kn hgn).2.2.2;obtain⟨H2,e2,k2,n2,q0,q1⟩:=Qy H [.int .i64 op,.bool neg,va,vd,vx] [.int .i64 0,.bool false,.slice none 0 0,.slice none 0 0,.slice none 0 0];have z2:=q0;obtain⟨H3,st3,k3,q2,n3⟩:=newX (H:=H2) (vs:=[.int .i64 op,.bool false,.slice none 0 0,.slice none 0 0,.slice none 0 0]) rfl rfl;replace q0:=(k3.blk _ (by omega)).trans q0;replace q1:=(k3.blk _ (by omega)).trans q1;obtain⟨S3,hS3⟩: ∃S3,S3=twS op neg abs den:=⟨_,rfl⟩;refine Zj 56 (by decide) (by decide) Tryz.func78 rfl rfl ?_;apply Zb;intro b1 hb1;apply Za;simp[Value.cells,Cx,Jt,e2];subst hb1;apply Zb;intro b1 hb1;apply Za;simp[Ei,Ko z2,bXop,Cx,Value.cells,st3];subst hb1;refine Qs (fun s'=>s'.k=56∧Keep H s'.H∧H.n+3≤s'.H.n∧s'.H.blk H.n= .rw 1 [.int .i64 op,.bool neg,va,vd,vx]∧s'.H.blk (H.n+1)= .rw 1 [.int .i64 0,.bool false,.slice none 0 0,.slice none 0 0,.slice none 0 0]∧(∃p q,s'.H.blk H2.n= .rw 1 [.int .i64 op,.bool S3.1,p,q,.slice none 0 0]∧Sl s'.H p S3.2.1∧Sl s'.H q S3.2.2)∧s'.tm.get 1=some (.pointer (some ⟨H.n,0,none⟩))∧s'.tm.get 2=some (.pointer (some ⟨H.n+1,0,none⟩))∧s'.tm.get 3=some (.pointer (some ⟨H2.n,0,none⟩))) ?_ ?_
    ·intro Q'' hQ'';apply Zb;intro b2 hb2;apply Za;simp[Ei,Ko q0,Zb5];subst hb2;by_cases h0:op=0
     ·have hS3:S3=((Yq neg (dv B64 abs) (dv B64 den)).1,ds B64 (Yq neg (dv B64 abs) (dv B64 den)).2.1,ds B64 (Yq neg (dv B64 abs) (dv B64 den)).2.2):=by rw[hS3];unfold twS;rw[if_pos h0]
      obtain⟨R,hR⟩: ∃R,R=Yq neg (dv B64 abs) (dv B64 den):=⟨_,rfl⟩;rw[←hR]at hS3;have bA:=Bu da wa;have bB:=Bu dd wd;have K:=(k2.trans k3);have q0a:=q0;have q1a:=q1;have q2a:=q2;have vka: ∀{J:AH}(k:Keep H3 J){bits ms},(∀x∈ms,H3.n≤x.2.1)→ ∀b,b<H3.n→(vis J bits ms).blk b=H3.blk b:=fun k _ _ h b hb=>(Qw k h).blk b hb;obtain⟨w1,Ia1,da1,kIa1,o1⟩:=Kc ((h1.keep K).top) da (Nat.le_trans wa (by decide));obtain⟨Ja1,hJa1⟩: ∃J,J=grown H3 Ia1:=⟨_,rfl⟩;have kJa1:Keep H3 Ja1:=by rw[hJa1];exact Zw (.refl _) kIa1
      have ma1:H3.n≤Ia1.n:=kIa1.n;have kka1:=kJa1;have nka1:=kka1.n;have K:=K.trans kJa1;replace o1:=o1.same (Yh kIa1);rw[←hJa1]at o1;replace o1:Own H3.n Ja1 _ _:=o1;obtain⟨w2,Ia2,da2,kIa2,o2⟩:=Kc ((h2.keep K).top) dd (Nat.le_trans wd (by decide));obtain⟨Ja2,hJa2⟩: ∃J,J=grown Ja1 Ia2:=⟨_,rfl⟩;have kJa2:Keep Ja1 Ja2:=by rw[hJa2];exact Zw (.refl _) kIa2
      have ma2:Ja1.n≤Ia2.n:=kIa2.n;have kka2:=kka1.trans kJa2;have nka2:=kka2.n;have K:=K.trans kJa2;replace o1:=o1.mono (Nat.le_refl _) kJa2;replace o2:=o2.same (Yh kIa2);rw[←hJa2]at o2;replace o2:Own Ja1.n Ja2 _ _:=o2;replace q0:=(kka2.blk _ (by omega)).trans q0;replace q1:=(kka2.blk _ (by omega)).trans q1;replace q2:=(kka2.blk _ (by omega)).trans q2;have r1:=q2;obtain⟨Sa1,ssta1,sna1,slwa1,fna1,q2,foa1,fka1⟩:=putDX1 (x:=neg) q2 (by omega) rfl o1.one1 o2.one1 rfl;obtain⟨Fa1,hFa1⟩: ∃F,F=low Ja2 Sa1:=⟨_,rfl⟩;rw[←hFa1]at fna1 q2 foa1 fka1;have K:=fka1 _ K (by omega);replace q0:=(foa1 _ (by omega)).trans q0;replace q1:=(foa1 _ (by omega)).trans q1;replace o1:=o1.off (b:=H2.n) (by first|omega|(show _<AH.n _;omega)) fna1 foa1;replace o2:=o2.off (b:=H2.n) (by first|omega|(show _<AH.n _;omega)) fna1 foa1;have z0:=q0;obtain⟨p,q,H4,c4,k4,o3,o4⟩:=Ez neg (h1.keep K) (h2.keep K) da dd (Nat.le_trans wa (by decide)) (Nat.le_trans wd (by decide)) rfl rfl (by omega) (by omega) (hD h0);have n4:=k4.n;have K:=K.trans k4;replace q0:=(k4.blk _ (by omega)).trans q0;replace q1:=(k4.blk _ (by omega)).trans q1;replace q2:=(k4.blk _ (by omega)).trans q2;replace o1:=o1.mono (Nat.le_refl _) k4;replace o2:=o2.mono (Nat.le_refl _) k4;rw[←hR]at c4 o3 o4;obtain⟨H5,st5,k5,q3,n5⟩:=newQ (H:=H4) (p:= .bool R.1) (q:=p) (r:=q) (by simp[o3.one1,o4.one1,show one (Value.bool R.1)=true from rfl]);have K:=K.trans k5;replace q0:=(k5.blk _ (by omega)).trans q0;replace q1:=(k5.blk _ (by omega)).trans q1;replace q2:=(k5.blk _ (by omega)).trans q2;replace o1:=o1.mono (Nat.le_refl _) k5;replace o2:=o2.mono (Nat.le_refl _) k5;replace o3:=o3.mono (Nat.le_refl _) k5;replace o4:=o4.mono (Nat.le_refl _) k5;have z3:=q3;obtain⟨H6,st6,n6,q2,b6,ka6⟩:=putX1 (x:=R.1) q2 o3.one1 o4.one1;have K:=ka6 _ K (by omega);replace q0:=(b6 _ (by omega)).trans q0;replace q1:=(b6 _ (by omega)).trans q1;replace q3:=(b6 _ (by omega)).trans q3;replace o1:=o1.off (b:=H2.n) (by first|omega|(show _<AH.n _;omega)) n6 b6;replace o2:=o2.off (b:=H2.n) (by first|omega|(show _<AH.n _;omega)) n6 b6;replace o3:=o3.off (b:=H2.n) (by first|omega|(show _<AH.n _;omega)) n6 b6;replace o4:=o4.off (b:=H2.n) (by first|omega|(show _<AH.n _;omega)) n6 b6;have nn4:=k4.n;refine Zc (t:=true) (by simp[h0]) ?_;apply Zb;intro b3 hb3;apply Qm (by kernel_rfl);simp[Ad,faN1,faNeg1];refine Yd (v:= .bool neg) rfl rfl rfl (by rw[Zk rfl];simp[loadXA (H:=AH.top H3) q0a]) ?_;simp[Ad,faN1,faAbs1];refine Yd (v:=va) rfl rfl rfl (by rw[Zk rfl];simp[loadXB (H:=AH.top H3) q0a]) ?_;simp;refine Yv (v:=w1) (H2:=Ia1) rfl rfl rfl (by rw[Zk rfl];simp[da1]) ma1 (Yx kIa1) ?_;rw[←hJa1];have Ma1:=(Fs.nil H3.n).cons (i:=8) (a:=H3.n) (b:=Ia1.n) (by omega);generalize cond (Nat.blt H3.n Ia1.n) _ _=msa1 at Ma1;simp[Za7 (b:=neg) o1.shape,Ad,faD1];refine Yd (v:=vd) rfl rfl rfl (by simp[loadXC ((vka kka1 Ma1.ge _ (by omega)).trans q0a)]) ?_;simp;refine Yv (v:=w2) (H2:=Ia2) rfl rfl rfl (by rw[Zk (Ma1.hid (by kernel_rfl))];simp[da2]) ma2 (Yx kIa2) ?_;rw[←hJa2];have Ma2:=Ma1.cons (i:=13) (a:=Ja1.n) (b:=Ia2.n) (by omega);generalize cond (Nat.blt Ja1.n Ia2.n) _ _=msa2 at Ma2;simp[Za6 (x:=neg) o1.shape o2.shape,Ad];refine Xk (v:= .tuple #[]) (H2:=Sa1) rfl rfl (by kernel_rfl) (Ma2.hid (by kernel_rfl)) ?_ (by omega) slwa1 ?_;·show Yk _ _ _ _ Ja2.top _=_;simp[ssta1,Ad]
      rw[show({ n:=Sa1.n,lw:=min Ja2.lw Sa1.lw,t:=Sa1.t } :AH)=Fa1 from hFa1.symm];rw[show Nat.blt Ja2.n Sa1.n=false from by rw[sna1];exact Qj _,cond_false];simp[Ad];subst hb3;apply Zb;intro b1 hb1;apply Za;simp[Ad,loadX1 z0,c4,Jw,Value.cells,st5];subst hb1;apply Zb;intro b1 hb1;apply Za;simp[show Zd .eql .i64 0 0=some (.bool true)from rfl];subst hb1;refine Zc (t:=true) (by simp) ?_;apply Za;simp[Xu z3,Ad,st6];apply hQ'';rw[hS3];exact⟨rfl,K,by show H.n+3≤H6.n;omega,q0,q1,⟨p,q,q2,o3.sl,o4.sl⟩,by simp,by simp,by simp⟩
     ·have hS3:S3=(false,[],[]):=by rw[hS3];unfold twS;rw[if_neg h0]
      refine Zc (t:=false) (by simp[h0]) ?_;apply Zi;apply hQ'';rw[hS3];exact⟨rfl,k2.trans k3,by show H.n+3≤H3.n;omega,q0,q1,⟨_,_,q2,.nil,.nil⟩,by simp,by simp,by simp⟩
    clear q0 q1 q2 z2;rintro⟨k,tm,Hb⟩ ⟨hk,kb,nb,q0,q1,⟨p,q,q2,sp,sq⟩,u1,u2,u3⟩;simp only at hk kb nb q0 q1 q2 sp sq u1 u2 u3;subst hk;have psh:=sp.shape;have qsh:=sq.shape;apply Zb;intro b1 hb1;apply Zb;intro b2 hb2;apply Za;simp[u1,Ze6,loadX4 q0,hlx];subst hb2;apply Zt;refine Xw (fun n s'=>s'.k=56∧ ∃(i:Nat) (av:Value) (css:List (List Value)) (Q:Nat→Nat→Prop),n+i=len∧Keep H s'.H∧H.n+3≤s'.H.n∧s'.H.blk H.n= .rw 1 [.int .i64 op,.bool neg,va,vd,vx]∧s'.H.blk (H.n+1)= .rw 1 [.int .i64 0,.bool false,.slice none 0 0,.slice none 0 0,.slice none 0 0]∧s'.H.blk H2.n= .rw 1 [.int .i64 op,.bool S3.1,p,q,av]∧Sl s'.H p S3.2.1∧Sl s'.H q S3.2.2∧Lst 5 s'.H av css∧css.length=i∧(∀b,Qi av=some b→H.n+3≤b)∧(∀j c,Q j c→H.n+3≤c∧c<s'.H.n∧Qi av≠some c)∧(∀j l c,j≠l→Q j c→ ¬Q l c)∧(∀(j:Nat)(cs:List Value)(t:ET),css[j]?=some cs→args[j]?=some t→OX s'.H (Q j) cs t.twin)∧s'.tm.get 1=some (.pointer (some ⟨H.n,0,none⟩))∧s'.tm.get 2=some (.pointer (some ⟨H.n+1,0,none⟩))∧s'.tm.get 3=some (.pointer (some ⟨H2.n,0,none⟩))∧s'.tm.get 41=some vx∧s'.tm.get 42=some (.int .i64 (len:Int))∧s'.tm.get 43=some (.int .i64 (i:Int))) ?_ len _ ⟨rfl,0,.slice none 0 0,[],fun _ _=>False,by omega,kb,nb,q0,q1,q2,sp,sq,.nil,rfl,(fun b hb=>by cases hb),(fun _ _ h=>h.elim),(fun _ _ _ _ h=>h.elim),(fun j cs t h=>by simp at h),by simp[u1],by simp[u2],by simp[u3],by simp,by simp,by simp⟩;clear q0 q1 q2 sp sq u1 u2 u3 kb nb;rintro n' ⟨k,tm,Hc⟩ ⟨hk,i,av,css,Q,hni,kc,nc,qx,qz,qy,spc,sqc,hL,hcl,hav,hQ1,hQ2,hQ3,u1,u2,u3,u41,u42,u43⟩ Q' hQ';simp only at hk kc nc qx qz qy spc sqc hL hQ1 hQ3 u1 u2 u3 u41 u42 u43;subst hk;apply Zb;intro b3 hb3;apply Za;simp[u42,u43,lssN];subst hb3;apply Zb;intro b3 hb3;by_cases hi:i<len
    ·refine Zc (t:=true) (by simp[hi]) ?_;apply Zi;subst hb3;obtain⟨ti,hti⟩: ∃ti,args[i]?=some ti:=⟨args[i]'(by omega),List.getElem?_eq_getElem (by omega)⟩;have hnt:=Dk hti;obtain⟨pp,us,hadr,hlod,hEt⟩:=h3.at hti;have hld:=hlod Hc kc;obtain⟨H4,st4,k4,q8,n4⟩:=newX (H:=Hc) hEt.len hEt.ones;have qx4:=(k4.blk _ (by omega)).trans qx;have qz4:=(k4.blk _ (by omega)).trans qz;have qy4:=(k4.blk _ (by omega)).trans qy;have K:=(kc.trans k4);have qx4a:=qx4;have qz4a:=qz4;have qy4a:=qy4;have q8a:=q8;have vka: ∀{J:AH}(k:Keep H4 J){bits ms},(∀x∈ms,H4.n≤x.2.1)→ ∀b,b<H4.n→(vis J bits ms).blk b=H4.blk b:=fun k _ _ h b hb=>(Qw k h).blk b hb;obtain⟨ws,Ia1,da1,kIa1,ox⟩:=ih ti (by omega) H4.top us ((hEt.keep K).keep (Ce _)) (Cw wx hti) (Zc1 hga hti);obtain⟨Ja1,hJa1⟩: ∃J,J=grown H4 Ia1:=⟨_,rfl⟩;have kJa1:Keep H4 Ja1:=by rw[hJa1];exact Zw (.refl _) kIa1
     have ma1:H4.n≤Ia1.n:=kIa1.n;have kka1:=kJa1;have nka1:=kka1.n;have K:=K.trans kJa1;obtain⟨Ia2,da2,kIa2,nI2,bI2⟩:=buildX1 ox.len Ja1.top;obtain⟨Ja2,hJa2⟩: ∃J,J=grown Ja1 Ia2:=⟨_,rfl⟩;have kJa2:Keep Ja1 Ja2:=by rw[hJa2];exact Zw (.refl _) kIa2
     have ma2:Ja1.n≤Ia2.n:=kIa2.n;have kka2:=kka1.trans kJa2;have nka2:=kka2.n;have K:=K.trans kJa2;replace qx4:=(kka2.blk _ (by omega)).trans qx4;replace qz4:=(kka2.blk _ (by omega)).trans qz4;replace qy4:=(kka2.blk _ (by omega)).trans qy4;replace q8:=(kka2.blk _ (by omega)).trans q8;have nJ1:Ja1.n=Ia1.n:=by rw[hJa1];rfl
     have nJ2:Ja2.n=Ja1.n+1:=by rw[hJa2];exact nI2
     have bJ2:Ja2.top.blk Ja1.n= .rw 5 ws:=by show Ja2.blk Ja1.n=_;rw[hJa2,(Yh kIa2).blk Ja1.n (by rw[nI2];exact Nat.lt_succ_self _) (fun e=>by cases e)];exact bI2
     have ox1:OX Ja1 (fun j=>H4.n≤j∧j<Ja1.n) ws ti.twin:=by rw[hJa1];exact ox.fr (grown_fr kIa1) fun j _ hj=>(Yh kIa1).blk j hj (fun e=>by cases e)
     have ox2:=ox1.keep kJa2;have kH4:=k4.trans kka2;obtain⟨He,hap,ne,othe,hLe,hk0,hk1⟩:=((hL.keep kH4).keep (Ce Ja2)).append (by decide) bJ2 ox.len ox.ones sXs (by decide) Cx rfl (by omega);replace ne:He.n=Ja2.n+1:=ne;replace hLe:Lst 5 He (.slice (some ⟨Ja2.n,0,none⟩) (css.length+1) (css.length+1)) (css++[ws]):=hLe;replace othe: ∀j,j<Ja2.n→Qi av≠some j→He.blk j=Ja2.blk j:=othe;have avsh:=hL.shape;have nkH:=kH4.n;obtain⟨Gd,hGd⟩: ∃Gd:AH→Prop,∀G,Gd G↔(G.n=He.n∧Keep H G∧G.blk H.n= .rw 1 [.int .i64 op,.bool neg,va,vd,vx]∧G.blk (H.n+1)= .rw 1 [.int .i64 0,.bool false,.slice none 0 0,.slice none 0 0,.slice none 0 0]∧G.blk H2.n= .rw 1 [.int .i64 op,.bool S3.1,p,q,.slice (some ⟨Ja2.n,0,none⟩) (css.length+1) (css.length+1)]∧Sl G p S3.2.1∧Sl G q S3.2.2∧Lst 5 G (.slice (some ⟨Ja2.n,0,none⟩) (css.length+1) (css.length+1)) (css++[ws])∧(∀(j:Nat)(cs:List Value)(t:ET),(css++[ws])[j]?=some cs→args[j]?=some t→OX G (fun c=>(j=i∧H4.n≤c∧c<Ja1.n)∨(j<i∧Q j c)) cs t.twin)):=⟨_,fun _=>Iff.rfl⟩;have fin: ∀G3:AH,But none He G3→KAt (H.n+3) Ja2 G3→ ∃Hs,Xt Tryz.prog G3.top 51 (.pointer (some ⟨H2.n,4,none⟩)) (.slice (some ⟨Ja2.n,0,none⟩) (css.length+1) (css.length+1))=some Hs∧Hs.n=G3.n∧Hs.lw<G3.n∧Gd (low G3 Hs):=fun G3 bt kag=>by
      have old: ∀j,j<Ja2.n→Qi av≠some j→G3.blk j=Ja2.blk j:=fun j hj h=>(bt.blk j (by omega) (fun e=>by cases e)).trans (othe j hj h);have nav: ∀j,j<H.n+3→Qi av≠some j:=fun j hj e=>by have:=hav j e;omega
      have qy3:G3.blk H2.n= .rw 1 [.int .i64 op,.bool S3.1,p,q,av]:=(old _ (by omega) (nav _ (by omega))).trans qy4;have n3e:=bt.n;obtain⟨Hs,ss,sn,slw,fn,fb,fo,fk⟩:=putDX4 (v:= .slice (some ⟨Ja2.n,0,none⟩) (css.length+1) (css.length+1)) qy3 (by omega) rfl rfl;refine⟨Hs,ss,sn,slw,(hGd _).2 ?_⟩;obtain⟨G4,hG4⟩: ∃G4,G4=low G3 Hs:=⟨_,rfl⟩;rw[←hG4]at fn fb fo fk⊢;have keepj: ∀j,j<Ja2.n→Qi av≠some j→j≠H2.n→G4.blk j=Ja2.blk j:=fun j hj h h2=>(fo j h2).trans (old j hj h);have f4:Fr Ja2 G4:=⟨by omega,fun j hj=>by
       by_cases e:j=H2.n;·subst e;exact .inr (.inr ⟨_,_,qy4,fb,rfl,noU5 psh qsh avsh,noU5 psh qsh ⟨_,_,_,rfl⟩⟩)
       ·by_cases e2:Qi av=some j;·exact .inr (.inl ⟨5,_,((hL.keep kH4).blk_lt e2).2,by decide⟩)
        ·exact .inl (keepj j hj e2 e)⟩;refine⟨by omega,fk H ((kag H K (by omega))) (by omega),(keepj _ (by omega) (nav _ (by omega)) (by omega)).trans qx4,(keepj _ (by omega) (nav _ (by omega)) (by omega)).trans qz4,fb,(spc.keep kH4).fr f4,(sqc.keep kH4).fr f4,hLe.frame (by omega) (fun b hb=>?_),fun j cs t hc ht=>?_⟩;·cases hb;exact(fo _ (by omega)).trans (bt.blk _ (by omega) (fun e=>by cases e))
      ·rcases Nat.lt_or_ge j i with hj|hj;·rw[List.getElem?_append_left (by omega)]at hc;refine((((hQ3 j cs t hc ht).keep kH4).fr f4 fun c hc' hn=>?_)).weak fun c hc'=> .inr ⟨hj,hc'⟩;obtain⟨g1,g2,g3⟩:=hQ1 j c hc';exact keepj c (by omega) g3 (by omega)
       ·rw[List.getElem?_append_right (by omega)]at hc;have hji:j=i:=by
         rcases Nat.lt_or_ge i j with h|h;·rw[List.getElem?_eq_none (by simp;omega)]at hc;cases hc
         ·omega
        subst hji;rw[hcl,Nat.sub_self]at hc;cases hc;rw[hti]at ht;cases ht;refine(ox2.fr f4 fun c hc' hn=>?_).weak fun c hc'=> .inl ⟨rfl,hc'⟩;exact keepj c (by omega) (fun e=>by have:=(hL.blk_lt e).1;omega) (by omega)
     have l8:=Vd q8 hEt.len;refine Qs (fun s'=>s'.k=56∧Gd s'.H∧s'.tm.get 1=some (.pointer (some ⟨H.n,0,none⟩))∧s'.tm.get 2=some (.pointer (some ⟨H.n+1,0,none⟩))∧s'.tm.get 3=some (.pointer (some ⟨H2.n,0,none⟩))∧s'.tm.get 41=some vx∧s'.tm.get 42=some (.int .i64 (len:Int))∧s'.tm.get 43=some (.int .i64 (i:Int))) ?_ ?_;·intro Q'' hQ'';apply Zt;apply Zb;intro b4 hb4;apply Za;simp[u41,u43,hadr,hld,Cx,Value.cells,st4];subst hb4;apply Qm (by kernel_rfl);simp[u3,Ze6];refine Yd (v:=av) rfl rfl rfl (by rw[Zk rfl];simp[loadX4 (H:=AH.top H4) qy4a]) ?_;simp[u3];refine Yd (v:= .agg us.toArray) rfl rfl rfl (by rw[Zk rfl];simp[Vd (H:=AH.top H4) q8a hEt.len]) ?_;simp;refine Yv (v:= .agg ws.toArray) (H2:=Ia1) rfl rfl rfl (by rw[Zk rfl];simp[da1]) ma1 (Yx kIa1) ?_;rw[←hJa1];have Ma1:=(Fs.nil H4.n).cons (i:=3) (a:=H4.n) (b:=Ia1.n) (by omega);generalize cond (Nat.blt H4.n Ia1.n) _ _=msa1 at Ma1;simp;refine Yv (v:= .slice (some ⟨Ja1.n,0,none⟩) 1 1) (H2:=Ia2) rfl rfl rfl (by rw[Zk (Ma1.hid (by kernel_rfl))];simp[da2]) ma2 (Yx kIa2) ?_;rw[←hJa2];have Ma2:=Ma1.cons (i:=4) (a:=Ja1.n) (b:=Ia2.n) (by omega);generalize cond (Nat.blt Ja1.n Ia2.n) _ _=msa2 at Ma2;simp;cases hxb:Qi av with
      |none=>
       refine Yv (v:= .slice (some ⟨Ja2.n,0,none⟩) (css.length+1) (css.length+1)) (H2:=He) rfl rfl rfl ?_ (by omega) (by rw[(hk0 hxb).2];exact Nat.le_refl _) ?_;·rw[Zk (Ma2.hid (by kernel_rfl))];simp[hap]
       obtain⟨Hs,ss,sn,slw,hfin⟩:=fin (grown Ja2 He) (Yh (hk0 hxb).1) ((Zw (.refl _) (hk0 hxb).1).kat _);have Ma3:=Ma2.cons (i:=5) (a:=Ja2.n) (b:=He.n) (by omega);generalize cond (Nat.blt Ja2.n He.n) _ _=msa3 at Ma3;simp[u3,Ze6];refine Xk (v:= .tuple #[]) (H2:=Hs) rfl rfl (by kernel_rfl) (Ma3.hid (by kernel_rfl)) ?_ (by rw[sn];exact Nat.le_refl _) slw ?_;·show Yk _ _ _ _ (grown Ja2 He).top _=_;simp[ss]
       simp;apply hQ'';exact⟨rfl,hfin,by simp[u1],by simp[u2],by simp[u3],by simp[u41],by simp[u42],by simp[u43]⟩
      |some b=>
       have hb1:=hk1 b hxb;have hb2:b<Ja2.n:=hb1.2.2;refine Xk (v:= .slice (some ⟨Ja2.n,0,none⟩) (css.length+1) (css.length+1)) (H2:=He) rfl rfl (by kernel_rfl) (Ma2.hid (by kernel_rfl)) ?_ (by omega) (by have h3:=hb1.2.1;omega) ?_;·show Yk _ _ _ _ Ja2.top _=_;simp[hap]
       obtain⟨Hs,ss,sn,slw,hfin⟩:=fin (low Ja2 He) (low_but Ja2 He) (Aj (hb1.1.weak (hav b hxb)));have Ma3:=Ma2.cons (i:=5) (a:=Ja2.n) (b:=He.n) (by omega);generalize cond (Nat.blt Ja2.n He.n) _ _=msa3 at Ma3;simp[u3,Ze6];refine Xk (v:= .tuple #[]) (H2:=Hs) rfl rfl (by kernel_rfl) (Ma3.hid (by kernel_rfl)) ?_ (by rw[sn];exact Nat.le_refl _) slw ?_;·show Yk _ _ _ _ (low Ja2 He).top _=_;simp[ss]
       simp;rw[show low (low Ja2 He) Hs= { n:=Hs.n,lw:=min Ja2.lw (min He.lw Hs.lw),t:=Hs.t } by simp[low,Nat.min_assoc]]at hfin;apply hQ'';exact⟨rfl,hfin,by simp[u1],by simp[u2],by simp[u3],by simp[u41],by simp[u42],by simp[u43]⟩
     clear u1 u2 u3 u41 u42 u43;rintro⟨k,tm2,Hx⟩ ⟨hk,hG,u1,u2,u3,u41,u42,u43⟩;simp only at hk hG u1 u2 u3 u41 u42 u43;subst hk;obtain⟨nx,kx,x0,x1,x2,xp,xq,xL,xO⟩:=(hGd _).1 hG;apply Za;simp[u43,Bg (x:=i) (by omega)];apply hQ';refine⟨n'-1,by omega,rfl,i+1,.slice (some ⟨Ja2.n,0,none⟩) (css.length+1) (css.length+1),css++[ws],fun j c=>(j=i∧H4.n≤c∧c<Ja1.n)∨(j<i∧Q j c),by omega,kx,by show H.n+3≤Hx.n;omega,x0,x1,x2,xp,xq,xL,by simp[hcl],(fun b hb=>by cases hb;omega),fun j c hc=>?_,fun j l c hjl h1 h2=>?_,xO,by simp[u1],by simp[u2],by simp[u3],by simp[u41],by simp[u42],by simp⟩
     ·show H.n+3≤c∧c<Hx.n∧_;rcases hc with⟨_,g1,g2⟩|⟨_,g⟩;·exact⟨by omega,by omega,fun e=>by cases e;omega⟩
      ·obtain⟨g1,g2,_⟩:=hQ1 j c g;exact⟨g1,by omega,fun e=>by cases e;omega⟩
     ·rcases h1 with⟨e1,g1,g2⟩|⟨e1,g1⟩
      ·rcases h2 with⟨e2,_,_⟩|⟨e2,g3⟩;·omega
       ·have:=(hQ1 l c g3).2.1;omega
      ·rcases h2 with⟨e2,g2,_⟩|⟨e2,g3⟩;·have:=(hQ1 j c g1).2.1;omega
       ·exact hQ2 j l c hjl g1 g3
    ·refine Zc (t:=false) (by simp[hi]) ?_;apply Xy;apply hQ';left;refine⟨rfl,?_⟩;clear hQ';obtain rfl:i=len:=by omega
     subst hb1;have ash:=hL.shape;have hones:[Value.int .i64 op,.bool S3.1,p,q,av].all one=true:=by obtain⟨a,l,c,rfl⟩:=psh;obtain⟨a',l',c',rfl⟩:=qsh;obtain⟨a'',l'',c'',rfl⟩:=ash;rfl
     obtain⟨H9,st9,n9,q9,b9,ka9⟩:=Fk Zd2 qz rfl (v:= .agg #[.int .i64 op,.bool S3.1,p,q,av]) (ws:=[.int .i64 op,.bool S3.1,p,q,av]) (by simp[Value.cells]) rfl hones;have f9:Fr Hc H9:=Fr.put qz q9 n9 b9 rfl rfl (noU5 psh qsh ash);have hld:=Vd q9 rfl;have hly:=Vd qy rfl;try simp at hld hly
     apply Zb;intro b1 hb1;apply Za;simp[u2,u3,hly,st9];subst hb1;apply Zm;simp[u2,hld];have hcl':css.length=(Ge args).length:=by rw[twinAll_len];omega
     refine⟨ka9 H kc (by omega),?_⟩;simp only[ET.twin];rw[←hS3];refine .mk css Q (spc.fr f9) (sqc.fr f9) (hL.frame (by omega) fun b hb=>b9 b (by have:=hav b hb;omega)) hcl' (fun b hb=>?_) (fun j c hc=>?_) hQ2 fun j cs t hc ht=>?_;·have:=hav b hb;have:=(hL.blk_lt hb).1;exact⟨by omega,by omega⟩
     ·obtain⟨g1,g2,g3⟩:=hQ1 j c hc;exact⟨⟨by omega,by omega⟩,g3⟩
     ·rw[Zq4,List.getElem?_map]at ht;cases hj:args[j]? with|none=>rw[hj]at ht;cases ht|some t0=>rw[hj]at ht;cases ht;exact(hQ3 j cs t0 hc hj).fr f9 fun c hc' hn=>b9 c (by have:=(hQ1 j c hc').1;omega)
end
end
mutual def plaT(p:ET):ET→Nat→ET| .node op neg abs den args,k=>if k=0 then p else .node op neg abs den (plaL p args (k-1)) def plaL(p:ET):List ET→Nat→List ET|[],_=>[]|t::ts,k=>if k<t.nodes then plaT p t k::ts else t::plaL p ts (k-t.nodes) end
theorem plaL_len(p:ET): ∀(l:List ET)(k:Nat),(plaL p l k).length=l.length
 |[],_=>rfl
 |t::ts,k=>by
  unfold plaL;split;·rfl
  ·simp[plaL_len p ts]
theorem plaL_set(p:ET): ∀(l:List ET)(k i:Nat)(t:ET),l[i]?=some t→Yi (l.take i)≤k→k<Yi (l.take i)+t.nodes→plaL p l k=l.set i (plaT p t (k-Yi (l.take i)))|[],k,i,t,h,_,_=>by simp at h|x::xs,k,0,t,h,h1,h2=>by simp at h;subst h;simp only[List.take_zero,Yi,Nat.zero_add,Nat.sub_zero]at h2⊢;unfold plaL;rw[if_pos h2];rfl|x::xs,k,i+1,t,h,h1,h2=>by simp at h;simp only[List.take_succ_cons,Yi]at h1 h2⊢;unfold plaL;rw[if_neg (by omega),plaL_set p xs (k-x.nodes) i t h (by omega) (by omega),List.set_cons_succ,Nat.sub_add_eq]
mutual theorem put_nodes(p:ET): ∀(t:ET)(k:Nat),(plaT p t k).nodes≤t.nodes+p.nodes
 | .node op neg abs den args,k=>by
  unfold plaT;split;·omega
  ·simp only[ET.nodes];have:=plaL_nodes p args (k-1);omega theorem plaL_nodes(p:ET): ∀(l:List ET)(k:Nat),Yi (plaL p l k)≤Yi l+p.nodes
 |[],_=>by simp[plaL,Yi]
 |t::ts,k=>by
  unfold plaL;split;·simp only[Yi];have:=put_nodes p t k;omega
  ·simp only[Yi];have:=plaL_nodes p ts (k-t.nodes);omega end
mutual theorem Zl9{p:ET}(hp:p.wide 1048576): ∀(t:ET)(k:Nat),t.wide 1048576→(plaT p t k).wide 1048576∧(plaT p t k).wt≤t.wt+p.wt
 | .node op neg abs den args,k,hw=>by
  unfold plaT;split;·exact⟨hp,by omega⟩
  ·obtain⟨wa,wd,da,dd,ws⟩:=hw;have:=plaL_wide hp args (k-1) ws;simp only[ET.wt];exact⟨⟨wa,wd,da,dd,this.1⟩,by omega⟩ theorem plaL_wide{p:ET}(hp:p.wide 1048576): ∀(l:List ET)(k:Nat),Ed 1048576 l→Ed 1048576 (plaL p l k)∧Kw (plaL p l k)≤Kw l+p.wt
 |[],_,_=>⟨trivial,by simp[plaL,Kw]⟩
 |t::ts,k,hw=>by
  unfold plaL;split;·have:=Zl9 hp t k hw.1;simp only[Kw];exact⟨⟨this.1,hw.2⟩,by omega⟩
  ·have:=plaL_wide hp ts (k-t.nodes) hw.2;simp only[Kw];exact⟨⟨hw.1,this.1⟩,by omega⟩ end
mutual theorem put_same{p q:ET}(h:p.fold=q.fold): ∀(t:ET)(k:Nat),(plaT p t k).fold=(plaT q t k).fold
 | .node op neg abs den args,k=>by
  unfold plaT;split;·exact h
  ·simp only[ET.fold,plaL_same h args (k-1)] theorem plaL_same{p q:ET}(h:p.fold=q.fold): ∀(l:List ET)(k:Nat),Xq (plaL p l k)=Xq (plaL q l k)
 |[],_=>rfl
 |t::ts,k=>by
  unfold plaL;split;·simp only[Xq,put_same h t k]
  ·simp only[Xq,plaL_same h ts (k-t.nodes)] end
def putClo(nb ab pb wb:Nat):Value:= .func (.func 79) #[] #[.pointer (some ⟨nb,0,none⟩),.pointer (some ⟨ab,0,none⟩),.pointer (some ⟨pb,0,none⟩),.pointer (some ⟨wb,0,none⟩)]
structure PutC (H : AH) (nb ab pb wb n k : Nat) (pvs : List Value) : Prop where
  n : H.blk nb = .rw 1 [.int .i64 (n : Int)]
  k : H.blk ab = .rw 1 [.int .i64 (k : Int)]
  p : H.blk pb = .rw 1 pvs
  w : H.blk wb = .rw 1 [putClo nb ab pb wb]
  ln : nb < H.n
  lk : ab < H.n
  lp : pb < H.n
  lw : wb < H.n
  na : nb ≠ ab
  np : nb ≠ pb
  nw : nb ≠ wb
theorem PutC.move{H H':AH}{nb ab pb wb n n' k:Nat}{pvs:List Value}(h:PutC H nb ab pb wb n k pvs)(hn:H.n≤H'.n)(h0:H'.blk nb= .rw 1 [.int .i64 (n':Int)])(ha:H'.blk ab=H.blk ab)(hp:H'.blk pb=H.blk pb)(hw:H'.blk wb=H.blk wb):PutC H' nb ab pb wb n' k pvs:=⟨h0,ha.trans h.k,hp.trans h.p,hw.trans h.w,Nat.lt_of_lt_of_le h.ln hn,Nat.lt_of_lt_of_le h.lk hn,Nat.lt_of_lt_of_le h.lp hn,Nat.lt_of_lt_of_le h.lw hn,h.na,h.np,h.nw⟩
theorem leqZ1{x y:Int} :Zd .leq .i64 x y=some (.bool (decide (x≤y))):=rfl
theorem aFnP:Jd Tryz.prog 136=some false:=by kernel_rfl
theorem loadFP{H:AH}{b:Nat}{v:Value}(h:H.blk b= .rw 1 [v]):Ys Tryz.prog H 136 (.pointer (some ⟨b,0,none⟩))=some v:=Yt aFnP (AH.cells_rw' h (by decide)) rfl
theorem Fr.putS{H H':AH}{b sz:Nat}{cs cs':List Value}(hb:H.blk b= .rw sz cs)(hb':H'.blk b= .rw sz cs')(hn:H'.n=H.n)(ho: ∀j,j≠b→H'.blk j=H.blk j)(hl:cs.length=cs'.length)(h:sz≠1∨(noU cs=true∧noU cs'=true)):Fr H H':=by
 refine⟨Nat.le_of_eq hn.symm,fun j hj=>?_⟩;by_cases e:j=b
 ·subst e;by_cases h1:sz=1
  ·subst h1;rcases h with h|⟨h2,h3⟩;·exact absurd rfl h
   ·exact .inr (.inr ⟨cs,cs',hb,hb',hl,h2,h3⟩)
  ·exact .inr (.inl ⟨sz,cs,hb,h1⟩)
 ·exact .inl (ho j e)
theorem flat_set: ∀{css:List (List Value)}{i:Nat}{ws:List Value},(∀cs∈css,cs.length=5)→i<css.length→css.flatten.take (i*5)++ws++css.flatten.drop (i*5+5)=(css.set i ws).flatten|[],i,ws,_,h=>by simp at h|c::css,0,ws,h,_=>by have hc:c.length=5:=h c (List.mem_cons_self ..);simp only[List.flatten_cons,Nat.zero_mul,List.take_zero,List.nil_append,List.set_cons_zero,Nat.zero_add];rw[←hc,List.drop_left]|c::css,i+1,ws,h,hi=>by have hc:c.length=5:=h c (List.mem_cons_self ..);have ih:=flat_set (ws:=ws) (fun x hx=>h x (List.mem_cons_of_mem _ hx)) (Nat.lt_of_succ_lt_succ hi);simp only[List.flatten_cons,List.set_cons_succ];rw[←ih,show(i+1)*5=c.length+i*5 by omega,show c.length+i*5+5=c.length+(i*5+5) by omega,List.take_length_add_append,←List.drop_drop,List.drop_left];simp[List.append_assoc]
theorem splice_self{cs vs:List Value}{o:Nat}(h:(cs.drop o).take 5=vs)(ho:o+5≤cs.length):cs.take o++vs++cs.drop (o+5)=cs:=by rw[←h,List.append_assoc,←List.drop_drop,List.take_append_drop,List.take_append_drop]
theorem cell4{cs:List Value}{o:Nat}{v0 v1 v2 v3 v4:Value}(h:(cs.drop o).take 5=[v0,v1,v2,v3,v4]):cs[o+4]?=some v4:=by have:=congrArg (fun l=>l[4]?) h;simp only[List.getElem?_take,List.getElem?_drop]at this;simpa using this
inductive PX(H:AH)(P:Nat→Prop):List Value→ET→Prop|mk{op:Int}{neg:Bool}{va vd vx:Value}{abs den:List Nat}{args:List ET}(css:List (List Value)):Sl H va abs→Sl H vd den→Lst 5 H vx css→css.length=args.length→(∀b,Qi vx=some b→P b)→(∀(i:Nat)(cs:List Value)(t:ET),css[i]?=some cs→args[i]?=some t→PX H P cs t)→PX H P [.int .i64 op,.bool neg,va,vd,vx] (.node op neg abs den args)
theorem OX.px{H:AH}{P P':Nat→Prop}{vs:List Value}{t:ET}(h:OX H P vs t)(hp: ∀j,P j→P' j):PX H P' vs t:=by induction h with|mk css Q h1 h2 h3 h4 h5 h6 h7 h8 ih=>exact .mk css h1 h2 h3 h4 (fun b hb=>hp b (h5 b hb)) fun i cs t hc ht=>ih i cs t hc ht fun j hj=>hp j (h6 i j hj).1
theorem PX.len{H:AH}{P:Nat→Prop}{vs:List Value}{t:ET}(h:PX H P vs t):vs.length=5:=by cases h;rfl
theorem PX.fr{H H':AH}{P:Nat→Prop}{vs:List Value}{t:ET}(h:PX H P vs t)(f:Fr H H')(hf: ∀j,P j→j<H.n→H'.blk j=H.blk j):PX H' P vs t:=by induction h with|mk css h1 h2 h3 h4 h5 h8 ih=>exact .mk css (h1.fr f) (h2.fr f) (h3.frame f.1 fun b hb=>hf b (h5 b hb) (h3.blk_lt hb).1) h4 h5 fun i cs t hc ht=>ih i cs t hc ht
theorem PX.ex{H:AH}{P:Nat→Prop}{vs:List Value}{t:ET}(h:PX H P vs t):Ex H vs t:=by induction h with
 |@mk op neg va vd vx abs den args css h1 h2 h3 h4 h5 h8 ih=>
  refine .mk h1 h2 ?_;rcases h3 with⟨rfl,rfl⟩|⟨b,rfl,g1,g2,g3⟩;·obtain rfl:args=[]:=List.length_eq_zero_iff.mp h4.symm;exact .nil
  ·rw[h4];refine .mk b 0 args.length g1 (AH.cells_rw' g2 (by decide)) (Nat.le_refl _) fun i t hi=>?_;have hlt:i<css.length:=by rw[h4];exact(List.getElem?_eq_some_iff.mp hi).1
   have hc:=List.getElem?_eq_getElem hlt;rw[Nat.zero_add,Cf g3 hc];exact ih i _ t hc hi
def PutIs(H:AH)(P:Nat→Prop)(t p:ET)(sz b o nb n k z:Nat)(cs:List Value)(H':AH):Prop:=H.n≤H'.n∧KAt z H H'∧Fr H H'∧H'.lw<H.n∧((n+t.nodes≤k∧H'.blk nb= .rw 1 [.int .i64 ((n+t.nodes:Nat):Int)]∧(∀j,j<H.n→j≠nb→H'.blk j=H.blk j))∨(k<n+t.nodes∧H'.blk nb= .rw 1 [.int .i64 ((k+1:Nat):Int)]∧(∀j,j<H.n→j≠nb→j≠b→ ¬P j→H'.blk j=H.blk j)∧ ∃vs',H'.blk b= .rw sz (cs.take o++vs'++cs.drop (o+5))∧PX H' (fun j=>z≤j) vs' (plaT p t (k-n))))
section
attribute [-simp] Int.natCast_add Int.natCast_mul Int.natCast_ediv Int.natCast_emod Int.natCast_pow
attribute [local simp] strip Ye LW' LR gW Yk Xc Zz Xd Yn Xe Zr Zs Zg Yo Yz Yj Xi Zv Yp Zh Ze Xh Xg Qu Ya Xa opd Qd Yl plain Yg Tr.get_set Qb Zp Xv Yc sameKind undef Zu Yr Yw Zn Yb parts unV DW Xl Zy LX Zx
attribute [local simp] top_nn Qc Qo
section
set_option maxHeartbeats 1000000 in theorem put_walk{H0:AH}{pvs:List Value}{pt:ET}(hPE:Ex H0 pvs pt)(hPw:pt.wide 1048576)(hPg:pt.allGood=true): ∀m(t:ET),t.nodes≤m→ ∀(H:AH)(P:Nat→Prop)(vs cs:List Value)(sz b o nb ab pb wb n k z:Nat),OX H P vs t→H.blk b= .rw sz cs→sz≠0→b<H.n→(cs.drop o).take 5=vs→o+5≤cs.length→(sz≠1∨(o=0∧cs=vs))→PutC H nb ab pb wb n k pvs→(∀j,P j→z≤j∧j≠b∧j≠nb∧j≠ab∧j≠pb∧j≠wb)→b≠nb→b≠ab→b≠pb→b≠wb→z≤b→z≤nb→Keep H0 H→H0.n≤z→n≤k→k+t.nodes<1000000000→ ∃x H',Zq Tryz.prog Zo 79 [.pointer (some ⟨b,o,none⟩),.pointer (some ⟨nb,0,none⟩),.pointer (some ⟨ab,0,none⟩),.pointer (some ⟨pb,0,none⟩),.pointer (some ⟨wb,0,none⟩)] H=some (x,H')∧PutIs H P t pt.twin sz b o nb n k z cs H':=by intro m;induction m with
 |zero=>intro t h;have:=Vm t;omega
 |succ m ih=>
  intro t ht H P vs cs sz b o nb ab pb wb n k z hO hb hz0 hbn hvs ho hz hC hPj b1n b2n b3n b4n zb zn k0 h0z hnk hkl;suffices hs:CW Tryz.prog Zo 79 [.pointer (some ⟨b,o,none⟩),.pointer (some ⟨nb,0,none⟩),.pointer (some ⟨ab,0,none⟩),.pointer (some ⟨pb,0,none⟩),.pointer (some ⟨wb,0,none⟩)] H fun _ H'=>PutIs H P t pt.twin sz b o nb n k z cs H' by obtain⟨x,H',hc,h⟩:=hs;exact⟨x,H',hc,h⟩
  have hpl:=hPE.len;have addn:Zd .add .i64 (n:Int) 1=some (.int .i64 ((n+1:Nat):Int)):=Bg (x:=n) (by omega);obtain⟨H2,st2,n2,q2,f2,ka2,lw2⟩:=putL sInt hC.n rfl (v:= .int .i64 ((n+1:Nat):Int)) (ws:=[.int .i64 ((n+1:Nat):Int)]) rfl rfl rfl;have fr2:Fr H H2:=Fr.put hC.n q2 n2 f2 rfl rfl rfl;have hC2:=hC.move (Nat.le_of_eq n2.symm) q2 (f2 _ hC.na.symm) (f2 _ hC.np.symm) (f2 _ hC.nw.symm);have kz2:KAt z H H2:=ka2.weak zn;refine Zj 38 (by decide) (by decide) Tryz.func79 rfl rfl ?_;apply Zb;intro b1 hb1;apply Zb;intro b2 hb2;apply Za;simp[El hC.n,El hC.k,Zb5];subst hb2;by_cases hnk1:n=k
  ·subst hnk1;have k02:Keep H0 H2:=kz2 H0 k0 h0z;obtain⟨ws,H3,c3,k3,ox⟩:=twin_walk _ pt (Nat.le_refl _) H2 pvs (hPE.keep k02) hPw hPg;have hb3:H3.blk b= .rw sz cs:=(k3.blk _ (by omega)).trans ((f2 _ b1n).trans hb);obtain⟨H4,st4,q4,n4,f4,ka4,lw4⟩:=Gm (o:=o) Zd2 hb3 (v:= .agg ws.toArray) (ws:=ws) (by simp[Value.cells]) ox.len ho ox.ones hz0;have n3:=k3.n;have fr4:Fr H3 H4:=Fr.putS hb3 q4 n4 f4 (by simp[ox.len];omega) (by
    rcases hz with h|⟨h1,h2⟩;·exact .inl h
    ·right;subst h1;subst h2;have:=hO.len;rw[List.take_zero,List.nil_append,List.drop_of_length_le (by omega),List.append_nil];exact⟨hO.noU,ox.noU⟩);have lp:=Vd hC2.p hpl;refine Zc (t:=true) (by simp) ?_;apply Zb;intro b1 hb1;apply Za;simp[El hC.n,addn,st2];subst hb1;apply Zb;intro b1 hb1;apply Za;simp[lp,c3,st4];subst hb1;apply Zm;simp[Xo];refine⟨by omega,(kz2.trans (k3.kat z)).trans (ka4.weak zb),(fr2.trans k3.fr).trans fr4,by rw[lw4];omega,.inr ⟨by have:=Vm t;omega,?_,fun j hj h1 h2 _=>?_,ws,q4,?_⟩⟩;·exact(f4 _ (Ne.symm b1n)).trans ((k3.blk _ (by have:=hC.ln;omega)).trans q2)
   ·exact(f4 _ h2).trans ((k3.blk _ (by omega)).trans (f2 _ h1))
   ·rw[Nat.sub_self];obtain⟨op,neg,abs,den,args⟩:=t;unfold plaT;rw[if_pos rfl];exact(ox.fr fr4 fun j hj _=>f4 j (by have:=hj.1;omega)).px fun j hj=>by have:=hj.1;omega
  ·refine Zc (t:=false) (by simp;exact fun e=>hnk1 (Int.ofNat.inj e)) ?_;apply Zi;subst hb1;have hO2:=hO.fr fr2 fun j hj _=>f2 j (hPj j hj).2.2.1;obtain⟨op,neg,abs,den,args⟩:=t;simp only[ET.nodes]at ht hkl;cases hO with
   |@mk _ _ _ va vd vx _ _ _ css Q s1 s2 hL hcl hPx hQ1 hQ2 hQ3=>
    obtain⟨len,hln⟩: ∃len,len=args.length:=⟨_,rfl⟩;have hlen9:=Fi args;have hlx:=hL.len uXs;rw[hcl,←hln]at hlx;have hb2:H2.blk b= .rw sz cs:=(f2 _ b1n).trans hb;have lx: ∀G:AH,G.blk b= .rw sz cs→Ys Tryz.prog G 51 (.pointer (some ⟨b,o+4,none⟩))=some vx:=fun G h=>Yt aExprs (AH.cells_rw' h hz0) (cell4 hvs);have hcss: ∀cs∈css,cs.length=5:=by
     rcases hL with⟨_,rfl⟩|⟨_,_,_,_,h⟩;·intro cs hc;cases hc
     ·exact h
    have xP: ∀c,Qi vx=some c→c≠nb∧c≠b∧c≠ab∧c≠pb∧c≠wb∧z≤c:=fun c hc=>by have:=hPj c (hPx c hc);exact⟨this.2.2.1,this.2.1,this.2.2.2.1,this.2.2.2.2.1,this.2.2.2.2.2,this.1⟩
    apply Zb;intro b1 hb1;apply Za;simp[El hC.n,addn,st2];subst hb1;apply Zb;intro b1 hb1;apply Za;simp[faArgs,lx H2 hb2,hlx];subst hb1;apply Zt;refine Xw (fun n' s'=>s'.k=38∧ ∃(i:Nat),n'+i=len∧H.n≤s'.H.n∧KAt z H s'.H∧Fr H s'.H∧s'.H.lw≤nb∧((n+1+Yi (args.take i)≤k∧s'.H.blk nb= .rw 1 [.int .i64 ((n+1+Yi (args.take i):Nat):Int)]∧(∀j,j<H.n→j≠nb→s'.H.blk j=H.blk j))∨(k<n+1+Yi (args.take i)∧s'.H.blk nb= .rw 1 [.int .i64 ((k+1:Nat):Int)]∧(∀j,j<H.n→j≠nb→ ¬P j→s'.H.blk j=H.blk j)∧PX s'.H (fun j=>z≤j) [.int .i64 op,.bool neg,va,vd,vx] (.node op neg abs den (plaL pt.twin args (k-n-1)))))∧s'.tm.get 0=some (.pointer (some ⟨b,o,none⟩))∧s'.tm.get 1=some (.pointer (some ⟨nb,0,none⟩))∧s'.tm.get 2=some (.pointer (some ⟨ab,0,none⟩))∧s'.tm.get 4=some (.pointer (some ⟨wb,0,none⟩))∧s'.tm.get 22=some (.int .i64 (len:Int))∧s'.tm.get 23=some (.int .i64 (i:Int))) ?_ len _ ⟨rfl,0,by omega,by show H.n≤H2.n;omega,kz2,fr2,by show H2.lw≤nb;rw[lw2];omega,.inl ⟨by simp[Yi];omega,by simpa[Yi]using q2,fun j _ h=>f2 j h⟩,by simp,by simp,by simp,by simp,by simp,by simp⟩;rintro n' ⟨kk,tm,Hc⟩ ⟨hk,i,hni,nc,kac,frc,lwc,hAB,u0,u1,u2,u4,u22,u23⟩ Q' hQ';simp only at hk nc kac frc lwc hAB u0 u1 u2 u4 u22 u23;subst hk;have k0c:Keep H0 Hc:=kac H0 k0 h0z;have hka:Hc.blk ab= .rw 1 [.int .i64 (k:Int)]:=by
     rcases hAB with⟨_,_,h⟩|⟨_,_,h,_⟩;·exact(h _ hC.lk hC.na.symm).trans hC.k
     ·exact(h _ hC.lk hC.na.symm (fun hp=>(hPj _ hp).2.2.2.1 rfl)).trans hC.k
    apply Zb;intro b3 hb3;apply Za;simp[u22,u23,lssN];subst hb3;apply Zb;intro b3 hb3;by_cases hi:i<len
    ·refine Zc (t:=true) (by simp[hi]) ?_;apply Zi;subst hb3;obtain⟨ti,hti⟩: ∃ti,args[i]?=some ti:=⟨args[i]'(by omega),List.getElem?_eq_getElem (by omega)⟩;have hnt:=Bc hti;have hntt:Yi (args.take (i+1))=Yi (args.take i)+ti.nodes:=by rw[List.take_add_one,hti,Ka];simp[Yi]
     refine Qs (fun s'=>s'.k=38∧H.n≤s'.H.n∧KAt z H s'.H∧Fr H s'.H∧s'.H.lw≤nb∧((n+1+Yi (args.take (i+1))≤k∧s'.H.blk nb= .rw 1 [.int .i64 ((n+1+Yi (args.take (i+1)):Nat):Int)]∧(∀j,j<H.n→j≠nb→s'.H.blk j=H.blk j))∨(k<n+1+Yi (args.take (i+1))∧s'.H.blk nb= .rw 1 [.int .i64 ((k+1:Nat):Int)]∧(∀j,j<H.n→j≠nb→ ¬P j→s'.H.blk j=H.blk j)∧PX s'.H (fun j=>z≤j) [.int .i64 op,.bool neg,va,vd,vx] (.node op neg abs den (plaL pt.twin args (k-n-1)))))∧s'.tm.get 0=some (.pointer (some ⟨b,o,none⟩))∧s'.tm.get 1=some (.pointer (some ⟨nb,0,none⟩))∧s'.tm.get 2=some (.pointer (some ⟨ab,0,none⟩))∧s'.tm.get 4=some (.pointer (some ⟨wb,0,none⟩))∧s'.tm.get 22=some (.int .i64 (len:Int))∧s'.tm.get 23=some (.int .i64 (i:Int))) ?_ ?_
     ·intro Q'' hQ'';apply Zt;apply Zb;intro b4 hb4;apply Za;simp[u23];subst hb4;apply Zb;intro b4 hb4;rcases hAB with⟨g1,g2,g3⟩|⟨g1,g2,g3,g4⟩
      ·obtain⟨N,hN⟩: ∃N,N=n+1+Yi (args.take i):=⟨_,rfl⟩;rw[←hN]at g1 g2;obtain⟨cs1,hc1⟩: ∃cs1,css[i]?=some cs1:=⟨css[i]'(by omega),List.getElem?_eq_getElem (by omega)⟩;obtain⟨b1,hv1,hadr,hb1n,hb1,hl1,hd1⟩:=hL.at hc1 uXs Zd2 (by decide);obtain⟨x1,x2,x3,x4,x5,x6⟩:=xP b1 hv1;have hb1c:Hc.blk b1= .rw 5 css.flatten:=(g3 _ hb1n x1).trans hb1;have hflen:=Zc6 hcss;have hlt:i<css.length:=by omega
       have hOc:OX Hc (Q i) cs1 ti:=(hQ3 i cs1 ti hc1 hti).fr frc fun j hj hjn=>g3 j hjn (fun e=>by have:=(hPj j (hQ1 i j hj).1).2.2.1;exact this e);have hCc:PutC Hc nb ab pb wb N k pvs:=hC.move nc g2 (g3 _ hC.lk hC.na.symm) (g3 _ hC.lp hC.np.symm) (g3 _ hC.lw hC.nw.symm);obtain⟨x,H5,c5,n5,ka5,fr5,lw5,hcase⟩:=ih ti (by omega) Hc.top (Q i) cs1 css.flatten 5 b1 (i*5) nb ab pb wb N k z (hOc.keep (Ce Hc)) hb1c (by decide) (by show b1<Hc.n;omega) hd1 (by rw[hflen];omega) (.inl (by decide)) ⟨hCc.n,hCc.k,hCc.p,hCc.w,hCc.ln,hCc.lk,hCc.lp,hCc.lw,hC.na,hC.np,hC.nw⟩ (fun j hj=>by obtain⟨h1,h2⟩:=hQ1 i j hj;obtain⟨y1,y2,y3,y4,y5,y6⟩:=hPj j h1;exact⟨y1,fun e=>h2 (by rw[hv1,e]),y3,y4,y5,y6⟩) x1 x3 x4 x5 x6 zn k0c.top h0z g1 (by omega);have lF:=loadFP (H:=Hc.top) hCc.w;unfold putClo at lF;have hbc:Hc.blk b= .rw sz cs:=(g3 _ hbn b1n).trans hb;have gle:Zd .leq .i64 (N:Int) (k:Int)=some (.bool true):=by rw[leqZ1,decide_eq_true (by omega)]
       have l1:=lx Hc.top hbc;obtain⟨Hd,hHd⟩: ∃Hd,Hd=low Hc H5:=⟨_,rfl⟩;have fd:Fr Hc Hd:=by rw[hHd];exact fr5
       have nd:Hd.n=H5.n:=by rw[hHd];rfl
       have bd: ∀j,Hd.blk j=H5.blk j:=fun j=>by rw[hHd];rfl
       have kad:KAt z Hc Hd:=by rw[hHd];exact Aj ka5
       have lwd:Hd.lw≤nb:=by rw[hHd];show min Hc.lw H5.lw≤nb;omega
       replace n5:Hc.n≤H5.n:=n5;replace lw5:H5.lw<Hc.n:=lw5;apply Za;simp[u1,u2,El g2,El hka,gle];subst hb4;refine Zc (t:=true) (by simp) ?_;apply Qm (by kernel_rfl);simp[u4];refine Yd rfl rfl rfl (by rw[Zk rfl];simp[u4,lF];rfl) ?_;simp[u0,faArgs];refine Yd (v:=vx) rfl rfl rfl (by rw[Zk rfl];simp[l1]) ?_;simp[hadr];refine Xk (v:=x) (H2:=H5) rfl rfl (by kernel_rfl) rfl ?_ n5 lw5 ?_;·show Yk _ _ _ _ Hc.top _=_;simp[c5]
       rw[show({ n:=H5.n,lw:=min Hc.lw H5.lw,t:=H5.t } :AH)=Hd from hHd.symm];simp;apply hQ'';refine⟨rfl,by show H.n≤Hd.n;omega,kac.trans kad,frc.trans fd,lwd,?_,by simp[u0],by simp[u1],by simp[u2],by simp[u4],by simp[u22],by simp[u23]⟩;rcases hcase with⟨e1,e2,e3⟩|⟨e1,e2,e3,ws,e4,e5⟩
       ·left;rw[hntt];refine⟨by omega,?_,fun j hj h=>?_⟩;·rw[bd,e2,hN,Nat.add_assoc]
        ·rw[bd];exact(e3 j (by show j<Hc.n;omega) h).trans (g3 j hj h)
       ·right;rw[hntt];refine⟨by omega,(bd _).trans e2,fun j hj h hp=>?_,?_⟩;·rw[bd];exact(e3 j (by show j<Hc.n;omega) h (fun e=>hp (hPx j (by rw[hv1,e]))) (fun hq=>hp (hQ1 i j hq).1)).trans (g3 j hj h)
        ·have frT:=frc.trans fd;have exw:PX Hd (fun j=>z≤j) ws (plaT pt.twin ti (k-N)):=e5.fr ⟨by omega,fun j _=> .inl (bd j)⟩ fun j _ _=>bd j;rw[flat_set hcss hlt]at e4;have hcss': ∀c∈css.set i ws,c.length=5:=fun c hc=>by
          rcases List.mem_or_eq_of_mem_set hc with h|h;·exact hcss c h
          ·rw[h];exact exw.len
         have hset:plaL pt.twin args (k-n-1)=args.set i (plaT pt.twin ti (k-N)):=by rw[plaL_set pt.twin args (k-n-1) i ti hti (by omega) (by omega),show k-n-1-Yi (args.take i)=k-N by omega]
         refine .mk (css.set i ws) (s1.fr frT) (s2.fr frT) ?_ (by rw[plaL_len,List.length_set,hcl]) (fun c hc=>(xP c hc).2.2.2.2.2) fun j cj tj hcj hj=>?_
         ·have hb1d:b1<Hd.n:=by omega
          rcases hL with⟨rfl,_⟩|⟨b',rfl,_,_,_⟩;·cases hv1
          ·cases hv1;exact .inr ⟨b1,by rw[List.length_set],hb1d,(bd _).trans e4,hcss'⟩
         ·rw[hset]at hj;by_cases hji:j=i;·subst hji;rw[List.getElem?_set_self (by omega)]at hj;rw[List.getElem?_set_self hlt]at hcj;cases hj;cases hcj;exact exw
          ·rw[List.getElem?_set_ne (Ne.symm hji)]at hj hcj;refine((hQ3 j cj tj hcj hj).fr frT fun c hc hcn=>?_).px fun c hc=>(hPj c (hQ1 j c hc).1).1;have hcP:=(hQ1 j c hc).1;have hcx:=(hQ1 j c hc).2;rw[bd];exact(e3 c (by show c<Hc.n;omega) (hPj c hcP).2.2.1 (fun e=>hcx (by rw[e];exact hv1)) (hQ2 j i c hji hc)).trans (g3 c hcn (hPj c hcP).2.2.1)
      ·have gle:Zd .leq .i64 ((k+1:Nat):Int) (k:Int)=some (.bool false):=by rw[leqZ1,decide_eq_false (by omega)]
       apply Za;simp[u1,u2,El g2,El hka,gle];subst hb4;refine Zc (t:=false) (by simp) ?_;apply Zi;apply hQ'';refine⟨rfl,nc,kac,frc,lwc,.inr ⟨by rw[hntt];omega,g2,g3,g4⟩,by simp[u0],by simp[u1],by simp[u2],by simp[u4],by simp[u22],by simp[u23]⟩
     clear u0 u1 u2 u4 u22 u23 hAB hka nc kac frc lwc k0c;rintro⟨kk,tm2,Hx⟩ ⟨hk,nx,kax,frx,lwx,hAB,u0,u1,u2,u4,u22,u23⟩;simp only at hk nx kax frx lwx hAB u0 u1 u2 u4 u22 u23;subst hk;apply Za;simp[u23,Bg (x:=i) (by omega)];apply hQ';exact⟨n'-1,by omega,rfl,i+1,by omega,nx,kax,frx,lwx,hAB,by simp[u0],by simp[u1],by simp[u2],by simp[u4],by simp[u22],by simp⟩
    ·refine Zc (t:=false) (by simp[hi]) ?_;apply Xy;apply hQ';left;refine⟨rfl,?_⟩;clear hQ';obtain rfl:i=len:=by omega
     rw[List.take_of_length_le (by omega)]at hAB;obtain⟨Po,hPo⟩: ∃Po:Prop,Po↔PutIs H P (.node op neg abs den args) pt.twin sz b o nb n k z cs Hc:=⟨_,Iff.rfl⟩;rw[←hPo];simp;rw[hPo];refine⟨nc,kac,frc,by have:=hC.ln;omega,?_⟩;simp only[ET.nodes];rcases hAB with⟨g1,g2,g3⟩|⟨g1,g2,g3,g4⟩;·exact .inl ⟨by omega,by rw[g2,Nat.add_assoc],g3⟩
     ·refine .inr ⟨by omega,g2,fun j hj h _ hp=>g3 j hj h hp,[.int .i64 op,.bool neg,va,vd,vx],?_,?_⟩;·rw[splice_self hvs ho,g3 b hbn b1n (fun hp=>(hPj b hp).2.1 rfl)];exact hb
      ·unfold plaT;rw[if_neg (by omega)];exact g4
end
end
def PutR(H':AH)(t pt:ET)(z:Int)(us:List Value)(e:Int):Prop:=us.length=5∧us.all one=true∧(e=0→Vt t=0∧Vt pt=0∧0≤z∧z<(t.nodes:Int)∧TreeIn H' us (plaT pt.twin t.twin z.toNat)∧Vt (plaT pt.twin t.twin z.toNat)=0)
def zeroX:List Value:=[.int .i64 0,.bool false,.slice none 0 0,.slice none 0 0,.slice none 0 0]
theorem PutR.err{H':AH}{t pt:ET}{z e:Int}(h:e≠0):PutR H' t pt z zeroX e:=⟨rfl,rfl,fun h'=>absurd h' h⟩
theorem bX0:Vs Tryz.prog 53 []=some (.agg #[.int .i64 0,.bool false,.slice none 0 0,.slice none 0 0,.slice none 0 0]):=by rfl
theorem zFnP:Us Tryz.prog 136=some .nilFunc:=by kernel_rfl
theorem sFnP:Qq Tryz.prog 136=some 1:=by kernel_rfl
theorem geqZ1{x y:Int} :Zd .geq .i64 x y=some (.bool (decide (y≤x))):=rfl
theorem Ud{t:ET}(h:Vt t=0):t.allGood=true∧t.nodes≤4000:=by
 unfold Vt at h;split at h;·cases h
 ·split at h;·cases h
  ·rename_i h1 h2;exact⟨by simpa using h1,by omega⟩
section
attribute [-simp] Int.natCast_add Int.natCast_mul Int.natCast_ediv Int.natCast_emod Int.natCast_pow
attribute [local simp] strip Ye LW' LR gW Yk Xc Zz Xd Yn Xe Zr Zs Zg Yo Yz Yj Xi Zv Yp Zh Ze Xh Xg Qu Ya Xa opd Qd Yl plain Yg Tr.get_set Qb Zp Xv Yc sameKind undef Zu Yr Yw Zn Yb parts unV DW Xl Zy LX Zx
attribute [local simp] top_nn Qc Qo
section
variable {H : AH} {vs ps : List Value} {t pt : ET}
set_option maxHeartbeats 2000000 in theorem put_call(h:TreeIn H vs t)(hp:TreeIn H ps pt)(z:Int): ∃us e H',Zq Tryz.prog Zo 46 [.agg vs.toArray,.int .i64 z,.agg ps.toArray] H=some (.tuple #[.agg us.toArray,.int .i64 e],H')∧Keep H H'∧PutR H' t pt z us e:=by
 obtain⟨Po,hPo⟩: ∃Po:Value→AH→Prop,∀x H',Po x H'↔ ∃(us:List Value) (e:Int),x= .tuple #[.agg us.toArray,.int .i64 e]∧Keep H H'∧PutR H' t pt z us e:=⟨_,fun _ _=>Iff.rfl⟩;suffices hs:CW Tryz.prog Zo 46 [.agg vs.toArray,.int .i64 z,.agg ps.toArray] H Po by obtain⟨x,H',hc,hh⟩:=hs;obtain⟨us,e,rfl,k,hr⟩:=(hPo _ _).1 hh;exact⟨us,e,H',hc,k,hr⟩
 obtain⟨H2,e2,k2,n2,q0,q1,q2,q3⟩:=Za8 H vs [.int .i64 z] ps [.int .i64 0,.bool false,.slice none 0 0,.slice none 0 0,.slice none 0 0];have bad: ∀G,Keep H G→H.n+4≤G.n→G.blk (H.n+3)= .rw 1 [.int .i64 0,.bool false,.slice none 0 0,.slice none 0 0,.slice none 0 0]→ ∃G',Xt Tryz.prog G 53 (.pointer (some ⟨H.n+3,0,none⟩)) (.agg #[.int .i64 0,.bool false,.slice none 0 0,.slice none 0 0,.slice none 0 0])=some G'∧Ys Tryz.prog G' 53 (.pointer (some ⟨H.n+3,0,none⟩))=some (.agg #[.int .i64 0,.bool false,.slice none 0 0,.slice none 0 0,.slice none 0 0])∧ ∀e:Int,e≠0→Po (.tuple #[.agg #[.int .i64 0,.bool false,.slice none 0 0,.slice none 0 0,.slice none 0 0],.int .i64 e]) G':=fun G k hn hb=>by obtain⟨G',st,n1,q,f,ka⟩:=Fk Zd2 hb rfl (v:= .agg #[.int .i64 0,.bool false,.slice none 0 0,.slice none 0 0,.slice none 0 0]) (ws:=[.int .i64 0,.bool false,.slice none 0 0,.slice none 0 0,.slice none 0 0]) rfl rfl rfl;exact⟨G',st,Vd q rfl,fun e he=>(hPo _ _).2 ⟨zeroX,e,rfl,ka H k (by omega),.err he⟩⟩
 have hl:=h.ex.len;have hpl:=hp.ex.len;have z0:=q0;have K:=k2;obtain⟨H3,c3,k3⟩:=Dx (h.keep K);have n3:=k3.n;have K:=K.trans k3;replace q0:=(k3.blk _ (by omega)).trans q0;replace q1:=(k3.blk _ (by omega)).trans q1;replace q2:=(k3.blk _ (by omega)).trans q2;replace q3:=(k3.blk _ (by omega)).trans q3;obtain⟨C,hC⟩: ∃C,C=Vt t:=⟨_,rfl⟩;rw[←hC]at c3;refine Zj 44 (by decide) (by decide) Tryz.func46 rfl rfl ?_;apply Zb;intro b1 hb1;apply Za;simp[Value.cells,Cx,Jt,e2];subst hb1;apply Zb;intro b1 hb1;apply Zb;intro b2 hb2;apply Za;simp[Vd z0 hl,c3];subst hb2;apply Zb;intro b2 hb2;apply Za;simp[Eo];subst hb2;by_cases hC0:C=0;case neg=>obtain⟨G',st,hld,hgo⟩:=bad H3 K (by omega) q3;refine Zc (t:=true) (by simp[hC0]) ?_;apply Zb;intro b2 hb2;apply Za;simp[bX0,st];subst hb2;apply Zm;simp only[Xo];simp[hld];exact hgo _ (by omega)
 refine Zc (t:=false) (by simp[hC0]) ?_;apply Zi;subst hb1;have z3:=q0;have y3:=q1;have x3:=q3;apply Zb;intro b1 hb1;apply Zb;intro b2 hb2;by_cases hz:z<0
 ·have gz:Zd .lss .i64 z 0=some (.bool true):=by rw[lssZZ,decide_eq_true hz]
  obtain⟨G',st,hld,hgo⟩:=bad H3 K (by omega) q3;apply Qm (by kernel_rfl);simp;refine Yd (v:= .int .i64 z) rfl rfl rfl (by rw[Zk rfl];simp[El (H:=AH.top H3) q1]) ?_;simp[gz];subst hb2;refine Zc (t:=true) (by simp) ?_;apply Zb;intro b2 hb2;apply Za;simp[bX0,st];subst hb2;apply Zm;simp only[Xo];simp[hld];exact hgo _ (by decide)
 have gz:Zd .lss .i64 z 0=some (.bool false):=by rw[lssZZ,decide_eq_false hz]
 have q0a:=q0;have q1a:=q1;have q2a:=q2;have q3a:=q3;have vka: ∀{J:AH}(k:Keep H3 J){bits ms},(∀x∈ms,H3.n≤x.2.1)→ ∀b,b<H3.n→(vis J bits ms).blk b=H3.blk b:=fun k _ _ h b hb=>(Qw k h).blk b hb;obtain⟨Ia1,da1,kIa1⟩:=nodes_call ((h.keep K).keep (Ce _));obtain⟨Ja1,hJa1⟩: ∃J,J=grown H3 Ia1:=⟨_,rfl⟩;have kJa1:Keep H3 Ja1:=by rw[hJa1];exact Zw (.refl _) kIa1
 have ma1:H3.n≤Ia1.n:=kIa1.n;have kka1:=kJa1;have nka1:=kka1.n;have K:=K.trans kJa1;replace q0:=(kka1.blk _ (by omega)).trans q0;replace q1:=(kka1.blk _ (by omega)).trans q1;replace q2:=(kka1.blk _ (by omega)).trans q2;replace q3:=(kka1.blk _ (by omega)).trans q3;apply Qm (by kernel_rfl);simp;refine Yd (v:= .int .i64 z) rfl rfl rfl (by rw[Zk rfl];simp[El (H:=AH.top H3) q1a]) ?_;simp[gz];refine Yd (v:= .int .i64 z) rfl rfl rfl (by rw[Zk rfl];simp[El (H:=AH.top H3) q1a]) ?_;simp;refine Yd (v:= .agg vs.toArray) rfl rfl rfl (by rw[Zk rfl];simp[Vd (H:=AH.top H3) q0a hl]) ?_;simp;refine Yv (v:= .int .i64 (t.nodes:Int)) (H2:=Ia1) rfl rfl rfl (by rw[Zk rfl];simp[da1]) ma1 (Yx kIa1) ?_;rw[←hJa1];have Ma1:=(Fs.nil H3.n).cons (i:=5) (a:=H3.n) (b:=Ia1.n) (by omega);generalize cond (Nat.blt H3.n Ia1.n) _ _=msa1 at Ma1;simp[geqZ1];subst hb2;by_cases hzn:(t.nodes:Int)≤z;·obtain⟨G',st,hld,hgo⟩:=bad Ja1 K (by omega) q3;refine Zc (t:=true) (by simp[hzn]) ?_;apply Zb;intro b2 hb2;apply Za;simp[bX0,st];subst hb2;apply Zm;simp only[Xo];simp[hld];exact hgo _ (by decide)
 refine Zc (t:=false) (by simp[hzn]) ?_;apply Zi;subst hb1;obtain⟨k,rfl⟩: ∃k:Nat,z=(k:Int):=⟨z.toNat,by omega⟩;have z4:=q2;obtain⟨H5,c5,k5⟩:=Dx (hp.keep K);have n5:=k5.n;have K:=K.trans k5;replace q0:=(k5.blk _ (by omega)).trans q0;replace q1:=(k5.blk _ (by omega)).trans q1;replace q2:=(k5.blk _ (by omega)).trans q2;replace q3:=(k5.blk _ (by omega)).trans q3;obtain⟨D,hD⟩: ∃D,D=Vt pt:=⟨_,rfl⟩;rw[←hD]at c5;apply Zb;intro b1 hb1;apply Zb;intro b2 hb2;apply Za;simp[Vd z4 hpl,c5];subst hb2;apply Zb;intro b2 hb2;apply Za;simp[Eo];subst hb2;by_cases hD0:D=0;case neg=>obtain⟨G',st,hld,hgo⟩:=bad H5 K (by omega) q3;refine Zc (t:=true) (by simp[hD0]) ?_;apply Zb;intro b2 hb2;apply Za;simp[bX0,st];subst hb2;apply Zm;simp only[Xo];simp[hld];exact hgo _ (by omega)
 refine Zc (t:=false) (by simp[hD0]) ?_;apply Zi;subst hb1;obtain⟨hg,hn4⟩:=Ud (hC.symm.trans hC0);obtain⟨hpg,hpn4⟩:=Ud (hD.symm.trans hD0);have K5:=K;have n50:H.n+4≤H5.n:=by omega
 have z5:=q0;obtain⟨ws,H6,c6,k6,ox⟩:=twin_walk _ t (Nat.le_refl _) H5 vs (h.ex.keep K) h.wide hg;obtain⟨H7,st7,k7,r7,n7⟩:=newX (H:=H6) ox.len ox.ones;obtain⟨H8,st8,k8,r8,n8⟩:=Qz (H:=H7) (sz:=1) (zs:=[.int .i64 0]) sInt rfl (v:= .int .i64 0) (ws:=[.int .i64 0]) rfl rfl rfl;obtain⟨H9,hH9⟩: ∃H9,H8.new 1 [.nilFunc]=H9:=⟨_,rfl⟩;have k9:Keep H8 H9:=by rw[←hH9];exact Keep.new _ _ _
 have n9:H9.n=H8.n+1:=by rw[←hH9];rfl
 have r9:H9.blk H8.n= .rw 1 [.nilFunc]:=by rw[←hH9,AH.blk_new,if_pos rfl]
 have n6:=k6.n;obtain⟨HA,stA,nA,rA,fA,kaA⟩:=Fk sFnP r9 rfl (v:=putClo H7.n (H.n+1) (H.n+2) H8.n) (ws:=[putClo H7.n (H.n+1) (H.n+2) H8.n]) rfl rfl rfl;have frA:Fr H9 HA:=Fr.put r9 rA nA fA rfl rfl rfl;have k59:Keep H5 H9:=((k6.trans k7).trans k8).trans k9;have k5A:Keep H5 HA:=kaA H5 k59 (by omega);have kA:=K.trans k5A;have old: ∀j,j<H5.n→HA.blk j=H5.blk j:=fun j hj=>k5A.blk j hj;have r7A:HA.blk H6.n= .rw 1 ws:=(fA _ (by omega)).trans ((k9.blk _ (by omega)).trans ((k8.blk _ (by omega)).trans r7));have r8A:HA.blk H7.n= .rw 1 [.int .i64 0]:=(fA _ (by omega)).trans ((k9.blk _ (by omega)).trans r8);have oxA:OX HA (fun j=>H5.n≤j∧j<H6.n) ws t.twin:=(((ox.keep k7).keep k8).keep k9).fr frA fun j hj _=>fA j (by have:=hj.2;omega);have hPC:PutC HA H7.n (H.n+1) (H.n+2) H8.n 0 k ps:=⟨r8A,(old _ (by omega)).trans q1,(old _ (by omega)).trans q2,rA,by omega,by omega,by omega,by omega,by omega,by omega,by omega⟩;have hlo:=ox.len;obtain⟨x,HB,cB,nB,kaB,frB,_,hcase⟩:=put_walk (H0:=H5) (hp.ex.keep K) hp.wide hpg _ t.twin (Nat.le_refl _) HA (fun j=>H5.n≤j∧j<H6.n) ws ws 1 H6.n 0 H7.n (H.n+1) (H.n+2) H8.n 0 k H5.n oxA r7A (by decide) (by omega) (by rw[List.drop_zero,List.take_of_length_le (by omega)]) (by omega) (.inr ⟨rfl,rfl⟩) hPC (fun j hj=>by obtain⟨h1,h2⟩:=hj;exact⟨h1,by omega,by omega,by omega,by omega,by omega⟩) (by omega) (by omega) (by omega) (by omega) n6 (by omega) k5A (Nat.le_refl _) (Nat.zero_le _) (by rw[Cl];omega);rcases hcase with⟨bad1,_⟩|⟨_,_,fB,us,rB,pxB⟩;·rw[Cl]at bad1;omega
 rw[List.take_zero,List.nil_append,List.drop_of_length_le (by omega),List.append_nil]at rB;rw[Nat.sub_zero]at pxB;have kB:Keep H HB:=kaB H kA (by omega);have q3B:HB.blk (H.n+3)= .rw 1 [.int .i64 0,.bool false,.slice none 0 0,.slice none 0 0,.slice none 0 0]:=(fB _ (by omega) (by omega) (by omega) (fun hj=>by have:=hj.1;omega)).trans ((old _ (by omega)).trans q3);have htw:=Du t hg h.wide;have hpw:=Du pt hpg hp.wide;have hput:=Zl9 hpw.1 t.twin k htw.1;have hnn:=put_nodes pt.twin t.twin k;rw[Cl,Cl]at hnn;obtain⟨T,hT⟩: ∃T,T=plaT pt.twin t.twin k:=⟨_,rfl⟩;rw[←hT]at pxB hput hnn;have hTB:TreeIn HB us T:=⟨pxB.ex,h.rows.keep kB,hput.1,by omega⟩;obtain⟨HC,cC,kC⟩:=Dx hTB;obtain⟨E,hE⟩: ∃E,E=Vt T:=⟨_,rfl⟩;rw[←hE]at cC;have kHC:=kB.trans kC;have q3C:=(kC.blk _ (by omega)).trans q3B;have hul:=pxB.len;have lF:=loadFP rA;unfold putClo at lF;unfold putClo at stA;have lB:=Vd rB hul;apply Zb;intro b1 hb1;apply Za;simp[Vd z5 hl,c6,Cx,Value.cells,st7];subst hb1;apply Zb;intro b1 hb1;apply Za;simp[zInt,Value.cells,st8];subst hb1;apply Zb;intro b1 hb1;apply Za;simp[zFnP,Value.cells,hH9];subst hb1;apply Zb;intro b1 hb1;apply Za;simp[stA];subst hb1;apply Zb;intro b1 hb1;apply Za;simp[lF,cB];subst hb1;apply Zb;intro b1 hb1;apply Zb;intro b2 hb2;apply Za;simp[lB,cC,Eo];subst hb2;by_cases hE0:E=0;case neg=>obtain⟨G',st,hld,hgo⟩:=bad HC kHC (by have:=kC.n;omega) q3C;refine Zc (t:=true) (by simp[hE0]) ?_;apply Zb;intro b2 hb2;apply Za;simp[bX0,st];subst hb2;apply Zm;simp only[Xo];simp[hld];exact hgo _ (by decide)
 refine Zc (t:=false) (by simp[hE0]) ?_;apply Zi;subst hb1;have pxC:=pxB.fr kC.fr fun j _ hj=>kC.blk j hj;have lC:=Vd ((kC.blk _ (by omega)).trans rB) hul;have hones:=pxC.ex.ones;obtain⟨HD,stD,nD,rD,fD,kaD⟩:=Fk Zd2 q3C rfl (v:= .agg us.toArray) (ws:=us) (by simp[Value.cells]) hul hones;have frD:Fr HC HD:=Fr.put q3C rD nD fD (by simp[hul]) rfl (by cases pxC with|mk css g1 g2 g3=>exact noU5 g1.shape g2.shape g3.shape);have hld:=Vd rD hul;have kD:=kaD H kHC (by omega);have pxD:=pxC.fr frD fun j hj _=>fD j (by have:H5.n≤j:=hj;omega);apply Zb;intro b1 hb1;apply Za;simp[lC,stD];subst hb1;apply Zm;simp only[Xo];simp[hld];refine(hPo _ _).2 ⟨us,0,rfl,kD,hul,hones,fun _=>⟨by omega,by omega,by omega,by omega,?_,?_⟩⟩;·rw[Int.toNat_natCast,←hT];exact⟨pxD.ex,h.rows.keep kD,hput.1,by omega⟩
 ·rw[Int.toNat_natCast,←hT];omega
end
end
def FoldR(H:AH)(t:ET)(us:List Value)(e:Int):Prop:=us.length=4∧us.all one=true∧((Vt t=0∧e=0∧FIn H us t.fold)∨(Vt t≠0∧e≠0∧us=[.int .i64 0,.bool false,.slice none 0 0,.slice none 0 0]))
theorem fold_any{H:AH}{vs:List Value}{t:ET}(h:TreeIn H vs t)(hwt:t.wt≤67108864): ∃us e H',Zq Tryz.prog Zo 27 [.agg vs.toArray] H=some (.tuple #[.agg us.toArray,.int .i64 e],H')∧Keep H H'∧FoldR H' t us e:=by
 by_cases hc:Vt t=0;·obtain⟨us,H',c,k,f⟩:=Eh ⟨h,(Ud hc).1,hwt⟩ hc;exact⟨us,0,H',c,k,f.len,f.ones,.inl ⟨hc,rfl,f⟩⟩
 ·obtain⟨H',c,k⟩:=exFold_bad h hc;exact⟨_,_,H',c,k,rfl,rfl,.inr ⟨hc,by omega,rfl⟩⟩
theorem FoldR.four{H:AH}{t:ET}{us:List Value}{e:Int}(h:FoldR H t us e): ∃k p q r,us=[.int .i64 k,p,q,r]∧Fl p q r∧(e=0→Vt t=0∧k=t.fold.kind∧FIn H us t.fold):=by
 obtain⟨_,_,h⟩:=h;rcases h with⟨h1,h2,h3⟩|⟨h1,h2,h3⟩;·obtain⟨p,q,r,e1,e2⟩:=h3.trio;exact⟨_,p,q,r,e1,e2,fun _=>⟨h1,rfl,h3⟩⟩
 ·exact⟨_,_,_,_,h3,⟨⟨_,rfl⟩,⟨_,_,_,rfl⟩,⟨_,_,_,rfl⟩⟩,fun e0=>absurd e0 h2⟩
section
attribute [-simp] Int.natCast_add Int.natCast_mul Int.natCast_ediv Int.natCast_emod Int.natCast_pow
attribute [local simp] strip Ye LW' LR gW Yk Xc Zz Xd Yn Xe Zr Zs Zg Yo Yz Yj Xi Zv Yp Zh Ze Xh Xg Qu Ya Xa opd Qd Yl plain Yg Tr.get_set Qb Zp Xv Yc sameKind undef Zu Yr Yw Zn Yb parts unV DW Xl Zy LX Zx
attribute [local simp] Qc Qo Gb top_nn
section
variable {H : AH} {vs1 vs2 : List Value} {t pt : ET}
end
end
theorem len32(A:Nat):(ds b32 A).length≤Zf A:=by have h1:A<2^Zf A:=Vx A;have h2:2^Zf A≤b32^(Zf A):=Nat.pow_le_pow_left (by decide) _;exact Jr two32 (Nat.lt_of_lt_of_le h1 h2)
theorem lim32{A:Nat}(h:Zf A≤1000000000):(ds b32 A).length≤Lim:=by have:=len32 A;show(ds b32 A).length≤2000000000000;omega
section
attribute [-simp] Int.natCast_add Int.natCast_mul Int.natCast_ediv Int.natCast_emod Int.natCast_pow
attribute [local simp] strip Ye LW' LR gW Yk Xc Zz Xd Yn Xe Zr Zs Zg Yo Yz Yj Xi Zv Yp Zh Ze Xh Xg Qu Ya Xa opd Qd Yl plain Yg Tr.get_set Qb Zp Xv Yc sameKind undef Zu Yr Yw Zn Yb parts unV DW Xl Zy LX Zx
section
variable {H : AH} {u v w z : Value}
end
section
variable {H : AH} {u v w z : Value}
theorem refNumber_call{s:Bool}{A B:Nat}(ha:Sl H u (ds b32 A))(hb:Sl H v (ds b32 B))(lA:Zf A≤67108864)(lB:Zf B≤67108864): ∃H',Zq Tryz.prog Zo 117 [.agg #[.bool s,u,v]] H=some (.agg #[.int .i64 1,.bool s,u,v],H')∧Keep H H':=by
 suffices h:CW Tryz.prog Zo 117 [.agg #[.bool s,u,v]] H fun x H'=>x= .agg #[.int .i64 1,.bool s,u,v]∧Keep H H' by obtain⟨x,H',hc,rfl,k⟩:=h;exact⟨H',hc,k⟩
 obtain⟨H2,e2,k2,n2,q0,q1⟩:=Qy H [.bool s,u,v] [.int .i64 0,.bool false,.slice none 0 0,.slice none 0 0];have c1:=Zp8 (ha.keep k2) (Nat.le_trans (lim32 (by omega)) (by decide));have c2:=Zp8 (hb.keep k2) (Nat.le_trans (lim32 (by omega)) (by decide));obtain⟨L1,hL1⟩: ∃L,L=Zf A:=⟨_,rfl⟩;obtain⟨L2,hL2⟩: ∃L,L=Zf B:=⟨_,rfl⟩;rw[←hL1]at c1 lA;rw[←hL2]at c2 lB;have g1:Zd .gtr .i64 (L1:Int) 67108864=some (.bool false):=by rw[Zc2,decide_eq_false (by omega)]
 have g2:Zd .gtr .i64 (L2:Int) 67108864=some (.bool false):=by rw[Zc2,decide_eq_false (by omega)]
 have htr:Fl (.bool s) u v:=⟨⟨_,rfl⟩,ha.shape,hb.shape⟩;obtain⟨H3,st3,n3,q3,b3,ka3⟩:=Fk sRF q1 rfl (v:= .agg #[.int .i64 1,.bool s,u,v]) (ws:=[.int .i64 1,.bool s,u,v]) rfl rfl (by obtain⟨_,_,_,rfl⟩:=ha.shape;obtain⟨_,_,_,rfl⟩:=hb.shape;rfl);have k3:Keep H H3:=ka3 H k2 (by omega);have hld:=loadRF q3;refine Zj 16 (by decide) (by decide) Tryz.func117 rfl rfl ?_;apply Zb;intro b1 hb1;apply Za;simp[Value.cells,zRF,Jt,e2];subst hb1;apply Zb;intro b1 hb1;apply Zb;intro b2 hb2;apply Za;simp[faR1,faR2,loadR1 q0,loadR2 q0,c1,c2,g1,g2];subst hb2;refine Zc (t:=false) (by simp) ?_;apply Zi;subst hb1;apply Zb;intro b1 hb1;apply Za;simp[loadR q0,bRFr htr,st3];subst hb1;apply Zm;simp[hld];exact k3
end
end
theorem putRFv{H:AH}{b:Nat}{k' p' q' r':Value}{vs:List Value}{f:FD}(hb:H.blk b= .rw 1 [k',p',q',r'])(hn:noU [k',p',q',r']=true)(h:RFIn H vs f): ∃H',Xt Tryz.prog H 77 (.pointer (some ⟨b,0,none⟩)) (.agg vs.toArray)=some H'∧H'.n=H.n∧H'.blk b= .rw 1 vs∧(∀j,j≠b→H'.blk j=H.blk j)∧KAt b H H'∧RFIn H' vs f:=by obtain⟨H',st,n1,q1,o,ka⟩:=Fk sRF hb rfl (v:= .agg vs.toArray) (ws:=vs) (by simp[Value.cells]) h.len h.ones;exact⟨H',st,n1,q1,o,ka,h.fr (Fr.put hb q1 n1 o h.len.symm hn h.noU)⟩
theorem loadRFv{H:AH}{b:Nat}{vs:List Value}(hb:H.blk b= .rw 1 vs)(hl:vs.length=4):Ys Tryz.prog H 77 (.pointer (some ⟨b,0,none⟩))=some (.agg vs.toArray):=Di hb (by decide) (by rw[List.drop_zero,List.take_of_length_le (by omega)]) hl aRF sRF
section
attribute [-simp] Int.natCast_add Int.natCast_mul Int.natCast_ediv Int.natCast_emod Int.natCast_pow
attribute [local simp] strip Ye LW' LR gW Yk Xc Zz Xd Yn Xe Zr Zs Zg Yo Yz Yj Xi Zv Yp Zh Ze Xh Xg Qu Ya Xa opd Qd Yl plain Yg Tr.get_set Qb Zp Xv Yc sameKind undef Zu Yr Yw Zn Yb parts unV DW Xl Zy LX Zx
section
variable {H : AH} {u v w z : Value}
end
def RFIs(H:AH)(f:FD)(x:Value)(H':AH):Prop:=Keep H H'∧ ∃vs:List Value,x= .agg vs.toArray∧RFIn H' vs f
section
variable {H : AH} {u v w z : Value}
theorem two_mul{s t:Bool}{A B C D:Nat}(ha:Sl H u (ds b32 A))(hb:Sl H v (ds b32 B))(hc:Sl H w (ds b32 C))(hd:Sl H z (ds b32 D))(low:Low s A B)(low':Low t C D)(hw:(FD.rat s A B).w+(FD.rat t C D).w≤67108864):CW Tryz.prog Zo 119 [.int .i64 5,.agg #[.bool s,u,v],.agg #[.bool t,w,z]] H (RFIs H (twoFD 5 s A B t C D)):=by
 obtain⟨y1,y2,y3,y4,y5,y6,y7,y8,y9⟩:=Zn9 hw;have hok:=(twoFD_ok (op:=5) low low').2;obtain⟨H2,e2,k2,n2,q0,q1,q2⟩:=Cz H [.bool s,u,v] [.bool t,w,z] [.int .i64 0,.bool false,.slice none 0 0,.slice none 0 0];have q0z:=q0;have q1z:=q1;have K:=k2;refine Zj 43 (by decide) (by decide) Tryz.func119 rfl rfl ?_;apply Zb;intro b1 hb1;apply Za;simp[Value.cells,zRF,Jt,e2];subst hb1;apply Zb;intro b1 hb1;apply Zb;intro b2 hb2;apply Za;simp;subst hb2;apply Zt;apply Zb;intro b2 hb2;apply Za;simp[show Zd .eql .i64 5 3=some (.bool false)from rfl];subst hb2;refine Zc (t:=false) (by simp) ?_;apply Zb;intro b2 hb2;apply Za;simp[show Zd .eql .i64 5 4=some (.bool false)from rfl];subst hb2;refine Zc (t:=false) (by simp) ?_;apply Zb;intro b2 hb2;apply Za;simp[show Zd .eql .i64 5 5=some (.bool true)from rfl];subst hb2;refine Zc (t:=true) (by simp) ?_;have hres:twoFD 5 s A B t C D= .mk (Yq (s !=t) (A*C) (B*D)):=rfl;rw[hres]at hok⊢;obtain⟨R,hR⟩: ∃R,R=Yq (s !=t) (A*C) (B*D):=⟨_,rfl⟩;rw[←hR]at hok⊢;obtain⟨us,H3,c3,k3,p1,p2,rfl,o1,o2⟩:=refMulQ_call s t (ha.keep K) (hb.keep K) (hc.keep K) (hd.keep K) (lim32 (by omega)) (lim32 (by omega)) (lim32 (by omega)) (lim32 (by omega)) low.2 low'.2;have n3:=k3.n;have K:=K.trans k3;replace q0:=(k3.blk _ (by omega)).trans q0;replace q1:=(k3.blk _ (by omega)).trans q1;replace q2:=(k3.blk _ (by omega)).trans q2;rw[←hR]at c3 o1 o2;obtain⟨S,N,E⟩:=R;simp only at c3 o1 o2;have hfit:max (Zf N) (Zf E)+1≤67108864:=Nat.le_trans hok hw;obtain⟨H4,c4,k4⟩:=refNumber_call (s:=S) o1.sl o2.sl (by omega) (by omega);have n4:=k4.n;have K:=K.trans k4;replace q0:=(k4.blk _ (by omega)).trans q0;replace q1:=(k4.blk _ (by omega)).trans q1;replace q2:=(k4.blk _ (by omega)).trans q2;have hF:RFIn H4 [.int .i64 1,.bool S,p1,p2] (.mk (S,N,E)):=⟨_,_,rfl,o1.sl.keep k4,o2.sl.keep k4⟩;obtain⟨H5,st5,n5,q2,b5,ka5,hF⟩:=putRFv q2 rfl hF;have K:=ka5 _ K (by omega);have hld:=loadRFv q2 rfl;try simp at st5 hld
 apply Zb;intro b2 hb2;apply Za;simp[loadR q0z,loadR q1z,c3,c4,st5];subst hb2;apply Zm;simp[Xo,Xn,hld];exact⟨K,_,rfl,hF⟩
end
end
def RsIn(H:AH):List (List Value)→List FD→Prop|[],[]=>True|c::cs,f::fs=>RFIn H c f∧RsIn H cs fs|_,_=>False
section
variable {H H' : AH} {vs : List Value} {f : FD}
theorem RsIn.fr(k:Fr H H'): ∀{css:List (List Value)}{fs:List FD},RsIn H css fs→RsIn H' css fs|[],[],_=>trivial|c::cs,f::fs,h=>⟨RFIn.fr h.1 k,RsIn.fr k h.2⟩|[],_::_,h=>h.elim|_::_,[],h=>h.elim
theorem RsIn.append: ∀{css ds:List (List Value)}{fs gs:List FD},RsIn H css fs→RsIn H ds gs→RsIn H (css++ds) (fs++gs)|[],ds,[],gs,_,h2=>h2|c::cs,ds,g::fs,gs,h,h2=>⟨h.1,RsIn.append h.2 h2⟩|[],_,_::_,_,h,_=>h.elim|_::_,_,[],_,h,_=>h.elim
theorem RsIn.len: ∀{css:List (List Value)}{fs:List FD},RsIn H css fs→css.length=fs.length|[],[],_=>rfl|c::cs,f::fs,h=>by rw[List.length_cons,List.length_cons,RsIn.len h.2]|[],_::_,h=>h.elim|_::_,[],h=>h.elim
theorem RsIn.get: ∀{css:List (List Value)}{fs:List FD}{i:Nat}{c:List Value},RsIn H css fs→css[i]?=some c→ ∃f,fs[i]?=some f∧RFIn H c f|[],[],i,f,_,hi=>by simp at hi|c::cs,g::fs,0,f,h,hi=>by simp at hi;subst hi;exact⟨g,rfl,h.1⟩|c::cs,g::fs,i+1,f,h,hi=>by simp at hi;obtain⟨vs,h1,h2⟩:=RsIn.get h.2 hi;exact⟨vs,by simpa using h1,h2⟩|[],_::_,i,f,h,_=>h.elim|_::_,[],i,f,h,_=>h.elim
end
section
attribute [-simp] Int.natCast_add Int.natCast_mul Int.natCast_ediv Int.natCast_emod Int.natCast_pow
attribute [local simp] strip Ye LW' LR gW Yk Xc Zz Xd Yn Xe Zr Zs Zg Yo Yz Yj Xi Zv Yp Zh Ze Xh Xg Qu Ya Xa opd Qd Yl plain Yg Tr.get_set Qb Zp Xv Yc sameKind undef Zu Yr Yw Zn Yb parts unV DW Xl Zy LX Zx
section
variable {H : AH} {u v w z : Value}
end
end
theorem RsIn.ones{H:AH} : ∀{css:List (List Value)}{fs:List FD},RsIn H css fs→css.flatten.all one=true|[],[],_=>rfl|c::cs,f::fs,h=>by rw[List.flatten_cons,List.all_append,RFIn.ones h.1,RsIn.ones h.2];rfl|[],_::_,h=>h.elim|_::_,[],h=>h.elim
theorem RsIn.one{H:AH}{c:List Value}{f:FD}(h:RFIn H c f):RsIn H [c] [f]:=⟨h,trivial⟩
section
attribute [-simp] Int.natCast_add Int.natCast_mul Int.natCast_ediv Int.natCast_emod Int.natCast_pow
attribute [local simp] strip Ye LW' LR gW Yk Xc Zz Xd Yn Xe Zr Zs Zg Yo Yz Yj Xi Zv Yp Zh Ze Xh Xg Qu Ya Xa opd Qd Yl plain Yg Tr.get_set Qb Zp Xv Yc sameKind undef Zu Yr Yw Zn Yb parts unV DW Xl Zy LX Zx
section
variable {H : AH} {u v w z : Value}
end
end
section
attribute [-simp] Int.natCast_add Int.natCast_mul Int.natCast_ediv Int.natCast_emod Int.natCast_pow
attribute [local simp] strip Ye LW' LR gW Yk Xc Zz Xd Yn Xe Zr Zs Zg Yo Yz Yj Xi Zv Yp Zh Ze Xh Xg Qu Ya Xa opd Qd Yl plain Yg Tr.get_set Qb Zp Xv Yc sameKind undef Zu Yr Yw Zn Yb parts unV DW Xl Zy LX Zx
attribute [local simp] Qc Qo Gb
section
variable {H : AH} {vs : List Value} {t : ET}
end
end
end
end Go.Proofs.YtmkfecoeghokfaaGreatDoor
