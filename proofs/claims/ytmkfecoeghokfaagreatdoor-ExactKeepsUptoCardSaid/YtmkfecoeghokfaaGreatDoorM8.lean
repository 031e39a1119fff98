/-
  The engine and the walks that the claim's last text leans on, part 8 of 9: Uo, Up, Uq, Ur, Us, Ut, Uu, Uv, Wa, Wb, Wc, Wm, Uw, Ux, Uy, Uz, Va, Vb, Vc, Ve.
-/
import Derived.Test.YtmkfecoeghokfaaGreatDoorM7
namespace Go.Proofs.YtmkfecoeghokfaaGreatDoor
open Go Ev
set_option linter.unusedVariables false
set_option linter.unusedSimpArgs false
noncomputable section
set_option maxHeartbeats 2000000
set_option maxRecDepth 20000
section
attribute [-simp] Int.natCast_add Int.natCast_mul Int.natCast_ediv Int.natCast_emod Int.natCast_pow
attribute [local simp] strip ZQ Xj LR gW ZF Ya ZX Yb ZJ Yc Zs Zt Zg ZI Z5 ZN ZB Zk ZH Zh Ze ZC ZD YW Zo Z6 YF Yw ZK plain ZM Tr.get_set Yu Zp Yq ZV sameKind undef Zv ZG Z3 Zu ZA Yh ZW parts ZE Xw DW Yf Zw LX Zz Zn ZL ZS Xt Yg Zm ZP Zy ZO
theorem sFs:Vd Tryz.prog 83=some (57,4,64):=by kernel_rfl
theorem tl:XY Tryz.prog 129=some false:=by kernel_rfl
theorem tC(b:Nat):Ys Tryz.prog 132 (.pointer (some ⟨b,0,none⟩)) 0=some (.pointer (some ⟨b,0,none⟩)):=by kernel_rfl
theorem jQ{H:AH}{b:Nat}{u v w:Value}(h:H.blk b= .rw 1 [u,v,w]):Z9 Tryz.prog H 129 (.pointer (some ⟨b,0,none⟩))=some u:=Yj tl (AH.cells_rw' h (by decide)) rfl
theorem aL{op:Int}{two:Bool}{f:FuncId}(h:TN op=some (two,f)):op≠0/\op≠1/\op≠10/\op≠12/\op≠11/\op≠14/\op≠13/\op≠15:=by refine⟨?_,?_,?_,?_,?_,?_,?_,?_⟩<;>(intro e;subst e;revert h;simp[TN])
theorem O4{x c:Int}(h:x≠c):Zd .eql .i64 x c=some (.bool false):=by rw[QX,decide_eq_false h]
theorem EK{op:Int}(h:op≠0)(neg neg':Bool)(N D N' D':Nat)(fs:List FD):Xq op neg N D fs=Xq op neg' N' D' fs:=by unfold Xq;rw[if_neg h,if_neg h]
theorem xU{H:AH}{b:Nat}{k' p' q' r' p q r:Value}{k:Int}(hb:H.blk b= .rw 1 [k',p',q',r'])(Le:b<H.n)(h1:one p=true)(h2:one q=true)(h3:one r=true): ∃H2,YV Tryz.prog H.top 57 (.pointer (some ⟨b,0,none⟩)) (.agg #[.int .i64 k,p,q,r])=some H2/\H2.n=H.n/\H2.lw<H.n/\(low H H2).n=H.n/\(low H H2).blk b= .rw 1 [.int .i64 k,p,q,r]/\(∀j,j≠b->(low H H2).blk j=H.blk j)/\Vz b H (low H H2):=UY SE hb Le rfl rfl rfl (by simp[h1,h2,h3,show one (Value.int .i64 k)=true from rfl])
theorem UT.get{H:AH} : ∀{css:List (List Value)}{fs:List FD}{i:Nat}{c:List Value},UT H css fs->css[i]?=some c-> ∃f,fs[i]?=some f/\VB H c f|[],[],i,f,_,hi=>by simp at hi|c::cs,g::fs,0,f,h,hi=>by simp at hi;subst hi;exact⟨g,rfl,h.1⟩|c::cs,g::fs,i+1,f,h,hi=>by simp at hi;obtain⟨vs,h1,h2⟩:=UT.get h.2 hi;exact⟨vs,by simpa using h1,h2⟩|[],_::_,i,f,h,_=>h.elim|_::_,[],i,f,h,_=>h.elim
theorem AG{α:Type}{l:List α}(h:l.length=1): ∃a,l=[a]:=by match l,h with|[a],_=>exact⟨a,rfl⟩
theorem D2{α:Type}{l:List α}(h:l.length=2): ∃a b,l=[a,b]:=by match l,h with|[a,b],_=>exact⟨a,b,rfl⟩
theorem aU{op:Int}(h0:op≠0){neg:Bool}{N D:Nat}{fs:List FD}{i:Nat}(hi:fs[i]?=some .opn)(hl:fs.length<=2)(h6:op=6-> ∀g,fs[1]?=some g->g.isZero=false):Xq op neg N D fs= .opn:=by unfold Xq;rw[if_neg h0];match fs,hi,hl with
 |[f],hi,_=>cases i with|zero=>simp at hi;subst hi;rfl|succ i=>simp at hi
 |[f,g],hi,_=>
  have oD: ¬ (op=6/\g.isZero=true):=fun h=>by have:=h6 h.1 g rfl;rw[h.2]at this;cases this
  cases i with
   |zero=>simp at hi;subst hi;simp only;rw[if_neg oD]
   |succ i=>cases i with|zero=>simp at hi;subst hi;cases f<;>(simp only;rw[if_neg oD])|succ i=>simp at hi
section
variable {H : AH} {fw av : Value}
theorem gq{v1 v2 v3 v4:Value}{c1 c2:List Value}{f:FD}{t:Bool}{D:Nat}(hA:UB 4 H av [c1,c2])(hf:VB H c1 f)(hg:VB H c2 (.rat t 0 D))(hD:Zq D<=67108864):CW Tryz.prog ZY 116 [fw,.agg #[.int .i64 6,v1,v2,v3,v4],av] H (Qa H .und):=by
 obtain⟨ab,rfl,Jk,qa⟩:=hA.pair;obtain⟨p,q,rfl,hp,hq,low⟩:=hg;obtain⟨p1,p2,p3,rfl,_⟩:=hf.trio;obtain⟨H2,e2,k2,n2,q0,q1⟩:=Xb H [.int .i64 6,v1,v2,v3,v4] [.int .i64 0,.bool false,.slice none 0 0,.slice none 0 0];have qa:=(k2.blk _ Jk).trans qa;simp only[List.cons_append,List.nil_append]at qa;have K:=k2;obtain⟨H3,Sc,k3,q2,n3⟩:=Vb (H:=H2) (k:= .int .i64 2) (p:= .bool false) (q:= .slice none 0 0) (r:= .slice none 0 0) rfl;have K:=K.trans k3;replace q0:=k3.q q0;replace q1:=k3.q q1;replace qa:=k3.q qa;have z0:=q0;have qz:=qa;obtain⟨H4,c4,k4⟩:=W2 t (hp.keep K) (hq.keep K) (by decide) hD low.2;have n4:=k4.n;have K:=K.trans k4;replace q1:=k4.q q1;replace q2:=k4.q q2;have c4:ZU Tryz.prog ZY 153 [.agg #[.int .i64 1,.bool t,p,q]] H3=some (.int .i64 0,H4):=c4;have z2:=Ru q2;have hF:VB H4 [.int .i64 2,.bool false,.slice none 0 0,.slice none 0 0] .und:=rfl;obtain⟨H5,Ui,n5,q1,b5,UK,hF⟩:=WV q1 rfl hF;have K:=UK _ K (by omega);have Y1:=XW q1 rfl;try simp at Ui Y1
 refine Yd 141 Tryz.func116 ?_;apply Za;intro b1 Zf;simp[Value.cells,Xr,XV,e2];subst Zf;apply Za;intro b1 Zf;simp[TX,Xr,Value.cells,Sc];subst Zf;apply Zi;intro b1 Zf;apply Za;intro b2 ZT;simp[Ut,WX z0];subst ZT;apply ZR;apply Za;intro b2 ZT;simp[show Zd .eql .i64 6 0=some (.bool false)from rfl];subst ZT;refine Zb (t:=false) (by simp) ?_;apply Za;intro b2 ZT;simp[show Zd .eql .i64 6 1=some (.bool false)from rfl];subst ZT;refine Zb (t:=false) (by simp) ?_;apply Za;intro b2 ZT;simp[show Zd .eql .i64 6 6=some (.bool true)from rfl];subst ZT;refine Zb (t:=true) (by simp) ?_;apply Za;intro b2 ZT;simp[bR (show 1<2 by decide),eK qz,c4,show Zd .eql .i64 0 0=some (.bool true)from rfl];subst ZT;refine Zb (t:=true) (by simp) ?_;apply Za;intro b2 ZT;simp[z2,Ui];subst ZT;apply ZZ;simp[YQ,Yv,Y1];exact⟨K,_,rfl,hF⟩
theorem gw{v1 v2 v3 v4:Value}{op:Int}{two:Bool}{f:FuncId}(YB:TN op=some (two,f)){css:List (List Value)}{fs:List FD}(hA:UB 4 H av css)(hF:UT H css fs)(hlen:fs.length=if two then 2 else 1)(hu: ∀(i:Nat)(g:FD),fs[i]?=some g->g.isUnd=false)(hw:(fs.map FD.w).sum<=67108864)(h6:op=6-> ∀g:FD,fs[1]?=some g->g.isZero=false){bw m:Nat}{tv kv:Value}(gK:H.blk bw= .rw 1 [.map (some m),tv,kv])(Le:bw<H.n)(hW:Th H m){neg:Bool}{N D:Nat} :CW Tryz.prog ZY 116 [.pointer (some ⟨bw,0,none⟩),.agg #[.int .i64 op,v1,v2,v3,v4],av] H (Qa H (Xq op neg N D fs)):=by
 obtain⟨o0,o1,zT,o12,o11,o14,o13,o15⟩:=aL YB;have Gy:fs.length<=2:=by rw[hlen];cases two<;>simp
 have W9:=hF.len;obtain⟨H2,e2,k2,n2,q0,q1⟩:=Xb H [.int .i64 op,v1,v2,v3,v4] [.int .i64 0,.bool false,.slice none 0 0,.slice none 0 0];have gK:=(k2.blk _ Le).trans gK;have K:=k2;obtain⟨H3,Sc,k3,q2,n3⟩:=Vb (H:=H2) (k:= .int .i64 2) (p:= .bool false) (q:= .slice none 0 0) (r:= .slice none 0 0) rfl;have K:=K.trans k3;replace q0:=k3.q q0;replace q1:=k3.q q1;replace gK:=k3.q gK;have z0:=q0;have hA3:=hA.keep K;have sd:=hF.fr K.fr;have hW3:=hW.keep K;refine Yd 141 Tryz.func116 ?_;apply Za;intro b1 Zf;simp[Value.cells,Xr,XV,e2];subst Zf;apply Za;intro b1 Zf;simp[TX,Xr,Value.cells,Sc];subst Zf;refine Xd (fun s'=>s'.k=141/\Zj H3 s'.H/\s'.tm.get 0=some (.pointer (some ⟨bw,0,none⟩))/\s'.tm.get 2=some av/\s'.tm.get 4=some (.pointer (some ⟨H.n,0,none⟩))/\s'.tm.get 6=some (.pointer (some ⟨H.n+1,0,none⟩))) ?_ ?_
 ·intro Q' YA;apply Za;intro b2 ZT;simp[Ut,WX z0];subst ZT;apply ZR;apply Za;intro b2 ZT;simp[O4 o0];subst ZT;refine Zb (t:=false) (by simp) ?_;apply Za;intro b2 ZT;simp[O4 o1];subst ZT;refine Zb (t:=false) (by simp) ?_;apply Za;intro b2 ZT;simp[QX];subst ZT;by_cases yT:op=6
  ·refine Zb (t:=true) (by simp[yT]) ?_;have htwo:two=true:=by subst yT;simp[TN]at YB;first|exact YB.1|exact YB.1.symm
   have dU:fs.length=2:=by rw[hlen,htwo];rfl
   have pz:css.length=2:=by omega
   obtain⟨g0,g,rfl⟩:=D2 dU;obtain⟨c1,c2,rfl⟩:=D2 pz;have h6:=h6 yT g rfl;obtain⟨ab,rfl,Jk,qa⟩:=hA3.pair;obtain⟨p1,p2,p3,rfl,_⟩:=sd.1.trio;simp only[List.map_cons,List.map_nil,List.sum_cons,List.sum_nil]at hw;have wc: ∃S H4,ZU Tryz.prog ZY 153 [.agg c2.toArray] H3=some (.int .i64 S,H4)/\Zj H3 H4/\S≠0:=by cases g with|und=>have:=hu 1 .und rfl;cases this|opn=>obtain rfl:=sd.2.1;obtain⟨H4,c4,k4⟩:=WY (k:=0) (p:= .bool false) (q:= .slice none 0 0) (r:= .slice none 0 0) (by decide) H3;exact⟨2,H4,c4,k4,by decide⟩|rat t C D=>obtain⟨p,q,rfl,hp,hq,low⟩:=sd.2.1;have hw:g0.w+(max (Zq C) (Zq D)+1+0)<=67108864:=hw;obtain⟨H4,c4,k4⟩:=W2 t hp hq (by omega) (by omega) low.2;refine⟨_,H4,c4,k4,fun e=>?_⟩;have:=RZ.mp e;have:decide (C=0)=false:=h6;simp at this;omega
   obtain⟨S,H4,c4,k4,hS⟩:=wc;obtain⟨r1,r2,r3,rfl,_⟩:=sd.2.1.trio;simp only[List.cons_append,List.nil_append]at qa;have c4:ZU Tryz.prog ZY 153 [.agg #[.int .i64 g.kind,r1,r2,r3]] H3=some (.int .i64 S,H4):=c4;apply Za;intro b2 ZT;simp[bR (show 1<2 by decide),eK qa,c4,O4 hS];subst ZT;refine Zb (t:=false) (by simp) ?_;apply Zr;simp[Yv];apply YA;exact⟨rfl,k4,by simp,by simp,by simp,by simp⟩
  ·refine Zb (t:=false) (by simp[yT]) ?_;apply Za;intro b2 ZT;simp[O4 zT];subst ZT;refine Zb (t:=false) (by simp) ?_;apply Za;intro b2 ZT;simp[O4 o12];subst ZT;refine Zb (t:=false) (by simp) ?_;apply Zi;intro b2 ZT;apply Za;intro b3 Z4;simp[O4 o11];subst Z4;refine Zb (t:=false) (by simp) ?_;apply Za;intro b3 Z4;simp[O4 o14];subst Z4;refine Zb (t:=false) (by simp) ?_;apply Za;intro b3 Z4;simp[O4 o13];subst Z4;refine Zb (t:=false) (by simp) ?_;apply Zl;simp[O4 o15];subst ZT;refine Zb (t:=false) (by simp) ?_;apply Zr;simp[Yv];apply YA;exact⟨rfl,.refl _,by simp,by simp,by simp,by simp⟩
 rintro⟨k,tm,Ha⟩ ⟨hk,kHa,t0,t2,t4,t6⟩;simp only at hk kHa t0 t2 t4 t6;subst hk;have mw:=hA3.len uFs;obtain⟨len,Kt⟩:=hid (css.length);rw[<-Kt]at mw W9;apply Za;intro b1 Zf;simp;subst Zf;apply Zi;intro b1 Zf;apply Za;intro b2 ZT;simp[t2,mw];subst ZT;apply ZR;have nH3:H3.n=H.n+3:=by omega
 refine YS (fun n s'=>s'.k=141/\Zj H3 s'.H/\ ∃(i:Nat) (lv:Value),n+i=len/\UB 3 s'.H lv ((css.take i).map (List.drop 1))/\(∀b,Yt lv=some b->H3.n<=b)/\(∀j g,j<i->fs[j]?=some g->g.isRat=true)/\s'.tm.get 0=some (.pointer (some ⟨bw,0,none⟩))/\s'.tm.get 4=some (.pointer (some ⟨H.n,0,none⟩))/\s'.tm.get 6=some (.pointer (some ⟨H.n+1,0,none⟩))/\s'.tm.get 13=some lv/\s'.tm.get 113=some av/\s'.tm.get 114=some (.int .i64 (len:Int))/\s'.tm.get 115=some (.int .i64 (i:Int))) ?_ len _ ⟨rfl,kHa,0,.slice none 0 0,by omega,.inl ⟨rfl,by simp⟩,(fun b hb=>by cases hb),(fun j g hj=>by omega),by simp[t0],by simp[t4],by simp[t6],by simp,by simp,by simp,by simp⟩;rintro n ⟨k,CX,Hb⟩ ⟨hk,ic,i,lv,mO,hL,Bh,FQ,u0,u4,u6,BJ,rQ,rP,kM⟩ Q' YA;simp only at hk ic hL u0 u4 u6 BJ rQ rP kM;subst hk;have nHb:=ic.n;apply Za;intro b3 Z4;simp[rP,kM,KS];subst Z4;apply Zi;intro b3 Z4;have IQ:=ic.q q1;have ik:=ic.q q0;have dn:=ic.q gK;have kH:Zj H Hb:=K.trans ic;by_cases hi:i<len;·refine Zb (t:=true) (by simp[hi]) ?_;apply Zr;subst Z4;obtain⟨cs,Tk⟩: ∃cs,css[i]?=some cs:=⟨css[i]'(by omega),List.getElem?_eq_getElem (by omega)⟩;obtain⟨g,hg,yB⟩:=sd.get Tk;obtain⟨ab,hvb,Qm,Jk,Wa,hcl4,hcut⟩:=hA3.at Tk uFs SE (by decide);have Y1:=Tm ((ic.blk _ Jk).trans Wa) (by decide) hcut hcl4 GV SE;have hug:=hu i g hg;obtain⟨p,q,r,rfl,eh⟩:=yB.trio;have P2:=yB.ones;have K:=kH;obtain⟨H4,WQ,k4,IU,n4⟩:=Vb (H:=Hb) P2;have K:=K.trans k4;replace ik:=k4.q ik;replace IQ:=k4.q IQ;replace dn:=k4.q dn;have ym:=IU;apply Zi;intro b3 Z4;apply ZR;apply Za;intro b4 Yy;simp[rQ,kM,Qm,Y1,Xr,Value.cells,WQ];subst Yy;apply Zi;intro b4 Yy;apply Zi;intro b5 SV;cases g with
  |und=>cases hug
  |opn=>
   obtain⟨H5,c5,k5⟩:=X2 H4;have n5:=k5.n;have K:=K.trans k5;replace ik:=k5.q ik;replace IQ:=k5.q IQ;replace dn:=k5.q dn;have aF:VB H5 [.int .i64 0,.bool false,.slice none 0 0,.slice none 0 0] .opn:=rfl;obtain⟨H6,Vt,n6,IQ,b6,Ub,aF⟩:=WV IQ rfl aF;have K:=Ub _ K (by omega);have jl:=XW IQ rfl;try simp at Vt jl
   apply Zl;simp[Ql,Vo ym,FD.kind,show Zd .neq .i64 0 1=some (.bool true)from rfl];subst SV;refine Zb (t:=true) (by simp) ?_;apply Za;intro b5 SV;simp[u6,c5,Vt];subst SV;apply ZZ;simp[YQ,Yv];apply YA;simp[TI,Yv,YQ,u6,jl];rw[aU o0 hg Gy h6];exact⟨K,_,rfl,aF⟩
  |rat s A B=>
   obtain⟨UW,qc⟩: ∃x,x=(css.take i).map (List.drop 1):=⟨_,rfl⟩;rw[<-qc]at hL;have ia:UW.length=i:=by rw[qc,List.length_map,List.length_take];omega
   have hL4:=hL.keep k4;have xy:[p,q,r].all one=true:=by simp only[List.all_cons,Bool.and_eq_true]at P2⊢;exact P2.2
   obtain⟨G,hG⟩:=hid (H4.new 3 [p,q,r]);have kG:Zj H4 G:=by rw[hG];exact Zj.new _ _ _
   have nG:G.n=H4.n+1:=by rw[hG];rfl
   have bG:G.blk H4.n= .rw 3 [p,q,r]:=by rw[hG,AH.blk_new,if_pos rfl]
   obtain⟨H5,N4,n5,oth5,hL5,Pn,FX⟩:=(hL4.keep kG).append (by decide) bG rfl xy sQs (by decide) XC rfl (by omega);rw[ia]at N4 hL5;have wS:Zj H3 G:=(ic.trans k4).trans kG;have kH5:Zj H3 H5:=by cases er:Yt lv with|none=>exact wS.trans (Pn er).1|some b=>exact(FX b er).1 H3 wS (Bh b er)
   have gL:=CC H4 p q r;rw[<-hG]at gL;apply Zl;simp[Ql,Vo ym,FD.kind,show Zd .neq .i64 1 1=some (.bool false)from rfl];subst SV;refine Zb (t:=false) (by simp) ?_;apply Zr;subst Yy;apply Zl;simp[BJ,JZ,QH ym,gL,N4];simp[Yv];subst Z4;apply Zl;simp[kM,TL (x:=i) (by omega)];apply YA;refine⟨n-1,by omega,rfl,kH5,i+1,.slice (some ⟨G.n,0,none⟩) (i+1) (i+1),by omega,?_,(fun b hb=>by cases hb;omega),?_,by simp[u0],by simp[u4],by simp[u6],by simp,by simp[rQ],by simp[rP],by simp⟩;·rw[List.take_add_one,List.map_append,<-qc,Tk];exact hL5
   ·intro j g' hj gJ;by_cases e:j=i;·subst e;rw[hg]at gJ;injection gJ with gJ;subst gJ;rfl
    ·exact FQ j g' (by omega) gJ
 ·refine Zb (t:=false) (by simp[hi]) ?_;apply YN;apply YA;left;refine⟨rfl,?_⟩;obtain rfl:i=len:=by omega
  rw[List.take_of_length_le (by omega)]at hL;subst Zf;clear YA;obtain⟨cb,QM,uE,hcf⟩:=wB (hW3.keep ic) YB;have hFb:=sd.fr ic.fr;have vZ: ∃R,Xq op neg N D fs= .mk R/\(Xq op neg N D fs).ok/\LO (cond two 105 107) [lv,.pointer (some ⟨cb,0,none⟩)] Hb.top R:=by cases two with
   |false=>obtain⟨g,rfl⟩:=AG (show fs.length=1 from hlen);obtain⟨c,rfl⟩:=AG (show css.length=1 by rw[hF.len];rfl);obtain⟨lb,rfl,Bh,ql⟩:=hL.single;have:=FQ 0 g (by simp at Kt;omega) rfl;cases g with
    |opn=>cases this
    |und=>cases this
    |rat s A B=>
     obtain⟨p,q,rfl,hp,hq,low⟩:=hFb.1;have pA:(FD.rat s A B).w<=67108864:=by simpa using hw
     obtain⟨R,hR,_⟩:=Ii YB hp hq low pA;have Md:Xq op neg N D [.rat s A B]=Vi op s A B:=by unfold Xq;rw[if_neg o0]
     refine⟨R,Md.trans hR,by rw[Md];exact(KK low).1,cr (H:=Hb.top) (p:= .bool s) (q:=p) (r:=q) (l:=[]) hcf uE (by decide) ql Bh fun G kG=>?_⟩;obtain⟨R',uR,gv⟩:=Ii YB (hp.top.keep kG) (hq.top.keep kG) low pA;rw[hR]at uR;injection uR with e1 e2 e3;obtain⟨a,b,c⟩:=R;obtain⟨a',b',c'⟩:=R';simp only at e1 e2 e3;subst e1;subst e2;subst e3;exact gv
   |true=>obtain⟨g,g',rfl⟩:=D2 (show fs.length=2 from hlen);obtain⟨c,c',rfl⟩:=D2 (show css.length=2 by rw[hF.len];rfl);obtain⟨lb,rfl,Bh,ql⟩:=hL.pair;have r1:=FQ 0 g (by simp at Kt;omega) rfl;have r2:=FQ 1 g' (by simp at Kt;omega) rfl;cases g with
    |opn=>cases r1
    |und=>cases r1
    |rat s A B=>cases g' with
     |opn=>cases r2
     |und=>cases r2
     |rat t C E=>
      obtain⟨p,q,rfl,hp,hq,low⟩:=hFb.1;obtain⟨p',q',rfl,hp',sZ,AB⟩:=hFb.2.1;have pA:(FD.rat s A B).w+(FD.rat t C E).w<=67108864:=by simpa using hw
      have oD:op=6->C≠0:=fun e h=>by have:=h6 e _ rfl;have:decide (C=0)=false:=this;simp at this;exact this h
      obtain⟨R,hR,_⟩:=Ij YB hp hq hp' sZ low AB oD pA;have Md:Xq op neg N D [.rat s A B,.rat t C E]=NS op s A B t C E:=by unfold Xq;rw[if_neg o0]
      refine⟨R,Md.trans hR,by rw[Md];exact(Je low AB).1,ct (H:=Hb.top) (p:= .bool s) (q:=p) (r:=q) (p':= .bool t) (q':=p') (r':=q') hcf uE ql Bh fun G kG=>?_⟩;obtain⟨R',uR,gv⟩:=Ij YB (hp.top.keep kG) (hq.top.keep kG) (hp'.top.keep kG) (sZ.top.keep kG) low AB oD pA;rw[hR]at uR;injection uR with e1 e2 e3;obtain⟨a,b,c⟩:=R;obtain⟨a',b',c'⟩:=R';simp only at e1 e2 e3;subst e1;subst e2;subst e3;exact gv
  obtain⟨R,hR,MP,hgv⟩:=vZ;rw[hR]at MP⊢;obtain⟨S,N',D'⟩:=R;have K:=kH;have q0ba:=ik;have uG:=dn;obtain⟨g1,g2,BC,PT,XK,x1,x2⟩:=hgv;obtain⟨TM,WE,VT,fc⟩:=cg XK;have WR:=VT;have KN:=WR.n;have K:=K.trans VT;simp only at PT x1 x2;replace x1:=x1.same (Yz XK);replace x2:=x2.same (Yz XK);rw[<-WE]at x1 x2;obtain⟨CM,Jj,VU⟩:=Ux (p:= .bool S) ⟨⟨_,rfl⟩,x1.shape,x2.shape⟩ TM.top;obtain⟨XB,U3,Va,jI⟩:=cg VU;have Wf:=WR.trans Va;have Gf:=Wf.n;have K:=K.trans Va;replace x1:=x1.keep Va;replace x2:=x2.keep Va;replace IQ:=Wf.q IQ;have r1:=IQ;obtain⟨BA,RX,Mt,RY,U1,IQ,Vn,Ro⟩:=xU (k:=1) (p:= .bool S) IQ (by omega) rfl x1.one1 x2.one1;obtain⟨gX,Rq⟩:=hid (low XB BA);rw[<-Rq]at U1 IQ Vn Ro;have K:=Ro _ K (by omega);have fr:=Fr.put r1 IQ U1 Vn rfl rfl (show noU [.int .i64 1,.bool S,g1,g2]=true by obtain⟨_,_,_,rfl⟩:=x1.shape;obtain⟨_,_,_,rfl⟩:=x2.shape;rfl);have hFin:VB gX [.int .i64 1,.bool S,g1,g2] (.mk (S,N',D')):=⟨_,_,rfl,x1.fr fr,x2.fr fr,MP⟩;have jl:=Ru IQ;have pR:Pt Tryz.prog Hb.top 129 (.map (some m)) (.int .i64 op) false=some (GF two cb):=QM;apply Zi;intro b1 Zf;apply Y8 (by kernel_rfl);simp[u0,tC];refine WW (v:= .map (some m)) (by simp[jQ (H:=AH.top Hb) uG]) ?_;simp[u4,Ut];refine WW (v:= .int .i64 op) (by simp[WX (H:=AH.top Hb) q0ba]) ?_;simp;refine WW (v:=GF two cb) (by simp[pR]) ?_;simp[BJ,GF];refine XL (v:= .tuple #[.agg #[.bool S,g1,g2],.int .i64 0]) (VI.nil Hb.n) XK WE (by simp[PT]) fun KP PK=>?_;simp;refine XL (v:= .agg #[.int .i64 1,.bool S,g1,g2]) PK VU U3 (by simp[Jj]) fun Gb PU=>?_;simp[u6];refine PL (v:= .tuple #[]) PU Mt RY Rq (by simp[RX,u6]) ?_;simp[u6];subst Zf;apply ZZ;simp[u6,jl];exact⟨K,_,rfl,hFin⟩
end
mutual def ET.fold:ET->FD| .node op neg abs den args=>if(YP args).any FD.isUnd=true then .und else Xq op neg (dv Zc abs) (dv Zc den) (YP args) def YP:List ET->List FD|[]=>[]|t::ts=>t.fold::YP ts end
mutual def ET.parts:ET->List FD| .node op neg abs den args=>XU args++[if(YP args).any FD.isUnd=true then .und else Xq op neg (dv Zc abs) (dv Zc den) (YP args)] def XU:List ET->List FD|[]=>[]|t::ts=>t.parts++XU ts end
mutual def ET.wt:ET->Nat| .node op neg abs den args=>(if op=0 then max (64*abs.length) (64*den.length)else 0)+1+Vy args def Vy:List ET->Nat|[]=>0|t::ts=>t.wt+Vy ts end
theorem W3(l:List ET):YP l=l.map ET.fold:=by induction l with|nil=>rfl|cons x xs ih=>simp[YP,ih]
theorem Ln(xs ys:List ET):XU (xs++ys)=XU xs++XU ys:=by induction xs with|nil=>simp[XU]|cons x xs ih=>simp[XU,ih]
theorem Ci(op:Int)(neg:Bool)(abs den:List Nat)(args:List ET):(ET.node op neg abs den args).parts=XU args++[(ET.node op neg abs den args).fold]:=by simp only[ET.parts,ET.fold]
theorem My{xs:List ET}{i:Nat}{t:ET}(hi:xs[i]?=some t):t.wt<=Vy xs:=by induction xs generalizing i with
 |nil=>simp at hi
 |cons x xs ih=>cases i with|zero=>simp at hi;subst hi;simp[Vy]|succ i=>simp at hi;have:=ih hi;simp only[Vy];omega
theorem Uu{xs:List ET}(h:XZ xs=true){i:Nat}{t:ET}(hi:xs[i]?=some t):t.allGood=true:=by induction xs generalizing i with
 |nil=>simp at hi
 |cons x xs ih=>simp only[XZ,Bool.and_eq_true]at h;cases i with|zero=>simp at hi;subst hi;exact h.1|succ i=>simp at hi;exact ih h.2 hi
theorem OB{xs:List Nat}(h:YH Zc xs):Zq (dv Zc xs)<=64*xs.length:=by refine V3 ?_;rw[Nat.pow_mul];exact Wh h
theorem Uf{op:Int}{neg:Bool}{abs den:List Nat}{args:List ET}(h:(ET.node op neg abs den args).good=true):0<=op/\op<16/\args.length=arity op.toNat/\(op=0->0<dv Zc den):=by unfold ET.good at h;simp only[Bool.and_eq_true,decide_eq_true_eq]at h;refine⟨h.1.1,h.1.2.1,h.1.2.2,fun h0=>?_⟩;have:=h.2;rw[if_pos h0]at this;simpa using this
theorem gp{op:Int}{neg:Bool}{N D:Nat}{fs:List FD}(hD:op=0->0<D)(h: ∀g∈fs,g.ok){k:Nat}(hN:op=0->Zq N<=k/\Zq D<=k):(Xq op neg N D fs).ok/\(Xq op neg N D fs).w<=(if op=0 then k else 0)+1+(fs.map FD.w).sum:=by
 unfold Xq;by_cases h0:op=0;·rw[if_pos h0,if_pos h0];have:=fh (neg:=neg) (n:=N) (hD h0) (k:=k+1) (by have:=(hN h0).1;omega) (by have:=(hN h0).2;omega);exact⟨this.2,by have:=this.1;omega⟩
 ·rw[if_neg h0,if_neg h0];split;·rename_i s A B;have:=KK (op:=op) (h _ (List.mem_singleton.mpr rfl));exact⟨this.1,by have:=this.2;simp;omega⟩
  ·rename_i s A B t C E;have h1:Sd s A B:=h (.rat s A B) (by simp);have h2:Sd t C E:=h (.rat t C E) (by simp);have:=Je (op:=op) h1 h2;exact⟨this.1,by have:=this.2;simp;omega⟩
  ·split;·exact⟨trivial,by show 1<=_;omega⟩
   ·exact⟨trivial,by show 1<=_;omega⟩
  ·exact⟨trivial,by show 1<=_;omega⟩
theorem O9: ∀n(t:ET),t.nodes<=n->t.allGood=true->t.wide 1048576->t.fold.ok/\t.fold.w<=t.wt:=by intro n;induction n with
 |zero=>intro t h;have:=Xn t;omega
 |succ n ih=>
  intro t ht hg hw;obtain⟨op,neg,abs,den,args⟩:=t;simp only[ET.nodes]at ht;simp only[ET.allGood,Bool.and_eq_true]at hg;obtain⟨_,_,da,dd,ws⟩:=hw;have key: ∀l:List ET,Z0 l<=n->XZ l=true->UC 1048576 l->(∀g∈YP l,g.ok)/\((YP l).map FD.w).sum<=Vy l:=by intro l;induction l with
   |nil=>intro _ _ _;exact⟨fun g hg=>by simp[YP]at hg,by simp[YP,Vy]⟩
   |cons x xs jv=>
    intro hl ji hwl;simp only[Z0]at hl;simp only[XZ,Bool.and_eq_true]at ji;have h1:=ih x (by omega) ji.1 hwl.1;have h2:=jv (by omega) ji.2 hwl.2;refine⟨fun g hg=>?_,by simp only[YP,Vy,List.map_cons,List.sum_cons];have:=h1.2;have:=h2.2;omega⟩;simp only[YP,List.mem_cons]at hg;rcases hg with e|e;·rw[e];exact h1.1
    ·exact h2.1 g e
  obtain⟨k1,k2⟩:=key args (by omega) hg.2 ws;simp only[ET.fold,ET.wt];split;·exact⟨trivial,by show 1<=_;omega⟩
  ·obtain⟨_,_,_,hD⟩:=Uf hg.1;have b1:=OB da;have b2:=OB dd;have:=gp (op:=op) (neg:=neg) (N:=dv Zc abs) (D:=dv Zc den) hD k1 (k:=max (64*abs.length) (64*den.length)) (fun _=>⟨by omega,by omega⟩);exact⟨this.1,by have:=this.2;omega⟩
theorem Ap{args:List ET}(hg:XZ args=true)(hw:UC 1048576 args):((YP args).map FD.w).sum<=Vy args:=by induction args with|nil=>simp[YP,Vy]|cons x xs ih=>simp only[XZ,Bool.and_eq_true]at hg;have h1:=O9 _ x (Nat.le_refl _) hg.1 hw.1;have h2:=ih hg.2 hw.2;simp only[YP,Vy,List.map_cons,List.sum_cons];have:=h1.2;omega
section
variable {H : AH}
theorem rS{op:Int}{neg:Bool}{va vd vx av:Value}{abs den:List Nat}{args:List ET}{css:List (List Value)}{fs:List FD}(ha:Sl H va abs)(hd:Sl H vd den)(da:YH Zc abs)(dd:YH Zc den)(la:abs.length<=1048576)(ld:den.length<=1048576)(hg:(ET.node op neg abs den args).good=true)(hA:UB 4 H av css)(hF:UT H css fs)(hl:fs.length=args.length)(hu:fs.any FD.isUnd=false)(MP: ∀g∈fs,g.ok)(hw:(fs.map FD.w).sum<=67108864)(hb:op=0->Zq (dv Zc abs)<=67108864/\Zq (dv Zc den)<=67108864){bw m:Nat}{tv kv:Value}(gK:H.blk bw= .rw 1 [.map (some m),tv,kv])(Le:bw<H.n)(hW:Th H m):CW Tryz.prog ZY 116 [.pointer (some ⟨bw,0,none⟩),.agg #[.int .i64 op,.bool neg,va,vd,vx],av] H (Qa H (Xq op neg (dv Zc abs) (dv Zc den) fs)):=by
 obtain⟨h0,h16,har,hD⟩:=Uf hg;have mE: ∀(i:Nat)(g:FD),fs[i]?=some g->g.isUnd=false:=fun i g hi=>by have:=List.any_eq_false.mp hu g (List.mem_of_getElem? hi);simpa using this
 have hlen:fs.length=arity op.toNat:=by omega
 have W9:=hF.len;obtain⟨k,rfl⟩: ∃k:Nat,op=(k:Int):=⟨op.toNat,by omega⟩;have hk:k<16:=by omega
 have hlen:fs.length=arity k:=by simpa using hlen
 have one: ∀{X:Int},arity k=1-> ∃c f,css=[c]/\fs=[f]/\VB H c f/\f.isUnd=false/\f.w<=67108864:=fun{X} h=>by obtain⟨f,rfl⟩:=AG (hlen.trans h);obtain⟨c,rfl⟩:=AG (W9.trans (by rfl));exact⟨c,f,rfl,rfl,hF.1,mE 0 f rfl,by simpa using hw⟩
 have rest: ∀(two:Bool)(f:FuncId),TN (k:Int)=some (two,f)->arity k=(if two then 2 else 1)->CW Tryz.prog ZY 116 [.pointer (some ⟨bw,0,none⟩),.agg #[.int .i64 (k:Int),.bool neg,va,vd,vx],av] H (Qa H (Xq (k:Int) neg (dv Zc abs) (dv Zc den) fs)):=fun two f YB har2=>by
  by_cases h6:(k:Int)=6/\ ∃g,fs[1]?=some g/\g.isZero=true
  ·obtain⟨e6,g,yA,hz⟩:=h6;have k6:k=6:=by omega
   subst k6;obtain⟨f0,f1,rfl⟩:=D2 (hlen.trans rfl);obtain⟨c0,c1,rfl⟩:=D2 (W9.trans rfl);simp at yA;subst yA;cases f1 with
    |opn=>cases hz
    |und=>cases hz
    |rat t C E=>
     have hC:C=0:=by simpa[FD.isZero]using hz
     subst hC;have:Xq ((6:Nat):Int) neg (dv Zc abs) (dv Zc den) [f0,.rat t 0 E]= .und:=by unfold Xq;rw[if_neg (by decide)];cases f0<;>rfl
     rw[this];have hwE:f0.w+(max (Zq 0) (Zq E)+1+0)<=67108864:=hw;exact gq hA hF.1 hF.2.1 (by omega)
  ·exact gw YB hA hF (hlen.trans har2) mE hw (fun e g yA=>by cases hz:g.isZero with|false=>rfl|true=>exact absurd ⟨e,g,yA,hz⟩ h6) gK Le hW
 have nm: ∀{op:Int},op≠0->Xq op neg (dv Zc abs) (dv Zc den) fs=Xq op false 0 0 fs:=fun h=>EK h _ _ _ _ _ _ _;match k,hk with|0,_=>have:fs=[]:=List.length_eq_zero_iff.mp (hlen.trans rfl);subst this;have:=hb rfl;exact kP ha hd da dd la ld this.1 this.2 (hD rfl)|1,_=>have:fs=[]:=List.length_eq_zero_iff.mp (hlen.trans rfl);subst this;exact rR|2,_=>exact rest false _ rfl rfl|3,_=>exact rest true _ rfl rfl|4,_=>exact rest true _ rfl rfl|5,_=>exact rest true _ rfl rfl|6,_=>exact rest true _ rfl rfl|7,_=>exact rest false _ rfl rfl|8,_=>exact rest true _ rfl rfl|9,_=>exact rest true _ rfl rfl|10,_=>obtain⟨c,f,rfl,rfl,h1,h2,h3⟩:=one (X:=0) rfl;rw[nm (by decide)];exact gx hA h1 h2 h3|11,_=>obtain⟨c,f,rfl,rfl,h1,h2,h3⟩:=one (X:=0) rfl;rw[nm (by decide)];exact kT hA h1 h2 h3|12,_=>obtain⟨c,f,rfl,rfl,h1,h2,h3⟩:=one (X:=0) rfl;rw[nm (by decide)];exact rU hA h1 h2 h3|13,_=>obtain⟨c,f,rfl,rfl,h1,h2,h3⟩:=one (X:=0) rfl;rw[nm (by decide)];exact kS hA h1 h2 h3|14,_=>obtain⟨c,f,rfl,rfl,h1,h2,h3⟩:=one (X:=0) rfl;rw[nm (by decide)];exact kR hA h1 h2 h3|15,_=>obtain⟨c,f,rfl,rfl,h1,h2,h3⟩:=one (X:=0) rfl;rw[nm (by decide)];exact kQ hA h1 h2 h3
end
def Uz(H:AH)(bw m:Nat)(keep:Bool)(L:List FD)(tv:Value):Prop:=H.blk bw= .rw 1 [.map (some m),tv,.bool keep]/\bw<H.n/\ ∃css,UB 4 H tv css/\UT H css L
def aQ:Value:= .iface 148 (.agg #[])
def nK(H:AH)(bw m:Nat)(keep:Bool)(L:List FD)(tv:Value)(t:ET)(x:Value)(H':AH):Prop:= ∃vs Mw,x= .agg vs.toArray/\VB H' vs t.fold/\Uz H' bw m keep (L++t.parts) Mw/\(∀b,Yt Mw=some b->H.n<=b)/\H.n<=H'.n/\H'.lw<=bw/\Vz bw H H'/\ ∀j,j<H.n->j≠bw->Yt tv≠some j->H'.blk j=H.blk j
theorem HY{H H':AH}{bw m:Nat}{keep:Bool}{L:List FD}{tv Mw:Value}(h:Uz H bw m keep L tv)(h':H'.blk bw= .rw 1 [.map (some m),Mw,.bool keep])(hs: ∃a l c,Mw= .slice a l c)(hn:H.n<=H'.n)(hf: ∀j,j<H.n->j≠bw->Yt tv≠some j->H'.blk j=H.blk j):Fr H H':=by
 obtain⟨h1,h2,css,h3,h4⟩:=h;refine⟨hn,fun j hj=>?_⟩;by_cases e:j=bw;·subst e;obtain⟨a,l,c,rfl⟩:=hs;obtain⟨a',l',c',rfl⟩:=h3.shape;exact .inr (.inr ⟨_,_,h1,h',rfl,rfl,rfl⟩)
 ·by_cases e2:Yt tv=some j;·exact .inr (.inl ⟨4,_,(h3.blk_lt e2).2,by decide⟩)
  ·exact .inl (hf j hj e e2)
theorem Uz.keep{H H':AH}{bw m:Nat}{keep:Bool}{L:List FD}{tv:Value}(h:Uz H bw m keep L tv)(k:Zj H H'):Uz H' bw m keep L tv:=by obtain⟨h1,h2,css,h3,h4⟩:=h;exact⟨(k.blk _ h2).trans h1,Nat.lt_of_lt_of_le h2 k.n,css,h3.keep k,h4.fr k.fr⟩
theorem Uz.off{H H':AH}{bw m b:Nat}{keep:Bool}{L:List FD}{tv:Value}(h:Uz H bw m keep L tv)(hb:b≠bw)(ht:Yt tv≠some b)(hn:H'.n=H.n)(ho: ∀j,j≠b->H'.blk j=H.blk j)(fr:Fr H H'):Uz H' bw m keep L tv:=by obtain⟨h1,h2,css,h3,h4⟩:=h;exact⟨(ho _ (Ne.symm hb)).trans h1,by omega,css,h3.frame (by omega) (fun c hc=>ho c (fun e=>ht (by rw[hc,e]))),h4.fr fr⟩
section
variable {P : Program} {C : Cfg}
theorem LG{f:FuncId}{args:List Value}{H H':AH}{v:Value}(h:LD P C f args H=some (.pan v,H')):ZU P C f args H=none:=by rw[XF];unfold YG;have:X1 P C (SY P C) f args H=_:=h;rw[this];rfl
end
theorem Lm{H:AH}{vs:List Value}(hl:vs.length=5)(h:vs.all one=true): ∃H',YV Tryz.prog (H.new 1 [.int .i64 0,.bool false,.slice none 0 0,.slice none 0 0,.slice none 0 0]) 53 (.pointer (some ⟨H.n,0,none⟩)) (.agg vs.toArray)=some H'/\Zj H H'/\H'.blk H.n= .rw 1 vs/\H'.n=H.n+1:=XQ UE rfl (by simp[Value.cells]) hl h
theorem Xp{H:AH}{b:Nat}{vs:List Value}(hb:H.blk b= .rw 1 vs)(hl:vs.length=5):Z9 Tryz.prog H 53 (.pointer (some ⟨b,0,none⟩))=some (.agg vs.toArray):=Tm hb (by decide) (by rw[List.drop_zero,List.take_of_length_le (by omega)]) hl GW UE
theorem TR{H:AH}{b:Nat}{v0 v1 v2 v3 v4:Value}(h:H.blk b= .rw 1 [v0,v1,v2,v3,v4]):Z9 Tryz.prog H 51 (.pointer (some ⟨b,4,none⟩))=some v4:=Yj Hh (AH.cells_rw' h (by decide)) rfl
theorem W7(b:Nat):Ys Tryz.prog 53 (.pointer (some ⟨b,0,none⟩)) 2=some (.pointer (some ⟨b,4,none⟩)):=HZ b 0
theorem Ns{H:AH}{vs:List Value}(hl:vs.length=4)(h:vs.all one=true): ∃H',YV Tryz.prog (H.new 1 [.int .i64 0,.bool false,.slice none 0 0,.slice none 0 0]) 57 (.pointer (some ⟨H.n,0,none⟩)) (.agg vs.toArray)=some H'/\Zj H H'/\H'.blk H.n= .rw 1 vs/\H'.n=H.n+1:=XQ SE rfl (by simp[Value.cells]) hl h
theorem SL(g:FD):Zd .eql .i64 g.kind 2=some (.bool g.isUnd):=by cases g<;>rfl
theorem CD(H:AH)(k p q r:Value):YM Tryz.prog H 83 1 [(0,.agg #[k,p,q,r])]=some (.slice (some ⟨H.n,0,none⟩) 1 1,H.new 4 [k,p,q,r]):=by unfold YM;simp only[sFs,Xr];kernel_rfl
theorem aFs:XY Tryz.prog 83=some false:=by kernel_rfl
theorem sFsl:Xh Tryz.prog 83=some 1:=by kernel_rfl
theorem cM(b:Nat):Ys Tryz.prog 132 (.pointer (some ⟨b,0,none⟩)) 1=some (.pointer (some ⟨b,1,none⟩)):=by kernel_rfl
theorem mm(b:Nat):Ys Tryz.prog 132 (.pointer (some ⟨b,0,none⟩)) 2=some (.pointer (some ⟨b,2,none⟩)):=by kernel_rfl
theorem jP{H:AH}{b:Nat}{u v w:Value}(h:H.blk b= .rw 1 [u,v,w]):Z9 Tryz.prog H 83 (.pointer (some ⟨b,1,none⟩))=some v:=Yj aFs (AH.cells_rw' h (by decide)) rfl
theorem Bt{H:AH}{b:Nat}{u v w:Value}(h:H.blk b= .rw 1 [u,v,w]):Z9 Tryz.prog H 4 (.pointer (some ⟨b,2,none⟩))=some w:=Yj JI (AH.cells_rw' h (by decide)) rfl
theorem rb{H:AH}{b:Nat}{u t w v:Value}(hb:H.blk b= .rw 1 [u,t,w])(Le:b<H.n)(hv:v.cells=#[v])(h1:one v=true): ∃H2,YV Tryz.prog H.top 83 (.pointer (some ⟨b,1,none⟩)) v=some H2/\H2.n=H.n/\H2.lw<=b/\(low H H2).n=H.n/\(low H H2).blk b= .rw 1 [u,v,w]/\(∀j,j≠b->(low H H2).blk j=H.blk j)/\Vz b H (low H H2):=by obtain⟨H2,st,q,n1,o,ka,lw⟩:=Wz (H:=H.top) (o:=1) sFsl hb (v:=v) (ws:=[v]) (by rw[hv]) rfl (by simp) (by simp[h1]);exact⟨H2,st,n1,by rw[lw];exact Nat.min_le_right _ _,n1,q,o,Tn ka⟩
mutual theorem Mp: ∀t:ET,t.parts.length=t.nodes| .node op neg abs den args=>by simp only[ET.parts,ET.nodes,List.length_append,List.length_singleton,VE args];omega theorem VE: ∀l:List ET,(XU l).length=Z0 l|[]=>rfl|t::ts=>by simp only[XU,Z0,List.length_append,Mp t,VE ts] end
theorem RK{args:List ET}{i:Nat}{t:ET}(h:args[i]?=some t):YP (args.take (i+1))=YP (args.take i)++[t.fold]:=by rw[W3,W3,List.take_add_one,h,List.map_append];rfl
theorem P6{args:List ET}{i:Nat}{t:ET}(h:args[i]?=some t):XU (args.take (i+1))=XU (args.take i)++t.parts:=by rw[List.take_add_one,h,Ln];simp[XU]
theorem Tp{args:List ET}{i:Nat}{t:ET}(h:args[i]?=some t):Z0 (args.take i)+t.nodes<=Z0 args:=by
 have h1:args=args.take (i+1)++args.drop (i+1):=(List.take_append_drop _ _).symm;have h2:args.take (i+1)=args.take i++[t]:=by rw[List.take_add_one,h];rfl
 have:Z0 args=Z0 (args.take i)+t.nodes+Z0 (args.drop (i+1)):=by
  conv=>lhs;rw[h1,h2]
  simp[Uc,Z0,Nat.add_assoc]
 omega
theorem Vz.weak{a b:Nat}{H H':AH}(h:Vz b H H')(Jk:a<=b):Vz a H H':=fun H0 k hn=>h H0 k (Nat.le_trans hn Jk)
def s6(H:AH)(bw m:Nat)(keep:Bool)(L:List FD)(tv:Value)(t:ET):Out->AH->Prop| .ret x,H'=>(keep=true\/t.fold.isUnd=false)/\nK H bw m keep L tv t x H'| .pan v,H'=>keep=false/\t.fold.isUnd=true/\v=aQ/\Vz bw H H'
theorem wW:isIface Tryz.prog 148=some false:=by kernel_rfl
theorem bUnd:Wt Tryz.prog 148 []=some (.agg #[]):=by kernel_rfl
section
theorem Ig: ∀n(t:ET),t.nodes<=n-> ∀(H0 H:AH)(vs:List Value)(bw m:Nat)(keep:Bool)(L:List FD)(tv:Value),Ex H0 vs t->t.wide 1048576->t.allGood=true->t.wt<=67108864->Th H0 m->Zj H0 H->H0.n<=bw->Uz H bw m keep L tv->(∀b,Yt tv=some b->bw<=b)->L.length+t.nodes<=500000000->yr Tryz.prog ZY 75 [.pointer (some ⟨bw,0,none⟩),.agg vs.toArray] H (s6 H bw m keep L tv t):=by intro n;induction n with
 |zero=>intro t h;have:=Xn t;omega
 |succ n ih=>intro t ht H0 H vs bw m keep L tv hE hw hg FN hW k0 N5 aF htv hL;obtain⟨op,neg,abs,den,args⟩:=t;have iH:=hE;cases iH with
  |@mk _ _ va vd vx _ _ _ h1 h2 h3=>
   obtain⟨wa,wd,da,dd,ws⟩:=hw;simp only[ET.nodes]at ht hL;simp only[ET.allGood,Bool.and_eq_true]at hg;obtain⟨mT,jh⟩:=hg;have wm:Vy args<=67108864:=by simp only[ET.wt]at FN;omega
   have gK:=aF.2.1;obtain⟨len,Kt⟩:=hid (args.length);have Mb:=h3.len;rw[<-Kt]at Mb;have FV:=VG args;obtain⟨H2,e2,k2,n2,q0,q1⟩:=Xb H [.int .i64 op,.bool neg,va,vd,vx] [.int .i64 0,.bool false,.slice none 0 0,.slice none 0 0];refine JJ 62 (by decide) (by decide) Tryz.func75 rfl rfl ?_;apply Za;intro b1 Zf;simp[Value.cells,Xr,XV,e2];subst Zf;apply Za;intro b1 Zf;simp;subst Zf;apply Za;intro b1 Zf;simp;subst Zf;apply Zi;intro b1 Zf;apply Za;intro b2 ZT;simp[W7,TR q0,Mb];subst ZT;apply ZR;refine YS (fun n s'=>s'.k=62/\ ∃(i:Nat) (av Mw:Value) (css:List (List Value)),n+i=len/\Vz bw H s'.H/\H.n+2<=s'.H.n/\(∀j,j<H.n->j≠bw->Yt tv≠some j->s'.H.blk j=H.blk j)/\Uz s'.H bw m keep (L++XU (args.take i)) Mw/\(∀b,Yt Mw=some b->Yt tv=some b\/H.n+2<=b)/\s'.H.blk H.n= .rw 1 [.int .i64 op,.bool neg,va,vd,vx]/\s'.H.blk (H.n+1)= .rw 1 [.int .i64 0,.bool false,.slice none 0 0,.slice none 0 0]/\UB 4 s'.H av css/\UT s'.H css (YP (args.take i))/\(∀b,Yt av=some b->H.n+2<=b/\Yt Mw≠some b)/\(keep=true\/(YP (args.take i)).any FD.isUnd=false)/\s'.tm.get 0=some (.pointer (some ⟨bw,0,none⟩))/\s'.tm.get 3=some (.pointer (some ⟨H.n,0,none⟩))/\s'.tm.get 4=some (.pointer (some ⟨H.n+1,0,none⟩))/\s'.tm.get 5=some av/\s'.tm.get 6=some (.bool ((YP (args.take i)).any FD.isUnd))/\s'.tm.get 12=some vx/\s'.tm.get 13=some (.int .i64 (len:Int))/\s'.tm.get 14=some (.int .i64 (i:Int))) ?_ len _ ⟨rfl,0,.slice none 0 0,tv,[],by omega,k2.kat bw,by show H.n+2<=H2.n;omega,fun j hj _ _=>k2.blk j hj,by simpa[XU]using aF.keep k2,fun b hb=> .inl hb,q0,q1,.nil,by simp[YP,UT],(fun b hb=>by cases hb),by simp[YP],by simp,by simp,by simp,by simp,by simp[YP],by simp,by simp,by simp⟩;rintro n' ⟨k,tm,Hc⟩ ⟨hk,i,av,Mw,css,mO,DB,nHc,aG,JY,jq,qx,qz,mY,uo,Bb,hky,u0,u3,u4,u5,u6,CV,BJ,BI⟩ Q' YA;simp only at hk DB nHc aG JY qx qz mY uo u0 u3 u4 u5 u6 CV BJ BI;subst hk;obtain⟨a,ha⟩:=hid ((YP (args.take i)).any FD.isUnd);rw[<-ha]at u6 hky;have jU:Zj H0 Hc:=DB H0 k0 N5;have W9:=uo.len;have wi: ∀b,Yt Mw=some b->bw<=b:=fun b hb=>by
    rcases jq b hb with h|h;·exact htv b h
    ·omega
   apply Za;intro b3 Z4;simp[BJ,BI,KS];subst Z4;apply Zi;intro b3 Z4;by_cases hi:i<len;·refine Zb (t:=true) (by simp[hi]) ?_;apply Zr;subst Z4;obtain⟨ti,RV⟩: ∃ti,args[i]?=some ti:=⟨args[i]'(by omega),List.getElem?_eq_getElem (by omega)⟩;have mM:=Tp RV;obtain⟨p,us,Qm,Ku,Lc⟩:=h3.at RV;have Y1:=Ku Hc jU;obtain⟨H4,WQ,k4,q8,n4⟩:=Lm (H:=Hc) Lc.len Lc.ones;have Dz:=JY.keep k4;have dJ:=VE (args.take i);obtain⟨o,H5,N7,mK⟩:=ih ti (by omega) H0 H4 us bw m keep _ Mw Lc (VK ws RV) (Uu jh RV) (by have:=My RV;omega) hW (jU.trans k4) N5 Dz wi (by rw[List.length_append,dJ];omega);have l8:=Xp q8 Lc.len;apply Zi;intro b3 Z4;apply ZR;apply Za;intro b4 Yy;simp[CV,BI,Qm,Y1,Vj,Value.cells,WQ];subst Yy;apply Zi;intro b4 Yy;cases o with
    |pan v=>obtain⟨Pn,VA,rfl,UK⟩:=mK;have c5:=LG N7;have p5:=Oh N7;apply LM;simp[u0,l8,c5,p5,YQ,Yv];apply YA;simp[TI,YQ,Yv];refine⟨Pn,?_,rfl,(DB.trans (k4.kat bw)).trans UK⟩;have:(YP args).any FD.isUnd=true:=List.any_eq_true.mpr ⟨ti.fold,by rw[W3];exact List.mem_map.mpr ⟨ti,List.mem_of_getElem? RV,rfl⟩,VA⟩;simp only[ET.fold];rw[if_pos this];rfl
    |ret x=>
     obtain⟨hkd,fvs,yd,rfl,Gw,DZ,eo,n5,lw5,UK,cK⟩:=mK;have c5:=Oi N7;have f45:=HY Dz DZ.1 (by obtain⟨_,_,_,h,_⟩:=DZ;exact h.shape) n5 cK;obtain⟨H6,Vt,k6,q9,n6⟩:=Ns (H:=H5) Gw.len Gw.ones;apply Zl;simp[u0,l8,c5,Xr,Value.cells,Vt];subst Yy;have hfv6:=Gw.fr k6.fr;obtain⟨p1,p2,p3,rfl,eh⟩:=Gw.trio;have P2:=Gw.ones;refine Xd (fun s'=>s'.k=62/\s'.H=H6/\s'.tm.get 0=some (.pointer (some ⟨bw,0,none⟩))/\s'.tm.get 3=some (.pointer (some ⟨H.n,0,none⟩))/\s'.tm.get 4=some (.pointer (some ⟨H.n+1,0,none⟩))/\s'.tm.get 5=some av/\s'.tm.get 6=some (.bool (a||ti.fold.isUnd))/\s'.tm.get 9=some (.pointer (some ⟨H5.n,0,none⟩))/\s'.tm.get 12=some vx/\s'.tm.get 13=some (.int .i64 (len:Int))/\s'.tm.get 14=some (.int .i64 (i:Int))) ?_ ?_;·intro Jt XR;cases a with|true=>apply Zl;simp[u6];apply XR;exact⟨rfl,rfl,by simp[u0],by simp[u3],by simp[u4],by simp[u5],by simp,by simp,by simp[CV],by simp[BJ],by simp[BI]⟩|false=>apply Zl;simp[u6,Ql,Vo q9,SL];apply XR;exact⟨rfl,rfl,by simp[u0],by simp[u3],by simp[u4],by simp[u5],by simp,by simp,by simp[CV],by simp[BJ],by simp[BI]⟩
     clear u0 u3 u4 u5 u6 CV BJ BI;rintro⟨k,CX,Hx⟩ ⟨hk,mZ,u0,u3,u4,u5,u6,u9,CV,BJ,BI⟩;simp only at hk mZ u0 u3 u4 u5 u6 u9 CV BJ BI;subst hk;subst mZ;have uU:UB 4 Hx av css:=by have h4:=mY.keep k4;have h5:UB 4 H5 av css:=h4.frame n5 fun b hb=>cK b (h4.blk_lt hb).1 (by have:=(Bb b hb).1;omega) (Bb b hb).2;exact h5.keep k6
     have hFa6:=((uo.fr k4.fr).fr f45).fr k6.fr;obtain⟨G,hG⟩:=hid (Hx.new 4 [.int .i64 ti.fold.kind,p1,p2,p3]);have kG:Zj Hx G:=by rw[hG];exact Zj.new _ _ _
     have nG:G.n=Hx.n+1:=by rw[hG];rfl
     have bG:G.blk Hx.n= .rw 4 [.int .i64 ti.fold.kind,p1,p2,p3]:=by rw[hG,AH.blk_new,if_pos rfl]
     have gL:=CD Hx (.int .i64 ti.fold.kind) p1 p2 p3;rw[<-hG]at gL;have Gv:(YP (args.take i)).length=i:=by rw[W3,List.length_map,List.length_take];omega
     obtain⟨H7,N4,n7,j9,hL7,Pn,FX⟩:=(uU.keep kG).append (by decide) bG rfl P2 sFs (by decide) Xr rfl (by omega);have Mg:Vz bw G H7:=by cases er:Yt av with|none=>exact(Pn er).1.kat bw|some b=>exact(FX b er).1.weak (by have:=(Bb b er).1;omega)
     have nn:Hc.n<=H4.n:=k4.n;have nn6:=k6.n;have f7:Fr G H7:=⟨by omega,fun j hj=>by
      by_cases e:Yt av=some j;·exact .inr (.inl ⟨4,_,((uU.keep kG).blk_lt e).2,by decide⟩)
      ·exact .inl (j9 j hj e)⟩;have uq:Uz H7 bw m keep (L++XU (args.take i)++ti.parts) yd:=by have uu:=(DZ.keep k6).keep kG;obtain⟨g1,g2,oQ,g3,g4⟩:=uu;refine⟨(j9 bw g2 (fun e=>by have:=(Bb bw e).1;omega)).trans g1,by omega,oQ,g3.frame (by omega) fun b hb=>j9 b (g3.blk_lt hb).1 (fun e=>?_),g4.fr f7⟩;have h1:=eo b hb;have h2:=(mY.blk_lt e).1;omega
     have iA: ∀j,j<H4.n->j≠bw->Yt Mw≠some j->Yt av≠some j->H7.blk j=Hc.blk j\/Hc.n<=j:=fun j hj h1 h2 h3=>by
      rcases Nat.lt_or_ge j Hc.n with h|h;·refine .inl ?_;rw[j9 j (by omega) h3,kG.blk j (by omega),k6.blk j (by omega),cK j hj h1 h2,k4.blk j h]
      ·exact .inr h
     have old: ∀j,j<H.n+2->j≠bw->Yt tv≠some j->H7.blk j=Hc.blk j:=fun j hj h1 h2=>by
      rcases iA j (by omega) h1 (fun e=>by
       rcases jq j e with h|h;·exact h2 h
       ·omega) (fun e=>by have:=(Bb j e).1;omega)with h|h;·exact h
      ·omega
     have zh: ∀j,H.n<=j->Yt tv≠some j:=fun j hj e=>by obtain⟨_,_,c0,OL,_⟩:=aF;have:=(OL.blk_lt e).1;omega
     apply Zl;simp[u5,u9,Ru q9,gL,N4];simp[Yv];subst Z4;apply Zl;simp[BI,TL (x:=i) (by omega)];apply YA;refine⟨n'-1,by omega,rfl,i+1,.slice (some ⟨G.n,0,none⟩) (css.length+1) (css.length+1),yd,css++[[.int .i64 ti.fold.kind,p1,p2,p3]],by omega,(((((DB.trans (k4.kat bw)).trans UK).trans (k6.kat bw)).trans (kG.kat bw)).trans Mg),by show H.n+2<=H7.n;omega,fun j hj h1 h2=>(old j (by omega) h1 h2).trans (aG j hj h1 h2),?_,fun b hb=> .inr (by have:=eo b hb;omega),(old _ (by omega) (by omega) (zh _ (by omega))).trans qx,(old _ (by omega) (by omega) (zh _ (by omega))).trans qz,hL7,?_,(fun b hb=>?_),?_,by simp[u0],by simp[u3],by simp[u4],by simp,?_,by simp[CV],by simp[BJ],by simp⟩;·rw[P6 RV,<-List.append_assoc];exact uq
     ·rw[RK RV];exact UT.append ((hfv6.fr kG.fr).fr f7) ((hFa6.fr kG.fr).fr f7)
     ·cases hb;refine⟨by omega,fun e=>?_⟩;obtain⟨_,_,c0,OL,_⟩:=DZ;have:=(OL.blk_lt e).1;omega
     ·rcases hkd with h|h;·exact .inl h
      ·rcases hky with h'|h';·exact .inl h'
       ·right;rw[RK RV,List.any_append,<-ha,h'];simp[h]
     ·rw[RK RV,List.any_append,<-ha];simp[u6]
   ·refine Zb (t:=false) (by simp[hi]) ?_;apply YN;apply YA;left;refine⟨rfl,?_⟩;clear YA;obtain rfl:i=len:=by omega
    have bc:args.take i=args:=List.take_of_length_le (by omega);rw[bc]at JY uo ha;subst Zf;obtain⟨H4,WQ,k4,kj,n4⟩:=Vb (H:=Hc) (k:= .int .i64 2) (p:= .bool false) (q:= .slice none 0 0) (r:= .slice none 0 0) rfl;have Kq:(ET.node op neg abs den args).fold=if a=true then .und else Xq op neg (dv Zc abs) (dv Zc den) (YP args):=by simp only[ET.fold];rw[<-ha]
    obtain⟨T,hT⟩:=hid ((ET.node op neg abs den args).fold);rw[<-hT]at Kq;have xP:=k4.q qx;apply Za;intro b1 Zf;simp[TX,Xr,Value.cells,WQ];subst Zf;refine Xd (fun s'=>s'.k=62/\Zj Hc s'.H/\Hc.n<s'.H.n/\(∃cs,s'.H.blk Hc.n= .rw 1 cs/\VB s'.H cs T)/\s'.tm.get 0=some (.pointer (some ⟨bw,0,none⟩))/\s'.tm.get 4=some (.pointer (some ⟨H.n+1,0,none⟩))/\s'.tm.get 10=some (.pointer (some ⟨Hc.n,0,none⟩))) ?_ ?_;·intro Jt XR;apply Za;intro b2 ZT;simp[u6];subst ZT;cases a with|true=>refine Zb (t:=false) (by simp) ?_;apply Zr;apply XR;rw[if_pos rfl]at Kq;exact⟨rfl,k4,by show Hc.n<H4.n;omega,⟨_,kj,by rw[Kq];rfl⟩,by simp[u0],by simp[u4],by simp⟩|false=>rw[if_neg (by decide)]at Kq;have Dz:=JY.keep k4;have P3:=jU.trans k4;obtain⟨x,H5,c5,k5,cs5,rfl,pW⟩:=rS (vx:=vx) (h1.keep P3) (h2.keep P3) da dd wa wd mT (mY.keep k4) (uo.fr k4.fr) (by rw[W3,List.length_map]) ha.symm (fun g hgm=>by rw[W3]at hgm;obtain⟨t',Bm,rfl⟩:=List.mem_map.mp hgm;obtain⟨j,hj⟩:=List.mem_iff_getElem?.mp Bm;exact(O9 _ t' (Nat.le_refl _) (Uu jh hj) (VK ws hj)).1) (Nat.le_trans (Ap jh ws) wm) (fun e=>by have b1:=OB da;have b2:=OB dd;simp only[ET.wt,if_pos e]at FN;omega) Dz.1 Dz.2.1 (hW.keep P3);rw[<-Kq]at pW;have rh:=k5.q kj;obtain⟨H6,Vt,n6,rh,b6,Ub,yC⟩:=WV rh rfl pW;have hlX:=Xp (vs:=[.int .i64 op,.bool neg,va,vd,vx]) xP rfl;have n5:=k5.n;have k6:Zj Hc H6:=Ub Hc (k4.trans k5) (Nat.le_refl _);refine Zb (t:=true) (by simp) ?_;apply Zl;simp[u0,u3,u5,hlX,c5,Vt];apply XR;exact⟨rfl,k6,by show Hc.n<H6.n;omega,⟨_,rh,yC⟩,by simp[u0],by simp[u4],by simp⟩
    clear u0 u3 u4 u5 u6 CV BJ BI;rintro⟨k,CX,Hd⟩ ⟨hk,wI,nHd,⟨cs,kj,ve⟩,u0,u4,JK⟩;simp only at hk wI nHd kj ve u0 u4 JK;subst hk;have Rr:=JY.keep wI;have qzd:=wI.q qz;have Jo:=ve.ones;obtain⟨c1,c2,c3,rfl,eh⟩:=ve.trio;have nd:Vz bw H Hd:=DB.trans (wI.kat bw);by_cases vH:keep=false/\T.isUnd=true;·obtain⟨Pn,VA⟩:=vH;subst Pn;apply Zi;intro b1 Zf;apply Za;intro b2 ZT;simp[JK,Ql,Vo kj,SL,VA,u0,mm,Bt Rr.1];subst ZT;refine Zb (t:=true) (by simp) ?_;apply LM;simp[bUnd,wW,YQ];exact⟨rfl,by rw[<-hT];exact VA,rfl,nd⟩
    ·refine Xd (fun s'=>s'.k=62/\s'.H=Hd/\s'.tm.get 0=some (.pointer (some ⟨bw,0,none⟩))/\s'.tm.get 4=some (.pointer (some ⟨H.n+1,0,none⟩))/\s'.tm.get 10=some (.pointer (some ⟨Hc.n,0,none⟩))) ?_ ?_;·intro Jt XR;apply Zi;intro b2 ZT;cases VA:T.isUnd with
      |false=>apply Zl;simp[JK,Ql,Vo kj,SL,VA];subst ZT;refine Zb (t:=false) (by simp) ?_;apply Zr;apply XR;exact⟨rfl,rfl,by simp[u0],by simp[u4],by simp[JK]⟩
      |true=>
       have FX:keep=true:=by cases keep with|true=>rfl|false=>exact absurd ⟨rfl,VA⟩ vH
       subst FX;apply Zl;simp[JK,Ql,Vo kj,SL,VA,u0,mm,Bt Rr.1];subst ZT;refine Zb (t:=false) (by simp) ?_;apply Zr;apply XR;exact⟨rfl,rfl,by simp[u0],by simp[u4],by simp[JK]⟩
     clear u0 u4 JK;rintro⟨k,yc,Hx⟩ ⟨hk,mZ,u0,u4,JK⟩;simp only at hk mZ u0 u4 JK;subst hk;subst mZ;have vV:keep=true\/T.isUnd=false:=by cases keep with
      |true=>exact .inl rfl
      |false=>cases VA:T.isUnd with|false=>exact .inr rfl|true=>exact absurd ⟨rfl,VA⟩ vH
     obtain⟨S6,hLt,hFt⟩:=Rr.2.2;have YX:=hFt.len;have dJ:=VE args;rw[List.length_append,dJ]at YX;obtain⟨Gc,yQ⟩:=hid (grown Hx (Hx.top.new 4 [.int .i64 T.kind,c1,c2,c3]));have zu:Zj Hx Gc:=by rw[yQ];exact Yo (.refl _) (Zj.new _ _ _)
     have nGc:Gc.n=Hx.n+1:=by rw[yQ];rfl
     have bGc:Gc.blk Hx.n= .rw 4 [.int .i64 T.kind,c1,c2,c3]:=by rw[yQ,(Yz (Zj.new Hx.top 4 _)).blk Hx.n (Nat.lt_succ_self _) (fun e=>by cases e),AH.blk_new,if_pos (show Hx.n=Hx.top.n from rfl)]
     have gL:=CD Hx.top (.int .i64 T.kind) c1 c2 c3;obtain⟨He,N4,ne,Rb,DX,Pn,FX⟩:=((hLt.keep zu).keep (XD Gc)).append (by decide) (show Gc.top.blk Hx.n=_ from bGc) rfl Jo sFs (by decide) Xr rfl (by omega);have ne:He.n=Gc.n+1:=ne;have DX:UB 4 He (.slice (some ⟨Gc.n,0,none⟩) (S6.length+1) (S6.length+1)) (S6++[[.int .i64 T.kind,c1,c2,c3]]):=DX;have N4:XA Tryz.prog Gc.top 83 83 Mw (.slice (some ⟨Hx.n,0,none⟩) 1 1)=some (.slice (some ⟨Gc.n,0,none⟩) (S6.length+1) (S6.length+1),He):=N4;have htvn: ∀b,Yt Mw=some b->b<Hx.n:=fun b hb=>(hLt.blk_lt hb).1;have fin: ∀G3:AH,T4 none He G3->Vz bw Gc G3-> ∃Hs,YV Tryz.prog G3.top 83 (.pointer (some ⟨bw,1,none⟩)) (.slice (some ⟨Gc.n,0,none⟩) (S6.length+1) (S6.length+1))=some Hs/\G3.n<=Hs.n/\Hs.lw<G3.n/\ ∀G4,G4=low G3 Hs->(G4.n=He.n/\G4.lw<=bw)/\Uz G4 bw m keep (L++XU args++[T]) (.slice (some ⟨Gc.n,0,none⟩) (S6.length+1) (S6.length+1))/\Vz bw Hx G4/\(∀j,j<Hx.n->j≠bw->Yt Mw≠some j->G4.blk j=Hx.blk j)/\Fr Hx G4:=fun G3 bt jV=>by
      have hbw3:G3.blk bw= .rw 1 [.map (some m),Mw,.bool keep]:=by have Zf:=Rr.2.1;rw[bt.blk bw (by omega) (fun e=>by cases e),Rb bw (by show bw<Gc.n;omega) (fun e=>by have h:=(hLt.blk_lt e).2;rw[Rr.1]at h;cases h)];exact(zu.blk _ Zf).trans Rr.1
      have Z4:bw<G3.n:=by rw[bt.n];have:=Rr.2.1;omega
      obtain⟨Hs,ss,sn,fH,fn,fb,fo,fk⟩:=rb (v:= .slice (some ⟨Gc.n,0,none⟩) (S6.length+1) (S6.length+1)) hbw3 Z4 rfl rfl;refine⟨Hs,ss,by omega,by omega,fun G4 HT=>?_⟩;have jJ:G4.lw<=bw:=by rw[HT];exact Nat.le_trans (Nat.min_le_right _ _) fH
      rw[<-HT]at fn fb fo fk;have n4:G4.n=He.n:=by rw[fn,bt.n]
      have vj: ∀j,j<Hx.n->j≠bw->Yt Mw≠some j->G4.blk j=Hx.blk j:=fun j hj h1 h2=>by rw[fo j h1,bt.blk j (by omega) (fun e=>by cases e),Rb j (by show j<Gc.n;omega) h2];exact zu.blk j hj
      have fr:Fr Hx G4:=HY Rr fb ⟨_,_,_,rfl⟩ (by omega) vj;refine⟨⟨n4,jJ⟩,⟨fb,by have:=Rr.2.1;omega,_,DX.frame (by omega) fun b hb=>?_,?_⟩,((zu.kat bw).trans jV).trans fk,vj,fr⟩;·cases hb;have:=Rr.2.1;rw[fo Gc.n (by omega),bt.blk Gc.n (by omega) (fun e=>by cases e)]
      ·exact UT.append (ve.fr fr) (hFt.fr fr)
     refine Xd (fun s'=>s'.k=62/\(s'.H.n=He.n/\s'.H.lw<=bw)/\Uz s'.H bw m keep (L++XU args++[T]) (.slice (some ⟨Gc.n,0,none⟩) (S6.length+1) (S6.length+1))/\Vz bw Hx s'.H/\(∀j,j<Hx.n->j≠bw->Yt Mw≠some j->s'.H.blk j=Hx.blk j)/\Fr Hx s'.H/\s'.tm.get 4=some (.pointer (some ⟨H.n+1,0,none⟩))/\s'.tm.get 10=some (.pointer (some ⟨Hc.n,0,none⟩))) ?_ ?_
     ·intro Jt XR;apply Y8 (by kernel_rfl);simp[u0,cM];refine Z7 (v:=Mw) rfl rfl rfl (by rw[Z1 rfl];simp[jP (H:=AH.top Hx) Rr.1]) ?_;simp[JK];refine Z7 (v:= .agg #[.int .i64 T.kind,c1,c2,c3]) rfl rfl rfl (by rw[Z1 rfl];simp[JK,Ru (H:=AH.top Hx) kj]) ?_;simp;refine YJ (v:= .slice (some ⟨Hx.n,0,none⟩) 1 1) (H2:=Hx.top.new 4 [.int .i64 T.kind,c1,c2,c3]) rfl rfl rfl ?_ (Nat.le_succ _) (Nat.le_refl _) ?_;·rw[Z1 rfl];simp[gL];rfl
      rw[<-yQ];have uH:Nat.blt Hx.n (Hx.top.new 4 [.int .i64 T.kind,c1,c2,c3]).n=true:=by rw[Nat.blt_eq];exact Nat.lt_succ_self _
      rw[uH,cond_true];have hid: ∀bits:Nat,bits.testBit 6=true-> ∀x∈[((6:Nat),Hx.n,(Hx.top.new 4 [.int .i64 T.kind,c1,c2,c3]).n)],bits.testBit x.1=true:=fun bits b6 x hx=>by rw[List.mem_singleton.mp hx];exact b6
      simp;cases HM:Yt Mw with
       |none=>
        refine YJ (v:= .slice (some ⟨Gc.n,0,none⟩) (S6.length+1) (S6.length+1)) (H2:=He) rfl rfl rfl ?_ (by omega) (by rw[(Pn HM).2];exact Nat.le_refl _) ?_;·rw[Z1 (Yr (hid _ (by kernel_rfl)))];simp[N4]
        have bt:T4 none He (grown Gc He):=Yz (Pn HM).1;have jV:Vz bw Gc (grown Gc He):=(Yo (.refl _) (Pn HM).1).kat bw;obtain⟨Hs,ss,sn,fH,Wq⟩:=fin _ bt jV;obtain⟨f1,f2,f3,f4,f5⟩:=Wq _ rfl;have pw:Nat.blt Gc.n He.n=true:=by rw[Nat.blt_eq];omega
        rw[pw,cond_true];simp[u0,cM];refine YO (v:= .tuple #[]) (H2:=Hs) rfl rfl (by kernel_rfl) (Yr fun x hx=>?_) ?_ sn fH ?_
        ·rcases List.mem_cons.mp hx with e|e;·rw[e];kernel_rfl
         ·exact hid _ (by kernel_rfl) x e
        ·show ZF _ _ _ _ (grown Gc He).top _=_;simp[ss]
        simp;apply XR;exact⟨rfl,f1,f2,f3,f4,f5,by simp[u4],by simp[JK]⟩
       |some b=>
        have Zf:=FX b HM;refine YO (v:= .slice (some ⟨Gc.n,0,none⟩) (S6.length+1) (S6.length+1)) (H2:=He) rfl rfl (by kernel_rfl) (Yr (hid _ (by kernel_rfl))) ?_ (by omega) (by have h2:b<Gc.n:=Zf.2.2;have h3:=Zf.2.1;omega) ?_;·show ZF _ _ _ _ Gc.top _=_;simp[N4]
        have bt:T4 none He (low Gc He):=Nn Gc He;have jV:Vz bw Gc (low Gc He):=Tn (Zf.1.weak (wi b HM));obtain⟨Hs,ss,sn,fH,Wq⟩:=fin _ bt jV;obtain⟨f1,f2,f3,f4,f5⟩:=Wq ({ n:=Hs.n,lw:=min Gc.lw (min He.lw Hs.lw),t:=Hs.t } :AH) (by simp[low,Nat.min_assoc]);have pw:Nat.blt Gc.n He.n=true:=by rw[Nat.blt_eq];omega
        rw[pw,cond_true];simp[u0,cM];refine YO (v:= .tuple #[]) (H2:=Hs) rfl rfl (by kernel_rfl) (Yr fun x hx=>?_) ?_ sn fH ?_
        ·rcases List.mem_cons.mp hx with e|e;·rw[e];kernel_rfl
         ·exact hid _ (by kernel_rfl) x e
        ·show ZF _ _ _ _ (low Gc He).top _=_;simp[ss]
        simp;apply XR;exact⟨rfl,f1,f2,f3,f4,f5,by simp[u4],by simp[JK]⟩
     clear u0 u4 JK;rintro⟨k,kU,Hf⟩ ⟨hk,⟨nHf,lwf⟩,cD,kaf,yV,f5,u4,JK⟩;simp only at hk nHf lwf cD kaf yV f5 u4 JK;subst hk;have zh: ∀j,H.n<=j->j<H.n+2->Yt Mw≠some j:=fun j hj hj2 e=>by
      rcases jq j e with h|h;·obtain⟨_,_,c0,OL,_⟩:=aF;have:=(OL.blk_lt h).1;omega
      ·omega
     have ntc:Yt Mw≠some Hc.n:=fun e=>by obtain⟨_,_,c0,OL,_⟩:=JY;have:=(OL.blk_lt e).1;omega
     have q10f:=(yV _ nHd (by omega) ntc).trans kj;have qzf:=(yV _ (by omega) (by omega) (zh _ (by omega) (by omega))).trans qzd;have pV:=ve.fr f5;obtain⟨H9,JM,n9,q9,b9,eV,hf9⟩:=WV qzf rfl pV;have ue:=Fr.put qzf q9 n9 b9 rfl rfl pV.noU;have Fv:Uz H9 bw m keep (L++XU args++[T]) (.slice (some ⟨Gc.n,0,none⟩) (S6.length+1) (S6.length+1)):=cD.off (b:=H.n+1) (by omega) (fun e=>by injection e with e;omega) n9 b9 ue;have w6:H9.lw<=Hf.lw:=by obtain⟨X,sx,_,_,_,_,lx⟩:=Wz (H:=Hf) (o:=0) SE qzf (v:= .agg ([.int .i64 T.kind,c1,c2,c3]:List Value).toArray) (ws:=[.int .i64 T.kind,c1,c2,c3]) (by simp[Value.cells]) rfl (by simp) pV.ones;rw[JM]at sx;injection sx with e;rw[e,lx];exact Nat.min_le_left _ _
     have hl9:=XW q9 rfl;try simp at JM hl9
     apply Za;intro b1 Zf;simp[JK,u4,Ru q10f,JM];subst Zf;apply ZZ;simp[u4,hl9];refine⟨by rw[<-hT];exact vV,[.int .i64 T.kind,c1,c2,c3],.slice (some ⟨Gc.n,0,none⟩) (S6.length+1) (S6.length+1),rfl,by rw[<-hT];exact hf9,?_,fun b hb=>?_,by omega,Nat.le_trans w6 lwf,(nd.trans kaf).trans (eV.weak (by omega)),fun j hj h1 h2=>?_⟩;·rw[Ci,<-hT,<-List.append_assoc];exact Fv
     ·cases hb;omega
     ·rw[b9 _ (by omega),yV _ (by omega) h1 (fun e=>by
      rcases jq j e with h|h;·exact h2 h
      ·omega),wI.blk _ (by omega)];exact aG j hj h1 h2
end
theorem qO:Yq Tryz.prog .neq 20 .nilIface .nilIface=some (.bool false):=by kernel_rfl
theorem jE:Yq Tryz.prog .neq 20 aQ .nilIface=some (.bool true):=by kernel_rfl
theorem tY:OD Tryz.prog aQ 148 true=some (.tuple #[.agg #[],.bool true]):=by kernel_rfl
theorem zUnd:W0 Tryz.prog 148=some (.agg #[]):=by kernel_rfl
theorem sUnd:Xh Tryz.prog 148=some 0:=by kernel_rfl
theorem qM(H:AH): ∃H',YV Tryz.prog (H.new 1 []) 148 (.pointer (some ⟨H.n,0,none⟩)) (.agg #[])=some H'/\Zj H H'/\H'.blk H.n= .rw 1 []/\H'.n=H.n+1:=XQ sUnd rfl rfl rfl rfl
theorem CG(m:Nat):Wt Tryz.prog 132 [(0,.map (some m))]=some (.agg #[.map (some m),.slice none 0 0,.bool false]):=by rfl
theorem Ed:plain aQ=true:=rfl
structure TreeOk (H : AH) (vs : List Value) (t : ET) : Prop where
  tin : TY H vs t
  good : t.allGood = true
  wt : t.wt <= 67108864
theorem TreeOk.keep{H H':AH}{vs:List Value}{t:ET}(h:TreeOk H vs t)(k:Zj H H'):TreeOk H' vs t:=⟨h.tin.keep k,h.good,h.wt⟩
section
variable {H : AH} {vs : List Value} {t : ET}
theorem Fl{b:Nat}{K:AH->Prop}(hK:K H):ED Tryz.prog ZY 95 [.pointer (some ⟨b,0,none⟩)] .nilIface H K:=by refine Wk 16 Tryz.func95 rfl rfl ?_;refine bx (by kernel_rfl) ?_;apply Wl (by kernel_rfl);apply Zl;simp[Wr,isRec];apply Za;intro b1 Zf;simp[-Yq,qO];subst Zf;refine Zb (t:=false) (by simp) ?_;apply Zr;simp;exact hK
theorem Fm{b:Nat}{k' p' q' r':Value}{K:AH->Prop}(hb:H.blk b= .rw 1 [k',p',q',r'])(hn:b<H.n)(hK: ∀H',Vz b H H'->H.n<=H'.n->H'.blk b= .rw 1 [.int .i64 2,.bool false,.slice none 0 0,.slice none 0 0]->K H'):ED Tryz.prog ZY 95 [.pointer (some ⟨b,0,none⟩)] aQ H K:=by obtain⟨H2,Tq,k2,q2,n2⟩:=qM H;have ZT:=(k2.blk _ hn).trans hb;obtain⟨H3,Sc,n3,q3,b3,Ll⟩:=kh (k:=2) ZT (p:= .bool false) (q:= .slice none 0 0) (r:= .slice none 0 0) ⟨⟨_,rfl⟩,⟨_,_,_,rfl⟩,⟨_,_,_,rfl⟩⟩;refine Wk 16 Tryz.func95 rfl rfl ?_;refine bx (by kernel_rfl) ?_;apply Wl (by kernel_rfl);apply Zl;simp[Wr,isRec,Ed,-plain];apply Za;intro b1 Zf;simp[-Yq,jE];subst Zf;refine Zb (t:=true) (by simp) ?_;apply Zi;intro b1 Zf;apply Za;intro b2 ZT;simp[tY,zUnd,Value.cells,Tq];subst ZT;apply Za;intro b2 ZT;simp;subst ZT;refine Zb (t:=false) (by simp) ?_;apply Zr;subst Zf;apply Zl;simp[TX,Sc];exact hK H3 ((k2.kat b).trans Ll) (by omega) q3
theorem Fo(h:TreeOk H vs t): ∃us H',ZU Tryz.prog ZY 67 [.agg vs.toArray] H=some (.agg us.toArray,H')/\Zj H H'/\VB H' us t.fold:=by
 suffices hs:CW Tryz.prog ZY 67 [.agg vs.toArray] H fun x H'=> ∃us:List Value,x= .agg us.toArray/\Zj H H'/\VB H' us t.fold by obtain⟨x,H',hc,us,rfl,k⟩:=hs;exact⟨us,H',hc,k⟩
 have hl:=h.tin.ex.len;obtain⟨H2,e2,k2,n2,q0,q1⟩:=Xb H vs [.int .i64 0,.bool false,.slice none 0 0,.slice none 0 0];obtain⟨m,H3,c3,k3,hW⟩:=Jf H2;obtain⟨H4,iF⟩:=hid (H3.new 1 [.map (some m),.slice none 0 0,.bool false]);have k4:Zj H3 H4:=by rw[iF];exact Zj.new _ _ _
 have n4:H4.n=H3.n+1:=by rw[iF];rfl
 have q4:H4.blk H3.n= .rw 1 [.map (some m),.slice none 0 0,.bool false]:=by rw[iF,AH.blk_new,if_pos rfl]
 have n3:=k3.n;have sF:=(k4.blk _ (by omega)).trans (k3.q q0);have Eh:=(k4.blk _ (by omega)).trans (k3.q q1);have hX:=Xp sF hl;obtain⟨o,H5,N7,mK⟩:=Ig _ t (Nat.le_refl _) H3 H4 vs H3.n m false [] (.slice none 0 0) ((h.tin.ex.keep k2).keep k3) h.tin.wide h.good h.wt hW k4 (Nat.le_refl _) ⟨q4,by omega,[],.nil,trivial⟩ (fun b hb=>by cases hb) (by have:=h.tin.nodes;simp;omega);have kk:=k2.trans k3;refine Wu 11 (by decide) (by decide) Tryz.func67 rfl rfl rfl ?_;intro b1 Zf;apply Zl;simp[Value.cells,Xr,XV,e2];refine⟨_,_,⟨rfl,rfl⟩,?_⟩;subst Zf;apply Za;intro b1 Zf;simp[c3,CG,Value.cells,<-iF];subst Zf;cases o with
  |ret x=>obtain⟨_,us,Mw,rfl,pW,DZ,_,n5,_,UK,cK⟩:=mK;have c5:=Oi N7;have rf:=(cK _ (by omega) (by omega) (by simp[Yt])).trans Eh;obtain⟨H6,Vt,n6,q6,b6,Ub,yC⟩:=WV rf rfl pW;have k6:Zj H H6:=Ub H (UK H (kk.trans k4) (by have:=kk.n;omega)) (by omega);have Y1:=XW q6 yC.len;apply Za;intro b1 Zf;simp[hX,c5,Vt];subst Zf;apply ZZ;simp[Vw];refine Fl ?_;simp[Y1];exact⟨k6,yC⟩
  |pan v=>
   obtain⟨_,VA,rfl,UK⟩:=mK;have c5:=LG N7;have p5:=Oh N7;have Md:t.fold= .und:=by cases hf:t.fold with|und=>rfl|opn=>rw[hf]at VA;cases VA|rat _ _ _=>rw[hf]at VA;cases VA
   rw[Md];have k5:Zj H3 H5:=UK H3 k4 (Nat.le_refl _);have rf:=(k5.blk _ (by omega)).trans (k3.q q1);apply Zi;intro b1 Zf;apply LM;simp[hX,c5,p5,YQ,Vw,Ed,-plain];refine⟨aQ,by rfl,?_⟩;have n5:=k5.n;refine Fm rf (by omega) fun H6 Ub n6 q6=>?_;simp[Ru q6];first|exact⟨Ub H (kk.trans k5) (by omega),rfl⟩|exact⟨_,rfl,Ub H (kk.trans k5) (by omega),rfl⟩
theorem W1(h:TreeOk H vs t)(hc:X4 t=0): ∃us H',ZU Tryz.prog ZY 27 [.agg vs.toArray] H=some (.tuple #[.agg us.toArray,.int .i64 0],H')/\Zj H H'/\VB H' us t.fold:=by
 suffices hs:CW Tryz.prog ZY 27 [.agg vs.toArray] H fun x H'=> ∃us:List Value,x= .tuple #[.agg us.toArray,.int .i64 0]/\Zj H H'/\VB H' us t.fold by obtain⟨x,H',hc,us,rfl,k⟩:=hs;exact⟨us,H',hc,k⟩
 have hl:=h.tin.ex.len;obtain⟨H2,e2,k2,n2,q0,q1⟩:=Xb H vs [.int .i64 0,.bool false,.slice none 0 0,.slice none 0 0];have K:=k2;have z0:=q0;obtain⟨H3,c3,k3⟩:=Oj (h.tin.keep K);have n3:=k3.n;have K:=K.trans k3;replace q0:=k3.q q0;replace q1:=k3.q q1;rw[hc]at c3;replace c3:ZU Tryz.prog ZY 28 [.agg vs.toArray] H2=some (.int .i64 0,H3):=c3;have z1:=q0;obtain⟨us,H4,c4,k4,hf⟩:=Fo (h.keep K);have n4:=k4.n;have K:=K.trans k4;replace q1:=k4.q q1;obtain⟨H5,Ui,n5,q5,b5,UK,pW⟩:=WV q1 rfl hf;have K:=UK _ K (by omega);have Y1:=XW q5 pW.len;refine Yd 13 Tryz.func27 ?_;apply Za;intro b1 Zf;simp[Value.cells,Xr,XV,e2];subst Zf;apply Zi;intro b1 Zf;apply Za;intro b2 ZT;simp[Xp z0 hl,c3];subst ZT;apply Za;intro b2 ZT;simp[TH];subst ZT;refine Zb (t:=false) (by simp) ?_;apply Zr;subst Zf;apply Za;intro b1 Zf;simp[Xp z1 hl,c4,Ui];subst Zf;apply ZZ;simp[Y1];exact⟨K,pW⟩
theorem Ke(h:TY H vs t)(hc:X4 t≠0): ∃H',ZU Tryz.prog ZY 27 [.agg vs.toArray] H=some (.tuple #[.agg #[.int .i64 0,.bool false,.slice none 0 0,.slice none 0 0],.int .i64 (X4 t:Int)],H')/\Zj H H':=by
 obtain⟨C,hC⟩:=hid (X4 t);rw[<-hC]at hc⊢;suffices hs:CW Tryz.prog ZY 27 [.agg vs.toArray] H fun x H'=>x= .tuple #[.agg #[.int .i64 0,.bool false,.slice none 0 0,.slice none 0 0],.int .i64 (C:Int)]/\Zj H H' by obtain⟨x,H',hc,rfl,k⟩:=hs;exact⟨H',hc,k⟩
 have hl:=h.ex.len;obtain⟨H2,e2,k2,n2,q0,q1⟩:=Xb H vs [.int .i64 0,.bool false,.slice none 0 0,.slice none 0 0];have K:=k2;have z0:=q0;obtain⟨H3,c3,k3⟩:=Oj (h.keep K);have n3:=k3.n;have K:=K.trans k3;replace q1:=k3.q q1;rw[<-hC]at c3;obtain⟨H4,WQ,n4,q1,b4,Ua⟩:=kh (k:=0) q1 (p:= .bool false) (q:= .slice none 0 0) (r:= .slice none 0 0) ⟨⟨_,rfl⟩,⟨_,_,_,rfl⟩,⟨_,_,_,rfl⟩⟩;have K:=Ua _ K (by omega);have Y1:=Ru q1;have gn:Zd .neq .i64 (C:Int) 0=some (.bool true):=by rw[SJ,decide_eq_true (by omega)]
 refine Yd 13 Tryz.func27 ?_;apply Za;intro b1 Zf;simp[Value.cells,Xr,XV,e2];subst Zf;apply Zi;intro b1 Zf;apply Za;intro b2 ZT;simp[Xp z0 hl,c3];subst ZT;apply Za;intro b2 ZT;simp[gn];subst ZT;refine Zb (t:=true) (by simp) ?_;apply Za;intro b2 ZT;simp[bL,WQ];subst ZT;apply ZZ;simp[YQ,Y1];exact K
end
theorem aRF:XY Tryz.prog 77=some true:=by kernel_rfl
theorem zG:Xh Tryz.prog 77=some 4:=by kernel_rfl
theorem zRF:W0 Tryz.prog 77=some (.agg #[.int .i64 0,.bool false,.slice none 0 0,.slice none 0 0]):=by kernel_rfl
theorem mn(b o:Nat):Ys Tryz.prog 77 (.pointer (some ⟨b,o,none⟩)) 0=some (.pointer (some ⟨b,o,none⟩)):=by kernel_rfl
theorem tA(b o:Nat):Ys Tryz.prog 77 (.pointer (some ⟨b,o,none⟩)) 1=some (.pointer (some ⟨b,o+1,none⟩)):=by kernel_rfl
theorem qX{H:AH}{b:Nat}{k p q r:Value}(hb:H.blk b= .rw 1 [k,p,q,r]):Z9 Tryz.prog H 77 (.pointer (some ⟨b,0,none⟩))=some (.agg #[k,p,q,r]):=Tm hb (by decide) rfl rfl aRF zG
theorem Bu{H:AH}{b:Nat}{k p q r:Value}(hb:H.blk b= .rw 1 [k,p,q,r]):Z9 Tryz.prog H 3 (.pointer (some ⟨b,0,none⟩))=some k:=Yj GU (AH.cells_rw' hb (by decide)) rfl
theorem jO{H:AH}{b:Nat}{k p q r:Value}(hb:H.blk b= .rw 1 [k,p,q,r]):Z9 Tryz.prog H 42 (.pointer (some ⟨b,1,none⟩))=some (.agg #[p,q,r]):=Tm hb (by decide) rfl rfl aR sR
theorem oF(b:Nat):Ys Tryz.prog 77 (.pointer (some ⟨b,0,none⟩)) 1=some (.pointer (some ⟨b,1,none⟩)):=tA b 0
def SB(H:AH)(vs:List Value):FD->Prop| .opn=>vs=[.int .i64 0,.bool false,.slice none 0 0,.slice none 0 0]| .und=>vs=[.int .i64 2,.bool false,.slice none 0 0,.slice none 0 0]| .rat s A B=> ∃p q,vs=[.int .i64 1,.bool s,p,q]/\Sl H p (ds Yk A)/\Sl H q (ds Yk B)
theorem SB.trio{H:AH}{vs:List Value}{f:FD}(h:SB H vs f): ∃p q r,vs=[.int .i64 f.kind,p,q,r]/\U7 p q r:=by cases f with|opn=>exact⟨_,_,_,h,⟨_,rfl⟩,⟨_,_,_,rfl⟩,⟨_,_,_,rfl⟩⟩|und=>exact⟨_,_,_,h,⟨_,rfl⟩,⟨_,_,_,rfl⟩,⟨_,_,_,rfl⟩⟩|rat s A B=>obtain⟨p,q,e,h1,h2⟩:=h;exact⟨_,p,q,e,⟨_,rfl⟩,h1.shape,h2.shape⟩
theorem SB.len{H:AH}{vs:List Value}{f:FD}(h:SB H vs f):vs.length=4:=by obtain⟨p,q,r,rfl,_⟩:=h.trio;rfl
theorem SB.ones{H:AH}{vs:List Value}{f:FD}(h:SB H vs f):vs.all one=true:=by obtain⟨p,q,r,rfl,⟨s,rfl⟩,⟨a,l,c,rfl⟩,⟨a',l',c',rfl⟩⟩:=h.trio;rfl
theorem SB.noU{H:AH}{vs:List Value}{f:FD}(h:SB H vs f):noU vs=true:=by obtain⟨p,q,r,rfl,⟨s,rfl⟩,⟨a,l,c,rfl⟩,⟨a',l',c',rfl⟩⟩:=h.trio;rfl
theorem SB.fr{H H':AH}{vs:List Value}{f:FD}(h:SB H vs f)(k:Fr H H'):SB H' vs f:=by cases f with|opn=>exact h|und=>exact h|rat s A B=>obtain⟨p,q,e,h1,h2⟩:=h;exact⟨p,q,e,h1.fr k,h2.fr k⟩
theorem tI(s:Bool):Yq Tryz.prog .eql 4 (.bool s) (.bool s)=some (.bool true):=by cases s<;>rfl
theorem tb{A:Nat}(h:Zq A<=67108864):(ds Yk A).length<=WJ:=by have h1:A<2^Zq A:=Ww A;have h2:2^Zq A<=Yk^(Zq A):=Nat.pow_le_pow_left (by decide) _;have:=XI two32 (Nat.lt_of_lt_of_le h1 h2);show(ds Yk A).length<=2000000000000;omega
section
variable {H : AH} {u v w z : Value}
theorem Vh(e:Int)(H:AH):ZU Tryz.prog ZY 13 [.int .i64 e] H=some (.int .i64 e,H):=by
 suffices h:CW Tryz.prog ZY 13 [.int .i64 e] H fun v H'=>v= .int .i64 e/\H'=H by obtain⟨v,H',hc,rfl,rfl⟩:=h;exact hc
 refine Yd 4 Tryz.func13 ?_;apply Za;intro b1 Zf;simp;subst Zf;apply Za;intro b1 Zf;simp;subst Zf;apply ZZ;simp
theorem Bp{A:Nat}(h:Sl H v (ds Yk A))(hw:Sl H w (ds Zc A))(lA:Zq A<=67108864): ∃H',ZU Tryz.prog ZY 65 [v,w] H=some (.bool true,H')/\Zj H H':=by obtain⟨x,H',hc,k,e⟩:=jx h hw (Yx two32 A) (Nat.le_trans (tb lA) (by decide));rw[fZ,decide_eq_true rfl]at e;subst e;exact⟨H',hc,k⟩
theorem KX{s:Bool}{A B:Nat}(h1:Sl H u (ds Zc A))(h2:Sl H v (ds Zc B))(h3:Sl H w (ds Yk A))(h4:Sl H z (ds Yk B))(lA:Zq A<=67108864)(lB:Zq B<=67108864): ∃H',ZU Tryz.prog ZY 24 [.agg #[.bool s,u,v],.agg #[.bool s,w,z]] H=some (.bool true,H')/\Zj H H':=by
 suffices h:CW Tryz.prog ZY 24 [.agg #[.bool s,u,v],.agg #[.bool s,w,z]] H fun v H'=>v= .bool true/\Zj H H' by obtain⟨v,H',hc,rfl,k⟩:=h;exact⟨H',hc,k⟩
 obtain⟨H2,e2,k2,n2,q0,q1⟩:=Xb H [.bool s,u,v] [.bool s,w,z];have K:=k2;have z0:=q0;have z1:=q1;obtain⟨H3,c3,k3⟩:=Bp (h3.keep K) (h1.keep K) lA;have n3:=k3.n;have K:=K.trans k3;replace q0:=k3.q q0;replace q1:=k3.q q1;have y0:=q0;have y1:=q1;obtain⟨H4,c4,k4⟩:=Bp (h4.keep K) (h2.keep K) lB;have n4:=k4.n;have K:=K.trans k4;refine Yd 26 Tryz.func24 ?_;apply Za;intro b1 Zf;simp[Value.cells,XV,e2];subst Zf;apply Za;intro b1 Zf;simp[Sq,V5,oG,iM,Tb,QU,iL,QG z0,D6 z1,Vp z0,HF z1,-Yq,tI,c3,Vq y0,HE y1,c4];subst Zf;apply ZZ;simp;exact K
theorem Nl(H:AH): ∃H',ZU Tryz.prog ZY 20 [.agg #[.bool false,.slice none 0 0,.slice none 0 0]] H=some (.bool true,H')/\Zj H H':=by
 suffices h:CW Tryz.prog ZY 20 [.agg #[.bool false,.slice none 0 0,.slice none 0 0]] H fun v H'=>v= .bool true/\Zj H H' by obtain⟨v,H',hc,rfl,k⟩:=h;exact⟨H',hc,k⟩
 obtain⟨H2,e2,k2,n2,q0⟩:=Wc H [.bool false,.slice none 0 0,.slice none 0 0];have ln:QI Tryz.prog 30 (.slice none 0 0)=some 0:=by kernel_rfl
 refine Yd 20 Tryz.func20 ?_;apply Za;intro b1 Zf;simp[Value.cells,e2];subst Zf;apply Za;intro b1 Zf;simp[Sq,V5,Tb,QU,QG q0,Vp q0,Vq q0,ln,show Zd .eql .i64 0 0=some (.bool true)from rfl];subst Zf;apply ZZ;simp;exact k2
def FD.fit:FD->Prop| .rat _ A B=>Zq A<=67108864/\Zq B<=67108864|_=>True
theorem FD.fit_of{f:FD}(h:f.w<=67108864):f.fit:=by cases f with|opn=>trivial|und=>trivial|rat s A B=>have h:max (Zq A) (Zq B)+1<=67108864:=h;exact⟨by omega,by omega⟩
theorem Nk{us ws:List Value}{f:FD}(h:VB H us f)(h':SB H ws f)(hf:f.fit): ∃H',ZU Tryz.prog ZY 36 [.agg us.toArray,.agg ws.toArray] H=some (.bool true,H')/\Zj H H':=by
 suffices hs:CW Tryz.prog ZY 36 [.agg us.toArray,.agg ws.toArray] H fun v H'=>v= .bool true/\Zj H H' by obtain⟨v,H',hc,rfl,k⟩:=hs;exact⟨H',hc,k⟩
 have hh:=h;have Gx:=h';obtain⟨p,q,r,rfl,_⟩:=h.trio;obtain⟨p',q',r',rfl,_⟩:=h'.trio;obtain⟨H2,e2,k2,n2,q0,q1⟩:=Xb H [.int .i64 f.kind,p,q,r] [.int .i64 f.kind,p',q',r'];have gn:Zd .neq .i64 f.kind f.kind=some (.bool false):=by rw[SJ,decide_eq_false (by omega)]
 refine Yd 21 Tryz.func36 ?_;apply Za;intro b1 Zf;simp[Value.cells,XV,e2];subst Zf;apply Zi;intro b1 Zf;apply Za;intro b2 ZT;simp[Ql,Vo q0,mn,Bu q1,gn];subst ZT;refine Zb (t:=false) (by simp) ?_;apply Zr;subst Zf;apply Zi;intro b1 Zf;apply Za;intro b2 ZT;simp[mn,Bu q1,QX];subst ZT;cases f with|rat s A B=>obtain⟨_,_,e,h1,h2,_⟩:=hh;obtain⟨_,_,e',h3,h4⟩:=Gx;cases e;cases e';obtain⟨H3,c3,k3⟩:=KX (s:=s) (h1.keep k2) (h2.keep k2) (h3.keep k2) (h4.keep k2) hf.1 hf.2;refine Zb (t:=true) (by simp[FD.kind]) ?_;apply Za;intro b2 ZT;simp[JZ,QH q0,oF,jO q1,c3];subst ZT;apply ZZ;simp[YQ];exact k2.trans k3|opn=>cases hh;cases Gx;obtain⟨H3,c3,k3⟩:=Nl H2;refine Zb (t:=false) (by simp[FD.kind]) ?_;apply Zr;subst Zf;apply Za;intro b1 Zf;simp[JZ,QH q0,c3];subst Zf;apply ZZ;simp;exact k2.trans k3|und=>cases hh;cases Gx;obtain⟨H3,c3,k3⟩:=Nl H2;refine Zb (t:=false) (by simp[FD.kind]) ?_;apply Zr;subst Zf;apply Za;intro b1 Zf;simp[JZ,QH q0,c3];subst Zf;apply ZZ;simp;exact k2.trans k3
end
theorem mb{a b:Value}{x:Bool}(ha: ∃s l c,a= .slice s l c)(hb: ∃s l c,b= .slice s l c):Wt Tryz.prog 53 [(0,.int .i64 0),(1,.agg #[.bool x,a,b])]=some (.agg #[.int .i64 0,.bool x,a,b,.slice none 0 0]):=by obtain⟨s,l,c,rfl⟩:=ha;obtain⟨s',l',c',rfl⟩:=hb;rfl
theorem bK{a:Value}{op:Int}(ha: ∃s l c,a= .slice s l c):Wt Tryz.prog 53 [(0,.int .i64 op),(2,a)]=some (.agg #[.int .i64 op,.bool false,.slice none 0 0,.slice none 0 0,a]):=by obtain⟨s,l,c,rfl⟩:=ha;rfl
theorem ot{op:Int} :Wt Tryz.prog 53 [(0,.int .i64 op)]=some (.agg #[.int .i64 op,.bool false,.slice none 0 0,.slice none 0 0,.slice none 0 0]):=by rfl
theorem sC:Vd Tryz.prog 51=some (53,5,88):=by kernel_rfl
theorem oZ(H:AH)(v0 v1 v2 v3 v4:Value):YM Tryz.prog H 51 1 [(0,.agg #[v0,v1,v2,v3,v4])]=some (.slice (some ⟨H.n,0,none⟩) 1 1,H.new 5 [v0,v1,v2,v3,v4]):=by unfold YM;simp only[sC,Vj];kernel_rfl
theorem bXs2(H:AH)(v0 v1 v2 v3 v4 w0 w1 w2 w3 w4:Value):YM Tryz.prog H 51 2 [(0,.agg #[v0,v1,v2,v3,v4]),(1,.agg #[w0,w1,w2,w3,w4])]=some (.slice (some ⟨H.n,0,none⟩) 2 2,H.new 5 [v0,v1,v2,v3,v4,w0,w1,w2,w3,w4]):=by unfold YM;simp only[sC,Vj];kernel_rfl
theorem Ex.five{H:AH}{vs:List Value}{t:ET}(h:Ex H vs t): ∃op s va vd vx,vs=[.int .i64 op,.bool s,va,vd,vx]:=by cases h;exact⟨_,_,_,_,_,rfl⟩
theorem Xs.one{H:AH}{vs:List Value}{t:ET}(h:Ex H vs t): ∃H',H'=H.new 5 vs/\Zj H H'/\Xs H' (.slice (some ⟨H.n,0,none⟩) 1 1) [t]:=by refine⟨_,rfl,Zj.new _ _ _,?_⟩;have hk:=h.keep (Zj.new H 5 vs);have hl:=h.len;refine .mk H.n 0 1 (cs:=vs) (args:=[t]) (Nat.lt_succ_self _) (Rw H 5 vs) (Nat.le_refl _) fun i t' hi=>?_;match i,hi with|0,hi=>simp at hi;subst hi;rw[Nat.zero_mul,Nat.add_zero,List.drop_zero,List.take_of_length_le (by omega)];exact hk
theorem Xs.two{H:AH}{vs ws:List Value}{t s:ET}(h:Ex H vs t)(h':Ex H ws s): ∃H',H'=H.new 5 (vs++ws)/\Zj H H'/\Xs H' (.slice (some ⟨H.n,0,none⟩) 2 2) [t,s]:=by refine⟨_,rfl,Zj.new _ _ _,?_⟩;have hk:=h.keep (Zj.new H 5 (vs++ws));have ba:=h'.keep (Zj.new H 5 (vs++ws));have hl:=h.len;have MQ:=h'.len;refine .mk H.n 0 2 (cs:=vs++ws) (args:=[t,s]) (Nat.lt_succ_self _) (Rw H 5 _) (Nat.le_refl _) fun i t' hi=>?_;match i,hi with|0,hi=>simp at hi;subst hi;rw[Nat.zero_mul,Nat.add_zero,List.drop_zero,List.take_append_of_le_length (by omega),List.take_of_length_le (by omega)];exact hk|1,hi=>simp at hi;subst hi;rw[show 0+1*5=vs.length by omega,List.drop_left,List.take_of_length_le (by omega)];exact ba
theorem Xs.shape{H:AH}{v:Value}{l:List ET}(h:Xs H v l): ∃s a c,v= .slice s a c:=by cases h<;>exact⟨_,_,_,rfl⟩
theorem Ex.args{H:AH}{v:Value}{l:List ET}{op:Int}(h:Xs H v l):Ex H [.int .i64 op,.bool false,.slice none 0 0,.slice none 0 0,v] (.node op false [] [] l):= .mk .nil .nil h
def V1(x:Nat):ET:= .node 0 false [x] [1] []
section
variable {H : AH} {u v w z : Value}
theorem ON{x:Nat}(hx:x<9223372036854775808)(H:AH): ∃us H',ZU Tryz.prog ZY 51 [.int .i64 (x:Int)] H=some (.agg us.toArray,H')/\Zj H H'/\Ex H' us (V1 x):=by
 suffices h:CW Tryz.prog ZY 51 [.int .i64 (x:Int)] H fun r H'=> ∃us:List Value,r= .agg us.toArray/\Zj H H'/\Ex H' us (V1 x) by obtain⟨r,H',hc,us,rfl,k⟩:=h;exact⟨us,H',hc,k⟩
 obtain⟨H2,e2,k2,n2,q0⟩:=Wc H [.int .i64 0,.bool false,.slice none 0 0,.slice none 0 0,.slice none 0 0];obtain⟨a,H3,c3,k3,o3⟩:=Qv H2 (t:=30) Zu x;obtain⟨b,H4,c4,k4,o4⟩:=Qv H3 (t:=30) Zu 1;have c4:YM Tryz.prog H3 30 1 [(0,.int .u64 1)]=some (b,H4):=c4;have ij:=o3.m k4;have n3:=k3.n;have q4:=(k4.blk _ (by omega)).trans (k3.q q0);have hE:Ex H4 [.int .i64 0,.bool false,a,b,.slice none 0 0] (V1 x):= .mk ij.sl o4.sl .nil;obtain⟨H5,Ui,n5,q5,b5,UK⟩:=TQ UE q4 rfl (v:= .agg #[.int .i64 0,.bool false,a,b,.slice none 0 0]) (ws:=[.int .i64 0,.bool false,a,b,.slice none 0 0]) rfl rfl hE.ones;have k5:Zj H H5:=UK H ((k2.trans k3).trans k4) (by omega);have o5:=ij.off (b:=H.n) (by omega) n5 b5;have o6:=o4.off (b:=H.n) (by omega) n5 b5;have Y1:=Xp q5 rfl;have cv:=Ph (n:=x) (Nat.lt_trans hx (by decide));refine Yd 10 Tryz.func51 ?_;apply Za;intro b1 Zf;simp[Value.cells,Vj,e2];subst Zf;apply Za;intro b1 Zf;simp[cv,c3,c4,Pf o3.shape,Qt (x:=false) o3.shape o4.shape,mb o3.shape o4.shape,Ui];subst Zf;apply ZZ;simp[Y1];exact⟨k5,.mk o5.sl o6.sl .nil⟩
theorem Dj: ∀n(t:ET),t.nodes<=n-> ∀(H:AH)(vs:List Value)(left:Int),Ex H vs t->left<=10000-> -1000000000<=left-(t.nodes:Int)->CW Tryz.prog ZY 66 [.agg vs.toArray,.int .i64 left] H fun x H'=> ∃c:Int,x= .int .i64 c/\left-(t.nodes:Int)<=c/\c<=left/\Zj H H':=by intro n;induction n with
 |zero=>intro t h;have:=Xn t;omega
 |succ n ih=>intro t ht H vs left hE AY Gy;obtain⟨op,neg,abs,den,args⟩:=t;have iH:=hE;cases iH with
  |@mk _ _ va vd vx _ _ _ h1 h2 h3=>
   simp only[ET.nodes]at ht Gy;simp only[ET.nodes];obtain⟨len,Kt⟩:=hid (args.length);have Mb:=h3.len;rw[<-Kt]at Mb;have FV:=VG args;obtain⟨H2,e2,k2,n2,q0⟩:=Wc H [.int .i64 op,.bool neg,va,vd,vx];have wr: ∀a:Int,-2000000000<=a->a<=2000000000->IntKind.i64.wrap a=a:=fun a h1 h2=>by rw[IntKind.wrap_i64];omega
   have g1:Zd .sub .i64 left 1=some (.int .i64 (left-1)):=by show some (Value.int .i64 (IntKind.i64.wrap (left-1)))=_;rw[wr _ (by omega) (by omega)]
   refine Yd 24 Tryz.func66 ?_;apply Za;intro b1 Zf;simp[Value.cells,e2];subst Zf;apply Za;intro b1 Zf;simp[g1];subst Zf;apply Zi;intro b1 Zf;apply Za;intro b2 ZT;simp[W7,TR q0,Mb];subst ZT;apply ZR;refine YS (fun n s'=>s'.k=24/\Zj H s'.H/\ ∃(i:Nat) (c:Int),n+i=len/\left-1-(Z0 (args.take i):Int)<=c/\c<=left-1/\s'.tm.get 1=some (.int .i64 c)/\s'.tm.get 10=some vx/\s'.tm.get 11=some (.int .i64 (len:Int))/\s'.tm.get 12=some (.int .i64 (i:Int))) ?_ len _ ⟨rfl,k2,0,left-1,by omega,by simp[Z0],by omega,by simp,by simp,by simp,by simp⟩;rintro n' ⟨k,tm,Hc⟩ ⟨hk,kc,i,c,mO,Nd,Jm,u1,JK,yf,CV⟩ Q' YA;simp only at hk kc u1 JK yf CV;subst hk;apply Za;intro b3 Z4;simp[yf,CV,KS];subst Z4;apply Zi;intro b3 Z4;by_cases hi:i<len
   ·refine Zb (t:=true) (by simp[hi]) ?_;apply Zr;subst Z4;obtain⟨ti,RV⟩: ∃ti,args[i]?=some ti:=⟨args[i]'(by omega),List.getElem?_eq_getElem (by omega)⟩;have mM:=Tp RV;have hnp:=Xn ti;obtain⟨p,us,Qm,Ku,Lc⟩:=h3.at RV;have Y1:=Ku Hc kc;obtain⟨H4,WQ,k4,q8,n4⟩:=Lm (H:=Hc) Lc.len Lc.ones;have l8:=Xp q8 Lc.len;obtain⟨x,H5,c5,cc,rfl,hcc1,hcc2,k5⟩:=ih ti (by omega) H4 us c (Lc.keep (kc.trans k4)) (by omega) (by omega);have gl:Zd .lss .i64 c 0=some (.bool (decide (c<0))):=FB;have bc:Z0 (args.take (i+1))=Z0 (args.take i)+ti.nodes:=by rw[List.take_add_one,RV,Uc];simp[Z0]
    apply Zi;intro b3 Z4;apply ZR;apply Za;intro b4 Yy;simp[JK,CV,Qm,Y1,Vj,Value.cells,WQ];subst Yy;apply Zi;intro b4 Yy;apply Za;intro b5 SV;simp[u1,gl];subst SV;by_cases h0:c<0;·refine Zb (t:=true) (by simp[h0]) ?_;apply Za;intro b5 SV;simp[u1];subst SV;apply ZZ;simp[YQ,Yv];apply YA;simp[TI,Yv,YQ];exact⟨by omega,by omega,kc.trans k4⟩
    ·refine Zb (t:=false) (by simp[h0]) ?_;apply Zr;subst Yy;apply Zl;simp[l8,u1,c5];simp[Yv];subst Z4;apply Zl;simp[CV,TL (x:=i) (by omega)];apply YA;exact⟨n'-1,by omega,rfl,(kc.trans k4).trans k5,i+1,cc,by omega,by rw[bc];omega,by omega,by simp,by simp[JK],by simp[yf],by simp⟩
   ·refine Zb (t:=false) (by simp[hi]) ?_;apply YN;apply YA;left;refine⟨rfl,?_⟩;obtain rfl:i=len:=by omega
    rw[List.take_of_length_le (by omega)]at Nd;subst Zf;apply Za;intro b1 Zf;simp[u1];subst Zf;apply ZZ;simp;exact⟨by omega,by omega,kc⟩
theorem Dv{vs:List Value}{t:ET}(h:Ex H vs t)(hn:t.nodes<=2000000): ∃b H',ZU Tryz.prog ZY 26 [.agg vs.toArray] H=some (.bool b,H')/\Zj H H':=by
 suffices hs:CW Tryz.prog ZY 26 [.agg vs.toArray] H fun v H'=> ∃b,v= .bool b/\Zj H H' by obtain⟨v,H',hc,b,rfl,k⟩:=hs;exact⟨b,H',hc,k⟩
 obtain⟨H2,e2,k2,n2,q0⟩:=Wc H vs;obtain⟨x,H3,c3,c,rfl,h1,h2,k3⟩:=Dj _ t (Nat.le_refl _) H2 vs 10000 (h.keep k2) (by omega) (by omega);have gl:Zd .lss .i64 c 0=some (.bool (decide (c<0))):=FB;refine Yd 6 Tryz.func26 ?_;apply Za;intro b1 Zf;simp[Value.cells,e2];subst Zf;apply Za;intro b1 Zf;simp[Xp q0 h.len,c3,gl];subst Zf;apply ZZ;simp;exact⟨by omega,k2.trans k3⟩
end
def EY:ET:= .node 10 false [] [] [V1 9]
def KG:ET:= .node 6 false [] [] [.node 1 false [] [] [],.node 4 false [] [] [V1 1,V1 1]]
theorem rt9:rt 9=3:=(rt_eq ⟨by decide,by decide⟩).symm
theorem rt1:rt 1=1:=(rt_eq ⟨by decide,by decide⟩).symm
theorem cW(x:Nat):dv Zc [x]=x:=by simp[dv]
theorem Ie(x:Nat):(V1 x).fold= .mk (Z8 false x 1):=by show(if(YP []).any FD.isUnd=true then FD.und else Xq 0 false (dv Zc [x]) (dv Zc [1]) (YP []))=_;rw[cW,cW];rfl
theorem Du:EY.fold= .rat false 3 1:=by
 have h:YP [V1 9]=[.rat false 9 1]:=by show[(V1 9).fold]=_;rw[Ie];rfl
 show(if(YP [V1 9]).any FD.isUnd=true then FD.und else Xq 10 false (dv Zc []) (dv Zc []) (YP [V1 9]))=_;rw[h];show Vi 10 false 9 1=_;unfold Vi Rz;simp only[rt9,rt1];rfl
theorem Fk:KG.fold= .und:=by
 have h1:(V1 1).fold= .rat false 1 1:=by rw[Ie];rfl
 have h2:(ET.node 4 false [] [] [V1 1,V1 1]).fold= .rat false 0 1:=by
  have h:YP [V1 1,V1 1]=[.rat false 1 1,.rat false 1 1]:=by show[(V1 1).fold,(V1 1).fold]=_;rw[h1]
  show(if(YP [V1 1,V1 1]).any FD.isUnd=true then FD.und else Xq 4 false (dv Zc []) (dv Zc []) (YP [V1 1,V1 1]))=_;rw[h];rfl
 have h3:(ET.node 1 false [] [] []).fold= .opn:=rfl;have h:YP [.node 1 false [] [] [],.node 4 false [] [] [V1 1,V1 1]]=[.opn,.rat false 0 1]:=by show[(ET.node 1 false [] [] []).fold,(ET.node 4 false [] [] [V1 1,V1 1]).fold]=_;rw[h2,h3]
 show(if(YP [.node 1 false [] [] [],.node 4 false [] [] [V1 1,V1 1]]).any FD.isUnd=true then FD.und else Xq 6 false (dv Zc []) (dv Zc []) (YP [.node 1 false [] [] [],.node 4 false [] [] [V1 1,V1 1]]))=_;rw[h];rfl
theorem C3{x:Nat}(h:x<Zc):YH Zc [x]:=fun y hy=>by rw[List.mem_singleton.mp hy];exact h
theorem Tj:YH Zc []:=fun y hy=>by cases hy
theorem Ml{x:Nat}(h:x<Zc):(V1 x).wide 1048576:=⟨show 1<=1048576 by decide,by decide,C3 h,C3 (by decide),trivial⟩
theorem fD{H:AH}{vs:List Value}(h:Ex H vs EY)(hr:RowsIn H):TreeOk H vs EY/\X4 EY=0:=⟨⟨⟨h,hr,⟨by decide,by decide,Tj,Tj,Ml (by decide),trivial⟩,by decide⟩,rfl,by decide⟩,rfl⟩
theorem ai{H:AH}{vs:List Value}(h:Ex H vs KG)(hr:RowsIn H):TreeOk H vs KG/\X4 KG=0:=⟨⟨⟨h,hr,⟨by decide,by decide,Tj,Tj,⟨by decide,by decide,Tj,Tj,trivial⟩,⟨by decide,by decide,Tj,Tj,Ml (by decide),Ml (by decide),trivial⟩,trivial⟩,by decide⟩,rfl,by decide⟩,rfl⟩
theorem bRF2:Wt Tryz.prog 77 [(0,.int .i64 2)]=some (.agg #[.int .i64 2,.bool false,.slice none 0 0,.slice none 0 0]):=by rfl
theorem tU{p q r:Value}(ht:U7 p q r):Wt Tryz.prog 77 [(0,.int .i64 1),(1,.agg #[p,q,r])]=some (.agg #[.int .i64 1,p,q,r]):=by obtain⟨⟨s,rfl⟩,⟨a1,l1,c1,rfl⟩,⟨a2,l2,c2,rfl⟩⟩:=ht;rfl
section
variable {H : AH} {u v w z : Value}
theorem RS(hr:RowsIn H): ∃H',ZU Tryz.prog ZY 14 [] H=some (.bool true,H')/\Zj H H':=by
 suffices h:CW Tryz.prog ZY 14 [] H fun v H'=>v= .bool true/\Zj H H' by obtain⟨v,H',hc,rfl,k⟩:=h;exact⟨H',hc,k⟩
 obtain⟨us9,H2,c2,k2,x2⟩:=ON (x:=9) (by decide) H;replace c2:ZU Tryz.prog ZY 51 [.int .i64 9] H=some (.agg us9.toArray,H2):=c2;obtain⟨o9,s9,a9,b9,d9,rfl⟩:=x2.five;obtain⟨H3,e3,k3,xs3⟩:=Xs.one x2;have x3:Ex H3 _ EY:=Ex.args (op:=10) xs3;have kA:=k2.trans k3;obtain⟨ok3,ch3⟩:=fD x3 (hr.keep kA);obtain⟨fs,H4,c4,k4,f4⟩:=W1 ok3 ch3;rw[Du]at f4;have f4':=f4;obtain⟨p4,q4,rfl,sp4,sq4,low4⟩:=f4';obtain⟨H5,Ui,k5,y5,n5⟩:=Ns (H:=H4) f4.len f4.ones;have kB:=(kA.trans k4).trans k5;obtain⟨us1,H6,c6,k6,x6⟩:=ON (x:=1) (by decide) H5;replace c6:ZU Tryz.prog ZY 51 [.int .i64 1] H5=some (.agg us1.toArray,H6):=c6;obtain⟨us2,H7,c7,k7,x7⟩:=ON (x:=1) (by decide) H6;replace c7:ZU Tryz.prog ZY 51 [.int .i64 1] H6=some (.agg us2.toArray,H7):=c7;have x6':=x6.keep k7;obtain⟨o1,s1,a1,b1',d1,rfl⟩:=x6'.five;obtain⟨o2,s2,a2,b2',d2,rfl⟩:=x7.five;obtain⟨H8,e8,k8,xs8⟩:=Xs.two x6' x7;have x8:Ex H8 _ (.node 4 false [] [] [V1 1,V1 1]):=Ex.args (op:=4) xs8;have xpi:Ex H8 _ (.node 1 false [] [] []):=Ex.args (op:=1) .nil;obtain⟨H9,e9,k9,xs9⟩:=Xs.two xpi x8;have x9:Ex H9 _ KG:=Ex.args (op:=6) xs9;simp only[List.cons_append,List.nil_append]at e8 e9;have kC:=((kB.trans k6).trans k7).trans (k8.trans k9);obtain⟨ok9,ch9⟩:=ai x9 (hr.keep kC);obtain⟨gs,EC,gS,UA,f10⟩:=W1 ok9 ch9;rw[Fk]at f10;obtain rfl:=f10;obtain⟨BD,rY,Te,aJ,n11⟩:=Vb (H:=EC) (k:= .int .i64 2) (p:= .bool false) (q:= .slice none 0 0) (r:= .slice none 0 0) rfl;have kD:=(kC.trans UA).trans Te;have kE:=(((k6.trans k7).trans (k8.trans k9)).trans UA).trans Te;have nE:=kE.n;have y5':=kE.q y5;have sO:=k5.trans kE;have K:=kD;have y5'a:=y5';have y11a:=aJ;have BF: ∀{J:AH}(k:Zj BD J){bits ms},(∀x∈ms,BD.n<=x.2.1)-> ∀b,b<BD.n->(PM J bits ms).blk b=BD.blk b:=fun k _ _ h b hb=>(Wb k h).blk b hb;obtain⟨ip,iq,BC,PT,XK,j1,j2⟩:=Gl (H:=BD.top) (n:=3) (by decide);obtain⟨TM,WE,VT,fc⟩:=cg XK;have WR:=VT;have KN:=WR.n;have K:=K.trans VT;replace j1:=j1.gr XK WE;replace j2:=j2.gr XK WE;replace PT:ZU _ _ _ [Value.int .i64 3] _=_:=PT;have eh:U7 (.bool false) ip iq:=⟨⟨_,rfl⟩,j1.shape,j2.shape⟩;have Wq:VB TM.top [.int .i64 1,.bool false,p4,q4] (.rat false 3 1):=f4.fr ((sO.trans VT).top).fr;obtain⟨CM,Jj,VU⟩:=Nk (us:=[.int .i64 1,.bool false,p4,q4]) (ws:=[.int .i64 1,.bool false,ip,iq]) (f:= .rat false 3 1) Wq ⟨_,_,rfl,j1.sl.top,j2.sl.top⟩ ⟨by decide,by decide⟩;obtain⟨XB,U3,Va,jI⟩:=cg VU;have Wf:=WR.trans Va;have Gf:=Wf.n;have K:=K.trans Va;obtain⟨Ia3,oP,JT⟩:=Nk (H:=XB.top) (us:=[.int .i64 2,.bool false,.slice none 0 0,.slice none 0 0]) (ws:=[.int .i64 2,.bool false,.slice none 0 0,.slice none 0 0]) (f:= .und) rfl rfl trivial;obtain⟨Ja3,DY,FK,ma3⟩:=cg JT;have HK:=Wf.trans FK;have xo:=HK.n;have K:=K.trans FK;refine Yd 42 Tryz.func14 ?_;apply Za;intro b1 Zf;simp;subst Zf;apply Za;intro b1 Zf;simp[c2,oZ,<-e3,bK,c4,Xr,Value.cells,Ui];subst Zf;apply Za;intro b1 Zf;simp[ot,c6,c7,bXs2,<-e8,bK,<-e9,gS,Xr,Value.cells,rY];subst Zf;apply Zi;intro b1 Zf;apply Y8 (by kernel_rfl);simp;refine WW (v:= .int .i64 0) (by simp[Vh]) ?_;simp[show Zd .eql .i64 0 0=some (.bool true)from rfl];refine WW (v:= .agg #[.int .i64 1,.bool false,p4,q4]) (by simp[Ru (H:=AH.top BD) y5'a]) ?_;simp;refine XL (v:= .agg #[.bool false,ip,iq]) (VI.nil BD.n) XK WE (by simp[PT]) fun KP PK=>?_;simp[tU eh];refine XL (v:= .bool true) PK VU U3 (by simp[Jj]) fun Gb PU=>?_;simp;refine Z7 (v:= .int .i64 0) rfl rfl rfl (by rw[Z1 (PU.hid (by kernel_rfl))];simp[Vh]) ?_;simp[show Zd .eql .i64 0 0=some (.bool true)from rfl];refine Z7 (v:= .agg #[.int .i64 2,.bool false,.slice none 0 0,.slice none 0 0]) rfl rfl rfl (by simp[Ru ((BF Wf PU.ge _ (by omega)).trans y11a)]) ?_;simp[bRF2];refine XL (v:= .bool true) PU JT DY (by simp[oP]) fun A2 Gt=>?_;simp;subst Zf;apply ZZ;simp;exact K
end
def nT(op:Int)(neg:Bool)(abs den:List Nat):Bool×List Nat×List Nat:=if op=0 then((Z8 neg (dv Zc abs) (dv Zc den)).1,ds Zc (Z8 neg (dv Zc abs) (dv Zc den)).2.1,ds Zc (Z8 neg (dv Zc abs) (dv Zc den)).2.2)else(false,[],[])
mutual def ET.twin:ET->ET| .node op neg abs den args=> .node op (nT op neg abs den).1 (nT op neg abs den).2.1 (nT op neg abs den).2.2 (T2 args) def T2:List ET->List ET|[]=>[]|t::ts=>t.twin::T2 ts end
theorem M5(l:List ET):T2 l=l.map ET.twin:=by induction l with|nil=>rfl|cons x xs ih=>simp[T2,ih]
theorem EH(l:List ET):(T2 l).length=l.length:=by rw[M5];simp
inductive OX(H:AH):(Nat->Prop)->List Value->ET->Prop|mk{P:Nat->Prop}{op:Int}{neg:Bool}{va vd vx:Value}{abs den:List Nat}{args:List ET}(css:List (List Value))(Q:Nat->Nat->Prop):Sl H va abs->Sl H vd den->UB 5 H vx css->css.length=args.length->(∀b,Yt vx=some b->P b)->(∀i c,Q i c->P c/\Yt vx≠some c)->(∀i j c,i≠j->Q i c-> ¬Q j c)->(∀(i:Nat)(cs:List Value)(t:ET),css[i]?=some cs->args[i]?=some t->OX H (Q i) cs t)->OX H P [.int .i64 op,.bool neg,va,vd,vx] (.node op neg abs den args)
theorem OX.len{H:AH}{P:Nat->Prop}{vs:List Value}{t:ET}(h:OX H P vs t):vs.length=5:=by cases h;rfl
theorem OX.five{H:AH}{P:Nat->Prop}{vs:List Value}{t:ET}(h:OX H P vs t): ∃op s va vd vx,vs=[.int .i64 op,.bool s,va,vd,vx]/\(∃a l c,va= .slice a l c)/\(∃a l c,vd= .slice a l c)/\ ∃a l c,vx= .slice a l c:=by cases h with|mk css Q h1 h2 h3=>exact⟨_,_,_,_,_,rfl,h1.shape,h2.shape,h3.shape⟩
theorem OX.ones{H:AH}{P:Nat->Prop}{vs:List Value}{t:ET}(h:OX H P vs t):vs.all one=true:=by obtain⟨op,s,va,vd,vx,rfl,⟨a,l,c,rfl⟩,⟨a',l',c',rfl⟩,⟨a'',l'',c'',rfl⟩⟩:=h.five;rfl
theorem OX.noU{H:AH}{P:Nat->Prop}{vs:List Value}{t:ET}(h:OX H P vs t):noU vs=true:=by obtain⟨op,s,va,vd,vx,rfl,⟨a,l,c,rfl⟩,⟨a',l',c',rfl⟩,⟨a'',l'',c'',rfl⟩⟩:=h.five;rfl
theorem OX.weak{H:AH}{P P':Nat->Prop}{vs:List Value}{t:ET}(h:OX H P vs t)(hp: ∀j,P j->P' j):OX H P' vs t:=by cases h with|mk css Q h1 h2 h3 h4 h5 h6 h7 h8=>exact .mk css Q h1 h2 h3 h4 (fun b hb=>hp b (h5 b hb)) (fun i c hc=>⟨hp c (h6 i c hc).1,(h6 i c hc).2⟩) h7 h8
theorem OX.fr{H H':AH}{P:Nat->Prop}{vs:List Value}{t:ET}(h:OX H P vs t)(f:Fr H H')(hf: ∀j,P j->j<H.n->H'.blk j=H.blk j):OX H' P vs t:=by induction h with|mk css Q h1 h2 h3 h4 h5 h6 h7 h8 ih=>exact .mk css Q (h1.fr f) (h2.fr f) (h3.frame f.1 fun b hb=>hf b (h5 b hb) (h3.blk_lt hb).1) h4 h5 h6 h7 fun i cs t hc ht=>ih i cs t hc ht fun j hj hn=>hf j (h6 i j hj).1 hn
theorem OX.keep{H H':AH}{P:Nat->Prop}{vs:List Value}{t:ET}(h:OX H P vs t)(k:Zj H H'):OX H' P vs t:=h.fr k.fr fun j _ hj=>k.blk j hj
theorem OX.ex{H:AH}{P:Nat->Prop}{vs:List Value}{t:ET}(h:OX H P vs t):Ex H vs t:=by induction h with
 |@mk P op neg va vd vx abs den args css Q h1 h2 h3 h4 h5 h6 h7 h8 ih=>
  refine .mk h1 h2 ?_;rcases h3 with⟨rfl,rfl⟩|⟨b,rfl,g1,g2,g3⟩;·obtain rfl:args=[]:=List.length_eq_zero_iff.mp h4.symm;exact .nil
  ·rw[h4];refine .mk b 0 args.length g1 (AH.cells_rw' g2 (by decide)) (Nat.le_refl _) fun i t hi=>?_;have YX:i<css.length:=by rw[h4];exact(List.getElem?_eq_some_iff.mp hi).1
   have hc:=List.getElem?_eq_getElem YX;rw[Nat.zero_add,Tf g3 hc];exact ih i _ t hc hi
theorem qJ{op:Int}{s:Bool}{p q v:Value}(hp: ∃a l c,p= .slice a l c)(hq: ∃a l c,q= .slice a l c)(hv: ∃a l c,v= .slice a l c):noU [.int .i64 op,.bool s,p,q,v]=true:=by obtain⟨a,l,c,rfl⟩:=hp;obtain⟨a',l',c',rfl⟩:=hq;obtain⟨a'',l'',c'',rfl⟩:=hv;rfl
theorem nO:Tryz.prog.underlying 51=some (.slice 53):=by kernel_rfl
theorem Rf(H:AH):H.top.n=H.n:=rfl
theorem Ft{H I:AH}(k:Zj H.top I):Fr I (grown H I):=⟨Nat.le_refl _,fun j hj=> .inl ((Yz k).blk j hj (fun e=>by cases e))⟩
theorem iQ{ws:List Value}(hl:ws.length=5)(H:AH): ∃I,YM Tryz.prog H 51 1 [(0,.agg ws.toArray)]=some (.slice (some ⟨H.n,0,none⟩) 1 1,I)/\Zj H I/\I.n=H.n+1/\I.blk H.n= .rw 5 ws:=by match ws,hl with|[v0,v1,v2,v3,v4],_=>exact⟨_,oZ H v0 v1 v2 v3 v4,Zj.new _ _ _,rfl,by rw[AH.blk_new,if_pos rfl]⟩
theorem qC{H:AH}{b:Nat}{op s p q r p' q':Value}{x:Bool}(hb:H.blk b= .rw 1 [op,s,p,q,r])(Le:b<H.n)(h1:one op=true)(h2:one p'=true)(h3:one q'=true)(h4:one r=true): ∃H2,YV Tryz.prog H.top 34 (.pointer (some ⟨b,1,none⟩)) (.agg #[.bool x,p',q'])=some H2/\H2.n=H.n/\H2.lw<H.n/\(low H H2).n=H.n/\(low H H2).blk b= .rw 1 [op,.bool x,p',q',r]/\(∀j,j≠b->(low H H2).blk j=H.blk j)/\Vz b H (low H H2):=by obtain⟨H2,st,q,n1,o,ka,lw⟩:=Wz (H:=H.top) (o:=1) WB hb (v:= .agg #[.bool x,p',q']) (ws:=[.bool x,p',q']) rfl rfl (by simp) (by simp[h2,h3,show one (Value.bool x)=true from rfl]);exact⟨H2,st,n1,by rw[lw];show min H.n b<H.n;omega,n1,q,o,Tn ka⟩
theorem xS{H:AH}{b:Nat}{op s p q r p' q':Value}{x:Bool}(hb:H.blk b= .rw 1 [op,s,p,q,r])(h2:one p'=true)(h3:one q'=true): ∃H2,YV Tryz.prog H 34 (.pointer (some ⟨b,1,none⟩)) (.agg #[.bool x,p',q'])=some H2/\H2.n=H.n/\H2.blk b= .rw 1 [op,.bool x,p',q',r]/\(∀j,j≠b->H2.blk j=H.blk j)/\Vz b H H2:=by obtain⟨H2,st,q,n1,o,ka,_⟩:=Wz (H:=H) (o:=1) WB hb (v:= .agg #[.bool x,p',q']) (ws:=[.bool x,p',q']) rfl rfl (by simp) (by simp[h2,h3,show one (Value.bool x)=true from rfl]);exact⟨H2,st,n1,q,o,ka⟩
theorem ry:Xh Tryz.prog 51=some 1:=by kernel_rfl
theorem qA{H:AH}{b:Nat}{op s p q r v:Value}(hb:H.blk b= .rw 1 [op,s,p,q,r])(Le:b<H.n)(hv:v.cells=#[v])(h1:one v=true): ∃H2,YV Tryz.prog H.top 51 (.pointer (some ⟨b,4,none⟩)) v=some H2/\H2.n=H.n/\H2.lw<H.n/\(low H H2).n=H.n/\(low H H2).blk b= .rw 1 [op,s,p,q,v]/\(∀j,j≠b->(low H H2).blk j=H.blk j)/\Vz b H (low H H2):=by obtain⟨H2,st,q,n1,o,ka,lw⟩:=Wz (H:=H.top) (o:=4) ry hb (v:=v) (ws:=[v]) (by rw[hv]) rfl (by simp) (by simp[h1]);exact⟨H2,st,n1,by rw[lw];show min H.n b<H.n;omega,n1,q,o,Tn ka⟩
theorem qW{H:AH}{b:Nat}{v0 v1 v2 v3 v4:Value}(h:H.blk b= .rw 1 [v0,v1,v2,v3,v4]):Z9 Tryz.prog H 4 (.pointer (some ⟨b,1,none⟩))=some v1:=Yj JI (AH.cells_rw' h (by decide)) rfl
theorem qV{H:AH}{b:Nat}{v0 v1 v2 v3 v4:Value}(h:H.blk b= .rw 1 [v0,v1,v2,v3,v4]):Z9 Tryz.prog H 30 (.pointer (some ⟨b,2,none⟩))=some v2:=Yj Ju (AH.cells_rw' h (by decide)) rfl
theorem qU{H:AH}{b:Nat}{v0 v1 v2 v3 v4:Value}(h:H.blk b= .rw 1 [v0,v1,v2,v3,v4]):Z9 Tryz.prog H 30 (.pointer (some ⟨b,3,none⟩))=some v3:=Yj Ju (AH.cells_rw' h (by decide)) rfl
theorem tB(b:Nat):Ys Tryz.prog 34 (.pointer (some ⟨b,1,none⟩)) 0=some (.pointer (some ⟨b,1,none⟩)):=r7 b 1
theorem tD(b:Nat):Ys Tryz.prog 34 (.pointer (some ⟨b,1,none⟩)) 1=some (.pointer (some ⟨b,3,none⟩)):=r6 b 1
theorem oH(b:Nat):Ys Tryz.prog 32 (.pointer (some ⟨b,1,none⟩)) 0=some (.pointer (some ⟨b,1,none⟩)):=V5 b 1
theorem oJ(b:Nat):Ys Tryz.prog 32 (.pointer (some ⟨b,1,none⟩)) 1=some (.pointer (some ⟨b,2,none⟩)):=Ic b 1
end
section
attribute [-simp] Int.natCast_add Int.natCast_mul Int.natCast_ediv Int.natCast_emod Int.natCast_pow
attribute [local simp] strip ZQ Xj LR gW ZF Ya ZX Yb ZJ Yc Zs Zt Zg ZI Z5 ZN ZB Zk ZH Zh Ze ZC ZD YW Zo Z6 YF Yw ZK plain ZM Tr.get_set Yu Zp Yq ZV sameKind undef Zv ZG Z3 Zu ZA Yh ZW parts ZE Xw DW Yf Zw LX Zz Zn ZL ZS Xt Yg Zm ZP Zy ZO Rf
section
theorem aS: ∀n(t:ET),t.nodes<=n-> ∀(H:AH)(vs:List Value),Ex H vs t->t.wide 1048576->t.allGood=true-> ∃us H',ZU Tryz.prog ZY 78 [.agg vs.toArray] H=some (.agg us.toArray,H')/\Zj H H'/\OX H' (fun j=>H.n<=j/\j<H'.n) us t.twin:=by intro n;induction n with
 |zero=>intro t h;have:=Xn t;omega
 |succ n ih=>
  intro t ht H vs hE hw hg;suffices hs:CW Tryz.prog ZY 78 [.agg vs.toArray] H fun x H'=> ∃us:List Value,x= .agg us.toArray/\Zj H H'/\OX H' (fun j=>H.n<=j/\j<H'.n) us t.twin by obtain⟨x,H',hc,us,rfl,k,o⟩:=hs;exact⟨us,H',hc,k,o⟩
  obtain⟨op,neg,abs,den,args⟩:=t;have iH:=hE;cases iH with
   |@mk _ _ va vd vx _ _ _ h1 h2 h3=>
    obtain⟨wa,wd,da,dd,wx⟩:=hw;simp only[ET.nodes]at ht;simp only[ET.allGood,Bool.and_eq_true]at hg;obtain⟨mT,jh⟩:=hg;obtain⟨len,Kt⟩:=hid (args.length);have Mb:=h3.len;rw[<-Kt]at Mb;have FV:=VG args;have hlen:len<=1000000:=by
     have:=(Uf mT).2.2.1;have h16:=(Uf mT).2.1;have h0:=(Uf mT).1;have har: ∀k,k<16->arity k<=2:=by decide
     have:=har op.toNat (by omega);omega
    have hD:=(Uf mT).2.2.2;obtain⟨H2,e2,k2,n2,q0,q1⟩:=Xb H [.int .i64 op,.bool neg,va,vd,vx] [.int .i64 0,.bool false,.slice none 0 0,.slice none 0 0,.slice none 0 0];have z2:=q0;obtain⟨H3,Sc,k3,q2,n3⟩:=Lm (H:=H2) (vs:=[.int .i64 op,.bool false,.slice none 0 0,.slice none 0 0,.slice none 0 0]) rfl rfl;replace q0:=k3.q q0;replace q1:=k3.q q1;obtain⟨S3,di⟩:=hid (nT op neg abs den);refine Yd 56 Tryz.func78 ?_;apply Za;intro b1 Zf;simp[Value.cells,Vj,XV,e2];subst Zf;apply Za;intro b1 Zf;simp[Ut,WX z2,ot,Vj,Value.cells,Sc];subst Zf;refine Xd (fun s'=>s'.k=56/\Zj H s'.H/\H.n+3<=s'.H.n/\s'.H.blk H.n= .rw 1 [.int .i64 op,.bool neg,va,vd,vx]/\s'.H.blk (H.n+1)= .rw 1 [.int .i64 0,.bool false,.slice none 0 0,.slice none 0 0,.slice none 0 0]/\(∃p q,s'.H.blk H2.n= .rw 1 [.int .i64 op,.bool S3.1,p,q,.slice none 0 0]/\Sl s'.H p S3.2.1/\Sl s'.H q S3.2.2)/\s'.tm.get 1=some (.pointer (some ⟨H.n,0,none⟩))/\s'.tm.get 2=some (.pointer (some ⟨H.n+1,0,none⟩))/\s'.tm.get 3=some (.pointer (some ⟨H2.n,0,none⟩))) ?_ ?_
    ·intro Jt XR;apply Za;intro b2 ZT;simp[Ut,WX q0,QX];subst ZT;by_cases h0:op=0
     ·have di:S3=((Z8 neg (dv Zc abs) (dv Zc den)).1,ds Zc (Z8 neg (dv Zc abs) (dv Zc den)).2.1,ds Zc (Z8 neg (dv Zc abs) (dv Zc den)).2.2):=by rw[di];unfold nT;rw[if_pos h0]
      obtain⟨R,hR⟩:=hid (Z8 neg (dv Zc abs) (dv Zc den));rw[<-hR]at di;have bA:=RR da wa;have bB:=RR dd wd;have K:=(k2.trans k3);have bg:=q0;have BF: ∀{J:AH}(k:Zj H3 J){bits ms},(∀x∈ms,H3.n<=x.2.1)-> ∀b,b<H3.n->(PM J bits ms).blk b=H3.blk b:=fun k _ _ h b hb=>(Wb k h).blk b hb;obtain⟨w1,BC,PT,XK,o1⟩:=Vk ((h1.keep K).top) da (Nat.le_trans wa (by decide));obtain⟨TM,WE,VT,fc⟩:=cg XK;have WR:=VT;have KN:=WR.n;have K:=K.trans VT;replace o1:=o1.gr XK WE;obtain⟨w2,CM,Jj,VU,o2⟩:=Vk ((h2.keep K).top) dd (Nat.le_trans wd (by decide));obtain⟨XB,U3,Va,jI⟩:=cg VU;have Wf:=WR.trans Va;have Gf:=Wf.n;have K:=K.trans Va;replace o1:=o1.m Va;replace o2:=o2.gr VU U3;replace q0:=Wf.q q0;replace q1:=Wf.q q1;replace q2:=Wf.q q2;obtain⟨BA,RX,Mt,RY,U1,q2,Vn,Ro⟩:=qC (x:=neg) q2 (by omega) rfl o1.one1 o2.one1 rfl;obtain⟨gX,Rq⟩:=hid (low XB BA);rw[<-Rq]at U1 q2 Vn Ro;have K:=Ro _ K (by omega);replace q0:=(Vn _ (by omega)).trans q0;replace q1:=(Vn _ (by omega)).trans q1;replace o1:=o1.off (b:=H2.n) (by first|omega|(show _<AH.n _;omega)) U1 Vn;replace o2:=o2.off (b:=H2.n) (by first|omega|(show _<AH.n _;omega)) U1 Vn;have z0:=q0;obtain⟨p,q,H4,c4,k4,o3,o4⟩:=TP neg (h1.keep K) (h2.keep K) da dd (Nat.le_trans wa (by decide)) (Nat.le_trans wd (by decide)) rfl rfl (by omega) (by omega) (hD h0);have n4:=k4.n;have K:=K.trans k4;replace q0:=k4.q q0;replace q1:=k4.q q1;replace q2:=k4.q q2;replace o1:=o1.m k4;replace o2:=o2.m k4;rw[<-hR]at c4 o3 o4;obtain⟨H5,Ui,k5,q3,n5⟩:=qN (H:=H4) (p:= .bool R.1) (q:=p) (r:=q) (by simp[o3.one1,o4.one1,show one (Value.bool R.1)=true from rfl]);have K:=K.trans k5;replace q0:=k5.q q0;replace q1:=k5.q q1;replace q2:=k5.q q2;replace o1:=o1.m k5;replace o2:=o2.m k5;replace o3:=o3.m k5;replace o4:=o4.m k5;have z3:=q3;obtain⟨H6,Vt,n6,q2,b6,Ub⟩:=xS (x:=R.1) q2 o3.one1 o4.one1;have K:=Ub _ K (by omega);replace q0:=(b6 _ (by omega)).trans q0;replace q1:=(b6 _ (by omega)).trans q1;replace o1:=o1.off (b:=H2.n) (by first|omega|(show _<AH.n _;omega)) n6 b6;replace o2:=o2.off (b:=H2.n) (by first|omega|(show _<AH.n _;omega)) n6 b6;replace o3:=o3.off (b:=H2.n) (by first|omega|(show _<AH.n _;omega)) n6 b6;replace o4:=o4.off (b:=H2.n) (by first|omega|(show _<AH.n _;omega)) n6 b6;have nn4:=k4.n;refine Zb (t:=true) (by simp[h0]) ?_;apply Zi;intro b3 Z4;apply Y8 (by kernel_rfl);simp[Sp,tB,oH];refine WW (v:= .bool neg) (by simp[qW (H:=AH.top H3) bg]) ?_;simp[Sp,tB,oJ];refine WW (v:=va) (by simp[qV (H:=AH.top H3) bg]) ?_;simp;refine XL (v:=w1) (VI.nil H3.n) XK WE (by simp[PT]) fun KP PK=>?_;simp[Qu (b:=neg) o1.shape,Sp,tD];refine Z7 (v:=vd) rfl rfl rfl (by simp[qU ((BF WR PK.ge _ (by omega)).trans bg)]) ?_;simp;refine XL (v:=w2) PK VU U3 (by simp[Jj]) fun Gb PU=>?_;simp[Qt (x:=neg) o1.shape o2.shape,Sp];refine PL (v:= .tuple #[]) PU Mt RY Rq (by simp[RX,Sp]) ?_;simp[Sp];subst Z4;apply Za;intro b1 Zf;simp[Sp,HC z0,c4,XC,Value.cells,Ui];subst Zf;apply Za;intro b1 Zf;simp[show Zd .eql .i64 0 0=some (.bool true)from rfl];subst Zf;refine Zb (t:=true) (by simp) ?_;apply Zl;simp[YR z3,Sp,Vt];apply XR;rw[di];exact⟨rfl,K,by show H.n+3<=H6.n;omega,q0,q1,⟨p,q,q2,o3.sl,o4.sl⟩,by simp,by simp,by simp⟩
     ·have di:S3=(false,[],[]):=by rw[di];unfold nT;rw[if_neg h0]
      refine Zb (t:=false) (by simp[h0]) ?_;apply Zr;apply XR;rw[di];exact⟨rfl,k2.trans k3,by show H.n+3<=H3.n;omega,q0,q1,⟨_,_,q2,.nil,.nil⟩,by simp,by simp,by simp⟩
    clear q0 q1 q2 z2;rintro⟨k,tm,Hb⟩ ⟨hk,kb,nb,q0,q1,⟨p,q,q2,sp,sq⟩,u1,u2,u3⟩;simp only at hk kb nb q0 q1 q2 sp sq u1 u2 u3;subst hk;have zL:=sp.shape;have zI:=sq.shape;apply Zi;intro b1 Zf;apply Za;intro b2 ZT;simp[u1,W7,TR q0,Mb];subst ZT;apply ZR;refine YS (fun n s'=>s'.k=56/\ ∃(i:Nat) (av:Value) (css:List (List Value)) (Q:Nat->Nat->Prop),n+i=len/\Zj H s'.H/\H.n+3<=s'.H.n/\s'.H.blk H.n= .rw 1 [.int .i64 op,.bool neg,va,vd,vx]/\s'.H.blk (H.n+1)= .rw 1 [.int .i64 0,.bool false,.slice none 0 0,.slice none 0 0,.slice none 0 0]/\s'.H.blk H2.n= .rw 1 [.int .i64 op,.bool S3.1,p,q,av]/\Sl s'.H p S3.2.1/\Sl s'.H q S3.2.2/\UB 5 s'.H av css/\css.length=i/\(∀b,Yt av=some b->H.n+3<=b)/\(∀j c,Q j c->H.n+3<=c/\c<s'.H.n/\Yt av≠some c)/\(∀j l c,j≠l->Q j c-> ¬Q l c)/\(∀(j:Nat)(cs:List Value)(t:ET),css[j]?=some cs->args[j]?=some t->OX s'.H (Q j) cs t.twin)/\s'.tm.get 1=some (.pointer (some ⟨H.n,0,none⟩))/\s'.tm.get 2=some (.pointer (some ⟨H.n+1,0,none⟩))/\s'.tm.get 3=some (.pointer (some ⟨H2.n,0,none⟩))/\s'.tm.get 41=some vx/\s'.tm.get 42=some (.int .i64 (len:Int))/\s'.tm.get 43=some (.int .i64 (i:Int))) ?_ len _ ⟨rfl,0,.slice none 0 0,[],fun _ _=>False,by omega,kb,nb,q0,q1,q2,sp,sq,.nil,rfl,(fun b hb=>by cases hb),(fun _ _ h=>h.elim),(fun _ _ _ _ h=>h.elim),(fun j cs t h=>by simp at h),by simp[u1],by simp[u2],by simp[u3],by simp,by simp,by simp⟩;clear q0 q1 q2 sp sq u1 u2 u3 kb nb;rintro n' ⟨k,tm,Hc⟩ ⟨hk,i,av,css,Q,mO,kc,nc,qx,qz,qy,spc,sqc,hL,W9,Bb,oA,hQ2,hQ3,u1,u2,u3,nR,nQ,kL⟩ Q' YA;simp only at hk kc nc qx qz qy spc sqc hL oA hQ3 u1 u2 u3 nR nQ kL;subst hk;apply Za;intro b3 Z4;simp[nQ,kL,KS];subst Z4;apply Zi;intro b3 Z4;by_cases hi:i<len
    ·refine Zb (t:=true) (by simp[hi]) ?_;apply Zr;subst Z4;obtain⟨ti,RV⟩: ∃ti,args[i]?=some ti:=⟨args[i]'(by omega),List.getElem?_eq_getElem (by omega)⟩;have mM:=UJ RV;obtain⟨pp,us,Qm,Ku,Lc⟩:=h3.at RV;have Y1:=Ku Hc kc;obtain⟨H4,WQ,k4,q8,n4⟩:=Lm (H:=Hc) Lc.len Lc.ones;have xP:=k4.q qx;have qz4:=k4.q qz;have xN:=k4.q qy;have K:=(kc.trans k4);have qy4a:=xN;have q8a:=q8;obtain⟨ws,BC,PT,XK,ox⟩:=ih ti (by omega) H4.top us ((Lc.keep K).keep (XD _)) (VK wx RV) (Uu jh RV);obtain⟨TM,WE,VT,fc⟩:=cg XK;have WR:=VT;have KN:=WR.n;have K:=K.trans VT;obtain⟨CM,Jj,VU,nv,bI2⟩:=iQ ox.len TM.top;obtain⟨XB,U3,Va,jI⟩:=cg VU;have Wf:=WR.trans Va;have Gf:=Wf.n;have K:=K.trans Va;replace xP:=Wf.q xP;replace qz4:=Wf.q qz4;replace xN:=Wf.q xN;replace q8:=Wf.q q8;have nJ1:TM.n=BC.n:=by rw[WE];rfl
     have nJ2:XB.n=TM.n+1:=by rw[U3];exact nv
     have iX:XB.top.blk TM.n= .rw 5 ws:=by show XB.blk TM.n=_;rw[U3,(Yz VU).blk TM.n (by rw[nv];exact Nat.lt_succ_self _) (fun e=>by cases e)];exact bI2
     have ox1:OX TM (fun j=>H4.n<=j/\j<TM.n) ws ti.twin:=by rw[WE];exact ox.fr (Ft XK) fun j _ hj=>(Yz XK).blk j hj (fun e=>by cases e)
     have ox2:=ox1.keep Va;have sN:=k4.trans Wf;obtain⟨He,N4,ne,Rb,DX,Pn,FX⟩:=((hL.keep sN).keep (XD XB)).append (by decide) iX ox.len ox.ones sC (by decide) Vj rfl (by omega);replace ne:He.n=XB.n+1:=ne;replace DX:UB 5 He (.slice (some ⟨XB.n,0,none⟩) (css.length+1) (css.length+1)) (css++[ws]):=DX;replace Rb: ∀j,j<XB.n->Yt av≠some j->He.blk j=XB.blk j:=Rb;have avsh:=hL.shape;have nkH:=sN.n;obtain⟨Gd,mz⟩: ∃Gd:AH->Prop,∀G,Gd G↔(G.n=He.n/\Zj H G/\G.blk H.n= .rw 1 [.int .i64 op,.bool neg,va,vd,vx]/\G.blk (H.n+1)= .rw 1 [.int .i64 0,.bool false,.slice none 0 0,.slice none 0 0,.slice none 0 0]/\G.blk H2.n= .rw 1 [.int .i64 op,.bool S3.1,p,q,.slice (some ⟨XB.n,0,none⟩) (css.length+1) (css.length+1)]/\Sl G p S3.2.1/\Sl G q S3.2.2/\UB 5 G (.slice (some ⟨XB.n,0,none⟩) (css.length+1) (css.length+1)) (css++[ws])/\(∀(j:Nat)(cs:List Value)(t:ET),(css++[ws])[j]?=some cs->args[j]?=some t->OX G (fun c=>(j=i/\H4.n<=c/\c<TM.n)\/(j<i/\Q j c)) cs t.twin)):=⟨_,fun _=>Iff.rfl⟩;have fin: ∀G3:AH,T4 none He G3->Vz (H.n+3) XB G3-> ∃Hs,YV Tryz.prog G3.top 51 (.pointer (some ⟨H2.n,4,none⟩)) (.slice (some ⟨XB.n,0,none⟩) (css.length+1) (css.length+1))=some Hs/\Hs.n=G3.n/\Hs.lw<G3.n/\Gd (low G3 Hs):=fun G3 bt jV=>by
      have old: ∀j,j<XB.n->Yt av≠some j->G3.blk j=XB.blk j:=fun j hj h=>(bt.blk j (by omega) (fun e=>by cases e)).trans (Rb j hj h);have sK: ∀j,j<H.n+3->Yt av≠some j:=fun j hj e=>by have:=Bb j e;omega
      have qy3:G3.blk H2.n= .rw 1 [.int .i64 op,.bool S3.1,p,q,av]:=(old _ (by omega) (sK _ (by omega))).trans xN;have n3e:=bt.n;obtain⟨Hs,ss,sn,fH,fn,fb,fo,fk⟩:=qA (v:= .slice (some ⟨XB.n,0,none⟩) (css.length+1) (css.length+1)) qy3 (by omega) rfl rfl;refine⟨Hs,ss,sn,fH,(mz _).2 ?_⟩;obtain⟨G4,HT⟩:=hid (low G3 Hs);rw[<-HT]at fn fb fo fk⊢;have QJ: ∀j,j<XB.n->Yt av≠some j->j≠H2.n->G4.blk j=XB.blk j:=fun j hj h h2=>(fo j h2).trans (old j hj h);have f4:Fr XB G4:=⟨by omega,fun j hj=>by
       by_cases e:j=H2.n;·subst e;exact .inr (.inr ⟨_,_,xN,fb,rfl,qJ zL zI avsh,qJ zL zI ⟨_,_,_,rfl⟩⟩)
       ·by_cases e2:Yt av=some j;·exact .inr (.inl ⟨5,_,((hL.keep sN).blk_lt e2).2,by decide⟩)
        ·exact .inl (QJ j hj e2 e)⟩;refine⟨by omega,fk H ((jV H K (by omega))) (by omega),(QJ _ (by omega) (sK _ (by omega)) (by omega)).trans xP,(QJ _ (by omega) (sK _ (by omega)) (by omega)).trans qz4,fb,(spc.keep sN).fr f4,(sqc.keep sN).fr f4,DX.frame (by omega) (fun b hb=>?_),fun j cs t hc ht=>?_⟩;·cases hb;exact(fo _ (by omega)).trans (bt.blk _ (by omega) (fun e=>by cases e))
      ·rcases Nat.lt_or_ge j i with hj|hj;·rw[List.getElem?_append_left (by omega)]at hc;refine((((hQ3 j cs t hc ht).keep sN).fr f4 fun c S9 hn=>?_)).weak fun c S9=> .inr ⟨hj,S9⟩;obtain⟨g1,g2,g3⟩:=oA j c S9;exact QJ c (by omega) g3 (by omega)
       ·rw[List.getElem?_append_right (by omega)]at hc;have gH:j=i:=by
         rcases Nat.lt_or_ge i j with h|h;·rw[List.getElem?_eq_none (by simp;omega)]at hc;cases hc
         ·omega
        subst gH;rw[W9,Nat.sub_self]at hc;cases hc;rw[RV]at ht;cases ht;refine(ox2.fr f4 fun c S9 hn=>?_).weak fun c S9=> .inl ⟨rfl,S9⟩;exact QJ c (by omega) (fun e=>by have:=(hL.blk_lt e).1;omega) (by omega)
     have l8:=Xp q8 Lc.len;refine Xd (fun s'=>s'.k=56/\Gd s'.H/\s'.tm.get 1=some (.pointer (some ⟨H.n,0,none⟩))/\s'.tm.get 2=some (.pointer (some ⟨H.n+1,0,none⟩))/\s'.tm.get 3=some (.pointer (some ⟨H2.n,0,none⟩))/\s'.tm.get 41=some vx/\s'.tm.get 42=some (.int .i64 (len:Int))/\s'.tm.get 43=some (.int .i64 (i:Int))) ?_ ?_;·intro Jt XR;apply ZR;apply Za;intro b4 Yy;simp[nR,kL,Qm,Y1,Vj,Value.cells,WQ];subst Yy;apply Y8 (by kernel_rfl);simp[u3,W7];refine WW (v:=av) (by simp[TR (H:=AH.top H4) qy4a]) ?_;simp[u3];refine Z7 (v:= .agg us.toArray) rfl rfl rfl (by rw[Z1 rfl];simp[Xp (H:=AH.top H4) q8a Lc.len]) ?_;simp;refine XL (v:= .agg ws.toArray) (VI.nil H4.n) XK WE (by simp[PT]) fun KP PK=>?_;simp;refine XL (v:= .slice (some ⟨TM.n,0,none⟩) 1 1) PK VU U3 (by simp[Jj]) fun Gb PU=>?_;simp;cases HM:Yt av with
      |none=>
       refine YJ (v:= .slice (some ⟨XB.n,0,none⟩) (css.length+1) (css.length+1)) (H2:=He) rfl rfl rfl ?_ (by omega) (by rw[(Pn HM).2];exact Nat.le_refl _) ?_;·rw[Z1 (PU.hid (by kernel_rfl))];simp[N4]
       obtain⟨Hs,ss,sn,fH,Wq⟩:=fin (grown XB He) (Yz (Pn HM).1) ((Yo (.refl _) (Pn HM).1).kat _);have Gt:=PU.cons (i:=5) (a:=XB.n) (b:=He.n) (by omega);generalize cond (Nat.blt XB.n He.n) _ _=A2 at Gt;simp[u3,W7];refine YO (v:= .tuple #[]) (H2:=Hs) rfl rfl (by kernel_rfl) (Gt.hid (by kernel_rfl)) ?_ (by rw[sn];exact Nat.le_refl _) fH ?_;·show ZF _ _ _ _ (grown XB He).top _=_;simp[ss]
       simp;apply XR;exact⟨rfl,Wq,by simp[u1],by simp[u2],by simp[u3],by simp[nR],by simp[nQ],by simp[kL]⟩
      |some b=>
       have Zf:=FX b HM;have ZT:b<XB.n:=Zf.2.2;refine YO (v:= .slice (some ⟨XB.n,0,none⟩) (css.length+1) (css.length+1)) (H2:=He) rfl rfl (by kernel_rfl) (PU.hid (by kernel_rfl)) ?_ (by omega) (by have h3:=Zf.2.1;omega) ?_;·show ZF _ _ _ _ XB.top _=_;simp[N4]
       obtain⟨Hs,ss,sn,fH,Wq⟩:=fin (low XB He) (Nn XB He) (Tn (Zf.1.weak (Bb b HM)));have Gt:=PU.cons (i:=5) (a:=XB.n) (b:=He.n) (by omega);generalize cond (Nat.blt XB.n He.n) _ _=A2 at Gt;simp[u3,W7];refine YO (v:= .tuple #[]) (H2:=Hs) rfl rfl (by kernel_rfl) (Gt.hid (by kernel_rfl)) ?_ (by rw[sn];exact Nat.le_refl _) fH ?_;·show ZF _ _ _ _ (low XB He).top _=_;simp[ss]
       simp;rw[show low (low XB He) Hs= { n:=Hs.n,lw:=min XB.lw (min He.lw Hs.lw),t:=Hs.t } by simp[low,Nat.min_assoc]]at Wq;apply XR;exact⟨rfl,Wq,by simp[u1],by simp[u2],by simp[u3],by simp[nR],by simp[nQ],by simp[kL]⟩
     clear u1 u2 u3 nR nQ kL;rintro⟨k,CX,Hx⟩ ⟨hk,hG,u1,u2,u3,nR,nQ,kL⟩;simp only at hk hG u1 u2 u3 nR nQ kL;subst hk;obtain⟨nx,kx,x0,x1,x2,xp,xq,xL,xO⟩:=(mz _).1 hG;apply Zl;simp[kL,TL (x:=i) (by omega)];apply YA;refine⟨n'-1,by omega,rfl,i+1,.slice (some ⟨XB.n,0,none⟩) (css.length+1) (css.length+1),css++[ws],fun j c=>(j=i/\H4.n<=c/\c<TM.n)\/(j<i/\Q j c),by omega,kx,by show H.n+3<=Hx.n;omega,x0,x1,x2,xp,xq,xL,by simp[W9],(fun b hb=>by cases hb;omega),fun j c hc=>?_,fun j l c hjl h1 h2=>?_,xO,by simp[u1],by simp[u2],by simp[u3],by simp[nR],by simp[nQ],by simp⟩
     ·show H.n+3<=c/\c<Hx.n/\_;rcases hc with⟨_,g1,g2⟩|⟨_,g⟩;·exact⟨by omega,by omega,fun e=>by cases e;omega⟩
      ·obtain⟨g1,g2,_⟩:=oA j c g;exact⟨g1,by omega,fun e=>by cases e;omega⟩
     ·rcases h1 with⟨e1,g1,g2⟩|⟨e1,g1⟩
      ·rcases h2 with⟨e2,_,_⟩|⟨e2,g3⟩;·omega
       ·have:=(oA l c g3).2.1;omega
      ·rcases h2 with⟨e2,g2,_⟩|⟨e2,g3⟩;·have:=(oA j c g1).2.1;omega
       ·exact hQ2 j l c hjl g1 g3
    ·refine Zb (t:=false) (by simp[hi]) ?_;apply YN;apply YA;left;refine⟨rfl,?_⟩;clear YA;obtain rfl:i=len:=by omega
     subst Zf;have ash:=hL.shape;have P2:[Value.int .i64 op,.bool S3.1,p,q,av].all one=true:=by obtain⟨a,l,c,rfl⟩:=zL;obtain⟨a',l',c',rfl⟩:=zI;obtain⟨a'',l'',c'',rfl⟩:=ash;rfl
     obtain⟨H9,JM,n9,q9,b9,eV⟩:=TQ UE qz rfl (v:= .agg #[.int .i64 op,.bool S3.1,p,q,av]) (ws:=[.int .i64 op,.bool S3.1,p,q,av]) (by simp[Value.cells]) rfl P2;have f9:Fr Hc H9:=Fr.put qz q9 n9 b9 rfl rfl (qJ zL zI ash);have Y1:=Xp q9 rfl;have hly:=Xp qy rfl;try simp at Y1 hly
     apply Za;intro b1 Zf;simp[u2,u3,hly,JM];subst Zf;apply ZZ;simp[u2,Y1];have hcl':css.length=(T2 args).length:=by rw[EH];omega
     refine⟨eV H kc (by omega),?_⟩;simp only[ET.twin];rw[<-di];refine .mk css Q (spc.fr f9) (sqc.fr f9) (hL.frame (by omega) fun b hb=>b9 b (by have:=Bb b hb;omega)) hcl' (fun b hb=>?_) (fun j c hc=>?_) hQ2 fun j cs t hc ht=>?_;·have:=Bb b hb;have:=(hL.blk_lt hb).1;exact⟨by omega,by omega⟩
     ·obtain⟨g1,g2,g3⟩:=oA j c hc;exact⟨⟨by omega,by omega⟩,g3⟩
     ·rw[M5,List.getElem?_map]at ht;cases hj:args[j]? with|none=>rw[hj]at ht;cases ht|some t0=>rw[hj]at ht;cases ht;exact(hQ3 j cs t0 hc hj).fr f9 fun c S9 hn=>b9 c (by have:=(oA j c S9).1;omega)
end
mutual def ET.subs:ET->List ET| .node op neg abs den args=>(ET.node op neg abs den args).twin::WZ args def WZ:List ET->List ET|[]=>[]|t::ts=>t.subs++WZ ts end
mutual theorem Jb: ∀t:ET,t.subs.length=t.nodes| .node op neg abs den args=>by simp only[ET.subs,ET.nodes,List.length_cons,Q7 args];omega theorem Q7: ∀l:List ET,(WZ l).length=Z0 l|[]=>rfl|t::ts=>by simp only[WZ,Z0,List.length_append,Jb t,Q7 ts] end
theorem Ja(xs ys:List ET):WZ (xs++ys)=WZ xs++WZ ys:=by induction xs with|nil=>simp[WZ]|cons x xs ih=>simp[WZ,ih]
theorem Gr{args:List ET}{i:Nat}{t:ET}(h:args[i]?=some t):WZ (args.take (i+1))=WZ (args.take i)++t.subs:=by rw[List.take_add_one,h,Ja];simp[WZ]
def OH(H:AH)(lb:Nat)(lv:Value)(L:List ET):Prop:=H.blk lb= .rw 1 [lv]/\lb<H.n/\ ∃css,UB 5 H lv css/\css.length=L.length/\ ∀(i:Nat)(cs:List Value)(t:ET),css[i]?=some cs->L[i]?=some t->OX H (fun c=>c<H.n/\c≠lb/\Yt lv≠some c) cs t
theorem OH.keep{H H':AH}{lb:Nat}{lv:Value}{L:List ET}(h:OH H lb lv L)(k:Zj H H'):OH H' lb lv L:=by obtain⟨h1,h2,css,h3,h4,h5⟩:=h;exact⟨(k.blk _ h2).trans h1,Nat.lt_of_lt_of_le h2 k.n,css,h3.keep k,h4,fun i cs t hc ht=>((h5 i cs t hc ht).keep k).weak fun c hc=>⟨Nat.lt_of_lt_of_le hc.1 k.n,hc.2⟩⟩
theorem OH.ne{H:AH}{lb:Nat}{lv:Value}{L:List ET}(h:OH H lb lv L){b:Nat}{cs:List Value}(hb:H.blk b= .rw 1 cs):Yt lv≠some b:=fun e=>by obtain⟨_,_,css,h3,_⟩:=h;have:=(h3.blk_lt e).2;rw[hb]at this;injection this with this _;exact absurd this (by decide)
theorem OH.lt{H:AH}{lb:Nat}{lv:Value}{L:List ET}(h:OH H lb lv L){b:Nat}(e:Yt lv=some b):b<H.n:=by obtain⟨_,_,css,h3,_⟩:=h;exact(h3.blk_lt e).1
theorem tw{b m cap i:Nat}(hi:i<m):Yi Tryz.prog 51 (.slice (some ⟨b,0,none⟩) m cap) (.int .i64 (i:Int))=some (.pointer (some ⟨b,i*5,none⟩)):=by unfold Yi;simp only[nO,UE];rw[if_pos (by omega)];simp
theorem eF{H:AH}{b:Nat}{v:Value}(h:H.blk b= .rw 1 [v]):Z9 Tryz.prog H 51 (.pointer (some ⟨b,0,none⟩))=some v:=Yj Hh (AH.cells_rw' h (by decide)) rfl
theorem cL{css:List (List Value)}{z ws:List Value}(h: ∀cs∈css,cs.length=5)(hz:z.length=5):(css++[z]).flatten.take (css.length*5)++ws++(css++[z]).flatten.drop (css.length*5+5)=(css++[ws]).flatten:=by have hl:=SK h;simp only[List.flatten_append,List.flatten_cons,List.flatten_nil,List.append_nil];rw[<-hl,List.take_left,<-List.drop_drop,List.drop_left,List.drop_of_length_le (by omega),List.append_nil]
theorem Dx{V H:AH}{sz:Nat}(hV:V.n=H.n)(z:List Value):grown H (V.new sz z)=grown H (H.top.new sz z):=by
 unfold grown;have e1:(V.new sz z).n=H.n+1:=by show V.n+1=_;omega
 have e2:(H.top.new sz z).n=H.n+1:=rfl;have e3:(V.new sz z).blk H.n=(H.top.new sz z).blk H.n:=by rw[AH.blk_new,AH.blk_new,if_pos hV.symm,if_pos (show H.n=H.top.n from rfl)]
 rw[e1,e2,show H.n+1-H.n=1 by omega];simp only[Od,Nat.add_zero,e3]
theorem og(sz:Nat)(H:AH)(z:List Value): ∃I,H.new sz z=I/\Zj H I:=⟨_,rfl,Zj.new _ _ _⟩
def rev(H:AH)(b:Nat)(x:Qj):AH:= { n:=H.n,lw:=H.lw,t:=H.t.set b x }
theorem UF(H:AH)(b:Nat)(x:Qj)(j:Nat):(rev H b x).blk j=if j=b then x else H.blk j:=by
 show(match(H.t.set b x).get j with|some y=>y|none=>Qj.dead)=_;rw[Tr.get_set];by_cases e:j=b;·rw[if_pos e,if_pos e]
 ·rw[if_neg e,if_neg e];rfl
theorem BP(H:AH)(b:Nat)(x:Qj):Vz b H (rev H b x):=fun H0 k hn=>⟨k.n,k.lw,fun j hj=>by rw[UF,if_neg (by omega)];exact k.blk j hj⟩
theorem Sl.alive{H H':AH}{v:Value}{xs:List Nat}(h:Sl H v xs)(hn:H.n<=H'.n)(hb: ∀j,j<H.n->H.blk j= .dead\/H'.blk j=H.blk j):Sl H' v xs:=by cases h with
 |nil=>exact .nil
 |emp b=>exact .emp b
 |mk b o cap xs h1 h2=>
  refine .mk b o cap xs h1 ?_;obtain⟨g1,cs,g2,g3,g4,g5⟩:=h2;rcases hb b g1 with e|e;·unfold AH.cells at g2;rw[e]at g2;cases g2
  ·exact⟨Nat.lt_of_lt_of_le g1 hn,cs,by unfold AH.cells;rw[e];exact g2,by unfold AH.size;rw[e];exact g3,g4,g5⟩
theorem UB.alive{sz:Nat}{H H':AH}{v:Value}{css:List (List Value)}(h:UB sz H v css)(hn:H.n<=H'.n)(hb: ∀j,j<H.n->H.blk j= .dead\/H'.blk j=H.blk j):UB sz H' v css:=h.frame hn fun b hv=>by
 obtain⟨h1,h2⟩:=h.blk_lt hv;rcases hb b h1 with e|e;·rw[h2]at e;cases e
 ·exact e
theorem OX.alive{H H':AH}{P:Nat->Prop}{vs:List Value}{t:ET}(h:OX H P vs t)(hn:H.n<=H'.n)(hb: ∀j,j<H.n->H.blk j= .dead\/H'.blk j=H.blk j):OX H' P vs t:=by induction h with|mk css Q h1 h2 h3 h4 h5 h6 h7 h8 ih=>exact .mk css Q (h1.alive hn hb) (h2.alive hn hb) (h3.alive hn hb) h4 h5 h6 h7 fun i cs t hc ht=>ih i cs t hc ht
def Mv(lb cb:Nat):Value:= .func (.func 77) #[] #[.pointer (some ⟨lb,0,none⟩),.pointer (some ⟨cb,0,none⟩)]
theorem aFnX:XY Tryz.prog 135=some false:=by kernel_rfl
theorem eL{H:AH}{b:Nat}{v:Value}(h:H.blk b= .rw 1 [v]):Z9 Tryz.prog H 135 (.pointer (some ⟨b,0,none⟩))=some v:=Yj aFnX (AH.cells_rw' h (by decide)) rfl
section
theorem gf : ∀ n (t : ET), t.nodes <= n -> ∀ (H0 H : AH) (vs : List Value) (lb cb : Nat) (L : List ET) (lv : Value), Ex H0 vs t -> t.wide 1048576 -> t.allGood = true -> Zj H0 H -> H0.n <= lb -> H.blk cb = .rw 1 [Mv lb cb] -> cb < H.n -> cb ≠ lb -> OH H lb lv L ->
    (∀ b, Yt lv = some b -> lb <= b) -> L.length + t.nodes <= 500000000 ->
    ∃ x qR H', ZU Tryz.prog ZY 77 [.agg vs.toArray, .pointer (some ⟨lb, 0, none⟩), .pointer (some ⟨cb, 0, none⟩)] H = some (x, H') /\ H.n <= H'.n /\ OH H' lb qR (L ++ t.subs) /\ (∀ b, Yt qR = some b -> H.n <= b) /\ Vz lb H H' /\
      (∀ j, j < H.n -> j ≠ lb -> Yt lv ≠ some j -> H'.blk j = H.blk j) := by
  intro n
  induction n with
  | zero => intro t h; have := Xn t; omega
  | succ n ih =>
  intro t ht H0 H vs lb cb L lv hE hw hg k0 N5 uE hcn W9 hP hlv gM
  obtain ⟨Po, aD⟩ : ∃ Po : AH -> Prop, ∀ H', Po H' ↔ ∃ qR, H.n <= H'.n /\ OH H' lb qR (L ++ t.subs) /\ (∀ b, Yt qR = some b -> H.n <= b) /\ Vz lb H H' /\
      (∀ j, j < H.n -> j ≠ lb -> Yt lv ≠ some j -> H'.blk j = H.blk j) := ⟨_, fun _ => Iff.rfl⟩
  suffices hs : CW Tryz.prog ZY 77 [.agg vs.toArray, .pointer (some ⟨lb, 0, none⟩), .pointer (some ⟨cb, 0, none⟩)] H fun _ H' => Po H' by
    obtain ⟨x, H', hc, h⟩ := hs
    obtain ⟨qR, h⟩ := (aD _).1 h
    exact ⟨x, qR, H', hc, h⟩
  have htw := aS _ t (Nat.le_refl _)
  obtain ⟨T, hT⟩ := hid (t.twin)
  rw [<- hT] at htw
  obtain ⟨op, neg, abs, den, args⟩ := t
  have iH := hE
  cases iH with
  | @mk _ _ va vd vx _ _ _ h1 h2 h3 =>
  have FN := hw
  obtain ⟨wa, wd, da, dd, wx⟩ := hw
  simp only [ET.nodes] at ht gM
  have vY := hg
  simp only [ET.allGood, Bool.and_eq_true] at hg
  obtain ⟨mT, jh⟩ := hg
  obtain ⟨len, Kt⟩ := hid (args.length)
  have Mb := h3.len
  rw [<- Kt] at Mb
  have FV := VG args
  have hlbn := hP.2.1
  obtain ⟨H2, e2, k2, n2, q0⟩ := Wc H [.int .i64 op, .bool neg, va, vd, vx]
  have hP2 := hP.keep k2
  obtain ⟨Gy, _, css, hL, hcL, hO⟩ := hP2
  have lvsh := hL.shape
  have nvl : Yt lv ≠ some lb := OH.ne hP hP.1
  have nvc : Yt lv ≠ some cb := OH.ne hP uE
  have nvH : ∀ j, H.n <= j -> Yt lv ≠ some j := fun j hj e => by have := hP.lt e; omega
  obtain ⟨Hd, db⟩ := hid (rev H2 lb .dead)
  have jg : ∀ j, Hd.blk j = if j = lb then .dead else H2.blk j := fun j => by rw [db]; exact UF _ _ _ _
  have yD : Hd.n = H2.n := by rw [db]; rfl
  have nd : Vz lb H2 Hd := by rw [db]; exact BP _ _ _
  have hLd : UB 5 Hd lv css := hL.frame (Nat.le_of_eq yD.symm) fun b hb => by rw [jg, if_neg (fun e => nvl (by rw [<- e]; exact hb))]
  have q0d : Hd.blk H.n = .rw 1 [.int .i64 op, .bool neg, va, vd, vx] := by rw [jg, if_neg (by omega)]; exact q0
  have K := (nd H0 (k0.trans k2) N5)
  have q0da := q0d
  obtain ⟨ws, BC, PT, XK, ox⟩ := htw Hd.top _ ((hE.keep K).keep (XD _)) FN vY
  obtain ⟨TM, WE, VT, fc⟩ := cg XK
  have WR := VT
  have KN := WR.n
  obtain ⟨CM, Jj, VU⟩ := og 5 TM.top [.int .i64 0, .bool false, .slice none 0 0, .slice none 0 0, .slice none 0 0]
  obtain ⟨XB, U3, Va, jI⟩ := cg VU
  have Wf := WR.trans Va
  have Gf := Wf.n
  have nv : CM.n = TM.n + 1 := by rw [<- Jj]; rfl
  have bI2 : CM.blk TM.n = .rw 5 [.int .i64 0, .bool false, .slice none 0 0, .slice none 0 0, .slice none 0 0] := by rw [<- Jj, AH.blk_new, if_pos (show TM.n = TM.top.n from rfl)]
  have nJ1 : TM.n = BC.n := by rw [WE]; rfl
  have nJ2 : XB.n = TM.n + 1 := by rw [U3]; exact nv
  have iX : XB.top.blk TM.n = .rw 5 [.int .i64 0, .bool false, .slice none 0 0, .slice none 0 0, .slice none 0 0] := by
    show XB.blk TM.n = _
    rw [U3, (Yz VU).blk TM.n (by rw [nv]; exact Nat.lt_succ_self _) (fun e => by cases e)]
    exact bI2
  have ox1 : OX TM (fun j => Hd.n <= j /\ j < TM.n) ws T := by
    rw [WE]
    exact ox.fr (Ft XK) fun j _ hj => (Yz XK).blk j hj (fun e => by cases e)
  have ox2 := ox1.keep Va
  have hLJ := hLd.keep Wf
  obtain ⟨He, N4, ne, Rb, DX, Pn, FX⟩ := (hLJ.keep (XD XB)).append (by decide) iX rfl rfl sC (by decide) Vj rfl (by omega)
  replace ne : He.n = XB.n + 1 := ne
  replace DX : UB 5 He (.slice (some ⟨XB.n, 0, none⟩) (css.length + 1) (css.length + 1)) (css ++ [[.int .i64 0, .bool false, .slice none 0 0, .slice none 0 0, .slice none 0 0]]) := DX
  replace Rb : ∀ j, j < XB.n -> Yt lv ≠ some j -> He.blk j = XB.blk j := Rb
  have pY : ∀ cs ∈ css, cs.length = 5 := by
    rcases hL with ⟨_, rfl⟩ | ⟨_, _, _, _, h⟩
    · intro cs hc; cases hc
    · exact h
  have ndk := Wf.n
  obtain ⟨Gd, mz⟩ : ∃ Gd : AH -> Prop, ∀ G, Gd G ↔ (H.n + 1 <= G.n /\ OH G lb (.slice (some ⟨XB.n, 0, none⟩) (css.length + 1) (css.length + 1)) (L ++ [T]) /\ Vz lb H G /\ (∀ j, j < H.n -> j ≠ lb -> Yt lv ≠ some j -> G.blk j = H.blk j) /\
      G.blk H.n = .rw 1 [.int .i64 op, .bool neg, va, vd, vx]) := ⟨_, fun _ => Iff.rfl⟩
  have fin : ∀ G3 : AH, T4 none He G3 -> Vz lb XB G3 -> ∃ Mz, YV Tryz.prog G3.top 53 (.pointer (some ⟨XB.n, css.length * 5, none⟩)) (.agg ws.toArray) = some Mz /\ Mz.n = G3.n /\ Mz.lw < G3.n /\
      ∃ H4, YV Tryz.prog (only (low G3 Mz) lb (.rw 1 [lv])) 51 (.pointer (some ⟨lb, 0, none⟩)) (.slice (some ⟨XB.n, 0, none⟩) (css.length + 1) (css.length + 1)) = some H4 /\ H4.blk lb = .rw 1 [.slice (some ⟨XB.n, 0, none⟩) (css.length + 1) (css.length + 1)] /\ H4.lw <= lb /\ H4.n = (low G3 Mz).n /\
        Gd { n := (low G3 Mz).n, lw := min (low G3 Mz).lw H4.lw, t := (low G3 Mz).t.set lb (.rw 1 [.slice (some ⟨XB.n, 0, none⟩) (css.length + 1) (css.length + 1)]) } := fun G3 bt jV => by
    have n3e := bt.n
    have old : ∀ j, j < XB.n -> Yt lv ≠ some j -> G3.blk j = XB.blk j := fun j hj h => (bt.blk j (by omega) (fun e => by cases e)).trans (Rb j hj h)
    have HP : G3.top.blk XB.n = .rw 5 ((css ++ [([.int .i64 0, .bool false, .slice none 0 0, .slice none 0 0, .slice none 0 0] : List Value)]).flatten) := (bt.blk _ (by omega) (fun e => by cases e)).trans (DX.blk_lt rfl).2
    have hflen : ((css ++ [([.int .i64 0, .bool false, .slice none 0 0, .slice none 0 0, .slice none 0 0] : List Value)]).flatten).length = css.length * 5 + 5 := by
      rw [SK (sz := 5) (fun cs hc => by
        rcases List.mem_append.mp hc with h | h
        · exact pY cs h
        · rw [List.mem_singleton.mp h]; rfl)]
      simp; omega
    obtain ⟨Mz, xC, SN, Q6, U2, ka1, lw1⟩ := Wz (H := G3.top) (o := css.length * 5) (v := .agg ws.toArray) (ws := ws) UE HP (by simp [Value.cells]) ox.len (by omega) ox.ones
    rw [cL pY rfl] at SN
    replace Q6 : Mz.n = G3.n := Q6
    have V2 : Mz.lw < G3.n := by rw [lw1]; show min G3.n XB.n < G3.n; omega
    obtain ⟨H3, N2⟩ := hid (low G3 Mz)
    have kb1 : Vz lb XB H3 := by rw [N2]; exact jV.trans ((Tn ka1).weak (by omega))
    have n3 : H3.n = G3.n := by rw [N2]; exact Q6
    have b3 : ∀ j, H3.blk j = Mz.blk j := fun j => by rw [N2]; rfl
    have hol : (only H3 lb (.rw 1 [lv])).blk lb = .rw 1 [lv] := by rw [UH, if_pos rfl]
    obtain ⟨H4, WQ, n4, q4, o4, Ua, jJ⟩ := Ck ry hol rfl (v := .slice (some ⟨XB.n, 0, none⟩) (css.length + 1) (css.length + 1)) (ws := [.slice (some ⟨XB.n, 0, none⟩) (css.length + 1) (css.length + 1)]) rfl rfl rfl
    replace jJ : H4.lw = min H3.n lb := jJ
    refine ⟨Mz, xC, Q6, V2, ?_⟩
    rw [<- N2]
    refine ⟨H4, WQ, q4, by omega, n4, (mz _).2 ?_⟩
    obtain ⟨G4, HT⟩ : ∃ G4 : AH, G4 = { n := H3.n, lw := min H3.lw H4.lw, t := H3.t.set lb (.rw 1 [.slice (some ⟨XB.n, 0, none⟩) (css.length + 1) (css.length + 1)]) } := ⟨_, rfl⟩
    rw [<- HT]
    have cJ : ∀ j, G4.blk j = if j = lb then .rw 1 [.slice (some ⟨XB.n, 0, none⟩) (css.length + 1) (css.length + 1)] else H3.blk j := fun j => by rw [HT]; exact UF H3 lb _ j
    have yU : G4.n = H3.n := by rw [HT]
    have m6 : Vz lb H3 G4 := fun im k hn => ⟨by rw [yU]; exact k.n, by rw [HT]; show min im.lw im.n <= min H3.lw H4.lw; have := k.lw; have := k.n; omega, fun j hj => by rw [cJ, if_neg (by omega)]; exact k.blk j hj⟩
    have QJ : ∀ j, j < XB.n -> Yt lv ≠ some j -> j ≠ lb -> G4.blk j = XB.blk j := fun j hj h h2 => by
      rw [cJ, if_neg h2, b3]
      exact (U2 j (by omega)).trans (old j hj h)
    have qs : ∀ j, j < H2.n -> j ≠ lb -> XB.blk j = H2.blk j := fun j hj h => by
      rw [Wf.blk j (by omega), jg, if_neg h]
    -- the heap with the slice as it was
    obtain ⟨J, hJ⟩ := hid (rev XB lb (.rw 1 [lv]))
    have oC : ∀ j, J.blk j = if j = lb then .rw 1 [lv] else XB.blk j := fun j => by rw [hJ]; exact UF _ _ _ _
    have hJn : J.n = XB.n := by rw [hJ]; rfl
    have tJ : XB.blk lb = .dead := by rw [Wf.blk lb (by omega), jg, if_pos rfl]
    have f4 : Fr J G4 := ⟨by omega, fun j hj => by
      by_cases e : j = lb
      · subst e
        obtain ⟨a, l, c, rfl⟩ := lvsh
        exact .inr (.inr ⟨[.slice a l c], [.slice (some ⟨XB.n, 0, none⟩) (css.length + 1) (css.length + 1)], by rw [oC, if_pos rfl], by rw [cJ, if_pos rfl], rfl, rfl, rfl⟩)
      · by_cases e2 : Yt lv = some j
        · exact .inr (.inl ⟨5, _, by rw [oC, if_neg e]; exact (hLJ.blk_lt e2).2, by decide⟩)
        · exact .inl (by rw [oC, if_neg e]; exact QJ j (by omega) e2 e)⟩
    have kJ : Zj H2 J := ⟨by omega, by
      have h1 := Wf.lw
      have h2 : Hd.lw = H2.lw := by rw [db]; rfl
      have h3 : J.lw = XB.lw := by rw [hJ]; rfl
      omega, fun j hj => by
      rw [oC]
      by_cases e : j = lb
      · rw [if_pos e, e]; exact Gy.symm
      · rw [if_neg e]; exact qs j hj e⟩
    have oxJ : OX J (fun j => Hd.n <= j /\ j < TM.n) ws T := ox2.alive (by omega) fun j hj => by
      by_cases e : j = lb
      · left; rw [e]; exact tJ
      · right; rw [oC, if_neg e]
    have bnew : G4.blk XB.n = .rw 5 ((css ++ [ws]).flatten) := by rw [cJ, if_neg (by omega), b3]; exact SN
    have katH : Vz lb H G4 := fun im k hn => m6 im (kb1 im ((nd im (k.trans k2) hn).trans Wf) hn) hn
    refine ⟨by omega, ⟨by rw [cJ, if_pos rfl], by omega, css ++ [ws], .inr ⟨XB.n, by simp, by omega, bnew, fun cs hc => ?_⟩, by simp [hcL], fun i cs t hc ht => ?_⟩, katH, fun j hj h h2 => ?_, ?_⟩
    · rcases List.mem_append.mp hc with h | h
      · exact pY cs h
      · rw [List.mem_singleton.mp h]; exact ox.len
    · rcases Nat.lt_or_ge i css.length with hi | hi
      · rw [List.getElem?_append_left hi] at hc
        rw [List.getElem?_append_left (by omega)] at ht
        refine (((hO i cs t hc ht).keep kJ).fr f4 fun c S9 hn => ?_).weak fun c S9 => ⟨by omega, S9.2.1, fun e => by cases e; omega⟩
        rw [oC, if_neg S9.2.1]
        exact QJ c (by omega) S9.2.2 S9.2.1
      · rw [List.getElem?_append_right hi] at hc
        have gH : i = css.length := by
          rcases Nat.lt_or_ge css.length i with h | h
          · rw [List.getElem?_eq_none (by simp; omega)] at hc; cases hc
          · omega
        rw [List.getElem?_append_right (by omega), show i - L.length = 0 by omega] at ht
        rw [show i - css.length = 0 by omega] at hc
        cases hc; cases ht
        refine (oxJ.fr f4 fun c S9 hn => ?_).weak fun c S9 => ⟨by omega, by omega, fun e => by cases e; omega⟩
        rw [oC, if_neg (by omega)]
        exact QJ c (by omega) (nvH c (by omega)) (by omega)
    · exact (QJ j (by omega) h2 h).trans ((qs j (by omega) h).trans (k2.blk j hj))
    · exact (QJ _ (by omega) (nvH _ (by omega)) (by omega)).trans ((qs _ (by omega) (by omega)).trans q0)
  have vU := hL.len nO
  have l0 := Xp q0 rfl
  refine Yd 24 Tryz.func77 ?_
  apply Za; intro b1 Zf
  simp [Value.cells, e2]
  subst Zf
  refine Xd (fun s' => s'.k = 24 /\ Gd s'.H /\ s'.tm.get 1 = some (.pointer (some ⟨lb, 0, none⟩)) /\ s'.tm.get 2 = some (.pointer (some ⟨cb, 0, none⟩)) /\ s'.tm.get 3 = some (.pointer (some ⟨H.n, 0, none⟩))) ?_ ?_
  · intro Jt XR
    have lon : Z9 Tryz.prog (only H2 lb (.rw 1 [lv])) 51 (.pointer (some ⟨lb, 0, none⟩)) = some lv := eF (by rw [UH, if_pos rfl])
    refine CJ (fl := 0) (z := 8) (b := lb) (sz := 1) (cs := [lv]) (cs2 := [.slice (some ⟨XB.n, 0, none⟩) (css.length + 1) (css.length + 1)]) (v := lv) (by kernel_rfl) (by kernel_rfl) (by kernel_rfl) rfl rfl Gy ⟨_, false, rfl, by simp [XN], by simp [lon]⟩ ?_
    rw [show ({ n := H2.n, lw := H2.lw, t := H2.t.set lb .dead } : AH) = Hd from db.symm]
    simp
    refine OJ (v := lv) rfl rfl (by kernel_rfl) ?_
    simp
    refine Z7 (v := .agg #[.int .i64 op, .bool neg, va, vd, vx]) rfl rfl rfl (by rw [Z1 rfl]; simp [Xp (H := AH.top Hd) q0da rfl]) ?_
    simp
    have Ma0 : VI Hd.n [] [] := VI.nil Hd.n
    skip
    refine XL (v := .agg ws.toArray) (VI.nil Hd.n) XK WE (by simp [PT]) fun KP PK => ?_
    simp [vU]
    have nV : ∀ b m, (PM TM b m).n = TM.n := fun _ _ => rfl
    have nV2 : ∀ b m z, ((PM TM b m).new 5 z).n = CM.n := fun _ _ _ => nv.symm ▸ rfl
    refine YJ (v := .slice (some ⟨TM.n, 0, none⟩) 1 1) (H2 := (PM TM _ _).new 5 [.int .i64 0, .bool false, .slice none 0 0, .slice none 0 0, .slice none 0 0]) rfl rfl rfl (by simp [oZ, nV]; rfl) (by rw [nV2]; omega) (Nat.le_refl _) ?_
    rw [Dx (H := TM) (V := PM TM _ _) rfl, Jj, <- U3, nV2]
    have PU := PK.cons (i := 4) (a := TM.n) (b := CM.n) (by omega)
    generalize cond (Nat.blt TM.n CM.n) _ _ = Gb at PU
    simp
    have Qm := tw (b := XB.n) (m := css.length + 1) (cap := css.length + 1) (i := css.length) (by omega)
    cases HM : Yt lv with
    | none =>
      refine YJ (v := .slice (some ⟨XB.n, 0, none⟩) (css.length + 1) (css.length + 1)) (H2 := He) rfl rfl rfl ?_ (by omega) (by rw [(Pn HM).2]; exact Nat.le_refl _) ?_
      · rw [Z1 (PU.hid (by kernel_rfl))]
        simp [N4]
      obtain ⟨Mz, xC, Q6, V2, H4, WQ, g1, g2, g3, Wq⟩ := fin (grown XB He) (Yz (Pn HM).1) ((Yo (.refl _) (Pn HM).1).kat _)
      have Gt := PU.cons (i := 5) (a := XB.n) (b := He.n) (by omega)
      generalize cond (Nat.blt XB.n He.n) _ _ = A2 at Gt
      simp [Qm]
      refine YO (v := .tuple #[]) (H2 := Mz) rfl rfl (by kernel_rfl) (Gt.hid (by kernel_rfl)) ?_ (by rw [Q6]; exact Nat.le_refl _) V2 ?_
      · show ZF _ _ _ _ (grown XB He).top _ = _
        simp [xC]
      rw [show ({ n := Mz.n, lw := min (grown XB He).lw Mz.lw, t := Mz.t } : AH) = low (grown XB He) Mz from rfl]
      simp
      refine OJ (v := .tuple #[]) rfl rfl (by kernel_rfl) ?_
      simp
      refine ⟨H4, by rw [WQ], g1, g2, g3, ?_⟩
      apply XR
      exact ⟨rfl, Wq, by simp, by simp, by simp⟩
    | some b =>
      have Zf := FX b HM
      have ZT : b < XB.n := Zf.2.2
      refine YO (v := .slice (some ⟨XB.n, 0, none⟩) (css.length + 1) (css.length + 1)) (H2 := He) rfl rfl (by kernel_rfl) (PU.hid (by kernel_rfl)) ?_ (by omega) (by have h3 := Zf.2.1; omega) ?_
      · show ZF _ _ _ _ XB.top _ = _
        simp [N4]
      obtain ⟨Mz, xC, Q6, V2, H4, WQ, g1, g2, g3, Wq⟩ := fin (low XB He) (Nn XB He) (Tn (Zf.1.weak (hlv b HM)))
      have Gt := PU.cons (i := 5) (a := XB.n) (b := He.n) (by omega)
      generalize cond (Nat.blt XB.n He.n) _ _ = A2 at Gt
      rw [show ({ n := He.n, lw := min XB.lw He.lw, t := He.t } : AH) = low XB He from rfl]
      simp [Qm]
      refine YO (v := .tuple #[]) (H2 := Mz) rfl rfl (by kernel_rfl) (Gt.hid (by kernel_rfl)) ?_ (by rw [Q6]; exact Nat.le_refl _) V2 ?_
      · show ZF _ _ _ _ (low XB He).top _ = _
        simp [xC]
      rw [show ({ n := Mz.n, lw := min (low XB He).lw Mz.lw, t := Mz.t } : AH) = low (low XB He) Mz from rfl]
      simp
      refine OJ (v := .tuple #[]) rfl rfl (by kernel_rfl) ?_
      simp
      refine ⟨H4, by rw [WQ], g1, g2, g3, ?_⟩
      apply XR
      exact ⟨rfl, Wq, by simp, by simp, by simp⟩
  rintro ⟨k, tm, Hb⟩ ⟨hk, hG, u1, u2, u3⟩
  simp only at hk hG u1 u2 u3
  subst hk
  obtain ⟨nb, hPb, kab, frb, q0⟩ := (mz _).1 hG
  apply Za; intro b1 Zf
  simp [u3, W7, TR q0, Mb]
  subst Zf
  apply ZR
  refine YS (fun n s' => s'.k = 24 /\ ∃ (i : Nat) (lw : Value), n + i = len /\ H.n + 1 <= s'.H.n /\ OH s'.H lb lw (L ++ [T] ++ WZ (args.take i)) /\ (∀ b, Yt lw = some b -> H.n + 1 <= b) /\ Vz lb H s'.H /\ (∀ j, j < H.n -> j ≠ lb -> Yt lv ≠ some j -> s'.H.blk j = H.blk j) /\
      s'.tm.get 1 = some (.pointer (some ⟨lb, 0, none⟩)) /\ s'.tm.get 2 = some (.pointer (some ⟨cb, 0, none⟩)) /\ s'.tm.get 14 = some vx /\ s'.tm.get 15 = some (.int .i64 (len : Int)) /\ s'.tm.get 16 = some (.int .i64 (i : Int))) ?_ len _
    ⟨rfl, 0, .slice (some ⟨XB.n, 0, none⟩) (css.length + 1) (css.length + 1), by omega, nb, by simpa [WZ] using hPb, (fun b hb => by cases hb; omega), kab, frb, by simp [u1], by simp [u2], by simp, by simp, by simp⟩
  clear hG hPb kab frb nb q0 u1 u2 u3 fin mz
  rintro n' ⟨k, tm, Hc⟩ ⟨hk, i, lw, mO, nc, uS, Nh, DB, aG, u1, u2, BI, yg, u16⟩ Q' YA
  simp only at hk nc uS DB aG u1 u2 BI yg u16
  subst hk
  have jU : Zj H0 Hc := DB H0 k0 N5
  apply Za; intro b3 Z4
  simp [yg, u16, KS]
  subst Z4
  apply Zi; intro b3 Z4
  by_cases hi : i < len
  · refine Zb (t := true) (by simp [hi]) ?_
    apply Zr
    subst Z4
    obtain ⟨ti, RV⟩ : ∃ ti, args[i]? = some ti := ⟨args[i]'(by omega), List.getElem?_eq_getElem (by omega)⟩
    have mM := Tp RV
    have mG := Q7 (args.take i)
    obtain ⟨pp, us, Qm, Ku, Lc⟩ := h3.at RV
    have Y1 := Ku Hc jU
    obtain ⟨H4, WQ, k4, q8, n4⟩ := Lm (H := Hc) Lc.len Lc.ones
    have l8 := Xp q8 Lc.len
    have uD : H4.blk cb = .rw 1 [Mv lb cb] := (k4.blk _ (by omega)).trans ((aG cb hcn W9 nvc).trans uE)
    have hP4 := uS.keep k4
    obtain ⟨x, lv5, H5, c5, n5, hP5, hlv5, UK, cK⟩ := ih ti (by omega) H0 H4 us lb cb _ lw Lc (VK wx RV) (Uu jh RV) (jU.trans k4) N5 uD (by omega) W9 hP4 (fun b hb => by have := Nh b hb; omega) (by rw [List.length_append, List.length_append, mG]; simp; omega)
    have lF := eL uD
    unfold Mv at lF
    apply Zi; intro b3 Z4
    apply ZR
    apply Za; intro b4 Yy
    simp [BI, u16, Qm, Y1, Vj, Value.cells, WQ]
    subst Yy
    apply Zl
    simp [u2, lF, l8, c5]
    simp [Yv]
    subst Z4
    apply Zl
    simp [u16, TL (x := i) (by omega)]
    apply YA
    refine ⟨n' - 1, by omega, rfl, i + 1, lv5, by omega, by show H.n + 1 <= H5.n; omega, ?_, (fun b hb => by have := hlv5 b hb; omega), (DB.trans (k4.kat lb)).trans UK, fun j hj h h2 => ?_, by simp [u1], by simp [u2], by simp [BI], by simp [yg], by simp⟩
    · rw [Gr RV, <- List.append_assoc]; exact hP5
    · rw [cK j (by omega) h (fun e => by have := Nh j e; omega), k4.blk j (by omega)]
      exact aG j hj h h2
  · refine Zb (t := false) (by simp [hi]) ?_
    apply YN
    apply YA
    left
    refine ⟨rfl, ?_⟩
    clear YA
    obtain rfl : i = len := by omega
    rw [List.take_of_length_le (by omega)] at uS
    simp
    refine (aD _).2 ⟨lw, by omega, ?_, fun b hb => by have := Nh b hb; omega, DB, aG⟩
    simp only [ET.subs, <- hT]
    rw [List.append_assoc] at uS
    exact uS
end
end
def ET.op:ET->Int| .node op _ _ _ _=>op
theorem QP{t:ET}(h:X4 t=0):t.allGood=true/\t.nodes<=4000:=by
 unfold X4 at h;split at h;·cases h
 ·split at h;·cases h
  ·rename_i h1 h2;exact⟨by simpa using h1,by omega⟩
theorem zXsl:W0 Tryz.prog 51=some (.slice none 0 0):=by kernel_rfl
theorem zFnX:W0 Tryz.prog 135=some .nilFunc:=by kernel_rfl
theorem sFnX:Xh Tryz.prog 135=some 1:=by kernel_rfl
section
attribute [-simp] Int.natCast_add Int.natCast_mul Int.natCast_ediv Int.natCast_emod Int.natCast_pow
attribute [local simp] strip ZQ Xj LR gW ZF Ya ZX Yb ZJ Yc Zs Zt Zg ZI Z5 ZN ZB Zk ZH Zh Ze ZC ZD YW Zo Z6 YF Yw ZK plain ZM Tr.get_set Yu Zp Yq ZV sameKind undef Zv ZG Z3 Zu ZW parts Xw DW Yf Zw LX Zz
attribute [local simp] Zn ZL ZS Rf
section
variable {H : AH} {vs : List Value} {t : ET}
theorem Kg(h:TY H vs t)(hc:X4 t=0): ∃lv css H',ZU Tryz.prog ZY 45 [.agg vs.toArray] H=some (.tuple #[lv,.int .i64 0],H')/\Zj H H'/\UB 5 H' lv css/\css.length=t.nodes/\(∀(i:Nat)(cs:List Value)(u:ET),css[i]?=some cs->t.subs[i]?=some u->Ex H' cs u):=by
 obtain⟨Po,aD⟩: ∃Po:Value->AH->Prop,∀x H',Po x H'↔ ∃lv css,x= .tuple #[lv,.int .i64 0]/\Zj H H'/\UB 5 H' lv css/\css.length=t.nodes/\(∀(i:Nat)(cs:List Value)(u:ET),css[i]?=some cs->t.subs[i]?=some u->Ex H' cs u):=⟨_,fun _ _=>Iff.rfl⟩;suffices hs:CW Tryz.prog ZY 45 [.agg vs.toArray] H Po by obtain⟨x,H',hc,hh⟩:=hs;obtain⟨lv,css,rfl,hr⟩:=(aD _ _).1 hh;exact⟨lv,css,H',hc,hr⟩
 have hl:=h.ex.len;have hg:=(QP hc).1;have hnn:=(QP hc).2;obtain⟨H2,e2,k2,n2,q0⟩:=Wc H vs;have K:=k2;have z0:=q0;obtain⟨H3,c3,k3⟩:=Oj (h.keep K);have n3:=k3.n;have K:=K.trans k3;replace q0:=k3.q q0;rw[hc]at c3;replace c3:ZU Tryz.prog ZY 28 [.agg vs.toArray] H2=some (.int .i64 0,H3):=c3;obtain⟨H4,iF⟩: ∃H4,H3.new 1 [.slice none 0 0]=H4:=⟨_,rfl⟩;have k4:Zj H3 H4:=by rw[<-iF];exact Zj.new _ _ _
 have n4:H4.n=H3.n+1:=by rw[<-iF];rfl
 have q4:H4.blk H3.n= .rw 1 [.slice none 0 0]:=by rw[<-iF,AH.blk_new,if_pos rfl]
 obtain⟨H5,yO⟩: ∃H5,H4.new 1 [.nilFunc]=H5:=⟨_,rfl⟩;have k5:Zj H4 H5:=by rw[<-yO];exact Zj.new _ _ _
 have n5:H5.n=H4.n+1:=by rw[<-yO];rfl
 have q5:H5.blk H4.n= .rw 1 [.nilFunc]:=by rw[<-yO,AH.blk_new,if_pos rfl]
 obtain⟨H6,Vt,n6,q6,f6,Ub⟩:=TQ sFnX q5 rfl (v:=Mv H3.n H4.n) (ws:=[Mv H3.n H4.n]) rfl rfl rfl;have k36:Zj H3 H6:=Ub H3 (k4.trans k5) (by omega);have rj:H6.blk H3.n= .rw 1 [.slice none 0 0]:=(f6 _ (by omega)).trans (k5.q q4);have z6:=k36.q q0;obtain⟨x,lv,H7,c7,n7,hP7,_,Mg,fr7⟩:=gf _ t (Nat.le_refl _) H3 H6 vs H3.n H4.n [] (.slice none 0 0) (h.ex.keep K) h.wide hg k36 (Nat.le_refl _) q6 (by omega) (by omega) ⟨rj,by omega,[],.nil,rfl,fun i cs t hi=>by simp at hi⟩ (fun b hb=>by cases hb) (by simp;omega);rw[List.nil_append]at hP7;obtain⟨q7,_,css,hL,W9,hO⟩:=hP7;have K7:Zj H H7:=(K.trans (Mg H3 k36 (Nat.le_refl _)));have lF:=eL q6;unfold Mv at lF Vt;refine Yd 17 Tryz.func45 ?_;apply Za;intro b1 Zf;simp[Value.cells,e2];subst Zf;apply Zi;intro b1 Zf;apply Za;intro b2 ZT;simp[Xp z0 hl,c3];subst ZT;apply Za;intro b2 ZT;simp[TH];subst ZT;refine Zb (t:=false) (by simp) ?_;apply Zr;subst Zf;apply Za;intro b1 Zf;simp[zXsl,Value.cells,iF];subst Zf;apply Za;intro b1 Zf;simp[zFnX,Value.cells,yO];subst Zf;apply Za;intro b1 Zf;simp[Vt];subst Zf;apply Za;intro b1 Zf;simp[lF,Xp z6 hl,c7];subst Zf;apply Za;intro b1 Zf;simp[eF q7];subst Zf;apply ZZ;simp;refine(aD _ _).2 ⟨lv,css,rfl,K7,hL,by rw[W9,Jb],fun i cs u hi hu=>(hO i cs u hi hu).ex⟩
end
end
section
attribute [-simp] Int.natCast_add Int.natCast_mul Int.natCast_ediv Int.natCast_emod Int.natCast_pow
attribute [local simp] strip ZQ Xj LR gW ZF Ya ZX Yb ZJ Yc Zs Zt Zg ZI Z5 ZN ZB Zk ZH Zh Ze ZC ZD YW Zo Z6 YF Yw ZK plain ZM Tr.get_set Yu Zp Yq ZV sameKind undef Zv ZG Z3 Zu ZA Yh ZW parts ZE Xw DW Yf Zw LX Zz Zn ZL ZS Xt Yg Zm ZP Zy ZO
theorem wD(A:Nat):(ds Yk A).length<=Zq A:=by have h1:A<2^Zq A:=Ww A;have h2:2^Zq A<=Yk^(Zq A):=Nat.pow_le_pow_left (by decide) _;exact XI two32 (Nat.lt_of_lt_of_le h1 h2)
theorem Iv{A:Nat}(h:Zq A<=1000000000):(ds Yk A).length<=WJ:=by have:=wD A;show(ds Yk A).length<=2000000000000;omega
section
variable {H : AH} {u v w z : Value}
end
section
variable {H : AH} {u v w z : Value}
theorem K5{s:Bool}{A B:Nat}(ha:Sl H u (ds Yk A))(hb:Sl H v (ds Yk B))(lA:Zq A<=67108864)(lB:Zq B<=67108864): ∃H',ZU Tryz.prog ZY 117 [.agg #[.bool s,u,v]] H=some (.agg #[.int .i64 1,.bool s,u,v],H')/\Zj H H':=by
 suffices h:CW Tryz.prog ZY 117 [.agg #[.bool s,u,v]] H fun x H'=>x= .agg #[.int .i64 1,.bool s,u,v]/\Zj H H' by obtain⟨x,H',hc,rfl,k⟩:=h;exact⟨H',hc,k⟩
 obtain⟨H2,e2,k2,n2,q0,q1⟩:=Xb H [.bool s,u,v] [.int .i64 0,.bool false,.slice none 0 0,.slice none 0 0];have c1:=MC (ha.keep k2) (Nat.le_trans (Iv (by omega)) (by decide));have c2:=MC (hb.keep k2) (Nat.le_trans (Iv (by omega)) (by decide));obtain⟨L1,Aw⟩:=hid (Zq A);obtain⟨L2,Lw⟩:=hid (Zq B);rw[<-Aw]at c1 lA;rw[<-Lw]at c2 lB;have g1:Zd .gtr .i64 (L1:Int) 67108864=some (.bool false):=by rw[QO,decide_eq_false (by omega)]
 have g2:Zd .gtr .i64 (L2:Int) 67108864=some (.bool false):=by rw[QO,decide_eq_false (by omega)]
 have eh:U7 (.bool s) u v:=⟨⟨_,rfl⟩,ha.shape,hb.shape⟩;obtain⟨H3,Sc,n3,q3,b3,Ll⟩:=TQ zG q1 rfl (v:= .agg #[.int .i64 1,.bool s,u,v]) (ws:=[.int .i64 1,.bool s,u,v]) rfl rfl (by obtain⟨_,_,_,rfl⟩:=ha.shape;obtain⟨_,_,_,rfl⟩:=hb.shape;rfl);have k3:Zj H H3:=Ll H k2 (by omega);have Y1:=qX q3;refine Yd 16 Tryz.func117 ?_;apply Za;intro b1 Zf;simp[Value.cells,zRF,XV,e2];subst Zf;apply Zi;intro b1 Zf;apply Za;intro b2 ZT;simp[iM,iL,HF q0,HE q0,c1,c2,g1,g2];subst ZT;refine Zb (t:=false) (by simp) ?_;apply Zr;subst Zf;apply Za;intro b1 Zf;simp[FF q0,tU eh,Sc];subst Zf;apply ZZ;simp[Y1];exact k3
end
def Pp(U:List Value)(n:Nat)(v:Value):Prop:= ∀c,Yt v=some c->n<=c\/ ∃u∈U,Yt u=some c
theorem Pp.nil{U:List Value}{n:Nat} :Pp U n (.slice none 0 0):=fun c hc=>by cases hc
theorem Pp.arg{U:List Value}{n:Nat}{v:Value}(h:v∈U):Pp U n v:=fun c hc=> .inr ⟨v,h,hc⟩
theorem Pp.up{U U':List Value}{n m:Nat}{v:Value}(h:Pp U m v)(hn:n<=m)(hU: ∀u∈U,Pp U' n u):Pp U' n v:=fun c hc=>by
 rcases h c hc with h|⟨u,hu,e⟩;·exact .inl (Nat.le_trans hn h)
 ·exact hU u hu c e
theorem Ym.pp{U:List Value}{n m:Nat}{H:AH}{v:Value}{xs:List Nat}(h:Ym m H v xs)(hn:n<=m):Pp U n v:=fun c hc=> .inl (Nat.le_trans hn (h.blk_lo hc).1)
theorem Pp.le{U:List Value}{n m:Nat}{v:Value}(h:Pp [] m v)(hn:n<=m):Pp U n v:=h.up hn fun u hu=>by cases hu
def Pv(U:List Value)(n:Nat)(vs:List Value):Prop:= ∀v∈vs,Pp U n v
theorem Pv.mk{U:List Value}{n:Nat}{k:IntKind}{x:Int}{s:Bool}{p q:Value}(hp:Pp U n p:=by first|exact .nil|(apply Pp.arg;simp;done)|(apply Ym.pp;assumption;omega)|(apply Pp.le;assumption;omega))(hq:Pp U n q:=by first|exact .nil|(apply Pp.arg;simp;done)|(apply Ym.pp;assumption;omega)|(apply Pp.le;assumption;omega)):Pv U n [.int k x,.bool s,p,q]:=by
 intro v hv;simp at hv;rcases hv with rfl|rfl|rfl|rfl;·intro c hc;cases hc
 ·intro c hc;cases hc
 ·exact hp
 ·exact hq
theorem Pv.up{U U':List Value}{n m:Nat}{vs:List Value}(h:Pv U m vs)(hn:n<=m)(hU: ∀u∈U,Pp U' n u):Pv U' n vs:=fun v hv=>(h v hv).up hn hU
theorem re{H:AH}{b:Nat}{k' p' q' r':Value}{vs:List Value}{f:FD}(hb:H.blk b= .rw 1 [k',p',q',r'])(hn:noU [k',p',q',r']=true)(h:SB H vs f): ∃H',YV Tryz.prog H 77 (.pointer (some ⟨b,0,none⟩)) (.agg vs.toArray)=some H'/\H'.n=H.n/\H'.blk b= .rw 1 vs/\(∀j,j≠b->H'.blk j=H.blk j)/\Vz b H H'/\SB H' vs f:=by obtain⟨H',st,n1,q1,o,ka⟩:=TQ zG hb rfl (v:= .agg vs.toArray) (ws:=vs) (by simp[Value.cells]) h.len h.ones;exact⟨H',st,n1,q1,o,ka,h.fr (Fr.put hb q1 n1 o h.len.symm hn h.noU)⟩
theorem jN{H:AH}{b:Nat}{vs:List Value}(hb:H.blk b= .rw 1 vs)(hl:vs.length=4):Z9 Tryz.prog H 77 (.pointer (some ⟨b,0,none⟩))=some (.agg vs.toArray):=Tm hb (by decide) (by rw[List.drop_zero,List.take_of_length_le (by omega)]) hl aRF zG
section
variable {H : AH} {u v w z : Value}
end
def RFIs(U:List Value)(H:AH)(f:FD)(x:Value)(H':AH):Prop:=Zj H H'/\ ∃vs:List Value,x= .agg vs.toArray/\SB H' vs f/\Pv U H.n vs
section
variable {H : AH} {u v w z : Value}
theorem two_mul{s t:Bool}{A B C D:Nat}(ha:Sl H u (ds Yk A))(hb:Sl H v (ds Yk B))(hc:Sl H w (ds Yk C))(hd:Sl H z (ds Yk D))(low:Sd s A B)(AB:Sd t C D)(hw:(FD.rat s A B).w+(FD.rat t C D).w<=67108864):CW Tryz.prog ZY 119 [.int .i64 5,.agg #[.bool s,u,v],.agg #[.bool t,w,z]] H (RFIs [u,v,w,z] H (NS 5 s A B t C D)):=by
 obtain⟨y1,y2,y3,y4,y5,y6,y7,y8,y9⟩:=Ms hw;have MP:=(Je (op:=5) low AB).2;obtain⟨H2,e2,k2,n2,q0,q1,q2⟩:=S5 H [.bool s,u,v] [.bool t,w,z] [.int .i64 0,.bool false,.slice none 0 0,.slice none 0 0];have q0z:=q0;have q1z:=q1;have K:=k2;refine Yd 43 Tryz.func119 ?_;apply Za;intro b1 Zf;simp[Value.cells,zRF,XV,e2];subst Zf;apply Zi;intro b1 Zf;apply Za;intro b2 ZT;simp;subst ZT;apply ZR;apply Za;intro b2 ZT;simp[show Zd .eql .i64 5 3=some (.bool false)from rfl];subst ZT;refine Zb (t:=false) (by simp) ?_;apply Za;intro b2 ZT;simp[show Zd .eql .i64 5 4=some (.bool false)from rfl];subst ZT;refine Zb (t:=false) (by simp) ?_;apply Za;intro b2 ZT;simp[show Zd .eql .i64 5 5=some (.bool true)from rfl];subst ZT;refine Zb (t:=true) (by simp) ?_;have Md:NS 5 s A B t C D= .mk (Z8 (s !=t) (A*C) (B*D)):=rfl;rw[Md]at MP⊢;obtain⟨R,hR⟩:=hid (Z8 (s !=t) (A*C) (B*D));rw[<-hR]at MP⊢;obtain⟨us,H3,c3,k3,p1,p2,rfl,o1,o2⟩:=Gk s t (ha.keep K) (hb.keep K) (hc.keep K) (hd.keep K) (Iv (by omega)) (Iv (by omega)) (Iv (by omega)) (Iv (by omega)) low.2 AB.2;have n3:=k3.n;have K:=K.trans k3;replace q2:=k3.q q2;rw[<-hR]at c3 o1 o2;obtain⟨S,N,E⟩:=R;simp only at c3 o1 o2;have N9:max (Zq N) (Zq E)+1<=67108864:=Nat.le_trans MP hw;obtain⟨H4,c4,k4⟩:=K5 (s:=S) o1.sl o2.sl (by omega) (by omega);have n4:=k4.n;have K:=K.trans k4;replace q2:=k4.q q2;have hF:SB H4 [.int .i64 1,.bool S,p1,p2] (.mk (S,N,E)):=⟨_,_,rfl,o1.sl.keep k4,o2.sl.keep k4⟩;obtain⟨H5,Ui,n5,q2,b5,UK,hF⟩:=re q2 rfl hF;have K:=UK _ K (by omega);have Y1:=jN q2 rfl;try simp at Ui Y1
 apply Za;intro b2 ZT;simp[FF q0z,FF q1z,c3,c4,Ui];subst ZT;apply ZZ;simp[YQ,Yv,Y1];exact⟨K,_,rfl,hF,.mk⟩
end
def SA(H:AH):List (List Value)->List FD->Prop|[],[]=>True|c::cs,f::fs=>SB H c f/\SA H cs fs|_,_=>False
section
variable {H H' : AH} {vs : List Value} {f : FD}
theorem SA.fr(k:Fr H H'): ∀{css:List (List Value)}{fs:List FD},SA H css fs->SA H' css fs|[],[],_=>trivial|c::cs,f::fs,h=>⟨SB.fr h.1 k,SA.fr k h.2⟩|[],_::_,h=>h.elim|_::_,[],h=>h.elim
theorem SA.append: ∀{css ds:List (List Value)}{fs gs:List FD},SA H css fs->SA H ds gs->SA H (css++ds) (fs++gs)|[],ds,[],gs,_,h2=>h2|c::cs,ds,g::fs,gs,h,h2=>⟨h.1,SA.append h.2 h2⟩|[],_,_::_,_,h,_=>h.elim|_::_,_,[],_,h,_=>h.elim
theorem SA.len: ∀{css:List (List Value)}{fs:List FD},SA H css fs->css.length=fs.length|[],[],_=>rfl|c::cs,f::fs,h=>by rw[List.length_cons,List.length_cons,SA.len h.2]|[],_::_,h=>h.elim|_::_,[],h=>h.elim
theorem SA.get: ∀{css:List (List Value)}{fs:List FD}{i:Nat}{c:List Value},SA H css fs->css[i]?=some c-> ∃f,fs[i]?=some f/\SB H c f|[],[],i,f,_,hi=>by simp at hi|c::cs,g::fs,0,f,h,hi=>by simp at hi;subst hi;exact⟨g,rfl,h.1⟩|c::cs,g::fs,i+1,f,h,hi=>by simp at hi;obtain⟨vs,h1,h2⟩:=SA.get h.2 hi;exact⟨vs,by simpa using h1,h2⟩|[],_::_,i,f,h,_=>h.elim|_::_,[],i,f,h,_=>h.elim
end
theorem HL(g:FD):Zd .eql .i64 g.kind 1=some (.bool g.isRat):=by cases g<;>rfl
section
variable {H : AH} {u v w z : Value}
end
theorem SA.ones{H:AH} : ∀{css:List (List Value)}{fs:List FD},SA H css fs->css.flatten.all one=true|[],[],_=>rfl|c::cs,f::fs,h=>by rw[List.flatten_cons,List.all_append,SB.ones h.1,SA.ones h.2];rfl|[],_::_,h=>h.elim|_::_,[],h=>h.elim
def s7(Q:Nat->Prop)(n:Nat)(css:List (List Value)):Prop:= ∀cs∈css,∀v∈cs,∀b,Yt v=some b->Q b\/n<=b
theorem s7.nil{Q:Nat->Prop}{n:Nat} :s7 Q n []:=fun cs h=>by cases h
theorem s7.one{Q:Nat->Prop}{n:Nat}{css:List (List Value)}(h:s7 Q n css){c:List Value}(hc:c∈css):s7 Q n [c]:=fun cs Tk=>h cs (by rw[List.mem_singleton.mp Tk];exact hc)
theorem SA.one{H:AH}{c:List Value}{f:FD}(h:SB H c f):SA H [c] [f]:=⟨h,trivial⟩
section
variable {H : AH} {u v w z : Value}
end
section
variable {H : AH} {vs : List Value} {t : ET}
end
def OW(op:Int):FD->List RT->RT| .rat s A B,_=> .node 0 s A B false []|_,l=> .node op false 0 0 false l
mutual def ET.red:ET->RT| .node op neg abs den args=>OW op (ET.node op neg abs den args).fold (Xg args) def Xg:List ET->List RT|[]=>[]|t::ts=>t.red::Xg ts end
theorem UG(op:Int)(neg:Bool)(abs den:List Nat)(args:List ET):(ET.node op neg abs den args).red=OW op (ET.node op neg abs den args).fold (Xg args):=by simp only[ET.red]
theorem OY(l:List ET):Xg l=l.map ET.red:=by induction l with|nil=>rfl|cons x xs ih=>simp[Xg,ih]
theorem K0(l:List ET):(Xg l).length=l.length:=by rw[OY];simp
theorem Ek{args:List ET}{i:Nat}{t:ET}(h:args[i]?=some t):Xg (args.take (i+1))=Xg (args.take i)++[t.red]:=by rw[OY,OY,List.take_add_one,h,List.map_append];rfl
theorem Co{op:Int}{f:FD}{l:List RT}(h:f.isRat=false):OW op f l= .node op false 0 0 false l:=by cases f<;>first|rfl|cases h
theorem aw: ∀n(t:ET),t.nodes<=n->t.red.nodes<=t.nodes:=by intro n;induction n with
 |zero=>intro t h;have:=Xn t;omega
 |succ n ih=>
  intro t h;obtain⟨op,neg,abs,den,args⟩:=t;rw[UG];simp only[ET.nodes]at h⊢;have key: ∀l:List ET,Z0 l<=n->WC (Xg l)<=Z0 l:=by intro l;induction l with|nil=>intro _;simp[Xg,WC]|cons x xs jv=>intro hl;simp only[Z0]at hl;simp only[Xg,WC,Z0];have h1:=ih x (by omega);have h2:=jv (by omega);omega
  have hk:=key args (by omega);generalize(ET.node op neg abs den args).fold=f;cases f with|rat s A B=>simp only[OW,RT.nodes,WC];omega|opn=>simp only[OW,RT.nodes];omega|und=>simp only[OW,RT.nodes];omega
mutual def RT.neat:RT->Prop| .node op s N D _ args=>(op≠0->s=false/\N=0/\D=0)/\Zq N<=67108864/\Zq D<=67108864/\Lz args def Lz:List RT->Prop|[]=>True|t::ts=>t.neat/\Lz ts end
theorem F6{xs:List RT}(h:Lz xs){i:Nat}{t:RT}(hi:xs[i]?=some t):t.neat:=by induction xs generalizing i with
 |nil=>simp at hi
 |cons x xs ih=>cases i with|zero=>simp at hi;subst hi;exact h.1|succ i=>simp at hi;exact ih h.2 hi
theorem fO: ∀n(t:ET),t.nodes<=n->t.allGood=true->t.wide 1048576->t.wt<=67108864->t.red.neat:=by intro n;induction n with
 |zero=>intro t h;have:=Xn t;omega
 |succ n ih=>
  intro t h hg hw FN;have N9:=FD.fit_of (Nat.le_trans (O9 _ t (Nat.le_refl _) hg hw).2 FN);obtain⟨op,neg,abs,den,args⟩:=t;rw[UG];obtain⟨_,_,_,_,ws⟩:=hw;simp only[ET.nodes]at h;simp only[ET.allGood,Bool.and_eq_true]at hg;simp only[ET.wt]at FN;have key: ∀l:List ET,Z0 l<=n->XZ l=true->UC 1048576 l->Vy l<=67108864->Lz (Xg l):=by intro l;induction l with|nil=>intro _ _ _ _;trivial|cons x xs jv=>intro hl hg hw FN;simp only[Z0]at hl;simp only[XZ,Bool.and_eq_true]at hg;simp only[Vy]at FN;exact⟨ih x (by omega) hg.1 hw.1 (by omega),jv (by omega) hg.2 hw.2 (by omega)⟩
  have hk:=key args (by omega) hg.2 ws (by omega);obtain⟨f,hf⟩:=hid ((ET.node op neg abs den args).fold);rw[<-hf]at N9⊢;have h0:Zq 0<=67108864:=Nat.zero_le _;cases f with|rat s A B=>exact⟨fun e=>absurd rfl e,N9.1,N9.2,trivial⟩|opn=>exact⟨fun _=>⟨rfl,rfl,rfl⟩,h0,h0,hk⟩|und=>exact⟨fun _=>⟨rfl,rfl,rfl⟩,h0,h0,hk⟩
def rdB(r:Bool):Nat:=if r then Yk else Zc
def fR(r:Bool):Nat:=if r then 6 else 5
def zH(r:Bool)(op:Int)(neg:Bool)(vn vd:Value)(bad:Bool)(vx:Value):List Value:=if r then[.int .i64 op,.bool neg,vn,vd,.bool bad,vx]else[.int .i64 op,.bool neg,vn,vd,vx]
theorem fQ(r:Bool):fR r≠0:=by cases r<;>decide
theorem kl(r:Bool)(op:Int)(neg:Bool)(vn vd:Value)(bad:Bool)(vx:Value):(zH r op neg vn vd bad vx).length=fR r:=by cases r<;>rfl
mutual inductive Rd(r:Bool)(Q:Nat->Prop)(H:AH):List Value->RT->Prop|mk{op:Int}{neg bad:Bool}{vn vd vx:Value}{N D:Nat}{args:List RT} :Sl H vn (ds (rdB r) N)->Sl H vd (ds (rdB r) D)->Dc r Q H vx args->Rd r Q H (zH r op neg vn vd bad vx) (.node op neg N D bad args) inductive Dc(r:Bool)(Q:Nat->Prop)(H:AH):Value->List RT->Prop|nil:Dc r Q H (.slice none 0 0) []|mk(b:Nat){css:List (List Value)}{args:List RT} :Q b->b<H.n->H.blk b= .rw (fR r) css.flatten->css.length=args.length->(∀cs∈css,cs.length=fR r)->(∀(i:Nat)(cs:List Value)(t:RT),css[i]?=some cs->args[i]?=some t->Rd r Q H cs t)->Dc r Q H (.slice (some ⟨b,0,none⟩) args.length args.length) args end
theorem xJ{r:Bool}{Q Q':Nat->Prop}{H H':AH}(f:Fr H H')(hQ: ∀j,j<H.n->(∃cs,H.blk j= .rw (fR r) cs)->Q j->H'.blk j=H.blk j/\Q' j): ∀n(t:RT),t.nodes<=n-> ∀vs,Rd r Q H vs t->Rd r Q' H' vs t:=by intro n;induction n with
 |zero=>intro t h;have:=Tg t;omega
 |succ n ih=>intro t h vs hx;cases hx with
  |mk h1 h2 h3=>simp only[RT.nodes]at h;refine .mk (h1.fr f) (h2.fr f) ?_;cases h3 with|nil=>exact .nil|mk b hq hb hc hl hz hf=>rename_i css;have e:=hQ b hb ⟨_,hc⟩ hq;refine .mk b (css:=css) e.2 (Nat.lt_of_lt_of_le hb f.1) (e.1.trans hc) hl hz fun i cs t hi ht=>?_;have:=V7 ht;exact ih t (by omega) _ (hf i cs t hi ht)
theorem Rd.fr{r:Bool}{Q Q':Nat->Prop}{H H':AH}{vs:List Value}{t:RT}(h:Rd r Q H vs t)(f:Fr H H')(hQ: ∀j,j<H.n->(∃cs,H.blk j= .rw (fR r) cs)->Q j->H'.blk j=H.blk j/\Q' j):Rd r Q' H' vs t:=xJ f hQ _ t (Nat.le_refl _) vs h
theorem Rd.keep{r:Bool}{Q:Nat->Prop}{H H':AH}{vs:List Value}{t:RT}(h:Rd r Q H vs t)(k:Zj H H'):Rd r Q H' vs t:=h.fr k.fr fun j hj _ hq=>⟨k.blk j hj,hq⟩
theorem Rd.len{r:Bool}{Q:Nat->Prop}{H:AH}{vs:List Value}{t:RT}(h:Rd r Q H vs t):vs.length=fR r:=by cases h;exact kl ..
theorem Dc.shape{r:Bool}{Q:Nat->Prop}{H:AH}{v:Value}{l:List RT}(h:Dc r Q H v l): ∃a n c,v= .slice a n c:=by cases h<;>exact⟨_,_,_,rfl⟩
theorem Rd.ones{r:Bool}{Q:Nat->Prop}{H:AH}{vs:List Value}{t:RT}(h:Rd r Q H vs t):vs.all one=true:=by cases h with|mk h1 h2 h3=>obtain⟨_,_,_,rfl⟩:=h3.shape;have e1:=h1.one1;have e2:=h2.one1;cases r<;>simp only[zH,List.all_cons,List.all_nil,e1,e2,Bool.and_true,if_true,if_false,Bool.false_eq_true]<;>rfl
def Gu(r:Bool)(Q:Nat->Prop)(H:AH)(css:List (List Value))(l:List RT):Prop:=css.length=l.length/\ ∀(i:Nat)(cs:List Value)(t:RT),css[i]?=some cs->l[i]?=some t->Rd r Q H cs t
theorem Gu.nil{r:Bool}{Q:Nat->Prop}{H:AH} :Gu r Q H [] []:=⟨rfl,fun i cs t h=>by simp at h⟩
theorem Gu.fr{r:Bool}{Q Q':Nat->Prop}{H H':AH}{css:List (List Value)}{l:List RT}(h:Gu r Q H css l)(f:Fr H H')(hQ: ∀j,j<H.n->(∃cs,H.blk j= .rw (fR r) cs)->Q j->H'.blk j=H.blk j/\Q' j):Gu r Q' H' css l:=⟨h.1,fun i cs t hi ht=>(h.2 i cs t hi ht).fr f hQ⟩
theorem Gu.append{r:Bool}{Q:Nat->Prop}{H:AH}{css:List (List Value)}{l:List RT}{us:List Value}{t:RT}(h:Gu r Q H css l)(hu:Rd r Q H us t):Gu r Q H (css++[us]) (l++[t]):=by
 refine⟨by simp[h.1],fun i cs t' hi ht=>?_⟩;rw[List.getElem?_append]at hi ht;rw[h.1]at hi;split at hi;·rename_i YX;rw[if_pos YX]at ht;exact h.2 i cs t' hi ht
 ·rename_i YX;rw[if_neg YX]at ht;obtain⟨k,hk⟩:=hid (i-l.length);rw[<-hk]at hi ht;match k,hi,ht with|0,hi,ht=>simp at hi ht;subst hi;subst ht;exact hu
theorem Gu.done{r:Bool}{Q:Nat->Prop}{H:AH}{v:Value}{css:List (List Value)}{l:List RT}(hL:UB (fR r) H v css)(h:Gu r Q H css l)(hq: ∀b,Yt v=some b->Q b):Dc r Q H v l:=by
 rcases hL with⟨rfl,rfl⟩|⟨b,rfl,h2,h3,h4⟩;·have h1:=h.1;cases l with|nil=>exact .nil|cons x xs=>simp at h1
 ·rw[h.1];exact .mk b (css:=css) (hq b rfl) h2 h3 h.1 h4 h.2
theorem Dc.len{r:Bool}{Q:Nat->Prop}{H:AH}{v:Value}{l:List RT}(h:Dc r Q H v l){t e:TypeId}(ht:Tryz.prog.underlying t=some (.slice e)):QI Tryz.prog t v=some l.length:=by unfold QI;rw[ht];cases h<;>rfl
theorem Dc.at{r:Bool}{Q:Nat->Prop}{H:AH}{v:Value}{l:List RT}(h:Dc r Q H v l){i:Nat}{x:RT}(hi:l[i]?=some x){t e:TypeId}(ht:Tryz.prog.underlying t=some (.slice e))(he:Xh Tryz.prog e=some (fR r))(ha:XY Tryz.prog e=some true): ∃(p:Value) (us:List Value),Yi Tryz.prog t v (.int .i64 (i:Int))=some p/\(∀H',Zj H H'->Z9 Tryz.prog H' e p=some (.agg us.toArray))/\Rd r Q H us x:=by have YX:i<l.length:=(List.getElem?_eq_some_iff.mp hi).1;cases h with|nil=>simp at hi|mk b hq hb hc hl hz hf=>rename_i css;obtain⟨cs,Tk⟩: ∃cs,css[i]?=some cs:=⟨css[i]'(by omega),List.getElem?_eq_getElem (by omega)⟩;have W9:=hz cs (List.mem_of_getElem? Tk);have pq:=Tf hz Tk;refine⟨.pointer (some ⟨b,i*fR r,none⟩),cs,?_,fun H' k=>Tm ((k.blk b hb).trans hc) (fQ r) pq W9 ha he (Nat.pos_of_ne_zero (fQ r)),hf i cs x Tk hi⟩;unfold Yi;simp only[ht,he];rw[if_pos (by omega)];simp
theorem fF(a b:Nat):a*a+b*b<=(a+b)*(a+b):=by rw[Nat.add_mul,Nat.mul_add,Nat.mul_add];omega
end
end
end Go.Proofs.YtmkfecoeghokfaaGreatDoor
