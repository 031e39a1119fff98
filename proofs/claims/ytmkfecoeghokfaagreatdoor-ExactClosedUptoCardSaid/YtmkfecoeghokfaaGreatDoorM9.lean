/-
  The engine and the walks that the claim's last text leans on, part 9 of 9: Tf, Tg.
-/
import Derived.Test.YtmkfecoeghokfaaGreatDoorM8
namespace Go.Proofs.YtmkfecoeghokfaaGreatDoor
open Go Go.ChangeShapes Go.WideShapes Go.RowKit Go.Proofs.YtmkfecoeghokfaaGreatDoor.Ev
set_option linter.unusedVariables false
noncomputable section
set_option maxRecDepth 20000
set_option maxHeartbeats 1000000
mutual inductive WEx(W:World):List Value→ET→Prop|mk{op:Int}{neg:Bool}{va vd vx:Value}{abs den:List Nat}{args:List ET} :ArgIs W va abs→ArgIs W vd den→WXs W vx args→WEx W [.int .i64 op,.bool neg,va,vd,vx] (.node op neg abs den args) inductive WXs(W:World):Value→List ET→Prop|nil:WXs W (.slice none 0 0) []|mk(a:Addr)(cap:Nat){args:List ET}(F:Nat→List Value):args.length≤cap→(∀i,i<args.length→W.cells? 0 (a.add (i*5)) 5=some (F i))→(∀(i:Nat)(t:ET),args[i]?=some t→WEx W (F i) t)→WXs W (.slice (some a) args.length cap) args end
instance:Inhabited ET:=⟨.node 0 false [] [] []⟩
theorem Zf7{H:Type}{enc:TypeId×Value→H}{W:World}{t:TypeId}{fuel:Nat}{cs:List Value}{x:DataW H×List MemPlace}(ht:Tryz.prog.underlying t=some (.slice 101))(hf:DataW.trod enc Tryz.prog W 0 (fun _=>true) true fuel t cs=some x): ∃v xs,cs=[v]∧Dig 18446744073709551616 xs∧xs.length≤Rows.uptoBulk x.1∧ArgIs W v xs:=by
 rcases Deep.open_slice1 ht cU64 hf with⟨h1,h2⟩|⟨a',len',cap',m,n,V,D,Pl,h1,_,hl,_,hm,hx,hV⟩;·exact⟨_,[],h1,.nil _,Nat.zero_le _,.inl ⟨rfl,rfl⟩⟩
 ·rw[if_pos rfl]at hm;rw[hm]at hx hV;have hval: ∀i,i<cap'→ ∃x:Nat,V i= .int .u64 (x:Int)∧x<18446744073709551616:=fun i hi=>by
   obtain⟨n',c',x',w'⟩:=DataW.trod_int Tryz.underlying101 (hV i hi).2;simp at c';simp only[Lit.wf,Bool.and_eq_true,decide_eq_true_eq]at w';have e1:IntKind.u64.min=0:=by decide
   have e2:IntKind.u64.max=18446744073709551615:=by decide
   exact⟨n'.toNat,by rw[c'];congr 1;omega,by omega⟩
  let f:Nat→Nat:=fun i=>match V i with| .int _ z=>z.toNat|_=>0;have hfe: ∀i,i<cap'→V i= .int .u64 ((f i:Nat):Int)∧f i<18446744073709551616:=fun i hi=>by
   obtain⟨x,h1,h2⟩:=hval i hi;have:f i=x:=by show(match V i with| .int _ z=>z.toNat|_=>0)=x;rw[h1];simp
   rw[this];exact⟨h1,h2⟩
  refine⟨_,(List.range len').map f,h1,?_,?_,.inr ⟨a',cap',by simp,by simpa using hl,?_⟩⟩;·intro x hx;obtain⟨i,hi,rfl⟩:=List.mem_map.mp hx;exact(hfe i (Nat.lt_of_lt_of_le (List.mem_range.mp hi) hl)).2
  ·rw[hx];have:=bulk_slice ((List.range len').map D) ((List.range (cap'-len')).map fun j=>D (len'+j));simpa using this
  ·intro i x hi;rw[List.getElem?_map]at hi;by_cases hil:i<len';·rw[List.getElem?_range hil]at hi;cases hi;have hic:i<cap':=Nat.lt_of_lt_of_le hil hl;rw[(hV i hic).1,(hfe i hic).1]
   ·rw[List.getElem?_eq_none (by simp;omega)]at hi;cases hi
theorem uExpr: ∃f0 f1 f2,Tryz.prog.underlying 53=some (.struct #[f0,f1,f2])∧f0.type=50∧f0.offset=0∧f1.type=34∧f1.offset=1∧f2.type=51∧f2.offset=4:=⟨_,_,_,Tryz.underlying53,rfl,rfl,rfl,rfl,rfl,rfl⟩
theorem uRatio: ∃f0 f1,Tryz.prog.underlying 34=some (.struct #[f0,f1])∧f0.type=32∧f0.offset=0∧f1.type=30∧f1.offset=2:=⟨_,_,Tryz.underlying34,rfl,rfl,rfl,rfl⟩
theorem uWhole: ∃f0 f1,Tryz.prog.underlying 32=some (.struct #[f0,f1])∧f0.type=4∧f0.offset=0∧f1.type=30∧f1.offset=1:=⟨_,_,Tryz.underlying32,rfl,rfl,rfl,rfl⟩
theorem cExpr:Tryz.prog.cellsOf 53=5:=by kernel_rfl
theorem cRatio:Tryz.prog.cellsOf 34=3:=by kernel_rfl
theorem cWhole:Tryz.prog.cellsOf 32=2:=by kernel_rfl
theorem cNat:Tryz.prog.cellsOf 30=1:=by kernel_rfl
theorem cBool:Tryz.prog.cellsOf 4=1:=by kernel_rfl
theorem cExprs:Tryz.prog.cellsOf 51=1:=by kernel_rfl
theorem Zk9{H:Type}{f:Nat→ET}{D:Nat→DataW H} : ∀(l:List Nat),(∀i∈l,(f i).nodes≤Rows.uptoBulk (D i))→Xb (l.map f)≤Rows.uptoBulkAll (l.map D)|[],_=>Nat.le_refl _|i::l,h=>by have h1:=h i (List.mem_cons_self ..);have h2:=Zk9 l fun j hj=>h j (List.mem_cons_of_mem _ hj);simp only[List.map_cons,Xb,Rows.uptoBulkAll];omega
theorem wtAll_map{H:Type}{f:Nat→ET}{D:Nat→DataW H} : ∀(l:List Nat),(∀i∈l,(f i).wt≤64*Rows.uptoBulk (D i))→Fg (l.map f)≤64*Rows.uptoBulkAll (l.map D)|[],_=>Nat.zero_le _|i::l,h=>by have h1:=h i (List.mem_cons_self ..);have h2:=wtAll_map l fun j hj=>h j (List.mem_cons_of_mem _ hj);simp only[List.map_cons,Fg,Rows.uptoBulkAll];omega
theorem Zp7{f:Nat→ET}{L:Nat} : ∀(l:List Nat),(∀i∈l,(f i).wide L)→Dg L (l.map f)|[],_=>trivial|i::l,h=>⟨h i (List.mem_cons_self ..),Zp7 l fun j hj=>h j (List.mem_cons_of_mem _ hj)⟩
theorem open_tree{H:Type}{enc:TypeId×Value→H}{W:World} : ∀(N:Nat)(d:DataW H),Rows.uptoBulk d≤N→ ∀(fuel:Nat)(cs:List Value)(ps:List MemPlace),DataW.trod enc Tryz.prog W 0 (fun _=>true) true fuel 53 cs=some (d,ps)→ ∃t:ET,WEx W cs t∧(∀L,Rows.uptoBulk d≤L→t.wide L)∧t.nodes≤Rows.uptoBulk d∧t.wt+64≤64*Rows.uptoBulk d:=by intro N;induction N with
 |zero=>intro d hd;have:=bulk_one d;omega
 |succ N ih=>
  intro d hd fuel cs ps h;obtain⟨f0,f1,f2,hu,e1,e2,e3,e4,e5,e6⟩:=uExpr;obtain⟨y0,y1,y2,n,hx,hl,h0,h1,h2⟩:=Deep.trod_struct3 hu h;rw[e1,e2,cOp]at h0;rw[e3,e4,cRatio]at h1;rw[e5,e6,cExprs]at h2;rw[cExpr]at hl;obtain⟨g0,g1,hu2,i1,i2,i3,i4⟩:=uRatio;obtain⟨z0,z1,n2,hx2,hl2,j0,j1⟩:=trod_struct2 hu2 h1;rw[i1,i2,cWhole]at j0;rw[i3,i4,cNat]at j1;obtain⟨k0,k1,hu3,m1,m2,m3,m4⟩:=uWhole;obtain⟨w0,w1,n3,hx3,hl3,q0,q1⟩:=trod_struct2 hu3 j0;rw[m1,m2,cBool]at q0;rw[m3,m4,cNat]at q1;obtain⟨op,c0,x0,_⟩:=DataW.trod_int uOp h0;obtain⟨neg,cb,xb⟩:=DataW.trod_bool Tryz.underlying4 q0;obtain⟨va,abs,ca,da,la,ra⟩:=Zf7 uNat q1;obtain⟨vd,den,cd,dd,ld,rd⟩:=Zf7 uNat j1;simp only[Prod.mk.injEq]at hx;obtain⟨hxd,_⟩:=hx;have hb1:Rows.uptoBulk w1.1+1≤Rows.uptoBulk z0.1:=by rw[hx3];simp only[Rows.uptoBulk,Rows.uptoBulkAll];omega
  have hb2:Rows.uptoBulk z0.1+Rows.uptoBulk z1.1+1≤Rows.uptoBulk y1.1:=by rw[hx2];simp only[Rows.uptoBulk,Rows.uptoBulkAll];omega
  have hb3:Rows.uptoBulk y1.1+Rows.uptoBulk y2.1+1≤Rows.uptoBulk d:=by rw[hxd];simp only[Rows.uptoBulk,Rows.uptoBulkAll];omega
  match cs,hl with
   |[a0,a1,a2,a3,a4],_=>
    simp at c0 cb ca cd h2;subst c0;subst cb;subst ca;subst cd;have u:Tryz.prog.underlying 51=some (.slice 53):=by kernel_rfl
    rcases Deep.open_slice u h2 with⟨p1,p2⟩|⟨a,len,cap,m,nn,D,Pl,p1,_,hlc,_,hm,p2,hV⟩
    ·cases p1;refine⟨.node op neg abs den [],.mk ra rd .nil,fun L hL=>⟨by omega,by omega,da,dd,trivial⟩,?_,?_⟩;·simp only[ET.nodes,Xb];have:=bulk_one d;omega
     ·simp only[ET.wt,Fg];split<;>omega
    ·cases p1;rw[if_pos rfl]at hm;subst hm;rw[cExpr]at hV p2;have hb4:Rows.uptoBulkAll ((List.range len).map D)+1≤Rows.uptoBulk y2.1:=by rw[p2];simp only[Rows.uptoBulk];omega
     obtain⟨F,hF⟩:=Deep.choose_lt (α:=List Value×ET) (n:=len) (p:=fun i q=>W.cells? 0 (a.add (i*5)) 5=some q.1∧WEx W q.1 q.2∧(∀L,Rows.uptoBulk (D i)≤L→q.2.wide L)∧q.2.nodes≤Rows.uptoBulk (D i)∧q.2.wt+64≤64*Rows.uptoBulk (D i)) (fun i hi=>by obtain⟨cs',s1,s2⟩:=hV i (Nat.lt_of_lt_of_le hi hlc);have hbi:Rows.uptoBulk (D i)≤Rows.uptoBulkAll ((List.range len).map D):=bulk_part (List.mem_map.mpr ⟨i,List.mem_range.mpr hi,rfl⟩);obtain⟨t,t1,t2,t3,t4⟩:=ih (D i) (by omega) _ _ _ s2;exact⟨(cs',t),s1,t1,t2,t3,t4⟩);have hlen:((List.range len).map fun i=>(F i).2).length=len:=by simp
     have hw:WXs W (.slice (some a) ((List.range len).map fun i=>(F i).2).length m) ((List.range len).map fun i=>(F i).2):=by
      refine .mk a m (fun i=>(F i).1) (by rw[hlen];exact hlc) (fun i hi=>(hF i (by rwa[hlen]at hi)).1) (fun i t ht=>?_);have hi:i<len:=by
       rcases Nat.lt_or_ge i len with h|h;·exact h
       ·rw[List.getElem?_eq_none (by rw[hlen];exact h)]at ht;cases ht
      rw[List.getElem?_map,List.getElem?_range hi]at ht;cases ht;exact(hF i hi).2.1
     rw[hlen]at hw;refine⟨.node op neg abs den ((List.range len).map fun i=>(F i).2),.mk ra rd hw,fun L hL=>⟨by omega,by omega,da,dd,Zp7 _ fun i hi=>?_⟩,?_,?_⟩;·have hi:=List.mem_range.mp hi;have hbi:Rows.uptoBulk (D i)≤Rows.uptoBulkAll ((List.range len).map D):=bulk_part (List.mem_map.mpr ⟨i,List.mem_range.mpr hi,rfl⟩);exact(hF i hi).2.2.1 L (by omega)
     ·have:=Zk9 (D:=D) (f:=fun i=>(F i).2) (List.range len) fun i hi=>(hF i (List.mem_range.mp hi)).2.2.2.1;simp only[ET.nodes];omega
     ·have:=wtAll_map (D:=D) (f:=fun i=>(F i).2) (List.range len) fun i hi=>Nat.le_trans (Nat.le_add_right _ 64) (hF i (List.mem_range.mp hi)).2.2.2.2;simp only[ET.wt];split<;>omega
theorem add_block{W:World}{S:Nat→Prop}{L:Nat→Ev.Loc}{H:AH}(hI:Inv W.heap.size S L H W){g o sz cap:Nat}{cs cs':List Value}(hg:g<W.heap.size)(hc: ∀(k:Nat)(v':Value),cs'[k]?=some v'→W.cell? ⟨g,o+k,none⟩=some v')(hv:VRs S L cs cs'): ∃(S':Nat→Prop) (L':Nat→Ev.Loc) (H':AH),Inv W.heap.size S' L' H' W∧(∀i,S i→S' i)∧(∀i,S i→L' i=L i)∧Keep H H'∧H'.cells H.n=some cs∧S' H.n∧L' H.n=⟨g,o,sz,o+cap*sz⟩∧H'.n=H.n+1:=by
 have hn: ∀i,S i→i≠H.n:=fun i hi e=>by have:=hI.bd i hi;omega
 let L':Nat→Ev.Loc:=fun i=>if i=H.n then⟨g,o,sz,o+cap*sz⟩else L i;let S':Nat→Prop:=fun i=>i=H.n∨S i;have hL: ∀i,S i→L' i=L i:=fun i hi=>if_neg (hn i hi);have hLn:L' H.n=⟨g,o,sz,o+cap*sz⟩:=if_pos rfl;let H':AH:= { n:=H.n+1,lw:=H.lw,t:=H.t.set H.n (.ro sz cs) };have hb: ∀j,H'.blk j=if j=H.n then .ro sz cs else H.blk j:=fun j=>by
  show(match(H.t.set H.n _).get j with|some b=>b|none=>Blk.dead)=_;rw[Tr.get_set];by_cases e:j=H.n;·rw[if_pos e,if_pos e]
  ·rw[if_neg e,if_neg e];rfl
 refine⟨S',L',H',⟨?_,?_,?_,?_,hI.base⟩,fun i hi=> .inr hi,hL,?_,?_,.inl rfl,hLn,rfl⟩
 ·intro i sz2 cs2 hi;rw[hb]at hi;by_cases e:i=H.n;·rw[if_pos e]at hi;cases hi;subst e;rw[hLn];refine⟨.inl rfl,hg,rfl,fun k v hk=>?_⟩;obtain⟨v',h1,h2⟩:=hv.get hk;exact⟨v',hc k v' h1,h2.mono (fun _ h=> .inr h) hL⟩
  ·rw[if_neg e]at hi;obtain⟨h1,h2,h3,h4⟩:=hI.ro i sz2 cs2 hi;rw[hL i h1];refine⟨.inr h1,h2,h3,fun k v hk=>?_⟩;obtain⟨v',h5,h6⟩:=h4 k v hk;exact⟨v',h5,h6.mono (fun _ h=> .inr h) hL⟩
 ·intro i sz2 cs2 hi;rw[hb]at hi;by_cases e:i=H.n;·rw[if_pos e]at hi;cases hi
  ·rw[if_neg e]at hi;obtain⟨h1,h2,h3,C,e',h4,h5,h6⟩:=hI.rw i sz2 cs2 hi;rw[hL i h1];refine⟨.inr h1,h2,h3,C,e',h4,h5,fun k v hk=>?_⟩;obtain⟨v',h7,h8⟩:=h6 k v hk;exact⟨v',h7,h8.mono (fun _ h=> .inr h) hL⟩
 ·intro i j sz2 cs2 sz' cs' hi hj hg;rw[hb]at hi hj;by_cases e:i=H.n;·rw[if_pos e]at hi;cases hi
  ·by_cases e2:j=H.n;·rw[if_pos e2]at hj;cases hj
   ·rw[if_neg e]at hi;rw[if_neg e2]at hj;rw[hL i (hI.rw i _ _ hi).1,hL j (hI.rw j _ _ hj).1]at hg;exact hI.dj i j _ _ _ _ hi hj hg
 ·intro i hi;rcases hi with hi|hi;·subst hi;exact Nat.lt_succ_self _
  ·exact Nat.lt_succ_of_lt (hI.bd i hi)
 ·exact⟨Nat.le_succ _,Nat.min_le_left _ _,fun j hj=>by rw[hb,if_neg (by omega)]⟩
 ·unfold AH.cells;rw[hb,if_pos rfl]
theorem flat_len{G:Nat→List Value} : ∀m,(∀i,i<m→(G i).length=5)→(((List.range m).map G).flatten).length=m*5|0,_=>rfl|m+1,h=>by rw[List.range_succ,List.map_append,List.flatten_append,List.length_append,flat_len m fun i hi=>h i (by omega)];simp[h m (by omega)];omega
theorem flat_get{G:Nat→List Value} : ∀m,(∀i,i<m→(G i).length=5)→ ∀i,i<m→((((List.range m).map G).flatten).drop (i*5)).take 5=G i
 |0,_,i,hi=>absurd hi (Nat.not_lt_zero i)
 |m+1,h,i,hi=>by
  have hl:=flat_len m fun i hi=>h i (by omega);rw[List.range_succ,List.map_append,List.flatten_append];by_cases e:i=m;·subst e;rw[List.drop_append_of_le_length (by omega),List.drop_of_length_le (by omega),List.nil_append];simp only[List.map_cons,List.map_nil,List.flatten_cons,List.flatten_nil,List.append_nil];rw[List.take_of_length_le (by rw[h i (by omega)];omega)]
  ·rw[List.drop_append_of_le_length (by omega),List.take_append_of_le_length (by rw[List.length_drop];omega)];exact flat_get m (fun i hi=>h i (by omega)) i (by omega)
theorem flat_cells{W:World}{a:Addr}(hspot:a.spot=none){F:Nat→List Value} : ∀m,(∀i,i<m→W.cells? 0 (a.add (i*5)) 5=some (F i))→ ∀(k:Nat)(v':Value),(((List.range m).map F).flatten)[k]?=some v'→W.cell? ⟨a.block,a.off+k,none⟩=some v'
 |0,_,k,v',hk=>by simp at hk
 |m+1,h,k,v',hk=>by
  have hadd: ∀k,a.add k=⟨a.block,a.off+k,none⟩:=fun k=>by
   unfold Addr.add;by_cases hk:k=0;·subst hk;rw[if_pos rfl];cases a with|mk b o s=>simp at hspot;subst hspot;rfl
   ·rw[if_neg hk]
  have hF: ∀i,i<m+1→(F i).length=5:=fun i hi=>(World.cells?_some (h i hi)).2.1;have hl:=flat_len m fun i hi=>hF i (by omega);rw[List.range_succ,List.map_append,List.flatten_append]at hk;by_cases e:k<m*5;·rw[List.getElem?_append_left (by omega)]at hk;exact flat_cells hspot m (fun i hi=>h i (by omega)) k v' hk
  ·rw[List.getElem?_append_right (by omega),hl]at hk;simp only[List.map_cons,List.map_nil,List.flatten_cons,List.flatten_nil,List.append_nil]at hk;obtain⟨_,_,h3⟩:=World.cells?_some (h m (by omega));have hj:k-m*5<5:=by
    rcases Nat.lt_or_ge (k-m*5) 5 with h'|h';·exact h'
    ·rw[List.getElem?_eq_none (by rw[hF m (by omega)];exact h')]at hk;cases hk
   have:=h3 (k-m*5) hj;rw[hk,Deep.add_add,hadd,show m*5+(k-m*5)=k by omega]at this;exact this
theorem VRs_flat{S:Nat→Prop}{L:Nat→Ev.Loc}{G F:Nat→List Value} : ∀m,(∀i,i<m→VRs S L (G i) (F i))→VRs S L ((List.range m).map G).flatten ((List.range m).map F).flatten|0,_=> .nil|m+1,h=>by rw[List.range_succ,List.map_append,List.flatten_append,List.map_append,List.flatten_append];refine(VRs_flat m fun i hi=>h i (by omega)).append ?_;simpa using h m (by omega)
theorem add_tree{W:World} : ∀(N:Nat)(t:ET),t.nodes≤N→ ∀(cs:List Value),WEx W cs t→ ∀{S:Nat→Prop}{L:Nat→Ev.Loc}{H:AH},Inv W.heap.size S L H W→ ∃(S':Nat→Prop) (L':Nat→Ev.Loc) (H':AH) (vs:List Value),Inv W.heap.size S' L' H' W∧(∀i,S i→S' i)∧(∀i,S i→L' i=L i)∧VRs S' L' vs cs∧Ex H' vs t∧Keep H H':=by intro N;induction N with
 |zero=>intro t h;have:=Vq t;omega
 |succ N ih=>intro t ht cs hw S L H hI;cases hw with
  |@mk op neg va vd vx abs den args ra rd rx=>
   simp only[ET.nodes]at ht;obtain⟨S1,L1,H1,wa,I1,s1,l1,r1,q1,k1⟩:=add_arg hI ra;obtain⟨S2,L2,H2,wd,I2,s2,l2,r2,q2,k2⟩:=add_arg I1 rd;suffices hx: ∃(S':Nat→Prop) (L':Nat→Ev.Loc) (H':AH) (wx:Value),Inv W.heap.size S' L' H' W∧(∀i,S2 i→S' i)∧(∀i,S2 i→L' i=L2 i)∧VR S' L' wx vx∧Xs H' wx args∧Keep H2 H' by obtain⟨S3,L3,H3,wx,I3,s3,l3,r3,q3,k3⟩:=hx;refine⟨S3,L3,H3,[.int .i64 op,.bool neg,wa,wd,wx],I3,fun i h=>s3 i (s2 i (s1 i h)),fun i h=>by rw[l3 i (s2 i (s1 i h)),l2 i (s1 i h),l1 i h],?_,.mk (q1.keep (k2.trans k3)) (q2.keep k3) q3,(k1.trans k2).trans k3⟩;exact .cons (.int .i64 op) (.cons (.bool neg) (.cons ((r1.mono s2 l2).mono s3 l3) (.cons (r2.mono s3 l3) (.cons r3 .nil))))
   cases rx with
    |nil=>exact⟨S2,L2,H2,.slice none 0 0,I2,fun _ h=>h,fun _ _=>rfl,.nilSlice,.nil,.refl _⟩
    |mk a cap F hcap hF hE=>
     by_cases h0:args.length=0;·obtain rfl:args=[]:=List.length_eq_zero_iff.mp h0;exact⟨S2,L2,H2,.slice (some ⟨0,0,some 0⟩) 0 0,I2,fun _ h=>h,fun _ _=>rfl,.emp 0 a cap,.emp 0,.refl _⟩
     ·have hget: ∀i,i<args.length→args[i]?=some (args.getD i default):=fun i hi=>by rw[List.getElem?_eq_getElem hi];simp[List.getD,List.getElem?_eq_getElem hi]
      have key: ∀m,m≤args.length→ ∃(S':Nat→Prop) (L':Nat→Ev.Loc) (H':AH) (G:Nat→List Value),Inv W.heap.size S' L' H' W∧(∀i,S2 i→S' i)∧(∀i,S2 i→L' i=L2 i)∧(∀i,i<m→VRs S' L' (G i) (F i)∧Ex H' (G i) (args.getD i default))∧Keep H2 H':=by intro m;induction m with
       |zero=>intro _;exact⟨S2,L2,H2,fun _=>[],I2,fun _ h=>h,fun _ _=>rfl,fun i hi=>absurd hi (Nat.not_lt_zero i),.refl _⟩
       |succ m ihm=>
        intro hm;obtain⟨S3,L3,H3,G,I3,s3,l3,g3,k3⟩:=ihm (by omega);have hm':=hget m (by omega);have hn:=Da hm';obtain⟨S4,L4,H4,vs,I4,s4,l4,r4,q4,k4⟩:=ih (args.getD m default) (by omega) (F m) (hE m _ hm') I3;refine⟨S4,L4,H4,fun i=>if i=m then vs else G i,I4,fun i h=>s4 i (s3 i h),fun i h=>by rw[l4 i (s3 i h),l3 i h],fun i hi=>?_,k3.trans k4⟩;by_cases e:i=m;·subst e;simp only[if_pos];exact⟨r4,q4⟩
        ·simp only[if_neg e];obtain⟨g1,g2⟩:=g3 i (by omega);exact⟨g1.mono s4 l4,g2.keep k4⟩
      obtain⟨S3,L3,H3,G,I3,s3,l3,g3,k3⟩:=key args.length (Nat.le_refl _);have hF0:=hF 0 (by omega);obtain⟨_,f1,f2⟩:=World.cells?_some hF0;have hx0:=f2 0 (by omega);rw[Deep.add_add,List.getElem?_eq_getElem (by omega)]at hx0;have ea:a.add (0*5+0)=a:=rfl;rw[ea]at hx0;have hspot:a.spot=none:=by have hx1:=hx0;unfold World.cell? at hx1;cases hs:a.spot with
       |none=>rfl
       |some q=>
        rw[hs]at hx1;split at hx1;·simp at hx1
        ·cases hx1
      have hblk:a.block<W.heap.size:=World.block_lt_of_cell? W a hx0;have hG: ∀i,i<args.length→(G i).length=5:=fun i hi=>(g3 i hi).2.len;obtain⟨S4,L4,H4,I4,s4,l4,k4,c4,sn,ln,n4⟩:=add_block (g:=a.block) (o:=a.off) (sz:=5) (cap:=cap) (cs:=((List.range args.length).map G).flatten) (cs':=((List.range args.length).map F).flatten) I3 hblk (flat_cells hspot args.length hF) (VRs_flat args.length fun i hi=>(g3 i hi).1);refine⟨S4,L4,H4,.slice (some ⟨H3.n,0,none⟩) args.length args.length,I4,fun i h=>s4 i (s3 i h),fun i h=>by rw[l4 i (s3 i h),l3 i h],?_,?_,k3.trans k4⟩
      ·have hv:=VR.slice (S:=S4) (L:=L4) H3.n 0 args.length args.length cap sn hcap (Nat.le_refl _) (by rw[ln];simp);rw[ln]at hv;have e:(some (⟨a.block,a.off+0,none⟩:Addr))=some a:=by congr 1;cases a with|mk b o s=>simp at hspot;subst hspot;rfl
       rw[e]at hv;exact hv
      ·refine .mk H3.n 0 args.length (by omega) c4 (Nat.le_refl _) fun i t hi=>?_;have hlt:i<args.length:=by
        rcases Nat.lt_or_ge i args.length with h'|h';·exact h'
        ·rw[List.getElem?_eq_none h']at hi;cases hi
       rw[Nat.zero_add,flat_get args.length hG i hlt];have:=(g3 i hlt).2.keep k4;rw[hget i hlt]at hi;cases hi;exact this
end
end Go.Proofs.YtmkfecoeghokfaaGreatDoor
