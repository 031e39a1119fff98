/-
  The engine and the walks that the claim's last text leans on, part 10 of 10: Tg.
-/
import Derived.Test.YtmkfecoeghokfaaGreatDoorM9
namespace Go.Proofs.YtmkfecoeghokfaaGreatDoor
open Go Go.ChangeShapes Go.WideShapes Go.RowKit Go.Proofs.YtmkfecoeghokfaaGreatDoor.Ev
set_option linter.unusedVariables false
noncomputable section
set_option maxHeartbeats 2000000
set_option maxRecDepth 20000
section
attribute [-simp] Int.natCast_add Int.natCast_mul Int.natCast_ediv Int.natCast_emod Int.natCast_pow
attribute [local simp] strip ZN Xr LR gW ZB Yj ZU Yk ZG Yl Zw Zx Zj ZF Yd ZL Z1 Zl ZE Zk Zi Z0 ZA YK Zs Yf Y2 YW ZH plain ZM Tr.get_set Yz Zt Yt ZS sameKind undef ZZ ZD Yc Zv ZC Yh ZT parts ZJ XI DW Ym ZX LX ZV Zr ZI ZO XT Yi Zm ZP ZY ZR
theorem aG{W:World}{S:Nat->Prop}{L:Nat->Ev.Loc}{H:AH}(hI:Inv W.heap.size S L H W){g o sz cap:Nat}{cs cs':List Value}(hg:g<W.heap.size)(hc: ∀(k:Nat)(v':Value),cs'[k]?=some v'->W.cell? ⟨g,o+k,none⟩=some v')(hv:UD S L cs cs'): ∃(S':Nat->Prop) (L':Nat->Ev.Loc) (H':AH),Inv W.heap.size S' L' H' W/\(∀i,S i->S' i)/\(∀i,S i->L' i=L i)/\Zg H H'/\H'.cells H.n=some cs/\S' H.n/\L' H.n=⟨g,o,sz,o+cap*sz⟩/\H'.n=H.n+1:=by
 have hn: ∀i,S i->i≠H.n:=fun i hi e=>by have:=hI.bd i hi;omega
 let L':Nat->Ev.Loc:=fun i=>if i=H.n then⟨g,o,sz,o+cap*sz⟩else L i;let S':Nat->Prop:=fun i=>i=H.n\/S i;have hL: ∀i,S i->L' i=L i:=fun i hi=>if_neg (hn i hi);have pQ:L' H.n=⟨g,o,sz,o+cap*sz⟩:=if_pos rfl;let H':AH:= { n:=H.n+1,lw:=H.lw,t:=H.t.set H.n (.ro sz cs) };have hb: ∀j,H'.blk j=if j=H.n then .ro sz cs else H.blk j:=fun j=>by
  show(match(H.t.set H.n _).get j with|some b=>b|none=>OT.dead)=_;rw[Tr.get_set];by_cases e:j=H.n;·rw[if_pos e,if_pos e]
  ·rw[if_neg e,if_neg e];rfl
 refine⟨S',L',H',⟨?_,?_,?_,?_,hI.base⟩,fun i hi=> .inr hi,hL,?_,?_,.inl rfl,pQ,rfl⟩
 ·intro i dB cs2 hi;rw[hb]at hi;by_cases e:i=H.n;·rw[if_pos e]at hi;cases hi;subst e;rw[pQ];refine⟨.inl rfl,hg,rfl,fun k v hk=>?_⟩;obtain⟨v',h1,h2⟩:=hv.get hk;exact⟨v',hc k v' h1,h2.mono (fun _ h=> .inr h) hL⟩
  ·rw[if_neg e]at hi;obtain⟨h1,h2,h3,h4⟩:=hI.ro i dB cs2 hi;rw[hL i h1];refine⟨.inr h1,h2,h3,fun k v hk=>?_⟩;obtain⟨v',h5,h6⟩:=h4 k v hk;exact⟨v',h5,h6.mono (fun _ h=> .inr h) hL⟩
 ·intro i dB cs2 hi;rw[hb]at hi;by_cases e:i=H.n;·rw[if_pos e]at hi;cases hi
  ·rw[if_neg e]at hi;obtain⟨h1,h2,h3,C,e',h4,h5,h6⟩:=hI.rw i dB cs2 hi;rw[hL i h1];refine⟨.inr h1,h2,h3,C,e',h4,h5,fun k v hk=>?_⟩;obtain⟨v',h7,h8⟩:=h6 k v hk;exact⟨v',h7,h8.mono (fun _ h=> .inr h) hL⟩
 ·intro i j dB cs2 TU cs' hi hj hg;rw[hb]at hi hj;by_cases e:i=H.n;·rw[if_pos e]at hi;cases hi
  ·by_cases e2:j=H.n;·rw[if_pos e2]at hj;cases hj
   ·rw[if_neg e]at hi;rw[if_neg e2]at hj;rw[hL i (hI.rw i _ _ hi).1,hL j (hI.rw j _ _ hj).1]at hg;exact hI.dj i j _ _ _ _ hi hj hg
 ·intro i hi;rcases hi with hi|hi;·subst hi;exact Nat.lt_succ_self _
  ·exact Nat.lt_succ_of_lt (hI.bd i hi)
 ·exact⟨Nat.le_succ _,Nat.min_le_left _ _,fun j hj=>by rw[hb,if_neg (by omega)]⟩
 ·unfold AH.cells;rw[hb,if_pos rfl]
theorem JZ{G:Nat->List Value} : ∀m,(∀i,i<m->(G i).length=5)->(((List.range m).map G).flatten).length=m*5|0,_=>rfl|m+1,h=>by rw[List.range_succ,List.map_append,List.flatten_append,List.length_append,JZ m fun i hi=>h i (by omega)];simp[h m (by omega)];omega
theorem EW{G:Nat->List Value} : ∀m,(∀i,i<m->(G i).length=5)-> ∀i,i<m->((((List.range m).map G).flatten).drop (i*5)).take 5=G i
 |0,_,i,hi=>absurd hi (Nat.not_lt_zero i)
 |m+1,h,i,hi=>by
  have hl:=JZ m fun i hi=>h i (by omega);rw[List.range_succ,List.map_append,List.flatten_append];by_cases e:i=m;·subst e;rw[List.drop_append_of_le_length (by omega),List.drop_of_length_le (by omega),List.nil_append];simp only[List.map_cons,List.map_nil,List.flatten_cons,List.flatten_nil,List.append_nil];rw[List.take_of_length_le (by rw[h i (by omega)];omega)]
  ·rw[List.drop_append_of_le_length (by omega),List.take_append_of_le_length (by rw[List.length_drop];omega)];exact EW m (fun i hi=>h i (by omega)) i (by omega)
theorem Jz{W:World}{a:Addr}(Pf:a.spot=none){F:Nat->List Value} : ∀m,(∀i,i<m->W.cells? 0 (a.add (i*5)) 5=some (F i))-> ∀(k:Nat)(v':Value),(((List.range m).map F).flatten)[k]?=some v'->W.cell? ⟨a.block,a.off+k,none⟩=some v'
 |0,_,k,v',hk=>by simp at hk
 |m+1,h,k,v',hk=>by
  have rR: ∀k,a.add k=⟨a.block,a.off+k,none⟩:=fun k=>by
   unfold Addr.add;by_cases hk:k=0;·subst hk;rw[if_pos rfl];cases a with|mk b o s=>simp at Pf;subst Pf;rfl
   ·rw[if_neg hk]
  have hF: ∀i,i<m+1->(F i).length=5:=fun i hi=>(World.cells?_some (h i hi)).2.1;have hl:=JZ m fun i hi=>hF i (by omega);rw[List.range_succ,List.map_append,List.flatten_append]at hk;by_cases e:k<m*5;·rw[List.getElem?_append_left (by omega)]at hk;exact Jz Pf m (fun i hi=>h i (by omega)) k v' hk
  ·rw[List.getElem?_append_right (by omega),hl]at hk;simp only[List.map_cons,List.map_nil,List.flatten_cons,List.flatten_nil,List.append_nil]at hk;obtain⟨_,_,h3⟩:=World.cells?_some (h m (by omega));have hj:k-m*5<5:=by
    rcases Nat.lt_or_ge (k-m*5) 5 with h'|h';·exact h'
    ·rw[List.getElem?_eq_none (by rw[hF m (by omega)];exact h')]at hk;cases hk
   have:=h3 (k-m*5) hj;rw[hk,Deep.add_add,rR,show m*5+(k-m*5)=k by omega]at this;exact this
theorem F6{S:Nat->Prop}{L:Nat->Ev.Loc}{G F:Nat->List Value} : ∀m,(∀i,i<m->UD S L (G i) (F i))->UD S L ((List.range m).map G).flatten ((List.range m).map F).flatten|0,_=> .nil|m+1,h=>by rw[List.range_succ,List.map_append,List.flatten_append,List.map_append,List.flatten_append];refine(F6 m fun i hi=>h i (by omega)).append ?_;simpa using h m (by omega)
theorem eO{W:World} : ∀(N:Nat)(t:ET),t.nodes<=N-> ∀(cs:List Value),WEx W cs t-> ∀{S:Nat->Prop}{L:Nat->Ev.Loc}{H:AH},Inv W.heap.size S L H W-> ∃(S':Nat->Prop) (L':Nat->Ev.Loc) (H':AH) (vs:List Value),Inv W.heap.size S' L' H' W/\(∀i,S i->S' i)/\(∀i,S i->L' i=L i)/\UD S' L' vs cs/\Ex H' vs t/\Zg H H':=by intro N;induction N with
 |zero=>intro t h;have:=Y5 t;omega
 |succ N ih=>intro t ht cs hw S L H hI;cases hw with
  |@mk op neg va vd vx abs den args ra rd rx=>
   simp only[ET.nodes]at ht;obtain⟨S1,L1,H1,wa,I1,s1,l1,r1,q1,k1⟩:=Ay hI ra;obtain⟨S2,L2,H2,wd,I2,s2,l2,r2,q2,k2⟩:=Ay I1 rd;suffices hx: ∃(S':Nat->Prop) (L':Nat->Ev.Loc) (H':AH) (wx:Value),Inv W.heap.size S' L' H' W/\(∀i,S2 i->S' i)/\(∀i,S2 i->L' i=L2 i)/\VR S' L' wx vx/\Xs H' wx args/\Zg H2 H' by obtain⟨S3,L3,H3,wx,I3,s3,l3,r3,q3,k3⟩:=hx;refine⟨S3,L3,H3,[.int .i64 op,.bool neg,wa,wd,wx],I3,fun i h=>s3 i (s2 i (s1 i h)),fun i h=>by rw[l3 i (s2 i (s1 i h)),l2 i (s1 i h),l1 i h],?_,.mk (q1.keep (k2.trans k3)) (q2.keep k3) q3,(k1.trans k2).trans k3⟩;exact .cons (.int .i64 op) (.cons (.bool neg) (.cons ((r1.mono s2 l2).mono s3 l3) (.cons (r2.mono s3 l3) (.cons r3 .nil))))
   cases rx with
    |nil=>exact⟨S2,L2,H2,.slice none 0 0,I2,fun _ h=>h,fun _ _=>rfl,.nilSlice,.nil,.refl _⟩
    |mk a cap F rM hF hE=>
     by_cases h0:args.length=0;·obtain rfl:args=[]:=List.length_eq_zero_iff.mp h0;exact⟨S2,L2,H2,.slice (some ⟨0,0,some 0⟩) 0 0,I2,fun _ h=>h,fun _ _=>rfl,.emp 0 a cap,.emp 0,.refl _⟩
     ·have yl: ∀i,i<args.length->args[i]?=some (args.getD i default):=fun i hi=>by rw[List.getElem?_eq_getElem hi];simp[List.getD,List.getElem?_eq_getElem hi]
      have key: ∀m,m<=args.length-> ∃(S':Nat->Prop) (L':Nat->Ev.Loc) (H':AH) (G:Nat->List Value),Inv W.heap.size S' L' H' W/\(∀i,S2 i->S' i)/\(∀i,S2 i->L' i=L2 i)/\(∀i,i<m->UD S' L' (G i) (F i)/\Ex H' (G i) (args.getD i default))/\Zg H2 H':=by intro m;induction m with
       |zero=>intro _;exact⟨S2,L2,H2,fun _=>[],I2,fun _ h=>h,fun _ _=>rfl,fun i hi=>absurd hi (Nat.not_lt_zero i),.refl _⟩
       |succ m ihm=>
        intro hm;obtain⟨S3,L3,H3,G,I3,s3,l3,g3,k3⟩:=ihm (by omega);have Kq:=yl m (by omega);have hn:=Tb Kq;obtain⟨S4,L4,H4,vs,I4,s4,l4,r4,q4,k4⟩:=ih (args.getD m default) (by omega) (F m) (hE m _ Kq) I3;refine⟨S4,L4,H4,fun i=>if i=m then vs else G i,I4,fun i h=>s4 i (s3 i h),fun i h=>by rw[l4 i (s3 i h),l3 i h],fun i hi=>?_,k3.trans k4⟩;by_cases e:i=m;·subst e;simp only[if_pos];exact⟨r4,q4⟩
        ·simp only[if_neg e];obtain⟨g1,g2⟩:=g3 i (by omega);exact⟨g1.mono s4 l4,g2.keep k4⟩
      obtain⟨S3,L3,H3,G,I3,s3,l3,g3,k3⟩:=key args.length (Nat.le_refl _);have hF0:=hF 0 (by omega);obtain⟨_,f1,f2⟩:=World.cells?_some hF0;have KJ:=f2 0 (by omega);rw[Deep.add_add,List.getElem?_eq_getElem (by omega)]at KJ;have ea:a.add (0*5+0)=a:=rfl;rw[ea]at KJ;have Pf:a.spot=none:=by have uD:=KJ;unfold World.cell? at uD;cases hs:a.spot with
       |none=>rfl
       |some q=>
        rw[hs]at uD;split at uD;·simp at uD
        ·cases uD
      have W3:a.block<W.heap.size:=World.block_lt_of_cell? W a KJ;have hG: ∀i,i<args.length->(G i).length=5:=fun i hi=>(g3 i hi).2.len;obtain⟨S4,L4,H4,I4,s4,l4,k4,c4,sn,ln,n4⟩:=aG (g:=a.block) (o:=a.off) (sz:=5) (cap:=cap) (cs:=((List.range args.length).map G).flatten) (cs':=((List.range args.length).map F).flatten) I3 W3 (Jz Pf args.length hF) (F6 args.length fun i hi=>(g3 i hi).1);refine⟨S4,L4,H4,.slice (some ⟨H3.n,0,none⟩) args.length args.length,I4,fun i h=>s4 i (s3 i h),fun i h=>by rw[l4 i (s3 i h),l3 i h],?_,?_,k3.trans k4⟩
      ·have hv:=VR.slice (S:=S4) (L:=L4) H3.n 0 args.length args.length cap sn rM (Nat.le_refl _) (by rw[ln];simp);rw[ln]at hv;have e:(some (⟨a.block,a.off+0,none⟩:Addr))=some a:=by congr 1;cases a with|mk b o s=>simp at Pf;subst Pf;rfl
       rw[e]at hv;exact hv
      ·refine .mk H3.n 0 args.length (by omega) c4 (Nat.le_refl _) fun i t hi=>?_;have YP:i<args.length:=by
        rcases Nat.lt_or_ge i args.length with h'|h';·exact h'
        ·rw[List.getElem?_eq_none h']at hi;cases hi
       rw[Nat.zero_add,EW args.length hG i YP];have:=(g3 i YP).2.keep k4;rw[yl i YP]at hi;cases hi;exact this
end
end
end Go.Proofs.YtmkfecoeghokfaaGreatDoor
