/-
  THE ENGINE, part G: one operation: what the evaluator says of it is what the machine does.
-/
import Derived.Test.YtldapilhmmbjhaaEvF
namespace Go.Proofs.Ytldapilhmmbjhaa.Ev
open Go Go.RowKit
set_option linter.unusedVariables false
noncomputable section
set_option linter.unusedSimpArgs false

variable {B : Nat} {S : Nat → Prop} {L : Nat → Loc} {H H' : AH} {w w' : World} {P : Program}

theorem copyV_run (hI : Inv B S L H w) {t t2 ty : TypeId} {d d' x x' v : Value} (h : copyV P H t t2 d x = some (v, H')) (hd : VR S L d d') (hx : VR S L x x') :
    ∃ v' w', (Builtin.copy_ #[t, t2] ty #[d', x']).run P w = .ok v' w' ∧ Good B S L H w v H' v' w' := by
  unfold copyV at h
  split at h <;> first | (cases h; done) | skip
  · rename_i e sz by_ y b o dl dc a2 m c2 hs1 hs2
    obtain ⟨hu, hsz, _⟩ := sliceT_spec hs1
    obtain ⟨a2', c2', rfl⟩ := len_of_slice hx
    split at h <;> first | (cases h; done) | skip
    rename_i cs hcs
    split at h <;> first | (cases h; done) | skip
    rename_i H1 hw1
    injection h with h
    injection h with h1 h2
    subst h1; subst h2
    obtain ⟨l', hl1, hl2, hl3⟩ := sliceCells_run (P := P) hI hcs hx
    cases hd with
    | slice _ _ _ _ cap' hS hc hl ht =>
      obtain ⟨_, w', hst, hI', hF⟩ := hI.write hw1 hl1 P
      have hn : H1.n = H.n := by obtain ⟨_, _, _, _, _, hn, _⟩ := blk_write hw1; exact hn
      refine ⟨.int .i64 (Nat.min m dl), w', ?_, L, ?_, hF, .int _ _⟩
      · have h3 := hl3 w rfl
        simp only [Builtin.copy_, List.getElem?_toArray, Sem.run_bind, run_underlying hu, Result.andThen_ok, Builtin.lenOf, Sem.run_pure, hsz]
        simp [run_underlying hu, Builtin.lenOf, hsz, h3, hst, goInt]
      · rw [hn]
        exact hI'.mono (fun _ h => .inl h) (fun i h => by rw [hn]; exact hI.bd i (ext_self h))
  · rename_i e sz by_ y _ dl a2 m c2 hs1 hs2
    obtain ⟨hu, hsz, _⟩ := sliceT_spec hs1
    obtain ⟨a2', c2', rfl⟩ := len_of_slice hx
    cases hb : Nat.beq dl 0 with
    | false => rw [hb] at h; cases h
    | true =>
      rw [hb, cond_true] at h
      injection h with h
      injection h with h1 h2
      subst h1; subst h2
      cases hd
      refine ⟨.int .i64 0, w, ?_, Good.same hI (.int _ _)⟩
      cases a2' <;> simp [Builtin.copy_, run_underlying hu, Builtin.lenOf, hsz, Builtin.firstCells, loadCells, loadCellsFrom, goInt]

theorem lenV_run {t ty : TypeId} {x x' : Value} {n : Nat} (h : lenV P t x = some n) (hx : VR S L x x') (w : World) : (Builtin.len_ #[t] ty #[x']).run P w = .ok (.int .i64 n) w := by
  unfold lenV at h
  split at h
  · rename_i e a m c hu
    obtain rfl := Option.some.inj h
    obtain ⟨a', c', rfl⟩ := len_of_slice hx
    simp [Builtin.len_, run_underlying hu, goInt]
  · rename_i s hu
    obtain rfl := Option.some.inj h
    cases hx
    simp [Builtin.len_, run_underlying hu, goInt]
  · rename_i m e hu
    obtain rfl := Option.some.inj h
    simp [Builtin.len_, run_underlying hu, goInt]
  · rename_i e hu
    split at h
    · rename_i m e2 hu2
      obtain rfl := Option.some.inj h
      simp [Builtin.len_, run_underlying hu, run_underlying hu2, goInt]
    · cases h
  · cases h

theorem VRs.inv1 {x : Value} {xs' : List Value} (h : VRs S L [x] xs') : ∃ x', xs' = [x'] ∧ VR S L x x' := by
  obtain ⟨h1, h2⟩ := h
  match xs', h1 with
  | [x'], _ => exact ⟨x', rfl, h2 0 x x' rfl rfl⟩

theorem VRs.inv2 {x y : Value} {xs' : List Value} (h : VRs S L [x, y] xs') : ∃ x' y', xs' = [x', y'] ∧ VR S L x x' ∧ VR S L y y' := by
  obtain ⟨h1, h2⟩ := h
  match xs', h1 with
  | [x', y'], _ => exact ⟨x', y', rfl, h2 0 x x' rfl rfl, h2 1 y y' rfl rfl⟩

theorem VRs.inv3 {x y z : Value} {xs' : List Value} (h : VRs S L [x, y, z] xs') : ∃ x' y' z', xs' = [x', y', z'] ∧ VR S L x x' ∧ VR S L y y' ∧ VR S L z z' := by
  obtain ⟨h1, h2⟩ := h
  match xs', h1 with
  | [x', y', z'], _ => exact ⟨x', y', z', rfl, h2 0 x x' rfl rfl, h2 1 y y' rfl rfl, h2 2 z z' rfl rfl⟩

theorem minmax_run (big : Bool) {xs xs' : List Value} {v : Value} (h : minmaxV big xs = some v) (hx : VRs S L xs xs') (ts : Array TypeId) (ty : TypeId) (w : World) :
    ((cond big Builtin.max_ Builtin.min_) ts ty xs'.toArray).run P w = .ok v w ∧ VR S L v v := by
  unfold minmaxV at h
  split at h
  · rename_i k a k' b
    obtain ⟨x', y', rfl, h1, h2⟩ := hx.inv2
    cases h1; cases h2
    cases hk : sameKind k k' with
    | false => rw [hk] at h; cases h
    | true =>
      rw [hk, cond_true] at h
      obtain rfl := Option.some.inj h
      refine ⟨?_, .int _ _⟩
      cases big <;> simp [Builtin.max_, Builtin.min_, Builtin.max2, Builtin.min2]
  · rename_i k a k' b k'' c
    obtain ⟨x', y', z', rfl, h1, h2, h3⟩ := hx.inv3
    cases h1; cases h2; cases h3
    cases hk : (sameKind k k' && sameKind k k'') with
    | false => rw [hk] at h; cases h
    | true =>
      rw [hk, cond_true] at h
      obtain rfl := Option.some.inj h
      refine ⟨?_, .int _ _⟩
      cases big <;> simp [Builtin.max_, Builtin.min_, Builtin.max2, Builtin.min2]
  · cases h

theorem builtinV_run (hI : Inv B S L H w) {b : Builtin} {ts : List TypeId} {ty : TypeId} {cs : Array Bool} {xs xs' : List Value} {v : Value} (h : builtinV P H b ts xs = some (v, H')) (hx : VRs S L xs xs') :
    ∃ v' w', (builtin b ts.toArray ty cs xs'.toArray).run P w = .ok (.value v') w' ∧ Good B S L H w v H' v' w' := by
  unfold builtinV at h
  split at h
  · rename_i t x
    obtain ⟨x', rfl, h1⟩ := hx.inv1
    split at h <;> first | (cases h; done) | skip
    rename_i n hn
    injection h with h
    injection h with h2 h3
    subst h2; subst h3
    exact ⟨_, w, by simp only [builtin, Sem.run_bind, lenV_run hn h1, Result.andThen_ok, Sem.run_pure], Good.same hI (.int _ _)⟩
  · rename_i t t2 s x
    obtain ⟨s', x', rfl, h1, h2⟩ := hx.inv2
    obtain ⟨v', w', h3, h4⟩ := appendV_run (ty := ty) hI h h1 h2
    exact ⟨v', w', by simp only [builtin, Sem.run_bind, h3, Result.andThen_ok, Sem.run_pure], h4⟩
  · rename_i t t2 s x
    obtain ⟨s', x', rfl, h1, h2⟩ := hx.inv2
    obtain ⟨v', w', h3, h4⟩ := copyV_run (ty := ty) hI h h1 h2
    exact ⟨v', w', by simp only [builtin, Sem.run_bind, h3, Result.andThen_ok, Sem.run_pure], h4⟩
  · split at h <;> first | (cases h; done) | skip
    rename_i u hu
    injection h with h
    injection h with h2 h3
    subst h2; subst h3
    obtain ⟨h4, h5⟩ := minmax_run (P := P) true hu hx ts.toArray ty w
    exact ⟨_, w, by simp only [builtin, Sem.run_bind, show (Builtin.max_ ts.toArray ty xs'.toArray).run P w = _ from h4, Result.andThen_ok, Sem.run_pure], Good.same hI h5⟩
  · split at h <;> first | (cases h; done) | skip
    rename_i u hu
    injection h with h
    injection h with h2 h3
    subst h2; subst h3
    obtain ⟨h4, h5⟩ := minmax_run (P := P) false hu hx ts.toArray ty w
    exact ⟨_, w, by simp only [builtin, Sem.run_bind, show (Builtin.min_ ts.toArray ty xs'.toArray).run P w = _ from h4, Result.andThen_ok, Sem.run_pure], Good.same hI h5⟩
  · cases h

/-! ### one operation -/
def Yield (P : Program) (o : Oper) (a : Act) (w : World) (R : Value → World → Prop) : Prop :=
  (∃ v' w', (execOp a.eval o).run P w = .ok (.value v') w' ∧ R v' w') ∨
  (∃ w', (execOp a.eval o).run P w = .ok .skip w' ∧ R undef w') ∨
  ∃ f args w1, (execOp a.eval o).run P w = .ok (.enter f args) w1 ∧ Calls P f args w1 fun e w' => ∃ v', e = .returned v' ∧ R v' w'

theorem Yield.wp {o : Oper} {a : Act} {R : Value → World → Prop} {K : Act → World → Prop} {Q : Exit → Act → World → Prop} (h : Yield P o a w R) (hK : ∀ v' w', R v' w' → K (a.put o.dst v') w') : o.wp P a w K Q := by
  unfold Oper.wp
  rcases h with ⟨v', w', h1, h2⟩ | ⟨w', h1, h2⟩ | ⟨f, args, w1, h1, h2⟩
  · rw [h1]; exact hK _ _ h2
  · rw [h1]; exact hK _ _ h2
  · rw [h1]
    refine h2.mono fun e w' ⟨v', he, hR⟩ => ?_
    subst he
    exact hK _ _ hR

/-- A call as the evaluator has it. -/
def CallOk (P : Program) (C : Cfg) (B : Nat) (call : FuncId → List Value → AH → Option (Value × AH)) : Prop :=
  ∀ f args H v H', call f args H = some (v, H') → ∀ S L w args', GO C S L → Inv B S L H w → VRs S L args args' →
    (∃ v' w', (callFunc f args'.toArray).run P w = .ok (.value v') w' ∧ Good B S L H w v H' v' w') ∨
    ((callFunc f args'.toArray).run P w = .ok (.enter f args'.toArray) w ∧ Calls P f args'.toArray w fun e w' => ∃ v', e = .returned v' ∧ Good B S L H w v H' v' w')

theorem optOpd_ov {C : Cfg} {tm : Tr Value} {a : Act} {x : Option Operand} {v : Option Value} (hx : ∀ y, x = some y → ∀ u, opd C tm y = some u → VR S L u (a.eval y)) (h : optOpd C tm x = some v) : OV S L v (x.map a.eval) := by
  rcases optOpd_vr' hx h with ⟨rfl, rfl⟩ | ⟨y, u, rfl, rfl, hv⟩
  · exact .inl ⟨rfl, rfl⟩
  · exact .inr ⟨u, _, rfl, rfl, hv⟩

theorem Good.of_same_heap (hI : Inv B S L H w) {v v' : Value} {w' : World} (hn : H'.n = H.n) (hI' : Inv B S L H' w') (hF : Fr S L H w L H' w') (hv : VR S L v v') : Good B S L H w v H' v' w' :=
  ⟨L, hI'.mono (fun _ h => .inl h) (fun i h => by rw [hn] at h ⊢; exact hI.bd i (ext_self h)), hF, hv.mono (fun _ h => .inl h) (fun _ _ => rfl)⟩

theorem storeV_n {t : TypeId} {x v : Value} (h : storeV P H t x v = some H') : H'.n = H.n := by
  unfold storeV at h
  split at h <;> first | (cases h; done) | skip
  split at h <;> first | (cases h; done) | skip
  cases hb : Nat.beq v.cells.size _ with
  | false => rw [hb] at h; cases h
  | true => rw [hb, cond_true] at h; obtain ⟨_, _, _, _, _, hn, _⟩ := blk_write h; exact hn

theorem newPtr_vr (n g top : Nat) : VR (ext S n (n + 1)) (put L n ⟨g, 0, 1, top⟩) (.pointer (some ⟨n, 0, none⟩)) (.pointer (some ⟨g, 0, none⟩)) := by
  have := VR.ptr (S := ext S n (n + 1)) (L := put L n ⟨g, 0, 1, top⟩) n 0 (.inr ⟨Nat.le_refl _, Nat.lt_succ_self _⟩)
  rw [put_at] at this
  exact this

theorem newVar_good (hI : Inv B S L H w) (e : TypeId) {v v' : Value} (hv : VR S L v v') :
    Good B S L H w (.pointer (some ⟨H.n, 0, none⟩)) (H.new 1 v.cells.toList) (.pointer (some ⟨w.heap.size, 0, none⟩)) (w.alloc (.cells v'.cells e)) :=
  Good.new hI 1 0 _ v'.cells e (Nat.zero_le _) (fun k u hk => by
    obtain ⟨u', h1, h2⟩ := hv.cells.get hk
    exact ⟨u', by rw [← Array.getElem?_toList]; exact h1, h2⟩) (newPtr_vr _ _ _)

theorem evOp_sound {C : Cfg} {call : FuncId → List Value → AH → Option (Value × AH)} (hcall : CallOk P C B call) (hG : GO C S L) {tm : Tr Value} {a : Act} (hI : Inv B S L H w)
    {o : Oper} {v : Value} (hops : ∀ x ∈ o.op.operands, ∀ u, opd C tm x = some u → VR S L u (a.eval x)) (h : evOp P C call tm H o.op = some (v, H')) : Yield P o a w (Good B S L H w v H') := by
  obtain ⟨dst, op, ty, pos, after, guard⟩ := o
  have hv := fun {x : Operand} (hx : x ∈ op.operands) {u : Value} (h : opd C tm x = some u) => hops x hx u h
  clear hops
  cases op <;> simp only [evOp, oMove, oAssign, oPick, oBinOp, oUnOp, oConvert, oExtract, oIndexAddr, oIndex, oLoad, oStore, oField, oFieldAddr, oSlice, oMakeSlice, oBuildSlice, oBuild, oAlloc, oBox, oNilCheck, oMakeFunc, oCall] at h <;> first | (cases h; done) | skip
  case move x =>
    split at h <;> first | (cases h; done) | skip
    rename_i u h1
    have h2 := h
    cases h2
    exact .inl ⟨_, w, rfl, Good.same hI (hv (by simp [Op.operands]) h1)⟩
  case assign x =>
    split at h <;> first | (cases h; done) | skip
    rename_i u h1
    have h2 := h
    cases h2
    exact .inl ⟨_, w, rfl, Good.same hI (hv (by simp [Op.operands]) h1)⟩
  case pick c x y =>
    split at h <;> first | (cases h; done) | skip
    rename_i t h1
    split at h <;> first | (cases h; done) | skip
    rename_i u h2
    have h3 := h
    cases h3
    have hc := hv (by simp [Op.operands]) h1
    generalize hce : a.eval c = c' at hc
    cases hc
    refine .inl ⟨_, w, ?_, Good.same hI (hv (by cases t <;> simp [Op.operands]) h2)⟩
    cases t <;> simp [execOp, hce, asBool]
  case binOp op t x y yt =>
    split at h <;> first | (cases h; done) | skip
    rename_i u v' h1 h2
    split at h <;> first | (cases h; done) | skip
    rename_i r h3
    have h4 := h
    cases h4
    obtain ⟨h5, h6⟩ := binV_run (P := P) h3 (hv (by simp [Op.operands]) h1) (hv (by simp [Op.operands]) h2) x y w
    refine .inl ⟨_, w, ?_, Good.same hI h6⟩
    simp only [execOp, Sem.run_bind]
    simp only [Sem.run_bind] at h5
    rw [h5]
    rfl
  case unOp op t x =>
    split at h <;> first | (cases h; done) | skip
    rename_i u h1
    have h2 := h
    split at h2 <;> first | (cases h2; done) | skip
    rename_i r h3
    have h4 := h2
    cases h4
    obtain ⟨h5, h6⟩ := unV_run (P := P) h3 (hv (by simp [Op.operands]) h1) w
    exact .inl ⟨_, w, by simp only [execOp, Sem.run_bind, h5, Result.andThen_ok, Sem.run_pure], Good.same hI h6⟩
  case convert s d x =>
    split at h <;> first | (cases h; done) | skip
    rename_i u h1
    have h2 := h
    split at h2 <;> first | (cases h2; done) | skip
    rename_i r h3
    have h4 := h2
    cases h4
    obtain ⟨h5, h6⟩ := convV_run (P := P) h3 (hv (by simp [Op.operands]) h1) w
    exact .inl ⟨_, w, by simp only [execOp, Sem.run_bind, h5, Result.andThen_ok, Sem.run_pure], Good.same hI h6⟩
  case extract x i =>
    split at h <;> first | (cases h; done) | skip
    rename_i vs h1
    split at h <;> first | (cases h; done) | skip
    rename_i r h3
    have h4 := h
    cases h4
    have hc := hv (by simp [Op.operands]) h1
    generalize hce : a.eval x = c' at hc
    cases hc with
    | tuple _ vs' hs hc =>
      have hlt : i < vs'.size := by
        rw [← hs]
        rcases Nat.lt_or_ge i vs.size with h' | h'
        · exact h'
        · rw [Array.getElem?_eq_none h'] at h3; cases h3
      have e := Array.getElem?_eq_getElem hlt
      exact .inl ⟨vs'[i], w, by simp [execOp, hce, Instr.extract, e], Good.same hI (hc i _ _ h3 e)⟩
  case indexAddr t x i =>
    split at h <;> first | (cases h; done) | skip
    rename_i u v' h1 h2
    split at h <;> first | (cases h; done) | skip
    rename_i r h3
    have h4 := h
    cases h4
    obtain ⟨r', h5, h6⟩ := indexAddrV_run (P := P) h3 (hv (by simp [Op.operands]) h1) (hv (by simp [Op.operands]) h2) w
    exact .inl ⟨r', w, by simp only [execOp, Sem.run_bind, h5, Result.andThen_ok, Sem.run_pure], Good.same hI h6⟩
  case index t x i =>
    split at h <;> first | (cases h; done) | skip
    rename_i u v' h1 h2
    split at h <;> first | (cases h; done) | skip
    rename_i r h3
    have h4 := h
    cases h4
    obtain ⟨r', h5, h6⟩ := indexV_run (P := P) h3 (hv (by simp [Op.operands]) h1) (hv (by simp [Op.operands]) h2) w
    exact .inl ⟨r', w, by simp only [execOp, Sem.run_bind, h5, Result.andThen_ok, Sem.run_pure], Good.same hI h6⟩
  case load t x =>
    split at h <;> first | (cases h; done) | skip
    rename_i u h1
    have h2 := h
    split at h2 <;> first | (cases h2; done) | skip
    rename_i r h3
    have h4 := h2
    cases h4
    obtain ⟨r', h5, h6⟩ := loadV_run (P := P) hI h3 (hv (by simp [Op.operands]) h1)
    exact .inl ⟨r', w, by simp only [execOp, Sem.run_bind, h5, Result.andThen_ok, Sem.run_pure], Good.same hI h6⟩
  case store t x y =>
    split at h <;> first | (cases h; done) | skip
    rename_i u v' h1 h2
    split at h <;> first | (cases h; done) | skip
    rename_i r h3
    have h4 := h
    cases h4
    obtain ⟨w', h5, h6, h7⟩ := storeV_run (P := P) hI h3 (hv (by simp [Op.operands]) h1) (hv (by simp [Op.operands]) h2)
    refine .inr (.inl ⟨w', by simp only [execOp, Sem.run_bind, h5, Result.andThen_ok, Sem.run_pure], Good.of_same_heap hI (storeV_n h3) h6 h7 ?_⟩)
    exact .tuple _ _ rfl (fun k v v' h => by simp at h)
  case field t x f =>
    split at h <;> first | (cases h; done) | skip
    rename_i u h1
    have h2 := h
    split at h2 <;> first | (cases h2; done) | skip
    rename_i r h3
    have h4 := h2
    cases h4
    obtain ⟨r', h5, h6⟩ := fieldV_run (P := P) h3 (hv (by simp [Op.operands]) h1) w
    exact .inl ⟨r', w, by simp only [execOp, Sem.run_bind, h5, Result.andThen_ok, Sem.run_pure], Good.same hI h6⟩
  case fieldAddr t x f =>
    split at h <;> first | (cases h; done) | skip
    rename_i u h1
    have h2 := h
    split at h2 <;> first | (cases h2; done) | skip
    rename_i r h3
    have h4 := h2
    cases h4
    obtain ⟨r', h5, h6⟩ := fieldAddrV_run (P := P) h3 (hv (by simp [Op.operands]) h1) w
    exact .inl ⟨r', w, by simp only [execOp, Sem.run_bind, h5, Result.andThen_ok, Sem.run_pure], Good.same hI h6⟩
  case slice t x lo hi mx =>
    split at h <;> first | (cases h; done) | skip
    rename_i u l hh m h1 h2 h3 h4
    split at h <;> first | (cases h; done) | skip
    rename_i r h5
    have h6 := h
    cases h6
    obtain ⟨r', h7, h8⟩ := sliceV_run (P := P) hI h5 (hv (by simp [Op.operands]) h1) (optOpd_ov (fun y hy u h => hv (by simp [Op.operands, hy]) h) h2) (optOpd_ov (fun y hy u h => hv (by simp [Op.operands, hy]) h) h3) (optOpd_ov (fun y hy u h => hv (by simp [Op.operands, hy]) h) h4)
    exact .inl ⟨r', w, by simp only [execOp, Sem.run_bind, h7, Result.andThen_ok, Sem.run_pure], Good.same hI h8⟩
  case makeSlice t l c =>
    split at h <;> first | (cases h; done) | skip
    rename_i u v' h1 h2
    obtain ⟨r', w', h5, h6⟩ := makeSliceV_run (P := P) hI h (hv (by simp [Op.operands]) h1) (hv (by simp [Op.operands]) h2)
    exact .inl ⟨r', w', by simp only [execOp, Sem.run_bind, h5, Result.andThen_ok, Sem.run_pure], h6⟩
  case buildSlice t n ps =>
    split at h <;> first | (cases h; done) | skip
    rename_i l h1
    have h2 := h
    obtain ⟨r', w', h5, h6⟩ := buildSliceV_run (P := P) hI h2 (parts_vr' (fun p hp u h => hv (by simp only [Op.operands, List.mem_toArray, List.mem_map]; exact ⟨p, hp, rfl⟩) h) h1)
    have e : (ps.map fun (i, x) => (i, a.eval x)) = (ps.toList.map fun (i, x) => (i, a.eval x)).toArray := by apply Array.ext'; simp
    exact .inl ⟨r', w', by simp only [execOp, Sem.run_bind, e, h5, Result.andThen_ok, Sem.run_pure], h6⟩
  case build t ps =>
    split at h <;> first | (cases h; done) | skip
    rename_i l h1
    have h2 := h
    split at h2 <;> first | (cases h2; done) | skip
    rename_i r h3
    have h4 := h2
    cases h4
    obtain ⟨r', h5, h6⟩ := buildV_run (P := P) h3 (parts_vr' (fun p hp u h => hv (by simp only [Op.operands, List.mem_toArray, List.mem_map]; exact ⟨p, hp, rfl⟩) h) h1) w
    have e : (ps.map fun (i, x) => (i, a.eval x)) = (ps.toList.map fun (i, x) => (i, a.eval x)).toArray := by apply Array.ext'; simp
    exact .inl ⟨r', w, by simp only [execOp, Sem.run_bind, e, h5, Result.andThen_ok, Sem.run_pure], Good.same hI h6⟩
  case alloc e =>
    split at h <;> first | (cases h; done) | skip
    rename_i z h1
    have h2 := h
    cases h2
    obtain ⟨hp, hz⟩ := zeroT_spec h1
    exact .inl ⟨_, _, by simp [execOp, Instr.alloc, hz, newVar, newRow], newVar_good hI e (plain_vr hp)⟩
  case box e x =>
    split at h <;> first | (cases h; done) | skip
    rename_i u h1
    have h2 := h
    cases h2
    exact .inl ⟨_, _, by simp [execOp, Instr.box, newVar, newRow], newVar_good hI e (hv (by simp [Op.operands]) h1)⟩
  case nilCheck x =>
    split at h <;> first | (cases h; done) | skip
    rename_i p h1
    cases h
    have hc := hv (by simp [Op.operands]) h1
    generalize hce : a.eval x = c' at hc
    cases hc with
    | ptr i o hS => exact .inl ⟨_, w, by simp [execOp, hce], Good.same hI (.ptr i o hS)⟩
  case makeFunc fn fs cs =>
    split at h <;> first | (cases h; done) | skip
    rename_i u v' h1 h2
    cases h
    have hf := opds_vr' (ρ := a.eval) (fun x hx u h => hv (by simp only [Op.operands, Array.mem_append]; exact .inl (by simpa using hx)) h) h1
    have hc := opds_vr' (ρ := a.eval) (fun x hx u h => hv (by simp only [Op.operands, Array.mem_append]; exact .inr (by simpa using hx)) h) h2
    refine .inl ⟨.func fn (fs.map a.eval) (cs.map a.eval), w, by simp [execOp, Instr.makeFunc], Good.same hI (.func _ _ _ _ _ ?_ (fun k x y hx hy => ?_) ?_ (fun k x y hx hy => ?_))⟩
    · have := hf.1; simpa using this
    · exact hf.2 k x y (by simpa using hx) (by simpa using hy)
    · have := hc.1; simpa using this
    · exact hc.2 k x y (by simpa using hx) (by simpa using hy)
  case call c =>
    obtain ⟨callee, cargs, cts⟩ := c
    cases callee <;> simp only at h <;> first | (cases h; done) | skip
    case builtin b =>
      split at h <;> first | (cases h; done) | skip
      rename_i xs h1
      have h2 := h
      have hx := opds_vr' (ρ := a.eval) (fun x hx u h => hv (by simp only [Op.operands, Call.operands, Array.mem_append]; exact .inr (by simpa using hx)) h) h1
      obtain ⟨v', w', h3, h4⟩ := builtinV_run (P := P) (ty := ty) (cs := cargs.map fun | .const _ => true | _ => false) hI h2 hx
      refine .inl ⟨v', w', ?_, h4⟩
      have e : cargs.map a.eval = (cargs.toList.map a.eval).toArray := by apply Array.ext'; simp
      have e2 : cts.toList.toArray = cts := by simp
      rw [e2] at h3
      simp only [execOp, resolve, Sem.run_bind, Sem.run_pure, Result.andThen_ok, invoke, e]
      exact h3
    case value f =>
      split at h <;> first | (cases h; done) | skip
      rename_i fv h1
      have h2 := h
      split at h2 <;> first | (cases h2; done) | skip
      rename_i g fs cs xs h3 h4
      have hf := hv (by simp [Op.operands, Call.operands]) h1
      have hx := opds_vr' (ρ := a.eval) (fun x hx u h => hv (by simp only [Op.operands, Call.operands, Array.mem_append]; exact .inr (by simpa using hx)) h) h4
      generalize hfe : a.eval f = f' at hf
      unfold calleeV at h3
      split at h3 <;> first | (cases h3; done) | skip
      rename_i g' fs0 cs0
      injection h3 with h3
      injection h3 with h5 h6
      injection h6 with h6 h7
      subst h5; subst h6; subst h7
      cases hf with
      | func _ _ fs' _ cs' e1 q1 e2 q2 =>
        have hfs : VRs S L fs0.toList fs'.toList := ⟨by simpa using e1, fun k x y hx hy => q1 k x y (by simpa using hx) (by simpa using hy)⟩
        have hcs : VRs S L cs0.toList cs'.toList := ⟨by simpa using e2, fun k x y hx hy => q2 k x y (by simpa using hx) (by simpa using hy)⟩
        have hall := (hfs.append hx).append hcs
        have e : fs' ++ cargs.map a.eval ++ cs' = (fs'.toList ++ cargs.toList.map a.eval ++ cs'.toList).toArray := by apply Array.ext'; simp
        have hrun : (execOp a.eval { dst, op := Op.call { callee := .value f, args := cargs, argTypes := cts }, type := ty, pos, after, guard }).run P w = (callFunc g' (fs'.toList ++ cargs.toList.map a.eval ++ cs'.toList).toArray).run P w := by
          rw [← e]
          simp [execOp, resolve, hfe, Deferred.ofValue, invoke]
        rcases hcall _ _ _ _ _ h2 S L w _ hG hI hall with ⟨v', w', h8, h9⟩ | ⟨h8, h9⟩
        · exact .inl ⟨v', w', hrun.trans h8, h9⟩
        · exact .inr (.inr ⟨_, _, w, hrun.trans h8, h9⟩)

end
end Go.Proofs.Ytldapilhmmbjhaa.Ev
