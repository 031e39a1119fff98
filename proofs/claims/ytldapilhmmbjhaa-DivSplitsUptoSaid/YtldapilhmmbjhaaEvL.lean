/-
  THE ENGINE, part L: regions that draw their order: an operation that writes; every order.
-/
import Derived.Test.YtldapilhmmbjhaaEvK
import Derived.Eval
namespace Go.Proofs.Ytldapilhmmbjhaa.Ev
open Go Go.RowKit
set_option linter.unusedVariables false
noncomputable section
set_option linter.unusedSimpArgs false

section
variable {P : Program} {C : Cfg} {call : FuncId → List Value → AH → Option (Value × AH)} {ops : Array Oper} {st : Nat → St} {val : Nat → Value} {q : Nat → Bool} {ms : Nat → List (Nat × Nat × Nat)} {s s' : St}
variable {B : Nat} {S0 : Nat → Prop} {L0 : Nat → Loc} {w0 : World} {D : Nat → Prop} {L : Nat → Loc} {HD : AH} {a : Act} {w : World}

def allOf (st : Nat → St) (i : Nat) : AH := { n := (st i).H.n, lw := (st i).H.n, t := (st i).H.t }

theorem dead_from (hI0 : Inv B S0 L0 (st 0).H w0) : ∀ j, (st 0).H.n ≤ j → (st 0).H.blk j = .dead := fun j hj => by
  cases hb : (st 0).H.blk j with
  | dead => rfl
  | ro sz cs => exact absurd (hI0.bd j (hI0.ro j sz cs hb).1) (by omega)
  | rw sz cs => exact absurd (hI0.bd j (hI0.rw j sz cs hb).1) (by omega)

/-- When an operation that stands alone comes up, the heap is the text's. -/
theorem ID.all (T : Trace P C call ops st val q ms s s') (hI0 : Inv B S0 L0 (st 0).H w0) (h : ID ops st S0 q val B L0 w0 D L HD a w) {i : Nat} (hi : i < ops.size)
    (hD : ∀ m, isW ops st m → (D m ↔ m < i)) (hWi : isW ops st i) : HD.lw = (st i).H.lw ∧ ∀ j, HD.blk j = (st i).H.blk j := by
  rcases h.regime with ⟨r1, r2, r3, r4, r5⟩ | ⟨k, r1, r2, r3, r4, r5⟩
  · have hqi : q i = false := T.q_false i (Nat.le_of_lt hi) (fun m hm hw => r1 m hw ((hD m hw).mpr hm))
    obtain ⟨g1, g2, g3⟩ := T.grown (dead_from hI0) i (Nat.le_of_lt hi) hqi
    refine ⟨r2.trans g1.symm, fun j => ?_⟩
    rcases Nat.lt_or_ge j (st i).H.n with hlt | hge
    · refine r4 i (Nat.le_of_lt hi) hqi j hlt ?_
      rcases Nat.lt_or_ge j (st 0).H.n with h0 | h0
      · exact .inl h0
      · obtain ⟨m, h1, h2, h3⟩ := T.range h0 (Nat.le_of_lt hi) hlt
        exact .inr ⟨m, by omega, (hD m (T.isW_of (by omega) (by omega))).mpr h1, h2, h3⟩
    · rw [g2 j hge]
      refine r3 j fun hl => ?_
      rcases hl with hl | ⟨l, h1, h2, h3, h4⟩
      · have := T.n_mono (i := 0) (j := i) (Nat.zero_le _) (Nat.le_of_lt hi); omega
      · have hlt := (hD l (T.isW_of h1 (by omega))).mp h2
        have := T.n_mono (i := l + 1) (j := i) (by omega) (Nat.le_of_lt hi); omega
  · have hk : k ≤ i := by
      rcases Nat.lt_or_ge i k with h' | h'
      · have := (hD i hWi).mp ((r3 i hWi).mpr h'); omega
      · exact h'
    have := T.still i hk (Nat.le_of_lt hi) (fun m h1 h2 hw => by
      have := (r3 m hw).mp ((hD m hw).mpr h2); omega)
    rw [this]
    exact ⟨r4, r5⟩

theorem ID.seesAll (T : Trace P C call ops st val q ms s s') (hI0 : Inv B S0 L0 (st 0).H w0) (h : ID ops st S0 q val B L0 w0 D L HD a w) {i : Nat} (hi : i < ops.size)
    (hD : ∀ m, isW ops st m → (D m ↔ m < i)) (hWi : isW ops st i) : Inv B (SDs ops st S0 D) L (allOf st i) w := by
  have hb := (h.all T hI0 hi hD hWi).2
  have hb' : ∀ j, (allOf st i).blk j = HD.blk j := fun j => (hb j).symm
  refine ⟨fun j sz cs hj => h.inv.ro j sz cs (by rw [← hb']; exact hj), fun j sz cs hj => h.inv.rw j sz cs (by rw [← hb']; exact hj), fun j j' a b c d hj hj' e => h.inv.dj j j' a b c d (by rw [← hb']; exact hj) (by rw [← hb']; exact hj') e, fun j hj => ?_, h.inv.base⟩
  show j < (st i).H.n
  rcases hj with hj | ⟨l, h1, h2, h3, h4⟩
  · exact Nat.lt_of_lt_of_le (hI0.bd j hj) (T.n_mono (Nat.zero_le _) (Nat.le_of_lt hi))
  · have := (hD l (T.isW_of h1 (by omega))).mp h2
    exact Nat.lt_of_lt_of_le h4 (T.n_mono (by omega) (Nat.le_of_lt hi))

/-- An operation that writes. -/
theorem ID.write (T : Trace P C call ops st val q ms s s') (hR : RegOk ops) (hI0 : Inv B S0 L0 (st 0).H w0) (h : ID ops st S0 q val B L0 w0 D L HD a w) {i : Nat} {o : Oper} (ho : ops[i]? = some o) (hDi : ¬ D i)
    (hcl : ∀ i m, i < ops.size → D i → bef ops i m → D m) (hD : ∀ m, isW ops st m → (D m ↔ m < i)) (hbef : ∀ m, isW ops st m → m < i → bef ops i m) (hWi : isW ops st i) (hq1 : q (i + 1) = true)
    {H2 : AH} (hn2 : (st i).H.n ≤ H2.n) (hE : (st (i + 1)).H.n = H2.n) (hlw : (st (i + 1)).H.lw = min (st i).H.lw H2.lw) (hblk : ∀ j, (st (i + 1)).H.blk j = H2.blk j)
    {v' : Value} {w' : World} (hg : Good B (SDs ops st S0 D) L (allOf st i) w (val i) H2 v' w') :
    ∃ L2 HD2, ID ops st S0 q val B L0 w0 (fun m => D m ∨ m = i) L2 HD2 (a.put o.dst v') w' := by
  have hi := lt_of_some ho
  obtain ⟨L', gI, gF, gV⟩ := hg
  have hMn : (allOf st i).n = (st i).H.n := rfl
  rw [hMn] at gI gV
  obtain ⟨hlwD, hb⟩ := h.all T hI0 hi hD hWi
  have hM := h.seesAll T hI0 hi hD hWi
  have hMb : ∀ j, (allOf st i).blk j = HD.blk j := fun j => (hb j).symm
  have hn0 : (st 0).H.n ≤ (st i).H.n := T.n_mono (Nat.zero_le _) (Nat.le_of_lt hi)
  have hEN : H2.n ≤ (st ops.size).H.n := by rw [← hE]; exact T.n_mono (by omega) (Nat.le_refl _)
  have hSD' : ∀ j, SDs ops st S0 (fun m => D m ∨ m = i) j ↔ ext (SDs ops st S0 D) (st i).H.n H2.n j := fun j => by
    constructor
    · rintro (h1 | ⟨l, h1, h2 | h2, h3, h4⟩)
      · exact .inl (.inl h1)
      · exact .inl (.inr ⟨l, h1, h2, h3, h4⟩)
      · subst h2; exact .inr ⟨h3, by rw [← hE]; exact h4⟩
    · rintro ((h1 | ⟨l, h1, h2, h3⟩) | ⟨h1, h2⟩)
      · exact .inl h1
      · exact .inr ⟨l, h1, .inl h2, h3⟩
      · exact .inr ⟨i, hi, .inr rfl, h1, by rw [hE]; exact h2⟩
  have hSk : ∀ j, ext (SDs ops st S0 D) (st i).H.n H2.n j → Sk ops st S0 i j := by
    rintro j ((hj | ⟨l, h1, h2, h3, h4⟩) | ⟨h1, h2⟩)
    · exact .inl hj
    · have hw := T.isW_of h1 (by omega)
      exact .inr ⟨l, .inr (hbef l hw ((hD l hw).mp h2)), h3, h4⟩
    · exact .inr ⟨i, .inl rfl, h1, by rw [hE]; exact h2⟩
  let HD2 : AH := { n := HD.n, lw := min HD.lw H2.lw, t := H2.t }
  have hB2 : ∀ j, HD2.blk j = H2.blk j := fun j => rfl
  have hinv : Inv B (SDs ops st S0 (fun m => D m ∨ m = i)) L' HD2 w' := by
    have hmono := gI.mono (S' := SDs ops st S0 (fun m => D m ∨ m = i)) (fun j hj => (hSD' j).mpr hj) (fun j hj => gI.bd j ((hSD' j).mp hj))
    exact ⟨hmono.ro, hmono.rw, hmono.dj, fun j hj => by
      show j < HD.n
      have := gI.bd j ((hSD' j).mp hj)
      rw [h.hn]; omega, hmono.base⟩
  have hback : ∀ j, j < (st i).H.n → ∀ sz cs, H2.blk j = .rw sz cs → ∃ cs0, HD.blk j = .rw sz cs0 ∧ L' j = L j := fun j hj sz cs hbj => by
    obtain ⟨cs0, h0⟩ := gF.back j hj sz cs hbj
    exact ⟨cs0, by rw [← hMb]; exact h0, gF.agree j (hM.rw j sz cs0 h0).1⟩
  have hlift : ∀ i1 sz1 cs1, HD.blk i1 = .rw sz1 cs1 → H2.lw ≤ i1 → w0.heap.size ≤ (L i1).g ∨ ∃ i0 sz0 cs0, (st 0).H.blk i0 = .rw sz0 cs0 ∧ (L0 i0).g = (L i1).g ∧ min HD.lw H2.lw ≤ i0 := fun i1 sz1 cs1 h1 hl => by
    rcases Nat.lt_or_ge i1 (st 0).H.n with hlt | hge
    · obtain ⟨cs0, h0⟩ := h.back i1 hlt sz1 cs1 h1
      exact .inr ⟨i1, sz1, cs0, h0, by rw [h.agree i1 (hI0.rw i1 sz1 cs0 h0).1], Nat.le_trans (Nat.min_le_right _ _) hl⟩
    · rcases h.newg i1 hge sz1 cs1 h1 with h2 | ⟨i0, sz0, cs0, h0, e0, l0⟩
      · exact .inl h2
      · exact .inr ⟨i0, sz0, cs0, h0, e0, Nat.le_trans (Nat.min_le_left _ _) l0⟩
  obtain ⟨s1, s2, s3, s4⟩ := h.slots T hR ho hDi hcl (L' := L') gF.agree (v' := v') (gV.mono hSk (fun _ _ => rfl))
  refine ⟨L', HD2, ⟨fun j hj => (gF.agree j (.inl hj)).trans (h.agree j hj), hinv, h.hn, fun j hj hl => ?_, fun j hj sz cs hbj => ?_, fun j hj sz cs hbj => ?_, gF.os.trans h.os, gF.tape.trans h.tape, gF.output.trans h.output,
    Nat.le_trans h.wsize gF.size, fun g hg => ?_, Nat.le_trans (Nat.min_le_left _ _) h.lwle, s1, s2, s3, s4, .inr ⟨i + 1, hi, hq1, fun m hm => ?_, by rw [hlw, ← hlwD], fun j => (hblk j).symm⟩⟩⟩
  · have hl1 : j < HD.lw := Nat.lt_of_lt_of_le hl (Nat.min_le_left _ _)
    have hl2 : j < H2.lw := Nat.lt_of_lt_of_le hl (Nat.min_le_right _ _)
    rw [hB2, gF.keep j (Nat.lt_of_lt_of_le hj hn0) hl2, hMb]
    exact h.keep j hj hl1
  · rw [hB2] at hbj
    obtain ⟨cs0, h0, _⟩ := hback j (Nat.lt_of_lt_of_le hj hn0) sz cs hbj
    exact h.back j hj sz cs0 h0
  · rw [hB2] at hbj
    rcases Nat.lt_or_ge j (st i).H.n with hlt | hge
    · obtain ⟨cs0, h0, hLj⟩ := hback j hlt sz cs hbj
      rw [hLj]
      rcases h.newg j hj sz cs0 h0 with h2 | ⟨i0, sz0, cs1, h1, e1, l1⟩
      · exact .inl h2
      · exact .inr ⟨i0, sz0, cs1, h1, e1, Nat.le_trans (Nat.min_le_left _ _) l1⟩
    · rcases gF.newg j hge sz cs hbj with h1 | ⟨i1, sz1, cs1, h1, e1, l1⟩
      · exact .inl (Nat.le_trans h.wsize h1)
      · rw [hMb] at h1
        rw [← e1]
        exact hlift i1 sz1 cs1 h1 l1
  · rcases gF.frame g (Nat.lt_of_lt_of_le hg h.wsize) with h1 | ⟨i1, sz1, cs1, h1, e1, l1⟩
    · rcases h.frame g hg with h2 | ⟨i0, sz0, cs0, h2, e2, l2⟩
      · exact .inl (h1.trans h2)
      · exact .inr ⟨i0, sz0, cs0, h2, e2, Nat.le_trans (Nat.min_le_left _ _) l2⟩
    · rw [hMb] at h1
      rcases hlift i1 sz1 cs1 h1 l1 with h2 | ⟨i0, sz0, cs0, h2, e2, l2⟩
      · rw [e1] at h2; omega
      · exact .inr ⟨i0, sz0, cs0, h2, e2.trans e1, l2⟩
  · constructor
    · rintro (hD1 | hD1)
      · have := (hD m hm).mp hD1; omega
      · omega
    · intro hlt
      by_cases e : m = i
      · exact .inr e
      · exact .inl ((hD m hm).mpr (by omega))

theorem opd_vr2 {C : Cfg} {S : Nat → Prop} {L : Nat → Loc} (hG : GO C S L) {tm : Tr Value} {a : Act} {x : Operand} (ht : ∀ t v, x = .tmp t → tm.get t = some v → VR S L v (a.tmps.getD t undef)) {v : Value} (h : opd C tm x = some v) : VR S L v (a.eval x) := by
  cases x with
  | tmp t => exact ht t v rfl h
  | const u =>
    simp only [opd] at h
    cases hp : plain u with
    | false => rw [hp] at h; cases h
    | true => rw [hp] at h; obtain rfl := Option.some.inj h; exact plain_vr hp
  | global g =>
    simp only [opd] at h
    cases hg : Nat.blt g C.ng with
    | false => rw [hg] at h; cases h
    | true =>
      rw [hg] at h
      obtain rfl := Option.some.inj h
      obtain ⟨h1, h2, h3⟩ := hG g (by simpa [Nat.blt_eq] using hg)
      have := VR.ptr (S := S) (L := L) g 0 h1
      rw [h2, h3] at this
      exact this
  | func f =>
    obtain rfl := Option.some.inj h
    exact .func _ _ _ _ _ rfl (fun k v v' h1 => by simp at h1) rfl (fun k v v' h1 => by simp at h1)

theorem looks_tmp {o : Oper} {t : Nat} (h : Operand.tmp t ∈ o.op.operands) : t ∈ o.looksAt ops :=
  List.mem_append_left _ (List.mem_filterMap.2 ⟨.tmp t, by simpa using h, rfl⟩)

theorem looks_guard {o : Oper} {j : Nat} {want : Bool} {d : Tmp} (h : o.guard = some (j, want)) (hd : (ops[j]?).bind (·.dst) = some d) : d ∈ o.looksAt ops := by
  refine List.mem_append_right _ ?_
  rw [h]
  simp only [hd]
  simp

/-- One operation, whatever has been done. -/
theorem ID.step (T : Trace P C call ops st val q ms s s') (hR : RegOk ops) (hcall : CallOk P C B call) (hG : GO C S0 L0) (hI0 : Inv B S0 L0 (st 0).H w0) (h : ID ops st S0 q val B L0 w0 D L HD a w)
    {i : Nat} {o : Oper} (ho : ops[i]? = some o) (hDi : ¬ D i) (hpre : ∀ m, bef ops i m → D m) (hcl : ∀ i m, i < ops.size → D i → bef ops i m → D m)
    {K : Act → World → Prop} {Q : Exit → Act → World → Prop} (hK : ∀ L2 HD2 a' w', ID ops st S0 q val B L0 w0 (fun m => D m ∨ m = i) L2 HD2 a' w' → K a' w') : wpOp P ops Q i K a w := by
  have hi := lt_of_some ho
  have hlook := fun {t : Nat} (ht : t ∈ o.looksAt ops) {v : Value} (hv : (st i).tm.get t = some v) => h.looks T hR ho hDi hpre hcl ht hv
  have hGp : GO C (Spre ops st S0 i) L := hG.mono (fun _ hj => .inl hj) h.agree
  have hopd : ∀ x ∈ o.op.operands, ∀ u, opd C (st i).tm x = some u → VR (Spre ops st S0 i) L u (a.eval x) := fun x hx u hu =>
    opd_vr2 hGp (fun t v e hv => by subst e; exact (hlook (looks_tmp hx) hv).2) hu
  have hwant : ∀ b, wantedV ops (st i).tm o = some b → Region.wanted o (yielded ops a.tmps) = b := fun b hb =>
    wanted_ok hb (fun j want d hg hd v hv => hlook (looks_guard hg hd) hv)
  unfold wpOp
  rw [ho]
  dsimp only
  rcases (T.step i o ho).1 with ⟨h1, h2, h3⟩ | ⟨h1, h2, h3, h4, H2, h5, h6, h7, h8, h9, h10⟩ | ⟨h1, h2, h3, h4, H2, h5, h6, h7, h8, h9⟩
  · rcases h3 with ⟨h3, h4⟩ | ⟨h3, h4, h5⟩
    · rw [hwant _ h3, if_neg (by simp)]
      refine hK L HD _ w (h.quiet T hR ho hDi hcl h1 h2 ?_ (by rw [h4]; exact undef_vr) (Nat.le_refl _) (fun _ _ => rfl) rfl rfl rfl)
      rintro ⟨o', e1, e2, _⟩
      rw [ho] at e1; obtain rfl := Option.some.inj e1
      rw [h3] at e2; cases e2
    · rw [hwant _ h3, if_pos rfl]
      left
      let M0 : AH := { n := (st ops.size).H.n, lw := (st ops.size).H.n, t := .nil }
      have hM0 : Inv B (Spre ops st S0 i) L M0 w := by
        refine ⟨fun j sz cs hb => (by cases hb), fun j sz cs hb => (by cases hb), fun j j' a b c d hb => (by cases hb), fun j hj => ?_, h.inv.base⟩
        show j < (st ops.size).H.n
        have := h.inv.bd j (pre_D (S0 := S0) (st := st) hR hi hpre j hj)
        rw [h.hn] at this
        exact this
      refine (evOp_sound hcall hGp hM0 hopd (h5 M0)).wp fun v' w' hg => ?_
      obtain ⟨L', gI, gF, gV⟩ := hg
      have hfr : ∀ g, g < w.heap.size → w'.heap[g]? = w.heap[g]? := fun g hg => by
        rcases gF.frame g hg with e | ⟨j, sz, cs, e, _⟩
        · exact e
        · cases e
      refine hK L HD _ w' (h.quiet T hR ho hDi hcl h1 h2 ?_ (v' := v') ?_ gF.size hfr gF.os gF.tape gF.output)
      · rintro ⟨o', e1, _, e3⟩
        rw [ho] at e1; obtain rfl := Option.some.inj e1
        rw [h4] at e3; cases e3
      · refine (gV.mono (S' := Sk ops st S0 i) (L' := L) (fun j hj => ?_) (fun j hj => (gF.agree j (ext_self hj)).symm))
        rcases ext_self hj with e | ⟨l, e1, e2⟩
        · exact .inl e
        · exact .inr ⟨l, .inr e1, e2⟩
  · rw [hwant _ h1, if_pos rfl]
    left
    have hWi : isW ops st i := ⟨o, ho, h1, h2⟩
    have hr : R1 ops st S0 q D HD := by
      rcases h.regime with r | ⟨k, r1, r2, r3, r4, r5⟩
      · exact r
      · have hk : k ≤ i := by
          rcases Nat.lt_or_ge i k with h' | h'
          · exact absurd ((r3 i hWi).mpr h') hDi
          · exact h'
        have := T.q_mono r2 hk (Nat.le_of_lt hi)
        rw [h3] at this; cases this
    refine (evOp_sound hcall hGp (ID.sees T hR hI0 h hr hi hpre h3) hopd h5).wp fun v' w' hg => ?_
    obtain ⟨L2, HD2, hid⟩ := h.grow T hR hI0 hr ho hDi hpre hcl h3 h4 h6 h7 h8 h10 hg
    exact hK L2 HD2 _ w' hid
  · rw [hwant _ h1, if_pos rfl]
    left
    have hWi : isW ops st i := ⟨o, ho, h1, h2⟩
    have hbef : ∀ m, isW ops st m → m < i → bef ops i m := fun m ⟨o', e1, e2, e3⟩ hlt => (alone_spec h4 e1 (by omega) e3).1 hlt
    have hD : ∀ m, isW ops st m → (D m ↔ m < i) := fun m hm => by
      obtain ⟨o', e1, e2, e3⟩ := hm
      constructor
      · intro hDm
        rcases Nat.lt_or_ge m i with h' | h'
        · exact h'
        · rcases Nat.lt_or_ge i m with h'' | h''
          · exact absurd (hcl m i (lt_of_some e1) hDm ((alone_spec h4 e1 (by omega) e3).2 h'')) hDi
          · obtain rfl : m = i := by omega
            exact absurd hDm hDi
      · intro hlt; exact hpre m ((alone_spec h4 e1 (by omega) e3).1 hlt)
    have hsub := pre_D (S0 := S0) (st := st) hR hi hpre
    have hGd : GO C (SDs ops st S0 D) L := hGp.mono hsub (fun _ _ => rfl)
    refine (evOp_sound hcall hGd (h.seesAll T hI0 hi hD hWi) (fun x hx u hu => (hopd x hx u hu).mono hsub (fun _ _ => rfl)) h5).wp fun v' w' hg => ?_
    obtain ⟨L2, HD2, hid⟩ := h.write T hR hI0 ho hDi hcl hD hbef hWi h3 h6 h7 h8 h9 hg
    exact hK L2 HD2 _ w' hid

/-- All done: it is as the text's order has it. -/
theorem ID.done (T : Trace P C call ops st val q ms s s') (hR : RegOk ops) (hI0 : Inv B S0 L0 (st 0).H w0) (h : ID ops st S0 q val B L0 w0 D L HD a w) (hD : ∀ m, m < ops.size → D m) :
    Done B S0 L0 (st 0).H w0 (st ops.size) a w := by
  have hall : HD.lw = (st ops.size).H.lw ∧ ∀ j, HD.blk j = (st ops.size).H.blk j := by
    rcases h.regime with ⟨r1, r2, r3, r4, r5⟩ | ⟨k, r1, r2, r3, r4, r5⟩
    · have hqN : q ops.size = false := T.q_false ops.size (Nat.le_refl _) (fun m hm hw => r1 m hw (hD m hm))
      obtain ⟨g1, g2, g3⟩ := T.grown (dead_from hI0) ops.size (Nat.le_refl _) hqN
      refine ⟨r2.trans g1.symm, fun j => ?_⟩
      rcases Nat.lt_or_ge j (st ops.size).H.n with hlt | hge
      · refine r4 ops.size (Nat.le_refl _) hqN j hlt ?_
        rcases Nat.lt_or_ge j (st 0).H.n with h0 | h0
        · exact .inl h0
        · obtain ⟨m, h1, h2, h3⟩ := T.range h0 (Nat.le_refl _) hlt
          exact .inr ⟨m, h1, hD m h1, h2, h3⟩
      · rw [g2 j hge]
        refine r3 j fun hl => ?_
        rcases hl with hl | ⟨l, h1, h2, h3, h4⟩
        · have := T.n_mono (i := 0) (j := ops.size) (Nat.zero_le _) (Nat.le_refl _); omega
        · have := T.n_mono (i := l + 1) (j := ops.size) (by omega) (Nat.le_refl _); omega
    · have := T.still ops.size r1 (Nat.le_refl _) (fun m h1 h2 hw => by
        have := (r3 m hw).mp (hD m h2); omega)
      rw [this]
      exact ⟨r4, r5⟩
  have hS : ∀ j, SDs ops st S0 D j → ext S0 (st 0).H.n (st ops.size).H.n j := by
    rintro j (h1 | ⟨l, h1, h2, h3, h4⟩)
    · exact .inl h1
    · exact .inr ⟨Nat.le_trans (T.n_mono (Nat.zero_le _) (Nat.le_of_lt h1)) h3, Nat.lt_of_lt_of_le h4 (T.n_mono (by omega) (Nat.le_refl _))⟩
  refine ⟨L, ⟨h.defers, by rw [h.size, T.k_eq _ (Nat.le_refl _)], fun t v hv => ?_⟩, ?_, ⟨h.agree, T.n_mono (Nat.zero_le _) (Nat.le_refl _), by rw [← hall.1]; exact h.lwle, fun j hj hl => ?_, fun j hj sz cs hb => ?_, fun j hj sz cs hb => ?_, h.os, h.tape, h.output, h.wsize, fun g hg => ?_⟩⟩
  · rw [T.k_eq _ (Nat.le_refl _)]
    rcases T.tm ops.size (Nat.le_refl _) t v hv with ⟨m, h1, h2, h3, h4⟩ | ⟨h1, h2⟩
    · refine ⟨T.dst_lt h2, ?_⟩
      have := h.v1 m t h1 (hD m h1) h2 (fun m' hm' _ hlt => h4 m' hlt hm')
      rw [h3] at this
      refine this.mono (fun j hj => ?_) (fun _ _ => rfl)
      rcases hj with hj | ⟨l, hl, h5, h6⟩
      · exact .inl hj
      · rcases Nat.lt_or_ge l ops.size with h' | h'
        · exact .inr ⟨Nat.le_trans (T.n_mono (Nat.zero_le _) (Nat.le_of_lt h')) h5, Nat.lt_of_lt_of_le h6 (T.n_mono (by omega) (Nat.le_refl _))⟩
        · rcases hl with hl | hl
          · omega
          · have := hR.bef_lt l (size_some h1) hl; omega
    · obtain ⟨h3, h4⟩ := h.v0 t v (fun m hm _ => h1 m hm) h2
      exact ⟨h3, h4.mono (fun _ h => .inl h) (fun _ _ => rfl)⟩
  · have := h.inv.mono (S' := ext S0 (st 0).H.n (st ops.size).H.n) hS (fun j hj => by
      rw [h.hn]
      rcases hj with hj | hj
      · exact Nat.lt_of_lt_of_le (hI0.bd j hj) (T.n_mono (Nat.zero_le _) (Nat.le_refl _))
      · exact hj.2)
    exact this.congr (fun j => (hall.2 j).symm) h.hn.symm
  · rw [← hall.2]; exact h.keep j hj (by rw [hall.1]; exact hl)
  · rw [← hall.2] at hb; exact h.back j hj sz cs hb
  · rw [← hall.2] at hb
    rcases h.newg j hj sz cs hb with h1 | ⟨i0, sz0, cs0, h1, h2, h3⟩
    · exact .inl h1
    · exact .inr ⟨i0, sz0, cs0, h1, h2, by rw [← hall.1]; exact h3⟩
  · rcases h.frame g hg with h1 | ⟨i0, sz0, cs0, h1, h2, h3⟩
    · exact .inl h1
    · exact .inr ⟨i0, sz0, cs0, h1, h2, by rw [← hall.1]; exact h3⟩

/-- How many operations haven't been done. -/
def undone (listed : Array Bool) : Nat := listed.toList.count false

theorem undone_set {listed : Array Bool} {i : Nat} (hi : i < listed.size) (h : listed[i]? = some false) : undone (listed.setIfInBounds i true) + 1 = undone listed := by
  unfold undone
  rw [Array.toList_setIfInBounds]
  have hl : i < listed.toList.length := by simpa using hi
  have he : listed.toList[i] = false := by
    have : listed.toList[i]? = some false := by rw [Array.getElem?_toList]; exact h
    rw [List.getElem?_eq_getElem hl] at this
    exact Option.some.inj this
  rw [List.count_set hl, he]
  have hpos : 0 < listed.toList.count false := List.count_pos_iff.mpr (he ▸ List.getElem_mem hl)
  have e1 : (if (false == false) = true then 1 else 0) = 1 := rfl
  have e2 : (if (true == false) = true then 1 else 0) = 0 := rfl
  rw [e1, e2]
  omega

theorem draw_any (T : Trace P C call ops st val q ms s s') (hR : RegOk ops) (hcall : CallOk P C B call) (hG : GO C S0 L0) (hI0 : Inv B S0 L0 (st 0).H w0) {Q : Exit → Act → World → Prop}
    (hQ : ∀ a w, Done B S0 L0 (st 0).H w0 (st ops.size) a w → Q .normal a w) : ∀ (fuel : Nat) (listed : Array Bool) (L : Nat → Loc) (HD : AH) (a : Act) (w : World), listed.size = ops.size → undone listed = fuel →
      (∀ (i : Nat) (o : Oper), ops[i]? = some o → listed[i]? = some true → ∀ e ∈ o.after.toList, Region.binds .any e = true → listed[e.on]? = some true) →
      ID ops st S0 q val B L0 w0 (fun m => listed[m]? = some true) L HD a w → wpAny P .any ops Q fuel listed a w := by
  have hend : ∀ (listed : Array Bool) (L : Nat → Loc) (HD : AH) (a : Act) (w : World), listed.size = ops.size → Region.ready .any ops listed = [] → ID ops st S0 q val B L0 w0 (fun m => listed[m]? = some true) L HD a w → Q .normal a w := by
    intro listed L HD a w hsz hr hid
    refine hQ a w (hid.done T hR hI0 fun m hm => ?_)
    induction m using Nat.strongRecOn with
    | _ m ih =>
      cases hb : listed[m] with
      | true => rw [Array.getElem?_eq_getElem (by omega), hb]
      | false =>
        exfalso
        obtain ⟨o, ho⟩ := size_some hm
        have : m ∈ Region.ready .any ops listed := mem_ready.2 ⟨by simp [Array.getD, hsz, hm, hb], o, ho, fun e he hbe => by
          have hlt := hR.lead m o ho e (by simpa using he) hbe
          have := ih e.on hlt (by omega)
          simp [Array.getD_eq_getD_getElem?, this]⟩
        rw [hr] at this; cases this
  intro fuel
  induction fuel with
  | zero =>
    intro listed L HD a w hsz hun hcl hid
    have hr : Region.ready .any ops listed = [] := by
      cases hr : Region.ready .any ops listed with
      | nil => rfl
      | cons i r =>
        exfalso
        have hi : i ∈ Region.ready .any ops listed := by rw [hr]; simp
        obtain ⟨h1, o, ho, _⟩ := mem_ready.1 hi
        have hlt : i < listed.size := by rw [hsz]; exact lt_of_some ho
        have h2 : listed.toList[i]'(by simpa using hlt) = false := by simpa [Array.getD, hlt] using h1
        have := List.count_pos_iff.mpr (h2 ▸ List.getElem_mem (l := listed.toList) (n := i) (by simpa using hlt))
        unfold undone at hun
        omega
    exact ⟨hr, hend listed L HD a w hsz hr hid⟩
  | succ fuel ih =>
    intro listed L HD a w hsz hun hcl hid
    refine ⟨fun hr => hend listed L HD a w hsz hr hid, fun i hi => ?_⟩
    obtain ⟨h1, o, ho, h3⟩ := mem_ready.1 hi
    have hlt : i < listed.size := by rw [hsz]; exact lt_of_some ho
    have hfalse : listed[i]? = some false := by
      rw [Array.getElem?_eq_getElem hlt]; simpa [Array.getD, hlt] using h1
    have hclD : ∀ (i : Nat) (o : Oper), ops[i]? = some o → listed[i]? = some true → ∀ e ∈ o.after.toList, Region.binds .any e = true → listed[e.on]? = some true := hcl
    have h3' : ∀ e ∈ o.after.toList, Region.binds .any e = true → listed[e.on]? = some true := fun e he hb => by
      have := h3 e (by simpa using he) hb
      rw [Array.getD_eq_getD_getElem?] at this
      cases hx : listed[e.on]? with
      | none => rw [hx] at this; simp at this
      | some b => rw [hx] at this; simpa using this
    refine hid.step T hR hcall hG hI0 ho (by rw [hfalse]; simp) (fun m hm => ?_) (fun j m hj hD hb => hR.closed (D := fun m => listed[m]? = some true) hclD m (size_some hj) hD hb) fun L2 HD2 a' w' hid2 => ?_
    · obtain ⟨e, he, hb, h4⟩ := (hR.bef_iff ho).mp hm
      have he1 := h3' e he hb
      rcases h4 with h4 | h4
      · rw [← h4]; exact he1
      · have : e.on < ops.size := by have := hR.lead i o ho e he hb; have := lt_of_some ho; omega
        exact hR.closed (D := fun m => listed[m]? = some true) hclD m (size_some this) he1 h4
    · have hset : ∀ m, (listed.setIfInBounds i true)[m]? = some true ↔ (listed[m]? = some true ∨ m = i) := fun m => by
        rw [Array.getElem?_setIfInBounds]
        by_cases e : i = m
        · subst e; simp [hlt]
        · rw [if_neg e]
          constructor
          · exact fun h => .inl h
          · rintro (h | h)
            · exact h
            · exact absurd h.symm e
      have hfun : (fun m => (listed.setIfInBounds i true)[m]? = some true) = (fun m => listed[m]? = some true ∨ m = i) := by funext m; exact propext (hset m)
      refine ih (listed.setIfInBounds i true) L2 HD2 a' w' (by simp [hsz]) (by have := undone_set hlt hfalse; omega) (fun k ok hk hD e he hb => ?_) (by rw [hfun]; exact hid2)
      rw [hset] at hD ⊢
      rcases hD with hD | hD
      · exact .inl (hcl k ok hk hD e he hb)
      · subst hD
        rw [ho] at hk
        obtain rfl := Option.some.inj hk
        exact .inl (h3' e he hb)

end

theorem mixed_wp {P : Program} {ops : Array Oper} {Q : Exit → Act → World → Prop} {id : Nat} {a : Act} {w : World} (hm : P.follows .mixedOrders = true)
    (h : wpAny P .any ops Q ops.size (Array.replicate ops.size false) a { w with drawn := w.drawn + 1 }) : (Code.region id ops true).wp P Q a w := wp_region_any hm h

/-- A region. -/
theorem evRegionD_ok {P : Program} {C : Cfg} {call : FuncId → List Value → AH → Option (Value × AH)} {B : Nat} (hm : P.follows .mixedOrders = true) (hcall : CallOk P C B call) {ops : Array Oper} {draw : Bool} {s s' : St} (h : evRegionD P C call ops draw s = some s')
    {S : Nat → Prop} {L : Nat → Loc} {a : Act} {w : World} (hG : GO C S L) (hA : AI S L s.k s.tm a) (hI : Inv B S L s.H w) {Q : Exit → Act → World → Prop} (hQ : ∀ a' w', Done B S L s.H w s' a' w' → Q .normal a' w') (id : Nat) : (Code.region id ops draw).wp P Q a w := by
  unfold evRegionD at h
  cases draw with
  | false =>
    rw [cond_false] at h
    refine wp_region ?_
    have := evList_ok (Q := Q) hcall ops.toList 0 s s' S L a w hG (fun j => by simp) h hA hI hQ
    rw [List.range_eq_range']
    simpa using this
  | true =>
    rw [cond_true] at h
    cases hr : regOk ops with
    | false => rw [hr] at h; cases h
    | true =>
      rw [hr, cond_true] at h
      have hR := regOk_spec hr
      obtain ⟨st, val, q, ms, e1, e2, e3, e4, e5⟩ := evDraw_trace ops.toList 0 false [] s s' h (fun j => by simp)
      have hN : st ops.size = s' := by rw [← e4]; simp
      have T : Trace P C call ops st val q ms s s' := ⟨e1, hN, e2, e3, fun i o ho => e5 i o (Nat.zero_le _) ho⟩
      subst e1
      refine mixed_wp hm ?_
      let w1 : World := { w with drawn := w.drawn + 1 }
      have hI1 : Inv B S L (st 0).H w1 := hI.heap rfl
      refine draw_any T hR hcall hG hI1 (fun a' w' hd => hQ a' w' ?_) ops.size _ L { n := (st ops.size).H.n, lw := (st 0).H.lw, t := (st 0).H.t } a w1 (by simp) (by simp [undone]) (fun i o ho hl => by
        have : i < ops.size := lt_of_some ho
        simp [this] at hl) ?_
      · rw [hN] at hd
        obtain ⟨L', d1, d2, d3⟩ := hd
        exact ⟨L', d1, d2, ⟨d3.agree, d3.n, d3.lw, d3.keep, d3.back, d3.newg, d3.os, d3.tape, d3.output, d3.size, d3.frame⟩⟩
      · have hnone : ∀ m, ¬ ((Array.replicate ops.size false)[m]? = some true) := fun m hm => by
          rw [Array.getElem?_replicate] at hm
          split at hm
          · cases hm
          · cases hm
        have hb : ∀ j, ({ n := (st ops.size).H.n, lw := (st 0).H.lw, t := (st 0).H.t } : AH).blk j = (st 0).H.blk j := fun j => rfl
        have hsd : ∀ j, SDs ops st S (fun m => (Array.replicate ops.size false)[m]? = some true) j ↔ S j := fun j => by
          constructor
          · rintro (h1 | ⟨l, _, h2, _⟩)
            · exact h1
            · exact absurd h2 (hnone l)
          · exact fun h => .inl h
        refine ⟨fun _ _ => rfl, ?_, rfl, fun j _ _ => hb j, fun j _ sz cs hj => ⟨cs, hj⟩, fun j hj sz cs hbj => absurd (hI1.lt hbj) (by omega), rfl, rfl, rfl, Nat.le_refl _, fun g _ => .inl rfl, Nat.le_refl _, hA.defers, hA.size, fun t v _ hv => hA.tmp t v hv, fun m t _ hm => absurd hm (hnone m), .inl ⟨fun m _ hm => absurd hm (hnone m), rfl, fun j hj => ?_, fun i hi hq j hj hl => ?_, fun m _ hm => absurd hm (hnone m)⟩⟩
        · have := hI1.mono (S' := SDs ops st S (fun m => (Array.replicate ops.size false)[m]? = some true)) (fun j hj => (hsd j).mpr hj) (fun j hj => hI1.bd j ((hsd j).mp hj))
          exact ⟨this.ro, this.rw, this.dj, fun j hj => Nat.lt_of_lt_of_le (hI1.bd j ((hsd j).mp hj)) (T.n_mono (Nat.zero_le _) (Nat.le_refl _)), this.base⟩
        · rw [hb]
          exact dead_from hI1 j (by
            rcases Nat.lt_or_ge j (st 0).H.n with h' | h'
            · exact absurd (.inl h') hj
            · exact h')
        · rw [hb]
          rcases hl with hl | ⟨l, _, hl, _⟩
          · exact ((T.grown (dead_from hI1) i hi hq).2.2 0 (Nat.zero_le _) j hl).symm
          · exact absurd hl (hnone l)

end
end Go.Proofs.Ytldapilhmmbjhaa.Ev
