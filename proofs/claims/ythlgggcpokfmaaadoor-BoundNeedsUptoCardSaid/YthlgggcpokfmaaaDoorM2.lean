/-
  The engine and the walks that the claim's last text leans on, part 2 of 4: EvL, EvN, EvM, EvP, EvQ, Cfg, Laid, Np, Na, Nb, EvR, Nc, Nd, Ne, EvS, Ta, Tb.
-/
import Derived.Test.YthlgggcpokfmaaaDoorM1
import Derived.Eval
import Derived.Test.YthlgggcpokfmaaaDoorRows
import Derived.WalkKit
import Derived.ProofKit
import Derived.OpenShut
import Derived.ChangeOld
import Derived.SizedLaws
import Derived.Test.YthlgggcpokfmaaaDoorCards
import Derived.Test.YthlgggcpokfmaaaDoorTie
import Derived.LaidMore
import Derived.Deep.Strs
import Derived.MakeChecks
import Derived.FnData
import Derived.Stop.Joined
import Derived.SevenTiedAt
import Derived.KernelRfl
import Derived.Laws.Bits64
import Derived.Laws.BitsLemmas

/-
  THE ENGINE, part L: regions that draw their order: an operation that writes; every order.
-/
namespace Go.Proofs.YthlgggcpokfmaaaDoor.Ev
open Go Go.RowKit
set_option linter.unusedVariables false
noncomputable section
set_option linter.unusedSimpArgs false

section
variable {P : Program} {C : Cfg} {call : FuncId → List Value → AH → Option (Value × AH)} {ops : Array Oper} {st : Nat → St} {val : Nat → Value} {q : Nat → Bool} {ms : Nat → List (Nat × Nat × Nat)} {s s' : St}
variable {B : Nat} {S0 : Nat → Prop} {L0 : Nat → Loc} {w0 : World} {D : Nat → Prop} {L : Nat → Loc} {HD : AH} {a : Act} {w : World}

def allOf (st : Nat → St) (i : Nat) : AH := { n := (st i).H.n, lw := (st i).H.n, t := (st i).H.t }

theorem dead_from (hI0 : Inv B S0 L0 (st 0).H w0) : ∀ j, (st 0).H.n ≤ j → (st 0).H.blk j = .dead := fun j hj => by
  cases hb : (st 0).H.blk j with
  | dead => rfl
  | ro sz cs => exact absurd (hI0.bd j (hI0.ro j sz cs hb).1) (by omega)
  | rw sz cs => exact absurd (hI0.bd j (hI0.rw j sz cs hb).1) (by omega)

/-- When an operation that stands alone comes up, the heap is the text's. -/
theorem ID.all (T : Trace P C call ops st val q ms s s') (hI0 : Inv B S0 L0 (st 0).H w0) (h : ID ops st S0 q val B L0 w0 D L HD a w) {i : Nat} (hi : i < ops.size)
    (hD : ∀ m, isW ops st m → (D m ↔ m < i)) (hWi : isW ops st i) : HD.lw = (st i).H.lw ∧ ∀ j, HD.blk j = (st i).H.blk j := by
  rcases h.regime with ⟨r1, r2, r3, r4, r5⟩ | ⟨k, r1, r2, r3, r4, r5⟩
  · have hqi : q i = false := T.q_false i (Nat.le_of_lt hi) (fun m hm hw => r1 m hw ((hD m hw).mpr hm))
    obtain ⟨g1, g2, g3⟩ := T.grown (dead_from hI0) i (Nat.le_of_lt hi) hqi
    refine ⟨r2.trans g1.symm, fun j => ?_⟩
    rcases Nat.lt_or_ge j (st i).H.n with hlt | hge
    · refine r4 i (Nat.le_of_lt hi) hqi j hlt ?_
      rcases Nat.lt_or_ge j (st 0).H.n with h0 | h0
      · exact .inl h0
      · obtain ⟨m, h1, h2, h3⟩ := T.range h0 (Nat.le_of_lt hi) hlt
        exact .inr ⟨m, by omega, (hD m (T.isW_of (by omega) (by omega))).mpr h1, h2, h3⟩
    · rw [g2 j hge]
      refine r3 j fun hl => ?_
      rcases hl with hl | ⟨l, h1, h2, h3, h4⟩
      · have := T.n_mono (i := 0) (j := i) (Nat.zero_le _) (Nat.le_of_lt hi); omega
      · have hlt := (hD l (T.isW_of h1 (by omega))).mp h2
        have := T.n_mono (i := l + 1) (j := i) (by omega) (Nat.le_of_lt hi); omega
  · have hk : k ≤ i := by
      rcases Nat.lt_or_ge i k with h' | h'
      · have := (hD i hWi).mp ((r3 i hWi).mpr h'); omega
      · exact h'
    have := T.still i hk (Nat.le_of_lt hi) (fun m h1 h2 hw => by
      have := (r3 m hw).mp ((hD m hw).mpr h2); omega)
    rw [this]
    exact ⟨r4, r5⟩

theorem ID.seesAll (T : Trace P C call ops st val q ms s s') (hI0 : Inv B S0 L0 (st 0).H w0) (h : ID ops st S0 q val B L0 w0 D L HD a w) {i : Nat} (hi : i < ops.size)
    (hD : ∀ m, isW ops st m → (D m ↔ m < i)) (hWi : isW ops st i) : Inv B (SDs ops st S0 D) L (allOf st i) w := by
  have hb := (h.all T hI0 hi hD hWi).2
  have hb' : ∀ j, (allOf st i).blk j = HD.blk j := fun j => (hb j).symm
  refine ⟨fun j sz cs hj => h.inv.ro j sz cs (by rw [← hb']; exact hj), fun j sz cs hj => h.inv.rw j sz cs (by rw [← hb']; exact hj), fun j j' a b c d hj hj' e => h.inv.dj j j' a b c d (by rw [← hb']; exact hj) (by rw [← hb']; exact hj') e, fun j hj => ?_, h.inv.base⟩
  show j < (st i).H.n
  rcases hj with hj | ⟨l, h1, h2, h3, h4⟩
  · exact Nat.lt_of_lt_of_le (hI0.bd j hj) (T.n_mono (Nat.zero_le _) (Nat.le_of_lt hi))
  · have := (hD l (T.isW_of h1 (by omega))).mp h2
    exact Nat.lt_of_lt_of_le h4 (T.n_mono (by omega) (Nat.le_of_lt hi))

/-- An operation that writes. -/
theorem ID.write (T : Trace P C call ops st val q ms s s') (hR : RegOk ops) (hI0 : Inv B S0 L0 (st 0).H w0) (h : ID ops st S0 q val B L0 w0 D L HD a w) {i : Nat} {o : Oper} (ho : ops[i]? = some o) (hDi : ¬ D i)
    (hcl : ∀ i m, i < ops.size → D i → bef ops i m → D m) (hD : ∀ m, isW ops st m → (D m ↔ m < i)) (hbef : ∀ m, isW ops st m → m < i → bef ops i m) (hWi : isW ops st i) (hq1 : q (i + 1) = true)
    {H2 : AH} (hn2 : (st i).H.n ≤ H2.n) (hE : (st (i + 1)).H.n = H2.n) (hlw : (st (i + 1)).H.lw = min (st i).H.lw H2.lw) (hblk : ∀ j, (st (i + 1)).H.blk j = H2.blk j)
    {v' : Value} {w' : World} (hg : Good B (SDs ops st S0 D) L (allOf st i) w (val i) H2 v' w') :
    ∃ L2 HD2, ID ops st S0 q val B L0 w0 (fun m => D m ∨ m = i) L2 HD2 (a.put o.dst v') w' := by
  have hi := lt_of_some ho
  obtain ⟨L', gI, gF, gV⟩ := hg
  have hMn : (allOf st i).n = (st i).H.n := rfl
  rw [hMn] at gI gV
  obtain ⟨hlwD, hb⟩ := h.all T hI0 hi hD hWi
  have hM := h.seesAll T hI0 hi hD hWi
  have hMb : ∀ j, (allOf st i).blk j = HD.blk j := fun j => (hb j).symm
  have hn0 : (st 0).H.n ≤ (st i).H.n := T.n_mono (Nat.zero_le _) (Nat.le_of_lt hi)
  have hEN : H2.n ≤ (st ops.size).H.n := by rw [← hE]; exact T.n_mono (by omega) (Nat.le_refl _)
  have hSD' : ∀ j, SDs ops st S0 (fun m => D m ∨ m = i) j ↔ ext (SDs ops st S0 D) (st i).H.n H2.n j := fun j => by
    constructor
    · rintro (h1 | ⟨l, h1, h2 | h2, h3, h4⟩)
      · exact .inl (.inl h1)
      · exact .inl (.inr ⟨l, h1, h2, h3, h4⟩)
      · subst h2; exact .inr ⟨h3, by rw [← hE]; exact h4⟩
    · rintro ((h1 | ⟨l, h1, h2, h3⟩) | ⟨h1, h2⟩)
      · exact .inl h1
      · exact .inr ⟨l, h1, .inl h2, h3⟩
      · exact .inr ⟨i, hi, .inr rfl, h1, by rw [hE]; exact h2⟩
  have hSk : ∀ j, ext (SDs ops st S0 D) (st i).H.n H2.n j → Sk ops st S0 i j := by
    rintro j ((hj | ⟨l, h1, h2, h3, h4⟩) | ⟨h1, h2⟩)
    · exact .inl hj
    · have hw := T.isW_of h1 (by omega)
      exact .inr ⟨l, .inr (hbef l hw ((hD l hw).mp h2)), h3, h4⟩
    · exact .inr ⟨i, .inl rfl, h1, by rw [hE]; exact h2⟩
  let HD2 : AH := { n := HD.n, lw := min HD.lw H2.lw, t := H2.t }
  have hB2 : ∀ j, HD2.blk j = H2.blk j := fun j => rfl
  have hinv : Inv B (SDs ops st S0 (fun m => D m ∨ m = i)) L' HD2 w' := by
    have hmono := gI.mono (S' := SDs ops st S0 (fun m => D m ∨ m = i)) (fun j hj => (hSD' j).mpr hj) (fun j hj => gI.bd j ((hSD' j).mp hj))
    exact ⟨hmono.ro, hmono.rw, hmono.dj, fun j hj => by
      show j < HD.n
      have := gI.bd j ((hSD' j).mp hj)
      rw [h.hn]; omega, hmono.base⟩
  have hback : ∀ j, j < (st i).H.n → ∀ sz cs, H2.blk j = .rw sz cs → ∃ cs0, HD.blk j = .rw sz cs0 ∧ L' j = L j := fun j hj sz cs hbj => by
    obtain ⟨cs0, h0⟩ := gF.back j hj sz cs hbj
    exact ⟨cs0, by rw [← hMb]; exact h0, gF.agree j (hM.rw j sz cs0 h0).1⟩
  have hlift : ∀ i1 sz1 cs1, HD.blk i1 = .rw sz1 cs1 → H2.lw ≤ i1 → w0.heap.size ≤ (L i1).g ∨ ∃ i0 sz0 cs0, (st 0).H.blk i0 = .rw sz0 cs0 ∧ (L0 i0).g = (L i1).g ∧ min HD.lw H2.lw ≤ i0 := fun i1 sz1 cs1 h1 hl => by
    rcases Nat.lt_or_ge i1 (st 0).H.n with hlt | hge
    · obtain ⟨cs0, h0⟩ := h.back i1 hlt sz1 cs1 h1
      exact .inr ⟨i1, sz1, cs0, h0, by rw [h.agree i1 (hI0.rw i1 sz1 cs0 h0).1], Nat.le_trans (Nat.min_le_right _ _) hl⟩
    · rcases h.newg i1 hge sz1 cs1 h1 with h2 | ⟨i0, sz0, cs0, h0, e0, l0⟩
      · exact .inl h2
      · exact .inr ⟨i0, sz0, cs0, h0, e0, Nat.le_trans (Nat.min_le_left _ _) l0⟩
  obtain ⟨s1, s2, s3, s4⟩ := h.slots T hR ho hDi hcl (L' := L') gF.agree (v' := v') (gV.mono hSk (fun _ _ => rfl))
  refine ⟨L', HD2, ⟨fun j hj => (gF.agree j (.inl hj)).trans (h.agree j hj), hinv, h.hn, fun j hj hl => ?_, fun j hj sz cs hbj => ?_, fun j hj sz cs hbj => ?_, gF.os.trans h.os, gF.tape.trans h.tape, gF.output.trans h.output,
    Nat.le_trans h.wsize gF.size, fun g hg => ?_, Nat.le_trans (Nat.min_le_left _ _) h.lwle, s1, s2, s3, s4, .inr ⟨i + 1, hi, hq1, fun m hm => ?_, by rw [hlw, ← hlwD], fun j => (hblk j).symm⟩⟩⟩
  · have hl1 : j < HD.lw := Nat.lt_of_lt_of_le hl (Nat.min_le_left _ _)
    have hl2 : j < H2.lw := Nat.lt_of_lt_of_le hl (Nat.min_le_right _ _)
    rw [hB2, gF.keep j (Nat.lt_of_lt_of_le hj hn0) hl2, hMb]
    exact h.keep j hj hl1
  · rw [hB2] at hbj
    obtain ⟨cs0, h0, _⟩ := hback j (Nat.lt_of_lt_of_le hj hn0) sz cs hbj
    exact h.back j hj sz cs0 h0
  · rw [hB2] at hbj
    rcases Nat.lt_or_ge j (st i).H.n with hlt | hge
    · obtain ⟨cs0, h0, hLj⟩ := hback j hlt sz cs hbj
      rw [hLj]
      rcases h.newg j hj sz cs0 h0 with h2 | ⟨i0, sz0, cs1, h1, e1, l1⟩
      · exact .inl h2
      · exact .inr ⟨i0, sz0, cs1, h1, e1, Nat.le_trans (Nat.min_le_left _ _) l1⟩
    · rcases gF.newg j hge sz cs hbj with h1 | ⟨i1, sz1, cs1, h1, e1, l1⟩
      · exact .inl (Nat.le_trans h.wsize h1)
      · rw [hMb] at h1
        rw [← e1]
        exact hlift i1 sz1 cs1 h1 l1
  · rcases gF.frame g (Nat.lt_of_lt_of_le hg h.wsize) with h1 | ⟨i1, sz1, cs1, h1, e1, l1⟩
    · rcases h.frame g hg with h2 | ⟨i0, sz0, cs0, h2, e2, l2⟩
      · exact .inl (h1.trans h2)
      · exact .inr ⟨i0, sz0, cs0, h2, e2, Nat.le_trans (Nat.min_le_left _ _) l2⟩
    · rw [hMb] at h1
      rcases hlift i1 sz1 cs1 h1 l1 with h2 | ⟨i0, sz0, cs0, h2, e2, l2⟩
      · rw [e1] at h2; omega
      · exact .inr ⟨i0, sz0, cs0, h2, e2.trans e1, l2⟩
  · constructor
    · rintro (hD1 | hD1)
      · have := (hD m hm).mp hD1; omega
      · omega
    · intro hlt
      by_cases e : m = i
      · exact .inr e
      · exact .inl ((hD m hm).mpr (by omega))

theorem opd_vr2 {C : Cfg} {S : Nat → Prop} {L : Nat → Loc} (hG : GO C S L) {tm : Tr Value} {a : Act} {x : Operand} (ht : ∀ t v, x = .tmp t → tm.get t = some v → VR S L v (a.tmps.getD t undef)) {v : Value} (h : opd C tm x = some v) : VR S L v (a.eval x) := by
  cases x with
  | tmp t => exact ht t v rfl h
  | const u =>
    simp only [opd] at h
    cases hp : plain u with
    | false => rw [hp] at h; cases h
    | true => rw [hp] at h; obtain rfl := Option.some.inj h; exact plain_vr hp
  | global g =>
    simp only [opd] at h
    cases hg : Nat.blt g C.ng with
    | false => rw [hg] at h; cases h
    | true =>
      rw [hg] at h
      obtain rfl := Option.some.inj h
      obtain ⟨h1, h2, h3⟩ := hG g (by simpa [Nat.blt_eq] using hg)
      have := VR.ptr (S := S) (L := L) g 0 h1
      rw [h2, h3] at this
      exact this
  | func f =>
    obtain rfl := Option.some.inj h
    exact .func _ _ _ _ _ rfl (fun k v v' h1 => by simp at h1) rfl (fun k v v' h1 => by simp at h1)

theorem looks_tmp {o : Oper} {t : Nat} (h : Operand.tmp t ∈ o.op.operands) : t ∈ o.looksAt ops :=
  List.mem_append_left _ (List.mem_filterMap.2 ⟨.tmp t, by simpa using h, rfl⟩)

theorem looks_guard {o : Oper} {j : Nat} {want : Bool} {d : Tmp} (h : o.guard = some (j, want)) (hd : (ops[j]?).bind (·.dst) = some d) : d ∈ o.looksAt ops := by
  refine List.mem_append_right _ ?_
  rw [h]
  simp only [hd]
  simp

/-- One operation, whatever has been done. -/
theorem ID.step (T : Trace P C call ops st val q ms s s') (hR : RegOk ops) (hcall : CallOk P C B call) (hG : GO C S0 L0) (hI0 : Inv B S0 L0 (st 0).H w0) (h : ID ops st S0 q val B L0 w0 D L HD a w)
    {i : Nat} {o : Oper} (ho : ops[i]? = some o) (hDi : ¬ D i) (hpre : ∀ m, bef ops i m → D m) (hcl : ∀ i m, i < ops.size → D i → bef ops i m → D m)
    {K : Act → World → Prop} {Q : Exit → Act → World → Prop} (hK : ∀ L2 HD2 a' w', ID ops st S0 q val B L0 w0 (fun m => D m ∨ m = i) L2 HD2 a' w' → K a' w') : wpOp P ops Q i K a w := by
  have hi := lt_of_some ho
  have hlook := fun {t : Nat} (ht : t ∈ o.looksAt ops) {v : Value} (hv : (st i).tm.get t = some v) => h.looks T hR ho hDi hpre hcl ht hv
  have hGp : GO C (Spre ops st S0 i) L := hG.mono (fun _ hj => .inl hj) h.agree
  have hopd : ∀ x ∈ o.op.operands, ∀ u, opd C (st i).tm x = some u → VR (Spre ops st S0 i) L u (a.eval x) := fun x hx u hu =>
    opd_vr2 hGp (fun t v e hv => by subst e; exact (hlook (looks_tmp hx) hv).2) hu
  have hwant : ∀ b, wantedV ops (st i).tm o = some b → Region.wanted o (yielded ops a.tmps) = b := fun b hb =>
    wanted_ok hb (fun j want d hg hd v hv => hlook (looks_guard hg hd) hv)
  unfold wpOp
  rw [ho]
  dsimp only
  rcases (T.step i o ho).1 with ⟨h1, h2, h3⟩ | ⟨h1, h2, h3, h4, H2, h5, h6, h7, h8, h9, h10⟩ | ⟨h1, h2, h3, h4, H2, h5, h6, h7, h8, h9⟩
  · rcases h3 with ⟨h3, h4⟩ | ⟨h3, h4, h5⟩
    · rw [hwant _ h3, if_neg (by simp)]
      refine hK L HD _ w (h.quiet T hR ho hDi hcl h1 h2 ?_ (by rw [h4]; exact undef_vr) (Nat.le_refl _) (fun _ _ => rfl) rfl rfl rfl)
      rintro ⟨o', e1, e2, _⟩
      rw [ho] at e1; obtain rfl := Option.some.inj e1
      rw [h3] at e2; cases e2
    · rw [hwant _ h3, if_pos rfl]
      left
      let M0 : AH := { n := (st ops.size).H.n, lw := (st ops.size).H.n, t := .nil }
      have hM0 : Inv B (Spre ops st S0 i) L M0 w := by
        refine ⟨fun j sz cs hb => (by cases hb), fun j sz cs hb => (by cases hb), fun j j' a b c d hb => (by cases hb), fun j hj => ?_, h.inv.base⟩
        show j < (st ops.size).H.n
        have := h.inv.bd j (pre_D (S0 := S0) (st := st) hR hi hpre j hj)
        rw [h.hn] at this
        exact this
      refine (evOp_sound hcall hGp hM0 hopd (h5 M0)).wp fun v' w' hg => ?_
      obtain ⟨L', gI, gF, gV⟩ := hg
      have hfr : ∀ g, g < w.heap.size → w'.heap[g]? = w.heap[g]? := fun g hg => by
        rcases gF.frame g hg with e | ⟨j, sz, cs, e, _⟩
        · exact e
        · cases e
      refine hK L HD _ w' (h.quiet T hR ho hDi hcl h1 h2 ?_ (v' := v') ?_ gF.size hfr gF.os gF.tape gF.output)
      · rintro ⟨o', e1, _, e3⟩
        rw [ho] at e1; obtain rfl := Option.some.inj e1
        rw [h4] at e3; cases e3
      · refine (gV.mono (S' := Sk ops st S0 i) (L' := L) (fun j hj => ?_) (fun j hj => (gF.agree j (ext_self hj)).symm))
        rcases ext_self hj with e | ⟨l, e1, e2⟩
        · exact .inl e
        · exact .inr ⟨l, .inr e1, e2⟩
  · rw [hwant _ h1, if_pos rfl]
    left
    have hWi : isW ops st i := ⟨o, ho, h1, h2⟩
    have hr : R1 ops st S0 q D HD := by
      rcases h.regime with r | ⟨k, r1, r2, r3, r4, r5⟩
      · exact r
      · have hk : k ≤ i := by
          rcases Nat.lt_or_ge i k with h' | h'
          · exact absurd ((r3 i hWi).mpr h') hDi
          · exact h'
        have := T.q_mono r2 hk (Nat.le_of_lt hi)
        rw [h3] at this; cases this
    refine (evOp_sound hcall hGp (ID.sees T hR hI0 h hr hi hpre h3) hopd h5).wp fun v' w' hg => ?_
    obtain ⟨L2, HD2, hid⟩ := h.grow T hR hI0 hr ho hDi hpre hcl h3 h4 h6 h7 h8 h10 hg
    exact hK L2 HD2 _ w' hid
  · rw [hwant _ h1, if_pos rfl]
    left
    have hWi : isW ops st i := ⟨o, ho, h1, h2⟩
    have hbef : ∀ m, isW ops st m → m < i → bef ops i m := fun m ⟨o', e1, e2, e3⟩ hlt => (alone_spec h4 e1 (by omega) e3).1 hlt
    have hD : ∀ m, isW ops st m → (D m ↔ m < i) := fun m hm => by
      obtain ⟨o', e1, e2, e3⟩ := hm
      constructor
      · intro hDm
        rcases Nat.lt_or_ge m i with h' | h'
        · exact h'
        · rcases Nat.lt_or_ge i m with h'' | h''
          · exact absurd (hcl m i (lt_of_some e1) hDm ((alone_spec h4 e1 (by omega) e3).2 h'')) hDi
          · obtain rfl : m = i := by omega
            exact absurd hDm hDi
      · intro hlt; exact hpre m ((alone_spec h4 e1 (by omega) e3).1 hlt)
    have hsub := pre_D (S0 := S0) (st := st) hR hi hpre
    have hGd : GO C (SDs ops st S0 D) L := hGp.mono hsub (fun _ _ => rfl)
    refine (evOp_sound hcall hGd (h.seesAll T hI0 hi hD hWi) (fun x hx u hu => (hopd x hx u hu).mono hsub (fun _ _ => rfl)) h5).wp fun v' w' hg => ?_
    obtain ⟨L2, HD2, hid⟩ := h.write T hR hI0 ho hDi hcl hD hbef hWi h3 h6 h7 h8 h9 hg
    exact hK L2 HD2 _ w' hid

/-- All done: it is as the text's order has it. -/
theorem ID.done (T : Trace P C call ops st val q ms s s') (hR : RegOk ops) (hI0 : Inv B S0 L0 (st 0).H w0) (h : ID ops st S0 q val B L0 w0 D L HD a w) (hD : ∀ m, m < ops.size → D m) :
    Done B S0 L0 (st 0).H w0 (st ops.size) a w := by
  have hall : HD.lw = (st ops.size).H.lw ∧ ∀ j, HD.blk j = (st ops.size).H.blk j := by
    rcases h.regime with ⟨r1, r2, r3, r4, r5⟩ | ⟨k, r1, r2, r3, r4, r5⟩
    · have hqN : q ops.size = false := T.q_false ops.size (Nat.le_refl _) (fun m hm hw => r1 m hw (hD m hm))
      obtain ⟨g1, g2, g3⟩ := T.grown (dead_from hI0) ops.size (Nat.le_refl _) hqN
      refine ⟨r2.trans g1.symm, fun j => ?_⟩
      rcases Nat.lt_or_ge j (st ops.size).H.n with hlt | hge
      · refine r4 ops.size (Nat.le_refl _) hqN j hlt ?_
        rcases Nat.lt_or_ge j (st 0).H.n with h0 | h0
        · exact .inl h0
        · obtain ⟨m, h1, h2, h3⟩ := T.range h0 (Nat.le_refl _) hlt
          exact .inr ⟨m, h1, hD m h1, h2, h3⟩
      · rw [g2 j hge]
        refine r3 j fun hl => ?_
        rcases hl with hl | ⟨l, h1, h2, h3, h4⟩
        · have := T.n_mono (i := 0) (j := ops.size) (Nat.zero_le _) (Nat.le_refl _); omega
        · have := T.n_mono (i := l + 1) (j := ops.size) (by omega) (Nat.le_refl _); omega
    · have := T.still ops.size r1 (Nat.le_refl _) (fun m h1 h2 hw => by
        have := (r3 m hw).mp (hD m h2); omega)
      rw [this]
      exact ⟨r4, r5⟩
  have hS : ∀ j, SDs ops st S0 D j → ext S0 (st 0).H.n (st ops.size).H.n j := by
    rintro j (h1 | ⟨l, h1, h2, h3, h4⟩)
    · exact .inl h1
    · exact .inr ⟨Nat.le_trans (T.n_mono (Nat.zero_le _) (Nat.le_of_lt h1)) h3, Nat.lt_of_lt_of_le h4 (T.n_mono (by omega) (Nat.le_refl _))⟩
  refine ⟨L, ⟨h.defers, by rw [h.size, T.k_eq _ (Nat.le_refl _)], fun t v hv => ?_⟩, ?_, ⟨h.agree, T.n_mono (Nat.zero_le _) (Nat.le_refl _), by rw [← hall.1]; exact h.lwle, fun j hj hl => ?_, fun j hj sz cs hb => ?_, fun j hj sz cs hb => ?_, h.os, h.tape, h.output, h.wsize, fun g hg => ?_⟩⟩
  · rw [T.k_eq _ (Nat.le_refl _)]
    rcases T.tm ops.size (Nat.le_refl _) t v hv with ⟨m, h1, h2, h3, h4⟩ | ⟨h1, h2⟩
    · refine ⟨T.dst_lt h2, ?_⟩
      have := h.v1 m t h1 (hD m h1) h2 (fun m' hm' _ hlt => h4 m' hlt hm')
      rw [h3] at this
      refine this.mono (fun j hj => ?_) (fun _ _ => rfl)
      rcases hj with hj | ⟨l, hl, h5, h6⟩
      · exact .inl hj
      · rcases Nat.lt_or_ge l ops.size with h' | h'
        · exact .inr ⟨Nat.le_trans (T.n_mono (Nat.zero_le _) (Nat.le_of_lt h')) h5, Nat.lt_of_lt_of_le h6 (T.n_mono (by omega) (Nat.le_refl _))⟩
        · rcases hl with hl | hl
          · omega
          · have := hR.bef_lt l (size_some h1) hl; omega
    · obtain ⟨h3, h4⟩ := h.v0 t v (fun m hm _ => h1 m hm) h2
      exact ⟨h3, h4.mono (fun _ h => .inl h) (fun _ _ => rfl)⟩
  · have := h.inv.mono (S' := ext S0 (st 0).H.n (st ops.size).H.n) hS (fun j hj => by
      rw [h.hn]
      rcases hj with hj | hj
      · exact Nat.lt_of_lt_of_le (hI0.bd j hj) (T.n_mono (Nat.zero_le _) (Nat.le_refl _))
      · exact hj.2)
    exact this.congr (fun j => (hall.2 j).symm) h.hn.symm
  · rw [← hall.2]; exact h.keep j hj (by rw [hall.1]; exact hl)
  · rw [← hall.2] at hb; exact h.back j hj sz cs hb
  · rw [← hall.2] at hb
    rcases h.newg j hj sz cs hb with h1 | ⟨i0, sz0, cs0, h1, h2, h3⟩
    · exact .inl h1
    · exact .inr ⟨i0, sz0, cs0, h1, h2, by rw [← hall.1]; exact h3⟩
  · rcases h.frame g hg with h1 | ⟨i0, sz0, cs0, h1, h2, h3⟩
    · exact .inl h1
    · exact .inr ⟨i0, sz0, cs0, h1, h2, by rw [← hall.1]; exact h3⟩

/-- How many operations haven't been done. -/
def undone (listed : Array Bool) : Nat := listed.toList.count false

theorem undone_set {listed : Array Bool} {i : Nat} (hi : i < listed.size) (h : listed[i]? = some false) : undone (listed.setIfInBounds i true) + 1 = undone listed := by
  unfold undone
  rw [Array.toList_setIfInBounds]
  have hl : i < listed.toList.length := by simpa using hi
  have he : listed.toList[i] = false := by
    have : listed.toList[i]? = some false := by rw [Array.getElem?_toList]; exact h
    rw [List.getElem?_eq_getElem hl] at this
    exact Option.some.inj this
  rw [List.count_set hl, he]
  have hpos : 0 < listed.toList.count false := List.count_pos_iff.mpr (he ▸ List.getElem_mem hl)
  have e1 : (if (false == false) = true then 1 else 0) = 1 := rfl
  have e2 : (if (true == false) = true then 1 else 0) = 0 := rfl
  rw [e1, e2]
  omega

theorem draw_any (T : Trace P C call ops st val q ms s s') (hR : RegOk ops) (hcall : CallOk P C B call) (hG : GO C S0 L0) (hI0 : Inv B S0 L0 (st 0).H w0) {Q : Exit → Act → World → Prop}
    (hQ : ∀ a w, Done B S0 L0 (st 0).H w0 (st ops.size) a w → Q .normal a w) : ∀ (fuel : Nat) (listed : Array Bool) (L : Nat → Loc) (HD : AH) (a : Act) (w : World), listed.size = ops.size → undone listed = fuel →
      (∀ (i : Nat) (o : Oper), ops[i]? = some o → listed[i]? = some true → ∀ e ∈ o.after.toList, Region.binds .any e = true → listed[e.on]? = some true) →
      ID ops st S0 q val B L0 w0 (fun m => listed[m]? = some true) L HD a w → wpAny P .any ops Q fuel listed a w := by
  have hend : ∀ (listed : Array Bool) (L : Nat → Loc) (HD : AH) (a : Act) (w : World), listed.size = ops.size → Region.ready .any ops listed = [] → ID ops st S0 q val B L0 w0 (fun m => listed[m]? = some true) L HD a w → Q .normal a w := by
    intro listed L HD a w hsz hr hid
    refine hQ a w (hid.done T hR hI0 fun m hm => ?_)
    induction m using Nat.strongRecOn with
    | _ m ih =>
      cases hb : listed[m] with
      | true => rw [Array.getElem?_eq_getElem (by omega), hb]
      | false =>
        exfalso
        obtain ⟨o, ho⟩ := size_some hm
        have : m ∈ Region.ready .any ops listed := mem_ready.2 ⟨by simp [Array.getD, hsz, hm, hb], o, ho, fun e he hbe => by
          have hlt := hR.lead m o ho e (by simpa using he) hbe
          have := ih e.on hlt (by omega)
          simp [Array.getD_eq_getD_getElem?, this]⟩
        rw [hr] at this; cases this
  intro fuel
  induction fuel with
  | zero =>
    intro listed L HD a w hsz hun hcl hid
    have hr : Region.ready .any ops listed = [] := by
      cases hr : Region.ready .any ops listed with
      | nil => rfl
      | cons i r =>
        exfalso
        have hi : i ∈ Region.ready .any ops listed := by rw [hr]; simp
        obtain ⟨h1, o, ho, _⟩ := mem_ready.1 hi
        have hlt : i < listed.size := by rw [hsz]; exact lt_of_some ho
        have h2 : listed.toList[i]'(by simpa using hlt) = false := by simpa [Array.getD, hlt] using h1
        have := List.count_pos_iff.mpr (h2 ▸ List.getElem_mem (l := listed.toList) (n := i) (by simpa using hlt))
        unfold undone at hun
        omega
    exact ⟨hr, hend listed L HD a w hsz hr hid⟩
  | succ fuel ih =>
    intro listed L HD a w hsz hun hcl hid
    refine ⟨fun hr => hend listed L HD a w hsz hr hid, fun i hi => ?_⟩
    obtain ⟨h1, o, ho, h3⟩ := mem_ready.1 hi
    have hlt : i < listed.size := by rw [hsz]; exact lt_of_some ho
    have hfalse : listed[i]? = some false := by
      rw [Array.getElem?_eq_getElem hlt]; simpa [Array.getD, hlt] using h1
    have hclD : ∀ (i : Nat) (o : Oper), ops[i]? = some o → listed[i]? = some true → ∀ e ∈ o.after.toList, Region.binds .any e = true → listed[e.on]? = some true := hcl
    have h3' : ∀ e ∈ o.after.toList, Region.binds .any e = true → listed[e.on]? = some true := fun e he hb => by
      have := h3 e (by simpa using he) hb
      rw [Array.getD_eq_getD_getElem?] at this
      cases hx : listed[e.on]? with
      | none => rw [hx] at this; simp at this
      | some b => rw [hx] at this; simpa using this
    refine hid.step T hR hcall hG hI0 ho (by rw [hfalse]; simp) (fun m hm => ?_) (fun j m hj hD hb => hR.closed (D := fun m => listed[m]? = some true) hclD m (size_some hj) hD hb) fun L2 HD2 a' w' hid2 => ?_
    · obtain ⟨e, he, hb, h4⟩ := (hR.bef_iff ho).mp hm
      have he1 := h3' e he hb
      rcases h4 with h4 | h4
      · rw [← h4]; exact he1
      · have : e.on < ops.size := by have := hR.lead i o ho e he hb; have := lt_of_some ho; omega
        exact hR.closed (D := fun m => listed[m]? = some true) hclD m (size_some this) he1 h4
    · have hset : ∀ m, (listed.setIfInBounds i true)[m]? = some true ↔ (listed[m]? = some true ∨ m = i) := fun m => by
        rw [Array.getElem?_setIfInBounds]
        by_cases e : i = m
        · subst e; simp [hlt]
        · rw [if_neg e]
          constructor
          · exact fun h => .inl h
          · rintro (h | h)
            · exact h
            · exact absurd h.symm e
      have hfun : (fun m => (listed.setIfInBounds i true)[m]? = some true) = (fun m => listed[m]? = some true ∨ m = i) := by funext m; exact propext (hset m)
      refine ih (listed.setIfInBounds i true) L2 HD2 a' w' (by simp [hsz]) (by have := undone_set hlt hfalse; omega) (fun k ok hk hD e he hb => ?_) (by rw [hfun]; exact hid2)
      rw [hset] at hD ⊢
      rcases hD with hD | hD
      · exact .inl (hcl k ok hk hD e he hb)
      · subst hD
        rw [ho] at hk
        obtain rfl := Option.some.inj hk
        exact .inl (h3' e he hb)

end

theorem mixed_wp {P : Program} {ops : Array Oper} {Q : Exit → Act → World → Prop} {id : Nat} {a : Act} {w : World} (hm : P.follows .mixedOrders = true)
    (h : wpAny P .any ops Q ops.size (Array.replicate ops.size false) a { w with drawn := w.drawn + 1 }) : (Code.region id ops true).wp P Q a w := wp_region_any hm h

/-- A region. -/
theorem evRegionD_ok {P : Program} {C : Cfg} {call : FuncId → List Value → AH → Option (Value × AH)} {B : Nat} (hm : P.follows .mixedOrders = true) (hcall : CallOk P C B call) {ops : Array Oper} {draw : Bool} {s s' : St} (h : evRegionD P C call ops draw s = some s')
    {S : Nat → Prop} {L : Nat → Loc} {a : Act} {w : World} (hG : GO C S L) (hA : AI S L s.k s.tm a) (hI : Inv B S L s.H w) {Q : Exit → Act → World → Prop} (hQ : ∀ a' w', Done B S L s.H w s' a' w' → Q .normal a' w') (id : Nat) : (Code.region id ops draw).wp P Q a w := by
  unfold evRegionD at h
  cases draw with
  | false =>
    rw [cond_false] at h
    refine wp_region ?_
    have := evList_ok (Q := Q) hcall ops.toList 0 s s' S L a w hG (fun j => by simp) h hA hI hQ
    rw [List.range_eq_range']
    simpa using this
  | true =>
    rw [cond_true] at h
    cases hr : regOk ops with
    | false => rw [hr] at h; cases h
    | true =>
      rw [hr, cond_true] at h
      have hR := regOk_spec hr
      obtain ⟨st, val, q, ms, e1, e2, e3, e4, e5⟩ := evDraw_trace ops.toList 0 false [] s s' h (fun j => by simp)
      have hN : st ops.size = s' := by rw [← e4]; simp
      have T : Trace P C call ops st val q ms s s' := ⟨e1, hN, e2, e3, fun i o ho => e5 i o (Nat.zero_le _) ho⟩
      subst e1
      refine mixed_wp hm ?_
      let w1 : World := { w with drawn := w.drawn + 1 }
      have hI1 : Inv B S L (st 0).H w1 := hI.heap rfl
      refine draw_any T hR hcall hG hI1 (fun a' w' hd => hQ a' w' ?_) ops.size _ L { n := (st ops.size).H.n, lw := (st 0).H.lw, t := (st 0).H.t } a w1 (by simp) (by simp [undone]) (fun i o ho hl => by
        have : i < ops.size := lt_of_some ho
        simp [this] at hl) ?_
      · rw [hN] at hd
        obtain ⟨L', d1, d2, d3⟩ := hd
        exact ⟨L', d1, d2, ⟨d3.agree, d3.n, d3.lw, d3.keep, d3.back, d3.newg, d3.os, d3.tape, d3.output, d3.size, d3.frame⟩⟩
      · have hnone : ∀ m, ¬ ((Array.replicate ops.size false)[m]? = some true) := fun m hm => by
          rw [Array.getElem?_replicate] at hm
          split at hm
          · cases hm
          · cases hm
        have hb : ∀ j, ({ n := (st ops.size).H.n, lw := (st 0).H.lw, t := (st 0).H.t } : AH).blk j = (st 0).H.blk j := fun j => rfl
        have hsd : ∀ j, SDs ops st S (fun m => (Array.replicate ops.size false)[m]? = some true) j ↔ S j := fun j => by
          constructor
          · rintro (h1 | ⟨l, _, h2, _⟩)
            · exact h1
            · exact absurd h2 (hnone l)
          · exact fun h => .inl h
        refine ⟨fun _ _ => rfl, ?_, rfl, fun j _ _ => hb j, fun j _ sz cs hj => ⟨cs, hj⟩, fun j hj sz cs hbj => absurd (hI1.lt hbj) (by omega), rfl, rfl, rfl, Nat.le_refl _, fun g _ => .inl rfl, Nat.le_refl _, hA.defers, hA.size, fun t v _ hv => hA.tmp t v hv, fun m t _ hm => absurd hm (hnone m), .inl ⟨fun m _ hm => absurd hm (hnone m), rfl, fun j hj => ?_, fun i hi hq j hj hl => ?_, fun m _ hm => absurd hm (hnone m)⟩⟩
        · have := hI1.mono (S' := SDs ops st S (fun m => (Array.replicate ops.size false)[m]? = some true)) (fun j hj => (hsd j).mpr hj) (fun j hj => hI1.bd j ((hsd j).mp hj))
          exact ⟨this.ro, this.rw, this.dj, fun j hj => Nat.lt_of_lt_of_le (hI1.bd j ((hsd j).mp hj)) (T.n_mono (Nat.zero_le _) (Nat.le_refl _)), this.base⟩
        · rw [hb]
          exact dead_from hI1 j (by
            rcases Nat.lt_or_ge j (st 0).H.n with h' | h'
            · exact absurd (.inl h') hj
            · exact h')
        · rw [hb]
          rcases hl with hl | ⟨l, _, hl, _⟩
          · exact ((T.grown (dead_from hI1) i hi hq).2.2 0 (Nat.zero_le _) j hl).symm
          · exact absurd hl (hnone l)

end
end Go.Proofs.YthlgggcpokfmaaaDoor.Ev

/-
  THE ENGINE, part N: regions of loads and stores that draw their order: what touches the same block is ordered, so every order comes to the same.
-/
namespace Go.Proofs.YthlgggcpokfmaaaDoor.Ev
open Go Go.RowKit
set_option linter.unusedVariables false
noncomputable section
set_option linter.unusedSimpArgs false

section
variable (P : Program) (C : Cfg) (call : FuncId → List Value → AH → Option (Value × AH)) (ops : Array Oper) (st : Nat → St) (val : Nat → Value) (ft : Nat → Option (Nat × Bool)) (fs : Nat → List (Nat × Nat × Bool))

def MQuiet (i : Nat) (o : Oper) : Prop :=
  ft i = none ∧ (st (i + 1)).H = (st i).H ∧
  ((wantedV ops (st i).tm o = some false ∧ val i = undef) ∨ (wantedV ops (st i).tm o = some true ∧ ∀ H0, evOp P C call (st i).tm H0 o.op = some (val i, H0)))

def MRead (i : Nat) (o : Oper) : Prop :=
  ∃ t x b off, o.op = .load t x ∧ wantedV ops (st i).tm o = some true ∧ opd C (st i).tm x = some (.pointer (some ⟨b, off, none⟩)) ∧
    loadV P (st i).H t (.pointer (some ⟨b, off, none⟩)) = some (val i) ∧ (st (i + 1)).H = (st i).H ∧ ft i = some (b, false)

def MWrite (i : Nat) (o : Oper) : Prop :=
  ∃ t x y b off v, o.op = .store t x y ∧ wantedV ops (st i).tm o = some true ∧ opd C (st i).tm x = some (.pointer (some ⟨b, off, none⟩)) ∧ opd C (st i).tm y = some v ∧
    storeV P (st i).H t (.pointer (some ⟨b, off, none⟩)) v = some (st (i + 1)).H ∧ val i = undef ∧ ft i = some (b, true)

def MFull (i : Nat) (o : Oper) : Prop :=
  (MQuiet P C call ops st val ft i o ∨ MRead P C ops st val ft i o ∨ MWrite P C ops st val ft i o) ∧ (st i).put o.dst (val i) (st (i + 1)).H = some (st (i + 1)) ∧
  (fs (i + 1) = match ft i with | none => fs i | some (b, w) => (i, b, w) :: fs i) ∧
  ∀ b w, ft i = some (b, w) → noClash ((before ops).getD i 0) b w (fs i) = true

structure MTrace (s s' : St) : Prop where
  start : st 0 = s
  stop : st ops.size = s'
  f0 : fs 0 = []
  step : ∀ i o, ops[i]? = some o → MFull P C call ops st val ft fs i o
end

theorem evMem_trace {P : Program} {C : Cfg} {call : FuncId → List Value → AH → Option (Value × AH)} {ops : Array Oper} : ∀ (l : List Oper) (i : Nat) (f0 : List (Nat × Nat × Bool)) (s s' : St),
    evMem P C call ops i f0 l s = some s' → (∀ j, l[j]? = ops[i + j]?) →
    ∃ (st : Nat → St) (val : Nat → Value) (ft : Nat → Option (Nat × Bool)) (fs : Nat → List (Nat × Nat × Bool)), st i = s ∧ fs i = f0 ∧ st (i + l.length) = s' ∧ ∀ k o, i ≤ k → ops[k]? = some o → MFull P C call ops st val ft fs k o
  | [], i, f0, s, s', h, hl => by
    simp only [evMem] at h
    obtain rfl := Option.some.inj h
    refine ⟨fun _ => s, fun _ => undef, fun _ => none, fun _ => f0, rfl, rfl, rfl, fun k o hk ho => ?_⟩
    have := hl (k - i)
    rw [show i + (k - i) = k by omega, ho] at this
    simp at this
  | o :: rest, i, f0, s, s', h, hl => by
    have h0 : ops[i]? = some o := by simpa using (hl 0).symm
    have hl' : ∀ j, rest[j]? = ops[i + 1 + j]? := fun j => by have := hl (j + 1); simpa [Nat.add_assoc, Nat.add_comm 1 j] using this
    have glue : ∀ (v : Value) (t1 : Option (Nat × Bool)) (f1 : List (Nat × Nat × Bool)) (s1 : St), evMem P C call ops (i + 1) f1 rest s1 = some s' →
        (∀ (st : Nat → St) (val : Nat → Value) (ft : Nat → Option (Nat × Bool)) (fs : Nat → List (Nat × Nat × Bool)), st i = s → st (i + 1) = s1 → val i = v → ft i = t1 → fs i = f0 → fs (i + 1) = f1 → MFull P C call ops st val ft fs i o) →
        ∃ (st : Nat → St) (val : Nat → Value) (ft : Nat → Option (Nat × Bool)) (fs : Nat → List (Nat × Nat × Bool)), st i = s ∧ fs i = f0 ∧ st (i + (o :: rest).length) = s' ∧ ∀ k o, i ≤ k → ops[k]? = some o → MFull P C call ops st val ft fs k o := by
      intro v t1 f1 s1 hr hf
      obtain ⟨st, val, ft, fs, e1, e3, e4, e5⟩ := evMem_trace rest (i + 1) f1 s1 s' hr hl'
      refine ⟨fun k => if k = i then s else st k, fun k => if k = i then v else val k, fun k => if k = i then t1 else ft k, fun k => if k = i then f0 else fs k, by simp, by simp, ?_, fun k o' hk ho => ?_⟩
      · have e6 : i + (o :: rest).length = i + 1 + rest.length := by simp; omega
        have e7 : i + 1 + rest.length ≠ i := by omega
        show (if i + (o :: rest).length = i then s else st (i + (o :: rest).length)) = s'
        rw [e6, if_neg e7]; exact e4
      · by_cases hki : k = i
        · subst hki
          rw [h0] at ho
          obtain rfl := Option.some.inj ho
          exact hf _ _ _ _ (by simp) (by simp [e1]) (by simp) (by simp) (by simp) (by simp [e3])
        · have := e5 k o' (by omega) ho
          have hk1 : k + 1 ≠ i := by omega
          unfold MFull MQuiet MRead MWrite at this ⊢
          simp only [if_neg hki, if_neg hk1]
          exact this
    simp only [evMem] at h
    split at h <;> first | (cases h; done) | skip
    · rename_i hw
      split at h <;> first | (cases h; done) | skip
      · rename_i hmf
        split at h <;> first | (cases h; done) | skip
        rename_i v H1 hop
        split at h <;> first | (cases h; done) | skip
        rename_i s1 hput
        obtain ⟨eH, ek, _⟩ := put_some hput
        have hh : heapOp o.op = false := by
          unfold memFoot at hmf
          split at hmf
          · split at hmf <;> cases hmf
          · split at hmf <;> cases hmf
          · cases e : heapOp o.op with
            | false => rfl
            | true => rw [e] at hmf; cases hmf
        refine glue v none f0 s1 h fun st val ft fs a1 a2 a3 a4 a5 a6 => ⟨.inl ⟨a4, by rw [a1, a2, eH], .inr ⟨by rw [a1]; exact hw, fun H0 => by rw [a1, a3]; exact evOp_pure hh hop H0⟩⟩, by rw [a1, a2, a3, eH]; exact hput, by rw [a4, a5, a6], fun b w e => by rw [a4] at e; cases e⟩
      · rename_i b w hmf
        cases hc : noClash ((before ops).getD i 0) b w f0 with
        | false => rw [hc] at h; cases h
        | true =>
          rw [hc, cond_true] at h
          split at h <;> first | (cases h; done) | skip
          rename_i v H1 hop
          split at h <;> first | (cases h; done) | skip
          rename_i s1 hput
          obtain ⟨eH, ek, _⟩ := put_some hput
          refine glue v (some (b, w)) _ s1 h fun st val ft fs a1 a2 a3 a4 a5 a6 => ⟨?_, by rw [a1, a2, a3, eH]; exact hput, by rw [a4, a5, a6], fun b' w' e => by rw [a4] at e; cases e; rw [a5]; exact hc⟩
          unfold memFoot at hmf
          split at hmf
          · rename_i t x e
            split at hmf <;> first | (cases hmf; done) | skip
            rename_i b' off hx
            cases hmf
            rw [e] at hop
            simp only [evOp, oLoad, oStore, hx] at hop
            split at hop <;> first | (cases hop; done) | skip
            rename_i v' hv
            cases hop
            exact .inr (.inl ⟨t, x, b, off, e, by rw [a1]; exact hw, by rw [a1]; exact hx, by rw [a1, a3]; exact hv, by rw [a1, a2, eH], a4⟩)
          · rename_i t x y e
            split at hmf <;> first | (cases hmf; done) | skip
            rename_i b' off hx
            cases hmf
            rw [e] at hop
            simp only [evOp, oLoad, oStore, hx] at hop
            split at hop <;> first | (cases hop; done) | skip
            rename_i a' b' e1 hy
            split at hop <;> first | (cases hop; done) | skip
            rename_i H' hst
            cases hop
            cases e1
            exact .inr (.inr ⟨t, x, y, b, off, _, e, by rw [a1]; exact hw, by rw [a1]; exact hx, by rw [a1]; exact hy, by rw [a1, a2, eH]; exact hst, a3, a4⟩)
          · cases e : heapOp o.op with
            | false => rw [e] at hmf; cases hmf
            | true => rw [e] at hmf; cases hmf
    · rename_i hw
      split at h <;> first | (cases h; done) | skip
      rename_i s1 hput
      obtain ⟨eH, ek, _⟩ := put_some hput
      exact glue undef none f0 s1 h fun st val ft fs a1 a2 a3 a4 a5 a6 => ⟨.inl ⟨a4, by rw [a1, a2, eH], .inl ⟨by rw [a1]; exact hw, a3⟩⟩, by rw [a1, a2, a3, eH]; exact hput, by rw [a4, a5, a6], fun b w e => by rw [a4] at e; cases e⟩

/-! ### single blocks -/
theorem loadV_blk {P : Program} {H H2 : AH} {t : TypeId} {b off : Nat} (h : H2.blk b = H.blk b) : loadV P H2 t (.pointer (some ⟨b, off, none⟩)) = loadV P H t (.pointer (some ⟨b, off, none⟩)) := by
  have hc : H2.cells b = H.cells b := by unfold AH.cells; rw [h]
  have hr : ∀ n, H2.read b off n = H.read b off n := fun n => by unfold AH.read; rw [hc]
  simp only [loadV, hc, hr]

theorem write_blk {H H2 H' : AH} {b off : Nat} {vs : List Value} (h : H2.blk b = H.blk b) (hw : H.write b off vs = some H') :
    ∃ H2', H2.write b off vs = some H2' ∧ H2'.blk b = H'.blk b ∧ (∀ j, j ≠ b → H2'.blk j = H2.blk j ∧ H'.blk j = H.blk j) ∧ H2'.n = H2.n ∧ H'.n = H.n ∧ H2'.lw = min H2.lw b ∧ H'.lw = min H.lw b := by
  rw [AH.write_def] at hw ⊢
  rw [h]
  split at hw <;> first | (cases hw; done) | skip
  rename_i sz cs e
  cases hb : (Nat.ble (off + vs.length) cs.length && vs.all one) with
  | false => rw [hb] at hw; cases hw
  | true =>
    rw [hb, cond_true] at hw
    obtain rfl := Option.some.inj hw
    refine ⟨{ n := H2.n, lw := min H2.lw b, t := H2.t.set b (.rw sz (cs.take off ++ vs ++ cs.drop (off + vs.length))) }, ?_, ?_, fun j hj => ⟨?_, ?_⟩, rfl, rfl, rfl, rfl⟩
    · rfl
    · unfold AH.blk; simp only [Tr.get_set, if_true]
    · unfold AH.blk; simp only [Tr.get_set, if_neg hj]
    · unfold AH.blk; simp only [Tr.get_set, if_neg hj]

theorem storeV_blk {P : Program} {H H2 H' : AH} {t : TypeId} {b off : Nat} {v : Value} (h : H2.blk b = H.blk b) (hw : storeV P H t (.pointer (some ⟨b, off, none⟩)) v = some H') :
    ∃ H2', storeV P H2 t (.pointer (some ⟨b, off, none⟩)) v = some H2' ∧ H2'.blk b = H'.blk b ∧ (∀ j, j ≠ b → H2'.blk j = H2.blk j ∧ H'.blk j = H.blk j) ∧ H2'.n = H2.n ∧ H'.n = H.n ∧ H2'.lw = min H2.lw b ∧ H'.lw = min H.lw b := by
  simp only [storeV] at hw ⊢
  split at hw <;> first | (cases hw; done) | skip
  rename_i n e
  cases hb : Nat.beq v.cells.size n with
  | false => rw [hb] at hw; cases hw
  | true =>
    rw [hb, cond_true] at hw
    rw [cond_true]
    exact write_blk h hw

section
variable {P : Program} {C : Cfg} {call : FuncId → List Value → AH → Option (Value × AH)} {ops : Array Oper} {st : Nat → St} {val : Nat → Value} {ft : Nat → Option (Nat × Bool)} {fs : Nat → List (Nat × Nat × Bool)} {s s' : St}

theorem MTrace.fs_iff (T : MTrace P C call ops st val ft fs s s') : ∀ (i : Nat), i ≤ ops.size → ∀ k b w, (k, b, w) ∈ fs i ↔ k < i ∧ ft k = some (b, w)
  | 0, _, k, b, w => by rw [T.f0]; simp
  | i + 1, hi', k, b, w => by
    obtain ⟨o, ho⟩ := size_some (ops := ops) (i := i) (by omega)
    have ih := T.fs_iff i (by omega) k b w
    have hs := (T.step i o ho).2.2.1
    cases hf : ft i with
    | none =>
      rw [hf] at hs
      simp only at hs
      rw [hs, ih]
      constructor
      · rintro ⟨h1, h2⟩; exact ⟨by omega, h2⟩
      · rintro ⟨h1, h2⟩
        have : k ≠ i := by rintro rfl; rw [hf] at h2; cases h2
        exact ⟨by omega, h2⟩
    | some x =>
      obtain ⟨b', w'⟩ := x
      rw [hf] at hs
      simp only at hs
      rw [hs, List.mem_cons, ih]
      constructor
      · rintro (h | ⟨h1, h2⟩)
        · injection h with h1 h2
          injection h2 with h2 h3
          subst h1; subst h2; subst h3
          exact ⟨by omega, hf⟩
        · exact ⟨by omega, h2⟩
      · rintro ⟨h1, h2⟩
        by_cases hk : k = i
        · subst hk
          rw [hf] at h2
          cases h2
          exact .inl rfl
        · exact .inr ⟨by omega, h2⟩

theorem noClash_spec {bits b : Nat} {w : Bool} : ∀ {l : List (Nat × Nat × Bool)}, noClash bits b w l = true → ∀ k w', (k, b, w') ∈ l → (w || w') = true → bits.testBit k = true
  | [], _, k, w', h, _ => by cases h
  | (k0, b0, w0) :: r, h, k, w', hm, hw => by
    simp only [noClash, Bool.and_eq_true, Bool.or_eq_true, Bool.not_eq_true'] at h
    rcases List.mem_cons.mp hm with h1 | h1
    · injection h1 with h1 h2
      injection h2 with h2 h3
      subst h1; subst h2; subst h3
      rcases h.1 with (h4 | h4) | h4
      · rw [Nat.beq_refl] at h4; cases h4
      · rw [h4] at hw; cases hw
      · exact h4
    · exact noClash_spec h.2 k w' h1 hw

theorem MTrace.order (T : MTrace P C call ops st val ft fs s s') {i k b : Nat} {w w' : Bool} (hi : i < ops.size) (hk : k < i) (h1 : ft k = some (b, w')) (h2 : ft i = some (b, w)) (hw : (w || w') = true) : bef ops i k := by
  obtain ⟨o, ho⟩ := size_some hi
  have := (T.step i o ho).2.2.2 b w h2
  exact noClash_spec this k w' ((T.fs_iff i (Nat.le_of_lt hi) k b w').mpr ⟨hk, h1⟩) hw

theorem MTrace.n_eq (T : MTrace P C call ops st val ft fs s s') : ∀ (i : Nat), i ≤ ops.size → (st i).H.n = (st 0).H.n
  | 0, _ => rfl
  | i + 1, hi => by
    obtain ⟨o, ho⟩ := size_some (ops := ops) (i := i) (by omega)
    have ih := T.n_eq i (by omega)
    rcases (T.step i o ho).1 with h | ⟨_, _, _, _, _, _, _, _, h, _⟩ | ⟨_, _, _, _, _, _, _, _, _, _, h, _⟩
    · rw [h.2.1]; exact ih
    · rw [h]; exact ih
    · obtain ⟨_, _, _, _, _, e, _⟩ := storeV_blk (H2 := (st i).H) rfl h
      rw [e]; exact ih

/-- A block that nobody writes stays. -/
theorem MTrace.still (T : MTrace P C call ops st val ft fs s s') {h j : Nat} : ∀ (i : Nat), h ≤ i → i ≤ ops.size → (∀ m, h ≤ m → m < i → ft m ≠ some (j, true)) → (st i).H.blk j = (st h).H.blk j
  | 0, h1, _, _ => by obtain rfl : h = 0 := by omega
                      rfl
  | i + 1, h1, hi, hn => by
    rcases Nat.lt_or_ge h (i + 1) with h' | h'
    · have ih := T.still i (by omega) (by omega) (fun m a b => hn m a (by omega))
      obtain ⟨o, ho⟩ := size_some (ops := ops) (i := i) (by omega)
      rcases (T.step i o ho).1 with h2 | ⟨_, _, _, _, _, _, _, _, h2, _⟩ | ⟨_, _, _, b, _, _, _, _, _, _, h2, _, h3⟩
      · rw [h2.2.1]; exact ih
      · rw [h2]; exact ih
      · obtain ⟨_, _, _, e, _⟩ := storeV_blk (H2 := (st i).H) rfl h2
        have hb : j ≠ b := by rintro rfl; exact hn i (by omega) (by omega) h3
        rw [(e j hb).2]; exact ih
    · obtain rfl : h = i + 1 := by omega
      rfl

theorem MTrace.lw_iff (T : MTrace P C call ops st val ft fs s s') : ∀ (i : Nat), i ≤ ops.size → ∀ x, x ≤ (st i).H.lw ↔ (x ≤ (st 0).H.lw ∧ ∀ m b, m < i → ft m = some (b, true) → x ≤ b)
  | 0, _, x => ⟨fun h => ⟨h, fun m b hm => by omega⟩, fun h => h.1⟩
  | i + 1, hi, x => by
    obtain ⟨o, ho⟩ := size_some (ops := ops) (i := i) (by omega)
    have ih := T.lw_iff i (by omega) x
    have skip : (st (i + 1)).H.lw = (st i).H.lw → (∀ b, ft i ≠ some (b, true)) → (x ≤ (st (i + 1)).H.lw ↔ (x ≤ (st 0).H.lw ∧ ∀ m b, m < i + 1 → ft m = some (b, true) → x ≤ b)) := fun e hf => by
      rw [e, ih]
      refine ⟨fun ⟨h1, h2⟩ => ⟨h1, fun m b hm hb => ?_⟩, fun ⟨h1, h2⟩ => ⟨h1, fun m b hm hb => h2 m b (by omega) hb⟩⟩
      by_cases e : m = i
      · subst e; exact absurd hb (hf b)
      · exact h2 m b (by omega) hb
    rcases (T.step i o ho).1 with h2 | ⟨_, _, _, _, _, _, _, _, h2, h3⟩ | ⟨_, _, _, b, _, _, _, _, _, _, h2, _, h3⟩
    · exact skip (by rw [h2.2.1]) (fun b e => by rw [h2.1] at e; cases e)
    · exact skip (by rw [h2]) (fun b e => by rw [h3] at e; cases e)
    · obtain ⟨_, _, _, _, _, _, _, e⟩ := storeV_blk (H2 := (st i).H) rfl h2
      rw [e, Nat.le_min, ih]
      refine ⟨fun ⟨⟨h4, h5⟩, h6⟩ => ⟨h4, fun m b' hm hb => ?_⟩, fun ⟨h4, h5⟩ => ⟨⟨h4, fun m b' hm hb => h5 m b' (by omega) hb⟩, h5 i b (by omega) h3⟩⟩
      by_cases e : m = i
      · subst e; rw [h3] at hb; cases hb; exact h6
      · exact h5 m b' (by omega) hb

theorem MTrace.k_eq (T : MTrace P C call ops st val ft fs s s') : ∀ (i : Nat), i ≤ ops.size → (st i).k = (st 0).k
  | 0, _ => rfl
  | i + 1, hi => by
    obtain ⟨o, ho⟩ := size_some (ops := ops) (i := i) (by omega)
    obtain ⟨_, h, _⟩ := put_some (T.step i o ho).2.1
    exact h.trans (T.k_eq i (by omega))

theorem MTrace.dst_lt (T : MTrace P C call ops st val ft fs s s') {m : Nat} {t : Nat} (h : dstOf ops m = some t) : t < (st 0).k := by
  unfold dstOf at h
  cases ho : ops[m]? with
  | none => rw [ho] at h; cases h
  | some o =>
    rw [ho] at h
    obtain ⟨_, _, h1⟩ := put_some (T.step m o ho).2.1
    have hd : o.dst = some t := h
    rcases h1 with ⟨h1, _⟩ | ⟨d, h1, h2, _⟩
    · rw [h1] at hd; cases hd
    · rw [h1] at hd
      obtain rfl := Option.some.inj hd
      rw [T.k_eq m (Nat.le_of_lt (lt_of_some ho))] at h2
      exact h2

theorem MTrace.tm (T : MTrace P C call ops st val ft fs s s') : ∀ (i : Nat), i ≤ ops.size → ∀ t v, (st i).tm.get t = some v →
    (∃ m, m < i ∧ dstOf ops m = some t ∧ val m = v ∧ ∀ m', m < m' → m' < i → dstOf ops m' ≠ some t) ∨ ((∀ m, m < i → dstOf ops m ≠ some t) ∧ (st 0).tm.get t = some v)
  | 0, _, t, v, h => .inr ⟨fun m hm => by omega, h⟩
  | i + 1, hi, t, v, h => by
    obtain ⟨o, ho⟩ := size_some (ops := ops) (i := i) (by omega)
    have hd : dstOf ops i = o.dst := by simp [dstOf, ho]
    obtain ⟨_, _, h1⟩ := put_some (T.step i o ho).2.1
    have old : dstOf ops i ≠ some t → (st i).tm.get t = some v →
        (∃ m, m < i + 1 ∧ dstOf ops m = some t ∧ val m = v ∧ ∀ m', m < m' → m' < i + 1 → dstOf ops m' ≠ some t) ∨ ((∀ m, m < i + 1 → dstOf ops m ≠ some t) ∧ (st 0).tm.get t = some v) := fun hne hold => by
      rcases T.tm i (by omega) t v hold with ⟨m, a1, a2, a3, a4⟩ | ⟨a1, a2⟩
      · refine .inl ⟨m, by omega, a2, a3, fun m' h1 h2 => ?_⟩
        by_cases e : m' = i
        · subst e; exact hne
        · exact a4 m' h1 (by omega)
      · refine .inr ⟨fun m hm => ?_, a2⟩
        by_cases e : m = i
        · subst e; exact hne
        · exact a1 m (by omega)
    rcases h1 with ⟨h1, h2⟩ | ⟨d, h1, h2, h3⟩
    · rw [h2] at h
      exact old (by rw [hd, h1]; simp) h
    · rw [h3, Tr.get_set] at h
      split at h
      · rename_i e
        subst e
        obtain rfl := Option.some.inj h
        exact .inl ⟨i, by omega, by rw [hd, h1], rfl, fun m' _ _ => by omega⟩
      · rename_i e
        exact old (by rw [hd, h1]; intro h'; injection h' with h'; exact e h'.symm) h
end

/-- What holds between whatever has been done and the text's own order. -/
structure MD (ops : Array Oper) (st : Nat → St) (ft : Nat → Option (Nat × Bool)) (val : Nat → Value) (B : Nat) (S0 : Nat → Prop) (L0 : Nat → Loc) (w0 : World) (D : Nat → Prop) (HD : AH) (a : Act) (w : World) : Prop where
  inv : Inv B S0 L0 HD w
  hn : HD.n = (st 0).H.n
  fr : Fr S0 L0 (st 0).H w0 L0 HD w
  lw : ∀ x, x ≤ HD.lw ↔ (x ≤ (st 0).H.lw ∧ ∀ m b, m < ops.size → D m → ft m = some (b, true) → x ≤ b)
  blk : ∀ j h, h ≤ ops.size → (∀ m, m < ops.size → ft m = some (j, true) → (D m ↔ m < h)) → HD.blk j = (st h).H.blk j
  defers : a.defers = []
  size : a.tmps.size = (st 0).k
  v0 : ∀ t v, (∀ m, m < ops.size → D m → dstOf ops m ≠ some t) → (st 0).tm.get t = some v → t < (st 0).k ∧ VR S0 L0 v (a.tmps.getD t undef)
  v1 : ∀ m t, m < ops.size → D m → dstOf ops m = some t → (∀ m', m' < ops.size → D m' → m < m' → dstOf ops m' ≠ some t) → VR S0 L0 (val m) (a.tmps.getD t undef)

theorem Inv.reloc {B : Nat} {S S' : Nat → Prop} {L L' : Nat → Loc} {H : AH} {w : World} (hI : Inv B S' L' H w) (hS : ∀ i, S' i ↔ S i) (hL : ∀ i, S i → L' i = L i) : Inv B S L H w := by
  refine ⟨fun i sz cs h => ?_, fun i sz cs h => ?_, fun i j a b c d h h' e => ?_, fun i h => hI.bd i ((hS i).mpr h), hI.base⟩
  · obtain ⟨h1, h2, h3, h4⟩ := hI.ro i sz cs h
    have hs := (hS i).mp h1
    rw [hL i hs] at h2 h3 h4
    exact ⟨hs, h2, h3, fun k v hk => by
      obtain ⟨v', h5, h6⟩ := h4 k v hk
      exact ⟨v', h5, h6.mono (fun j hj => (hS j).mp hj) (fun j hj => (hL j ((hS j).mp hj)).symm)⟩⟩
  · obtain ⟨h1, h2, h3, C, e, h4, h5, h6⟩ := hI.rw i sz cs h
    have hs := (hS i).mp h1
    rw [hL i hs] at h2 h3 h4 h5 h6
    exact ⟨hs, h2, h3, C, e, h4, h5, fun k v hk => by
      obtain ⟨v', h7, h8⟩ := h6 k v hk
      exact ⟨v', h7, h8.mono (fun j hj => (hS j).mp hj) (fun j hj => (hL j ((hS j).mp hj)).symm)⟩⟩
  · have h1 := (hS i).mp (hI.rw i _ _ h).1
    have h2 := (hS j).mp (hI.rw j _ _ h').1
    exact hI.dj i j a b c d h h' (by rw [hL i h1, hL j h2]; exact e)

theorem Fr.reloc {B : Nat} {S : Nat → Prop} {L L' : Nat → Loc} {H H' : AH} {w w' : World} (hF : Fr S L H w L' H' w') (hI : Inv B S L H' w') (hb : ∀ i, S i → i < H.n) : Fr S L H w L H' w' :=
  ⟨fun _ _ => rfl, hF.n, hF.lw, hF.keep, hF.back, fun i hi sz cs h => absurd (hb i (hI.rw i sz cs h).1) (by omega), hF.os, hF.tape, hF.output, hF.size, hF.frame⟩

section
variable {P : Program} {C : Cfg} {call : FuncId → List Value → AH → Option (Value × AH)} {ops : Array Oper} {st : Nat → St} {val : Nat → Value} {ft : Nat → Option (Nat × Bool)} {fs : Nat → List (Nat × Nat × Bool)} {s s' : St}
variable {B : Nat} {S0 : Nat → Prop} {L0 : Nat → Loc} {w0 : World} {D : Nat → Prop} {HD : AH} {a : Act} {w : World}

theorem MD.looks (T : MTrace P C call ops st val ft fs s s') (hR : RegOk ops) (h : MD ops st ft val B S0 L0 w0 D HD a w) {i : Nat} {o : Oper} (ho : ops[i]? = some o) (hDi : ¬ D i) (hpre : ∀ m, bef ops i m → D m)
    (hcl : ∀ i m, i < ops.size → D i → bef ops i m → D m) {t : Nat} (ht : t ∈ o.looksAt ops) {v : Value} (hv : (st i).tm.get t = some v) : t < a.tmps.size ∧ VR S0 L0 v (a.tmps.getD t undef) := by
  have hi := lt_of_some ho
  have later : ∀ m', m' < ops.size → D m' → i < m' → dstOf ops m' ≠ some t := fun m' hm' hD' hlt e => by
    obtain ⟨o', ho'⟩ := size_some hm'
    rcases hR.apart i m' o o' ho ho' hlt with h1 | h1
    · exact hDi (hcl m' i hm' hD' h1)
    · exact (Oper.apart_spec h1).2.2 t (by simpa [dstOf, ho'] using e) ht
  rw [h.size]
  rcases T.tm i (Nat.le_of_lt hi) t v hv with ⟨m, h1, h2, h3, h4⟩ | ⟨h1, h2⟩
  · obtain ⟨om, hom⟩ := size_some (ops := ops) (i := m) (by omega)
    have hb : bef ops i m := by
      rcases hR.apart m i om o hom ho h1 with h5 | h5
      · exact h5
      · exact absurd ht ((Oper.apart_spec h5).1 t (by simpa [dstOf, hom] using h2))
    refine ⟨T.dst_lt h2, ?_⟩
    have := h.v1 m t (by omega) (hpre m hb) h2 (fun m' hm' hD' hlt => by
      rcases Nat.lt_or_ge m' i with h6 | h6
      · exact h4 m' hlt h6
      · rcases Nat.lt_or_ge i m' with h7 | h7
        · exact later m' hm' hD' h7
        · obtain rfl : m' = i := by omega
          exact absurd hD' hDi)
    rw [h3] at this
    exact this
  · exact h.v0 t v (fun m hm hD' => by
      rcases Nat.lt_or_ge m i with h6 | h6
      · exact h1 m h6
      · rcases Nat.lt_or_ge i m with h7 | h7
        · exact later m hm hD' h7
        · obtain rfl : m = i := by omega
          exact absurd hD' hDi) h2

theorem mput_getD {i : Nat} {o : Oper} (T : MTrace P C call ops st val ft fs s s') (ho : ops[i]? = some o) (hsz : a.tmps.size = (st 0).k) (v' : Value) (t : Nat) :
    (a.put o.dst v').tmps.getD t undef = if dstOf ops i = some t then v' else a.tmps.getD t undef := by
  have hd : dstOf ops i = o.dst := by simp [dstOf, ho]
  rw [hd]
  cases hdst : o.dst with
  | none => simp [Act.put]
  | some d =>
    simp only [Act.put]
    by_cases e : d = t
    · subst e
      rw [if_pos rfl, getD_set_self _ _ _ _ (by rw [hsz]; exact T.dst_lt (by rw [hd, hdst]))]
    · rw [if_neg (by intro h; injection h with h; exact e h), getD_set_ne' _ _ _ _ _ e]

theorem MD.slots (T : MTrace P C call ops st val ft fs s s') (hR : RegOk ops) (h : MD ops st ft val B S0 L0 w0 D HD a w) {i : Nat} {o : Oper} (ho : ops[i]? = some o) (hDi : ¬ D i)
    (hcl : ∀ i m, i < ops.size → D i → bef ops i m → D m) {v' : Value} (hv : VR S0 L0 (val i) v') :
    (a.put o.dst v').defers = [] ∧ (a.put o.dst v').tmps.size = (st 0).k ∧
    (∀ t v, (∀ m, m < ops.size → (D m ∨ m = i) → dstOf ops m ≠ some t) → (st 0).tm.get t = some v → t < (st 0).k ∧ VR S0 L0 v ((a.put o.dst v').tmps.getD t undef)) ∧
    (∀ m t, m < ops.size → (D m ∨ m = i) → dstOf ops m = some t → (∀ m', m' < ops.size → (D m' ∨ m' = i) → m < m' → dstOf ops m' ≠ some t) → VR S0 L0 (val m) ((a.put o.dst v').tmps.getD t undef)) := by
  have hi := lt_of_some ho
  refine ⟨?_, ?_, fun t v h1 h2 => ?_, fun m t hm hD hd hlast => ?_⟩
  · have := h.defers; cases hdst : o.dst <;> simp [Act.put, this]
  · have := h.size; cases hdst : o.dst <;> simp [Act.put, this]
  · rw [mput_getD T ho h.size, if_neg (h1 i hi (.inr rfl))]
    exact h.v0 t v (fun m hm hD => h1 m hm (.inl hD)) h2
  · rw [mput_getD T ho h.size]
    by_cases hmi : m = i
    · subst hmi; rw [if_pos hd]; exact hv
    · have hDm : D m := hD.resolve_right hmi
      have hne : dstOf ops i ≠ some t := by
        intro e
        obtain ⟨om, hom⟩ := size_some hm
        rcases Nat.lt_or_ge m i with h1 | h1
        · exact hlast i hi (.inr rfl) h1 e
        · have hlt : i < m := by omega
          rcases hR.apart i m o om ho hom hlt with h2 | h2
          · exact hDi (hcl m i hm hDm h2)
          · exact (Oper.apart_spec h2).2.1 t (by simpa [dstOf, ho] using e) (by simpa [dstOf, hom] using hd)
      rw [if_neg hne]
      exact h.v1 m t hm hDm hd (fun m' hm' hD' => hlast m' hm' (.inl hD'))

/-- One more operation. -/
theorem MD.step (T : MTrace P C call ops st val ft fs s s') (hR : RegOk ops) (hcall : CallOk P C B call) (hG : GO C S0 L0) (hI0 : Inv B S0 L0 (st 0).H w0) (h : MD ops st ft val B S0 L0 w0 D HD a w)
    {i : Nat} {o : Oper} (ho : ops[i]? = some o) (hDi : ¬ D i) (hpre : ∀ m, bef ops i m → D m) (hcl : ∀ i m, i < ops.size → D i → bef ops i m → D m)
    {K : Act → World → Prop} {Q : Exit → Act → World → Prop} (hK : ∀ HD2 a' w', MD ops st ft val B S0 L0 w0 (fun m => D m ∨ m = i) HD2 a' w' → K a' w') : wpOp P ops Q i K a w := by
  have hi := lt_of_some ho
  have hlook := fun {t : Nat} (ht : t ∈ o.looksAt ops) {v : Value} (hv : (st i).tm.get t = some v) => h.looks T hR ho hDi hpre hcl ht hv
  have hopd : ∀ x ∈ o.op.operands, ∀ u, opd C (st i).tm x = some u → VR S0 L0 u (a.eval x) := fun x hx u hu =>
    opd_vr2 hG (fun t v e hv => by subst e; exact (hlook (looks_tmp hx) hv).2) hu
  have hwant : ∀ b, wantedV ops (st i).tm o = some b → Region.wanted o (yielded ops a.tmps) = b := fun b hb =>
    wanted_ok hb (fun j want d hg hd v hv => hlook (looks_guard hg hd) hv)
  have hsb : ∀ i, S0 i → i < HD.n := fun i hs => by rw [h.hn]; exact hI0.bd i hs
  -- a block that this operation touches is as it was in the text's order
  have hsame : ∀ b w, ft i = some (b, w) → HD.blk b = (st i).H.blk b := fun b w hf => h.blk b i (Nat.le_of_lt hi) fun m hm hfm => by
    constructor
    · intro hDm
      rcases Nat.lt_or_ge m i with h' | h'
      · exact h'
      · rcases Nat.lt_or_ge i m with h'' | h''
        · exact absurd (hcl m i hm hDm (T.order hm h'' hf hfm (by simp))) hDi
        · obtain rfl : m = i := by omega
          exact absurd hDm hDi
    · intro hlt
      exact hpre m (T.order hi hlt hfm hf (by simp))
  -- nothing changes but a temporary
  have quiet : ∀ (v' : Value) (w' : World), VR S0 L0 (val i) v' → (∀ b, ft i ≠ some (b, true)) → Inv B S0 L0 HD w' → Fr S0 L0 HD w L0 HD w' → (st (i + 1)).H = (st i).H →
      MD ops st ft val B S0 L0 w0 (fun m => D m ∨ m = i) HD (a.put o.dst v') w' := fun v' w' hv hf hI' hF he => by
    obtain ⟨s1, s2, s3, s4⟩ := h.slots T hR ho hDi hcl hv
    refine ⟨hI', h.hn, Fr.trans hI0 h.inv (fun _ h => h) h.fr hF, fun x => ?_, fun j k hk hw => ?_, s1, s2, s3, s4⟩
    · rw [h.lw x]
      refine ⟨fun ⟨h1, h2⟩ => ⟨h1, fun m b hm hD hb => ?_⟩, fun ⟨h1, h2⟩ => ⟨h1, fun m b hm hD hb => h2 m b hm (.inl hD) hb⟩⟩
      rcases hD with hD | hD
      · exact h2 m b hm hD hb
      · subst hD; exact absurd hb (hf b)
    · refine h.blk j k hk fun m hm hfm => ?_
      rw [← hw m hm hfm]
      refine ⟨fun h => .inl h, fun h => ?_⟩
      rcases h with h | h
      · exact h
      · subst h; exact absurd hfm (hf j)
  unfold wpOp
  rw [ho]
  dsimp only
  rcases (T.step i o ho).1 with ⟨h1, h2, h3⟩ | ⟨t, x, b, off, e, h1, h2, h3, h4, h5⟩ | ⟨t, x, y, b, off, v, e, h1, h2, h3, h4, h5, h6⟩
  · rcases h3 with ⟨h3, h4⟩ | ⟨h3, h5⟩
    · rw [hwant _ h3, if_neg (by simp)]
      exact hK HD _ w (quiet undef w (by rw [h4]; exact undef_vr) (fun b e => by rw [h1] at e; cases e) h.inv (Fr.refl h.inv) h2)
    · rw [hwant _ h3, if_pos rfl]
      left
      refine (evOp_sound hcall hG h.inv hopd (h5 HD)).wp fun v' w' hg => ?_
      obtain ⟨L', gI, gF, gV⟩ := hg
      have hI' : Inv B S0 L0 HD w' := gI.reloc (fun i => ⟨ext_self, .inl⟩) (fun i hs => gF.agree i hs)
      exact hK HD _ w' (quiet v' w' (gV.mono (fun i => ext_self) (fun i hs => (gF.agree i (ext_self hs)).symm)) (fun b e => by rw [h1] at e; cases e) hI' (gF.reloc hI' hsb) h2)
  · rw [hwant _ h1, if_pos rfl]
    left
    have hev : evOp P C call (st i).tm HD o.op = some (val i, HD) := by
      rw [e]
      simp only [evOp, oLoad, oStore, h2, loadV_blk (hsame b false h5), h3]
    refine (evOp_sound hcall hG h.inv hopd hev).wp fun v' w' hg => ?_
    obtain ⟨L', gI, gF, gV⟩ := hg
    have hI' : Inv B S0 L0 HD w' := gI.reloc (fun i => ⟨ext_self, .inl⟩) (fun i hs => gF.agree i hs)
    exact hK HD _ w' (quiet v' w' (gV.mono (fun i => ext_self) (fun i hs => (gF.agree i (ext_self hs)).symm)) (fun b e => by rw [h5] at e; cases e) hI' (gF.reloc hI' hsb) h4)
  · rw [hwant _ h1, if_pos rfl]
    left
    obtain ⟨HD2, e1, e2, e3, e4, e5, e6, e7⟩ := storeV_blk (hsame b true h6) h4
    have hev : evOp P C call (st i).tm HD o.op = some (val i, HD2) := by
      rw [e]
      simp only [evOp, oLoad, oStore, h2, h3, e1, h5]
    refine (evOp_sound hcall hG h.inv hopd hev).wp fun v' w' hg => ?_
    obtain ⟨L', gI, gF, gV⟩ := hg
    have hS : ∀ i, ext S0 HD.n HD2.n i ↔ S0 i := fun i => by rw [e4]; exact ⟨ext_self, .inl⟩
    have hI' : Inv B S0 L0 HD2 w' := gI.reloc hS (fun i hs => gF.agree i hs)
    obtain ⟨s1, s2, s3, s4⟩ := h.slots T hR ho hDi hcl (gV.mono (fun i hs => (hS i).mp hs) (fun i hs => (gF.agree i ((hS i).mp hs)).symm))
    refine hK HD2 _ w' ⟨hI', e4.trans h.hn, Fr.trans hI0 h.inv (fun _ h => h) h.fr (gF.reloc hI' hsb), fun x => ?_, fun j k hk hw => ?_, s1, s2, s3, s4⟩
    · rw [e6, Nat.le_min, h.lw x]
      refine ⟨fun ⟨⟨h1, h2⟩, h7⟩ => ⟨h1, fun m b' hm hD hb => ?_⟩, fun ⟨h1, h2⟩ => ⟨⟨h1, fun m b hm hD hb => h2 m b hm (.inl hD) hb⟩, h2 i b hi (.inr rfl) h6⟩⟩
      rcases hD with hD | hD
      · exact h2 m b' hm hD hb
      · subst hD; rw [h6] at hb; cases hb; exact h7
    · by_cases hj : j = b
      · subst hj
        have hik : i < k := (hw i hi h6).mp (.inr rfl)
        rw [e2]
        refine (T.still k (by omega) hk fun m hm1 hm2 hfm => ?_).symm
        have hm : m < ops.size := by omega
        have hDm := (hw m hm hfm).mpr hm2
        rcases hDm with hDm | hDm
        · exact hDi (hcl m i hm hDm (T.order hm (by omega) h6 hfm (by simp)))
        · omega
      · rw [(e3 j hj).1]
        refine h.blk j k hk fun m hm hfm => ?_
        rw [← hw m hm hfm]
        refine ⟨fun h => .inl h, fun h => ?_⟩
        rcases h with h | h
        · exact h
        · subst h; rw [h6] at hfm; cases hfm; exact absurd rfl hj

theorem MD.done (T : MTrace P C call ops st val ft fs s s') (hI0 : Inv B S0 L0 (st 0).H w0) (h : MD ops st ft val B S0 L0 w0 D HD a w) (hD : ∀ m, m < ops.size → D m) :
    Done B S0 L0 (st 0).H w0 (st ops.size) a w := by
  have hb : ∀ j, (st ops.size).H.blk j = HD.blk j := fun j => (h.blk j ops.size (Nat.le_refl _) fun m hm _ => ⟨fun _ => hm, fun _ => hD m hm⟩).symm
  have hn : (st ops.size).H.n = HD.n := (T.n_eq _ (Nat.le_refl _)).trans h.hn.symm
  have hlw : (st ops.size).H.lw = HD.lw := by
    apply Nat.le_antisymm
    · rw [h.lw]
      obtain ⟨h1, h2⟩ := (T.lw_iff ops.size (Nat.le_refl _) (st ops.size).H.lw).mp (Nat.le_refl _)
      exact ⟨h1, fun m b hm _ hb => h2 m b hm hb⟩
    · rw [T.lw_iff ops.size (Nat.le_refl _)]
      obtain ⟨h1, h2⟩ := (h.lw HD.lw).mp (Nat.le_refl _)
      exact ⟨h1, fun m b hm hb => h2 m b hm (hD m hm) hb⟩
  have hn0 : (st ops.size).H.n = (st 0).H.n := T.n_eq _ (Nat.le_refl _)
  have hS : ∀ j, ext S0 (st 0).H.n (st ops.size).H.n j ↔ S0 j := fun j => by rw [hn0]; exact ⟨ext_self, .inl⟩
  refine ⟨L0, ⟨h.defers, by rw [h.size, T.k_eq _ (Nat.le_refl _)], fun t v hv => ?_⟩, ?_, ⟨fun _ _ => rfl, by rw [hn0]; exact Nat.le_refl _, by rw [hlw]; exact h.fr.lw, fun j hj hl => ?_, fun j hj sz cs hb' => ?_, fun j hj sz cs hb' => ?_, h.fr.os, h.fr.tape, h.fr.output, h.fr.size, fun g hg => ?_⟩⟩
  · rw [T.k_eq _ (Nat.le_refl _)]
    rcases T.tm ops.size (Nat.le_refl _) t v hv with ⟨m, h1, h2, h3, h4⟩ | ⟨h1, h2⟩
    · refine ⟨T.dst_lt h2, ?_⟩
      have := h.v1 m t h1 (hD m h1) h2 (fun m' hm' _ hlt => h4 m' hlt hm')
      rw [h3] at this
      exact this.mono (fun j hj => (hS j).mpr hj) (fun _ _ => rfl)
    · obtain ⟨h3, h4⟩ := h.v0 t v (fun m hm _ => h1 m hm) h2
      exact ⟨h3, h4.mono (fun j hj => (hS j).mpr hj) (fun _ _ => rfl)⟩
  · exact (h.inv.congr hb hn).mono (fun j hj => (hS j).mpr hj) (fun j hj => by rw [hn0]; exact hI0.bd j ((hS j).mp hj))
  · rw [hb]; exact h.fr.keep j hj (by rw [← hlw]; exact hl)
  · rw [hb] at hb'; exact h.fr.back j hj sz cs hb'
  · rw [hb] at hb'; rw [hlw]; exact h.fr.newg j hj sz cs hb'
  · rw [hlw]; exact h.fr.frame g hg

theorem mem_any (T : MTrace P C call ops st val ft fs s s') (hR : RegOk ops) (hcall : CallOk P C B call) (hG : GO C S0 L0) (hI0 : Inv B S0 L0 (st 0).H w0) {Q : Exit → Act → World → Prop}
    (hQ : ∀ a w, Done B S0 L0 (st 0).H w0 (st ops.size) a w → Q .normal a w) : ∀ (fuel : Nat) (listed : Array Bool) (HD : AH) (a : Act) (w : World), listed.size = ops.size → undone listed = fuel →
      (∀ (i : Nat) (o : Oper), ops[i]? = some o → listed[i]? = some true → ∀ e ∈ o.after.toList, Region.binds .any e = true → listed[e.on]? = some true) →
      MD ops st ft val B S0 L0 w0 (fun m => listed[m]? = some true) HD a w → wpAny P .any ops Q fuel listed a w := by
  have hend : ∀ (listed : Array Bool) (HD : AH) (a : Act) (w : World), listed.size = ops.size → Region.ready .any ops listed = [] → MD ops st ft val B S0 L0 w0 (fun m => listed[m]? = some true) HD a w → Q .normal a w := by
    intro listed HD a w hsz hr hid
    refine hQ a w (hid.done T hI0 fun m hm => ?_)
    induction m using Nat.strongRecOn with
    | _ m ih =>
      cases hb : listed[m] with
      | true => rw [Array.getElem?_eq_getElem (by omega), hb]
      | false =>
        exfalso
        obtain ⟨o, ho⟩ := size_some hm
        have : m ∈ Region.ready .any ops listed := mem_ready.2 ⟨by simp [Array.getD, hsz, hm, hb], o, ho, fun e he hbe => by
          have hlt := hR.lead m o ho e (by simpa using he) hbe
          have := ih e.on hlt (by omega)
          simp [Array.getD_eq_getD_getElem?, this]⟩
        rw [hr] at this; cases this
  intro fuel
  induction fuel with
  | zero =>
    intro listed HD a w hsz hun hcl hid
    have hr : Region.ready .any ops listed = [] := by
      cases hr : Region.ready .any ops listed with
      | nil => rfl
      | cons i r =>
        exfalso
        have hi : i ∈ Region.ready .any ops listed := by rw [hr]; simp
        obtain ⟨h1, o, ho, _⟩ := mem_ready.1 hi
        have hlt : i < listed.size := by rw [hsz]; exact lt_of_some ho
        have h2 : listed.toList[i]'(by simpa using hlt) = false := by simpa [Array.getD, hlt] using h1
        have := List.count_pos_iff.mpr (h2 ▸ List.getElem_mem (l := listed.toList) (n := i) (by simpa using hlt))
        unfold undone at hun
        omega
    exact ⟨hr, hend listed HD a w hsz hr hid⟩
  | succ fuel ih =>
    intro listed HD a w hsz hun hcl hid
    refine ⟨fun hr => hend listed HD a w hsz hr hid, fun i hi => ?_⟩
    obtain ⟨h1, o, ho, h3⟩ := mem_ready.1 hi
    have hlt : i < listed.size := by rw [hsz]; exact lt_of_some ho
    have hfalse : listed[i]? = some false := by
      rw [Array.getElem?_eq_getElem hlt]; simpa [Array.getD, hlt] using h1
    have hclD : ∀ (i : Nat) (o : Oper), ops[i]? = some o → listed[i]? = some true → ∀ e ∈ o.after.toList, Region.binds .any e = true → listed[e.on]? = some true := hcl
    have h3' : ∀ e ∈ o.after.toList, Region.binds .any e = true → listed[e.on]? = some true := fun e he hb => by
      have := h3 e (by simpa using he) hb
      rw [Array.getD_eq_getD_getElem?] at this
      cases hx : listed[e.on]? with
      | none => rw [hx] at this; simp at this
      | some b => rw [hx] at this; simpa using this
    refine hid.step T hR hcall hG hI0 ho (by rw [hfalse]; simp) (fun m hm => ?_) (fun j m hj hD hb => hR.closed (D := fun m => listed[m]? = some true) hclD m (size_some hj) hD hb) fun HD2 a' w' hid2 => ?_
    · obtain ⟨e, he, hb, h4⟩ := (hR.bef_iff ho).mp hm
      have he1 := h3' e he hb
      rcases h4 with h4 | h4
      · rw [← h4]; exact he1
      · have : e.on < ops.size := by have := hR.lead i o ho e he hb; have := lt_of_some ho; omega
        exact hR.closed (D := fun m => listed[m]? = some true) hclD m (size_some this) he1 h4
    · have hset : ∀ m, (listed.setIfInBounds i true)[m]? = some true ↔ (listed[m]? = some true ∨ m = i) := fun m => by
        rw [Array.getElem?_setIfInBounds]
        by_cases e : i = m
        · subst e; simp [hlt]
        · rw [if_neg e]
          constructor
          · exact fun h => .inl h
          · rintro (h | h)
            · exact h
            · exact absurd h.symm e
      have hfun : (fun m => (listed.setIfInBounds i true)[m]? = some true) = (fun m => listed[m]? = some true ∨ m = i) := by funext m; exact propext (hset m)
      refine ih (listed.setIfInBounds i true) HD2 a' w' (by simp [hsz]) (by have := undone_set hlt hfalse; omega) (fun k ok hk hD e he hb => ?_) (by rw [hfun]; exact hid2)
      rw [hset] at hD ⊢
      rcases hD with hD | hD
      · exact .inl (hcl k ok hk hD e he hb)
      · subst hD
        rw [ho] at hk
        obtain rfl := Option.some.inj hk
        exact .inl (h3' e he hb)
end

/-- A region. -/
theorem evRegion_ok {P : Program} {C : Cfg} {call : FuncId → List Value → AH → Option (Value × AH)} {B : Nat} (hm : P.follows .mixedOrders = true) (hcall : CallOk P C B call) {ops : Array Oper} {draw : Bool} {s s' : St} (h : evRegion P C call ops draw s = some s')
    {S : Nat → Prop} {L : Nat → Loc} {a : Act} {w : World} (hG : GO C S L) (hA : AI S L s.k s.tm a) (hI : Inv B S L s.H w) {Q : Exit → Act → World → Prop} (hQ : ∀ a' w', Done B S L s.H w s' a' w' → Q .normal a' w') (id : Nat) : (Code.region id ops draw).wp P Q a w := by
  unfold evRegion at h
  cases hb : (draw && memOnly ops) with
  | false => rw [hb, cond_false] at h; exact evRegionD_ok hm hcall h hG hA hI hQ id
  | true =>
    rw [hb, cond_true] at h
    rw [Bool.and_eq_true] at hb
    obtain ⟨hd, _⟩ := hb
    subst hd
    cases hr : regOk ops with
    | false => rw [hr] at h; cases h
    | true =>
      rw [hr, cond_true] at h
      have hR := regOk_spec hr
      obtain ⟨st, val, ft, fs, e1, e3, e4, e5⟩ := evMem_trace ops.toList 0 [] s s' h (fun j => by simp)
      have hN : st ops.size = s' := by rw [← e4]; simp
      have T : MTrace P C call ops st val ft fs s s' := ⟨e1, hN, e3, fun i o ho => e5 i o (Nat.zero_le _) ho⟩
      subst e1
      refine mixed_wp hm ?_
      let w1 : World := { w with drawn := w.drawn + 1 }
      have hI1 : Inv B S L (st 0).H w1 := hI.heap rfl
      refine mem_any T hR hcall hG hI1 (fun a' w' hd => hQ a' w' ?_) ops.size _ (st 0).H a w1 (by simp) (by simp [undone]) (fun i o ho hl => by
        have : i < ops.size := lt_of_some ho
        simp [this] at hl) ?_
      · rw [hN] at hd
        obtain ⟨L', d1, d2, d3⟩ := hd
        exact ⟨L', d1, d2, ⟨d3.agree, d3.n, d3.lw, d3.keep, d3.back, d3.newg, d3.os, d3.tape, d3.output, d3.size, d3.frame⟩⟩
      · have hnone : ∀ m, ¬ ((Array.replicate ops.size false)[m]? = some true) := fun m hm => by
          rw [Array.getElem?_replicate] at hm
          split at hm
          · cases hm
          · cases hm
        refine ⟨hI1, rfl, Fr.refl hI1, fun x => ⟨fun h => ⟨h, fun m b _ hm => absurd hm (hnone m)⟩, fun h => h.1⟩, fun j k hk hw => ?_, hA.defers, hA.size, fun t v _ hv => hA.tmp t v hv, fun m t _ hm => absurd hm (hnone m)⟩
        exact (T.still k (Nat.zero_le _) hk fun m _ hm hf => absurd ((hw m (by omega) hf).mpr hm) (hnone m)).symm

end
end Go.Proofs.YthlgggcpokfmaaaDoor.Ev

/-
  THE ENGINE, part M: code and calls: what the evaluator computes of a call, the machine does.
-/
namespace Go.Proofs.YthlgggcpokfmaaaDoor.Ev
open Go Go.RowKit
set_option linter.unusedVariables false
noncomputable section
set_option linter.unusedSimpArgs false

def subEntry : Array Value → Sem Value := fun args => do
  let (x, y, b) ← Extern.MathBitsCarry.three "Sub64" args
  pure (Extern.MathBitsCarry.pair ((x + Extern.MathBitsCarry.m64 - y - b) % Extern.MathBitsCarry.m64) (if x < y + b then 1 else 0))

theorem run_add {P : Program} (x y c : Nat) (hc : c ≤ 1) (w : World) : (add64Entry #[.int .u64 x, .int .u64 y, .int .u64 c]).run P w =
    .ok (.tuple #[.int .u64 (Int.ofNat ((x + y + c) % 18446744073709551616)), .int .u64 (Int.ofNat ((x + y + c) / 18446744073709551616))]) w := by
  have : c = 0 ∨ c = 1 := by omega
  rcases this with rfl | rfl <;> rfl

theorem run_sub {P : Program} (x y c : Nat) (hc : c ≤ 1) (w : World) : (subEntry #[.int .u64 x, .int .u64 y, .int .u64 c]).run P w =
    .ok (.tuple #[.int .u64 (Int.ofNat ((x + 18446744073709551616 - y - c) % 18446744073709551616)), .int .u64 (cond (Nat.blt x (y + c)) 1 0)]) w := by
  have key : ∀ k : Nat, k ≤ 1 → (subEntry #[.int .u64 x, .int .u64 y, .int .u64 k]).run P w = .ok (Extern.MathBitsCarry.pair ((x + Extern.MathBitsCarry.m64 - y - k) % Extern.MathBitsCarry.m64) (if x < y + k then 1 else 0)) w := by
    intro k hk
    have : k = 0 ∨ k = 1 := by omega
    rcases this with rfl | rfl <;> rfl
  rw [key c hc]
  unfold Extern.MathBitsCarry.pair
  by_cases h : x < y + c
  · have : Nat.blt x (y + c) = true := by rw [Nat.blt_eq]; exact h
    rw [if_pos h, this]; rfl
  · have : Nat.blt x (y + c) = false := by
      cases hb : Nat.blt x (y + c) with
      | false => rfl
      | true => rw [Nat.blt_eq] at hb; exact absurd hb h
    rw [if_neg h, this]; rfl

/-- What a program must bear for the evaluator to speak of it. -/
structure CfgOk (P : Program) (C : Cfg) : Prop where
  mixed : P.follows .mixedOrders = true
  names : ∀ (f : Nat) (fn : Func), P.funcs[f]? = some fn → fn.body.isSome = true → (fn.name == "runtime.NumGoroutine") = false
  add : ∃ fn, P.funcs[C.add]? = some fn ∧ (fn.name == "runtime.NumGoroutine") = false ∧ fn.body.isNone = true ∧ Extern.findNext fn = none ∧ Extern.find fn = some add64Entry
  sub : ∃ fn, P.funcs[C.sub]? = some fn ∧ (fn.name == "runtime.NumGoroutine") = false ∧ fn.body.isNone = true ∧ Extern.findNext fn = none ∧ Extern.find fn = some subEntry

def exitOf : Ex → Exit
  | .norm => .normal
  | .exit id => .exit id
  | .ret => .ret

/-- A loop, from a round's begin. -/
def LW (P : Program) (body : Code) (Q : Exit → Act → World → Prop) (a : Act) (w : World) : Prop :=
  ∀ (b : Frame) (k : List Item) (cs : List Frame), ∃ e a' w', Q e a' w' ∧ Arrives P (lone (b.at a (.code body :: .inLoop body :: k)) cs w) b k cs e a' w'

theorem LW.wp {P : Program} {body : Code} {Q : Exit → Act → World → Prop} {a : Act} {w : World} (h : LW P body Q a w) : (Code.loop body).wp P Q a w := fun b k cs => by
  obtain ⟨e, a', w', hq, harr⟩ := h b k cs
  exact ⟨e, a', w', hq, .of_steps (.one step_loop) harr⟩

def CodeOk (P : Program) (C : Cfg) (B : Nat) (f : Code → St → Option (Ex × St)) : Prop :=
  ∀ c s ex s', f c s = some (ex, s') → ∀ S L a w, GO C S L → AI S L s.k s.tm a → Inv B S L s.H w → ∀ Q : Exit → Act → World → Prop, (∀ a' w', Done B S L s.H w s' a' w' → Q (exitOf ex) a' w') → c.wp P Q a w ∧ ∀ body, c = .loop body → LW P body Q a w

theorem natsOf_some {S : Nat → Prop} {L : Nat → Loc} {args : List Value} {x y c : Nat} {args' : List Value} (h : natsOf args = some (x, y, c)) (hv : VRs S L args args') :
    args' = [.int .u64 x, .int .u64 y, .int .u64 c] ∧ c ≤ 1 := by
  unfold natsOf at h
  split at h <;> first | (cases h; done) | skip
  rename_i a b d
  split at h <;> first | (cases h; done) | skip
  rename_i hb
  obtain ⟨h1, h2, h3, h4⟩ := hb
  injection h with h
  injection h with e1 e2
  injection e2 with e2 e3
  obtain ⟨x', y', z', rfl, v1, v2, v3⟩ := hv.inv3
  cases v1; cases v2; cases v3
  subst e1; subst e2; subst e3
  exact ⟨by rw [Int.toNat_of_nonneg h1, Int.toNat_of_nonneg h2, Int.toNat_of_nonneg h3], by omega⟩

theorem tmOf_get : ∀ (vs : List Value) (i : Nat) (t : Tr Value) (k : Nat), (tmOf i vs t).get k = if i ≤ k ∧ k < i + vs.length then vs[k - i]? else t.get k
  | [], i, t, k => by rw [if_neg (by rw [List.length_nil]; omega)]; rfl
  | v :: vs, i, t, k => by
    simp only [tmOf]
    rw [tmOf_get vs (i + 1) (t.set i v) k, Tr.get_set]
    by_cases h : i + 1 ≤ k ∧ k < i + 1 + vs.length
    · rw [if_pos h, if_pos (by simp; omega)]
      have : k - i = (k - (i + 1)) + 1 := by omega
      rw [this]; rfl
    · rw [if_neg h]
      by_cases e : k = i
      · subst e; rw [if_pos rfl, if_pos (by simp)]; simp
      · rw [if_neg e, if_neg (by simp; omega)]

theorem loadVar_run {B : Nat} {S : Nat → Prop} {L : Nat → Loc} {H : AH} {w : World} {P : Program} (hI : Inv B S L H w) {t : TypeId} {x x' v : Value} (h : loadV P H t x = some v) (hx : VR S L x x') :
    ∃ v', (do loadVar t (← asAddr x') : Sem Value).run P w = .ok v' w ∧ VR S L v v' := by
  obtain ⟨v', h1, h2⟩ := loadV_run (P := P) hI h hx
  refine ⟨v', ?_, h2⟩
  unfold loadV at h
  split at h <;> first | (cases h; done) | skip
  cases hx with
  | ptr i o hS =>
    simp only [Instr.loadAt, Instr.sureAddr, Sem.run_bind, Sem.run_pure, Result.andThen_ok] at h1
    simp only [asAddr, Sem.run_bind, Sem.run_pure, Result.andThen_ok, h1]

def resSem (tmps : Array Value) (r : ResultVar) : Sem Value :=
  match r with
  | .tmp t => pure (tmps.getD t undef)
  | .cell c t => do loadVar t (← asAddr (tmps.getD c undef))

theorem results_eq (fn : Func) (tmps : Array Value) : results fn tmps = (do let vs ← fn.results.mapM (resSem tmps); pure (if h : vs.size = 1 then vs[0] else .tuple vs)) := rfl

theorem resultV_run {B : Nat} {S : Nat → Prop} {L : Nat → Loc} {w : World} {P : Program} {s : St} {a : Act} (hA : AI S L s.k s.tm a) (hI : Inv B S L s.H w) : ∀ (rs : List ResultVar) (vs : List Value), resultV P s rs = some vs →
    ∃ vs', (rs.mapM (resSem a.tmps) : Sem (List Value)).run P w = .ok vs' w ∧ VRs S L vs vs'
  | [], vs, h => by
    simp only [resultV] at h
    obtain rfl := Option.some.inj h
    exact ⟨[], by simp, .nil⟩
  | r :: rs, vs, h => by
    simp only [resultV] at h
    cases hr : resOne P s r with
    | none => rw [hr] at h; cases h
    | some v =>
      rw [hr] at h
      simp only at h
      cases hrs : resultV P s rs with
      | none => rw [hrs] at h; cases h
      | some vs1 =>
        rw [hrs] at h
        obtain rfl := Option.some.inj h
        obtain ⟨vs', h1, h2⟩ := resultV_run hA hI rs vs1 hrs
        have hone : ∃ v', (resSem a.tmps r).run P w = .ok v' w ∧ VR S L v v' := by
          cases r with
          | tmp t => exact ⟨_, rfl, (hA.tmp t v hr).2⟩
          | cell c t =>
            simp only [resOne] at hr
            cases hc : s.tm.get c with
            | none => rw [hc] at hr; cases hr
            | some x => rw [hc] at hr; exact loadVar_run hI hr (hA.tmp c x hc).2
        obtain ⟨v', h3, h4⟩ := hone
        refine ⟨v' :: vs', ?_, .cons h4 h2⟩
        rw [List.mapM_cons]
        simp only [Sem.run_bind, h3, Result.andThen_ok, h1, Sem.run_pure]

theorem results_run {B : Nat} {S : Nat → Prop} {L : Nat → Loc} {w : World} {P : Program} {s : St} {a : Act} (hA : AI S L s.k s.tm a) (hI : Inv B S L s.H w) {fn : Func} {vs : List Value} (h : resultV P s fn.results.toList = some vs) :
    ∃ v', (results fn a.tmps).run P w = .ok v' w ∧ VR S L (packV vs) v' := by
  obtain ⟨vs', h1, h2⟩ := resultV_run (P := P) hA hI _ _ h
  have h3 : (results fn a.tmps).run P w = .ok (if h : vs'.toArray.size = 1 then vs'.toArray[0] else .tuple vs'.toArray) w := by
    rw [results_eq, Array.mapM_eq_mapM_toList]
    simp only [Sem.run_bind, Sem.run_map, h1, Result.andThen_ok, Sem.run_pure]
  refine ⟨_, h3, ?_⟩
  match vs, vs', h2 with
  | [v], [v'], h2 => exact h2.2 0 v v' rfl rfl
  | [], [], h2 => exact .tuple _ _ rfl (fun k v v' h => by simp at h)
  | v :: u :: r, v' :: u' :: r', h2 =>
    have e : ¬ ((v' :: u' :: r').toArray.size = 1) := by simp
    rw [dif_neg e]
    exact .tuple _ _ (by simpa using h2.1) (fun k x y hx hy => h2.2 k x y (by simpa using hx) (by simpa using hy))
  | [], _ :: _, h2 => have := h2.1; simp at this
  | [v], [], h2 => have := h2.1; simp at this
  | [v], _ :: _ :: _, h2 => have := h2.1; simp at this
  | _ :: _ :: _, [], h2 => have := h2.1; simp at this
  | _ :: _ :: _, [_], h2 => have := h2.1; simp at this

theorem call_ok {P : Program} {C : Cfg} {B : Nat} (hC : CfgOk P C) {ih : Code → St → Option (Ex × St)} (hih : CodeOk P C B ih) : CallOk P C B (evCall P C ih) := by
  intro f args H v H' h S L w args' hG hI hargs
  unfold evCall at h
  cases hfa : Nat.beq f C.add with
  | true =>
    rw [hfa, cond_true] at h
    obtain rfl := Nat.eq_of_beq_eq_true hfa
    split at h <;> first | (cases h; done) | skip
    rename_i x y c hn
    injection h with h; injection h with h1 h2; subst h1; subst h2
    obtain ⟨rfl, hc⟩ := natsOf_some hn hargs
    obtain ⟨fn, e1, e2, e3, e4, e5⟩ := hC.add
    refine .inl ⟨_, w, ?_, Good.same hI (v' := .tuple #[.int .u64 (Int.ofNat ((x + y + c) % 18446744073709551616)), .int .u64 (Int.ofNat ((x + y + c) / 18446744073709551616))]) (plain_vr rfl)⟩
    rw [run_callFunc_extern e1 e2 e3 e4 e5]
    show ((add64Entry #[.int .u64 x, .int .u64 y, .int .u64 c]).run P w).andThen _ = _
    rw [run_add x y c hc w]
    rfl
  | false =>
    rw [hfa, cond_false] at h
    cases hfs : Nat.beq f C.sub with
    | true =>
      rw [hfs, cond_true] at h
      obtain rfl := Nat.eq_of_beq_eq_true hfs
      split at h <;> first | (cases h; done) | skip
      rename_i x y c hn
      injection h with h; injection h with h1 h2; subst h1; subst h2
      obtain ⟨rfl, hc⟩ := natsOf_some hn hargs
      obtain ⟨fn, e1, e2, e3, e4, e5⟩ := hC.sub
      refine .inl ⟨_, w, ?_, Good.same hI (v' := .tuple #[.int .u64 (Int.ofNat ((x + 18446744073709551616 - y - c) % 18446744073709551616)), .int .u64 (cond (Nat.blt x (y + c)) 1 0)]) (plain_vr rfl)⟩
      rw [run_callFunc_extern e1 e2 e3 e4 e5]
      show ((subEntry #[.int .u64 x, .int .u64 y, .int .u64 c]).run P w).andThen _ = _
      rw [run_sub x y c hc w]
      rfl
    | false =>
      rw [hfs, cond_false] at h
      split at h <;> first | (cases h; done) | skip
      rename_i fn hfn
      split at h <;> first | (cases h; done) | skip
      rename_i c hbody
      rw [Bool.or_true, cond_true] at h
      have hname := hC.names f fn hfn (by rw [hbody]; rfl)
      have hrun : (callFunc f args'.toArray).run P w = .ok (.enter f args'.toArray) w := by
        have hname' : fn.name ≠ "runtime.NumGoroutine" := by simpa using hname
        simp [callFunc, hfn, hname', hbody]
      refine .inr ⟨hrun, calls_of_wp hfn hbody ?_⟩
      have hlen := hargs.1
      let a0 : Act := { tmps := args'.toArray ++ Array.replicate (fn.ntmps - args'.toArray.size) undef, defers := [] }
      have hA : AI S L (args.length + (fn.ntmps - args.length)) (tmOf 0 args .nil) a0 := by
        refine ⟨rfl, by simp [a0, hlen], fun t u hu => ?_⟩
        rw [tmOf_get] at hu
        split at hu
        · rename_i ht
          simp only [Nat.sub_zero] at hu
          obtain ⟨u', h1, h2⟩ := hargs.get hu
          have hlt : t < args'.length := by omega
          refine ⟨by omega, ?_⟩
          have : a0.tmps.getD t undef = u' := by
            rw [Array.getD_eq_getD_getElem?]
            show (((args'.toArray ++ Array.replicate (fn.ntmps - args'.toArray.size) undef))[t]?).getD undef = u'
            rw [Array.getElem?_append, if_pos (by simpa using hlt), List.getElem?_toArray, h1]
            rfl
          rw [this]; exact h2
        · cases hu
      have fin : ∀ (s1 : St) (vs : List Value), resultV P s1 fn.results.toList = some vs → ∀ a' w', Done B S L H w s1 a' w' →
          a'.defers = [] ∧ ∃ v', (results fn a'.tmps).run P w' = .ok v' w' ∧ ∃ v'', (Ending.returned v') = .returned v'' ∧ Good B S L H w (packV vs) s1.H v'' w' := by
        intro s1 vs hr a' w' hd
        obtain ⟨L', d1, d2, d3⟩ := hd
        obtain ⟨v', r1, r2⟩ := results_run (P := P) d1 d2 hr
        exact ⟨d1.defers, v', r1, v', rfl, L', d2, d3, r2⟩
      split at h <;> first | (cases h; done) | skip
      · rename_i s1 hcode
        refine (hih c _ _ s1 hcode S L a0 w hG hA hI _ fun a' w' hd => ?_).1
        split at h <;> first | (cases h; done) | skip
        rename_i vs hr
        injection h with h; injection h with h1 h2; subst h1; subst h2
        exact fin s1 vs hr a' w' hd
      · rename_i s1 hcode
        refine (hih c _ _ s1 hcode S L a0 w hG hA hI _ fun a' w' hd => ?_).1
        split at h <;> first | (cases h; done) | skip
        rename_i vs hr
        injection h with h; injection h with h1 h2; subst h1; subst h2
        exact fin s1 vs hr a' w' hd

theorem then_of {next : Act → World → Prop} {Q : Exit → Act → World → Prop} {ex : Ex} {a : Act} {w : World} (h : ex ≠ .norm) (hQ : Q (exitOf ex) a w) : Exit.then next Q (exitOf ex) a w := by
  cases ex <;> first | exact absurd rfl h | exact hQ

theorem code_ok {P : Program} {C : Cfg} {B : Nat} (hC : CfgOk P C) : ∀ n, CodeOk P C B (ev P C n)
  | 0 => fun c s ex s' h => by rw [ev_zero] at h; cases h
  | n + 1 => by
    have ih := code_ok (B := B) hC n
    have hcall := call_ok hC ih
    rw [ev_succ]
    intro c s ex s' h S L a w hG hA hI Q hQ
    cases c <;> simp only [evStep] at h <;> first | (cases h; done) | skip
    case skip =>
      injection h with h; injection h with h1 h2; subst h1; subst h2
      exact ⟨wp_skip (hQ a w (Done.refl hA hI)), fun _ e => by cases e⟩
    case exit id =>
      injection h with h; injection h with h1 h2; subst h1; subst h2
      exact ⟨wp_exit (hQ a w (Done.refl hA hI)), fun _ e => by cases e⟩
    case ret =>
      injection h with h; injection h with h1 h2; subst h1; subst h2
      exact ⟨wp_ret (hQ a w (Done.refl hA hI)), fun _ e => by cases e⟩
    case region id ops draw =>
      split at h <;> first | (cases h; done) | skip
      rename_i s1 hr
      injection h with h; injection h with h1 h2; subst h1; subst h2
      exact ⟨evRegion_ok hC.mixed hcall hr hG hA hI hQ id, fun _ e => by cases e⟩
    case seq x y =>
      refine ⟨wp_seq ?_, fun _ e => by cases e⟩
      split at h
      · rename_i s1 hx
        refine (ih x s .norm s1 hx S L a w hG hA hI _ fun a1 w1 hd => ?_).1
        obtain ⟨L1, d1, d2, d3⟩ := hd
        exact (ih y s1 ex s' h _ L1 a1 w1 (hG.mono (fun _ h => .inl h) d3.agree) d1 d2 Q fun a2 w2 hd2 => hQ a2 w2 (hd2.trans hI d2 d3)).1
      · rename_i hne
        refine (ih x s ex s' h S L a w hG hA hI _ fun a1 w1 hd => then_of (fun e => ?_) (hQ a1 w1 hd)).1
        subst e; exact hne s' h
    case cond x y z =>
      refine ⟨?_, fun _ e => by cases e⟩
      split at h <;> first | (cases h; done) | skip
      rename_i t hx
      have hv := opd_vr2 hG (fun t v _ hv => (hA.tmp t v hv).2) hx
      generalize hxe : a.eval x = u at hv
      cases hv
      refine wp_cond hxe ?_
      have := (ih (cond t y z) s ex s' h S L a w hG hA hI Q hQ).1
      cases t <;> exact this
    case block id body =>
      refine ⟨wp_block ?_, fun _ e => by cases e⟩
      split at h
      · rename_i j s1 hb
        refine (ih body s (.exit j) s1 hb S L a w hG hA hI _ fun a1 w1 hd => ?_).1
        cases hj : Nat.beq j id with
        | true =>
          rw [hj, cond_true] at h
          injection h with h; injection h with h1 h2; subst h1; subst h2
          have e := Nat.eq_of_beq_eq_true hj
          show Exit.inBlock id Q (.exit j) a1 w1
          simp only [Exit.inBlock, e, if_true]
          exact hQ a1 w1 hd
        | false =>
          rw [hj, cond_false] at h
          injection h with h; injection h with h1 h2; subst h1; subst h2
          have e : j ≠ id := fun e => by subst e; rw [Nat.beq_refl] at hj; cases hj
          show Exit.inBlock id Q (.exit j) a1 w1
          simp only [Exit.inBlock, e, if_false]
          exact hQ a1 w1 hd
      · rename_i hne
        refine (ih body s ex s' h S L a w hG hA hI _ fun a1 w1 hd => ?_).1
        cases ex with
        | norm => exact hQ a1 w1 hd
        | exit j => exact absurd h (hne j s')
        | ret => exact hQ a1 w1 hd
    case loop body =>
      have key : LW P body Q a w := by
        intro b k cs
        split at h
        · rename_i s1 hb
          have h1 := (ih body s .norm s1 hb S L a w hG hA hI (fun e a1 w1 => e = .normal ∧ Done B S L s.H w s1 a1 w1) fun a1 w1 hd => ⟨rfl, hd⟩).1
          obtain ⟨e, a1, w1, ⟨rfl, hd⟩, harr⟩ := h1 b (.inLoop body :: k) cs
          obtain ⟨L1, d1, d2, d3⟩ := hd
          have h2 := (ih (.loop body) s1 ex s' h _ L1 a1 w1 (hG.mono (fun _ h => .inl h) d3.agree) d1 d2 Q fun a2 w2 hd2 => hQ a2 w2 (hd2.trans hI d2 d3)).2 body rfl
          obtain ⟨e2, a2, w2, hq, harr2⟩ := h2 b k cs
          have harr' : Steps P (lone (b.at a (.code body :: .inLoop body :: k)) cs w) (lone (b.at a1 (.inLoop body :: k)) cs w1) := harr
          exact ⟨e2, a2, w2, hq, .of_steps (harr'.trans (.one step_inLoop)) harr2⟩
        · rename_i hne
          have h1 := (ih body s ex s' h S L a w hG hA hI (Exit.then (fun _ _ => False) Q) fun a1 w1 hd => then_of (fun e => by subst e; exact hne s' h) (hQ a1 w1 hd)).1
          obtain ⟨e, a1, w1, hq, harr⟩ := h1 b (.inLoop body :: k) cs
          have hne' : e ≠ .normal := fun e' => by subst e'; exact hq
          refine ⟨e, a1, w1, ?_, .pass (x := .inLoop body) rfl (fun a w => .inl hne') harr⟩
          cases e <;> first | exact hq.elim | exact hq
      exact ⟨key.wp, fun body' e => by cases e; exact key⟩

/-- A call that the evaluator finishes is finished by the machine: the value; what lay below block B is as it was. -/
theorem run_calls {P : Program} {C : Cfg} {B : Nat} (hC : CfgOk P C) {n : Nat} {f : FuncId} {args args' : List Value} {H H' : AH} {v : Value} (h : run P C n f args H = some (v, H')) {fn : Func} (hf : P.funcs[f]? = some fn) (hb : fn.body.isSome = true)
    {S : Nat → Prop} {L : Nat → Loc} {w : World} (hG : GO C S L) (hI : Inv B S L H w) (ha : VRs S L args args') :
    Calls P f args'.toArray w fun e w' => ∃ v', e = .returned v' ∧ Good B S L H w v H' v' w' := by
  rcases call_ok hC (code_ok (B := B) hC n) f args H v H' h S L w args' hG hI ha with ⟨v', w', h1, h2⟩ | ⟨_, h2⟩
  · exfalso
    have hname := hC.names f fn hf hb
    have hname' : fn.name ≠ "runtime.NumGoroutine" := by simpa using hname
    cases hbody : fn.body with
    | none => rw [hbody] at hb; cases hb
    | some c =>
      rw [show (callFunc f args'.toArray).run P w = .ok (.enter f args'.toArray) w by simp [callFunc, hf, hname', hbody]] at h1
      injection h1 with h1 _
      cases h1
  · exact h2

theorem Good.below {B : Nat} {S : Nat → Prop} {L : Nat → Loc} {H H' : AH} {w w' : World} {v v' : Value} (hI : Inv B S L H w) (h : Good B S L H w v H' v' w') : Below B w w' := by
  obtain ⟨L', g1, g2, g3⟩ := h
  refine ⟨g2.os, g2.tape, g2.output, g2.size, fun k hk => ?_⟩
  rcases g2.frame k (Nat.lt_of_lt_of_le hk hI.base) with h1 | ⟨i, sz, cs, h1, h2, _⟩
  · exact h1
  · have := (hI.rw i sz cs h1).2.1; omega

#print axioms run_calls

end
end Go.Proofs.YthlgggcpokfmaaaDoor.Ev

/-
  THE ENGINE, part P: the evaluator without rounds: the limit of 'ev', and its equation. Open laws are proved over it by rewriting.
-/
namespace Go.Proofs.YthlgggcpokfmaaaDoor.Ev
open Go Go.RowKit
set_option linter.unusedVariables false
set_option linter.unusedSimpArgs false
noncomputable section

/-! ### more rounds, the same answer -/
def CLe (f g : FuncId → List Value → AH → Option (Value × AH)) : Prop := ∀ x a H r, f x a H = some r → g x a H = some r
def ELe (f g : Code → St → Option (Ex × St)) : Prop := ∀ c s r, f c s = some r → g c s = some r

section
variable {P : Program} {C : Cfg} {f g : FuncId → List Value → AH → Option (Value × AH)}

theorem evOp_le (h : CLe f g) {tm : Tr Value} {H : AH} {op : Op} {r : Value × AH} (he : evOp P C f tm H op = some r) : evOp P C g tm H op = some r := by
  cases op
  case call c =>
    obtain ⟨callee, cargs, cts⟩ := c
    cases callee with
    | value x =>
      simp only [evOp, oCall] at he ⊢
      split at he <;> first | (cases he; done) | skip
      split at he <;> first | (cases he; done) | skip
      exact h _ _ _ _ he
    | builtin b => exact he
    | invoke x m => exact he
  all_goals exact he

theorem evList_le (h : CLe f g) {ops : Array Oper} : ∀ (l : List Oper) (s s' : St), evList P C f ops l s = some s' → evList P C g ops l s = some s'
  | [], s, s', he => he
  | o :: rest, s, s', he => by
    rw [evList_cons] at he ⊢
    split at he <;> first | (cases he; done) | skip
    · rename_i hw
      split at he <;> first | (cases he; done) | skip
      rename_i v H hop
      split at he <;> first | (cases he; done) | skip
      rename_i s1 hput
      simp only [evOp_le h hop, hput]
      exact evList_le h rest s1 s' he
    · rename_i hw
      split at he <;> first | (cases he; done) | skip
      rename_i s1 hput
      try simp only [hput]
      exact evList_le h rest s1 s' he

theorem evDrawOp_le (h : CLe f g) {ops : Array Oper} {i : Nat} {q : Bool} {ms : List (Nat × Nat × Nat)} {s : St} {o : Oper} {r : Value × AH × Bool} (he : evDrawOp P C f ops i q ms s o = some r) : evDrawOp P C g ops i q ms s o = some r := by
  unfold evDrawOp at he ⊢
  cases hh : heapOp o.op with
  | false =>
    rw [hh, cond_false] at he
    rw [cond_false]
    split at he <;> first | (cases he; done) | skip
    rename_i v H2 hop
    simp only [evOp_le h hop]
    exact he
  | true =>
    rw [hh, cond_true] at he
    rw [cond_true]
    simp only at he ⊢
    split at he <;> first | (cases he; done) | skip
    rename_i v H2 hop
    simp only [evOp_le h hop]
    exact he

theorem evDraw_le (h : CLe f g) {ops : Array Oper} : ∀ (l : List Oper) (i : Nat) (q : Bool) (ms : List (Nat × Nat × Nat)) (s s' : St), evDraw P C f ops i q ms l s = some s' → evDraw P C g ops i q ms l s = some s'
  | [], i, q, ms, s, s', he => by simp only [evDraw] at he ⊢; exact he
  | o :: rest, i, q, ms, s, s', he => by
    simp only [evDraw] at he ⊢
    split at he <;> first | (cases he; done) | skip
    · rename_i hw
      split at he <;> first | (cases he; done) | skip
      rename_i v H q' hop
      split at he <;> first | (cases he; done) | skip
      rename_i s1 hput
      simp only [evDrawOp_le h hop, hput]
      exact evDraw_le h rest _ _ _ s1 s' he
    · rename_i hw
      split at he <;> first | (cases he; done) | skip
      rename_i s1 hput
      try simp only [hput]
      exact evDraw_le h rest _ _ _ s1 s' he

theorem evMem_le (h : CLe f g) {ops : Array Oper} : ∀ (l : List Oper) (i : Nat) (fs : List (Nat × Nat × Bool)) (s s' : St), evMem P C f ops i fs l s = some s' → evMem P C g ops i fs l s = some s'
  | [], i, fs, s, s', he => by simp only [evMem] at he ⊢; exact he
  | o :: rest, i, fs, s, s', he => by
    simp only [evMem] at he ⊢
    split at he <;> first | (cases he; done) | skip
    · rename_i hw
      split at he <;> first | (cases he; done) | skip
      · rename_i hf
        split at he <;> first | (cases he; done) | skip
        rename_i v H hop
        split at he <;> first | (cases he; done) | skip
        rename_i s1 hput
        simp only [evOp_le h hop, hput]
        exact evMem_le h rest _ _ s1 s' he
      · rename_i b w hf
        cases hc : noClash ((before ops).getD i 0) b w fs with
        | false => rw [hc] at he; cases he
        | true =>
          rw [hc, cond_true] at he
          rw [cond_true]
          split at he <;> first | (cases he; done) | skip
          rename_i v H hop
          split at he <;> first | (cases he; done) | skip
          rename_i s1 hput
          simp only [evOp_le h hop, hput]
          exact evMem_le h rest _ _ s1 s' he
    · rename_i hw
      split at he <;> first | (cases he; done) | skip
      rename_i s1 hput
      try simp only [hput]
      exact evMem_le h rest _ _ s1 s' he

theorem evRegion_le (h : CLe f g) {ops : Array Oper} {draw : Bool} {s s' : St} (he : evRegion P C f ops draw s = some s') : evRegion P C g ops draw s = some s' := by
  unfold evRegion at he ⊢
  cases hb : (draw && memOnly ops) with
  | true =>
    rw [hb, cond_true] at he
    rw [cond_true]
    cases hr : regOk ops with
    | false => rw [hr] at he; cases he
    | true => rw [hr, cond_true] at he; rw [cond_true]; exact evMem_le h _ _ _ _ _ he
  | false =>
    rw [hb, cond_false] at he
    rw [cond_false]
    unfold evRegionD at he ⊢
    cases draw with
    | false => rw [cond_false] at he ⊢; exact evList_le h _ _ _ he
    | true =>
      rw [cond_true] at he ⊢
      cases hr : regOk ops with
      | false => rw [hr] at he; cases he
      | true => rw [hr, cond_true] at he; rw [cond_true]; exact evDraw_le h _ _ _ _ _ _ he

theorem evCall_le {u v : Code → St → Option (Ex × St)} (h : ELe u v) : CLe (evCall P C u) (evCall P C v) := by
  intro x a H r he
  unfold evCall at he ⊢
  cases h1 : Nat.beq x C.add with
  | true => rw [h1, cond_true] at he; rw [cond_true]; exact he
  | false =>
    rw [h1, cond_false] at he
    rw [cond_false]
    cases h2 : Nat.beq x C.sub with
    | true => rw [h2, cond_true] at he; rw [cond_true]; exact he
    | false =>
      rw [h2, cond_false] at he
      rw [cond_false]
      split at he <;> first | (cases he; done) | skip
      split at he <;> first | (cases he; done) | skip
      cases h3 : (Nat.beq (Func.params _).size a.length || true) with
      | false => rw [h3] at he; cases he
      | true =>
        rw [h3, cond_true] at he
        rw [cond_true]
        split at he <;> first | (cases he; done) | skip
        · rename_i hc; rw [h _ _ _ hc]; exact he
        · rename_i hc; rw [h _ _ _ hc]; exact he

theorem evStep_le {u v : Code → St → Option (Ex × St)} (h : ELe u v) : ELe (evStep P C u) (evStep P C v) := by
  intro c s r he
  cases c <;> simp only [evStep] at he ⊢ <;> first | exact he | skip
  · split at he <;> first | (cases he; done) | skip
    rename_i s1 hr
    rw [evRegion_le (evCall_le h) hr]
    exact he
  · split at he
    · rename_i s1 hr
      rw [h _ _ _ hr]
      exact h _ _ _ he
    · rename_i hn
      rw [h _ _ _ he]
      split
      · rename_i s1 e
        exact absurd (he.trans e) (by intro e'; exact hn s1 e')
      · rfl
  · split at he <;> first | (cases he; done) | skip
    exact h _ _ _ he
  · split at he
    · rename_i j s1 hr
      rw [h _ _ _ hr]
      exact he
    · rename_i hn
      rw [h _ _ _ he]
      split
      · rename_i j s1 e
        exact absurd (he.trans e) (by intro e'; exact hn j s1 e')
      · rfl
  · split at he
    · rename_i s1 hr
      rw [h _ _ _ hr]
      exact h _ _ _ he
    · rename_i hn
      rw [h _ _ _ he]
      split
      · rename_i s1 e
        exact absurd (he.trans e) (by intro e'; exact hn s1 e')
      · rfl
end

theorem ev_le {P : Program} {C : Cfg} : ∀ {n m : Nat}, n ≤ m → ELe (ev P C n) (ev P C m)
  | 0, m, _ => fun c s r h => by rw [ev_zero] at h; cases h
  | n + 1, 0, h => by omega
  | n + 1, m + 1, h => by
    rw [ev_succ, ev_succ]
    exact evStep_le (ev_le (by omega))

/-! ### the limit -/
open Classical in
def evI (P : Program) (C : Cfg) (c : Code) (s : St) : Option (Ex × St) := if h : ∃ n r, ev P C n c s = some r then some (Classical.choose (Classical.choose_spec h)) else none

theorem evI_of {P : Program} {C : Cfg} {n : Nat} {c : Code} {s : St} {r : Ex × St} (h : ev P C n c s = some r) : evI P C c s = some r := by
  have hx : ∃ n r, ev P C n c s = some r := ⟨n, r, h⟩
  unfold evI
  rw [dif_pos hx]
  have h2 := Classical.choose_spec (Classical.choose_spec hx)
  have a := ev_le (Nat.le_max_left n (Classical.choose hx)) c s r h
  have b := ev_le (Nat.le_max_right n (Classical.choose hx)) c s _ h2
  rw [a] at b
  exact b.symm

theorem evI_some {P : Program} {C : Cfg} {c : Code} {s : St} {r : Ex × St} (h : evI P C c s = some r) : ∃ n, ev P C n c s = some r := by
  unfold evI at h
  split at h
  · rename_i hx
    obtain rfl := Option.some.inj h
    exact ⟨_, Classical.choose_spec (Classical.choose_spec hx)⟩
  · cases h

/-- A call, without rounds. -/
def callI (P : Program) (C : Cfg) (f : FuncId) (args : List Value) (H : AH) : Option (Value × AH) := evCall P C (evI P C) f args H

section
variable {P : Program} {C : Cfg}

theorem ev_evI (n : Nat) : ELe (ev P C n) (evI P C) := fun c s r h => evI_of h

/-- What the limit's call answers, a call with rounds answers. -/
theorem callI_some {f : FuncId} {args : List Value} {H : AH} {r : Value × AH} (he : callI P C f args H = some r) : ∃ n, evCall P C (ev P C n) f args H = some r := by
  unfold callI evCall at he
  cases h1 : Nat.beq f C.add with
  | true => rw [h1, cond_true] at he; exact ⟨0, by unfold evCall; rw [h1, cond_true]; exact he⟩
  | false =>
    rw [h1, cond_false] at he
    cases h2 : Nat.beq f C.sub with
    | true => rw [h2, cond_true] at he; exact ⟨0, by unfold evCall; rw [h1, cond_false, h2, cond_true]; exact he⟩
    | false =>
      rw [h2, cond_false] at he
      split at he <;> first | (cases he; done) | skip
      rename_i fn hf
      split at he <;> first | (cases he; done) | skip
      rename_i c hb
      have h3 : (Nat.beq fn.params.size args.length || true) = true := by simp
      rw [h3, cond_true] at he
      have key : ∀ s n, ev P C n c { k := args.length + (fn.ntmps - args.length), tm := tmOf 0 args .nil, H := H } = some s → evI P C c { k := args.length + (fn.ntmps - args.length), tm := tmOf 0 args .nil, H := H } = some s →
          ∃ n, evCall P C (ev P C n) f args H = some r := fun s n hs hs' => by
        refine ⟨n, ?_⟩
        unfold evCall
        rw [h1, cond_false, h2, cond_false, hf]
        simp only [hb, h3, cond_true, hs]
        rw [hs'] at he
        exact he
      split at he <;> first | (cases he; done) | skip
      · rename_i s hs
        obtain ⟨n, hn⟩ := evI_some hs
        exact key _ n hn hs
      · rename_i s hs
        obtain ⟨n, hn⟩ := evI_some hs
        exact key _ n hn hs

theorem call_evI (n : Nat) : CLe (evCall P C (ev P C n)) (callI P C) := evCall_le (ev_evI n)

/-! ### a region needs finitely many rounds -/
theorem evOp_fin {tm : Tr Value} {H : AH} {op : Op} {r : Value × AH} (he : evOp P C (callI P C) tm H op = some r) : ∃ n, evOp P C (evCall P C (ev P C n)) tm H op = some r := by
  cases op
  case call c =>
    obtain ⟨callee, cargs, cts⟩ := c
    cases callee with
    | value x =>
      simp only [evOp, oCall] at he ⊢
      split at he <;> first | (cases he; done) | skip
      split at he <;> first | (cases he; done) | skip
      obtain ⟨n, hn⟩ := callI_some he
      exact ⟨n, hn⟩
    | builtin b => exact ⟨0, he⟩
    | invoke x m => exact ⟨0, he⟩
  all_goals exact ⟨0, he⟩

theorem run_le {n m : Nat} (h : n ≤ m) : CLe (evCall P C (ev P C n)) (evCall P C (ev P C m)) := evCall_le (ev_le h)

theorem evList_fin {ops : Array Oper} : ∀ (l : List Oper) (s s' : St), evList P C (callI P C) ops l s = some s' → ∃ n, evList P C (evCall P C (ev P C n)) ops l s = some s'
  | [], s, s', he => ⟨0, he⟩
  | o :: rest, s, s', he => by
    rw [evList_cons] at he
    split at he <;> first | (cases he; done) | skip
    · rename_i hw
      split at he <;> first | (cases he; done) | skip
      rename_i v H hop
      split at he <;> first | (cases he; done) | skip
      rename_i s1 hput
      obtain ⟨n1, h1⟩ := evOp_fin hop
      obtain ⟨n2, h2⟩ := evList_fin rest s1 s' he
      refine ⟨max n1 n2, ?_⟩
      rw [evList_cons, hw]
      simp only [evOp_le (run_le (Nat.le_max_left n1 n2)) h1, hput]
      exact evList_le (run_le (Nat.le_max_right n1 n2)) _ _ _ h2
    · rename_i hw
      split at he <;> first | (cases he; done) | skip
      rename_i s1 hput
      obtain ⟨n2, h2⟩ := evList_fin rest s1 s' he
      refine ⟨n2, ?_⟩
      rw [evList_cons, hw]
      try simp only [hput]
      exact h2

theorem evDrawOp_fin {ops : Array Oper} {i : Nat} {q : Bool} {ms : List (Nat × Nat × Nat)} {s : St} {o : Oper} {r : Value × AH × Bool} (he : evDrawOp P C (callI P C) ops i q ms s o = some r) : ∃ n, evDrawOp P C (evCall P C (ev P C n)) ops i q ms s o = some r := by
  unfold evDrawOp at he ⊢
  cases hh : heapOp o.op with
  | false =>
    rw [hh, cond_false] at he
    simp only [cond_false]
    split at he <;> first | (cases he; done) | skip
    rename_i v H2 hop
    obtain ⟨n, hn⟩ := evOp_fin hop
    exact ⟨n, by simp only [hn]; exact he⟩
  | true =>
    rw [hh, cond_true] at he
    simp only [cond_true]
    simp only at he
    split at he <;> first | (cases he; done) | skip
    rename_i v H2 hop
    obtain ⟨n, hn⟩ := evOp_fin hop
    exact ⟨n, by simp only [hn]; exact he⟩

theorem evDraw_fin {ops : Array Oper} : ∀ (l : List Oper) (i : Nat) (q : Bool) (ms : List (Nat × Nat × Nat)) (s s' : St), evDraw P C (callI P C) ops i q ms l s = some s' → ∃ n, evDraw P C (evCall P C (ev P C n)) ops i q ms l s = some s'
  | [], i, q, ms, s, s', he => ⟨0, by simp only [evDraw] at he ⊢; exact he⟩
  | o :: rest, i, q, ms, s, s', he => by
    simp only [evDraw] at he ⊢
    split at he <;> first | (cases he; done) | skip
    · rename_i hw
      split at he <;> first | (cases he; done) | skip
      rename_i v H q' hop
      split at he <;> first | (cases he; done) | skip
      rename_i s1 hput
      obtain ⟨n1, h1⟩ := evDrawOp_fin hop
      obtain ⟨n2, h2⟩ := evDraw_fin rest _ _ _ s1 s' he
      refine ⟨max n1 n2, ?_⟩
      simp only [evDrawOp_le (run_le (Nat.le_max_left n1 n2)) h1, hput]
      exact evDraw_le (run_le (Nat.le_max_right n1 n2)) _ _ _ _ _ _ h2
    · rename_i hw
      split at he <;> first | (cases he; done) | skip
      rename_i s1 hput
      obtain ⟨n2, h2⟩ := evDraw_fin rest _ _ _ s1 s' he
      refine ⟨n2, ?_⟩
      try simp only [hput]
      exact h2

theorem evMem_call {f g : FuncId → List Value → AH → Option (Value × AH)} {ops : Array Oper} : ∀ (l : List Oper) (i : Nat) (fs : List (Nat × Nat × Bool)) (s s' : St), evMem P C f ops i fs l s = some s' → evMem P C g ops i fs l s = some s'
  | [], i, fs, s, s', he => by simp only [evMem] at he ⊢; exact he
  | o :: rest, i, fs, s, s', he => by
    have hop' : ∀ tm H r x, memFoot C tm o.op = some x → evOp P C f tm H o.op = some r → evOp P C g tm H o.op = some r := fun tm H r x hm hop => by
      cases e : o.op
      case call c =>
        rw [e] at hm hop
        obtain ⟨callee, cargs, cts⟩ := c
        cases callee with
        | value x => simp [memFoot, heapOp] at hm
        | builtin b => exact hop
        | invoke x m => exact hop
      all_goals (rw [e] at hop; exact hop)
    simp only [evMem] at he ⊢
    split at he <;> first | (cases he; done) | skip
    · rename_i hw
      split at he <;> first | (cases he; done) | skip
      · rename_i hf
        split at he <;> first | (cases he; done) | skip
        rename_i v H hop
        split at he <;> first | (cases he; done) | skip
        rename_i s1 hput
        simp only [hop' _ _ _ _ hf hop, hput]
        exact evMem_call rest _ _ s1 s' he
      · rename_i b w hf
        cases hc : noClash ((before ops).getD i 0) b w fs with
        | false => rw [hc] at he; cases he
        | true =>
          rw [hc, cond_true] at he
          rw [cond_true]
          split at he <;> first | (cases he; done) | skip
          rename_i v H hop
          split at he <;> first | (cases he; done) | skip
          rename_i s1 hput
          simp only [hop' _ _ _ _ hf hop, hput]
          exact evMem_call rest _ _ s1 s' he
    · rename_i hw
      split at he <;> first | (cases he; done) | skip
      rename_i s1 hput
      try simp only [hput]
      exact evMem_call rest _ _ s1 s' he

theorem evRegion_fin {ops : Array Oper} {draw : Bool} {s s' : St} (he : evRegion P C (callI P C) ops draw s = some s') : ∃ n, evRegion P C (evCall P C (ev P C n)) ops draw s = some s' := by
  unfold evRegion at he ⊢
  cases hb : (draw && memOnly ops) with
  | true =>
    rw [hb, cond_true] at he
    simp only [cond_true]
    cases hr : regOk ops with
    | false => rw [hr] at he; cases he
    | true => rw [hr, cond_true] at he; exact ⟨0, by rw [cond_true]; exact evMem_call _ _ _ _ _ he⟩
  | false =>
    rw [hb, cond_false] at he
    simp only [cond_false]
    unfold evRegionD at he ⊢
    cases draw with
    | false => rw [cond_false] at he; simp only [cond_false]; exact evList_fin _ _ _ he
    | true =>
      rw [cond_true] at he
      simp only [cond_true]
      cases hr : regOk ops with
      | false => rw [hr] at he; cases he
      | true => rw [hr, cond_true] at he; simp only [cond_true]; exact evDraw_fin _ _ _ _ _ _ he

/-- THE EQUATION. -/
theorem evI_eq (c : Code) (s : St) : evI P C c s = evStep P C (evI P C) c s := by
  have up : ∀ r, evI P C c s = some r → evStep P C (evI P C) c s = some r := fun r h => by
    obtain ⟨n, hn⟩ := evI_some h
    cases n with
    | zero => rw [ev_zero] at hn; cases hn
    | succ n => rw [ev_succ] at hn; exact evStep_le (ev_evI n) c s r hn
  have down : ∀ r, evStep P C (evI P C) c s = some r → evI P C c s = some r := fun r he => by
    have fin2 : ∀ (n1 n2 : Nat), (∀ m, n1 ≤ m → n2 ≤ m → evStep P C (ev P C m) c s = some r) → evI P C c s = some r := fun n1 n2 h =>
      evI_of (n := max n1 n2 + 1) (by rw [ev_succ]; exact h _ (Nat.le_max_left _ _) (Nat.le_max_right _ _))
    cases c <;> simp only [evStep] at he <;> first | (cases he; done) | skip
    · exact fin2 0 0 fun m _ _ => by simp only [evStep]; exact he
    · split at he <;> first | (cases he; done) | skip
      rename_i s1 hr
      obtain ⟨n, hn⟩ := evRegion_fin hr
      exact fin2 n 0 fun m h1 _ => by simp only [evStep, evRegion_le (run_le h1) hn]; exact he
    · split at he
      · rename_i s1 hr
        obtain ⟨n1, h1⟩ := evI_some hr
        obtain ⟨n2, h2⟩ := evI_some he
        exact fin2 n1 n2 fun m a b => by simp only [evStep, ev_le a _ _ _ h1]; exact ev_le b _ _ _ h2
      · rename_i hn
        obtain ⟨n1, h1⟩ := evI_some he
        refine fin2 n1 0 fun m a b => ?_
        simp only [evStep, ev_le a _ _ _ h1]
        split
        · rename_i s1 e
          exact absurd (he.trans e) (by intro e'; exact hn s1 e')
        · rfl
    · split at he <;> first | (cases he; done) | skip
      rename_i t ht
      obtain ⟨n1, h1⟩ := evI_some he
      exact fin2 n1 0 fun m a b => by simp only [evStep, ht]; exact ev_le a _ _ _ h1
    · split at he
      · rename_i j s1 hr
        obtain ⟨n1, h1⟩ := evI_some hr
        exact fin2 n1 0 fun m a b => by simp only [evStep, ev_le a _ _ _ h1]; exact he
      · rename_i hn
        obtain ⟨n1, h1⟩ := evI_some he
        refine fin2 n1 0 fun m a b => ?_
        simp only [evStep, ev_le a _ _ _ h1]
        split
        · rename_i j s1 e
          exact absurd (he.trans e) (by intro e'; exact hn j s1 e')
        · rfl
    · split at he
      · rename_i s1 hr
        obtain ⟨n1, h1⟩ := evI_some hr
        obtain ⟨n2, h2⟩ := evI_some he
        exact fin2 n1 n2 fun m a b => by simp only [evStep, ev_le a _ _ _ h1]; exact ev_le b _ _ _ h2
      · rename_i hn
        obtain ⟨n1, h1⟩ := evI_some he
        refine fin2 n1 0 fun m a b => ?_
        simp only [evStep, ev_le a _ _ _ h1]
        split
        · rename_i s1 e
          exact absurd (he.trans e) (by intro e'; exact hn s1 e')
        · rfl
    · exact fin2 0 0 fun m _ _ => by simp only [evStep]; exact he
    · exact fin2 0 0 fun m _ _ => by simp only [evStep]; exact he
  cases h : evI P C c s with
  | some r => exact (up r h).symm
  | none =>
    cases h2 : evStep P C (evI P C) c s with
    | none => rfl
    | some r => rw [down r h2] at h; cases h

/-- What the limit's call answers, the machine does. -/
theorem callI_run {f : FuncId} {args : List Value} {H : AH} {r : Value × AH} (h : callI P C f args H = some r) : ∃ n, run P C n f args H = some r := callI_some h
end

end

end Go.Proofs.YthlgggcpokfmaaaDoor.Ev

/-
  THE ENGINE, part Q: walking open code: weakest preconditions over the limit evaluator.
-/
namespace Go.Proofs.YthlgggcpokfmaaaDoor.Ev
open Go Go.RowKit
set_option linter.unusedVariables false
set_option linter.unusedSimpArgs false
noncomputable section

/-- An operation, without what only the order needs: its place, the operation, its guard's place. -/
structure SOp where
  dst : Option Tmp
  op : Op
  grd : Option (Option Tmp × Bool)

def stripL (ops : Array Oper) : List Oper → List SOp
  | [] => []
  | o :: r => ⟨o.dst, o.op, match o.guard with | none => none | some (j, b) => some ((ops[j]?).bind (·.dst), b)⟩ :: stripL ops r

def strip (ops : Array Oper) : List SOp := stripL ops ops.toList

section
variable (P : Program) (C : Cfg)

/-- A call and what holds behind it. -/
def CW (f : FuncId) (args : List Value) (H : AH) (Q : Value → AH → Prop) : Prop := ∃ v H', callI P C f args H = some (v, H') ∧ Q v H'

/-- One operation. -/
def OWr (r : Option (Value × AH)) (K : Value → AH → Prop) : Prop := ∃ v H', r = some (v, H') ∧ K v H'
def OW (op : Op) (tm : Tr Value) (H : AH) (K : Value → AH → Prop) : Prop := OWr (evOp P C (callI P C) tm H op) K

def gW (tm : Tr Value) (g : Option (Option Tmp × Bool)) : Option Bool :=
  match g with
  | none => some true
  | some (some d, want) => match tm.get d with
    | some (.bool b) => some (b == want)
    | some (.tuple _) => some false
    | _ => none
  | some (none, _) => none

def LW' (k : Nat) : List SOp → Tr Value → AH → (Tr Value → AH → Prop) → Prop
  | [], tm, H, K => K tm H
  | o :: r, tm, H, K => match gW tm o.grd with
    | some true => match evOp P C (callI P C) tm H o.op with
      | some (v, H') => match o.dst with
        | none => LW' k r tm H' K
        | some d => d < k ∧ LW' k r (tm.set d v) H' K
      | none => False
    | some false => match o.dst with
      | none => LW' k r tm H K
      | some d => d < k ∧ LW' k r (tm.set d undef) H K
    | none => False

def W (c : Code) (s : St) (Q : Ex → St → Prop) : Prop := ∃ ex s', evI P C c s = some (ex, s') ∧ Q ex s'
end

section
variable {P : Program} {C : Cfg} {Q : Ex → St → Prop}

theorem gW_eq {ops : Array Oper} {tm : Tr Value} {o : Oper} : wantedV ops tm o = gW tm (match o.guard with | none => none | some (j, b) => some ((ops[j]?).bind (·.dst), b)) := by
  unfold wantedV gW
  cases o.guard with
  | none => rfl
  | some x =>
    obtain ⟨j, b⟩ := x
    simp only
    cases (ops[j]?).bind (·.dst) <;> rfl

theorem LW_list {ops : Array Oper} {k : Nat} : ∀ (l : List Oper) (tm : Tr Value) (H : AH) (K : Tr Value → AH → Prop), LW' P C k (stripL ops l) tm H K → ∃ tm' H', evList P C (callI P C) ops l ⟨k, tm, H⟩ = some ⟨k, tm', H'⟩ ∧ K tm' H'
  | [], tm, H, K, h => ⟨tm, H, rfl, h⟩
  | o :: r, tm, H, K, h => by
    have put : ∀ (v : Value) (H1 : AH), (match o.dst with | none => LW' P C k (stripL ops r) tm H1 K | some d => d < k ∧ LW' P C k (stripL ops r) (tm.set d v) H1 K) →
        ∃ tm1, (St.put ⟨k, tm, H⟩ o.dst v H1) = some ⟨k, tm1, H1⟩ ∧ LW' P C k (stripL ops r) tm1 H1 K := fun v H1 h => by
      cases hd : o.dst with
      | none => rw [hd] at h; exact ⟨tm, rfl, h⟩
      | some d =>
        rw [hd] at h
        have : Nat.blt d k = true := by rw [Nat.blt_eq]; exact h.1
        exact ⟨tm.set d v, by simp only [St.put, putSt, this, cond_true], h.2⟩
    rw [evList_cons]
    simp only
    rw [gW_eq]
    simp only [stripL, LW'] at h
    split at h
    · rename_i hg
      rw [hg]
      split at h
      · rename_i v H1 hop
        obtain ⟨tm1, hput, hl⟩ := put v H1 h
        obtain ⟨tm', H', h1, h2⟩ := LW_list r tm1 H1 K hl
        refine ⟨tm', H', ?_, h2⟩
        simp only [hop, hput]
        exact h1
      · exact h.elim
    · rename_i hg
      rw [hg]
      obtain ⟨tm1, hput, hl⟩ := put undef H h
      obtain ⟨tm', H', h1, h2⟩ := LW_list r tm1 H K hl
      refine ⟨tm', H', ?_, h2⟩
      simp only [hput]
      exact h1
    · exact h.elim

theorem W_region {i : Nat} {ops : Array Oper} {s : St} (h : LW' P C s.k (strip ops) s.tm s.H fun tm' H' => Q .norm ⟨s.k, tm', H'⟩) : W P C (.region i ops false) s Q := by
  obtain ⟨k, tm, H⟩ := s
  obtain ⟨tm', H', h1, h2⟩ := LW_list (ops := ops) ops.toList tm H _ h
  refine ⟨.norm, ⟨k, tm', H'⟩, ?_, h2⟩
  rw [evI_eq]
  simp only [evStep]
  have : evRegion P C (evCall P C (evI P C)) ops false ⟨k, tm, H⟩ = some ⟨k, tm', H'⟩ := by
    unfold evRegion evRegionD
    simp only [Bool.false_and, cond_false]
    exact h1
  rw [this]

def seqQ (P : Program) (C : Cfg) (b : Code) (Q : Ex → St → Prop) : Ex → St → Prop
  | .norm, s => W P C b s Q
  | e, s => Q e s

/-- (The code that follows is hidden behind a name.) -/
theorem W_seq {a b : Code} {s : St} (h : ∀ b', b' = b → W P C a s (seqQ P C b' Q)) : W P C (.seq a b) s Q := by
  obtain ⟨ex, s1, h1, h2⟩ := h b rfl
  unfold W
  rw [evI_eq]
  simp only [evStep, h1]
  cases ex with
  | norm => exact h2
  | exit j => exact ⟨_, _, rfl, h2⟩
  | ret => exact ⟨_, _, rfl, h2⟩

theorem W_skip {s : St} (h : Q .norm s) : W P C .skip s Q := ⟨.norm, s, by rw [evI_eq]; rfl, h⟩
theorem W_exit {i : Nat} {s : St} (h : Q (.exit i) s) : W P C (.exit i) s Q := ⟨.exit i, s, by rw [evI_eq]; rfl, h⟩
theorem W_ret {s : St} (h : Q .ret s) : W P C .ret s Q := ⟨.ret, s, by rw [evI_eq]; rfl, h⟩

theorem W_cond {x : Operand} {a b : Code} {s : St} {t : Bool} (hx : opd C s.tm x = some (.bool t)) (h : W P C (cond t a b) s Q) : W P C (.cond x a b) s Q := by
  unfold W
  rw [evI_eq]
  simp only [evStep, hx]
  exact h

def blockQ (id : Nat) (Q : Ex → St → Prop) : Ex → St → Prop
  | .exit j, s => (j = id ∧ Q .norm s) ∨ (j ≠ id ∧ Q (.exit j) s)
  | e, s => Q e s

theorem W_block {id : Nat} {b : Code} {s : St} (h : W P C b s (blockQ id Q)) : W P C (.block id b) s Q := by
  obtain ⟨ex, s1, h1, h2⟩ := h
  unfold W
  rw [evI_eq]
  simp only [evStep, h1]
  cases ex with
  | norm => exact ⟨_, _, rfl, h2⟩
  | exit j =>
    rcases h2 with ⟨e, h2⟩ | ⟨e, h2⟩
    · exact ⟨.norm, s1, by simp only [beq_true' e, cond_true], h2⟩
    · exact ⟨.exit j, s1, by simp only [beq_false' e, cond_false], h2⟩
  | ret => exact ⟨_, _, rfl, h2⟩

theorem W_loop1 {b : Code} {s : St} (h : W P C b s (seqQ P C (.loop b) Q)) : W P C (.loop b) s Q := by
  obtain ⟨ex, s1, h1, h2⟩ := h
  unfold W
  rw [evI_eq]
  simp only [evStep, h1]
  cases ex with
  | norm => exact h2
  | exit j => exact ⟨_, _, rfl, h2⟩
  | ret => exact ⟨_, _, rfl, h2⟩

def loopQ (I : Nat → St → Prop) (n : Nat) (Q : Ex → St → Prop) : Ex → St → Prop
  | .norm, s => ∃ m, m < n ∧ I m s
  | e, s => Q e s

theorem W_loop {b : Code} (I : Nat → St → Prop) (h : ∀ n s, I n s → W P C b s (loopQ I n Q)) : ∀ (n : Nat) (s : St), I n s → W P C (.loop b) s Q := by
  intro n
  induction n using Nat.strongRecOn with
  | _ n ih =>
    intro s hI
    apply W_loop1
    obtain ⟨ex, s1, h1, h2⟩ := h n s hI
    refine ⟨ex, s1, h1, ?_⟩
    cases ex with
    | norm => obtain ⟨m, hm, hI'⟩ := h2; exact ih m hm s1 hI'
    | exit j => exact h2
    | ret => exact h2

theorem W.mono {c : Code} {s : St} {Q' : Ex → St → Prop} (h : W P C c s Q) (hQ : ∀ e s, Q e s → Q' e s) : W P C c s Q' := by
  obtain ⟨e, s1, h1, h2⟩ := h
  exact ⟨e, s1, h1, hQ _ _ h2⟩

theorem CW.mono {f : FuncId} {args : List Value} {H : AH} {Q Q' : Value → AH → Prop} (h : CW P C f args H Q) (hQ : ∀ v H', Q v H' → Q' v H') : CW P C f args H Q' := by
  obtain ⟨v, H', h1, h2⟩ := h
  exact ⟨v, H', h1, hQ _ _ h2⟩

/-- A function's call, by its code. -/
theorem CW_intro (k : Nat) {f : FuncId} {fn : Func} {c : Code} {args : List Value} {H : AH} {R : Value → AH → Prop} (ha : Nat.beq f C.add = false) (hs : Nat.beq f C.sub = false) (hf : P.funcs[f]? = some fn) (hb : fn.body = some c) (hk : args.length + (fn.ntmps - args.length) = k)
    (h : W P C c { k := k, tm := tmOf 0 args .nil, H := H } fun ex s => (ex = .norm ∨ ex = .ret) ∧ ∃ vs, resultV P s fn.results.toList = some vs ∧ R (packV vs) s.H) : CW P C f args H R := by
  subst hk
  obtain ⟨ex, s, h1, h2, vs, h3, h4⟩ := h
  refine ⟨packV vs, s.H, ?_, h4⟩
  unfold callI evCall
  rw [ha, cond_false, hs, cond_false, hf]
  simp only [hb, Bool.or_true, cond_true, h1]
  rcases h2 with rfl | rfl
  · simp only [h3]
  · simp only [h3]

/-! ### operations -/
variable {tm : Tr Value} {H : AH} {K : Value → AH → Prop}
theorem OWr_some {v : Value} {H' : AH} : OWr (some (v, H')) K ↔ K v H' := ⟨fun ⟨_, _, h1, h3⟩ => by cases h1; exact h3, fun h => ⟨_, _, rfl, h⟩⟩
theorem OWr_none : OWr none K ↔ False := by
  constructor
  · rintro ⟨_, _, h1, _⟩
    cases h1
  · exact False.elim
theorem OWr_call {f : FuncId} {args : List Value} : OWr (callI P C f args H) K ↔ CW P C f args H K := Iff.rfl
theorem OW_call {c : Call} {f : FuncId} {args : List Value} (h1 : c.callee = .value (.func f)) (h2 : opds C tm c.args.toList = some args) (h : CW P C f args H K) : OW P C (.call c) tm H K := by
  obtain ⟨v, H', h3, h4⟩ := h
  refine ⟨v, H', ?_, h4⟩
  obtain ⟨callee, cargs, cts⟩ := c
  simp only at h1 h2
  subst h1
  simp only [evOp, oCall, opd, calleeV, h2, List.nil_append, List.append_nil]
  exact h3
end

end

end Go.Proofs.YthlgggcpokfmaaaDoor.Ev

/-
  THE ENGINE over this seat's program: what it asks of the program, found by the kernel; a law without parameters.
-/
namespace Go.Proofs.YthlgggcpokfmaaaDoor
open Go.ChangeShapes Go.WideShapes Go.ChangeAt Go.RowKit Go.Proofs.YthlgggcpokfmaaaDoor.Ev
set_option linter.unusedVariables false
noncomputable section

def cfg0 : Cfg := { ng := 0, add := 60, sub := 62 }

theorem names_ok : (Tryd.prog.funcs.toList.all fun fn => fn.body.isNone || !(fn.name == "runtime.NumGoroutine")) = true := by kernel_rfl

theorem cfg_ok (n : Nat) : CfgOk Tryd.prog { cfg0 with ng := n } where
  mixed := Tryd.checked.mixed
  names := fun f fn hf hb => by
    have h := List.all_eq_true.mp names_ok fn (by rw [Array.mem_toList_iff]; exact Array.mem_of_getElem? hf)
    cases hbody : fn.body with
    | none => rw [hbody] at hb; cases hb
    | some c =>
      rw [hbody] at h
      simpa using h
  add := ⟨Tryd.f60, Tryd.func60, by kernel_rfl, by kernel_rfl, by kernel_rfl, by kernel_rfl⟩
  sub := ⟨Tryd.f62, Tryd.func62, by kernel_rfl, by kernel_rfl, by kernel_rfl, by kernel_rfl⟩

/-- An empty abstract heap. -/
def noHeap : AH := { n := 0, lw := 0, t := .nil }

theorem noHeap_inv (w : World) : Inv w.heap.size (fun _ => False) (fun _ => ⟨0, 0, 0, 0⟩) noHeap w :=
  ⟨fun i sz cs h => (by cases h), fun i sz cs h => (by cases h), fun i j a b c d h => (by cases h), fun i h => h.elim, Nat.le_refl _⟩

/-- Does a closed run answer true? -/
def saysTrue : Option (Value × AH) → Bool
  | some (.bool b, _) => b
  | _ => false

theorem saysTrue_some {r : Option (Value × AH)} (h : saysTrue r = true) : ∃ H, r = some (.bool true, H) := by
  unfold saysTrue at h
  split at h
  · subst h; exact ⟨_, rfl⟩
  · cases h

/-- A closed run of a function without parameters. -/
theorem closed_calls {n f : Nat} {fn : Func} (hf : Tryd.prog.funcs[f]? = some fn) (hb : fn.body.isSome = true) (h : saysTrue (run Tryd.prog cfg0 n f [] noHeap) = true) (w : World) :
    Calls Tryd.prog f #[] w fun e w' => e = .returned (.bool true) ∧ Below w.heap.size w w' := by
  obtain ⟨H', hr⟩ := saysTrue_some h
  have := run_calls (cfg_ok 0) hr hf hb (S := fun _ => False) (L := fun _ => ⟨0, 0, 0, 0⟩) (w := w) (fun g hg => absurd hg (Nat.not_lt_zero g)) (noHeap_inv w) VRs.nil
  refine this.mono fun e w' ⟨v', he, hg⟩ => ?_
  have hbel := hg.below (noHeap_inv w)
  obtain ⟨L', _, _, hv⟩ := hg
  cases hv
  exact ⟨he, hbel⟩

end
end Go.Proofs.YthlgggcpokfmaaaDoor

/-
  THE LISTED TABLE 'surd/expr.rows': what the condition gives; the abstract heap that holds it (read-only, under its own number); a closed law over it.
-/
namespace Go.Proofs.YthlgggcpokfmaaaDoor
open Go.ChangeShapes Go.WideShapes Go.ChangeAt Go.RowKit Go.Proofs.YthlgggcpokfmaaaDoor.Ev
set_option linter.unusedVariables false
noncomputable section
set_option linter.unusedSimpArgs false

def lz (k : Int) (s : List UInt8) (a : Int) : List Value := [.int .i64 k, .string ⟨s.toArray⟩, .int .i64 a]
def rowD (k : Int) (s : List UInt8) (a : Int) {H : Type} : DataW H := .agg [.lit (.int .i64 k), .lit (.string s), .lit (.int .i64 a)]
def rowList : List (Int × List UInt8 × Int) := [(0, [], 0), (1, [112, 105], 0), (2, [45], 1), (3, [43], 2), (4, [45], 2), (5, [42], 2), (6, [47], 2), (7, [97, 98, 115], 1), (8, [109, 105, 110], 2), (9, [109, 97, 120], 2), (10, [115, 113, 114, 116], 1), (11, [101, 120, 112], 1), (12, [108, 110], 1), (13, [115, 105, 110], 1), (14, [99, 111, 115], 1), (15, [97, 116, 97, 110], 1)]
def rowsCells : List Value := rowList.flatMap fun x => lz x.1 x.2.1 x.2.2
theorem laid_rows {H : Type} : (Rows.laid_surd_expr_rows : DataW H) = .agg (rowList.map fun x => rowD x.1 x.2.1 x.2.2) := rfl

theorem gRows : Tryd.prog.globalNamed "surd/expr.rows" = some 0 := by kernel_rfl
theorem tRows : (Tryd.prog.globals[0]?).map (·.type) = some 80 := by kernel_rfl
theorem uRows : Tryd.prog.underlying 80 = some (.array 16 79) := by kernel_rfl
theorem uRow : ∃ f0 f1 f2, Tryd.prog.underlying 79 = some (.struct #[f0, f1, f2]) ∧ f0.type = 23 ∧ f0.offset = 0 ∧ f1.type = 9 ∧ f1.offset = 1 ∧ f2.type = 3 ∧ f2.offset = 2 := ⟨_, _, _, Tryd.underlying79, rfl, rfl, rfl, rfl, rfl, rfl⟩
theorem uOp : Tryd.prog.underlying 23 = some (.int .i64) := by kernel_rfl
theorem cOp : Tryd.prog.cellsOf 23 = 1 := by kernel_rfl
theorem cStr : Tryd.prog.cellsOf 9 = 1 := by kernel_rfl
theorem cInt : Tryd.prog.cellsOf 3 = 1 := by kernel_rfl
theorem cRow : Tryd.prog.cellsOf 79 = 3 := by kernel_rfl
theorem cRows : Tryd.prog.cellsOf 80 = 48 := by kernel_rfl

section
variable {H : Type} {enc : TypeId × Value → H} {w : World} {base : Nat} {sp : Nat → Bool} {held : Bool}

theorem row_of {m : Nat} {l : List Value} {k : Int} {s : List UInt8} {a : Int} {p : List MemPlace} (h : DataW.trod enc Tryd.prog w base sp held m 79 l = some (rowD k s a, p)) : l = lz k s a := by
  obtain ⟨f0, f1, f2, hu, e1, e2, e3, e4, e5, e6⟩ := uRow
  obtain ⟨y0, y1, y2, n, hx, hl, h0, h1, h2⟩ := Deep.trod_struct3 hu h
  rw [e1, e2, cOp] at h0
  rw [e3, e4, cStr] at h1
  rw [e5, e6, cInt] at h2
  rw [cRow] at hl
  obtain ⟨n0, c0, x0, _⟩ := DataW.trod_int uOp h0
  obtain ⟨s1, c1, x1, _⟩ := DataW.trod_string Tryd.underlying9 h1
  obtain ⟨n2, c2, x2, _⟩ := DataW.trod_int Tryd.underlying3 h2
  subst x0; subst x1; subst x2
  simp only [rowD, Prod.mk.injEq, DataW.agg.injEq, List.cons.injEq, DataW.lit.injEq, Lit.int.injEq, Lit.string.injEq, true_and, and_true] at hx
  obtain ⟨⟨rfl, rfl, rfl⟩, _⟩ := hx
  match l, hl with
  | [a0, a1, a2], _ =>
    simp at c0 c1 c2
    subst c0; subst c1; subst c2
    rfl

theorem rows_of {fuel : Nat} {cs : List Value} {p : List MemPlace} (h : DataW.trod enc Tryd.prog w base sp held fuel 80 cs = some (Rows.laid_surd_expr_rows, p)) : cs = rowsCells := by
  obtain ⟨xs, m, _, hx, hl, hn, hel⟩ := DataW.trod_array uRows h
  rw [cRows] at hl
  rw [laid_rows] at hx
  simp only [Prod.mk.injEq, DataW.agg.injEq] at hx
  have key : ∀ i, i < 16 → (cs.drop (i * 3)).take 3 = (rowsCells.drop (i * 3)).take 3 := by
    intro i hi
    have h1 := hel i hi
    rw [cRow] at h1
    have h2 : (xs.map (·.1))[i]? = some (rowD ((rowList[i]?.getD (0, [], 0))).1 (rowList[i]?.getD (0, [], 0)).2.1 (rowList[i]?.getD (0, [], 0)).2.2) := by
      rw [← hx.1, List.getElem?_map, List.getElem?_eq_getElem (show i < rowList.length from hi)]
      rfl
    rw [List.getElem?_map] at h2
    cases hxi : xs[i]? with
    | none => rw [hxi] at h2; cases h2
    | some y =>
      rw [hxi] at h1 h2
      obtain ⟨y1, y2⟩ := y
      simp only [Option.map_some, Option.some.injEq] at h2
      subst h2
      rw [row_of h1]
      clear h1 hx hel hn hl h hxi
      have : i = 0 ∨ i = 1 ∨ i = 2 ∨ i = 3 ∨ i = 4 ∨ i = 5 ∨ i = 6 ∨ i = 7 ∨ i = 8 ∨ i = 9 ∨ i = 10 ∨ i = 11 ∨ i = 12 ∨ i = 13 ∨ i = 14 ∨ i = 15 := by omega
      rcases this with rfl | rfl | rfl | rfl | rfl | rfl | rfl | rfl | rfl | rfl | rfl | rfl | rfl | rfl | rfl | rfl <;> rfl
  apply List.ext_getElem?
  intro k
  by_cases hk : k < 48
  · have := key (k / 3) (by omega)
    have h3 := congrArg (fun l => l[k % 3]?) this
    simp only [List.getElem?_take, List.getElem?_drop] at h3
    rw [if_pos (Nat.mod_lt _ (by decide)), if_pos (Nat.mod_lt _ (by decide))] at h3
    have e : k / 3 * 3 + k % 3 = k := by omega
    rw [e] at h3
    exact h3
  · rw [List.getElem?_eq_none (by omega), List.getElem?_eq_none (by show rowsCells.length ≤ k; have : rowsCells.length = 48 := rfl; omega)]
end

theorem of_laid {W : World} (h : laidMetH Tryd.prog [("surd/expr.rows", Rows.laid_surd_expr_rows)] W) : ∀ k v, rowsCells[k]? = some v → W.cell? ⟨0, k, none⟩ = some v := by
  rw [MakeChecks.laidMetH_plain _ _ _ (by kernel_rfl)] at h
  obtain ⟨ps, ⟨g0, t0, cs0, f0, p0, q0, hg0, ht0, hv0, hd0, _⟩, _, _⟩ := h
  obtain rfl := Option.some.inj (gRows.symm.trans hg0)
  obtain rfl := Option.some.inj (tRows.symm.trans ht0)
  have hc := rows_of hd0
  intro k v hk
  rw [World.var?_cell hg0 hv0 k, ← hk, ← hc]
  simp

/-- The abstract heap that holds the table. -/
def rowsHeap : AH := { n := 0 + 1, lw := 0 + 1, t := Tr.nil.set 0 (.ro 3 rowsCells) }
def cfgR : Cfg := { cfg0 with ng := 0 + 1 }
def rowsL : Nat → Ev.Loc := fun i => ⟨i, 0, 3, 48⟩
def rowsS : Nat → Prop := fun i => i < 0 + 1

theorem rows_go : GO cfgR rowsS rowsL := fun g hg => ⟨hg, rfl, rfl⟩

theorem rows_plain : rowsCells.all plain1 = true := rfl

theorem vr_plain1 {S : Nat → Prop} {L : Nat → Ev.Loc} {v : Value} (h : plain1 v = true) : VR S L v v := by
  unfold plain1 at h
  split at h
  · exact .bool _
  · exact .int _ _
  · exact .string _
  · exact .nilPtr
  · exact .nilSlice
  · exact .nilFunc
  · exact .nilIface
  · cases h

theorem rowsHeap_inv {w : World} (h : ∀ k v, rowsCells[k]? = some v → w.cell? ⟨0, k, none⟩ = some v) : Inv w.heap.size rowsS rowsL rowsHeap w := by
  have hblk : ∀ i b, rowsHeap.blk i = b → b ≠ .dead → i = 0 ∧ b = .ro 3 rowsCells := by
    intro i b hb hd
    by_cases hi : i = 0
    · subst hi; exact ⟨rfl, by rw [← hb]; rfl⟩
    · exfalso; apply hd; rw [← hb]; unfold AH.blk rowsHeap; simp only [Tr.get_set, if_neg hi, Tr.get_nil]
  have h0 := h 0 _ rfl
  have hsz : 0 < w.heap.size := by
    by_cases hx : 0 < w.heap.size
    · exact hx
    · exfalso
      have : w.heap[0]? = none := Array.getElem?_eq_none (by omega)
      simp [World.cell?, this] at h0
  refine ⟨fun i sz cs hb => ?_, fun i sz cs hb => ?_, fun i j a b c d hb => ?_, fun i hi => hi, Nat.le_refl _⟩
  · obtain ⟨rfl, he⟩ := hblk i _ hb (by intro e; cases e)
    cases he
    refine ⟨Nat.lt_succ_self _, hsz, rfl, fun k v hk => ⟨v, ?_, ?_⟩⟩
    · have := h k v hk
      simpa [rowsL] using this
    · exact vr_plain1 (List.all_eq_true.mp rows_plain v (List.mem_of_getElem? hk))
  · obtain ⟨_, he⟩ := hblk i _ hb (by intro e; cases e); cases he
  · obtain ⟨_, he⟩ := hblk i _ hb (by intro e; cases e); cases he

/-- A closed run over the table. -/
theorem rows_calls {n f : Nat} {fn : Func} (hf : Tryd.prog.funcs[f]? = some fn) (hb : fn.body.isSome = true) (h : saysTrue (run Tryd.prog cfgR n f [] rowsHeap) = true) {w : World}
    (hL : laidMetH Tryd.prog [("surd/expr.rows", Rows.laid_surd_expr_rows)] w) :
    Calls Tryd.prog f #[] w fun e w' => e = .returned (.bool true) ∧ Below w.heap.size w w' := by
  obtain ⟨H', hr⟩ := saysTrue_some h
  have hI := rowsHeap_inv (of_laid hL)
  have := run_calls (cfg_ok (0 + 1)) hr hf hb rows_go hI VRs.nil
  refine this.mono fun e w' ⟨v', he, hg⟩ => ?_
  have hbel := hg.below hI
  obtain ⟨L', _, _, hv⟩ := hg
  cases hv
  exact ⟨he, hbel⟩

end
end Go.Proofs.YthlgggcpokfmaaaDoor

/-
  PLAIN NUMBERS: lists of digits by any base, the least first: their value (dv), a number's digits (ds), without noughts at the top (trimL). No program in sight.
-/
namespace Go.Proofs.YthlgggcpokfmaaaDoor
set_option linter.unusedVariables false
set_option linter.unusedSimpArgs false

def trimL : List Nat → List Nat
  | [] => []
  | x :: xs => match trimL xs with
    | [] => if x = 0 then [] else [x]
    | y :: ys => x :: y :: ys

theorem trimL_snoc0 : ∀ (xs : List Nat), trimL (xs ++ [0]) = trimL xs
  | [] => rfl
  | x :: xs => by simp [trimL, trimL_snoc0 xs]

theorem trimL_snoc : ∀ (xs : List Nat) (x : Nat), x ≠ 0 → trimL (xs ++ [x]) = xs ++ [x]
  | [], x, h => by simp [trimL, h]
  | y :: xs, x, h => by
    have := trimL_snoc xs x h
    simp only [List.cons_append, trimL, this]
    cases xs <;> rfl

theorem trimL_len (xs : List Nat) : (trimL xs).length ≤ xs.length := by
  induction xs with
  | nil => simp [trimL]
  | cons x xs ih =>
    simp only [trimL]
    split
    · split <;> simp
    · rename_i y ys e
      rw [e] at ih
      simp at ih ⊢
      exact ih

/-- Digits below the base. -/
def Dig (B : Nat) (xs : List Nat) : Prop := ∀ x ∈ xs, x < B

theorem Dig.nil (B : Nat) : Dig B [] := fun x h => by cases h
theorem Dig.cons {B x : Nat} {xs : List Nat} (h : x < B) (hs : Dig B xs) : Dig B (x :: xs) := fun y hy => by
  rcases List.mem_cons.mp hy with e | e
  · rw [e]; exact h
  · exact hs y e
theorem Dig.tail {B x : Nat} {xs : List Nat} (h : Dig B (x :: xs)) : Dig B xs := fun y hy => h y (List.mem_cons_of_mem _ hy)
theorem Dig.head {B x : Nat} {xs : List Nat} (h : Dig B (x :: xs)) : x < B := h x (List.mem_cons_self ..)
theorem Dig.append {B : Nat} {xs ys : List Nat} (h : Dig B xs) (h' : Dig B ys) : Dig B (xs ++ ys) := fun y hy => by
  rcases List.mem_append.mp hy with e | e
  · exact h y e
  · exact h' y e
theorem Dig.get {B : Nat} {xs : List Nat} (h : Dig B xs) {i x : Nat} (hi : xs[i]? = some x) : x < B := h x (List.mem_of_getElem? hi)
theorem Dig.take {B : Nat} {xs : List Nat} (h : Dig B xs) (n : Nat) : Dig B (xs.take n) := fun y hy => h y (List.mem_of_mem_take hy)
theorem Dig.drop {B : Nat} {xs : List Nat} (h : Dig B xs) (n : Nat) : Dig B (xs.drop n) := fun y hy => h y (List.mem_of_mem_drop hy)

/-- The value. -/
def dv (B : Nat) : List Nat → Nat
  | [] => 0
  | x :: xs => x + B * dv B xs

theorem dv_append (B : Nat) : ∀ (xs ys : List Nat), dv B (xs ++ ys) = dv B xs + B ^ xs.length * dv B ys
  | [], ys => by simp [dv]
  | x :: xs, ys => by simp only [List.cons_append, dv, dv_append B xs ys, List.length_cons, Nat.pow_succ, Nat.mul_add]; rw [Nat.add_assoc, ← Nat.mul_assoc, Nat.mul_comm B (B ^ _)]

theorem dv_lt {B : Nat} : ∀ {xs : List Nat}, Dig B xs → dv B xs < B ^ xs.length
  | [], _ => by simp [dv]
  | x :: xs, h => by
    have h1 := h.head
    have h2 := dv_lt h.tail
    simp only [dv, List.length_cons, Nat.pow_succ]
    have : B * dv B xs + B ≤ B * B ^ xs.length := by rw [← Nat.mul_succ]; exact Nat.mul_le_mul_left _ h2
    rw [Nat.mul_comm (B ^ _) B]
    omega

theorem dv_zeros (B : Nat) : ∀ n, dv B (List.replicate n 0) = 0
  | 0 => rfl
  | n + 1 => by simp [List.replicate_succ, dv, dv_zeros B n]

theorem dv_trimL (B : Nat) : ∀ (xs : List Nat), dv B (trimL xs) = dv B xs
  | [] => rfl
  | x :: xs => by
    have ih := dv_trimL B xs
    simp only [trimL]
    split
    · rename_i e
      rw [e] at ih
      simp only [dv] at ih ⊢
      split
      · rename_i h; simp [dv, h, ← ih]
      · simp [dv, ← ih]
    · rename_i y ys e
      rw [e] at ih
      simp only [dv] at ih ⊢
      rw [ih]

theorem trimL_dig {B : Nat} : ∀ {xs : List Nat}, Dig B xs → Dig B (trimL xs)
  | [], h => h
  | x :: xs, h => by
    have ih := trimL_dig h.tail
    simp only [trimL]
    split
    · split
      · exact .nil B
      · exact .cons h.head (.nil B)
    · rename_i y ys e
      rw [e] at ih
      exact .cons h.head ih

theorem trimL_idem : ∀ (xs : List Nat), trimL (trimL xs) = trimL xs
  | [] => rfl
  | x :: xs => by
    have ih := trimL_idem xs
    simp only [trimL]
    split
    · split
      · rfl
      · rename_i h; simp [trimL, h]
    · rename_i y ys e
      rw [e] at ih
      simp only [trimL] at ih ⊢
      rw [ih]

/-- A number's digits. -/
def ds (B : Nat) (n : Nat) : List Nat := if h : n = 0 ∨ B < 2 then [] else n % B :: ds B (n / B)
termination_by n
decreasing_by exact Nat.div_lt_self (by omega) (by omega)

theorem ds_zero (B : Nat) : ds B 0 = [] := by rw [ds]; simp
theorem ds_pos {B n : Nat} (hB : 2 ≤ B) (hn : n ≠ 0) : ds B n = n % B :: ds B (n / B) := by rw [ds, dif_neg (by omega)]

theorem dv_ds {B : Nat} (hB : 2 ≤ B) (n : Nat) : dv B (ds B n) = n := by
  induction n using Nat.strongRecOn with
  | _ n ih =>
    by_cases h : n = 0
    · subst h; rw [ds_zero]; rfl
    · rw [ds_pos hB h]
      simp only [dv]
      rw [ih (n / B) (Nat.div_lt_self (by omega) (by omega))]
      exact Nat.mod_add_div n B

theorem ds_dig {B : Nat} (hB : 2 ≤ B) (n : Nat) : Dig B (ds B n) := by
  induction n using Nat.strongRecOn with
  | _ n ih =>
    by_cases h : n = 0
    · subst h; rw [ds_zero]; exact .nil B
    · rw [ds_pos hB h]
      exact .cons (Nat.mod_lt _ (by omega)) (ih (n / B) (Nat.div_lt_self (by omega) (by omega)))

theorem trimL_nil_iff (B : Nat) (hB : 2 ≤ B) : ∀ {xs : List Nat}, dv B xs = 0 → trimL xs = []
  | [], _ => rfl
  | x :: xs, h => by
    simp only [dv] at h
    have h1 : x = 0 := by omega
    have h2 : dv B xs = 0 := by
      have : B * dv B xs = 0 := by omega
      rcases Nat.mul_eq_zero.mp this with e | e
      · omega
      · exact e
    simp [trimL, trimL_nil_iff B hB h2, h1]

/-- Trimmed digits are the number's digits. -/
theorem trimL_ds {B : Nat} (hB : 2 ≤ B) : ∀ {xs : List Nat}, Dig B xs → trimL xs = ds B (dv B xs)
  | [], _ => (ds_zero B).symm
  | x :: xs, h => by
    have ih := trimL_ds hB h.tail
    have hx := h.head
    by_cases h0 : dv B (x :: xs) = 0
    · rw [h0, ds_zero]; exact trimL_nil_iff B hB h0
    · have e1 : (x + B * dv B xs) % B = x := by rw [Nat.add_mul_mod_self_left]; exact Nat.mod_eq_of_lt hx
      have e2 : (x + B * dv B xs) / B = dv B xs := by rw [Nat.add_mul_div_left _ _ (by omega), Nat.div_eq_of_lt hx, Nat.zero_add]
      rw [ds_pos hB h0]
      simp only [dv, e1, e2]
      rw [← ih]
      simp only [trimL]
      split
      · rename_i e
        split
        · rename_i hz
          exfalso; apply h0
          have : dv B xs = 0 := by rw [← dv_trimL B xs, e]; rfl
          simp [dv, hz, this]
        · rw [e]
      · rename_i y ys e; rw [e]

theorem ds_trim {B : Nat} (hB : 2 ≤ B) (n : Nat) : trimL (ds B n) = ds B n := by
  rw [trimL_ds hB (ds_dig hB n), dv_ds hB]

theorem ds_len_le {B : Nat} (hB : 2 ≤ B) : ∀ {k n : Nat}, n < B ^ k → (ds B n).length ≤ k
  | 0, n, h => by
    have : n = 0 := by simpa using h
    subst this; rw [ds_zero]; exact Nat.le_refl _
  | k + 1, n, h => by
    by_cases h0 : n = 0
    · subst h0; rw [ds_zero]; exact Nat.zero_le _
    · rw [ds_pos hB h0]
      have : n / B < B ^ k := by rw [Nat.div_lt_iff_lt_mul (by omega)]; rw [Nat.pow_succ] at h; exact h
      simpa using ds_len_le hB this

theorem ds_lt {B : Nat} (hB : 2 ≤ B) (n : Nat) : n < B ^ (ds B n).length := by
  have := dv_lt (ds_dig hB n)
  rwa [dv_ds hB] at this

theorem ds_ge {B : Nat} (hB : 2 ≤ B) {n : Nat} (hn : n ≠ 0) : B ^ ((ds B n).length - 1) ≤ n := by
  rcases Nat.lt_or_ge n (B ^ ((ds B n).length - 1)) with h | h
  · have := ds_len_le hB h
    have h2 : (ds B n).length ≠ 0 := by rw [ds_pos hB hn]; simp
    omega
  · exact h

theorem ds_nil_iff {B : Nat} (hB : 2 ≤ B) {n : Nat} : ds B n = [] ↔ n = 0 := by
  constructor
  · intro h; have := dv_ds hB n; rw [h] at this; exact this.symm
  · rintro rfl; exact ds_zero B

theorem ds_inj {B : Nat} (hB : 2 ≤ B) {n m : Nat} (h : ds B n = ds B m) : n = m := by
  rw [← dv_ds hB n, h, dv_ds hB]

/-- Where the limbs are compared from the top: a higher part decides. -/
theorem dv_cmp {B : Nat} {xs ys : List Nat} {x y : Nat} (h1 : Dig B xs) (h2 : Dig B ys) (hl : xs.length = ys.length) (h : x < y) (zs : List Nat) : dv B (xs ++ x :: zs) < dv B (ys ++ y :: zs) := by
  rw [dv_append, dv_append, ← hl]
  simp only [dv]
  have a := dv_lt h1
  have hm : B ^ xs.length * (x + 1 + B * dv B zs) ≤ B ^ xs.length * (y + B * dv B zs) := Nat.mul_le_mul_left _ (by omega)
  have e : B ^ xs.length * (x + 1 + B * dv B zs) = B ^ xs.length * (x + B * dv B zs) + B ^ xs.length := by
    rw [show x + 1 + B * dv B zs = (x + B * dv B zs) + 1 by omega, Nat.mul_succ]
  omega

end Go.Proofs.YthlgggcpokfmaaaDoor

/-
  LISTS OF LIMBS in the abstract heap: what a slice value says (Sl); what single operations do on it. nat.trim.
-/
namespace Go.Proofs.YthlgggcpokfmaaaDoor
open Go Ev
set_option linter.unusedVariables false
set_option linter.unusedSimpArgs false
noncomputable section
set_option maxRecDepth 20000

/-! ### the program's types -/
theorem uNat : Tryd.prog.underlying 25 = some (.slice 65) := by kernel_rfl
theorem uNum : Tryd.prog.underlying 40 = some (.slice 65) := by kernel_rfl
theorem uLst : Tryd.prog.underlying 24 = some (.slice 65) := by kernel_rfl
theorem sU64 : sizeT Tryd.prog 65 = some 1 := by kernel_rfl
theorem aU64 : isAggT Tryd.prog 65 = some false := by kernel_rfl
theorem tNat : sliceT Tryd.prog 25 = some (65, 1, 8) := by kernel_rfl
theorem tNum : sliceT Tryd.prog 40 = some (65, 1, 8) := by kernel_rfl
theorem tLst : sliceT Tryd.prog 24 = some (65, 1, 8) := by kernel_rfl
theorem zU64 : zeroT Tryd.prog 65 = some (.int .u64 0) := by kernel_rfl

/-- A type whose values are slices of limbs. -/
def LT (t : TypeId) : Prop := Tryd.prog.underlying t = some (.slice 65) ∧ sliceT Tryd.prog t = some (65, 1, 8)
theorem ltNat : LT 25 := ⟨uNat, tNat⟩
theorem ltNum : LT 40 := ⟨uNum, tNum⟩
theorem ltLst : LT 24 := ⟨uLst, tLst⟩

/-! ### what a slice value says -/
/-- The limbs lie in a block from a place on. -/
def At (H : AH) (b o : Nat) (xs : List Nat) : Prop := b < H.n ∧ ∃ cs, H.cells b = some cs ∧ H.size b = some 1 ∧ (∀ (i x : Nat), xs[i]? = some x → cs[o + i]? = some (.int .u64 (x : Int))) ∧ o ≤ cs.length

/-- A slice value, and its limbs. -/
inductive Sl (H : AH) : Value → List Nat → Prop
  | nil : Sl H (.slice none 0 0) []
  | emp (b : Nat) : Sl H (.slice (some ⟨b, 0, some 0⟩) 0 0) []
  | mk (b o cap : Nat) (xs : List Nat) : xs.length ≤ cap → At H b o xs → Sl H (.slice (some ⟨b, o, none⟩) xs.length cap) xs

/-- Heaps that hold what the other one held. -/
structure Keep (H H' : AH) : Prop where
  n : H.n ≤ H'.n
  lw : min H.lw H.n ≤ H'.lw
  blk : ∀ j, j < H.n → H'.blk j = H.blk j

theorem Keep.refl (H : AH) : Keep H H := ⟨Nat.le_refl _, Nat.min_le_left _ _, fun _ _ => rfl⟩
theorem Keep.trans {H H1 H2 : AH} (a : Keep H H1) (b : Keep H1 H2) : Keep H H2 :=
  ⟨Nat.le_trans a.n b.n, by have := a.n; have := a.lw; have := b.lw; omega, fun j hj => (b.blk j (Nat.lt_of_lt_of_le hj a.n)).trans (a.blk j hj)⟩

theorem At.keep {H H' : AH} {b o : Nat} {xs : List Nat} (h : At H b o xs) (k : Keep H H') : At H' b o xs := by
  obtain ⟨h1, cs, h2, h3, h4⟩ := h
  have e := k.blk b h1
  exact ⟨Nat.lt_of_lt_of_le h1 k.n, cs, by unfold AH.cells; rw [e]; exact h2, by unfold AH.size; rw [e]; exact h3, h4⟩

theorem Sl.keep {H H' : AH} {v : Value} {xs : List Nat} (h : Sl H v xs) (k : Keep H H') : Sl H' v xs := by
  cases h with
  | nil => exact .nil
  | emp b => exact .emp b
  | mk b o cap xs h1 h2 => exact .mk b o cap xs h1 (h2.keep k)

/-! ### single operations -/
theorem Sl.len {H : AH} {v : Value} {xs : List Nat} (h : Sl H v xs) {t : TypeId} (ht : LT t) : lenV Tryd.prog t v = some xs.length := by
  unfold lenV
  rw [ht.1]
  cases h <;> rfl

/-- The place of a limb. -/
def adr (v : Value) (i : Nat) : Value :=
  match v with
  | .slice (some ⟨b, o, none⟩) _ _ => .pointer (some ⟨b, o + i, none⟩)
  | _ => .pointer none

theorem Sl.adr {H : AH} {v : Value} {xs : List Nat} (h : Sl H v xs) {t : TypeId} (ht : LT t) {i : Nat} {k : IntKind} (hi : i < xs.length) : indexAddrV Tryd.prog t v (.int k (i : Int)) = some (adr v i) := by
  cases h with
  | nil => cases hi
  | emp b => cases hi
  | mk b o cap xs h1 h2 =>
    unfold indexAddrV Go.Proofs.YthlgggcpokfmaaaDoor.adr
    simp only [ht.1, sU64]
    rw [if_pos (by omega)]
    simp

theorem Sl.load {H : AH} {v : Value} {xs : List Nat} (h : Sl H v xs) {i : Nat} (hi : i < xs.length) : loadV Tryd.prog H 65 (Go.Proofs.YthlgggcpokfmaaaDoor.adr v i) = some (.int .u64 (xs[i] : Nat)) := by
  cases h with
  | nil => cases hi
  | emp b => cases hi
  | mk b o cap xs h1 h2 =>
    obtain ⟨_, cs, h3, h4, h5⟩ := h2
    unfold loadV Go.Proofs.YthlgggcpokfmaaaDoor.adr
    simp only [aU64, h3]
    exact h5.1 i _ (List.getElem?_eq_getElem hi)

theorem wrap_nat {n : Nat} (h : n < 9223372036854775808) : IntKind.i64.wrap (n : Int) = (n : Int) := by
  rw [IntKind.wrap_i64]; omega

theorem wrap_sub1 {n : Nat} (h0 : 0 < n) (h : n < 9223372036854775808) : IntKind.i64.wrap ((n : Int) - 1) = ((n - 1 : Nat) : Int) := by
  rw [IntKind.wrap_i64]; omega

/-- The slice 'v[:m]'. -/
theorem Sl.cut {H : AH} {v : Value} {xs : List Nat} (h : Sl H v xs) {t : TypeId} (ht : LT t) {m : Nat} (hm : m ≤ xs.length) (h0 : 0 < xs.length) :
    ∃ v', sliceV Tryd.prog H t v none (some (.int .i64 (m : Int))) none = some v' ∧ Sl H v' (xs.take m) := by
  cases h with
  | nil => cases h0
  | emp b => cases h0
  | mk b o cap xs h1 h2 =>
    have hl : (xs.take m).length = m := by rw [List.length_take]; omega
    obtain ⟨h2a, cs, h3, h4, h5⟩ := h2
    refine ⟨.slice (some ⟨b, o, none⟩) (xs.take m).length cap, ?_, .mk b o cap _ (by omega) ⟨h2a, cs, h3, h4, fun i x hx => h5.1 i x ?_, h5.2⟩⟩
    · unfold sliceV
      simp only [ht.1, sU64]
      unfold cutV boundV
      simp only [h4, Option.isSome_some, Option.isNone_none, Bool.true_or]
      rw [if_pos (by omega)]
      have e1 : Nat.ble m cap = true := Nat.ble_eq.mpr (by omega)
      simp [boundV, e1, hl]
    · rw [List.getElem?_take] at hx
      split at hx
      · exact hx
      · cases hx

/-! ### nat.trim -/
attribute [local simp] strip stripL LW' gW evOp oMove oAssign oPick oBinOp oUnOp oConvert oExtract oIndexAddr oIndex oLoad oStore oSlice oMakeSlice oCall opd opds optOpd plain plain1 Tr.get_set tmOf builtinV binV isShift sameKind intBin undef resultV resOne packV ltNat ltNum ltLst

theorem trim_spec {v : Value} {xs : List Nat} {H : AH} (hs : Sl H v xs) (hlen : xs.length < 1152921504606846976) :
    CW Tryd.prog cfgR 43 [v] H fun v' H' => H' = H ∧ Sl H v' (trimL xs) := by
  refine CW_intro 21 (by decide) (by decide) Tryd.func43 rfl rfl ?_
  apply W_seq; intro b1 hb1
  apply W_region
  simp
  show W _ _ b1 _ _; subst hb1
  apply W_seq; intro b1 hb1
  apply W_block
  refine W_loop (fun n s => s.k = 21 ∧ s.H = H ∧ ∃ v', s.tm.get 0 = some v' ∧ n ≤ xs.length ∧ Sl H v' (xs.take n) ∧ trimL (xs.take n) = trimL xs) ?_ xs.length _ ⟨rfl, rfl, v, by simp, Nat.le_refl _, by rw [List.take_length]; exact hs, by rw [List.take_length]⟩
  rintro n ⟨k, tm, H'⟩ ⟨h2, h3, v', h4, h5, h6, h7⟩
  simp only at h2 h3 h4
  subst h2; subst h3
  have hl : (xs.take n).length = n := by rw [List.length_take]; omega
  have hlenv := h6.len ltNat
  rw [hl] at hlenv
  apply W_seq; intro b2 hb2
  apply W_seq; intro b3 hb3
  apply W_region
  by_cases hz : n = 0
  · subst hz
    simp [h4, hlenv]
    show W _ _ b3 _ _; subst hb3
    refine W_cond (t := false) (by simp) ?_
    apply W_exit
    left
    refine ⟨rfl, ?_⟩
    show W _ _ b1 _ _; subst hb1
    apply W_seq; intro b4 hb4
    apply W_region
    simp [h4]
    show W _ _ b4 _ _; subst hb4
    apply W_ret
    simp
    rw [← h7]
    exact h6
  · have hn : 0 < n := Nat.pos_of_ne_zero hz
    have hw : IntKind.i64.wrap ((n : Int) - 1) = ((n - 1 : Nat) : Int) := wrap_sub1 hn (by omega)
    have hi : n - 1 < (xs.take n).length := by omega
    have ha := h6.adr ltNat (k := .i64) hi
    have hld := h6.load hi
    simp [h4, hlenv, hn, hw, ha, hld]
    show W _ _ b3 _ _; subst hb3
    have hx : n - 1 < xs.length := by omega
    have htake : xs.take n = xs.take (n - 1) ++ [xs[n - 1]] := by
      have := List.take_append_getElem (l := xs) (i := n - 1) hx
      rw [this, show n - 1 + 1 = n by omega]
    by_cases h0 : xs[n - 1] = 0
    · refine W_cond (t := true) (by simp [h0]) ?_
      apply W_skip
      show W _ _ b2 _ _; subst hb2
      apply W_block
      apply W_region
      obtain ⟨v2, hv2, hs2⟩ := h6.cut ltNat (m := n - 1) (by omega) (by omega)
      simp [h4, hlenv, hw, hv2]
      refine ⟨n - 1, by omega, rfl, rfl, v2, by simp, by omega, ?_, ?_⟩
      · rw [List.take_take, show min (n - 1) n = n - 1 by omega] at hs2; exact hs2
      · rw [← h7, htake, h0, trimL_snoc0]
    · refine W_cond (t := false) (by simp; exact h0) ?_
      apply W_exit
      left
      refine ⟨rfl, ?_⟩
      show W _ _ b1 _ _; subst hb1
      apply W_seq; intro b4 hb4
      apply W_region
      simp [h4]
      show W _ _ b4 _ _; subst hb4
      apply W_ret
      simp
      rw [← h7]
      have : trimL (xs.take n) = xs.take n := by rw [htake]; exact trimL_snoc _ _ h0
      rw [this]
      exact h6
end
end Go.Proofs.YthlgggcpokfmaaaDoor

/-
  LISTS OF LIMBS: new ones (Own); append onto nothing; makeSlice; writes. nat.Norm, nat.From, bits.Len64, nat.Length.
-/
namespace Go.Proofs.YthlgggcpokfmaaaDoor
open Go Ev
set_option linter.unusedVariables false
set_option linter.unusedSimpArgs false
noncomputable section
set_option maxRecDepth 20000

def limb (x : Nat) : Value := .int .u64 (x : Int)

/-- A new list: its own block, of blocks from n on. -/
inductive Own (n : Nat) (H : AH) : Value → List Nat → Prop
  | nil : Own n H (.slice none 0 0) []
  | mk (b o cap : Nat) (xs : List Nat) (cs : List Value) : xs.length ≤ cap → n ≤ b → b < H.n → H.blk b = .rw 1 cs → o + cap ≤ cs.length → (∀ (i x : Nat), xs[i]? = some x → cs[o + i]? = some (limb x)) →
      Own n H (.slice (some ⟨b, o, none⟩) xs.length cap) xs

theorem Own.sl {n : Nat} {H : AH} {v : Value} {xs : List Nat} (h : Own n H v xs) : Sl H v xs := by
  cases h with
  | nil => exact .nil
  | mk b o cap xs cs h1 h2 h3 h4 h5 h6 => exact .mk b o cap xs h1 ⟨h3, cs, by unfold AH.cells; rw [h4], by unfold AH.size; rw [h4], h6, by omega⟩

theorem Own.mono {n m : Nat} {H H' : AH} {v : Value} {xs : List Nat} (h : Own n H v xs) (hn : m ≤ n) (k : Keep H H') : Own m H' v xs := by
  cases h with
  | nil => exact .nil
  | mk b o cap xs cs h1 h2 h3 h4 h5 h6 => exact .mk b o cap xs cs h1 (Nat.le_trans hn h2) (Nat.lt_of_lt_of_le h3 k.n) (by rw [k.blk b h3]; exact h4) h5 h6

theorem AH.blk_new (H : AH) (sz : Nat) (cs : List Value) (j : Nat) : (H.new sz cs).blk j = if j = H.n then .rw sz cs else H.blk j := by
  unfold AH.new AH.blk
  simp only [Tr.get_set]
  by_cases e : j = H.n
  · rw [if_pos e, if_pos e]
  · rw [if_neg e, if_neg e]

theorem Keep.new (H : AH) (sz : Nat) (cs : List Value) : Keep H (H.new sz cs) :=
  ⟨Nat.le_succ _, Nat.min_le_left _ _, fun j hj => by rw [AH.blk_new, if_neg (by omega)]⟩

theorem Own.new (H : AH) (xs : List Nat) : Own H.n (H.new 1 (xs.map limb)) (.slice (some ⟨H.n, 0, none⟩) xs.length xs.length) xs :=
  .mk H.n 0 xs.length xs (xs.map limb) (Nat.le_refl _) (Nat.le_refl _) (Nat.lt_succ_self _) (by rw [AH.blk_new, if_pos rfl]) (by simp) (fun i x h => by simp [h])

theorem list_of {cs : List Value} {o : Nat} {xs : List Nat} (h0 : 0 < xs.length) (h : ∀ (i x : Nat), xs[i]? = some x → cs[o + i]? = some (limb x)) : o + xs.length ≤ cs.length ∧ (cs.drop o).take xs.length = xs.map limb := by
  have hl : o + xs.length ≤ cs.length := by
    have := h (xs.length - 1) _ (List.getElem?_eq_getElem (by omega))
    have := (List.getElem?_eq_some_iff.mp this).1
    omega
  refine ⟨hl, List.ext_getElem? fun i => ?_⟩
  rw [List.getElem?_take, List.getElem?_drop, List.getElem?_map]
  by_cases hi : i < xs.length
  · rw [if_pos hi, List.getElem?_eq_getElem hi, Option.map_some]
    exact h i _ (List.getElem?_eq_getElem hi)
  · rw [if_neg hi, List.getElem?_eq_none (by omega)]; rfl

theorem Sl.cells {H : AH} {v : Value} {xs : List Nat} (h : Sl H v xs) (h0 : 0 < xs.length) : sliceCells H 1 v xs.length = some (xs.map limb) := by
  cases h with
  | nil => cases h0
  | emp b => cases h0
  | mk b o cap xs h1 h2 =>
    obtain ⟨_, cs, h3, h4, h5⟩ := h2
    obtain ⟨h6, h7⟩ := list_of h0 h5.1
    have : Nat.ble (o + xs.length) cs.length = true := Nat.ble_eq.mpr (by omega)
    simp only [sliceCells, AH.read_def, h3, this, cond_true, Nat.mul_one, h7]

/-- 'append([]T(nil), v...)'. -/
theorem Sl.copyNew {H : AH} {v : Value} {xs : List Nat} (h : Sl H v xs) (hl : xs.length ≤ 17592186044416) {t t2 : TypeId} (ht : LT t) (ht2 : LT t2) :
    ∃ v' H', appendV Tryd.prog H t t2 (.slice none 0 0) v = some (v', H') ∧ Keep H H' ∧ Own H.n H' v' xs := by
  by_cases h0 : xs.length = 0
  · obtain rfl : xs = [] := List.length_eq_zero_iff.mp h0
    refine ⟨.slice none 0 0, H, ?_, .refl H, .nil⟩
    generalize hn : ([] : List Nat) = ys at h
    cases h with
    | nil => simp [appendV, ht.2, ht2.2]
    | emp b => simp [appendV, ht.2, ht2.2]
    | mk b o cap xs h1 h2 => subst hn; simp [appendV, ht.2, ht2.2]
  · refine ⟨.slice (some ⟨H.n, 0, none⟩) xs.length xs.length, H.new 1 (xs.map limb), ?_, .new _ _ _, .new H xs⟩
    have hc := h.cells (by omega)
    obtain ⟨a, cap, rfl⟩ : ∃ a cap, v = .slice a xs.length cap := by cases h <;> exact ⟨_, _, rfl⟩
    have e1 : Nat.beq xs.length 0 = false := beq_false' h0
    have e2 : Nat.ble (xs.length * 8) 140737488355328 = true := Nat.ble_eq.mpr (by omega)
    have e3 : Nat.ble xs.length 281474976710656 = true := Nat.ble_eq.mpr (by omega)
    simp [appendV, ht.2, ht2.2, e1, e2, e3, hc, zU64, Value.cells]

attribute [local simp] strip stripL LW' gW evOp oMove oAssign oPick oBinOp oUnOp oConvert oExtract oIndexAddr oIndex oLoad oStore oSlice oMakeSlice oCall opd opds optOpd plain plain1 Tr.get_set tmOf builtinV binV isShift sameKind intBin undef resultV resOne packV ltNat ltNum ltLst calleeV

theorem norm_spec {v : Value} {xs : List Nat} {H : AH} (hs : Sl H v xs) (hlen : xs.length ≤ 17592186044416) :
    CW Tryd.prog cfgR 48 [v] H fun v' H' => Keep H H' ∧ Own H.n H' v' (trimL xs) := by
  refine CW_intro 6 (by decide) (by decide) Tryd.func48 rfl rfl ?_
  obtain ⟨v1, H1, hc1, e1, hs1⟩ := trim_spec hs (by omega)
  subst e1
  obtain ⟨v2, H2, ha, hk, ho⟩ := hs1.copyNew (by have := trimL_len xs; omega) ltNat ltNat
  apply W_seq; intro b1 hb1
  apply W_region
  simp
  show W _ _ b1 _ _; subst hb1
  apply W_seq; intro b1 hb1
  apply W_region
  simp [hc1, ha]
  show W _ _ b1 _ _; subst hb1
  apply W_ret
  simp
  exact ⟨hk, ho⟩
end
end Go.Proofs.YthlgggcpokfmaaaDoor

/-
  THE ENGINE, part R: more rules for open code: regions of loads that draw their order; a halt between two parts.
-/
namespace Go.Proofs.YthlgggcpokfmaaaDoor.Ev
open Go Go.RowKit
set_option linter.unusedVariables false
set_option linter.unusedSimpArgs false
noncomputable section

def loadOnly (ops : Array Oper) : Bool :=
  ops.toList.all fun o => match o.op with
    | .load .. => true
    | op => !heapOp op

theorem noClash_loads {bits b : Nat} : ∀ {l : List (Nat × Nat × Bool)}, (∀ x ∈ l, x.2.2 = false) → noClash bits b false l = true
  | [], _ => rfl
  | (k, b', w') :: r, h => by
    have h1 : w' = false := h (k, b', w') (List.mem_cons_self ..)
    subst h1
    simp only [noClash, Bool.or_self, Bool.not_false, Bool.or_true, Bool.true_or, Bool.true_and]
    exact noClash_loads fun x hx => h x (List.mem_cons_of_mem _ hx)

section
variable {P : Program} {C : Cfg} {call : FuncId → List Value → AH → Option (Value × AH)} {ops : Array Oper}

theorem evMem_loads : ∀ (l : List Oper) (i : Nat) (fs : List (Nat × Nat × Bool)) (s s' : St), (∀ x ∈ fs, x.2.2 = false) →
    (∀ o ∈ l, (match o.op with | .load .. => true | op => !heapOp op) = true) → evList P C call ops l s = some s' → evMem P C call ops i fs l s = some s'
  | [], i, fs, s, s', hf, hl, h => by rw [evList_nil] at h; simp only [evMem]; exact h
  | o :: rest, i, fs, s, s', hf, hl, h => by
    have ho := hl o (List.mem_cons_self ..)
    have hl' := fun o' h' => hl o' (List.mem_cons_of_mem _ h')
    rw [evList_cons] at h
    simp only [evMem]
    split at h <;> first | (cases h; done) | skip
    · split at h <;> first | (cases h; done) | skip
      rename_i v H1 hop
      split at h <;> first | (cases h; done) | skip
      rename_i s1 hput
      cases hh : heapOp o.op with
      | false =>
        have hm : memFoot C s.tm o.op = some none := by
          unfold memFoot
          split
          · rename_i e; rw [e] at hh; cases hh
          · rename_i e; rw [e] at hh; cases hh
          · rw [hh]; rfl
        have hH : evOp P C call s.tm s.H o.op = some (v, s.H) := evOp_pure hh hop s.H
        rw [hH] at hop
        cases hop
        simp only [hm, hH, hput]
        exact evMem_loads rest _ _ s1 s' hf hl' h
      | true =>
        split at ho
        · rename_i t x e
          rw [e] at hop
          simp only [evOp, oLoad] at hop
          split at hop <;> first | (cases hop; done) | skip
          rename_i a ha
          split at hop <;> first | (cases hop; done) | skip
          rename_i v' hv
          cases hop
          obtain ⟨b, off, rfl⟩ : ∃ b off, a = .pointer (some ⟨b, off, none⟩) := by
            unfold loadV at hv
            split at hv
            · exact ⟨_, _, rfl⟩
            · cases hv
          have hm : memFoot C s.tm o.op = some (some (b, false)) := by rw [e]; simp only [memFoot, ha]
          have hop' : evOp P C call s.tm s.H o.op = some (v, s.H) := by rw [e]; simp only [evOp, oLoad, ha, hv]
          simp only [hm, noClash_loads hf, cond_true, hop', hput]
          exact evMem_loads rest _ _ s1 s' (fun x hx => by
            rcases List.mem_cons.mp hx with e | e
            · rw [e]
            · exact hf x e) hl' h
        · rw [hh] at ho; cases ho
    · split at h <;> first | (cases h; done) | skip
      rename_i s1 hput
      try simp only [hput]
      exact evMem_loads rest _ _ s1 s' hf hl' h
end

section
variable {P : Program} {C : Cfg} {Q : Ex → St → Prop}

theorem loadOnly_mem {ops : Array Oper} (h : loadOnly ops = true) : memOnly ops = true := by
  unfold loadOnly at h
  unfold memOnly
  rw [List.all_eq_true] at h ⊢
  intro o ho
  have := h o ho
  revert this
  cases o.op <;> simp

theorem W_loads {i : Nat} {ops : Array Oper} {s : St} (hd : (loadOnly ops && regOk ops) = true) (h : LW' P C s.k (strip ops) s.tm s.H fun tm' H' => Q .norm ⟨s.k, tm', H'⟩) : W P C (.region i ops true) s Q := by
  rw [Bool.and_eq_true] at hd
  obtain ⟨k, tm, H⟩ := s
  obtain ⟨tm', H', h1, h2⟩ := LW_list (ops := ops) ops.toList tm H _ h
  refine ⟨.norm, ⟨k, tm', H'⟩, ?_, h2⟩
  rw [evI_eq]
  simp only [evStep]
  have : evRegion P C (evCall P C (evI P C)) ops true ⟨k, tm, H⟩ = some ⟨k, tm', H'⟩ := by
    unfold evRegion
    rw [loadOnly_mem hd.1, hd.2]
    simp only [Bool.and_self, cond_true]
    refine evMem_loads _ _ _ _ _ (fun x hx => by cases hx) (fun o ho => ?_) h1
    have := hd.1
    unfold loadOnly at this
    rw [List.all_eq_true] at this
    exact this o ho
  rw [this]

def isStore : Op → Bool
  | .store .. => true
  | _ => false

/-- Loads and stores alone; each store is ordered against all of them. -/
def memSafe (ops : Array Oper) : Bool :=
  memOnly ops && regOk ops && (List.range ops.size).all fun i => match ops[i]? with
    | some o => !isStore o.op || alone ops i
    | none => true

theorem noClash_all {bits b : Nat} {w : Bool} : ∀ {l : List (Nat × Nat × Bool)}, (∀ x ∈ l, (w || x.2.2) = true → bits.testBit x.1 = true) → noClash bits b w l = true
  | [], _ => rfl
  | (k, b', w') :: r, h => by
    have h1 := h (k, b', w') (List.mem_cons_self ..)
    simp only [noClash, Bool.and_eq_true, Bool.or_eq_true, Bool.not_eq_true']
    refine ⟨?_, noClash_all fun x hx => h x (List.mem_cons_of_mem _ hx)⟩
    cases hw : (w || w') with
    | false => exact .inl (.inr rfl)
    | true => exact .inr (h1 hw)

theorem evMem_safe {call : FuncId → List Value → AH → Option (Value × AH)} {ops : Array Oper} (hm : memSafe ops = true) : ∀ (l : List Oper) (i : Nat) (fs : List (Nat × Nat × Bool)) (s s' : St), (∀ j, l[j]? = ops[i + j]?) →
    (∀ x ∈ fs, x.1 < i ∧ ∃ o, ops[x.1]? = some o ∧ heapOp o.op = true ∧ x.2.2 = isStore o.op) → evList P C call ops l s = some s' → evMem P C call ops i fs l s = some s'
  | [], i, fs, s, s', hl, hf, h => by rw [evList_nil] at h; simp only [evMem]; exact h
  | o :: rest, i, fs, s, s', hl, hf, h => by
    have h0 : ops[i]? = some o := by simpa using (hl 0).symm
    have hl' : ∀ j, rest[j]? = ops[i + 1 + j]? := fun j => by have := hl (j + 1); simpa [Nat.add_assoc, Nat.add_comm 1 j] using this
    have hf' : ∀ x ∈ fs, x.1 < i + 1 ∧ ∃ o, ops[x.1]? = some o ∧ heapOp o.op = true ∧ x.2.2 = isStore o.op := fun x hx => ⟨Nat.lt_succ_of_lt (hf x hx).1, (hf x hx).2⟩
    unfold memSafe at hm
    rw [Bool.and_eq_true, Bool.and_eq_true] at hm
    have hsafe : ∀ k ok, ops[k]? = some ok → isStore ok.op = true → alone ops k = true := fun k ok hk hs => by
      have := hm.2
      rw [List.all_eq_true] at this
      have := this k (by simpa using lt_of_some hk)
      rw [hk] at this
      simpa [hs] using this
    have ho : (match o.op with | .load .. => true | .store .. => true | op => !heapOp op) = true := by
      have := hm.1.1
      unfold memOnly at this
      rw [List.all_eq_true] at this
      exact this o (by rw [← Array.getElem?_toList] at h0; exact List.mem_of_getElem? h0)
    have clear : ∀ b, heapOp o.op = true → noClash ((before ops).getD i 0) b (isStore o.op) fs = true := fun b hh => noClash_all fun x hx hw => by
      obtain ⟨h1, ok, h2, h3, h4⟩ := hf x hx
      rw [h4] at hw
      cases hs : isStore o.op with
      | true => exact (alone_spec (hsafe i o h0 hs) h2 (by omega) h3).1 h1
      | false =>
        rw [hs, Bool.false_or] at hw
        exact (alone_spec (hsafe x.1 ok h2 hw) h0 (by omega) hh).2 h1
    have hm' : memSafe ops = true := by unfold memSafe; rw [Bool.and_eq_true, Bool.and_eq_true]; exact hm
    rw [evList_cons] at h
    simp only [evMem]
    split at h <;> first | (cases h; done) | skip
    · split at h <;> first | (cases h; done) | skip
      rename_i v H1 hop
      split at h <;> first | (cases h; done) | skip
      rename_i s1 hput
      cases hh : heapOp o.op with
      | false =>
        have hmf : memFoot C s.tm o.op = some none := by
          unfold memFoot
          split
          · rename_i e; rw [e] at hh; cases hh
          · rename_i e; rw [e] at hh; cases hh
          · rw [hh]; rfl
        have hH : evOp P C call s.tm s.H o.op = some (v, s.H) := evOp_pure hh hop s.H
        rw [hH] at hop
        cases hop
        simp only [hmf, hH, hput]
        exact evMem_safe hm' rest _ _ s1 s' hl' hf' h
      | true =>
        split at ho
        · rename_i t x e
          have hop0 := hop
          rw [e] at hop
          simp only [evOp, oLoad] at hop
          split at hop <;> first | (cases hop; done) | skip
          rename_i a ha
          split at hop <;> first | (cases hop; done) | skip
          rename_i v' hv
          obtain ⟨b, off, rfl⟩ : ∃ b off, a = .pointer (some ⟨b, off, none⟩) := by
            unfold loadV at hv
            split at hv
            · exact ⟨_, _, rfl⟩
            · cases hv
          have hmf : memFoot C s.tm o.op = some (some (b, false)) := by rw [e]; simp only [memFoot, ha]
          have hc := clear b hh
          rw [show isStore o.op = false by rw [e]; rfl] at hc
          simp only [hmf, hc, cond_true, hop0, hput]
          exact evMem_safe hm' rest _ _ s1 s' hl' (fun x hx => by
            rcases List.mem_cons.mp hx with e1 | e1
            · rw [e1]; exact ⟨Nat.lt_succ_self _, o, h0, hh, by rw [e]; rfl⟩
            · exact hf' x e1) h
        · rename_i t x y e
          have hop0 := hop
          rw [e] at hop
          simp only [evOp, oStore] at hop
          split at hop <;> first | (cases hop; done) | skip
          rename_i a a' ha ha'
          split at hop <;> first | (cases hop; done) | skip
          rename_i H' hv
          obtain ⟨b, off, rfl⟩ : ∃ b off, a = .pointer (some ⟨b, off, none⟩) := by
            unfold storeV at hv
            split at hv
            · exact ⟨_, _, rfl⟩
            · cases hv
          have hmf : memFoot C s.tm o.op = some (some (b, true)) := by rw [e]; simp only [memFoot, ha]
          have hc := clear b hh
          rw [show isStore o.op = true by rw [e]; rfl] at hc
          simp only [hmf, hc, cond_true, hop0, hput]
          exact evMem_safe hm' rest _ _ s1 s' hl' (fun x hx => by
            rcases List.mem_cons.mp hx with e1 | e1
            · rw [e1]; exact ⟨Nat.lt_succ_self _, o, h0, hh, by rw [e]; rfl⟩
            · exact hf' x e1) h
        · rw [hh] at ho; cases ho
    · split at h <;> first | (cases h; done) | skip
      rename_i s1 hput
      try simp only [hput]
      exact evMem_safe hm' rest _ _ s1 s' hl' hf' h

/-- A region of loads and stores that draws its order. -/
theorem W_mem {i : Nat} {ops : Array Oper} {s : St} (hd : memSafe ops = true) (h : LW' P C s.k (strip ops) s.tm s.H fun tm' H' => Q .norm ⟨s.k, tm', H'⟩) : W P C (.region i ops true) s Q := by
  obtain ⟨k, tm, H⟩ := s
  obtain ⟨tm', H', h1, h2⟩ := LW_list (ops := ops) ops.toList tm H _ h
  refine ⟨.norm, ⟨k, tm', H'⟩, ?_, h2⟩
  rw [evI_eq]
  simp only [evStep]
  have : evRegion P C (evCall P C (evI P C)) ops true ⟨k, tm, H⟩ = some ⟨k, tm', H'⟩ := by
    have hd' := hd
    unfold memSafe at hd'
    rw [Bool.and_eq_true, Bool.and_eq_true] at hd'
    unfold evRegion
    rw [hd'.1.1, hd'.1.2]
    simp only [Bool.and_self, cond_true]
    exact evMem_safe hd _ _ _ _ _ (fun j => by simp) (fun x hx => by cases hx) h1
  rw [this]

/-! ### regions that draw their order, with calls and new blocks -/
/-- What an operation may see: not what operations have made that aren't ordered ahead of it. -/
def vis (H : AH) (bits : Nat) (ms : List (Nat × Nat × Nat)) : AH := { n := H.n, lw := H.n, t := hideT H.t (hidden bits ms) }

/-- The heap behind an operation that only made new blocks. -/
def grown (H H2 : AH) : AH := { n := H2.n, lw := H.lw, t := addT H.t H2 H.n (H2.n - H.n) }

def grdOf (ops : Array Oper) (o : Oper) : Option (Option Tmp × Bool) := match o.guard with | none => none | some (j, b) => some ((ops[j]?).bind (·.dst), b)

theorem wantedV_eq {ops : Array Oper} {tm : Tr Value} {o : Oper} : wantedV ops tm o = gW tm (grdOf ops o) := gW_eq

/-- What is still to be shown of a region from its i-th operation on. -/
def DG (P : Program) (C : Cfg) (ops : Array Oper) (k i : Nat) (q : Bool) (ms : List (Nat × Nat × Nat)) (l : List Oper) (tm : Tr Value) (H : AH) (K : Tr Value → AH → Prop) : Prop :=
  ∃ tm' H', evDraw P C (callI P C) ops i q ms l ⟨k, tm, H⟩ = some ⟨k, tm', H'⟩ ∧ K tm' H'

def dput (k : Nat) (tm : Tr Value) (dst : Option Tmp) (v : Value) (K : Tr Value → Prop) : Prop :=
  match dst with
  | none => K tm
  | some d => d < k ∧ K (tm.set d v)

/-- Operations that look at no memory, one behind the other; it stops ahead of one that does. -/
def DW (P : Program) (C : Cfg) (ops : Array Oper) (k : Nat) : Nat → Bool → List (Nat × Nat × Nat) → List Oper → Tr Value → AH → (Tr Value → AH → Prop) → Prop
  | _, _, _, [], tm, H, K => K tm H
  | i, q, ms, o :: r, tm, H, K => match gW tm (grdOf ops o) with
    | some true => match heapOp o.op with
      | true => DG P C ops k i q ms (o :: r) tm H K
      | false => match evOp P C (callI P C) tm H o.op with
        | some (v, _) => match o.dst with
          | none => DW P C ops k (i + 1) q ms r tm H K
          | some d => d < k ∧ DW P C ops k (i + 1) q ms r (tm.set d v) H K
        | none => False
    | some false => match o.dst with
      | none => DW P C ops k (i + 1) q ms r tm H K
      | some d => d < k ∧ DW P C ops k (i + 1) q ms r (tm.set d undef) H K
    | none => False

variable {ops : Array Oper} {k i : Nat} {q : Bool} {ms : List (Nat × Nat × Nat)} {tm : Tr Value} {H : AH} {K : Tr Value → AH → Prop}

theorem put_dst {o : Oper} {v : Value} {H1 : AH} {K1 : Tr Value → Prop} (h : match o.dst with | none => K1 tm | some d => d < k ∧ K1 (tm.set d v)) : ∃ tm1, (St.put ⟨k, tm, H⟩ o.dst v H1) = some ⟨k, tm1, H1⟩ ∧ K1 tm1 := by
  cases hd : o.dst with
  | none => rw [hd] at h; exact ⟨tm, rfl, h⟩
  | some d =>
    rw [hd] at h
    have : Nat.blt d k = true := by rw [Nat.blt_eq]; exact h.1
    exact ⟨tm.set d v, by simp only [St.put, putSt, this, cond_true], h.2⟩

theorem blt_self (n : Nat) : Nat.blt n n = false := by
  cases hb : Nat.blt n n with
  | false => rfl
  | true => rw [Nat.blt_eq] at hb; omega

theorem DG_of : ∀ (l : List Oper) (i : Nat) (q : Bool) (ms : List (Nat × Nat × Nat)) (tm : Tr Value) (H : AH), DW P C ops k i q ms l tm H K → DG P C ops k i q ms l tm H K
  | [], i, q, ms, tm, H, h => ⟨tm, H, by simp only [evDraw], h⟩
  | o :: r, i, q, ms, tm, H, h => by
    simp only [DW] at h
    split at h
    · rename_i hg
      split at h
      · exact h
      · rename_i hh
        split at h
        · rename_i v H2 hop
          obtain ⟨tm1, hput, hl⟩ := put_dst (H := H) (H1 := H) (K1 := fun tm => DW P C ops k (i + 1) q ms r tm H K) h
          obtain ⟨tm', H', h1, h2⟩ := DG_of r (i + 1) q ms tm1 H hl
          refine ⟨tm', H', ?_, h2⟩
          simp only [evDraw]
          rw [wantedV_eq, hg]
          simp only [evDrawOp, hh, cond_false, hop, hput, blt_self]
          exact h1
        · exact h.elim
    · rename_i hg
      obtain ⟨tm1, hput, hl⟩ := put_dst (H := H) (H1 := H) (K1 := fun tm => DW P C ops k (i + 1) q ms r tm H K) h
      obtain ⟨tm', H', h1, h2⟩ := DG_of r (i + 1) q ms tm1 H hl
      refine ⟨tm', H', ?_, h2⟩
      simp only [evDraw]
      rw [wantedV_eq, hg]
      simp only [hput]
      exact h1
    · exact h.elim

theorem W_draw {id : Nat} {s : St} (hd : (!memOnly ops && regOk ops) = true) (h : DW P C ops s.k 0 false [] ops.toList s.tm s.H fun tm' H' => Q .norm ⟨s.k, tm', H'⟩) : W P C (.region id ops true) s Q := by
  obtain ⟨k, tm, H⟩ := s
  obtain ⟨tm', H', h1, h2⟩ := DG_of _ _ _ _ _ _ h
  refine ⟨.norm, ⟨k, tm', H'⟩, ?_, h2⟩
  rw [evI_eq]
  simp only [evStep]
  rw [Bool.and_eq_true] at hd
  have hm : memOnly ops = false := by simpa using hd.1
  have : evRegion P C (evCall P C (evI P C)) ops true ⟨k, tm, H⟩ = some ⟨k, tm', H'⟩ := by
    unfold evRegion evRegionD
    rw [hm, hd.2]
    simp only [Bool.and_false, cond_false, cond_true]
    exact h1
  rw [this]

/-- A heap operation that changes nothing: a load, a slice, a call of what only reckons. -/
theorem DG_read {o : Oper} {r : List Oper} {v : Value} (hg : gW tm (grdOf ops o) = some true) (hh : heapOp o.op = true) (hq : q = false)
    (he : evOp P C (callI P C) tm (vis H ((before ops).getD i 0) ms) o.op = some (v, vis H ((before ops).getD i 0) ms))
    (h : match o.dst with | none => DW P C ops k (i + 1) q ms r tm H K | some d => d < k ∧ DW P C ops k (i + 1) q ms r (tm.set d v) H K) : DG P C ops k i q ms (o :: r) tm H K := by
  obtain ⟨tm1, hput, hl⟩ := put_dst (H := H) (H1 := H) (K1 := fun tm => DW P C ops k (i + 1) q ms r tm H K) h
  obtain ⟨tm', H', h1, h2⟩ := DG_of r (i + 1) q ms tm1 H hl
  refine ⟨tm', H', ?_, h2⟩
  subst hq
  have hop : evDrawOp P C (callI P C) ops i false ms ⟨k, tm, H⟩ o = some (v, H, false) := by
    unfold evDrawOp
    rw [hh, cond_true]
    simp only
    have he' : evOp P C (callI P C) tm { n := H.n, lw := H.n, t := hideT H.t (hidden ((before ops).getD i 0) ms) } o.op = some (v, { n := H.n, lw := H.n, t := hideT H.t (hidden ((before ops).getD i 0) ms) }) := he
    rw [he']
    have : Nat.ble H.n H.n = true := Nat.ble_eq.mpr (Nat.le_refl _)
    simp only [this, cond_true, Bool.not_false, Bool.and_self, Nat.sub_self, addT]
  simp only [evDraw]
  rw [wantedV_eq, hg]
  simp only [hop, hput, blt_self, cond_false]
  exact h1

/-- A heap operation that makes new blocks. -/
theorem DG_grow {o : Oper} {r : List Oper} {v : Value} {H2 : AH} (hg : gW tm (grdOf ops o) = some true) (hh : heapOp o.op = true) (hq : q = false)
    (he : evOp P C (callI P C) tm (vis H ((before ops).getD i 0) ms) o.op = some (v, H2)) (hn : H.n ≤ H2.n) (hlw : H.n ≤ H2.lw)
    (h : match o.dst with
      | none => DW P C ops k (i + 1) q (cond (Nat.blt H.n H2.n) ((i, H.n, H2.n) :: ms) ms) r tm (grown H H2) K
      | some d => d < k ∧ DW P C ops k (i + 1) q (cond (Nat.blt H.n H2.n) ((i, H.n, H2.n) :: ms) ms) r (tm.set d v) (grown H H2) K) : DG P C ops k i q ms (o :: r) tm H K := by
  obtain ⟨tm1, hput, hl⟩ := put_dst (H := H) (H1 := grown H H2) (K1 := fun tm => DW P C ops k (i + 1) q (cond (Nat.blt H.n H2.n) ((i, H.n, H2.n) :: ms) ms) r tm (grown H H2) K) h
  obtain ⟨tm', H', h1, h2⟩ := DG_of r (i + 1) q _ tm1 _ hl
  refine ⟨tm', H', ?_, h2⟩
  subst hq
  have hop : evDrawOp P C (callI P C) ops i false ms ⟨k, tm, H⟩ o = some (v, grown H H2, false) := by
    unfold evDrawOp
    rw [hh, cond_true]
    simp only
    have he' : evOp P C (callI P C) tm { n := H.n, lw := H.n, t := hideT H.t (hidden ((before ops).getD i 0) ms) } o.op = some (v, H2) := he
    rw [he']
    have e1 : Nat.ble H.n H2.n = true := Nat.ble_eq.mpr hn
    have e2 : Nat.ble H.n H2.lw = true := Nat.ble_eq.mpr hlw
    simp only [e1, e2, cond_true, Bool.not_false, Bool.and_self]
    rfl
  simp only [evDraw]
  rw [wantedV_eq, hg]
  simp only [hop, hput]
  exact h1

/-- A heap operation that writes; it is ordered against all others. -/
theorem DG_write {o : Oper} {r : List Oper} {v : Value} {H2 : AH} (hg : gW tm (grdOf ops o) = some true) (hh : heapOp o.op = true)
    (ha : alone ops i = true) (hhid : hidden ((before ops).getD i 0) ms = [])
    (he : evOp P C (callI P C) tm { n := H.n, lw := H.n, t := H.t } o.op = some (v, H2)) (hn : H.n ≤ H2.n) (hlw : H2.lw < H.n)
    (h : match o.dst with
      | none => DW P C ops k (i + 1) true (cond (Nat.blt H.n H2.n) ((i, H.n, H2.n) :: ms) ms) r tm { n := H2.n, lw := min H.lw H2.lw, t := H2.t } K
      | some d => d < k ∧ DW P C ops k (i + 1) true (cond (Nat.blt H.n H2.n) ((i, H.n, H2.n) :: ms) ms) r (tm.set d v) { n := H2.n, lw := min H.lw H2.lw, t := H2.t } K) : DG P C ops k i q ms (o :: r) tm H K := by
  obtain ⟨tm1, hput, hl⟩ := put_dst (H := H) (H1 := { n := H2.n, lw := min H.lw H2.lw, t := H2.t }) (K1 := fun tm => DW P C ops k (i + 1) true (cond (Nat.blt H.n H2.n) ((i, H.n, H2.n) :: ms) ms) r tm { n := H2.n, lw := min H.lw H2.lw, t := H2.t } K) h
  obtain ⟨tm', H', h1, h2⟩ := DG_of r (i + 1) true _ tm1 _ hl
  refine ⟨tm', H', ?_, h2⟩
  have hop : evDrawOp P C (callI P C) ops i q ms ⟨k, tm, H⟩ o = some (v, { n := H2.n, lw := min H.lw H2.lw, t := H2.t }, true) := by
    unfold evDrawOp
    rw [hh, cond_true]
    simp only [hhid, hideT]
    rw [he]
    have e1 : Nat.ble H.n H2.n = true := Nat.ble_eq.mpr hn
    have e2 : Nat.ble H.n H2.lw = false := by
      cases hb : Nat.ble H.n H2.lw with
      | false => rfl
      | true => have := Nat.le_of_ble_eq_true hb; omega
    simp only [e1, e2, cond_true, Bool.and_false, cond_false, ha, List.isEmpty_nil, Bool.and_self]
  simp only [evDraw]
  rw [wantedV_eq, hg]
  simp only [hop, hput]
  exact h1

theorem vis_nil (H : AH) (bits : Nat) : vis H bits [] = { n := H.n, lw := H.n, t := H.t } := rfl
theorem vis_blk0 (H : AH) (bits j : Nat) : (vis H bits []).blk j = H.blk j := rfl

/-- A loop; what is to hold behind a round is hidden behind a name. -/
theorem W_loopK {b : Code} (I : Nat → St → Prop) (h : ∀ n s, I n s → ∀ Q' : Ex → St → Prop, (∀ e s', loopQ I n Q e s' → Q' e s') → W P C b s Q') (n : Nat) (s : St) (hI : I n s) : W P C (.loop b) s Q :=
  W_loop I (fun n s hI => h n s hI _ (fun _ _ h => h)) n s hI

/-- A halt between two parts. -/
theorem W_then (R : St → Prop) {a b : Code} {s : St} (h1 : W P C a s fun e s' => e = .norm ∧ R s') (h2 : ∀ s', R s' → W P C b s' Q) : W P C (.seq a b) s Q := by
  refine W_seq fun b' hb => h1.mono ?_
  rintro e s' ⟨rfl, hr⟩
  subst hb
  exact h2 s' hr
end

end

end Go.Proofs.YthlgggcpokfmaaaDoor.Ev

/-
  nat.Compare; bits.Len64, LeadingZeros64; nat.Length, nat.From.
-/
namespace Go.Proofs.YthlgggcpokfmaaaDoor
open Go Ev
set_option linter.unusedVariables false
set_option linter.unusedSimpArgs false
noncomputable section
set_option maxRecDepth 20000

/-- A limb's base. -/
abbrev B64 : Nat := 18446744073709551616
theorem two64 : 2 ≤ B64 := by decide

def cmpN (a b : Nat) : Int := if a < b then -1 else if b < a then 1 else 0

theorem dv_len_lt {xs ys : List Nat} (hx : trimL xs = xs) (hy : trimL ys = ys) (dx : Dig B64 xs) (dy : Dig B64 ys) (h : xs.length < ys.length) : dv B64 xs < dv B64 ys := by
  have h1 := dv_lt dx
  have e : ys = ds B64 (dv B64 ys) := by rw [← trimL_ds two64 dy, hy]
  have hne : dv B64 ys ≠ 0 := by
    intro h0
    rw [h0, ds_zero] at e
    rw [e] at h
    simp at h
  have h2 := ds_ge two64 hne
  rw [← e] at h2
  have h3 : B64 ^ xs.length ≤ B64 ^ (ys.length - 1) := Nat.pow_le_pow_right (by decide) (by omega)
  omega

attribute [local simp] strip stripL LW' gW evOp oMove oAssign oPick oBinOp oUnOp oConvert oExtract oIndexAddr oIndex oLoad oStore oSlice oMakeSlice oCall opd opds optOpd plain plain1 Tr.get_set tmOf builtinV binV isShift sameKind intBin undef resultV resOne packV ltNat ltNum ltLst calleeV

set_option maxRecDepth 10000 in
theorem compare_spec {va vb : Value} {xs ys : List Nat} {H : AH} (ha : Sl H va xs) (hb : Sl H vb ys) (dx : Dig B64 xs) (dy : Dig B64 ys) (lx : xs.length ≤ 17592186044416) (ly : ys.length ≤ 17592186044416) :
    CW Tryd.prog cfgR 54 [va, vb] H fun v H' => H' = H ∧ v = .int .i64 (cmpN (dv B64 xs) (dv B64 ys)) := by
  refine CW_intro 45 (by decide) (by decide) Tryd.func54 rfl rfl ?_
  obtain ⟨v1, H1, hc1, e1, s1⟩ := trim_spec ha (by omega)
  obtain ⟨v2, H2, hc2, e2, s2⟩ := trim_spec hb (by omega)
  subst e1; subst e2
  rw [← dv_trimL B64 xs, ← dv_trimL B64 ys]
  have tx := trimL_idem xs
  have ty := trimL_idem ys
  have dx := trimL_dig dx
  have dy := trimL_dig dy
  have lx : (trimL xs).length ≤ 17592186044416 := Nat.le_trans (trimL_len xs) lx
  have ly : (trimL ys).length ≤ 17592186044416 := Nat.le_trans (trimL_len ys) ly
  generalize trimL xs = xs at *
  generalize trimL ys = ys at *
  have l1 := s1.len ltNat
  have l2 := s2.len ltNat
  apply W_seq; intro b1 hb1
  apply W_region
  simp
  show W _ _ b1 _ _; subst hb1
  apply W_seq; intro b1 hb1
  apply W_region
  simp [hc1, hc2]
  show W _ _ b1 _ _; subst hb1
  apply W_seq; intro b1 hb1
  apply W_seq; intro b2 hb2
  apply W_region
  simp [l1, l2]
  show W _ _ b2 _ _; subst hb2
  by_cases hl : xs.length = ys.length
  · refine W_cond (t := false) (by simp [hl]) ?_
    apply W_skip
    show W _ _ b1 _ _; subst hb1
    apply W_seq; intro b1 hb1
    apply W_seq; intro b2 hb2
    have hw0 : IntKind.i64.wrap ((xs.length : Int) - 1) = (xs.length : Int) - 1 := by rw [IntKind.wrap_i64]; omega
    apply W_region
    simp [l1, hw0]
    show W _ _ b2 _ _; subst hb2
    apply W_block
    refine W_loop (fun n s => s.k = 45 ∧ s.H = H2 ∧ s.tm.get 0 = some v1 ∧ s.tm.get 1 = some v2 ∧ s.tm.get 5 = some (.int .i64 ((n : Int) - 1)) ∧ n ≤ xs.length ∧ xs.drop n = ys.drop n) ?_ xs.length _ ⟨rfl, rfl, by simp, by simp, by simp, Nat.le_refl _, by rw [List.drop_length, hl, List.drop_length]⟩
    rintro n ⟨k, tm, H'⟩ ⟨h2, h3, h4, h5, h6, h7, h8⟩
    simp only at h2 h3 h4 h5 h6
    subst h2; subst h3
    apply W_seq; intro b2 hb2
    apply W_seq; intro b3 hb3
    apply W_region
    simp [h4, h5, h6]
    show W _ _ b3 _ _; subst hb3
    have e44 : xs.drop n = ys.drop n := h8
    by_cases hz : n = 0
    · subst hz
      refine W_cond (t := false) (by simp) ?_
      apply W_exit
      left
      refine ⟨rfl, ?_⟩
      show W _ _ b1 _ _; subst hb1
      apply W_seq; intro b4 hb4
      apply W_region
      simp
      show W _ _ b4 _ _; subst hb4
      apply W_ret
      have : xs = ys := by simpa using h8
      simp [cmpN, this]
    · have e : (n : Int) - 1 = ((n - 1 : Nat) : Int) := by omega
      refine W_cond (t := true) (by simp; omega) ?_
      apply W_skip
      show W _ _ b2 _ _; subst hb2
      have i1 : n - 1 < xs.length := by omega
      have i2 : n - 1 < ys.length := by omega
      have a1 := s1.adr ltNat (k := .i64) i1
      have a2 := s2.adr ltNat (k := .i64) i2
      have d1 := s1.load i1
      have d2 := s2.load i2
      rw [e] at h6
      have sx : xs = xs.take (n - 1) ++ xs[n - 1] :: xs.drop n := by
        have := List.take_append_drop (n - 1) xs
        rw [List.drop_eq_getElem_cons i1, show n - 1 + 1 = n by omega] at this
        exact this.symm
      have sy : ys = ys.take (n - 1) ++ ys[n - 1] :: ys.drop n := by
        have := List.take_append_drop (n - 1) ys
        rw [List.drop_eq_getElem_cons i2, show n - 1 + 1 = n by omega] at this
        exact this.symm
      have ltk : (xs.take (n - 1)).length = (ys.take (n - 1)).length := by simp [List.length_take, hl]
      apply W_seq; intro b4 hb4
      apply W_block
      apply W_seq; intro b5 hb5
      apply W_seq; intro b6 hb6
      apply W_loads (by kernel_rfl)
      simp [h4, h5, h6, a1, a2, d1, d2]
      show W _ _ b6 _ _; subst hb6
      by_cases hlt : xs[n - 1] < ys[n - 1]
      · refine W_cond (t := true) (by simp; omega) ?_
        apply W_seq; intro b7 hb7
        apply W_region
        simp
        show W _ _ b7 _ _; subst hb7
        apply W_ret
        have hd : dv B64 xs < dv B64 ys := by
          rw [sx, sy, h8]
          exact dv_cmp (dx.take _) (dy.take _) ltk hlt _
        simp [seqQ, blockQ, loopQ, cmpN, hd]
      · refine W_cond (t := false) (by simp; omega) ?_
        apply W_skip
        show W _ _ b5 _ _; subst hb5
        apply W_seq; intro b6 hb6
        apply W_loads (by kernel_rfl)
        simp [h4, h5, h6, a1, a2, d1, d2]
        show W _ _ b6 _ _; subst hb6
        by_cases hgt : ys[n - 1] < xs[n - 1]
        · refine W_cond (t := true) (by simp; omega) ?_
          apply W_seq; intro b7 hb7
          apply W_region
          simp
          show W _ _ b7 _ _; subst hb7
          apply W_ret
          have hd : dv B64 ys < dv B64 xs := by
            rw [sx, sy, h8]
            exact dv_cmp (dy.take _) (dx.take _) ltk.symm hgt _
          have hd2 : ¬ dv B64 xs < dv B64 ys := by omega
          simp [seqQ, blockQ, loopQ, cmpN, hd, hd2]
        · refine W_cond (t := false) (by simp; omega) ?_
          apply W_skip
          show W _ _ b4 _ _; subst hb4
          have hw1 : IntKind.i64.wrap (((n - 1 : Nat) : Int) - 1) = ((n - 1 : Nat) : Int) - 1 := by rw [IntKind.wrap_i64]; omega
          apply W_region
          simp [h6, hw1]
          refine ⟨n - 1, by omega, rfl, rfl, ?_⟩
          simp [h4, h5]
          refine ⟨by omega, ?_⟩
          rw [List.drop_eq_getElem_cons i1, List.drop_eq_getElem_cons i2, show n - 1 + 1 = n by omega, h8]
          congr 1
          omega
  · refine W_cond (t := true) (by simp; omega) ?_
    apply W_seq; intro b2 hb2
    apply W_seq; intro b3 hb3
    apply W_region
    simp [l1, l2]
    show W _ _ b3 _ _; subst hb3
    by_cases hlt : xs.length < ys.length
    · refine W_cond (t := true) (by simp; omega) ?_
      apply W_seq; intro b3 hb3
      apply W_region
      simp
      show W _ _ b3 _ _; subst hb3
      apply W_ret
      have := dv_len_lt tx ty dx dy hlt
      simp [seqQ, cmpN, this]
    · refine W_cond (t := false) (by simp; omega) ?_
      apply W_skip
      show W _ _ b2 _ _; subst hb2
      apply W_seq; intro b2 hb2
      apply W_region
      simp
      show W _ _ b2 _ _; subst hb2
      apply W_ret
      have := dv_len_lt ty tx dy dx (by omega)
      have h2 : ¬ dv B64 xs < dv B64 ys := by omega
      simp [seqQ, cmpN, this, h2]
end
end Go.Proofs.YthlgggcpokfmaaaDoor

/-
  bits.Len64, LeadingZeros64; nat.Length, nat.From.
-/
namespace Go.Proofs.YthlgggcpokfmaaaDoor
open Go Ev
set_option linter.unusedVariables false
set_option linter.unusedSimpArgs false
noncomputable section
set_option maxRecDepth 20000

/-- How many bits. -/
def blen (n : Nat) : Nat := if n = 0 then 0 else Nat.log2 n + 1

theorem blen_lt (n : Nat) : n < 2 ^ blen n := by
  unfold blen
  split
  · omega
  · exact Nat.lt_log2_self

theorem blen_ge {n : Nat} (h : n ≠ 0) : 2 ^ (blen n - 1) ≤ n := by
  unfold blen
  rw [if_neg h]
  exact Nat.log2_self_le h

theorem blen_uniq {n k : Nat} (h1 : n < 2 ^ k) (h2 : k = 0 ∨ 2 ^ (k - 1) ≤ n) : blen n = k := by
  rcases h2 with h2 | h2
  · subst h2
    have : n = 0 := by simpa using h1
    subst this; rfl
  · have hn : n ≠ 0 := by
      have := Nat.two_pow_pos (k - 1); omega
    have a : 2 ^ (blen n - 1) < 2 ^ k := Nat.lt_of_le_of_lt (blen_ge hn) h1
    have b : 2 ^ (k - 1) < 2 ^ blen n := Nat.lt_of_le_of_lt h2 (blen_lt n)
    have a' := (Nat.pow_lt_pow_iff_right (by decide)).mp a
    have b' := (Nat.pow_lt_pow_iff_right (by decide)).mp b
    omega

theorem blen_shift {n k : Nat} (h : 2 ^ k ≤ n) : blen n = k + blen (n / 2 ^ k) := by
  have hk := Nat.two_pow_pos k
  have hq : n / 2 ^ k ≠ 0 := by
    have := Nat.div_pos h hk; omega
  apply blen_uniq
  · rw [Nat.pow_add, Nat.mul_comm]
    have := blen_lt (n / 2 ^ k)
    exact (Nat.div_lt_iff_lt_mul hk).mp this
  · right
    have h1 := blen_ge hq
    have h2 : blen (n / 2 ^ k) ≠ 0 := by unfold blen; rw [if_neg hq]; omega
    rw [show k + blen (n / 2 ^ k) - 1 = (blen (n / 2 ^ k) - 1) + k by omega, Nat.pow_add]
    exact (Nat.le_div_iff_mul_le hk).mp h1

theorem fdiv_nat (x k : Nat) : (x : Int).fdiv (2 ^ k) = ((x / 2 ^ k : Nat) : Int) := by
  rw [Int.fdiv_eq_ediv_of_nonneg _ (Int.le_of_lt (Int.pow_pos (by decide)))]
  rw [Int.natCast_ediv, Int.natCast_pow]; rfl
theorem bits_u64 : IntKind.u64.bits = 64 := rfl
theorem bits_i64 : IntKind.i64.bits = 64 := rfl

def tabOk (s : ByteArray) : Bool := (List.range 256).all fun n => match s[n]? with | some b => Nat.beq b.toNat (blen n) | none => false

theorem tab_spec {s : ByteArray} (h : tabOk s = true) {n : Nat} (hn : n < 256) : indexV Tryd.prog 9 (.string s) (.int .u8 (n : Int)) = some (.int .u8 (blen n : Int)) := by
  unfold tabOk at h
  rw [List.all_eq_true] at h
  have := h n (List.mem_range.mpr hn)
  split at this
  · rename_i b hb
    have e := Nat.eq_of_beq_eq_true this
    unfold indexV
    simp only [Tryd.underlying9]
    rw [if_pos (by omega)]
    simp only [Int.toNat_natCast, hb, e]
  · cases this

attribute [local simp] strip stripL LW' gW evOp oMove oAssign oPick oBinOp oUnOp oConvert oExtract oIndexAddr oIndex oLoad oStore oSlice oMakeSlice oCall opd opds optOpd plain plain1 Tr.get_set tmOf builtinV binV isShift sameKind intBin undef resultV resOne packV ltNat ltNum ltLst calleeV shiftBin

theorem len64_spec {x : Nat} {H : AH} (hx : x < B64) :
    CW Tryd.prog cfgR 28 [.int .u64 (x : Int)] H fun v H' => H' = H ∧ v = .int .i64 (blen x : Int) := by
  have hx : x < 18446744073709551616 := hx
  refine CW_intro 25 (by decide) (by decide) Tryd.func28 rfl rfl ?_
  apply W_seq; intro b1 hb1
  apply W_region
  simp
  show W _ _ b1 _ _; subst hb1
  refine W_then (fun s => s.k = 25 ∧ s.H = H ∧ ∃ y n : Nat, s.tm.get 0 = some (.int .u64 (y : Int)) ∧ s.tm.get 2 = some (.int .i64 (n : Int)) ∧ y < 4294967296 ∧ n ≤ 32 ∧ blen x = n + blen y) ?_ ?_
  · apply W_seq; intro b1 hb1
    apply W_region
    simp
    show W _ _ b1 _ _; subst hb1
    by_cases h : 4294967296 ≤ x
    · have f1 : (x : Int).fdiv 4294967296 = ((x / 4294967296 : Nat) : Int) := fdiv_nat x 32
      have f2 : blen x = 32 + blen (x / 4294967296) := blen_shift (k := 32) h
      refine W_cond (t := true) (by simp; omega) ?_
      apply W_seq; intro b1 hb1
      apply W_region
      simp [bits_u64, f1]
      show W _ _ b1 _ _; subst hb1
      apply W_region
      simp
      exact ⟨x / 4294967296, rfl, 32, rfl, by omega, by omega, f2⟩
    · refine W_cond (t := false) (by simp; omega) ?_
      apply W_skip
      simp
      exact ⟨x, rfl, 0, rfl, by omega, by omega, by omega⟩
  rintro ⟨k, tm, H'⟩ ⟨h2, h3, y, n, h4, h5, h6, h7, h8⟩
  simp only at h2 h3 h4 h5
  subst h2; subst h3
  refine W_then (fun s => s.k = 25 ∧ s.H = H' ∧ ∃ y n : Nat, s.tm.get 0 = some (.int .u64 (y : Int)) ∧ s.tm.get 2 = some (.int .i64 (n : Int)) ∧ y < 65536 ∧ n ≤ 48 ∧ blen x = n + blen y) ?_ ?_
  · apply W_seq; intro b1 hb1
    apply W_region
    simp [h4, h5]
    show W _ _ b1 _ _; subst hb1
    by_cases h : 65536 ≤ y
    · have f1 : (y : Int).fdiv 65536 = ((y / 65536 : Nat) : Int) := fdiv_nat y 16
      have f2 : blen y = 16 + blen (y / 65536) := blen_shift (k := 16) h
      have hw : IntKind.i64.wrap ((n : Int) + 16) = ((n + 16 : Nat) : Int) := by rw [IntKind.wrap_i64]; omega
      refine W_cond (t := true) (by simp; omega) ?_
      apply W_seq; intro b1 hb1
      apply W_region
      simp [h4, h5, bits_u64, f1]
      show W _ _ b1 _ _; subst hb1
      apply W_region
      simp [h4, h5, hw]
      exact ⟨y / 65536, rfl, n + 16, rfl, by omega, by omega, by omega⟩
    · refine W_cond (t := false) (by simp; omega) ?_
      apply W_skip
      simp [h4, h5]
      exact ⟨y, rfl, n, rfl, by omega, by omega, h8⟩
  rintro ⟨k, tm, H'⟩ ⟨h2, h3, y, n, h4, h5, h6, h7, h8⟩
  simp only at h2 h3 h4 h5
  subst h2; subst h3
  refine W_then (fun s => s.k = 25 ∧ s.H = H' ∧ ∃ y n : Nat, s.tm.get 0 = some (.int .u64 (y : Int)) ∧ s.tm.get 2 = some (.int .i64 (n : Int)) ∧ y < 256 ∧ n ≤ 56 ∧ blen x = n + blen y) ?_ ?_
  · apply W_seq; intro b1 hb1
    apply W_region
    simp [h4, h5]
    show W _ _ b1 _ _; subst hb1
    by_cases h : 256 ≤ y
    · have f1 : (y : Int).fdiv 256 = ((y / 256 : Nat) : Int) := fdiv_nat y 8
      have f2 : blen y = 8 + blen (y / 256) := blen_shift (k := 8) h
      have hw : IntKind.i64.wrap ((n : Int) + 8) = ((n + 8 : Nat) : Int) := by rw [IntKind.wrap_i64]; omega
      refine W_cond (t := true) (by simp; omega) ?_
      apply W_seq; intro b1 hb1
      apply W_region
      simp [h4, h5, bits_u64, f1]
      show W _ _ b1 _ _; subst hb1
      apply W_region
      simp [h4, h5, hw]
      exact ⟨y / 256, rfl, n + 8, rfl, by omega, by omega, by omega⟩
    · refine W_cond (t := false) (by simp; omega) ?_
      apply W_skip
      simp [h4, h5]
      exact ⟨y, rfl, n, rfl, by omega, by omega, h8⟩
  rintro ⟨k, tm, H'⟩ ⟨h2, h3, y, n, h4, h5, h6, h7, h8⟩
  simp only at h2 h3 h4 h5
  subst h2; subst h3
  apply W_seq; intro b1 hb1
  apply W_region
  have hb8 : blen y ≤ 8 := by
    rcases Nat.lt_or_ge 8 (blen y) with h | h
    · have h0 : y ≠ 0 := by rintro rfl; simp [blen] at h
      have a := blen_ge h0
      have b : 2 ^ 8 ≤ 2 ^ (blen y - 1) := Nat.pow_le_pow_right (by decide) (by omega)
      omega
    · exact h
  generalize hs : ByteArray.mk _ = s
  have ht : tabOk s = true := by rw [← hs]; kernel_rfl
  have e1 := tab_spec ht h6
  have e2 : IntKind.u8.wrap (y : Int) = (y : Int) := by rw [IntKind.wrap_u8]; omega
  have e3 : IntKind.i64.wrap (blen y : Int) = (blen y : Int) := wrap_nat (by omega)
  have e4 : IntKind.i64.wrap ((n : Int) + (blen y : Int)) = (blen x : Int) := by rw [IntKind.wrap_i64, h8]; omega
  simp [h4, h5, convV, Tryd.underlying65, Tryd.underlying5, Tryd.underlying3, e1, e2, e3, e4]
  show W _ _ b1 _ _; subst hb1
  apply W_ret
  simp
end
end Go.Proofs.YthlgggcpokfmaaaDoor

/-
  bits.LeadingZeros64, Add64, Sub64; nat.Length, nat.From.
-/
namespace Go.Proofs.YthlgggcpokfmaaaDoor
open Go Ev
set_option linter.unusedVariables false
set_option linter.unusedSimpArgs false
noncomputable section
set_option maxRecDepth 20000

theorem add64_call (x y c : Nat) (H : AH) (hc : c ≤ 1) : callI Tryd.prog cfgR 60 [.int .u64 (x : Int), .int .u64 (y : Int), .int .u64 (c : Int)] H =
    some (.tuple #[.int .u64 (((x + y + c) % B64 : Nat) : Int), .int .u64 (((x + y + c) / B64 : Nat) : Int)], H) := by
  unfold callI evCall
  rw [show Nat.beq 60 cfgR.add = true from rfl, cond_true]
  have : natsOf [.int .u64 (x : Int), .int .u64 (y : Int), .int .u64 (c : Int)] = some (x, y, c) := by
    simp [natsOf]
    omega
  rw [this]
  rfl

theorem sub64_call (x y c : Nat) (H : AH) (hc : c ≤ 1) : callI Tryd.prog cfgR 62 [.int .u64 (x : Int), .int .u64 (y : Int), .int .u64 (c : Int)] H =
    some (.tuple #[.int .u64 (((x + B64 - y - c) % B64 : Nat) : Int), .int .u64 ((if x < y + c then 1 else 0 : Nat) : Int)], H) := by
  unfold callI evCall
  rw [show Nat.beq 62 cfgR.add = false from rfl, cond_false, show Nat.beq 62 cfgR.sub = true from rfl, cond_true]
  have : natsOf [.int .u64 (x : Int), .int .u64 (y : Int), .int .u64 (c : Int)] = some (x, y, c) := by
    simp [natsOf]
    omega
  rw [this]
  by_cases h : x < y + c
  · have : Nat.blt x (y + c) = true := by rw [Nat.blt_eq]; exact h
    simp only [this, cond_true, if_pos h]
    rfl
  · have : Nat.blt x (y + c) = false := by
      cases hb : Nat.blt x (y + c) with
      | false => rfl
      | true => rw [Nat.blt_eq] at hb; exact absurd hb h
    simp only [this, cond_false, if_neg h]
    rfl

attribute [local simp] strip stripL LW' gW evOp oMove oAssign oPick oBinOp oUnOp oConvert oExtract oIndexAddr oIndex oLoad oStore oSlice oMakeSlice oCall oBuildSlice opd opds optOpd plain plain1 Tr.get_set tmOf builtinV binV isShift sameKind intBin undef resultV resOne packV ltNat ltNum ltLst calleeV shiftBin parts

theorem lz_spec {x : Nat} {H : AH} (hx : x < B64) :
    CW Tryd.prog cfgR 56 [.int .u64 (x : Int)] H fun v H' => H' = H ∧ v = .int .i64 (64 - (blen x : Int)) := by
  refine CW_intro 6 (by decide) (by decide) Tryd.func56 rfl rfl ?_
  obtain ⟨v1, H1, hc1, rfl, rfl⟩ := len64_spec (H := H) hx
  have hb : blen x ≤ 64 := by
    rcases Nat.lt_or_ge 64 (blen x) with h | h
    · have h0 : x ≠ 0 := by rintro rfl; simp [blen] at h
      have a := blen_ge h0
      have b : 2 ^ 64 ≤ 2 ^ (blen x - 1) := Nat.pow_le_pow_right (by decide) (by omega)
      have hx : x < 18446744073709551616 := hx
      omega
    · exact h
  have hw : IntKind.i64.wrap (64 - (blen x : Int)) = 64 - (blen x : Int) := by rw [IntKind.wrap_i64]; omega
  apply W_seq; intro b1 hb1
  apply W_region
  simp
  show W _ _ b1 _ _; subst hb1
  apply W_seq; intro b1 hb1
  apply W_region
  simp [hc1, hw]
  show W _ _ b1 _ _; subst hb1
  apply W_ret
  simp

/-- A number's length from its digits. -/
theorem blen_dv {xs : List Nat} (dx : Dig B64 xs) (tx : trimL xs = xs) (h : 0 < xs.length) : blen (dv B64 xs) = 64 * (xs.length - 1) + blen (xs[xs.length - 1]) := by
  have hs : xs = xs.take (xs.length - 1) ++ [xs[xs.length - 1]] := by
    have := List.take_append_getElem (l := xs) (i := xs.length - 1) (by omega)
    rw [this, show xs.length - 1 + 1 = xs.length by omega, List.take_length]
  have hl : (xs.take (xs.length - 1)).length = xs.length - 1 := by rw [List.length_take]; omega
  generalize hz : xs[xs.length - 1] = z at *
  have hz0 : z ≠ 0 := by
    intro h0
    rw [h0] at hs
    have := congrArg trimL hs
    rw [trimL_snoc0, tx] at this
    have := congrArg List.length this
    have := trimL_len (xs.take (xs.length - 1))
    omega
  have e : dv B64 xs = dv B64 (xs.take (xs.length - 1)) + 2 ^ (64 * (xs.length - 1)) * z := by
    have := congrArg (dv B64) hs
    rw [this, dv_append, hl]
    simp only [dv, Nat.mul_zero, Nat.add_zero]
    rw [Nat.pow_mul]
  have hlow : dv B64 (xs.take (xs.length - 1)) < 2 ^ (64 * (xs.length - 1)) := by
    have := dv_lt (dx.take (xs.length - 1))
    rw [hl] at this
    rw [Nat.pow_mul]
    exact this
  have hge : 2 ^ (64 * (xs.length - 1)) ≤ dv B64 xs := by
    rw [e]
    have : 2 ^ (64 * (xs.length - 1)) * 1 ≤ 2 ^ (64 * (xs.length - 1)) * z := Nat.mul_le_mul_left _ (by omega)
    omega
  rw [blen_shift hge]
  congr 2
  rw [e, Nat.add_mul_div_left _ _ (Nat.two_pow_pos _), Nat.div_eq_of_lt hlow, Nat.zero_add]

theorem length_spec {v : Value} {xs : List Nat} {H : AH} (hs : Sl H v xs) (dx : Dig B64 xs) (hlen : xs.length ≤ 17592186044416) :
    CW Tryd.prog cfgR 40 [v] H fun v' H' => H' = H ∧ v' = .int .i64 (blen (dv B64 xs) : Int) := by
  refine CW_intro 20 (by decide) (by decide) Tryd.func40 rfl rfl ?_
  obtain ⟨v1, H1, hc1, e1, s1⟩ := trim_spec hs (by omega)
  subst e1
  rw [← dv_trimL B64 xs]
  have tx := trimL_idem xs
  have dx := trimL_dig dx
  have lx : (trimL xs).length ≤ 17592186044416 := Nat.le_trans (trimL_len xs) hlen
  generalize trimL xs = xs at *
  have l1 := s1.len ltNat
  apply W_seq; intro b1 hb1
  apply W_region
  simp
  show W _ _ b1 _ _; subst hb1
  apply W_seq; intro b1 hb1
  apply W_region
  simp [hc1]
  show W _ _ b1 _ _; subst hb1
  apply W_seq; intro b1 hb1
  apply W_seq; intro b2 hb2
  apply W_region
  simp [l1]
  show W _ _ b2 _ _; subst hb2
  by_cases h0 : xs.length = 0
  · obtain rfl : xs = [] := List.length_eq_zero_iff.mp h0
    refine W_cond (t := true) (by simp) ?_
    apply W_seq; intro b2 hb2
    apply W_region
    simp
    show W _ _ b2 _ _; subst hb2
    apply W_ret
    simp [seqQ, dv, blen]
  · refine W_cond (t := false) (by simp; intro h; apply h0; simp [h]) ?_
    apply W_skip
    show W _ _ b1 _ _; subst hb1
    have i1 : xs.length - 1 < xs.length := by omega
    have a1 := s1.adr ltNat (k := .i64) i1
    have d1 := s1.load i1
    have hw : IntKind.i64.wrap ((xs.length : Int) - 1) = ((xs.length - 1 : Nat) : Int) := wrap_sub1 (by omega) (by omega)
    have hx : xs[xs.length - 1] < B64 := dx.get (List.getElem?_eq_getElem i1)
    obtain ⟨v3, H3, hc3, e3, e4⟩ := len64_spec (H := H1) hx
    subst e3; subst e4
    have hb := blen_dv dx tx (by omega)
    have hb64 : blen (xs[xs.length - 1]) ≤ 64 := by
      rcases Nat.lt_or_ge 64 (blen (xs[xs.length - 1])) with h | h
      · have h0 : xs[xs.length - 1] ≠ 0 := by intro e; rw [e] at h; simp [blen] at h
        have a := blen_ge h0
        have b : 2 ^ 64 ≤ 2 ^ (blen (xs[xs.length - 1]) - 1) := Nat.pow_le_pow_right (by decide) (by omega)
        have hx : xs[xs.length - 1] < 18446744073709551616 := hx
        omega
      · exact h
    have hw2 : IntKind.i64.wrap (64 * ((xs.length - 1 : Nat) : Int)) = 64 * ((xs.length - 1 : Nat) : Int) := by rw [IntKind.wrap_i64]; omega
    have hw3 : IntKind.i64.wrap (64 * ((xs.length - 1 : Nat) : Int) + (blen (xs[xs.length - 1]) : Int)) = (blen (dv B64 xs) : Int) := by rw [IntKind.wrap_i64, hb]; omega
    apply W_seq; intro b2 hb2
    apply W_region
    simp [l1, hw, hw2, a1, d1, hc3, hw3]
    show W _ _ b2 _ _; subst hb2
    apply W_ret
    simp

theorem from_spec {x : Nat} {H : AH} (hx : x < B64) :
    CW Tryd.prog cfgR 49 [.int .u64 (x : Int)] H fun v H' => Keep H H' ∧ Own H.n H' v (ds B64 x) := by
  refine CW_intro 7 (by decide) (by decide) Tryd.func49 rfl rfl ?_
  apply W_seq; intro b1 hb1
  apply W_region
  simp
  show W _ _ b1 _ _; subst hb1
  apply W_seq; intro b1 hb1
  apply W_seq; intro b2 hb2
  apply W_region
  simp
  show W _ _ b2 _ _; subst hb2
  by_cases h0 : x = 0
  · subst h0
    refine W_cond (t := true) (by simp) ?_
    apply W_seq; intro b2 hb2
    apply W_region
    simp
    show W _ _ b2 _ _; subst hb2
    apply W_ret
    simp [seqQ, ds_zero]
    exact ⟨.refl H, .nil⟩
  · refine W_cond (t := false) (by simp; omega) ?_
    apply W_skip
    show W _ _ b1 _ _; subst hb1
    have e : ds B64 x = [x] := by
      rw [ds_pos two64 h0, Nat.mod_eq_of_lt hx, Nat.div_eq_of_lt hx, ds_zero]
    have hbs : buildSliceV Tryd.prog H 25 1 [(0, .int .u64 (x : Int))] = some (.slice (some ⟨H.n, 0, none⟩) 1 1, H.new 1 ([x].map limb)) := by
      unfold buildSliceV
      simp only [tNat, zU64]
      kernel_rfl
    apply W_seq; intro b2 hb2
    apply W_region
    simp [hbs]
    show W _ _ b2 _ _; subst hb2
    apply W_ret
    simp
    rw [e]
    exact ⟨.new _ _ _, Own.new H [x]⟩
end
end Go.Proofs.YthlgggcpokfmaaaDoor

/-
  THE ENGINE, part S: drawn regions of operations that change nothing (loads, slices, calls that only reckon).
-/
namespace Go.Proofs.YthlgggcpokfmaaaDoor.Ev
open Go Go.RowKit
set_option linter.unusedVariables false
set_option linter.unusedSimpArgs false
noncomputable section
set_option maxRecDepth 20000

/-- A heap as a drawn operation sees it. -/
def AH.top (H : AH) : AH := { n := H.n, lw := H.n, t := H.t }

/-- Operations one behind the other, of which none changes the heap. -/
def LR (P : Program) (C : Cfg) (k : Nat) : List SOp → Tr Value → AH → (Tr Value → Prop) → Prop
  | [], tm, _, K => K tm
  | o :: r, tm, H, K => match gW tm o.grd with
    | some true => match evOp P C (callI P C) tm H o.op with
      | some (v, H') => H' = H ∧ match o.dst with
        | none => LR P C k r tm H K
        | some d => d < k ∧ LR P C k r (tm.set d v) H K
      | none => False
    | some false => match o.dst with
      | none => LR P C k r tm H K
      | some d => d < k ∧ LR P C k r (tm.set d undef) H K
    | none => False

section
variable {P : Program} {C : Cfg} {Q : Ex → St → Prop} {ops : Array Oper} {k : Nat}

theorem LR_draw : ∀ (l : List Oper) (i : Nat) (tm : Tr Value) (H : AH) (K : Tr Value → Prop), LR P C k (stripL ops l) tm H.top K → ∃ tm', evDraw P C (callI P C) ops i false [] l ⟨k, tm, H⟩ = some ⟨k, tm', H⟩ ∧ K tm'
  | [], i, tm, H, K, h => ⟨tm, by simp only [evDraw], h⟩
  | o :: r, i, tm, H, K, h => by
    simp only [stripL, LR] at h
    simp only [evDraw]
    rw [gW_eq]
    split at h
    · rename_i hg
      rw [hg]
      split at h
      · rename_i v H1 hop
        obtain ⟨e, h⟩ := h
        subst e
        obtain ⟨tm1, hput, hl⟩ := put_dst (k := k) (H := H) (H1 := H) (K1 := fun tm => LR P C k (stripL ops r) tm H.top K) h
        obtain ⟨tm', h1, h2⟩ := LR_draw r (i + 1) tm1 H K hl
        refine ⟨tm', ?_, h2⟩
        have hd : evDrawOp P C (callI P C) ops i false [] ⟨k, tm, H⟩ o = some (v, H, false) := by
          unfold evDrawOp
          cases hh : heapOp o.op with
          | true =>
            rw [cond_true]
            simp only [hidden, hideT]
            have hop' : evOp P C (callI P C) tm { n := H.n, lw := H.n, t := H.t } o.op = some (v, { n := H.n, lw := H.n, t := H.t }) := hop
            rw [hop']
            have : Nat.ble H.n H.n = true := Nat.ble_eq.mpr (Nat.le_refl _)
            simp only [this, cond_true, Bool.not_false, Bool.and_self, Nat.sub_self, addT]
          | false =>
            rw [cond_false]
            rw [evOp_pure hh hop H]
        simp only [hd, hput, blt_self, cond_false]
        exact h1
      · exact h.elim
    · rename_i hg
      rw [hg]
      obtain ⟨tm1, hput, hl⟩ := put_dst (k := k) (H := H) (H1 := H) (K1 := fun tm => LR P C k (stripL ops r) tm H.top K) h
      obtain ⟨tm', h1, h2⟩ := LR_draw r (i + 1) tm1 H K hl
      refine ⟨tm', ?_, h2⟩
      simp only [hput]
      exact h1
    · exact h.elim

theorem W_reads {id : Nat} {s : St} (hd : (!memOnly ops && regOk ops) = true) (h : LR P C s.k (strip ops) s.tm s.H.top fun tm' => Q .norm ⟨s.k, tm', s.H⟩) : W P C (.region id ops true) s Q := by
  obtain ⟨k, tm, H⟩ := s
  obtain ⟨tm', h1, h2⟩ := LR_draw _ 0 _ _ _ h
  refine ⟨.norm, ⟨k, tm', H⟩, ?_, h2⟩
  rw [evI_eq]
  simp only [evStep]
  rw [Bool.and_eq_true] at hd
  have hm : memOnly ops = false := by simpa using hd.1
  have : evRegion P C (evCall P C (evI P C)) ops true ⟨k, tm, H⟩ = some ⟨k, tm', H⟩ := by
    unfold evRegion evRegionD
    rw [hm, hd.2]
    simp only [Bool.and_false, cond_false, cond_true]
    exact h1
  rw [this]

/-- The heap behind a write of a drawn region. -/
def low (H H2 : AH) : AH := { n := H2.n, lw := min H.lw H2.lw, t := H2.t }

/-- Operations that change nothing, then stores. -/
def LX (P : Program) (C : Cfg) (k : Nat) : List SOp → Tr Value → AH → (Tr Value → AH → Prop) → Prop
  | [], tm, H, K => K tm H
  | o :: r, tm, H, K => match gW tm o.grd with
    | some true => match isStore o.op with
      | true => match evOp P C (callI P C) tm H.top o.op with
        | some (v, H2) => (H2.n = H.n ∧ H2.lw < H.n) ∧ match o.dst with
          | none => LX P C k r tm (low H H2) K
          | some d => d < k ∧ LX P C k r (tm.set d v) (low H H2) K
        | none => False
      | false => match evOp P C (callI P C) tm H.top o.op with
        | some (v, H2) => H2 = H.top ∧ match o.dst with
          | none => LX P C k r tm H K
          | some d => d < k ∧ LX P C k r (tm.set d v) H K
        | none => False
    | some false => match o.dst with
      | none => LX P C k r tm H K
      | some d => d < k ∧ LX P C k r (tm.set d undef) H K
    | none => False

/-- Behind the first store no heap is looked at but by stores. -/
def storesLast : List Oper → Bool
  | [] => true
  | o :: r => cond (isStore o.op) (r.all fun o => isStore o.op || !heapOp o.op) (storesLast r)

def storesAlone (ops : Array Oper) : Bool := (List.range ops.size).all fun i => match ops[i]? with
  | some o => !isStore o.op || alone ops i
  | none => true

theorem LX_draw (hst : ∀ i o, ops[i]? = some o → isStore o.op = true → alone ops i = true) : ∀ (l : List Oper) (i : Nat) (q : Bool) (tm : Tr Value) (H : AH) (K : Tr Value → AH → Prop), (∀ j, l[j]? = ops[i + j]?) →
    (q = true → ∀ o ∈ l, (isStore o.op || !heapOp o.op) = true) → storesLast l = true → LX P C k (stripL ops l) tm H K → ∃ tm' H', evDraw P C (callI P C) ops i q [] l ⟨k, tm, H⟩ = some ⟨k, tm', H'⟩ ∧ K tm' H'
  | [], i, q, tm, H, K, hl, hq, hs, h => ⟨tm, H, by simp only [evDraw], h⟩
  | o :: r, i, q, tm, H, K, hl, hq, hs, h => by
    have h0 : ops[i]? = some o := by simpa using (hl 0).symm
    have hl' : ∀ j, r[j]? = ops[i + 1 + j]? := fun j => by have := hl (j + 1); simpa [Nat.add_assoc, Nat.add_comm 1 j] using this
    have hq' : q = true → ∀ o ∈ r, (isStore o.op || !heapOp o.op) = true := fun e o' h' => hq e o' (List.mem_cons_of_mem _ h')
    simp only [stripL, LX] at h
    simp only [evDraw]
    rw [gW_eq]
    have hs' : storesLast r = true := by
      unfold storesLast at hs
      cases e : isStore o.op with
      | false => rw [e, cond_false] at hs; exact hs
      | true =>
        rw [e, cond_true] at hs
        clear h hl hl' hq hq' h0
        induction r with
        | nil => rfl
        | cons x r ih =>
          rw [List.all_cons, Bool.and_eq_true] at hs
          unfold storesLast
          cases isStore x.op with
          | false => rw [cond_false]; exact ih hs.2
          | true => rw [cond_true]; exact hs.2
    split at h
    · rename_i hg
      rw [hg]
      split at h
      · rename_i hstore
        split at h
        · rename_i v H2 hop
          obtain ⟨⟨e1, e2⟩, h⟩ := h
          obtain ⟨tm1, hput, hlx⟩ := put_dst (k := k) (H := H) (H1 := low H H2) (K1 := fun tm => LX P C k (stripL ops r) tm (low H H2) K) h
          have hall : ∀ o ∈ r, (isStore o.op || !heapOp o.op) = true := by
            unfold storesLast at hs
            rw [hstore, cond_true] at hs
            exact List.all_eq_true.mp hs
          obtain ⟨tm', H', h1, h2⟩ := LX_draw hst r (i + 1) true tm1 (low H H2) K hl' (fun _ => hall) hs' hlx
          refine ⟨tm', H', ?_, h2⟩
          have hh : heapOp o.op = true := by
            revert hstore
            cases o.op <;> simp [isStore, heapOp]
          have hd : evDrawOp P C (callI P C) ops i q [] ⟨k, tm, H⟩ o = some (v, low H H2, true) := by
            unfold evDrawOp
            rw [hh, cond_true]
            simp only [hidden, hideT]
            have hop' : evOp P C (callI P C) tm { n := H.n, lw := H.n, t := H.t } o.op = some (v, H2) := hop
            rw [hop']
            have a1 : Nat.ble H.n H2.n = true := Nat.ble_eq.mpr (by omega)
            have a2 : Nat.ble H.n H2.lw = false := by
              cases hb : Nat.ble H.n H2.lw with
              | false => rfl
              | true => have := Nat.le_of_ble_eq_true hb; omega
            simp only [a1, a2, cond_true, Bool.and_false, cond_false, hst i o h0 hstore, List.isEmpty_nil, Bool.and_self]
            rfl
          have hn : Nat.blt H.n (low H H2).n = false := by
            show Nat.blt H.n H2.n = false
            rw [e1]; exact blt_self _
          simp only [hd, hput, hn, cond_false]
          exact h1
        · exact h.elim
      · rename_i hstore
        split at h
        · rename_i v H2 hop
          obtain ⟨e, h⟩ := h
          subst e
          obtain ⟨tm1, hput, hlx⟩ := put_dst (k := k) (H := H) (H1 := H) (K1 := fun tm => LX P C k (stripL ops r) tm H K) h
          obtain ⟨tm', H', h1, h2⟩ := LX_draw hst r (i + 1) q tm1 H K hl' hq' hs' hlx
          refine ⟨tm', H', ?_, h2⟩
          have hd : evDrawOp P C (callI P C) ops i q [] ⟨k, tm, H⟩ o = some (v, H, q) := by
            unfold evDrawOp
            cases hh : heapOp o.op with
            | true =>
              have hqf : q = false := by
                cases q with
                | false => rfl
                | true => have := hq rfl o (List.mem_cons_self ..); rw [hstore, hh] at this; cases this
              subst hqf
              rw [cond_true]
              simp only [hidden, hideT]
              have hop' : evOp P C (callI P C) tm { n := H.n, lw := H.n, t := H.t } o.op = some (v, { n := H.n, lw := H.n, t := H.t }) := hop
              rw [hop']
              have : Nat.ble H.n H.n = true := Nat.ble_eq.mpr (Nat.le_refl _)
              simp only [this, cond_true, Bool.not_false, Bool.and_self, Nat.sub_self, addT]
            | false =>
              rw [cond_false]
              rw [evOp_pure hh hop H]
          simp only [hd, hput, blt_self, cond_false]
          exact h1
        · exact h.elim
    · rename_i hg
      rw [hg]
      obtain ⟨tm1, hput, hlx⟩ := put_dst (k := k) (H := H) (H1 := H) (K1 := fun tm => LX P C k (stripL ops r) tm H K) h
      obtain ⟨tm', H', h1, h2⟩ := LX_draw hst r (i + 1) q tm1 H K hl' hq' hs' hlx
      refine ⟨tm', H', ?_, h2⟩
      simp only [hput]
      exact h1
    · exact h.elim

theorem W_rws {id : Nat} {s : St} (hd : (!memOnly ops && regOk ops && storesAlone ops && storesLast ops.toList) = true) (h : LX P C s.k (strip ops) s.tm s.H fun tm' H' => Q .norm ⟨s.k, tm', H'⟩) : W P C (.region id ops true) s Q := by
  obtain ⟨k, tm, H⟩ := s
  rw [Bool.and_eq_true, Bool.and_eq_true, Bool.and_eq_true] at hd
  have hst : ∀ i o, ops[i]? = some o → isStore o.op = true → alone ops i = true := fun i o hi hs => by
    have := List.all_eq_true.mp hd.1.2 i (by simpa using lt_of_some hi)
    rw [hi] at this
    simpa [hs] using this
  obtain ⟨tm', H', h1, h2⟩ := LX_draw hst _ 0 false _ _ _ (fun j => by simp) (fun e => by cases e) hd.2 h
  refine ⟨.norm, ⟨k, tm', H'⟩, ?_, h2⟩
  rw [evI_eq]
  simp only [evStep]
  have hm : memOnly ops = false := by simpa using hd.1.1.1
  have : evRegion P C (evCall P C (evI P C)) ops true ⟨k, tm, H⟩ = some ⟨k, tm', H'⟩ := by
    unfold evRegion evRegionD
    rw [hm, hd.1.1.2]
    simp only [Bool.and_false, cond_false, cond_true]
    exact h1
  rw [this]

/-- A halt between two parts; what is to hold is hidden behind a name. -/
theorem W_thenK (R : St → Prop) {a b : Code} {s : St} (h1 : ∀ Q' : Ex → St → Prop, (∀ s', R s' → Q' .norm s') → W P C a s Q') (h2 : ∀ s', R s' → W P C b s' Q) : W P C (.seq a b) s Q :=
  W_then R (h1 _ fun s' h => ⟨rfl, h⟩) h2

/-- Code that goes on, whatever way. -/
theorem W.mono' {c : Code} {s : St} {Q' : Ex → St → Prop} (hQ : ∀ e s, Q e s → Q' e s) (h : W P C c s Q) : W P C c s Q' := h.mono hQ
end

end

end Go.Proofs.YthlgggcpokfmaaaDoor.Ev

/-
  EXPRESSIONS as trees in the abstract heap: what a value of api.Expr says (Ex); what single operations do on it.
-/
namespace Go.Proofs.YthlgggcpokfmaaaDoor
open Go Ev
set_option linter.unusedVariables false
set_option linter.unusedSimpArgs false
noncomputable section
set_option maxRecDepth 20000

/-- An expression: op, the number's sign, numerator and denominator, the arguments. -/
inductive ET where
  | node (op : Int) (neg : Bool) (abs den : List Nat) (args : List ET)

mutual
def ET.nodes : ET → Nat
  | .node _ _ _ _ args => 1 + nodesAll args
def nodesAll : List ET → Nat
  | [] => 0
  | t :: ts => t.nodes + nodesAll ts
end

mutual
def ET.depth : ET → Nat
  | .node _ _ _ _ args => max 1 (depthAll args)
/-- The greatest depth, and one more (of nothing: 0). -/
def depthAll : List ET → Nat
  | [] => 0
  | t :: ts => max (t.depth + 1) (depthAll ts)
end

/-- How many arguments an op takes. -/
def arity (n : Nat) : Nat := [0, 0, 1, 2, 2, 2, 2, 1, 2, 2, 1, 1, 1, 1, 1, 1][n]?.getD 0

/-- May a node be? -/
def ET.good : ET → Bool
  | .node op neg abs den args => decide (0 ≤ op ∧ op < 16 ∧ args.length = arity op.toNat) && (if op = 0 then decide (0 < dv B64 den) else decide (abs.length = 0) && decide (den.length = 0) && !neg)

mutual
def ET.allGood : ET → Bool
  | .node op neg abs den args => (ET.node op neg abs den args).good && goodAll args
def goodAll : List ET → Bool
  | [] => true
  | t :: ts => t.allGood && goodAll ts
end

mutual
/-- How many limbs there are at most in one number. -/
def ET.wide (L : Nat) : ET → Prop
  | .node _ _ abs den args => abs.length ≤ L ∧ den.length ≤ L ∧ Dig B64 abs ∧ Dig B64 den ∧ wideAll L args
def wideAll (L : Nat) : List ET → Prop
  | [] => True
  | t :: ts => t.wide L ∧ wideAll L ts
end

theorem nodes_pos (t : ET) : 0 < t.nodes := by cases t; simp only [ET.nodes]; omega
theorem nodesAll_append (xs ys : List ET) : nodesAll (xs ++ ys) = nodesAll xs + nodesAll ys := by
  induction xs with
  | nil => simp [nodesAll]
  | cons x xs ih => simp [nodesAll, ih, Nat.add_assoc]
theorem goodAll_append (xs ys : List ET) : goodAll (xs ++ ys) = (goodAll xs && goodAll ys) := by
  induction xs with
  | nil => simp [goodAll]
  | cons x xs ih => simp [goodAll, ih, Bool.and_assoc]
theorem depthAll_append (xs ys : List ET) : depthAll (xs ++ ys) = max (depthAll xs) (depthAll ys) := by
  induction xs with
  | nil => simp [depthAll]
  | cons x xs ih => simp [depthAll, ih, Nat.max_assoc]
theorem wideAll_get {L : Nat} {xs : List ET} (h : wideAll L xs) {i : Nat} {t : ET} (hi : xs[i]? = some t) : t.wide L := by
  induction xs generalizing i with
  | nil => simp at hi
  | cons x xs ih =>
    cases i with
    | zero => simp at hi; subst hi; exact h.1
    | succ i => simp at hi; exact ih h.2 hi
theorem nodesAll_get {xs : List ET} {i : Nat} {t : ET} (hi : xs[i]? = some t) : t.nodes ≤ nodesAll xs := by
  induction xs generalizing i with
  | nil => simp at hi
  | cons x xs ih =>
    cases i with
    | zero => simp at hi; subst hi; simp [nodesAll]
    | succ i => simp at hi; have := ih hi; simp only [nodesAll]; omega
theorem nodesAll_len (xs : List ET) : xs.length ≤ nodesAll xs := by
  induction xs with
  | nil => simp
  | cons x xs ih => have := nodes_pos x; simp only [nodesAll, List.length_cons]; omega
theorem depth_le_nodes : ∀ n (t : ET), t.nodes ≤ n → t.depth ≤ t.nodes := by
  intro n
  induction n with
  | zero => intro t h; have := nodes_pos t; omega
  | succ n ih =>
    intro t h
    obtain ⟨op, neg, abs, den, args⟩ := t
    simp only [ET.nodes] at h
    simp only [ET.nodes, ET.depth]
    have key : ∀ l : List ET, nodesAll l ≤ n → depthAll l ≤ 1 + nodesAll l := by
      intro l
      induction l with
      | nil => intro _; simp [depthAll]
      | cons x xs ihl =>
        intro hl
        simp only [nodesAll] at hl
        simp only [depthAll, nodesAll]
        have h1 := ih x (by omega)
        have h2 := ihl (by omega)
        have := nodes_pos x
        omega
    have := key args (by omega)
    omega

mutual
/-- Cells of an expression. -/
inductive Ex (H : AH) : List Value → ET → Prop
  | mk {op : Int} {neg : Bool} {va vd vx : Value} {abs den : List Nat} {args : List ET} : Sl H va abs → Sl H vd den → Xs H vx args → Ex H [.int .i64 op, .bool neg, va, vd, vx] (.node op neg abs den args)
/-- A slice of expressions. -/
inductive Xs (H : AH) : Value → List ET → Prop
  | nil : Xs H (.slice none 0 0) []
  | emp (b : Nat) : Xs H (.slice (some ⟨b, 0, some 0⟩) 0 0) []
  | mk (b o cap : Nat) {cs : List Value} {args : List ET} : b < H.n → H.cells b = some cs → args.length ≤ cap → (∀ (i : Nat) (t : ET), args[i]? = some t → Ex H ((cs.drop (o + i * 5)).take 5) t) →
      Xs H (.slice (some ⟨b, o, none⟩) args.length cap) args
end

theorem keep_topT (H : AH) : Keep H H.top := ⟨Nat.le_refl _, by show min H.lw H.n ≤ H.n; omega, fun _ _ => rfl⟩

theorem cells_keep {H H' : AH} (k : Keep H H') {b : Nat} (hb : b < H.n) : H'.cells b = H.cells b := by
  unfold AH.cells
  rw [k.blk b hb]

theorem keep_ex {H H' : AH} (k : Keep H H') : ∀ n (t : ET), t.nodes ≤ n → ∀ vs, Ex H vs t → Ex H' vs t := by
  intro n
  induction n with
  | zero => intro t h; have := nodes_pos t; omega
  | succ n ih =>
    intro t h vs hx
    cases hx with
    | mk h1 h2 h3 =>
      simp only [ET.nodes] at h
      refine .mk (h1.keep k) (h2.keep k) ?_
      cases h3 with
      | nil => exact .nil
      | emp b => exact .emp b
      | mk b o cap hb hc hl hf =>
        rename_i cs
        refine .mk b o cap (cs := cs) (Nat.lt_of_lt_of_le hb k.n) ?_ hl fun i t hi => ?_
        · rw [cells_keep k hb]; exact hc
        · have := nodesAll_get hi
          exact ih t (by omega) _ (hf i t hi)

theorem Ex.keep {H H' : AH} {vs : List Value} {t : ET} (h : Ex H vs t) (k : Keep H H') : Ex H' vs t := keep_ex k _ t (Nat.le_refl _) vs h

theorem Xs.len {H : AH} {v : Value} {args : List ET} (h : Xs H v args) : lenV Tryd.prog 30 v = some args.length := by
  have u : Tryd.prog.underlying 30 = some (.slice 32) := by kernel_rfl
  unfold lenV
  rw [u]
  cases h <;> rfl

theorem aExpr : isAggT Tryd.prog 32 = some true := by kernel_rfl
theorem sExpr : sizeT Tryd.prog 32 = some 5 := by kernel_rfl
theorem aOp : isAggT Tryd.prog 23 = some false := by kernel_rfl
theorem aNat : isAggT Tryd.prog 25 = some false := by kernel_rfl
theorem aExprs : isAggT Tryd.prog 30 = some false := by kernel_rfl
theorem aInt : isAggT Tryd.prog 3 = some false := by kernel_rfl
theorem aBool : isAggT Tryd.prog 4 = some false := by kernel_rfl

theorem load_cell {H : AH} {t : TypeId} (ht : isAggT Tryd.prog t = some false) {b o : Nat} {cs : List Value} {v : Value} (h : H.cells b = some cs) (hk : cs[o]? = some v) : loadV Tryd.prog H t (.pointer (some ⟨b, o, none⟩)) = some v := by
  unfold loadV
  simp only [ht, h, hk]

theorem load_expr {H : AH} {b o : Nat} {cs vs : List Value} (h : H.cells b = some cs) (hk : (cs.drop o).take 5 = vs) (hl : vs.length = 5) : loadV Tryd.prog H 32 (.pointer (some ⟨b, o, none⟩)) = some (.agg vs.toArray) := by
  unfold loadV
  simp only [aExpr, sExpr, AH.read_def, h]
  have : o + 5 ≤ cs.length := by
    have := congrArg List.length hk
    rw [List.length_take, List.length_drop, hl] at this
    omega
  rw [Nat.ble_eq.mpr this, cond_true, hk]

theorem Ex.len {H : AH} {vs : List Value} {t : ET} (h : Ex H vs t) : vs.length = 5 := by cases h; rfl

/-- An element's address and cells. -/
theorem Xs.at {H : AH} {v : Value} {args : List ET} (h : Xs H v args) {i : Nat} {t : ET} (hi : args[i]? = some t) :
    ∃ (p : Value) (vs : List Value), indexAddrV Tryd.prog 30 v (.int .i64 (i : Int)) = some p ∧ (∀ H', Keep H H' → loadV Tryd.prog H' 32 p = some (.agg vs.toArray)) ∧ Ex H vs t := by
  have u : Tryd.prog.underlying 30 = some (.slice 32) := by kernel_rfl
  have hlt : i < args.length := by
    rcases Nat.lt_or_ge i args.length with h' | h'
    · exact h'
    · rw [List.getElem?_eq_none h'] at hi; cases hi
  cases h with
  | nil => simp at hi
  | emp b => simp at hi
  | mk b o cap hb hc hl hf =>
    have hE := hf i t hi
    refine ⟨.pointer (some ⟨b, o + i * 5, none⟩), _, ?_, fun H' k => load_expr ((cells_keep k hb).trans hc) rfl hE.len, hE⟩
    unfold indexAddrV
    simp only [u, sExpr]
    rw [if_pos (by omega)]
    simp

/-! ### fields -/
theorem faOp (b o : Nat) : fieldAddrV Tryd.prog 32 (.pointer (some ⟨b, o, none⟩)) 0 = some (.pointer (some ⟨b, o, none⟩)) := by kernel_rfl
theorem faNum (b o : Nat) : fieldAddrV Tryd.prog 32 (.pointer (some ⟨b, o, none⟩)) 1 = some (.pointer (some ⟨b, o + 1, none⟩)) := by kernel_rfl
theorem faArgs (b o : Nat) : fieldAddrV Tryd.prog 32 (.pointer (some ⟨b, o, none⟩)) 2 = some (.pointer (some ⟨b, o + 4, none⟩)) := by kernel_rfl
theorem faN (b o : Nat) : fieldAddrV Tryd.prog 29 (.pointer (some ⟨b, o, none⟩)) 0 = some (.pointer (some ⟨b, o, none⟩)) := by kernel_rfl
theorem faD (b o : Nat) : fieldAddrV Tryd.prog 29 (.pointer (some ⟨b, o, none⟩)) 1 = some (.pointer (some ⟨b, o + 2, none⟩)) := by kernel_rfl
theorem faNeg (b o : Nat) : fieldAddrV Tryd.prog 27 (.pointer (some ⟨b, o, none⟩)) 0 = some (.pointer (some ⟨b, o, none⟩)) := by kernel_rfl
theorem faAbs (b o : Nat) : fieldAddrV Tryd.prog 27 (.pointer (some ⟨b, o, none⟩)) 1 = some (.pointer (some ⟨b, o + 1, none⟩)) := by kernel_rfl

theorem new_cells (H : AH) (sz : Nat) (cs : List Value) : (H.new sz cs).cells H.n = some cs := by
  unfold AH.cells
  rw [AH.blk_new, if_pos rfl]

/-- A new cell, written at once. -/
theorem alloc_store {H : AH} {sz : Nat} {zs ws : List Value} {t : TypeId} {n : Nat} (ht : sizeT Tryd.prog t = some n) (hz : zs.length = n) {v : Value} (hv : v.cells.toList = ws) (hw : ws.length = n) (h1 : ws.all one = true) :
    ∃ H', storeV Tryd.prog (H.new sz zs) t (.pointer (some ⟨H.n, 0, none⟩)) v = some H' ∧ Keep H H' ∧ H'.blk H.n = .rw sz ws ∧ H'.n = H.n + 1 := by
  have hb : (H.new sz zs).blk H.n = .rw sz zs := by rw [AH.blk_new, if_pos rfl]
  have hs : v.cells.size = n := by rw [← hw, ← hv]; simp
  have hle : Nat.ble (0 + ws.length) zs.length = true := Nat.ble_eq.mpr (by omega)
  refine ⟨{ n := H.n + 1, lw := min H.lw H.n, t := (H.new sz zs).t.set H.n (.rw sz ws) }, ?_, ⟨Nat.le_succ _, Nat.le_refl _, fun j hj => ?_⟩, ?_, rfl⟩
  · unfold storeV
    simp only [ht, hs, hv]
    rw [show Nat.beq n n = true from by simp, cond_true, AH.write_def, hb]
    simp only [hle, h1, Bool.and_self, cond_true, List.take_zero, List.nil_append]
    rw [List.drop_of_length_le (by omega), List.append_nil]
    rfl
  · unfold AH.blk AH.new
    simp only [Tr.get_set]
    rw [if_neg (by omega), if_neg (by omega)]
  · unfold AH.blk
    simp only [Tr.get_set, if_true]
end
end Go.Proofs.YthlgggcpokfmaaaDoor

/-
  expr: shape.
-/
namespace Go.Proofs.YthlgggcpokfmaaaDoor
open Go Ev
set_option linter.unusedVariables false
set_option linter.unusedSimpArgs false
noncomputable section
set_option maxRecDepth 20000

/-- The table lies in the heap. -/
def RowsIn (H : AH) : Prop := 0 < H.n ∧ H.cells 0 = some rowsCells
theorem RowsIn.keep {H H' : AH} (h : RowsIn H) (k : Keep H H') : RowsIn H' := ⟨Nat.lt_of_lt_of_le h.1 k.n, by rw [cells_keep k h.1]; exact h.2⟩

theorem rows_arity : ∀ (n : Nat), n < 16 → rowsCells[n * 3 + 2]? = some (.int .i64 (arity n : Int)) := by
  intro n hn
  match n, hn with
  | 0, _ => rfl | 1, _ => rfl | 2, _ => rfl | 3, _ => rfl | 4, _ => rfl | 5, _ => rfl | 6, _ => rfl | 7, _ => rfl
  | 8, _ => rfl | 9, _ => rfl | 10, _ => rfl | 11, _ => rfl | 12, _ => rfl | 13, _ => rfl | 14, _ => rfl | 15, _ => rfl
  | n + 16, h => omega

theorem iaRows {k : IntKind} {n : Nat} (hn : n < 16) : indexAddrV Tryd.prog 80 (.pointer (some ⟨0, 0, none⟩)) (.int k (n : Int)) = some (.pointer (some ⟨0, n * 3, none⟩)) := by
  have u : Tryd.prog.underlying 80 = some (.array 16 79) := by kernel_rfl
  have s : sizeT Tryd.prog 79 = some 3 := by kernel_rfl
  unfold indexAddrV
  simp only [u, s]
  rw [if_pos (by omega)]
  simp
theorem faRow (b o : Nat) : fieldAddrV Tryd.prog 79 (.pointer (some ⟨b, o, none⟩)) 2 = some (.pointer (some ⟨b, o + 2, none⟩)) := by kernel_rfl
theorem gRowsOk : Nat.blt 0 cfgR.ng = true := rfl
theorem load_arity {H : AH} (h : H.cells 0 = some rowsCells) {n : Nat} (hn : n < 16) : loadV Tryd.prog H 3 (.pointer (some ⟨0, n * 3 + 2, none⟩)) = some (.int .i64 (arity n : Int)) := load_cell aInt h (rows_arity n hn)

theorem lengthy_call {H : AH} {v : Value} {xs : List Nat} (h : Sl H v xs) (dx : Dig B64 xs) (lx : xs.length ≤ 17592186044416) : callI Tryd.prog cfgR 40 [v] H = some (.int .i64 (blen (dv B64 xs) : Int), H) := by
  obtain ⟨_, _, hc, rfl, rfl⟩ := length_spec h dx lx
  exact hc

theorem blen_zero {n : Nat} : blen n = 0 ↔ n = 0 := by
  unfold blen
  split <;> simp_all

theorem blen_small {xs : List Nat} (dx : Dig B64 xs) {L : Nat} (lx : xs.length ≤ L) : blen (dv B64 xs) ≤ 64 * L := by
  rcases Nat.eq_zero_or_pos (dv B64 xs) with h0 | h0
  · rw [h0]; exact Nat.zero_le _
  · have h1 := blen_ge (n := dv B64 xs) (by omega)
    have h2 := dv_lt dx
    have h3 : B64 ^ xs.length ≤ B64 ^ L := Nat.pow_le_pow_right (by decide) lx
    have h4 : B64 ^ L = 2 ^ (64 * L) := (Nat.pow_mul 2 64 L).symm
    rw [h4] at h3
    have := (Nat.pow_lt_pow_iff_right (a := 2) (by decide)).mp (Nat.lt_of_le_of_lt h1 (Nat.lt_of_lt_of_le h2 h3))
    omega

attribute [-simp] Int.natCast_add Int.natCast_mul Int.natCast_ediv Int.natCast_emod Int.natCast_pow
attribute [local simp] strip stripL LW' LR gW evOp oMove oAssign oPick oBinOp oUnOp oConvert oExtract oIndexAddr oIndex oLoad oStore oField oFieldAddr oSlice oMakeSlice oBuildSlice oBuild oAlloc oBox oNilCheck oCall opd opds optOpd plain plain1 Tr.get_set tmOf builtinV binV isShift sameKind undef resultV resOne packV ltNat calleeV parts unV DW grdOf heapOp LX isStore

theorem gtrB {x : Nat} : intBin .gtr .i64 (x : Int) 67108864 = some (.bool (decide (67108864 < x))) := by
  show some (Value.bool (decide ((x : Int) > 67108864))) = _
  congr 2
  exact decide_eq_decide.mpr (by omega)
theorem gtrZ {k : IntKind} {x : Nat} : intBin .gtr k (x : Int) 0 = some (.bool (decide (0 < x))) := by
  show some (Value.bool (decide ((x : Int) > 0))) = _
  congr 2
  exact decide_eq_decide.mpr (by omega)
theorem eqlZ {k : IntKind} {x : Nat} : intBin .eql k (x : Int) 0 = some (.bool (decide (x = 0))) := by
  show some (Value.bool ((x : Int) == 0)) = _
  congr 2
  by_cases h : x = 0
  · subst h; rfl
  · rw [decide_eq_false h]; simp; omega
theorem neqN {k : IntKind} {x y : Nat} : intBin .neq k (x : Int) (y : Int) = some (.bool (decide (x ≠ y))) := by
  show some (Value.bool ((x : Int) != (y : Int))) = _
  congr 2
  by_cases h : x = y
  · subst h; simp
  · rw [decide_eq_true h]; simp [bne]; omega

set_option maxHeartbeats 1000000 in
set_option maxRecDepth 20000 in
theorem shape_spec {H : AH} {vs : List Value} {op : Int} {neg : Bool} {abs den : List Nat} {args : List ET} (hE : Ex H vs (.node op neg abs den args)) (hR : RowsIn H) (da : Dig B64 abs) (dd : Dig B64 den) (la : abs.length ≤ 1048576) (ld : den.length ≤ 1048576) :
    CW Tryd.prog cfgR 34 [.agg vs.toArray] H fun v H' => Keep H H' ∧ v = .bool (ET.node op neg abs den args).good := by
  cases hE with
  | @mk _ _ va vd vx _ _ _ h1 h2 h3 =>
  refine CW_intro 74 (by decide) (by decide) Tryd.func34 rfl rfl ?_
  have hN : ∀ H' : AH, Keep (H.new 1 [.int .i64 op, .bool neg, va, vd, vx]) H' → Keep H H' := fun H' k => (Keep.new H 1 _).trans k
  have kB := Keep.new H 1 [.int .i64 op, .bool neg, va, vd, vx]
  have hcB := new_cells H 1 [.int .i64 op, .bool neg, va, vd, vx]
  have la1 := (h1.keep kB).len ltNat
  have ld1 := (h2.keep kB).len ltNat
  have hRB := hR.keep kB
  have c1 := lengthy_call (h1.keep kB) da (by omega)
  have c2 := lengthy_call (h2.keep kB) dd (by omega)
  have c1t := lengthy_call ((h1.keep kB).keep (keep_topT _)) da (by omega)
  have c2t := lengthy_call ((h2.keep kB).keep (keep_topT _)) dd (by omega)
  have b1 := blen_small da la
  have b2 := blen_small dd ld
  have lx := h3.len
  obtain ⟨HB, hHB⟩ : ∃ HB, HB = H.new 1 [.int .i64 op, .bool neg, va, vd, vx] := ⟨_, rfl⟩
  rw [← hHB] at kB hcB hRB c1 c2 c1t c2t
  have f0 := load_cell aOp (o := 0) hcB rfl
  have f1 := load_cell aBool (o := 1) hcB rfl
  have f2 := load_cell aNat (o := 2) hcB rfl
  have f3 := load_cell aNat (o := 3) hcB rfl
  have f4 := load_cell aExprs (o := 4) hcB rfl
  have g2 : loadV Tryd.prog HB.top 25 (.pointer (some ⟨H.n, 2, none⟩)) = some va := load_cell aNat (show HB.top.cells H.n = some _ from hcB) rfl
  have g3 : loadV Tryd.prog HB.top 25 (.pointer (some ⟨H.n, 3, none⟩)) = some vd := load_cell aNat (show HB.top.cells H.n = some _ from hcB) rfl
  obtain ⟨R, hRR⟩ : ∃ R : Bool, R = (ET.node op neg abs den args).good := ⟨_, rfl⟩
  rw [← hRR]
  simp only [ET.good] at hRR
  apply W_seq; intro d1 hd1
  apply W_region
  simp [Value.cells, ← hHB]
  show W _ _ d1 _ _; subst hd1
  apply W_seq; intro d1 hd1
  apply W_seq; intro d2 hd2
  have no : ∀ tm : Tr Value, tm.get 25 = some (.bool true) → R = false → W Tryd.prog cfgR d2 ⟨74, tm, HB⟩ (seqQ Tryd.prog cfgR d1 fun ex s => (ex = .norm ∨ ex = .ret) ∧ ∃ vs, resultV Tryd.prog s [.tmp 2] = some vs ∧ Keep H s.H ∧ packV vs = .bool R) := fun tm ht hno => by
    rw [hno]
    subst hd2
    refine W_cond (t := true) (by simp [ht]) ?_
    apply W_seq; intro b2 hb2
    apply W_region
    simp
    show W _ _ b2 _ _; subst hb2
    apply W_ret
    simp [seqQ]
    exact kB
  apply W_loads (by kernel_rfl)
  have e0 : intBin .lss .i64 op 0 = some (.bool (decide (op < 0))) := rfl
  have e1 : intBin .geq .i64 op 16 = some (.bool (decide (op ≥ 16))) := rfl
  by_cases o1 : op < 0
  · rw [decide_eq_true o1] at e0
    simp [faOp, f0, e0]
    show W _ _ d2 _ _
    exact no _ (by simp) (by rw [hRR, decide_eq_false (by omega), Bool.false_and])
  rw [decide_eq_false o1] at e0
  by_cases o2 : op ≥ 16
  · rw [decide_eq_true o2] at e1
    simp [faOp, f0, e0, e1]
    show W _ _ d2 _ _
    exact no _ (by simp) (by rw [hRR, decide_eq_false (by omega), Bool.false_and])
  rw [decide_eq_false o2] at e1
  obtain ⟨n, rfl⟩ : ∃ n : Nat, op = (n : Int) := ⟨op.toNat, by omega⟩
  have hn : n < 16 := by omega
  rw [Int.toNat_natCast] at hRR
  have ld2 := load_arity hRB.2 hn
  have e2 : intBin .neq .i64 (args.length : Int) (arity n : Int) = some (.bool (decide (args.length ≠ arity n))) := neqN
  by_cases o3 : args.length = arity n
  · rw [decide_eq_false (fun h => h o3)] at e2
    simp [faOp, faArgs, f0, f4, e0, e1, lx, gRowsOk, iaRows hn, faRow, ld2, e2]
    show W _ _ d2 _ _; subst hd2
    refine W_cond (t := false) (by simp) ?_
    apply W_skip
    show W _ _ d1 _ _; subst hd1
    rw [decide_eq_true (show 0 ≤ (n : Int) ∧ (n : Int) < 16 ∧ args.length = arity n from ⟨by omega, by omega, o3⟩), Bool.true_and] at hRR
    clear no
    have e3 : intBin .eql .i64 (n : Int) 0 = some (.bool (decide (n = 0))) := eqlZ
    apply W_seq; intro d1 hd1
    apply W_seq; intro d2 hd2
    apply W_region
    simp [faOp, f0, e3]
    show W _ _ d2 _ _; subst hd2
    by_cases h0 : n = 0
    · refine W_cond (t := true) (by simp [h0]) ?_
      rw [if_pos (by omega)] at hRR
      have g1 : intBin .gtr .i64 (blen (dv B64 abs) : Int) 67108864 = some (.bool false) := by rw [gtrB, decide_eq_false (by omega)]
      have g4 : intBin .gtr .i64 (blen (dv B64 den) : Int) 67108864 = some (.bool false) := by rw [gtrB, decide_eq_false (by omega)]
      have g5 : intBin .gtr .i64 (blen (dv B64 den) : Int) 0 = some (.bool R) := by
        rw [gtrZ, hRR]
        congr 2
        exact decide_eq_decide.mpr (by have := blen_zero (n := dv B64 den); omega)
      apply W_seq; intro d3 hd3
      apply W_reads (by kernel_rfl)
      simp [faNum, faN, faD, faAbs, g2, g3, c1t, c2t]
      show W _ _ d3 _ _; subst hd3
      apply W_seq; intro d3 hd3
      apply W_seq; intro d4 hd4
      apply W_region
      simp [g1, g4]
      show W _ _ d4 _ _; subst hd4
      refine W_cond (t := false) (by simp) ?_
      apply W_skip
      show W _ _ d3 _ _; subst hd3
      apply W_seq; intro d4 hd4
      apply W_region
      simp [g5]
      show W _ _ d4 _ _; subst hd4
      apply W_ret
      simp [seqQ]
      exact kB
    · refine W_cond (t := false) (by simp [h0]) ?_
      rw [if_neg (by omega)] at hRR
      apply W_skip
      show W _ _ d1 _ _; subst hd1
      apply W_seq; intro d3 hd3
      apply W_region
      have e5 : intBin .eql .i64 (abs.length : Int) 0 = some (.bool (decide (abs.length = 0))) := eqlZ
      have e6 : intBin .eql .i64 (den.length : Int) 0 = some (.bool (decide (den.length = 0))) := eqlZ
      by_cases i1 : abs.length = 0
      · rw [decide_eq_true i1] at e5
        by_cases i2 : den.length = 0
        · rw [decide_eq_true i2] at e6
          simp [faNum, faN, faD, faAbs, faNeg, f1, f2, f3, la1, ld1, e5, e6]
          show W _ _ d3 _ _; subst hd3
          apply W_ret
          simp
          exact ⟨kB, by rw [hRR]; simp [i1, i2]⟩
        · rw [decide_eq_false i2] at e6
          simp [faNum, faN, faD, faAbs, faNeg, f1, f2, f3, la1, ld1, e5, e6]
          show W _ _ d3 _ _; subst hd3
          apply W_ret
          simp
          exact ⟨kB, by rw [hRR]; simp [i1, i2]⟩
      · rw [decide_eq_false i1] at e5
        simp [faNum, faN, faD, faAbs, faNeg, f1, f2, f3, la1, ld1, e5]
        show W _ _ d3 _ _; subst hd3
        apply W_ret
        simp
        exact ⟨kB, by rw [hRR]; simp [i1]⟩
  · rw [decide_eq_true o3] at e2
    simp [faOp, faArgs, f0, f4, e0, e1, lx, gRowsOk, iaRows hn, faRow, ld2, e2]
    show W _ _ d2 _ _
    exact no _ (by simp) (by rw [hRR, decide_eq_false (by omega), Bool.false_and])
end
end Go.Proofs.YthlgggcpokfmaaaDoor
