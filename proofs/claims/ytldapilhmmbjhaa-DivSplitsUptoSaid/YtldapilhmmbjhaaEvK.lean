/-
  THE ENGINE, part K: regions that draw their order: the relation that holds between whatever has been done and the evaluator's own order.
-/
import Derived.Test.YtldapilhmmbjhaaEvJ
namespace Go.Proofs.Ytldapilhmmbjhaa.Ev
open Go Go.RowKit
set_option linter.unusedVariables false
noncomputable section
set_option linter.unusedSimpArgs false

section
variable (ops : Array Oper) (st : Nat → St) (S0 : Nat → Prop)
def Sk (m : Nat) : Nat → Prop := fun j => S0 j ∨ ∃ l, (l = m ∨ bef ops m l) ∧ (st l).H.n ≤ j ∧ j < (st (l + 1)).H.n
def Spre (i : Nat) : Nat → Prop := fun j => S0 j ∨ ∃ l, bef ops i l ∧ (st l).H.n ≤ j ∧ j < (st (l + 1)).H.n
def SDs (D : Nat → Prop) : Nat → Prop := fun j => S0 j ∨ ∃ l, l < ops.size ∧ D l ∧ (st l).H.n ≤ j ∧ j < (st (l + 1)).H.n
def live (D : Nat → Prop) (j : Nat) : Prop := j < (st 0).H.n ∨ ∃ l, l < ops.size ∧ D l ∧ (st l).H.n ≤ j ∧ j < (st (l + 1)).H.n
def isW (m : Nat) : Prop := ∃ o, ops[m]? = some o ∧ wantedV ops (st m).tm o = some true ∧ heapOp o.op = true

variable (q : Nat → Bool)
def R1 (D : Nat → Prop) (HD : AH) : Prop :=
  (∀ m, isW ops st m → D m → q (m + 1) = false) ∧ HD.lw = (st 0).H.lw ∧ (∀ j, ¬ live ops st D j → HD.blk j = .dead) ∧
  (∀ i, i ≤ ops.size → q i = false → ∀ j, j < (st i).H.n → live ops st D j → HD.blk j = (st i).H.blk j) ∧
  (∀ m, m < ops.size → D m → ∀ j, (st m).H.n ≤ j → j < (st (m + 1)).H.n → InSB (Sk ops st S0 m) (HD.blk j))
def R2 (D : Nat → Prop) (HD : AH) : Prop :=
  ∃ h, h ≤ ops.size ∧ q h = true ∧ (∀ m, isW ops st m → (D m ↔ m < h)) ∧ HD.lw = (st h).H.lw ∧ ∀ j, HD.blk j = (st h).H.blk j

variable (val : Nat → Value) (B : Nat) (L0 : Nat → Loc) (w0 : World)
structure ID (D : Nat → Prop) (L : Nat → Loc) (HD : AH) (a : Act) (w : World) : Prop where
  agree : ∀ j, S0 j → L j = L0 j
  inv : Inv B (SDs ops st S0 D) L HD w
  hn : HD.n = (st ops.size).H.n
  keep : ∀ j, j < (st 0).H.n → j < HD.lw → HD.blk j = (st 0).H.blk j
  back : ∀ j, j < (st 0).H.n → ∀ sz cs, HD.blk j = .rw sz cs → ∃ cs0, (st 0).H.blk j = .rw sz cs0
  newg : ∀ j, (st 0).H.n ≤ j → ∀ sz cs, HD.blk j = .rw sz cs → w0.heap.size ≤ (L j).g ∨ ∃ i0 sz0 cs0, (st 0).H.blk i0 = .rw sz0 cs0 ∧ (L0 i0).g = (L j).g ∧ HD.lw ≤ i0
  os : w.os = w0.os
  tape : w.tape = w0.tape
  output : w.output = w0.output
  wsize : w0.heap.size ≤ w.heap.size
  frame : ∀ g, g < w0.heap.size → w.heap[g]? = w0.heap[g]? ∨ ∃ i sz cs, (st 0).H.blk i = .rw sz cs ∧ (L0 i).g = g ∧ HD.lw ≤ i
  lwle : HD.lw ≤ (st 0).H.lw
  defers : a.defers = []
  size : a.tmps.size = (st 0).k
  v0 : ∀ t v, (∀ m, m < ops.size → D m → dstOf ops m ≠ some t) → (st 0).tm.get t = some v → t < (st 0).k ∧ VR S0 L v (a.tmps.getD t undef)
  v1 : ∀ m t, m < ops.size → D m → dstOf ops m = some t → (∀ m', m' < ops.size → D m' → m < m' → dstOf ops m' ≠ some t) → VR (Sk ops st S0 m) L (val m) (a.tmps.getD t undef)
  regime : R1 ops st S0 q D HD ∨ R2 ops st q D HD
end

theorem Inv.congr {B : Nat} {S : Nat → Prop} {L : Nat → Loc} {H H' : AH} {w : World} (hI : Inv B S L H w) (hb : ∀ j, H'.blk j = H.blk j) (hn : H'.n = H.n) : Inv B S L H' w :=
  ⟨fun i sz cs h => hI.ro i sz cs (by rw [← hb]; exact h), fun i sz cs h => hI.rw i sz cs (by rw [← hb]; exact h), fun i j a b c d h h' e => hI.dj i j a b c d (by rw [← hb]; exact h) (by rw [← hb]; exact h') e,
   fun i h => by rw [hn]; exact hI.bd i h, hI.base⟩

/-- The world's old blocks stay. -/
theorem Inv.world {B : Nat} {S : Nat → Prop} {L : Nat → Loc} {H : AH} {w w' : World} (hI : Inv B S L H w) (hs : w.heap.size ≤ w'.heap.size) (hb : ∀ g, g < w.heap.size → w'.heap[g]? = w.heap[g]?) : Inv B S L H w' := by
  refine ⟨fun i sz cs h => ?_, fun i sz cs h => ?_, hI.dj, hI.bd, Nat.le_trans hI.base hs⟩
  · obtain ⟨h1, h2, h3, h4⟩ := hI.ro i sz cs h
    refine ⟨h1, h2, h3, fun k v hk => ?_⟩
    obtain ⟨v', h5, h6⟩ := h4 k v hk
    exact ⟨v', by rw [← h5]; exact World.cell?_of_block (w := w) (hb _ (Nat.lt_of_lt_of_le h2 hI.base)), h6⟩
  · obtain ⟨h1, h2, h3, C, e, h4, h5, h6⟩ := hI.rw i sz cs h
    exact ⟨h1, h2, h3, C, e, by rw [hb _ (size_lt_of_heap h4)]; exact h4, h5, h6⟩

section
variable {P : Program} {C : Cfg} {call : FuncId → List Value → AH → Option (Value × AH)} {ops : Array Oper} {st : Nat → St} {val : Nat → Value} {q : Nat → Bool} {ms : Nat → List (Nat × Nat × Nat)} {s s' : St}
variable {B : Nat} {S0 : Nat → Prop} {L0 : Nat → Loc} {w0 : World} {D : Nat → Prop} {L : Nat → Loc} {HD : AH} {a : Act} {w : World}

theorem Sk_pre (hR : RegOk ops) {i m : Nat} (hi : i < ops.size) (h : bef ops i m) : ∀ j, Sk ops st S0 m j → Spre ops st S0 i j := by
  rintro j (h1 | ⟨l, h1, h2⟩)
  · exact .inl h1
  · refine .inr ⟨l, ?_, h2⟩
    rcases h1 with h1 | h1
    · rw [h1]; exact h
    · exact hR.bef_trans m l (size_some hi) h h1

theorem pre_D (hR : RegOk ops) {i : Nat} (hi : i < ops.size) (h : ∀ m, bef ops i m → D m) : ∀ j, Spre ops st S0 i j → SDs ops st S0 D j := by
  rintro j (h1 | ⟨l, h1, h2⟩)
  · exact .inl h1
  · exact .inr ⟨l, Nat.lt_trans (hR.bef_lt l (size_some hi) h1) hi, h l h1, h2⟩

theorem Sk_D (hR : RegOk ops) (hcl : ∀ i m, i < ops.size → D i → bef ops i m → D m) {m : Nat} (hm : m < ops.size) (hD : D m) : ∀ j, Sk ops st S0 m j → SDs ops st S0 D j := by
  rintro j (h1 | ⟨l, h1, h2⟩)
  · exact .inl h1
  · rcases h1 with h1 | h1
    · subst h1; exact .inr ⟨l, hm, hD, h2⟩
    · exact .inr ⟨l, Nat.lt_trans (hR.bef_lt l (size_some hm) h1) hm, hcl m l hm hD h1, h2⟩

/-- What an operation sees of the temporaries. -/
theorem ID.looks (T : Trace P C call ops st val q ms s s') (hR : RegOk ops) (h : ID ops st S0 q val B L0 w0 D L HD a w) {i : Nat} {o : Oper} (ho : ops[i]? = some o) (hDi : ¬ D i) (hpre : ∀ m, bef ops i m → D m)
    (hcl : ∀ i m, i < ops.size → D i → bef ops i m → D m) {t : Nat} (ht : t ∈ o.looksAt ops) {v : Value} (hv : (st i).tm.get t = some v) : t < a.tmps.size ∧ VR (Spre ops st S0 i) L v (a.tmps.getD t undef) := by
  have hi := lt_of_some ho
  have later : ∀ m', m' < ops.size → D m' → i < m' → dstOf ops m' ≠ some t := fun m' hm' hD' hlt e => by
    obtain ⟨o', ho'⟩ := size_some hm'
    rcases hR.apart i m' o o' ho ho' hlt with h1 | h1
    · exact hDi (hcl m' i hm' hD' h1)
    · exact (Oper.apart_spec h1).2.2 t (by simpa [dstOf, ho'] using e) ht
  rw [h.size]
  rcases T.tm i (Nat.le_of_lt hi) t v hv with ⟨m, h1, h2, h3, h4⟩ | ⟨h1, h2⟩
  · obtain ⟨om, hom⟩ := size_some (ops := ops) (i := m) (by omega)
    have hb : bef ops i m := by
      rcases hR.apart m i om o hom ho h1 with h5 | h5
      · exact h5
      · exact absurd ht ((Oper.apart_spec h5).1 t (by simpa [dstOf, hom] using h2))
    refine ⟨T.dst_lt h2, ?_⟩
    have := h.v1 m t (by omega) (hpre m hb) h2 (fun m' hm' hD' hlt => by
      rcases Nat.lt_or_ge m' i with h6 | h6
      · exact h4 m' hlt h6
      · rcases Nat.lt_or_ge i m' with h7 | h7
        · exact later m' hm' hD' h7
        · obtain rfl : m' = i := by omega
          exact absurd hD' hDi)
    rw [h3] at this
    exact this.mono (Sk_pre hR hi hb) (fun _ _ => rfl)
  · obtain ⟨h3, h4⟩ := h.v0 t v (fun m hm hD' => by
      rcases Nat.lt_or_ge m i with h6 | h6
      · exact h1 m h6
      · rcases Nat.lt_or_ge i m with h7 | h7
        · exact later m hm hD' h7
        · obtain rfl : m = i := by omega
          exact absurd hD' hDi) h2
    exact ⟨h3, h4.mono (fun _ h => .inl h) (fun _ _ => rfl)⟩

theorem put_getD {i : Nat} {o : Oper} (T : Trace P C call ops st val q ms s s') (ho : ops[i]? = some o) (hsz : a.tmps.size = (st 0).k) (v' : Value) (t : Nat) :
    (a.put o.dst v').tmps.getD t undef = if dstOf ops i = some t then v' else a.tmps.getD t undef := by
  have hd : dstOf ops i = o.dst := by simp [dstOf, ho]
  rw [hd]
  cases hdst : o.dst with
  | none => simp [Act.put]
  | some d =>
    simp only [Act.put]
    by_cases e : d = t
    · subst e
      rw [if_pos rfl, getD_set_self _ _ _ _ (by rw [hsz]; exact T.dst_lt (by rw [hd, hdst]))]
    · rw [if_neg (by intro h; injection h with h; exact e h), getD_set_ne' _ _ _ _ _ e]

/-- The temporaries behind one more operation. -/
theorem ID.slots (T : Trace P C call ops st val q ms s s') (hR : RegOk ops) (h : ID ops st S0 q val B L0 w0 D L HD a w) {i : Nat} {o : Oper} (ho : ops[i]? = some o) (hDi : ¬ D i)
    (hcl : ∀ i m, i < ops.size → D i → bef ops i m → D m) {L' : Nat → Loc} (hL : ∀ j, SDs ops st S0 D j → L' j = L j) {v' : Value} (hv : VR (Sk ops st S0 i) L' (val i) v') :
    (a.put o.dst v').defers = [] ∧ (a.put o.dst v').tmps.size = (st 0).k ∧
    (∀ t v, (∀ m, m < ops.size → (D m ∨ m = i) → dstOf ops m ≠ some t) → (st 0).tm.get t = some v → t < (st 0).k ∧ VR S0 L' v ((a.put o.dst v').tmps.getD t undef)) ∧
    (∀ m t, m < ops.size → (D m ∨ m = i) → dstOf ops m = some t → (∀ m', m' < ops.size → (D m' ∨ m' = i) → m < m' → dstOf ops m' ≠ some t) → VR (Sk ops st S0 m) L' (val m) ((a.put o.dst v').tmps.getD t undef)) := by
  have hi := lt_of_some ho
  refine ⟨?_, ?_, fun t v h1 h2 => ?_, fun m t hm hD hd hlast => ?_⟩
  · have := h.defers; cases hdst : o.dst <;> simp [Act.put, this]
  · have := h.size; cases hdst : o.dst <;> simp [Act.put, this]
  · rw [put_getD T ho h.size, if_neg (h1 i hi (.inr rfl))]
    obtain ⟨h3, h4⟩ := h.v0 t v (fun m hm hD => h1 m hm (.inl hD)) h2
    exact ⟨h3, h4.mono (fun _ h => h) (fun j hj => hL j (.inl hj))⟩
  · rw [put_getD T ho h.size]
    by_cases hmi : m = i
    · subst hmi; rw [if_pos hd]; exact hv
    · have hDm : D m := hD.resolve_right hmi
      have hne : dstOf ops i ≠ some t := by
        intro e
        obtain ⟨om, hom⟩ := size_some hm
        rcases Nat.lt_or_ge m i with h1 | h1
        · exact hlast i hi (.inr rfl) h1 e
        · have hlt : i < m := by omega
          rcases hR.apart i m o om ho hom hlt with h2 | h2
          · exact hDi (hcl m i hm hDm h2)
          · exact (Oper.apart_spec h2).2.1 t (by simpa [dstOf, ho] using e) (by simpa [dstOf, hom] using hd)
      rw [if_neg hne]
      exact (h.v1 m t hm hDm hd (fun m' hm' hD' => hlast m' hm' (.inl hD'))).mono (fun _ h => h) (fun j hj => hL j (Sk_D hR hcl hm hDm j hj))

/-- An operation that looks at no heap, or isn't wanted. -/
theorem ID.quiet (T : Trace P C call ops st val q ms s s') (hR : RegOk ops) (h : ID ops st S0 q val B L0 w0 D L HD a w) {i : Nat} {o : Oper} (ho : ops[i]? = some o) (hDi : ¬ D i)
    (hcl : ∀ i m, i < ops.size → D i → bef ops i m → D m) (hH : (st (i + 1)).H = (st i).H) (hq : q (i + 1) = q i) (hW : ¬ isW ops st i) {v' : Value} (hv : VR (Sk ops st S0 i) L (val i) v') {w' : World}
    (hs : w.heap.size ≤ w'.heap.size) (hb : ∀ g, g < w.heap.size → w'.heap[g]? = w.heap[g]?) (e1 : w'.os = w.os) (e2 : w'.tape = w.tape) (e3 : w'.output = w.output) :
    ID ops st S0 q val B L0 w0 (fun m => D m ∨ m = i) L HD (a.put o.dst v') w' := by
  have hi := lt_of_some ho
  have hsd : ∀ j, SDs ops st S0 (fun m => D m ∨ m = i) j ↔ SDs ops st S0 D j := fun j => by
    constructor
    · rintro (h1 | ⟨l, h1, h2 | h2, h3, h4⟩)
      · exact .inl h1
      · exact .inr ⟨l, h1, h2, h3, h4⟩
      · subst h2; rw [hH] at h4; omega
    · rintro (h1 | ⟨l, h1, h2, h3⟩)
      · exact .inl h1
      · exact .inr ⟨l, h1, .inl h2, h3⟩
  have hlive : ∀ j, live ops st (fun m => D m ∨ m = i) j ↔ live ops st D j := fun j => by
    constructor
    · rintro (h1 | ⟨l, h1, h2 | h2, h3, h4⟩)
      · exact .inl h1
      · exact .inr ⟨l, h1, h2, h3, h4⟩
      · subst h2; rw [hH] at h4; omega
    · rintro (h1 | ⟨l, h1, h2, h3⟩)
      · exact .inl h1
      · exact .inr ⟨l, h1, .inl h2, h3⟩
  obtain ⟨s1, s2, s3, s4⟩ := h.slots T hR ho hDi hcl (fun _ _ => rfl) hv
  refine ⟨h.agree, (h.inv.world hs hb).mono (fun j hj => (hsd j).mpr hj) (fun j hj => h.inv.bd j ((hsd j).mp hj)), h.hn, h.keep, h.back, h.newg, e1.trans h.os, e2.trans h.tape, e3.trans h.output, Nat.le_trans h.wsize hs, fun g hg => ?_, h.lwle, s1, s2, s3, s4, ?_⟩
  · rcases h.frame g hg with h1 | h1
    · exact .inl ((hb g (Nat.lt_of_lt_of_le hg h.wsize)).trans h1)
    · exact .inr h1
  · rcases h.regime with ⟨r1, r2, r3, r4, r5⟩ | ⟨hh, r1, r2, r3, r4, r5⟩
    · refine .inl ⟨fun m hm hD => ?_, r2, fun j hj => r3 j (fun h => hj ((hlive j).mpr h)), fun k hk hqk j hj hl => r4 k hk hqk j hj ((hlive j).mp hl), fun m hm hD j h1 h2 => ?_⟩
      · rcases hD with hD | hD
        · exact r1 m hm hD
        · subst hD; exact absurd hm hW
      · rcases hD with hD | hD
        · exact r5 m hm hD j h1 h2
        · subst hD; rw [hH] at h2; omega
    · exact .inr ⟨hh, r1, r2, fun m hm => ⟨fun hD => by
        rcases hD with hD | hD
        · exact (r3 m hm).mp hD
        · subst hD; exact absurd hm hW, fun hlt => .inl ((r3 m hm).mpr hlt)⟩, r4, r5⟩

theorem Trace.isW_of (T : Trace P C call ops st val q ms s s') {l : Nat} (hl : l < ops.size) (h : (st l).H.n < (st (l + 1)).H.n) : isW ops st l := by
  obtain ⟨o, ho⟩ := size_some hl
  rcases (T.step l o ho).1 with h1 | h1 | h1
  · rw [h1.1] at h; omega
  · exact ⟨o, ho, h1.1, h1.2.1⟩
  · exact ⟨o, ho, h1.1, h1.2.1⟩

theorem Trace.q_false (T : Trace P C call ops st val q ms s s') : ∀ (i : Nat), i ≤ ops.size → (∀ m, m < i → isW ops st m → q (m + 1) = false) → q i = false
  | 0, _, _ => T.q0
  | i + 1, hi, h => by
    obtain ⟨o, ho⟩ := size_some (ops := ops) (i := i) (by omega)
    rcases (T.step i o ho).1 with h1 | h1 | h1
    · rw [h1.2.1]; exact T.q_false i (by omega) (fun m hm => h m (by omega))
    · exact h1.2.2.2.1
    · exact h i (by omega) ⟨o, ho, h1.1, h1.2.1⟩

theorem Trace.still (T : Trace P C call ops st val q ms s s') {h : Nat} : ∀ (i : Nat), h ≤ i → i ≤ ops.size → (∀ m, h ≤ m → m < i → ¬ isW ops st m) → (st i).H = (st h).H
  | 0, h1, _, _ => by obtain rfl : h = 0 := by omega
                      rfl
  | i + 1, h1, hi, hn => by
    rcases Nat.lt_or_ge h (i + 1) with h' | h'
    · have ih := T.still i (by omega) (by omega) (fun m a b => hn m a (by omega))
      obtain ⟨o, ho⟩ := size_some (ops := ops) (i := i) (by omega)
      rcases (T.step i o ho).1 with h2 | h2 | h2
      · exact h2.1.trans ih
      · exact absurd ⟨o, ho, h2.1, h2.2.1⟩ (hn i (by omega) (by omega))
      · exact absurd ⟨o, ho, h2.1, h2.2.1⟩ (hn i (by omega) (by omega))
    · obtain rfl : h = i + 1 := by omega
      rfl

theorem alone_spec {i k : Nat} {o : Oper} (h : alone ops i = true) (ho : ops[k]? = some o) (hk : k ≠ i) (hh : heapOp o.op = true) : (k < i → bef ops i k) ∧ (i < k → bef ops k i) := by
  unfold alone at h
  rw [List.all_eq_true] at h
  have := h k (by simpa using lt_of_some ho)
  rw [ho] at this
  simp only [hh, Bool.not_true, Bool.false_or, Bool.or_eq_true] at this
  rcases this with h1 | h1
  · exact absurd (Nat.eq_of_beq_eq_true h1) hk
  · refine ⟨fun hlt => ?_, fun hlt => ?_⟩
    · have : Nat.blt k i = true := by rw [Nat.blt_eq]; exact hlt
      rw [this, cond_true] at h1
      exact h1
    · have : Nat.blt k i = false := by
        cases hb : Nat.blt k i with
        | false => rfl
        | true => rw [Nat.blt_eq] at hb; omega
      rw [this, cond_false] at h1
      exact h1

def hid (ops : Array Oper) (st : Nat → St) (ms : Nat → List (Nat × Nat × Nat)) (i : Nat) : AH := { n := (st i).H.n, lw := (st i).H.n, t := hideT (st i).H.t (hidden ((before ops).getD i 0) (ms i)) }

/-- What a growing operation sees of the heap lies in the world. -/
theorem ID.sees (T : Trace P C call ops st val q ms s s') (hR : RegOk ops) (hI0 : Inv B S0 L0 (st 0).H w0) (h : ID ops st S0 q val B L0 w0 D L HD a w) (hr : R1 ops st S0 q D HD) {i : Nat} (hi : i < ops.size)
    (hpre : ∀ m, bef ops i m → D m) (hqi : q i = false) : Inv B (Spre ops st S0 i) L (hid ops st ms i) w := by
  obtain ⟨r1, r2, r3, r4, r5⟩ := hr
  have hdead : ∀ j, (st 0).H.n ≤ j → (st 0).H.blk j = .dead := fun j hj => by
    cases hb : (st 0).H.blk j with
    | dead => rfl
    | ro sz cs => exact absurd (hI0.bd j (hI0.ro j sz cs hb).1) (by omega)
    | rw sz cs => exact absurd (hI0.bd j (hI0.rw j sz cs hb).1) (by omega)
  obtain ⟨g1, g2, g3⟩ := T.grown hdead i (Nat.le_of_lt hi) hqi
  have hsub := pre_D (S0 := S0) (st := st) hR hi hpre
  have key : ∀ j b, (hid ops st ms i).blk j = b → b ≠ .dead → HD.blk j = b ∧ Spre ops st S0 i j ∧ InSB (Spre ops st S0 i) b := by
    intro j b hb hne
    have hb2 : ((if j ∈ hidden ((before ops).getD i 0) (ms i) then Blk.dead else (st i).H.blk j) : Blk) = b := by rw [← hb]; exact (blk_hideT _ _ _ _ j).symm
    by_cases hj : j ∈ hidden ((before ops).getD i 0) (ms i)
    · rw [if_pos hj] at hb2; exact absurd hb2.symm hne
    · rw [if_neg hj] at hb2
      have hlt : j < (st i).H.n := by
        rcases Nat.lt_or_ge j (st i).H.n with h' | h'
        · exact h'
        · rw [g2 j h'] at hb2; exact absurd hb2.symm hne
      rcases Nat.lt_or_ge j (st 0).H.n with h0 | h0
      · have e0 := g3 0 (Nat.zero_le _) j h0
        refine ⟨(r4 i (Nat.le_of_lt hi) hqi j hlt (.inl h0)).trans hb2, .inl ?_, ?_⟩
        · rw [e0] at hb2
          cases hbb : (st 0).H.blk j with
          | dead => rw [hbb] at hb2; exact absurd hb2.symm hne
          | ro sz cs => exact (hI0.ro j sz cs hbb).1
          | rw sz cs => exact (hI0.rw j sz cs hbb).1
        · rw [← hb2, e0]; exact (hI0.inSB j).mono (fun _ h => .inl h)
      · obtain ⟨m, h1, h2, h3⟩ := T.range h0 (Nat.le_of_lt hi) hlt
        have hbit : bef ops i m := by
          unfold bef
          cases hbt : ((before ops).getD i 0).testBit m with
          | true => rfl
          | false => exact absurd ((mem_hidden _ _ _).mpr ⟨m, _, _, (T.ms_iff i (Nat.le_of_lt hi) m _ _).mpr ⟨h1, rfl, rfl, by omega⟩, hbt, h2, h3⟩) hj
        have hDm := hpre m hbit
        have hHD := (r4 i (Nat.le_of_lt hi) hqi j hlt (.inr ⟨m, by omega, hDm, h2, h3⟩)).trans hb2
        refine ⟨hHD, .inr ⟨m, hbit, h2, h3⟩, ?_⟩
        rw [← hHD]
        exact (r5 m (by omega) hDm j h2 h3).mono (Sk_pre hR hi hbit)
  refine ⟨fun j sz cs hb => ?_, fun j sz cs hb => ?_, fun j j' sz cs sz' cs' hb hb' e => ?_, fun j hj => ?_, h.inv.base⟩
  · obtain ⟨k1, k2, k3⟩ := key j _ hb (by intro h; cases h)
    obtain ⟨h1, h2, h3, h4⟩ := h.inv.ro j sz cs k1
    refine ⟨k2, h2, h3, fun k v hk => ?_⟩
    obtain ⟨v', h5, h6⟩ := h4 k v hk
    exact ⟨v', h5, h6.narrow (k3 k v hk)⟩
  · obtain ⟨k1, k2, k3⟩ := key j _ hb (by intro h; cases h)
    obtain ⟨h1, h2, h3, C', e, h4, h5, h6⟩ := h.inv.rw j sz cs k1
    refine ⟨k2, h2, h3, C', e, h4, h5, fun k v hk => ?_⟩
    obtain ⟨v', h7, h8⟩ := h6 k v hk
    exact ⟨v', h7, h8.narrow (k3 k v hk)⟩
  · exact h.inv.dj j j' sz cs sz' cs' (key j _ hb (by intro h; cases h)).1 (key j' _ hb' (by intro h; cases h)).1 e
  · show j < (st i).H.n
    rcases hj with hj | ⟨l, h1, h2, h3⟩
    · exact Nat.lt_of_lt_of_le (hI0.bd j hj) (T.n_mono (Nat.zero_le _) (Nat.le_of_lt hi))
    · have := hR.bef_lt l (size_some hi) h1
      exact Nat.lt_of_lt_of_le h3 (T.n_mono (by omega) (Nat.le_of_lt hi))

/-- A growing operation. -/
theorem ID.grow (T : Trace P C call ops st val q ms s s') (hR : RegOk ops) (hI0 : Inv B S0 L0 (st 0).H w0) (h : ID ops st S0 q val B L0 w0 D L HD a w) (hr : R1 ops st S0 q D HD) {i : Nat} {o : Oper} (ho : ops[i]? = some o) (hDi : ¬ D i)
    (hpre : ∀ m, bef ops i m → D m) (hcl : ∀ i m, i < ops.size → D i → bef ops i m → D m) (hqi : q i = false) (hq1 : q (i + 1) = false) {H2 : AH} (hn2 : (st i).H.n ≤ H2.n) (hlw : (st i).H.n ≤ H2.lw) (hE : (st (i + 1)).H.n = H2.n)
    (hblk : ∀ j, (st (i + 1)).H.blk j = if (st i).H.n ≤ j ∧ j < H2.n then H2.blk j else (st i).H.blk j)
    {v' : Value} {w' : World} (hg : Good B (Spre ops st S0 i) L (hid ops st ms i) w (val i) H2 v' w') :
    ∃ L2 HD2, ID ops st S0 q val B L0 w0 (fun m => D m ∨ m = i) L2 HD2 (a.put o.dst v') w' := by
  have hi := lt_of_some ho
  obtain ⟨r1, r2, r3, r4, r5⟩ := hr
  obtain ⟨L', gI, gF, gV⟩ := hg
  have hMn : (hid ops st ms i).n = (st i).H.n := rfl
  rw [hMn] at gI gV
  have hdead : ∀ j, (st 0).H.n ≤ j → (st 0).H.blk j = .dead := fun j hj => by
    cases hb : (st 0).H.blk j with
    | dead => rfl
    | ro sz cs => exact absurd (hI0.bd j (hI0.ro j sz cs hb).1) (by omega)
    | rw sz cs => exact absurd (hI0.bd j (hI0.rw j sz cs hb).1) (by omega)
  have hM : Inv B (Spre ops st S0 i) L (hid ops st ms i) w := ID.sees T hR hI0 h ⟨r1, r2, r3, r4, r5⟩ hi hpre hqi
  have hsub := pre_D (S0 := S0) (st := st) hR hi hpre
  have hn0 : (st 0).H.n ≤ (st i).H.n := T.n_mono (Nat.zero_le _) (Nat.le_of_lt hi)
  have hEN : H2.n ≤ (st ops.size).H.n := by rw [← hE]; exact T.n_mono (by omega) (Nat.le_refl _)
  have hold : ∀ g, g < w.heap.size → w'.heap[g]? = w.heap[g]? := fun g hg => by
    rcases gF.frame g hg with h1 | ⟨j, sz, cs, h1, h2, h3⟩
    · exact h1
    · have := hM.lt h1; rw [hMn] at this; omega
  have hnewg : ∀ j, (st i).H.n ≤ j → ∀ sz cs, H2.blk j = .rw sz cs → w.heap.size ≤ (L' j).g := fun j hj sz cs hb => by
    rcases gF.newg j hj sz cs hb with h1 | ⟨i0, sz0, cs0, h1, h2, h3⟩
    · exact h1
    · have := hM.lt h1; rw [hMn] at this; omega
  have hout : ∀ j, SDs ops st S0 D j → ¬ ((st i).H.n ≤ j ∧ j < H2.n) := by
    rintro j (h1 | ⟨l, h1, h2, h3, h4⟩) ⟨h5, h6⟩
    · have := hI0.bd j h1; omega
    · rcases Nat.lt_or_ge l i with h7 | h7
      · have := T.n_mono (i := l + 1) (j := i) (by omega) (by omega); omega
      · rcases Nat.lt_or_ge i l with h8 | h8
        · have := T.n_mono (i := i + 1) (j := l) (by omega) (by omega); omega
        · obtain rfl : l = i := by omega
          exact hDi h2
  let L2 : Nat → Loc := fun j => if (st i).H.n ≤ j ∧ j < H2.n then L' j else L j
  have hL2 : ∀ j, SDs ops st S0 D j → L2 j = L j := fun j hj => if_neg (hout j hj)
  have hL2' : ∀ j, ext (Spre ops st S0 i) (st i).H.n H2.n j → L2 j = L' j := by
    rintro j (hj | hj)
    · rw [hL2 j (hsub j hj), gF.agree j hj]
    · exact if_pos hj
  have hSD' : ∀ j, SDs ops st S0 (fun m => D m ∨ m = i) j ↔ SDs ops st S0 D j ∨ ((st i).H.n ≤ j ∧ j < H2.n) := fun j => by
    constructor
    · rintro (h1 | ⟨l, h1, h2 | h2, h3, h4⟩)
      · exact .inl (.inl h1)
      · exact .inl (.inr ⟨l, h1, h2, h3, h4⟩)
      · subst h2; exact .inr ⟨h3, by rw [← hE]; exact h4⟩
    · rintro ((h1 | ⟨l, h1, h2, h3⟩) | ⟨h1, h2⟩)
      · exact .inl h1
      · exact .inr ⟨l, h1, .inl h2, h3⟩
      · exact .inr ⟨i, hi, .inr rfl, h1, by rw [hE]; exact h2⟩
  have hS1 : ∀ j, SDs ops st S0 D j → SDs ops st S0 (fun m => D m ∨ m = i) j := fun j hj => (hSD' j).mpr (.inl hj)
  have hS2 : ∀ j, ext (Spre ops st S0 i) (st i).H.n H2.n j → SDs ops st S0 (fun m => D m ∨ m = i) j := by
    rintro j (hj | hj)
    · exact hS1 j (hsub j hj)
    · exact (hSD' j).mpr (.inr hj)
  have hSk : ∀ j, ext (Spre ops st S0 i) (st i).H.n H2.n j → Sk ops st S0 i j := by
    rintro j ((hj | ⟨l, h1, h2⟩) | ⟨h1, h2⟩)
    · exact .inl hj
    · exact .inr ⟨l, .inr h1, h2⟩
    · exact .inr ⟨i, .inl rfl, h1, by rw [hE]; exact h2⟩
  let HD2 : AH := { n := HD.n, lw := HD.lw, t := addT HD.t H2 (st i).H.n (H2.n - (st i).H.n) }
  have hB2 : ∀ j, HD2.blk j = if (st i).H.n ≤ j ∧ j < H2.n then H2.blk j else HD.blk j := fun j => by
    show ({ n := HD.n, lw := HD.lw, t := addT HD.t H2 (st i).H.n (H2.n - (st i).H.n) } : AH).blk j = _
    rw [blk_addT, show (st i).H.n + (H2.n - (st i).H.n) = H2.n by omega]
  have hw := h.inv.world gF.size hold
  have hinv : Inv B (SDs ops st S0 (fun m => D m ∨ m = i)) L2 HD2 w' := by
    refine ⟨fun j sz cs hb => ?_, fun j sz cs hb => ?_, fun j j' sz cs sz' cs' hb hb' e => ?_, fun j hj => ?_, hw.base⟩
    · rw [hB2] at hb
      split at hb
      · rename_i hin
        obtain ⟨h1, h2, h3, h4⟩ := gI.ro j sz cs hb
        rw [hL2' j h1]
        refine ⟨hS2 j h1, h2, h3, fun k v hk => ?_⟩
        obtain ⟨u, h5, h6⟩ := h4 k v hk
        exact ⟨u, h5, h6.mono hS2 hL2'⟩
      · obtain ⟨h1, h2, h3, h4⟩ := hw.ro j sz cs hb
        rw [hL2 j h1]
        refine ⟨hS1 j h1, h2, h3, fun k v hk => ?_⟩
        obtain ⟨u, h5, h6⟩ := h4 k v hk
        exact ⟨u, h5, h6.mono hS1 hL2⟩
    · rw [hB2] at hb
      split at hb
      · rename_i hin
        obtain ⟨h1, h2, h3, C', e, h4, h5, h6⟩ := gI.rw j sz cs hb
        rw [hL2' j h1]
        refine ⟨hS2 j h1, h2, h3, C', e, h4, h5, fun k v hk => ?_⟩
        obtain ⟨u, h7, h8⟩ := h6 k v hk
        exact ⟨u, h7, h8.mono hS2 hL2'⟩
      · obtain ⟨h1, h2, h3, C', e, h4, h5, h6⟩ := hw.rw j sz cs hb
        rw [hL2 j h1]
        refine ⟨hS1 j h1, h2, h3, C', e, h4, h5, fun k v hk => ?_⟩
        obtain ⟨u, h7, h8⟩ := h6 k v hk
        exact ⟨u, h7, h8.mono hS1 hL2⟩
    · rw [hB2] at hb hb'
      have oldlt : ∀ x s c, HD.blk x = .rw s c → (L2 x).g < w.heap.size := fun x s c hx => by
        obtain ⟨h1, _, _, C', e', h4, _⟩ := h.inv.rw x s c hx
        rw [hL2 x h1]
        exact size_lt_of_heap h4
      have newge : ∀ x s c, (st i).H.n ≤ x → H2.blk x = .rw s c → w.heap.size ≤ (L2 x).g := fun x s c hx hbx => by
        rw [hL2' x (gI.rw x s c hbx).1]
        exact hnewg x hx s c hbx
      split at hb
      · rename_i hin
        split at hb'
        · rename_i hin'
          have e1 := hL2' j (gI.rw j sz cs hb).1
          have e2 := hL2' j' (gI.rw j' sz' cs' hb').1
          rw [e1, e2] at e
          exact gI.dj j j' sz cs sz' cs' hb hb' e
        · have := oldlt j' _ _ hb'
          have := newge j _ _ hin.1 hb
          omega
      · split at hb'
        · rename_i hin'
          have := oldlt j _ _ hb
          have := newge j' _ _ hin'.1 hb'
          omega
        · rw [hL2 j (h.inv.rw j sz cs hb).1, hL2 j' (h.inv.rw j' sz' cs' hb').1] at e
          exact h.inv.dj j j' sz cs sz' cs' hb hb' e
    · show j < HD.n
      rcases (hSD' j).mp hj with h1 | ⟨h1, h2⟩
      · exact h.inv.bd j h1
      · rw [h.hn]; omega
  obtain ⟨s1, s2, s3, s4⟩ := h.slots T hR ho hDi hcl (L' := L2) hL2 (v' := v') (gV.mono hSk (fun j hj => hL2' j hj))
  have hn0out : ∀ j, j < (st 0).H.n → ¬ ((st i).H.n ≤ j ∧ j < H2.n) := fun j hj => by omega
  refine ⟨L2, HD2, ⟨fun j hj => (hL2 j (.inl hj)).trans (h.agree j hj), hinv, h.hn, fun j hj hl => ?_, fun j hj sz cs hb => ?_, fun j hj sz cs hb => ?_, gF.os.trans h.os, gF.tape.trans h.tape, gF.output.trans h.output,
    Nat.le_trans h.wsize gF.size, fun g hg => ?_, h.lwle, s1, s2, s3, s4, .inl ⟨fun m hm hD => ?_, r2, fun j hj => ?_, fun k hk hqk j hj hl => ?_, fun m hm hD j h1 h2 => ?_⟩⟩⟩
  · rw [hB2, if_neg (hn0out j hj)]; exact h.keep j hj hl
  · rw [hB2, if_neg (hn0out j hj)] at hb; exact h.back j hj sz cs hb
  · rw [hB2] at hb
    split at hb
    · rename_i hin
      left
      rw [hL2' j (gI.rw j sz cs hb).1]
      exact Nat.le_trans h.wsize (hnewg j hin.1 sz cs hb)
    · rw [hL2 j (h.inv.rw j sz cs hb).1]
      exact h.newg j hj sz cs hb
  · rcases h.frame g hg with h1 | h1
    · exact .inl ((hold g (Nat.lt_of_lt_of_le hg h.wsize)).trans h1)
    · exact .inr h1
  · rcases hD with hD | hD
    · exact r1 m hm hD
    · subst hD; exact hq1
  · rw [hB2, if_neg (fun hin => hj (.inr ⟨i, hi, .inr rfl, hin.1, by rw [hE]; exact hin.2⟩))]
    refine r3 j fun hl => hj ?_
    rcases hl with hl | ⟨l, h1, h2, h3⟩
    · exact .inl hl
    · exact .inr ⟨l, h1, .inl h2, h3⟩
  · rw [hB2]
    split
    · rename_i hin
      have hki : i + 1 ≤ k := by
        rcases Nat.lt_or_ge k (i + 1) with h' | h'
        · have := T.n_mono (i := k) (j := i) (by omega) (by omega); omega
        · exact h'
      rw [(T.grown hdead k hk hqk).2.2 (i + 1) hki j (by rw [hE]; exact hin.2), hblk, if_pos hin]
    · rename_i hin
      refine r4 k hk hqk j hj ?_
      rcases hl with hl | ⟨l, h1, h2 | h2, h3, h4⟩
      · exact .inl hl
      · exact .inr ⟨l, h1, h2, h3, h4⟩
      · subst h2; exact absurd ⟨h3, by rw [← hE]; exact h4⟩ hin
  · rw [hB2]
    rcases hD with hD | hD
    · rw [if_neg (hout j (.inr ⟨m, hm, hD, h1, h2⟩))]; exact r5 m hm hD j h1 h2
    · subst hD
      rw [if_pos ⟨h1, by rw [← hE]; exact h2⟩]
      exact (gI.inSB j).mono hSk

end

end
end Go.Proofs.Ytldapilhmmbjhaa.Ev
