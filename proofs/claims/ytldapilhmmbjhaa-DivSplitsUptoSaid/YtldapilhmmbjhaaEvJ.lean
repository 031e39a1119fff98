/-
  THE ENGINE, part J: regions that draw their order: what the evaluator finds in the text's order holds of every order.
-/
import Derived.Test.YtldapilhmmbjhaaEvI
namespace Go.Proofs.Ytldapilhmmbjhaa.Ev
open Go Go.RowKit
set_option linter.unusedVariables false
noncomputable section
set_option linter.unusedSimpArgs false

section
variable (P : Program) (C : Cfg) (call : FuncId → List Value → AH → Option (Value × AH)) (ops : Array Oper) (st : Nat → St) (val : Nat → Value) (q : Nat → Bool) (ms : Nat → List (Nat × Nat × Nat))

def Quiet (i : Nat) (o : Oper) : Prop :=
  (st (i + 1)).H = (st i).H ∧ q (i + 1) = q i ∧
  ((wantedV ops (st i).tm o = some false ∧ val i = undef) ∨ (wantedV ops (st i).tm o = some true ∧ heapOp o.op = false ∧ ∀ H0, evOp P C call (st i).tm H0 o.op = some (val i, H0)))

def Grow (i : Nat) (o : Oper) : Prop :=
  wantedV ops (st i).tm o = some true ∧ heapOp o.op = true ∧ q i = false ∧ q (i + 1) = false ∧ ∃ H2 : AH,
    evOp P C call (st i).tm { n := (st i).H.n, lw := (st i).H.n, t := hideT (st i).H.t (hidden ((before ops).getD i 0) (ms i)) } o.op = some (val i, H2) ∧
    (st i).H.n ≤ H2.n ∧ (st i).H.n ≤ H2.lw ∧ (st (i + 1)).H.n = H2.n ∧ (st (i + 1)).H.lw = (st i).H.lw ∧
    ∀ j, (st (i + 1)).H.blk j = if (st i).H.n ≤ j ∧ j < H2.n then H2.blk j else (st i).H.blk j

def Wri (i : Nat) (o : Oper) : Prop :=
  wantedV ops (st i).tm o = some true ∧ heapOp o.op = true ∧ q (i + 1) = true ∧ alone ops i = true ∧ ∃ H2 : AH,
    evOp P C call (st i).tm { n := (st i).H.n, lw := (st i).H.n, t := (st i).H.t } o.op = some (val i, H2) ∧
    (st i).H.n ≤ H2.n ∧ (st (i + 1)).H.n = H2.n ∧ (st (i + 1)).H.lw = min (st i).H.lw H2.lw ∧ ∀ j, (st (i + 1)).H.blk j = H2.blk j

def Full (i : Nat) (o : Oper) : Prop :=
  (Quiet P C call ops st val q i o ∨ Grow P C call ops st val q ms i o ∨ Wri P C call ops st val q i o) ∧ (st i).put o.dst (val i) (st (i + 1)).H = some (st (i + 1)) ∧
  ms (i + 1) = cond (Nat.blt (st i).H.n (st (i + 1)).H.n) ((i, (st i).H.n, (st (i + 1)).H.n) :: ms i) (ms i)

structure Trace (s s' : St) : Prop where
  start : st 0 = s
  stop : st ops.size = s'
  q0 : q 0 = false
  m0 : ms 0 = []
  step : ∀ i o, ops[i]? = some o → Full P C call ops st val q ms i o
end

theorem evDraw_trace {P : Program} {C : Cfg} {call : FuncId → List Value → AH → Option (Value × AH)} {ops : Array Oper} : ∀ (l : List Oper) (i : Nat) (q0 : Bool) (m0 : List (Nat × Nat × Nat)) (s s' : St),
    evDraw P C call ops i q0 m0 l s = some s' → (∀ j, l[j]? = ops[i + j]?) →
    ∃ (st : Nat → St) (val : Nat → Value) (q : Nat → Bool) (ms : Nat → List (Nat × Nat × Nat)), st i = s ∧ q i = q0 ∧ ms i = m0 ∧ st (i + l.length) = s' ∧ ∀ k o, i ≤ k → ops[k]? = some o → Full P C call ops st val q ms k o
  | [], i, q0, m0, s, s', h, hl => by
    simp only [evDraw] at h
    obtain rfl := Option.some.inj h
    refine ⟨fun _ => s, fun _ => undef, fun _ => q0, fun _ => m0, rfl, rfl, rfl, rfl, fun k o hk ho => ?_⟩
    have := hl (k - i)
    rw [show i + (k - i) = k by omega, ho] at this
    simp at this
  | o :: rest, i, q0, m0, s, s', h, hl => by
    have h0 : ops[i]? = some o := by simpa using (hl 0).symm
    have hl' : ∀ j, rest[j]? = ops[i + 1 + j]? := fun j => by have := hl (j + 1); simpa [Nat.add_assoc, Nat.add_comm 1 j] using this
    -- one step, then the rest
    have glue : ∀ (v : Value) (q1 : Bool) (m1 : List (Nat × Nat × Nat)) (s1 : St), evDraw P C call ops (i + 1) q1 m1 rest s1 = some s' →
        (∀ (st : Nat → St) (val : Nat → Value) (q : Nat → Bool) (ms : Nat → List (Nat × Nat × Nat)), st i = s → st (i + 1) = s1 → val i = v → q i = q0 → q (i + 1) = q1 → ms i = m0 → ms (i + 1) = m1 → Full P C call ops st val q ms i o) →
        ∃ (st : Nat → St) (val : Nat → Value) (q : Nat → Bool) (ms : Nat → List (Nat × Nat × Nat)), st i = s ∧ q i = q0 ∧ ms i = m0 ∧ st (i + (o :: rest).length) = s' ∧ ∀ k o, i ≤ k → ops[k]? = some o → Full P C call ops st val q ms k o := by
      intro v q1 m1 s1 hr hf
      obtain ⟨st, val, q, ms, e1, e2, e3, e4, e5⟩ := evDraw_trace rest (i + 1) q1 m1 s1 s' hr hl'
      refine ⟨fun k => if k = i then s else st k, fun k => if k = i then v else val k, fun k => if k = i then q0 else q k, fun k => if k = i then m0 else ms k, by simp, by simp, by simp, ?_, fun k o' hk ho => ?_⟩
      · have e6 : i + (o :: rest).length = i + 1 + rest.length := by simp; omega
        have e7 : i + 1 + rest.length ≠ i := by omega
        show (if i + (o :: rest).length = i then s else st (i + (o :: rest).length)) = s'
        rw [e6, if_neg e7]; exact e4
      · by_cases hki : k = i
        · subst hki
          rw [h0] at ho
          obtain rfl := Option.some.inj ho
          exact hf _ _ _ _ (by simp) (by simp [e1]) (by simp) (by simp) (by simp [e2]) (by simp) (by simp [e3])
        · have := e5 k o' (by omega) ho
          have hk1 : k + 1 ≠ i := by omega
          unfold Full Quiet Grow Wri at this ⊢
          simp only [if_neg hki, if_neg hk1]
          exact this
    simp only [evDraw] at h
    split at h <;> first | (cases h; done) | skip
    · rename_i hw
      split at h <;> first | (cases h; done) | skip
      rename_i v H1 q1 hop
      split at h <;> first | (cases h; done) | skip
      rename_i s1 hput
      obtain ⟨eH, ek, _⟩ := put_some hput
      refine glue v q1 _ s1 h fun st val q ms a1 a2 a3 a4 a5 a6 a7 => ⟨?_, by rw [a1, a2, a3, eH]; exact hput, by rw [a1, a2, a6, a7, eH]⟩
      unfold evDrawOp at hop
      cases hh : heapOp o.op with
      | false =>
        rw [hh, cond_false] at hop
        split at hop <;> first | (cases hop; done) | skip
        rename_i v2 H2 he
        injection hop with hop; injection hop with b1 b2; injection b2 with b2 b3
        subst b1; subst b2; subst b3
        exact .inl ⟨by rw [a1, a2, eH], by rw [a4, a5], .inr ⟨by rw [a1]; exact hw, hh, fun H0 => by rw [a1, a3]; exact evOp_pure hh he H0⟩⟩
      | true =>
        rw [hh, cond_true] at hop
        simp only at hop
        split at hop <;> first | (cases hop; done) | skip
        rename_i v2 H2 he
        cases hn : Nat.ble s.H.n H2.n with
        | false => rw [hn] at hop; cases hop
        | true =>
          rw [hn, cond_true] at hop
          have hn' : s.H.n ≤ H2.n := Nat.le_of_ble_eq_true hn
          cases hb : (!q0 && Nat.ble s.H.n H2.lw) with
          | true =>
            rw [hb, cond_true] at hop
            injection hop with hop; injection hop with b1 b2; injection b2 with b2 b3
            subst b1; subst b2; subst b3
            rw [Bool.and_eq_true] at hb
            have hq : q0 = false := by simpa using hb.1
            refine .inr (.inl ⟨by rw [a1]; exact hw, hh, by rw [a4, hq], by rw [a5], H2, by rw [a1, a3, a6]; exact he, by rw [a1]; exact hn', by rw [a1]; exact Nat.le_of_ble_eq_true hb.2, by rw [a2, eH], by rw [a1, a2, eH], fun j => ?_⟩)
            rw [a1, a2, eH, blk_addT, show s.H.n + (H2.n - s.H.n) = H2.n by omega]
            rfl
          | false =>
            rw [hb, cond_false] at hop
            cases hc : (alone ops i && (hidden ((before ops).getD i 0) m0).isEmpty) with
            | false => rw [hc] at hop; cases hop
            | true =>
              rw [hc, cond_true] at hop
              injection hop with hop; injection hop with b1 b2; injection b2 with b2 b3
              subst b1; subst b2; subst b3
              rw [Bool.and_eq_true] at hc
              have hnil : hidden ((before ops).getD i 0) m0 = [] := by simpa using hc.2
              rw [hnil] at he
              exact .inr (.inr ⟨by rw [a1]; exact hw, hh, by rw [a5], hc.1, H2, by rw [a1, a3]; exact he, by rw [a1]; exact hn', by rw [a2, eH], by rw [a1, a2, eH], fun j => by rw [a2, eH]; rfl⟩)
    · rename_i hw
      split at h <;> first | (cases h; done) | skip
      rename_i s1 hput
      obtain ⟨eH, ek, _⟩ := put_some hput
      refine glue undef q0 m0 s1 h fun st val q ms a1 a2 a3 a4 a5 a6 a7 => ⟨.inl ⟨by rw [a1, a2, eH], by rw [a4, a5], .inl ⟨by rw [a1]; exact hw, a3⟩⟩, by rw [a1, a2, a3, eH]; exact hput, ?_⟩
      rw [a1, a2, a6, a7, eH]
      have : Nat.blt s.H.n s.H.n = false := by
        cases hb : Nat.blt s.H.n s.H.n with
        | false => rfl
        | true => rw [Nat.blt_eq] at hb; omega
      rw [this]
      rfl

section
variable {P : Program} {C : Cfg} {call : FuncId → List Value → AH → Option (Value × AH)} {ops : Array Oper} {st : Nat → St} {val : Nat → Value} {q : Nat → Bool} {ms : Nat → List (Nat × Nat × Nat)} {s s' : St}

theorem size_some {i : Nat} (h : i < ops.size) : ∃ o, ops[i]? = some o := ⟨_, Array.getElem?_eq_getElem h⟩

theorem lt_of_some {i : Nat} {o : Oper} (h : ops[i]? = some o) : i < ops.size := by
  rcases Nat.lt_or_ge i ops.size with h' | h'
  · exact h'
  · rw [Array.getElem?_eq_none h'] at h; cases h

theorem Trace.n_le (T : Trace P C call ops st val q ms s s') {i : Nat} (hi : i < ops.size) : (st i).H.n ≤ (st (i + 1)).H.n := by
  obtain ⟨o, ho⟩ := size_some hi
  rcases (T.step i o ho).1 with h | h | h
  · rw [h.1]; exact Nat.le_refl _
  · obtain ⟨_, _, _, _, H2, _, h1, _, h2, _⟩ := h; rw [h2]; exact h1
  · obtain ⟨_, _, _, _, H2, _, h1, h2, _⟩ := h; rw [h2]; exact h1

theorem Trace.n_mono (T : Trace P C call ops st val q ms s s') {i : Nat} : ∀ {j : Nat}, i ≤ j → j ≤ ops.size → (st i).H.n ≤ (st j).H.n
  | 0, h, _ => by obtain rfl : i = 0 := by omega
                  exact Nat.le_refl _
  | j + 1, h, hj => by
    rcases Nat.lt_or_ge i (j + 1) with h' | h'
    · exact Nat.le_trans (T.n_mono (by omega) (by omega)) (T.n_le (by omega))
    · obtain rfl : i = j + 1 := by omega
      exact Nat.le_refl _

theorem Trace.ms_iff (T : Trace P C call ops st val q ms s s') : ∀ (i : Nat), i ≤ ops.size → ∀ k lo hi, (k, lo, hi) ∈ ms i ↔ k < i ∧ lo = (st k).H.n ∧ hi = (st (k + 1)).H.n ∧ (st k).H.n < (st (k + 1)).H.n
  | 0, _, k, lo, hi => by rw [T.m0]; simp
  | i + 1, hi', k, lo, hi => by
    obtain ⟨o, ho⟩ := size_some (ops := ops) (i := i) (by omega)
    rw [(T.step i o ho).2.2]
    have ih := T.ms_iff i (by omega) k lo hi
    cases hb : Nat.blt (st i).H.n (st (i + 1)).H.n with
    | false =>
      rw [cond_false, ih]
      constructor
      · rintro ⟨h1, h2⟩; exact ⟨by omega, h2⟩
      · rintro ⟨h1, h2, h3, h4⟩
        have : k ≠ i := by
          rintro rfl
          have : Nat.blt (st k).H.n (st (k + 1)).H.n = true := by rw [Nat.blt_eq]; exact h4
          rw [this] at hb; cases hb
        exact ⟨by omega, h2, h3, h4⟩
    | true =>
      rw [cond_true, List.mem_cons, ih]
      rw [Nat.blt_eq] at hb
      constructor
      · rintro (h | ⟨h1, h2⟩)
        · injection h with h1 h2
          injection h2 with h2 h3
          subst h1
          exact ⟨by omega, h2, h3, hb⟩
        · exact ⟨by omega, h2⟩
      · rintro ⟨h1, h2, h3, h4⟩
        by_cases hk : k = i
        · subst hk; exact .inl (by rw [h2, h3])
        · exact .inr ⟨by omega, h2, h3, h4⟩

theorem Trace.range (T : Trace P C call ops st val q ms s s') {j : Nat} (h0 : (st 0).H.n ≤ j) : ∀ {i : Nat}, i ≤ ops.size → j < (st i).H.n → ∃ m, m < i ∧ (st m).H.n ≤ j ∧ j < (st (m + 1)).H.n
  | 0, _, h => by omega
  | i + 1, hi, h => by
    rcases Nat.lt_or_ge j (st i).H.n with h' | h'
    · obtain ⟨m, h1, h2⟩ := T.range h0 (by omega) h'
      exact ⟨m, by omega, h2⟩
    · exact ⟨i, by omega, h', h⟩

theorem Trace.q_mono (T : Trace P C call ops st val q ms s s') {i : Nat} (h : q i = true) : ∀ {k : Nat}, i ≤ k → k ≤ ops.size → q k = true
  | 0, hk, _ => by obtain rfl : i = 0 := by omega
                   exact h
  | k + 1, hk, hn => by
    rcases Nat.lt_or_ge i (k + 1) with h' | h'
    · have ih := T.q_mono h (k := k) (by omega) (by omega)
      obtain ⟨o, ho⟩ := size_some (ops := ops) (i := k) (by omega)
      rcases (T.step k o ho).1 with h1 | h1 | h1
      · rw [h1.2.1]; exact ih
      · rw [h1.2.2.1] at ih; cases ih
      · exact h1.2.2.1
    · obtain rfl : i = k + 1 := by omega
      exact h

/-- Ahead of the first write the heap only grows. -/
theorem Trace.grown (T : Trace P C call ops st val q ms s s') (hdead : ∀ j, (st 0).H.n ≤ j → (st 0).H.blk j = .dead) : ∀ (i : Nat), i ≤ ops.size → q i = false →
    (st i).H.lw = (st 0).H.lw ∧ (∀ j, (st i).H.n ≤ j → (st i).H.blk j = .dead) ∧ ∀ m, m ≤ i → ∀ j, j < (st m).H.n → (st i).H.blk j = (st m).H.blk j
  | 0, _, _ => ⟨rfl, hdead, fun m hm j _ => by obtain rfl : m = 0 := by omega
                                               rfl⟩
  | i + 1, hi, hq => by
    obtain ⟨o, ho⟩ := size_some (ops := ops) (i := i) (by omega)
    rcases (T.step i o ho).1 with h | h | h
    · obtain ⟨h1, h2, _⟩ := h
      rw [h2] at hq
      obtain ⟨g1, g2, g3⟩ := T.grown hdead i (by omega) hq
      rw [h1]
      refine ⟨g1, g2, fun m hm j hj => ?_⟩
      rcases Nat.lt_or_ge m (i + 1) with h' | h'
      · exact g3 m (by omega) j hj
      · obtain rfl : m = i + 1 := by omega
        rw [h1]
    · obtain ⟨_, _, h1, _, H2, _, h3, _, h5, h6, h7⟩ := h
      obtain ⟨g1, g2, g3⟩ := T.grown hdead i (by omega) h1
      refine ⟨h6.trans g1, fun j hj => ?_, fun m hm j hj => ?_⟩
      · rw [h7, if_neg (by omega)]; exact g2 j (by omega)
      · rcases Nat.lt_or_ge m (i + 1) with h' | h'
        · have : (st m).H.n ≤ (st i).H.n := T.n_mono (by omega) (by omega)
          rw [h7, if_neg (by omega)]; exact g3 m (by omega) j hj
        · obtain rfl : m = i + 1 := by omega
          rfl
    · rw [h.2.2.1] at hq; cases hq

def dstOf (ops : Array Oper) (m : Nat) : Option Tmp := (ops[m]?).bind (·.dst)

theorem Trace.k_eq (T : Trace P C call ops st val q ms s s') : ∀ (i : Nat), i ≤ ops.size → (st i).k = (st 0).k
  | 0, _ => rfl
  | i + 1, hi => by
    obtain ⟨o, ho⟩ := size_some (ops := ops) (i := i) (by omega)
    obtain ⟨_, h, _⟩ := put_some (T.step i o ho).2.1
    exact h.trans (T.k_eq i (by omega))

theorem Trace.dst_lt (T : Trace P C call ops st val q ms s s') {m : Nat} {t : Nat} (h : dstOf ops m = some t) : t < (st 0).k := by
  unfold dstOf at h
  cases ho : ops[m]? with
  | none => rw [ho] at h; cases h
  | some o =>
    rw [ho] at h
    obtain ⟨_, _, h1⟩ := put_some (T.step m o ho).2.1
    have hd : o.dst = some t := h
    rcases h1 with ⟨h1, _⟩ | ⟨d, h1, h2, _⟩
    · rw [h1] at hd; cases hd
    · rw [h1] at hd
      obtain rfl := Option.some.inj hd
      rw [T.k_eq m (Nat.le_of_lt (lt_of_some ho))] at h2
      exact h2

/-- Who wrote a temporary last. -/
theorem Trace.tm (T : Trace P C call ops st val q ms s s') : ∀ (i : Nat), i ≤ ops.size → ∀ t v, (st i).tm.get t = some v →
    (∃ m, m < i ∧ dstOf ops m = some t ∧ val m = v ∧ ∀ m', m < m' → m' < i → dstOf ops m' ≠ some t) ∨ ((∀ m, m < i → dstOf ops m ≠ some t) ∧ (st 0).tm.get t = some v)
  | 0, _, t, v, h => .inr ⟨fun m hm => by omega, h⟩
  | i + 1, hi, t, v, h => by
    obtain ⟨o, ho⟩ := size_some (ops := ops) (i := i) (by omega)
    have hd : dstOf ops i = o.dst := by simp [dstOf, ho]
    obtain ⟨_, _, h1⟩ := put_some (T.step i o ho).2.1
    have old : dstOf ops i ≠ some t → (st i).tm.get t = some v →
        (∃ m, m < i + 1 ∧ dstOf ops m = some t ∧ val m = v ∧ ∀ m', m < m' → m' < i + 1 → dstOf ops m' ≠ some t) ∨ ((∀ m, m < i + 1 → dstOf ops m ≠ some t) ∧ (st 0).tm.get t = some v) := fun hne hold => by
      rcases T.tm i (by omega) t v hold with ⟨m, a1, a2, a3, a4⟩ | ⟨a1, a2⟩
      · refine .inl ⟨m, by omega, a2, a3, fun m' h1 h2 => ?_⟩
        by_cases e : m' = i
        · subst e; exact hne
        · exact a4 m' h1 (by omega)
      · refine .inr ⟨fun m hm => ?_, a2⟩
        by_cases e : m = i
        · subst e; exact hne
        · exact a1 m (by omega)
    rcases h1 with ⟨h1, h2⟩ | ⟨d, h1, h2, h3⟩
    · rw [h2] at h
      exact old (by rw [hd, h1]; simp) h
    · rw [h3, Tr.get_set] at h
      split at h
      · rename_i e
        subst e
        obtain rfl := Option.some.inj h
        exact .inl ⟨i, by omega, by rw [hd, h1], rfl, fun m' _ _ => by omega⟩
      · rename_i e
        exact old (by rw [hd, h1]; intro h'; injection h' with h'; exact e h'.symm) h

end

end
end Go.Proofs.Ytldapilhmmbjhaa.Ev
