/-
  THE ENGINE, part N: regions of loads and stores that draw their order: what touches the same block is ordered, so every order comes to the same.
-/
import Derived.Test.YtldapilhmmbjhaaEvL
namespace Go.Proofs.Ytldapilhmmbjhaa.Ev
open Go Go.RowKit
set_option linter.unusedVariables false
noncomputable section
set_option linter.unusedSimpArgs false

section
variable (P : Program) (C : Cfg) (call : FuncId → List Value → AH → Option (Value × AH)) (ops : Array Oper) (st : Nat → St) (val : Nat → Value) (ft : Nat → Option (Nat × Bool)) (fs : Nat → List (Nat × Nat × Bool))

def MQuiet (i : Nat) (o : Oper) : Prop :=
  ft i = none ∧ (st (i + 1)).H = (st i).H ∧
  ((wantedV ops (st i).tm o = some false ∧ val i = undef) ∨ (wantedV ops (st i).tm o = some true ∧ ∀ H0, evOp P C call (st i).tm H0 o.op = some (val i, H0)))

def MRead (i : Nat) (o : Oper) : Prop :=
  ∃ t x b off, o.op = .load t x ∧ wantedV ops (st i).tm o = some true ∧ opd C (st i).tm x = some (.pointer (some ⟨b, off, none⟩)) ∧
    loadV P (st i).H t (.pointer (some ⟨b, off, none⟩)) = some (val i) ∧ (st (i + 1)).H = (st i).H ∧ ft i = some (b, false)

def MWrite (i : Nat) (o : Oper) : Prop :=
  ∃ t x y b off v, o.op = .store t x y ∧ wantedV ops (st i).tm o = some true ∧ opd C (st i).tm x = some (.pointer (some ⟨b, off, none⟩)) ∧ opd C (st i).tm y = some v ∧
    storeV P (st i).H t (.pointer (some ⟨b, off, none⟩)) v = some (st (i + 1)).H ∧ val i = undef ∧ ft i = some (b, true)

def MFull (i : Nat) (o : Oper) : Prop :=
  (MQuiet P C call ops st val ft i o ∨ MRead P C ops st val ft i o ∨ MWrite P C ops st val ft i o) ∧ (st i).put o.dst (val i) (st (i + 1)).H = some (st (i + 1)) ∧
  (fs (i + 1) = match ft i with | none => fs i | some (b, w) => (i, b, w) :: fs i) ∧
  ∀ b w, ft i = some (b, w) → noClash ((before ops).getD i 0) b w (fs i) = true

structure MTrace (s s' : St) : Prop where
  start : st 0 = s
  stop : st ops.size = s'
  f0 : fs 0 = []
  step : ∀ i o, ops[i]? = some o → MFull P C call ops st val ft fs i o
end

theorem evMem_trace {P : Program} {C : Cfg} {call : FuncId → List Value → AH → Option (Value × AH)} {ops : Array Oper} : ∀ (l : List Oper) (i : Nat) (f0 : List (Nat × Nat × Bool)) (s s' : St),
    evMem P C call ops i f0 l s = some s' → (∀ j, l[j]? = ops[i + j]?) →
    ∃ (st : Nat → St) (val : Nat → Value) (ft : Nat → Option (Nat × Bool)) (fs : Nat → List (Nat × Nat × Bool)), st i = s ∧ fs i = f0 ∧ st (i + l.length) = s' ∧ ∀ k o, i ≤ k → ops[k]? = some o → MFull P C call ops st val ft fs k o
  | [], i, f0, s, s', h, hl => by
    simp only [evMem] at h
    obtain rfl := Option.some.inj h
    refine ⟨fun _ => s, fun _ => undef, fun _ => none, fun _ => f0, rfl, rfl, rfl, fun k o hk ho => ?_⟩
    have := hl (k - i)
    rw [show i + (k - i) = k by omega, ho] at this
    simp at this
  | o :: rest, i, f0, s, s', h, hl => by
    have h0 : ops[i]? = some o := by simpa using (hl 0).symm
    have hl' : ∀ j, rest[j]? = ops[i + 1 + j]? := fun j => by have := hl (j + 1); simpa [Nat.add_assoc, Nat.add_comm 1 j] using this
    have glue : ∀ (v : Value) (t1 : Option (Nat × Bool)) (f1 : List (Nat × Nat × Bool)) (s1 : St), evMem P C call ops (i + 1) f1 rest s1 = some s' →
        (∀ (st : Nat → St) (val : Nat → Value) (ft : Nat → Option (Nat × Bool)) (fs : Nat → List (Nat × Nat × Bool)), st i = s → st (i + 1) = s1 → val i = v → ft i = t1 → fs i = f0 → fs (i + 1) = f1 → MFull P C call ops st val ft fs i o) →
        ∃ (st : Nat → St) (val : Nat → Value) (ft : Nat → Option (Nat × Bool)) (fs : Nat → List (Nat × Nat × Bool)), st i = s ∧ fs i = f0 ∧ st (i + (o :: rest).length) = s' ∧ ∀ k o, i ≤ k → ops[k]? = some o → MFull P C call ops st val ft fs k o := by
      intro v t1 f1 s1 hr hf
      obtain ⟨st, val, ft, fs, e1, e3, e4, e5⟩ := evMem_trace rest (i + 1) f1 s1 s' hr hl'
      refine ⟨fun k => if k = i then s else st k, fun k => if k = i then v else val k, fun k => if k = i then t1 else ft k, fun k => if k = i then f0 else fs k, by simp, by simp, ?_, fun k o' hk ho => ?_⟩
      · have e6 : i + (o :: rest).length = i + 1 + rest.length := by simp; omega
        have e7 : i + 1 + rest.length ≠ i := by omega
        show (if i + (o :: rest).length = i then s else st (i + (o :: rest).length)) = s'
        rw [e6, if_neg e7]; exact e4
      · by_cases hki : k = i
        · subst hki
          rw [h0] at ho
          obtain rfl := Option.some.inj ho
          exact hf _ _ _ _ (by simp) (by simp [e1]) (by simp) (by simp) (by simp) (by simp [e3])
        · have := e5 k o' (by omega) ho
          have hk1 : k + 1 ≠ i := by omega
          unfold MFull MQuiet MRead MWrite at this ⊢
          simp only [if_neg hki, if_neg hk1]
          exact this
    simp only [evMem] at h
    split at h <;> first | (cases h; done) | skip
    · rename_i hw
      split at h <;> first | (cases h; done) | skip
      · rename_i hmf
        split at h <;> first | (cases h; done) | skip
        rename_i v H1 hop
        split at h <;> first | (cases h; done) | skip
        rename_i s1 hput
        obtain ⟨eH, ek, _⟩ := put_some hput
        have hh : heapOp o.op = false := by
          unfold memFoot at hmf
          split at hmf
          · split at hmf <;> cases hmf
          · split at hmf <;> cases hmf
          · cases e : heapOp o.op with
            | false => rfl
            | true => rw [e] at hmf; cases hmf
        refine glue v none f0 s1 h fun st val ft fs a1 a2 a3 a4 a5 a6 => ⟨.inl ⟨a4, by rw [a1, a2, eH], .inr ⟨by rw [a1]; exact hw, fun H0 => by rw [a1, a3]; exact evOp_pure hh hop H0⟩⟩, by rw [a1, a2, a3, eH]; exact hput, by rw [a4, a5, a6], fun b w e => by rw [a4] at e; cases e⟩
      · rename_i b w hmf
        cases hc : noClash ((before ops).getD i 0) b w f0 with
        | false => rw [hc] at h; cases h
        | true =>
          rw [hc, cond_true] at h
          split at h <;> first | (cases h; done) | skip
          rename_i v H1 hop
          split at h <;> first | (cases h; done) | skip
          rename_i s1 hput
          obtain ⟨eH, ek, _⟩ := put_some hput
          refine glue v (some (b, w)) _ s1 h fun st val ft fs a1 a2 a3 a4 a5 a6 => ⟨?_, by rw [a1, a2, a3, eH]; exact hput, by rw [a4, a5, a6], fun b' w' e => by rw [a4] at e; cases e; rw [a5]; exact hc⟩
          unfold memFoot at hmf
          split at hmf
          · rename_i t x e
            split at hmf <;> first | (cases hmf; done) | skip
            rename_i b' off hx
            cases hmf
            rw [e] at hop
            simp only [evOp, oLoad, oStore, hx] at hop
            split at hop <;> first | (cases hop; done) | skip
            rename_i v' hv
            cases hop
            exact .inr (.inl ⟨t, x, b, off, e, by rw [a1]; exact hw, by rw [a1]; exact hx, by rw [a1, a3]; exact hv, by rw [a1, a2, eH], a4⟩)
          · rename_i t x y e
            split at hmf <;> first | (cases hmf; done) | skip
            rename_i b' off hx
            cases hmf
            rw [e] at hop
            simp only [evOp, oLoad, oStore, hx] at hop
            split at hop <;> first | (cases hop; done) | skip
            rename_i a' b' e1 hy
            split at hop <;> first | (cases hop; done) | skip
            rename_i H' hst
            cases hop
            cases e1
            exact .inr (.inr ⟨t, x, y, b, off, _, e, by rw [a1]; exact hw, by rw [a1]; exact hx, by rw [a1]; exact hy, by rw [a1, a2, eH]; exact hst, a3, a4⟩)
          · cases e : heapOp o.op with
            | false => rw [e] at hmf; cases hmf
            | true => rw [e] at hmf; cases hmf
    · rename_i hw
      split at h <;> first | (cases h; done) | skip
      rename_i s1 hput
      obtain ⟨eH, ek, _⟩ := put_some hput
      exact glue undef none f0 s1 h fun st val ft fs a1 a2 a3 a4 a5 a6 => ⟨.inl ⟨a4, by rw [a1, a2, eH], .inl ⟨by rw [a1]; exact hw, a3⟩⟩, by rw [a1, a2, a3, eH]; exact hput, by rw [a4, a5, a6], fun b w e => by rw [a4] at e; cases e⟩

/-! ### single blocks -/
theorem loadV_blk {P : Program} {H H2 : AH} {t : TypeId} {b off : Nat} (h : H2.blk b = H.blk b) : loadV P H2 t (.pointer (some ⟨b, off, none⟩)) = loadV P H t (.pointer (some ⟨b, off, none⟩)) := by
  have hc : H2.cells b = H.cells b := by unfold AH.cells; rw [h]
  have hr : ∀ n, H2.read b off n = H.read b off n := fun n => by unfold AH.read; rw [hc]
  simp only [loadV, hc, hr]

theorem write_blk {H H2 H' : AH} {b off : Nat} {vs : List Value} (h : H2.blk b = H.blk b) (hw : H.write b off vs = some H') :
    ∃ H2', H2.write b off vs = some H2' ∧ H2'.blk b = H'.blk b ∧ (∀ j, j ≠ b → H2'.blk j = H2.blk j ∧ H'.blk j = H.blk j) ∧ H2'.n = H2.n ∧ H'.n = H.n ∧ H2'.lw = min H2.lw b ∧ H'.lw = min H.lw b := by
  rw [AH.write_def] at hw ⊢
  rw [h]
  split at hw <;> first | (cases hw; done) | skip
  rename_i sz cs e
  cases hb : (Nat.ble (off + vs.length) cs.length && vs.all one) with
  | false => rw [hb] at hw; cases hw
  | true =>
    rw [hb, cond_true] at hw
    obtain rfl := Option.some.inj hw
    refine ⟨{ n := H2.n, lw := min H2.lw b, t := H2.t.set b (.rw sz (cs.take off ++ vs ++ cs.drop (off + vs.length))) }, ?_, ?_, fun j hj => ⟨?_, ?_⟩, rfl, rfl, rfl, rfl⟩
    · rfl
    · unfold AH.blk; simp only [Tr.get_set, if_true]
    · unfold AH.blk; simp only [Tr.get_set, if_neg hj]
    · unfold AH.blk; simp only [Tr.get_set, if_neg hj]

theorem storeV_blk {P : Program} {H H2 H' : AH} {t : TypeId} {b off : Nat} {v : Value} (h : H2.blk b = H.blk b) (hw : storeV P H t (.pointer (some ⟨b, off, none⟩)) v = some H') :
    ∃ H2', storeV P H2 t (.pointer (some ⟨b, off, none⟩)) v = some H2' ∧ H2'.blk b = H'.blk b ∧ (∀ j, j ≠ b → H2'.blk j = H2.blk j ∧ H'.blk j = H.blk j) ∧ H2'.n = H2.n ∧ H'.n = H.n ∧ H2'.lw = min H2.lw b ∧ H'.lw = min H.lw b := by
  simp only [storeV] at hw ⊢
  split at hw <;> first | (cases hw; done) | skip
  rename_i n e
  cases hb : Nat.beq v.cells.size n with
  | false => rw [hb] at hw; cases hw
  | true =>
    rw [hb, cond_true] at hw
    rw [cond_true]
    exact write_blk h hw

section
variable {P : Program} {C : Cfg} {call : FuncId → List Value → AH → Option (Value × AH)} {ops : Array Oper} {st : Nat → St} {val : Nat → Value} {ft : Nat → Option (Nat × Bool)} {fs : Nat → List (Nat × Nat × Bool)} {s s' : St}

theorem MTrace.fs_iff (T : MTrace P C call ops st val ft fs s s') : ∀ (i : Nat), i ≤ ops.size → ∀ k b w, (k, b, w) ∈ fs i ↔ k < i ∧ ft k = some (b, w)
  | 0, _, k, b, w => by rw [T.f0]; simp
  | i + 1, hi', k, b, w => by
    obtain ⟨o, ho⟩ := size_some (ops := ops) (i := i) (by omega)
    have ih := T.fs_iff i (by omega) k b w
    have hs := (T.step i o ho).2.2.1
    cases hf : ft i with
    | none =>
      rw [hf] at hs
      simp only at hs
      rw [hs, ih]
      constructor
      · rintro ⟨h1, h2⟩; exact ⟨by omega, h2⟩
      · rintro ⟨h1, h2⟩
        have : k ≠ i := by rintro rfl; rw [hf] at h2; cases h2
        exact ⟨by omega, h2⟩
    | some x =>
      obtain ⟨b', w'⟩ := x
      rw [hf] at hs
      simp only at hs
      rw [hs, List.mem_cons, ih]
      constructor
      · rintro (h | ⟨h1, h2⟩)
        · injection h with h1 h2
          injection h2 with h2 h3
          subst h1; subst h2; subst h3
          exact ⟨by omega, hf⟩
        · exact ⟨by omega, h2⟩
      · rintro ⟨h1, h2⟩
        by_cases hk : k = i
        · subst hk
          rw [hf] at h2
          cases h2
          exact .inl rfl
        · exact .inr ⟨by omega, h2⟩

theorem noClash_spec {bits b : Nat} {w : Bool} : ∀ {l : List (Nat × Nat × Bool)}, noClash bits b w l = true → ∀ k w', (k, b, w') ∈ l → (w || w') = true → bits.testBit k = true
  | [], _, k, w', h, _ => by cases h
  | (k0, b0, w0) :: r, h, k, w', hm, hw => by
    simp only [noClash, Bool.and_eq_true, Bool.or_eq_true, Bool.not_eq_true'] at h
    rcases List.mem_cons.mp hm with h1 | h1
    · injection h1 with h1 h2
      injection h2 with h2 h3
      subst h1; subst h2; subst h3
      rcases h.1 with (h4 | h4) | h4
      · rw [Nat.beq_refl] at h4; cases h4
      · rw [h4] at hw; cases hw
      · exact h4
    · exact noClash_spec h.2 k w' h1 hw

theorem MTrace.order (T : MTrace P C call ops st val ft fs s s') {i k b : Nat} {w w' : Bool} (hi : i < ops.size) (hk : k < i) (h1 : ft k = some (b, w')) (h2 : ft i = some (b, w)) (hw : (w || w') = true) : bef ops i k := by
  obtain ⟨o, ho⟩ := size_some hi
  have := (T.step i o ho).2.2.2 b w h2
  exact noClash_spec this k w' ((T.fs_iff i (Nat.le_of_lt hi) k b w').mpr ⟨hk, h1⟩) hw

theorem MTrace.n_eq (T : MTrace P C call ops st val ft fs s s') : ∀ (i : Nat), i ≤ ops.size → (st i).H.n = (st 0).H.n
  | 0, _ => rfl
  | i + 1, hi => by
    obtain ⟨o, ho⟩ := size_some (ops := ops) (i := i) (by omega)
    have ih := T.n_eq i (by omega)
    rcases (T.step i o ho).1 with h | ⟨_, _, _, _, _, _, _, _, h, _⟩ | ⟨_, _, _, _, _, _, _, _, _, _, h, _⟩
    · rw [h.2.1]; exact ih
    · rw [h]; exact ih
    · obtain ⟨_, _, _, _, _, e, _⟩ := storeV_blk (H2 := (st i).H) rfl h
      rw [e]; exact ih

/-- A block that nobody writes stays. -/
theorem MTrace.still (T : MTrace P C call ops st val ft fs s s') {h j : Nat} : ∀ (i : Nat), h ≤ i → i ≤ ops.size → (∀ m, h ≤ m → m < i → ft m ≠ some (j, true)) → (st i).H.blk j = (st h).H.blk j
  | 0, h1, _, _ => by obtain rfl : h = 0 := by omega
                      rfl
  | i + 1, h1, hi, hn => by
    rcases Nat.lt_or_ge h (i + 1) with h' | h'
    · have ih := T.still i (by omega) (by omega) (fun m a b => hn m a (by omega))
      obtain ⟨o, ho⟩ := size_some (ops := ops) (i := i) (by omega)
      rcases (T.step i o ho).1 with h2 | ⟨_, _, _, _, _, _, _, _, h2, _⟩ | ⟨_, _, _, b, _, _, _, _, _, _, h2, _, h3⟩
      · rw [h2.2.1]; exact ih
      · rw [h2]; exact ih
      · obtain ⟨_, _, _, e, _⟩ := storeV_blk (H2 := (st i).H) rfl h2
        have hb : j ≠ b := by rintro rfl; exact hn i (by omega) (by omega) h3
        rw [(e j hb).2]; exact ih
    · obtain rfl : h = i + 1 := by omega
      rfl

theorem MTrace.lw_iff (T : MTrace P C call ops st val ft fs s s') : ∀ (i : Nat), i ≤ ops.size → ∀ x, x ≤ (st i).H.lw ↔ (x ≤ (st 0).H.lw ∧ ∀ m b, m < i → ft m = some (b, true) → x ≤ b)
  | 0, _, x => ⟨fun h => ⟨h, fun m b hm => by omega⟩, fun h => h.1⟩
  | i + 1, hi, x => by
    obtain ⟨o, ho⟩ := size_some (ops := ops) (i := i) (by omega)
    have ih := T.lw_iff i (by omega) x
    have skip : (st (i + 1)).H.lw = (st i).H.lw → (∀ b, ft i ≠ some (b, true)) → (x ≤ (st (i + 1)).H.lw ↔ (x ≤ (st 0).H.lw ∧ ∀ m b, m < i + 1 → ft m = some (b, true) → x ≤ b)) := fun e hf => by
      rw [e, ih]
      refine ⟨fun ⟨h1, h2⟩ => ⟨h1, fun m b hm hb => ?_⟩, fun ⟨h1, h2⟩ => ⟨h1, fun m b hm hb => h2 m b (by omega) hb⟩⟩
      by_cases e : m = i
      · subst e; exact absurd hb (hf b)
      · exact h2 m b (by omega) hb
    rcases (T.step i o ho).1 with h2 | ⟨_, _, _, _, _, _, _, _, h2, h3⟩ | ⟨_, _, _, b, _, _, _, _, _, _, h2, _, h3⟩
    · exact skip (by rw [h2.2.1]) (fun b e => by rw [h2.1] at e; cases e)
    · exact skip (by rw [h2]) (fun b e => by rw [h3] at e; cases e)
    · obtain ⟨_, _, _, _, _, _, _, e⟩ := storeV_blk (H2 := (st i).H) rfl h2
      rw [e, Nat.le_min, ih]
      refine ⟨fun ⟨⟨h4, h5⟩, h6⟩ => ⟨h4, fun m b' hm hb => ?_⟩, fun ⟨h4, h5⟩ => ⟨⟨h4, fun m b' hm hb => h5 m b' (by omega) hb⟩, h5 i b (by omega) h3⟩⟩
      by_cases e : m = i
      · subst e; rw [h3] at hb; cases hb; exact h6
      · exact h5 m b' (by omega) hb

theorem MTrace.k_eq (T : MTrace P C call ops st val ft fs s s') : ∀ (i : Nat), i ≤ ops.size → (st i).k = (st 0).k
  | 0, _ => rfl
  | i + 1, hi => by
    obtain ⟨o, ho⟩ := size_some (ops := ops) (i := i) (by omega)
    obtain ⟨_, h, _⟩ := put_some (T.step i o ho).2.1
    exact h.trans (T.k_eq i (by omega))

theorem MTrace.dst_lt (T : MTrace P C call ops st val ft fs s s') {m : Nat} {t : Nat} (h : dstOf ops m = some t) : t < (st 0).k := by
  unfold dstOf at h
  cases ho : ops[m]? with
  | none => rw [ho] at h; cases h
  | some o =>
    rw [ho] at h
    obtain ⟨_, _, h1⟩ := put_some (T.step m o ho).2.1
    have hd : o.dst = some t := h
    rcases h1 with ⟨h1, _⟩ | ⟨d, h1, h2, _⟩
    · rw [h1] at hd; cases hd
    · rw [h1] at hd
      obtain rfl := Option.some.inj hd
      rw [T.k_eq m (Nat.le_of_lt (lt_of_some ho))] at h2
      exact h2

theorem MTrace.tm (T : MTrace P C call ops st val ft fs s s') : ∀ (i : Nat), i ≤ ops.size → ∀ t v, (st i).tm.get t = some v →
    (∃ m, m < i ∧ dstOf ops m = some t ∧ val m = v ∧ ∀ m', m < m' → m' < i → dstOf ops m' ≠ some t) ∨ ((∀ m, m < i → dstOf ops m ≠ some t) ∧ (st 0).tm.get t = some v)
  | 0, _, t, v, h => .inr ⟨fun m hm => by omega, h⟩
  | i + 1, hi, t, v, h => by
    obtain ⟨o, ho⟩ := size_some (ops := ops) (i := i) (by omega)
    have hd : dstOf ops i = o.dst := by simp [dstOf, ho]
    obtain ⟨_, _, h1⟩ := put_some (T.step i o ho).2.1
    have old : dstOf ops i ≠ some t → (st i).tm.get t = some v →
        (∃ m, m < i + 1 ∧ dstOf ops m = some t ∧ val m = v ∧ ∀ m', m < m' → m' < i + 1 → dstOf ops m' ≠ some t) ∨ ((∀ m, m < i + 1 → dstOf ops m ≠ some t) ∧ (st 0).tm.get t = some v) := fun hne hold => by
      rcases T.tm i (by omega) t v hold with ⟨m, a1, a2, a3, a4⟩ | ⟨a1, a2⟩
      · refine .inl ⟨m, by omega, a2, a3, fun m' h1 h2 => ?_⟩
        by_cases e : m' = i
        · subst e; exact hne
        · exact a4 m' h1 (by omega)
      · refine .inr ⟨fun m hm => ?_, a2⟩
        by_cases e : m = i
        · subst e; exact hne
        · exact a1 m (by omega)
    rcases h1 with ⟨h1, h2⟩ | ⟨d, h1, h2, h3⟩
    · rw [h2] at h
      exact old (by rw [hd, h1]; simp) h
    · rw [h3, Tr.get_set] at h
      split at h
      · rename_i e
        subst e
        obtain rfl := Option.some.inj h
        exact .inl ⟨i, by omega, by rw [hd, h1], rfl, fun m' _ _ => by omega⟩
      · rename_i e
        exact old (by rw [hd, h1]; intro h'; injection h' with h'; exact e h'.symm) h
end

/-- What holds between whatever has been done and the text's own order. -/
structure MD (ops : Array Oper) (st : Nat → St) (ft : Nat → Option (Nat × Bool)) (val : Nat → Value) (B : Nat) (S0 : Nat → Prop) (L0 : Nat → Loc) (w0 : World) (D : Nat → Prop) (HD : AH) (a : Act) (w : World) : Prop where
  inv : Inv B S0 L0 HD w
  hn : HD.n = (st 0).H.n
  fr : Fr S0 L0 (st 0).H w0 L0 HD w
  lw : ∀ x, x ≤ HD.lw ↔ (x ≤ (st 0).H.lw ∧ ∀ m b, m < ops.size → D m → ft m = some (b, true) → x ≤ b)
  blk : ∀ j h, h ≤ ops.size → (∀ m, m < ops.size → ft m = some (j, true) → (D m ↔ m < h)) → HD.blk j = (st h).H.blk j
  defers : a.defers = []
  size : a.tmps.size = (st 0).k
  v0 : ∀ t v, (∀ m, m < ops.size → D m → dstOf ops m ≠ some t) → (st 0).tm.get t = some v → t < (st 0).k ∧ VR S0 L0 v (a.tmps.getD t undef)
  v1 : ∀ m t, m < ops.size → D m → dstOf ops m = some t → (∀ m', m' < ops.size → D m' → m < m' → dstOf ops m' ≠ some t) → VR S0 L0 (val m) (a.tmps.getD t undef)

theorem Inv.reloc {B : Nat} {S S' : Nat → Prop} {L L' : Nat → Loc} {H : AH} {w : World} (hI : Inv B S' L' H w) (hS : ∀ i, S' i ↔ S i) (hL : ∀ i, S i → L' i = L i) : Inv B S L H w := by
  refine ⟨fun i sz cs h => ?_, fun i sz cs h => ?_, fun i j a b c d h h' e => ?_, fun i h => hI.bd i ((hS i).mpr h), hI.base⟩
  · obtain ⟨h1, h2, h3, h4⟩ := hI.ro i sz cs h
    have hs := (hS i).mp h1
    rw [hL i hs] at h2 h3 h4
    exact ⟨hs, h2, h3, fun k v hk => by
      obtain ⟨v', h5, h6⟩ := h4 k v hk
      exact ⟨v', h5, h6.mono (fun j hj => (hS j).mp hj) (fun j hj => (hL j ((hS j).mp hj)).symm)⟩⟩
  · obtain ⟨h1, h2, h3, C, e, h4, h5, h6⟩ := hI.rw i sz cs h
    have hs := (hS i).mp h1
    rw [hL i hs] at h2 h3 h4 h5 h6
    exact ⟨hs, h2, h3, C, e, h4, h5, fun k v hk => by
      obtain ⟨v', h7, h8⟩ := h6 k v hk
      exact ⟨v', h7, h8.mono (fun j hj => (hS j).mp hj) (fun j hj => (hL j ((hS j).mp hj)).symm)⟩⟩
  · have h1 := (hS i).mp (hI.rw i _ _ h).1
    have h2 := (hS j).mp (hI.rw j _ _ h').1
    exact hI.dj i j a b c d h h' (by rw [hL i h1, hL j h2]; exact e)

theorem Fr.reloc {B : Nat} {S : Nat → Prop} {L L' : Nat → Loc} {H H' : AH} {w w' : World} (hF : Fr S L H w L' H' w') (hI : Inv B S L H' w') (hb : ∀ i, S i → i < H.n) : Fr S L H w L H' w' :=
  ⟨fun _ _ => rfl, hF.n, hF.lw, hF.keep, hF.back, fun i hi sz cs h => absurd (hb i (hI.rw i sz cs h).1) (by omega), hF.os, hF.tape, hF.output, hF.size, hF.frame⟩

section
variable {P : Program} {C : Cfg} {call : FuncId → List Value → AH → Option (Value × AH)} {ops : Array Oper} {st : Nat → St} {val : Nat → Value} {ft : Nat → Option (Nat × Bool)} {fs : Nat → List (Nat × Nat × Bool)} {s s' : St}
variable {B : Nat} {S0 : Nat → Prop} {L0 : Nat → Loc} {w0 : World} {D : Nat → Prop} {HD : AH} {a : Act} {w : World}

theorem MD.looks (T : MTrace P C call ops st val ft fs s s') (hR : RegOk ops) (h : MD ops st ft val B S0 L0 w0 D HD a w) {i : Nat} {o : Oper} (ho : ops[i]? = some o) (hDi : ¬ D i) (hpre : ∀ m, bef ops i m → D m)
    (hcl : ∀ i m, i < ops.size → D i → bef ops i m → D m) {t : Nat} (ht : t ∈ o.looksAt ops) {v : Value} (hv : (st i).tm.get t = some v) : t < a.tmps.size ∧ VR S0 L0 v (a.tmps.getD t undef) := by
  have hi := lt_of_some ho
  have later : ∀ m', m' < ops.size → D m' → i < m' → dstOf ops m' ≠ some t := fun m' hm' hD' hlt e => by
    obtain ⟨o', ho'⟩ := size_some hm'
    rcases hR.apart i m' o o' ho ho' hlt with h1 | h1
    · exact hDi (hcl m' i hm' hD' h1)
    · exact (Oper.apart_spec h1).2.2 t (by simpa [dstOf, ho'] using e) ht
  rw [h.size]
  rcases T.tm i (Nat.le_of_lt hi) t v hv with ⟨m, h1, h2, h3, h4⟩ | ⟨h1, h2⟩
  · obtain ⟨om, hom⟩ := size_some (ops := ops) (i := m) (by omega)
    have hb : bef ops i m := by
      rcases hR.apart m i om o hom ho h1 with h5 | h5
      · exact h5
      · exact absurd ht ((Oper.apart_spec h5).1 t (by simpa [dstOf, hom] using h2))
    refine ⟨T.dst_lt h2, ?_⟩
    have := h.v1 m t (by omega) (hpre m hb) h2 (fun m' hm' hD' hlt => by
      rcases Nat.lt_or_ge m' i with h6 | h6
      · exact h4 m' hlt h6
      · rcases Nat.lt_or_ge i m' with h7 | h7
        · exact later m' hm' hD' h7
        · obtain rfl : m' = i := by omega
          exact absurd hD' hDi)
    rw [h3] at this
    exact this
  · exact h.v0 t v (fun m hm hD' => by
      rcases Nat.lt_or_ge m i with h6 | h6
      · exact h1 m h6
      · rcases Nat.lt_or_ge i m with h7 | h7
        · exact later m hm hD' h7
        · obtain rfl : m = i := by omega
          exact absurd hD' hDi) h2

theorem mput_getD {i : Nat} {o : Oper} (T : MTrace P C call ops st val ft fs s s') (ho : ops[i]? = some o) (hsz : a.tmps.size = (st 0).k) (v' : Value) (t : Nat) :
    (a.put o.dst v').tmps.getD t undef = if dstOf ops i = some t then v' else a.tmps.getD t undef := by
  have hd : dstOf ops i = o.dst := by simp [dstOf, ho]
  rw [hd]
  cases hdst : o.dst with
  | none => simp [Act.put]
  | some d =>
    simp only [Act.put]
    by_cases e : d = t
    · subst e
      rw [if_pos rfl, getD_set_self _ _ _ _ (by rw [hsz]; exact T.dst_lt (by rw [hd, hdst]))]
    · rw [if_neg (by intro h; injection h with h; exact e h), getD_set_ne' _ _ _ _ _ e]

theorem MD.slots (T : MTrace P C call ops st val ft fs s s') (hR : RegOk ops) (h : MD ops st ft val B S0 L0 w0 D HD a w) {i : Nat} {o : Oper} (ho : ops[i]? = some o) (hDi : ¬ D i)
    (hcl : ∀ i m, i < ops.size → D i → bef ops i m → D m) {v' : Value} (hv : VR S0 L0 (val i) v') :
    (a.put o.dst v').defers = [] ∧ (a.put o.dst v').tmps.size = (st 0).k ∧
    (∀ t v, (∀ m, m < ops.size → (D m ∨ m = i) → dstOf ops m ≠ some t) → (st 0).tm.get t = some v → t < (st 0).k ∧ VR S0 L0 v ((a.put o.dst v').tmps.getD t undef)) ∧
    (∀ m t, m < ops.size → (D m ∨ m = i) → dstOf ops m = some t → (∀ m', m' < ops.size → (D m' ∨ m' = i) → m < m' → dstOf ops m' ≠ some t) → VR S0 L0 (val m) ((a.put o.dst v').tmps.getD t undef)) := by
  have hi := lt_of_some ho
  refine ⟨?_, ?_, fun t v h1 h2 => ?_, fun m t hm hD hd hlast => ?_⟩
  · have := h.defers; cases hdst : o.dst <;> simp [Act.put, this]
  · have := h.size; cases hdst : o.dst <;> simp [Act.put, this]
  · rw [mput_getD T ho h.size, if_neg (h1 i hi (.inr rfl))]
    exact h.v0 t v (fun m hm hD => h1 m hm (.inl hD)) h2
  · rw [mput_getD T ho h.size]
    by_cases hmi : m = i
    · subst hmi; rw [if_pos hd]; exact hv
    · have hDm : D m := hD.resolve_right hmi
      have hne : dstOf ops i ≠ some t := by
        intro e
        obtain ⟨om, hom⟩ := size_some hm
        rcases Nat.lt_or_ge m i with h1 | h1
        · exact hlast i hi (.inr rfl) h1 e
        · have hlt : i < m := by omega
          rcases hR.apart i m o om ho hom hlt with h2 | h2
          · exact hDi (hcl m i hm hDm h2)
          · exact (Oper.apart_spec h2).2.1 t (by simpa [dstOf, ho] using e) (by simpa [dstOf, hom] using hd)
      rw [if_neg hne]
      exact h.v1 m t hm hDm hd (fun m' hm' hD' => hlast m' hm' (.inl hD'))

/-- One more operation. -/
theorem MD.step (T : MTrace P C call ops st val ft fs s s') (hR : RegOk ops) (hcall : CallOk P C B call) (hG : GO C S0 L0) (hI0 : Inv B S0 L0 (st 0).H w0) (h : MD ops st ft val B S0 L0 w0 D HD a w)
    {i : Nat} {o : Oper} (ho : ops[i]? = some o) (hDi : ¬ D i) (hpre : ∀ m, bef ops i m → D m) (hcl : ∀ i m, i < ops.size → D i → bef ops i m → D m)
    {K : Act → World → Prop} {Q : Exit → Act → World → Prop} (hK : ∀ HD2 a' w', MD ops st ft val B S0 L0 w0 (fun m => D m ∨ m = i) HD2 a' w' → K a' w') : wpOp P ops Q i K a w := by
  have hi := lt_of_some ho
  have hlook := fun {t : Nat} (ht : t ∈ o.looksAt ops) {v : Value} (hv : (st i).tm.get t = some v) => h.looks T hR ho hDi hpre hcl ht hv
  have hopd : ∀ x ∈ o.op.operands, ∀ u, opd C (st i).tm x = some u → VR S0 L0 u (a.eval x) := fun x hx u hu =>
    opd_vr2 hG (fun t v e hv => by subst e; exact (hlook (looks_tmp hx) hv).2) hu
  have hwant : ∀ b, wantedV ops (st i).tm o = some b → Region.wanted o (yielded ops a.tmps) = b := fun b hb =>
    wanted_ok hb (fun j want d hg hd v hv => hlook (looks_guard hg hd) hv)
  have hsb : ∀ i, S0 i → i < HD.n := fun i hs => by rw [h.hn]; exact hI0.bd i hs
  -- a block that this operation touches is as it was in the text's order
  have hsame : ∀ b w, ft i = some (b, w) → HD.blk b = (st i).H.blk b := fun b w hf => h.blk b i (Nat.le_of_lt hi) fun m hm hfm => by
    constructor
    · intro hDm
      rcases Nat.lt_or_ge m i with h' | h'
      · exact h'
      · rcases Nat.lt_or_ge i m with h'' | h''
        · exact absurd (hcl m i hm hDm (T.order hm h'' hf hfm (by simp))) hDi
        · obtain rfl : m = i := by omega
          exact absurd hDm hDi
    · intro hlt
      exact hpre m (T.order hi hlt hfm hf (by simp))
  -- nothing changes but a temporary
  have quiet : ∀ (v' : Value) (w' : World), VR S0 L0 (val i) v' → (∀ b, ft i ≠ some (b, true)) → Inv B S0 L0 HD w' → Fr S0 L0 HD w L0 HD w' → (st (i + 1)).H = (st i).H →
      MD ops st ft val B S0 L0 w0 (fun m => D m ∨ m = i) HD (a.put o.dst v') w' := fun v' w' hv hf hI' hF he => by
    obtain ⟨s1, s2, s3, s4⟩ := h.slots T hR ho hDi hcl hv
    refine ⟨hI', h.hn, Fr.trans hI0 h.inv (fun _ h => h) h.fr hF, fun x => ?_, fun j k hk hw => ?_, s1, s2, s3, s4⟩
    · rw [h.lw x]
      refine ⟨fun ⟨h1, h2⟩ => ⟨h1, fun m b hm hD hb => ?_⟩, fun ⟨h1, h2⟩ => ⟨h1, fun m b hm hD hb => h2 m b hm (.inl hD) hb⟩⟩
      rcases hD with hD | hD
      · exact h2 m b hm hD hb
      · subst hD; exact absurd hb (hf b)
    · refine h.blk j k hk fun m hm hfm => ?_
      rw [← hw m hm hfm]
      refine ⟨fun h => .inl h, fun h => ?_⟩
      rcases h with h | h
      · exact h
      · subst h; exact absurd hfm (hf j)
  unfold wpOp
  rw [ho]
  dsimp only
  rcases (T.step i o ho).1 with ⟨h1, h2, h3⟩ | ⟨t, x, b, off, e, h1, h2, h3, h4, h5⟩ | ⟨t, x, y, b, off, v, e, h1, h2, h3, h4, h5, h6⟩
  · rcases h3 with ⟨h3, h4⟩ | ⟨h3, h5⟩
    · rw [hwant _ h3, if_neg (by simp)]
      exact hK HD _ w (quiet undef w (by rw [h4]; exact undef_vr) (fun b e => by rw [h1] at e; cases e) h.inv (Fr.refl h.inv) h2)
    · rw [hwant _ h3, if_pos rfl]
      left
      refine (evOp_sound hcall hG h.inv hopd (h5 HD)).wp fun v' w' hg => ?_
      obtain ⟨L', gI, gF, gV⟩ := hg
      have hI' : Inv B S0 L0 HD w' := gI.reloc (fun i => ⟨ext_self, .inl⟩) (fun i hs => gF.agree i hs)
      exact hK HD _ w' (quiet v' w' (gV.mono (fun i => ext_self) (fun i hs => (gF.agree i (ext_self hs)).symm)) (fun b e => by rw [h1] at e; cases e) hI' (gF.reloc hI' hsb) h2)
  · rw [hwant _ h1, if_pos rfl]
    left
    have hev : evOp P C call (st i).tm HD o.op = some (val i, HD) := by
      rw [e]
      simp only [evOp, oLoad, oStore, h2, loadV_blk (hsame b false h5), h3]
    refine (evOp_sound hcall hG h.inv hopd hev).wp fun v' w' hg => ?_
    obtain ⟨L', gI, gF, gV⟩ := hg
    have hI' : Inv B S0 L0 HD w' := gI.reloc (fun i => ⟨ext_self, .inl⟩) (fun i hs => gF.agree i hs)
    exact hK HD _ w' (quiet v' w' (gV.mono (fun i => ext_self) (fun i hs => (gF.agree i (ext_self hs)).symm)) (fun b e => by rw [h5] at e; cases e) hI' (gF.reloc hI' hsb) h4)
  · rw [hwant _ h1, if_pos rfl]
    left
    obtain ⟨HD2, e1, e2, e3, e4, e5, e6, e7⟩ := storeV_blk (hsame b true h6) h4
    have hev : evOp P C call (st i).tm HD o.op = some (val i, HD2) := by
      rw [e]
      simp only [evOp, oLoad, oStore, h2, h3, e1, h5]
    refine (evOp_sound hcall hG h.inv hopd hev).wp fun v' w' hg => ?_
    obtain ⟨L', gI, gF, gV⟩ := hg
    have hS : ∀ i, ext S0 HD.n HD2.n i ↔ S0 i := fun i => by rw [e4]; exact ⟨ext_self, .inl⟩
    have hI' : Inv B S0 L0 HD2 w' := gI.reloc hS (fun i hs => gF.agree i hs)
    obtain ⟨s1, s2, s3, s4⟩ := h.slots T hR ho hDi hcl (gV.mono (fun i hs => (hS i).mp hs) (fun i hs => (gF.agree i ((hS i).mp hs)).symm))
    refine hK HD2 _ w' ⟨hI', e4.trans h.hn, Fr.trans hI0 h.inv (fun _ h => h) h.fr (gF.reloc hI' hsb), fun x => ?_, fun j k hk hw => ?_, s1, s2, s3, s4⟩
    · rw [e6, Nat.le_min, h.lw x]
      refine ⟨fun ⟨⟨h1, h2⟩, h7⟩ => ⟨h1, fun m b' hm hD hb => ?_⟩, fun ⟨h1, h2⟩ => ⟨⟨h1, fun m b hm hD hb => h2 m b hm (.inl hD) hb⟩, h2 i b hi (.inr rfl) h6⟩⟩
      rcases hD with hD | hD
      · exact h2 m b' hm hD hb
      · subst hD; rw [h6] at hb; cases hb; exact h7
    · by_cases hj : j = b
      · subst hj
        have hik : i < k := (hw i hi h6).mp (.inr rfl)
        rw [e2]
        refine (T.still k (by omega) hk fun m hm1 hm2 hfm => ?_).symm
        have hm : m < ops.size := by omega
        have hDm := (hw m hm hfm).mpr hm2
        rcases hDm with hDm | hDm
        · exact hDi (hcl m i hm hDm (T.order hm (by omega) h6 hfm (by simp)))
        · omega
      · rw [(e3 j hj).1]
        refine h.blk j k hk fun m hm hfm => ?_
        rw [← hw m hm hfm]
        refine ⟨fun h => .inl h, fun h => ?_⟩
        rcases h with h | h
        · exact h
        · subst h; rw [h6] at hfm; cases hfm; exact absurd rfl hj

theorem MD.done (T : MTrace P C call ops st val ft fs s s') (hI0 : Inv B S0 L0 (st 0).H w0) (h : MD ops st ft val B S0 L0 w0 D HD a w) (hD : ∀ m, m < ops.size → D m) :
    Done B S0 L0 (st 0).H w0 (st ops.size) a w := by
  have hb : ∀ j, (st ops.size).H.blk j = HD.blk j := fun j => (h.blk j ops.size (Nat.le_refl _) fun m hm _ => ⟨fun _ => hm, fun _ => hD m hm⟩).symm
  have hn : (st ops.size).H.n = HD.n := (T.n_eq _ (Nat.le_refl _)).trans h.hn.symm
  have hlw : (st ops.size).H.lw = HD.lw := by
    apply Nat.le_antisymm
    · rw [h.lw]
      obtain ⟨h1, h2⟩ := (T.lw_iff ops.size (Nat.le_refl _) (st ops.size).H.lw).mp (Nat.le_refl _)
      exact ⟨h1, fun m b hm _ hb => h2 m b hm hb⟩
    · rw [T.lw_iff ops.size (Nat.le_refl _)]
      obtain ⟨h1, h2⟩ := (h.lw HD.lw).mp (Nat.le_refl _)
      exact ⟨h1, fun m b hm hb => h2 m b hm (hD m hm) hb⟩
  have hn0 : (st ops.size).H.n = (st 0).H.n := T.n_eq _ (Nat.le_refl _)
  have hS : ∀ j, ext S0 (st 0).H.n (st ops.size).H.n j ↔ S0 j := fun j => by rw [hn0]; exact ⟨ext_self, .inl⟩
  refine ⟨L0, ⟨h.defers, by rw [h.size, T.k_eq _ (Nat.le_refl _)], fun t v hv => ?_⟩, ?_, ⟨fun _ _ => rfl, by rw [hn0]; exact Nat.le_refl _, by rw [hlw]; exact h.fr.lw, fun j hj hl => ?_, fun j hj sz cs hb' => ?_, fun j hj sz cs hb' => ?_, h.fr.os, h.fr.tape, h.fr.output, h.fr.size, fun g hg => ?_⟩⟩
  · rw [T.k_eq _ (Nat.le_refl _)]
    rcases T.tm ops.size (Nat.le_refl _) t v hv with ⟨m, h1, h2, h3, h4⟩ | ⟨h1, h2⟩
    · refine ⟨T.dst_lt h2, ?_⟩
      have := h.v1 m t h1 (hD m h1) h2 (fun m' hm' _ hlt => h4 m' hlt hm')
      rw [h3] at this
      exact this.mono (fun j hj => (hS j).mpr hj) (fun _ _ => rfl)
    · obtain ⟨h3, h4⟩ := h.v0 t v (fun m hm _ => h1 m hm) h2
      exact ⟨h3, h4.mono (fun j hj => (hS j).mpr hj) (fun _ _ => rfl)⟩
  · exact (h.inv.congr hb hn).mono (fun j hj => (hS j).mpr hj) (fun j hj => by rw [hn0]; exact hI0.bd j ((hS j).mp hj))
  · rw [hb]; exact h.fr.keep j hj (by rw [← hlw]; exact hl)
  · rw [hb] at hb'; exact h.fr.back j hj sz cs hb'
  · rw [hb] at hb'; rw [hlw]; exact h.fr.newg j hj sz cs hb'
  · rw [hlw]; exact h.fr.frame g hg

theorem mem_any (T : MTrace P C call ops st val ft fs s s') (hR : RegOk ops) (hcall : CallOk P C B call) (hG : GO C S0 L0) (hI0 : Inv B S0 L0 (st 0).H w0) {Q : Exit → Act → World → Prop}
    (hQ : ∀ a w, Done B S0 L0 (st 0).H w0 (st ops.size) a w → Q .normal a w) : ∀ (fuel : Nat) (listed : Array Bool) (HD : AH) (a : Act) (w : World), listed.size = ops.size → undone listed = fuel →
      (∀ (i : Nat) (o : Oper), ops[i]? = some o → listed[i]? = some true → ∀ e ∈ o.after.toList, Region.binds .any e = true → listed[e.on]? = some true) →
      MD ops st ft val B S0 L0 w0 (fun m => listed[m]? = some true) HD a w → wpAny P .any ops Q fuel listed a w := by
  have hend : ∀ (listed : Array Bool) (HD : AH) (a : Act) (w : World), listed.size = ops.size → Region.ready .any ops listed = [] → MD ops st ft val B S0 L0 w0 (fun m => listed[m]? = some true) HD a w → Q .normal a w := by
    intro listed HD a w hsz hr hid
    refine hQ a w (hid.done T hI0 fun m hm => ?_)
    induction m using Nat.strongRecOn with
    | _ m ih =>
      cases hb : listed[m] with
      | true => rw [Array.getElem?_eq_getElem (by omega), hb]
      | false =>
        exfalso
        obtain ⟨o, ho⟩ := size_some hm
        have : m ∈ Region.ready .any ops listed := mem_ready.2 ⟨by simp [Array.getD, hsz, hm, hb], o, ho, fun e he hbe => by
          have hlt := hR.lead m o ho e (by simpa using he) hbe
          have := ih e.on hlt (by omega)
          simp [Array.getD_eq_getD_getElem?, this]⟩
        rw [hr] at this; cases this
  intro fuel
  induction fuel with
  | zero =>
    intro listed HD a w hsz hun hcl hid
    have hr : Region.ready .any ops listed = [] := by
      cases hr : Region.ready .any ops listed with
      | nil => rfl
      | cons i r =>
        exfalso
        have hi : i ∈ Region.ready .any ops listed := by rw [hr]; simp
        obtain ⟨h1, o, ho, _⟩ := mem_ready.1 hi
        have hlt : i < listed.size := by rw [hsz]; exact lt_of_some ho
        have h2 : listed.toList[i]'(by simpa using hlt) = false := by simpa [Array.getD, hlt] using h1
        have := List.count_pos_iff.mpr (h2 ▸ List.getElem_mem (l := listed.toList) (n := i) (by simpa using hlt))
        unfold undone at hun
        omega
    exact ⟨hr, hend listed HD a w hsz hr hid⟩
  | succ fuel ih =>
    intro listed HD a w hsz hun hcl hid
    refine ⟨fun hr => hend listed HD a w hsz hr hid, fun i hi => ?_⟩
    obtain ⟨h1, o, ho, h3⟩ := mem_ready.1 hi
    have hlt : i < listed.size := by rw [hsz]; exact lt_of_some ho
    have hfalse : listed[i]? = some false := by
      rw [Array.getElem?_eq_getElem hlt]; simpa [Array.getD, hlt] using h1
    have hclD : ∀ (i : Nat) (o : Oper), ops[i]? = some o → listed[i]? = some true → ∀ e ∈ o.after.toList, Region.binds .any e = true → listed[e.on]? = some true := hcl
    have h3' : ∀ e ∈ o.after.toList, Region.binds .any e = true → listed[e.on]? = some true := fun e he hb => by
      have := h3 e (by simpa using he) hb
      rw [Array.getD_eq_getD_getElem?] at this
      cases hx : listed[e.on]? with
      | none => rw [hx] at this; simp at this
      | some b => rw [hx] at this; simpa using this
    refine hid.step T hR hcall hG hI0 ho (by rw [hfalse]; simp) (fun m hm => ?_) (fun j m hj hD hb => hR.closed (D := fun m => listed[m]? = some true) hclD m (size_some hj) hD hb) fun HD2 a' w' hid2 => ?_
    · obtain ⟨e, he, hb, h4⟩ := (hR.bef_iff ho).mp hm
      have he1 := h3' e he hb
      rcases h4 with h4 | h4
      · rw [← h4]; exact he1
      · have : e.on < ops.size := by have := hR.lead i o ho e he hb; have := lt_of_some ho; omega
        exact hR.closed (D := fun m => listed[m]? = some true) hclD m (size_some this) he1 h4
    · have hset : ∀ m, (listed.setIfInBounds i true)[m]? = some true ↔ (listed[m]? = some true ∨ m = i) := fun m => by
        rw [Array.getElem?_setIfInBounds]
        by_cases e : i = m
        · subst e; simp [hlt]
        · rw [if_neg e]
          constructor
          · exact fun h => .inl h
          · rintro (h | h)
            · exact h
            · exact absurd h.symm e
      have hfun : (fun m => (listed.setIfInBounds i true)[m]? = some true) = (fun m => listed[m]? = some true ∨ m = i) := by funext m; exact propext (hset m)
      refine ih (listed.setIfInBounds i true) HD2 a' w' (by simp [hsz]) (by have := undone_set hlt hfalse; omega) (fun k ok hk hD e he hb => ?_) (by rw [hfun]; exact hid2)
      rw [hset] at hD ⊢
      rcases hD with hD | hD
      · exact .inl (hcl k ok hk hD e he hb)
      · subst hD
        rw [ho] at hk
        obtain rfl := Option.some.inj hk
        exact .inl (h3' e he hb)
end

/-- A region. -/
theorem evRegion_ok {P : Program} {C : Cfg} {call : FuncId → List Value → AH → Option (Value × AH)} {B : Nat} (hm : P.follows .mixedOrders = true) (hcall : CallOk P C B call) {ops : Array Oper} {draw : Bool} {s s' : St} (h : evRegion P C call ops draw s = some s')
    {S : Nat → Prop} {L : Nat → Loc} {a : Act} {w : World} (hG : GO C S L) (hA : AI S L s.k s.tm a) (hI : Inv B S L s.H w) {Q : Exit → Act → World → Prop} (hQ : ∀ a' w', Done B S L s.H w s' a' w' → Q .normal a' w') (id : Nat) : (Code.region id ops draw).wp P Q a w := by
  unfold evRegion at h
  cases hb : (draw && memOnly ops) with
  | false => rw [hb, cond_false] at h; exact evRegionD_ok hm hcall h hG hA hI hQ id
  | true =>
    rw [hb, cond_true] at h
    rw [Bool.and_eq_true] at hb
    obtain ⟨hd, _⟩ := hb
    subst hd
    cases hr : regOk ops with
    | false => rw [hr] at h; cases h
    | true =>
      rw [hr, cond_true] at h
      have hR := regOk_spec hr
      obtain ⟨st, val, ft, fs, e1, e3, e4, e5⟩ := evMem_trace ops.toList 0 [] s s' h (fun j => by simp)
      have hN : st ops.size = s' := by rw [← e4]; simp
      have T : MTrace P C call ops st val ft fs s s' := ⟨e1, hN, e3, fun i o ho => e5 i o (Nat.zero_le _) ho⟩
      subst e1
      refine mixed_wp hm ?_
      let w1 : World := { w with drawn := w.drawn + 1 }
      have hI1 : Inv B S L (st 0).H w1 := hI.heap rfl
      refine mem_any T hR hcall hG hI1 (fun a' w' hd => hQ a' w' ?_) ops.size _ (st 0).H a w1 (by simp) (by simp [undone]) (fun i o ho hl => by
        have : i < ops.size := lt_of_some ho
        simp [this] at hl) ?_
      · rw [hN] at hd
        obtain ⟨L', d1, d2, d3⟩ := hd
        exact ⟨L', d1, d2, ⟨d3.agree, d3.n, d3.lw, d3.keep, d3.back, d3.newg, d3.os, d3.tape, d3.output, d3.size, d3.frame⟩⟩
      · have hnone : ∀ m, ¬ ((Array.replicate ops.size false)[m]? = some true) := fun m hm => by
          rw [Array.getElem?_replicate] at hm
          split at hm
          · cases hm
          · cases hm
        refine ⟨hI1, rfl, Fr.refl hI1, fun x => ⟨fun h => ⟨h, fun m b _ hm => absurd hm (hnone m)⟩, fun h => h.1⟩, fun j k hk hw => ?_, hA.defers, hA.size, fun t v _ hv => hA.tmp t v hv, fun m t _ hm => absurd hm (hnone m)⟩
        exact (T.still k (Nat.zero_le _) hk fun m _ hm hf => absurd ((hw m (by omega) hf).mpr hm) (hnone m)).symm

end
end Go.Proofs.Ytldapilhmmbjhaa.Ev
