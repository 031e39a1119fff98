/-
  THE ENGINE, part S: drawn regions of operations that change nothing (loads, slices, calls that only reckon).
-/
import Derived.Test.YtldapilhmmbjhaaEvR
namespace Go.Proofs.Ytldapilhmmbjhaa.Ev
open Go Go.RowKit
set_option linter.unusedVariables false
set_option linter.unusedSimpArgs false
noncomputable section

/-- A heap as a drawn operation sees it. -/
def AH.top (H : AH) : AH := { n := H.n, lw := H.n, t := H.t }

/-- Operations one behind the other, of which none changes the heap. -/
def LR (P : Program) (C : Cfg) (k : Nat) : List SOp → Tr Value → AH → (Tr Value → Prop) → Prop
  | [], tm, _, K => K tm
  | o :: r, tm, H, K => match gW tm o.grd with
    | some true => match evOp P C (callI P C) tm H o.op with
      | some (v, H') => H' = H ∧ match o.dst with
        | none => LR P C k r tm H K
        | some d => d < k ∧ LR P C k r (tm.set d v) H K
      | none => False
    | some false => match o.dst with
      | none => LR P C k r tm H K
      | some d => d < k ∧ LR P C k r (tm.set d undef) H K
    | none => False

section
variable {P : Program} {C : Cfg} {Q : Ex → St → Prop} {ops : Array Oper} {k : Nat}

theorem LR_draw : ∀ (l : List Oper) (i : Nat) (tm : Tr Value) (H : AH) (K : Tr Value → Prop), LR P C k (stripL ops l) tm H.top K → ∃ tm', evDraw P C (callI P C) ops i false [] l ⟨k, tm, H⟩ = some ⟨k, tm', H⟩ ∧ K tm'
  | [], i, tm, H, K, h => ⟨tm, by simp only [evDraw], h⟩
  | o :: r, i, tm, H, K, h => by
    simp only [stripL, LR] at h
    simp only [evDraw]
    rw [gW_eq]
    split at h
    · rename_i hg
      rw [hg]
      split at h
      · rename_i v H1 hop
        obtain ⟨e, h⟩ := h
        subst e
        obtain ⟨tm1, hput, hl⟩ := put_dst (k := k) (H := H) (H1 := H) (K1 := fun tm => LR P C k (stripL ops r) tm H.top K) h
        obtain ⟨tm', h1, h2⟩ := LR_draw r (i + 1) tm1 H K hl
        refine ⟨tm', ?_, h2⟩
        have hd : evDrawOp P C (callI P C) ops i false [] ⟨k, tm, H⟩ o = some (v, H, false) := by
          unfold evDrawOp
          cases hh : heapOp o.op with
          | true =>
            rw [cond_true]
            simp only [hidden, hideT]
            have hop' : evOp P C (callI P C) tm { n := H.n, lw := H.n, t := H.t } o.op = some (v, { n := H.n, lw := H.n, t := H.t }) := hop
            rw [hop']
            have : Nat.ble H.n H.n = true := Nat.ble_eq.mpr (Nat.le_refl _)
            simp only [this, cond_true, Bool.not_false, Bool.and_self, Nat.sub_self, addT]
          | false =>
            rw [cond_false]
            rw [evOp_pure hh hop H]
        simp only [hd, hput, blt_self, cond_false]
        exact h1
      · exact h.elim
    · rename_i hg
      rw [hg]
      obtain ⟨tm1, hput, hl⟩ := put_dst (k := k) (H := H) (H1 := H) (K1 := fun tm => LR P C k (stripL ops r) tm H.top K) h
      obtain ⟨tm', h1, h2⟩ := LR_draw r (i + 1) tm1 H K hl
      refine ⟨tm', ?_, h2⟩
      simp only [hput]
      exact h1
    · exact h.elim

theorem W_reads {id : Nat} {s : St} (hd : (!memOnly ops && regOk ops) = true) (h : LR P C s.k (strip ops) s.tm s.H.top fun tm' => Q .norm ⟨s.k, tm', s.H⟩) : W P C (.region id ops true) s Q := by
  obtain ⟨k, tm, H⟩ := s
  obtain ⟨tm', h1, h2⟩ := LR_draw _ 0 _ _ _ h
  refine ⟨.norm, ⟨k, tm', H⟩, ?_, h2⟩
  rw [evI_eq]
  simp only [evStep]
  rw [Bool.and_eq_true] at hd
  have hm : memOnly ops = false := by simpa using hd.1
  have : evRegion P C (evCall P C (evI P C)) ops true ⟨k, tm, H⟩ = some ⟨k, tm', H⟩ := by
    unfold evRegion evRegionD
    rw [hm, hd.2]
    simp only [Bool.and_false, cond_false, cond_true]
    exact h1
  rw [this]

/-- The heap behind a write of a drawn region. -/
def low (H H2 : AH) : AH := { n := H2.n, lw := min H.lw H2.lw, t := H2.t }

/-- Operations that change nothing, then stores. -/
def LX (P : Program) (C : Cfg) (k : Nat) : List SOp → Tr Value → AH → (Tr Value → AH → Prop) → Prop
  | [], tm, H, K => K tm H
  | o :: r, tm, H, K => match gW tm o.grd with
    | some true => match isStore o.op with
      | true => match evOp P C (callI P C) tm H.top o.op with
        | some (v, H2) => (H2.n = H.n ∧ H2.lw < H.n) ∧ match o.dst with
          | none => LX P C k r tm (low H H2) K
          | some d => d < k ∧ LX P C k r (tm.set d v) (low H H2) K
        | none => False
      | false => match evOp P C (callI P C) tm H.top o.op with
        | some (v, H2) => H2 = H.top ∧ match o.dst with
          | none => LX P C k r tm H K
          | some d => d < k ∧ LX P C k r (tm.set d v) H K
        | none => False
    | some false => match o.dst with
      | none => LX P C k r tm H K
      | some d => d < k ∧ LX P C k r (tm.set d undef) H K
    | none => False

/-- Behind the first store no heap is looked at but by stores. -/
def storesLast : List Oper → Bool
  | [] => true
  | o :: r => cond (isStore o.op) (r.all fun o => isStore o.op || !heapOp o.op) (storesLast r)

def storesAlone (ops : Array Oper) : Bool := (List.range ops.size).all fun i => match ops[i]? with
  | some o => !isStore o.op || alone ops i
  | none => true

theorem LX_draw (hst : ∀ i o, ops[i]? = some o → isStore o.op = true → alone ops i = true) : ∀ (l : List Oper) (i : Nat) (q : Bool) (tm : Tr Value) (H : AH) (K : Tr Value → AH → Prop), (∀ j, l[j]? = ops[i + j]?) →
    (q = true → ∀ o ∈ l, (isStore o.op || !heapOp o.op) = true) → storesLast l = true → LX P C k (stripL ops l) tm H K → ∃ tm' H', evDraw P C (callI P C) ops i q [] l ⟨k, tm, H⟩ = some ⟨k, tm', H'⟩ ∧ K tm' H'
  | [], i, q, tm, H, K, hl, hq, hs, h => ⟨tm, H, by simp only [evDraw], h⟩
  | o :: r, i, q, tm, H, K, hl, hq, hs, h => by
    have h0 : ops[i]? = some o := by simpa using (hl 0).symm
    have hl' : ∀ j, r[j]? = ops[i + 1 + j]? := fun j => by have := hl (j + 1); simpa [Nat.add_assoc, Nat.add_comm 1 j] using this
    have hq' : q = true → ∀ o ∈ r, (isStore o.op || !heapOp o.op) = true := fun e o' h' => hq e o' (List.mem_cons_of_mem _ h')
    simp only [stripL, LX] at h
    simp only [evDraw]
    rw [gW_eq]
    have hs' : storesLast r = true := by
      unfold storesLast at hs
      cases e : isStore o.op with
      | false => rw [e, cond_false] at hs; exact hs
      | true =>
        rw [e, cond_true] at hs
        clear h hl hl' hq hq' h0
        induction r with
        | nil => rfl
        | cons x r ih =>
          rw [List.all_cons, Bool.and_eq_true] at hs
          unfold storesLast
          cases isStore x.op with
          | false => rw [cond_false]; exact ih hs.2
          | true => rw [cond_true]; exact hs.2
    split at h
    · rename_i hg
      rw [hg]
      split at h
      · rename_i hstore
        split at h
        · rename_i v H2 hop
          obtain ⟨⟨e1, e2⟩, h⟩ := h
          obtain ⟨tm1, hput, hlx⟩ := put_dst (k := k) (H := H) (H1 := low H H2) (K1 := fun tm => LX P C k (stripL ops r) tm (low H H2) K) h
          have hall : ∀ o ∈ r, (isStore o.op || !heapOp o.op) = true := by
            unfold storesLast at hs
            rw [hstore, cond_true] at hs
            exact List.all_eq_true.mp hs
          obtain ⟨tm', H', h1, h2⟩ := LX_draw hst r (i + 1) true tm1 (low H H2) K hl' (fun _ => hall) hs' hlx
          refine ⟨tm', H', ?_, h2⟩
          have hh : heapOp o.op = true := by
            revert hstore
            cases o.op <;> simp [isStore, heapOp]
          have hd : evDrawOp P C (callI P C) ops i q [] ⟨k, tm, H⟩ o = some (v, low H H2, true) := by
            unfold evDrawOp
            rw [hh, cond_true]
            simp only [hidden, hideT]
            have hop' : evOp P C (callI P C) tm { n := H.n, lw := H.n, t := H.t } o.op = some (v, H2) := hop
            rw [hop']
            have a1 : Nat.ble H.n H2.n = true := Nat.ble_eq.mpr (by omega)
            have a2 : Nat.ble H.n H2.lw = false := by
              cases hb : Nat.ble H.n H2.lw with
              | false => rfl
              | true => have := Nat.le_of_ble_eq_true hb; omega
            simp only [a1, a2, cond_true, Bool.and_false, cond_false, hst i o h0 hstore, List.isEmpty_nil, Bool.and_self]
            rfl
          have hn : Nat.blt H.n (low H H2).n = false := by
            show Nat.blt H.n H2.n = false
            rw [e1]; exact blt_self _
          simp only [hd, hput, hn, cond_false]
          exact h1
        · exact h.elim
      · rename_i hstore
        split at h
        · rename_i v H2 hop
          obtain ⟨e, h⟩ := h
          subst e
          obtain ⟨tm1, hput, hlx⟩ := put_dst (k := k) (H := H) (H1 := H) (K1 := fun tm => LX P C k (stripL ops r) tm H K) h
          obtain ⟨tm', H', h1, h2⟩ := LX_draw hst r (i + 1) q tm1 H K hl' hq' hs' hlx
          refine ⟨tm', H', ?_, h2⟩
          have hd : evDrawOp P C (callI P C) ops i q [] ⟨k, tm, H⟩ o = some (v, H, q) := by
            unfold evDrawOp
            cases hh : heapOp o.op with
            | true =>
              have hqf : q = false := by
                cases q with
                | false => rfl
                | true => have := hq rfl o (List.mem_cons_self ..); rw [hstore, hh] at this; cases this
              subst hqf
              rw [cond_true]
              simp only [hidden, hideT]
              have hop' : evOp P C (callI P C) tm { n := H.n, lw := H.n, t := H.t } o.op = some (v, { n := H.n, lw := H.n, t := H.t }) := hop
              rw [hop']
              have : Nat.ble H.n H.n = true := Nat.ble_eq.mpr (Nat.le_refl _)
              simp only [this, cond_true, Bool.not_false, Bool.and_self, Nat.sub_self, addT]
            | false =>
              rw [cond_false]
              rw [evOp_pure hh hop H]
          simp only [hd, hput, blt_self, cond_false]
          exact h1
        · exact h.elim
    · rename_i hg
      rw [hg]
      obtain ⟨tm1, hput, hlx⟩ := put_dst (k := k) (H := H) (H1 := H) (K1 := fun tm => LX P C k (stripL ops r) tm H K) h
      obtain ⟨tm', H', h1, h2⟩ := LX_draw hst r (i + 1) q tm1 H K hl' hq' hs' hlx
      refine ⟨tm', H', ?_, h2⟩
      simp only [hput]
      exact h1
    · exact h.elim

theorem W_rws {id : Nat} {s : St} (hd : (!memOnly ops && regOk ops && storesAlone ops && storesLast ops.toList) = true) (h : LX P C s.k (strip ops) s.tm s.H fun tm' H' => Q .norm ⟨s.k, tm', H'⟩) : W P C (.region id ops true) s Q := by
  obtain ⟨k, tm, H⟩ := s
  rw [Bool.and_eq_true, Bool.and_eq_true, Bool.and_eq_true] at hd
  have hst : ∀ i o, ops[i]? = some o → isStore o.op = true → alone ops i = true := fun i o hi hs => by
    have := List.all_eq_true.mp hd.1.2 i (by simpa using lt_of_some hi)
    rw [hi] at this
    simpa [hs] using this
  obtain ⟨tm', H', h1, h2⟩ := LX_draw hst _ 0 false _ _ _ (fun j => by simp) (fun e => by cases e) hd.2 h
  refine ⟨.norm, ⟨k, tm', H'⟩, ?_, h2⟩
  rw [evI_eq]
  simp only [evStep]
  have hm : memOnly ops = false := by simpa using hd.1.1.1
  have : evRegion P C (evCall P C (evI P C)) ops true ⟨k, tm, H⟩ = some ⟨k, tm', H'⟩ := by
    unfold evRegion evRegionD
    rw [hm, hd.1.1.2]
    simp only [Bool.and_false, cond_false, cond_true]
    exact h1
  rw [this]

/-- A halt between two parts; what is to hold is hidden behind a name. -/
theorem W_thenK (R : St → Prop) {a b : Code} {s : St} (h1 : ∀ Q' : Ex → St → Prop, (∀ s', R s' → Q' .norm s') → W P C a s Q') (h2 : ∀ s', R s' → W P C b s' Q) : W P C (.seq a b) s Q :=
  W_then R (h1 _ fun s' h => ⟨rfl, h⟩) h2

/-- Code that goes on, whatever way. -/
theorem W.mono' {c : Code} {s : St} {Q' : Ex → St → Prop} (hQ : ∀ e s, Q e s → Q' e s) (h : W P C c s Q) : W P C c s Q' := h.mono hQ
end

end

end Go.Proofs.Ytldapilhmmbjhaa.Ev
