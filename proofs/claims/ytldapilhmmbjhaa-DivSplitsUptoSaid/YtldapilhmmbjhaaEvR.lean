/-
  THE ENGINE, part R: more rules for open code: regions of loads that draw their order; a halt between two parts.
-/
import Derived.Test.YtldapilhmmbjhaaEvQ
namespace Go.Proofs.Ytldapilhmmbjhaa.Ev
open Go Go.RowKit
set_option linter.unusedVariables false
set_option linter.unusedSimpArgs false
noncomputable section

def loadOnly (ops : Array Oper) : Bool :=
  ops.toList.all fun o => match o.op with
    | .load .. => true
    | op => !heapOp op

theorem noClash_loads {bits b : Nat} : ∀ {l : List (Nat × Nat × Bool)}, (∀ x ∈ l, x.2.2 = false) → noClash bits b false l = true
  | [], _ => rfl
  | (k, b', w') :: r, h => by
    have h1 : w' = false := h (k, b', w') (List.mem_cons_self ..)
    subst h1
    simp only [noClash, Bool.or_self, Bool.not_false, Bool.or_true, Bool.true_or, Bool.true_and]
    exact noClash_loads fun x hx => h x (List.mem_cons_of_mem _ hx)

section
variable {P : Program} {C : Cfg} {call : FuncId → List Value → AH → Option (Value × AH)} {ops : Array Oper}

theorem evMem_loads : ∀ (l : List Oper) (i : Nat) (fs : List (Nat × Nat × Bool)) (s s' : St), (∀ x ∈ fs, x.2.2 = false) →
    (∀ o ∈ l, (match o.op with | .load .. => true | op => !heapOp op) = true) → evList P C call ops l s = some s' → evMem P C call ops i fs l s = some s'
  | [], i, fs, s, s', hf, hl, h => by rw [evList_nil] at h; simp only [evMem]; exact h
  | o :: rest, i, fs, s, s', hf, hl, h => by
    have ho := hl o (List.mem_cons_self ..)
    have hl' := fun o' h' => hl o' (List.mem_cons_of_mem _ h')
    rw [evList_cons] at h
    simp only [evMem]
    split at h <;> first | (cases h; done) | skip
    · split at h <;> first | (cases h; done) | skip
      rename_i v H1 hop
      split at h <;> first | (cases h; done) | skip
      rename_i s1 hput
      cases hh : heapOp o.op with
      | false =>
        have hm : memFoot C s.tm o.op = some none := by
          unfold memFoot
          split
          · rename_i e; rw [e] at hh; cases hh
          · rename_i e; rw [e] at hh; cases hh
          · rw [hh]; rfl
        have hH : evOp P C call s.tm s.H o.op = some (v, s.H) := evOp_pure hh hop s.H
        rw [hH] at hop
        cases hop
        simp only [hm, hH, hput]
        exact evMem_loads rest _ _ s1 s' hf hl' h
      | true =>
        split at ho
        · rename_i t x e
          rw [e] at hop
          simp only [evOp, oLoad] at hop
          split at hop <;> first | (cases hop; done) | skip
          rename_i a ha
          split at hop <;> first | (cases hop; done) | skip
          rename_i v' hv
          cases hop
          obtain ⟨b, off, rfl⟩ : ∃ b off, a = .pointer (some ⟨b, off, none⟩) := by
            unfold loadV at hv
            split at hv
            · exact ⟨_, _, rfl⟩
            · cases hv
          have hm : memFoot C s.tm o.op = some (some (b, false)) := by rw [e]; simp only [memFoot, ha]
          have hop' : evOp P C call s.tm s.H o.op = some (v, s.H) := by rw [e]; simp only [evOp, oLoad, ha, hv]
          simp only [hm, noClash_loads hf, cond_true, hop', hput]
          exact evMem_loads rest _ _ s1 s' (fun x hx => by
            rcases List.mem_cons.mp hx with e | e
            · rw [e]
            · exact hf x e) hl' h
        · rw [hh] at ho; cases ho
    · split at h <;> first | (cases h; done) | skip
      rename_i s1 hput
      try simp only [hput]
      exact evMem_loads rest _ _ s1 s' hf hl' h
end

section
variable {P : Program} {C : Cfg} {Q : Ex → St → Prop}

theorem loadOnly_mem {ops : Array Oper} (h : loadOnly ops = true) : memOnly ops = true := by
  unfold loadOnly at h
  unfold memOnly
  rw [List.all_eq_true] at h ⊢
  intro o ho
  have := h o ho
  revert this
  cases o.op <;> simp

theorem W_loads {i : Nat} {ops : Array Oper} {s : St} (hd : (loadOnly ops && regOk ops) = true) (h : LW' P C s.k (strip ops) s.tm s.H fun tm' H' => Q .norm ⟨s.k, tm', H'⟩) : W P C (.region i ops true) s Q := by
  rw [Bool.and_eq_true] at hd
  obtain ⟨k, tm, H⟩ := s
  obtain ⟨tm', H', h1, h2⟩ := LW_list (ops := ops) ops.toList tm H _ h
  refine ⟨.norm, ⟨k, tm', H'⟩, ?_, h2⟩
  rw [evI_eq]
  simp only [evStep]
  have : evRegion P C (evCall P C (evI P C)) ops true ⟨k, tm, H⟩ = some ⟨k, tm', H'⟩ := by
    unfold evRegion
    rw [loadOnly_mem hd.1, hd.2]
    simp only [Bool.and_self, cond_true]
    refine evMem_loads _ _ _ _ _ (fun x hx => by cases hx) (fun o ho => ?_) h1
    have := hd.1
    unfold loadOnly at this
    rw [List.all_eq_true] at this
    exact this o ho
  rw [this]

def isStore : Op → Bool
  | .store .. => true
  | _ => false

/-- Loads and stores alone; each store is ordered against all of them. -/
def memSafe (ops : Array Oper) : Bool :=
  memOnly ops && regOk ops && (List.range ops.size).all fun i => match ops[i]? with
    | some o => !isStore o.op || alone ops i
    | none => true

theorem noClash_all {bits b : Nat} {w : Bool} : ∀ {l : List (Nat × Nat × Bool)}, (∀ x ∈ l, (w || x.2.2) = true → bits.testBit x.1 = true) → noClash bits b w l = true
  | [], _ => rfl
  | (k, b', w') :: r, h => by
    have h1 := h (k, b', w') (List.mem_cons_self ..)
    simp only [noClash, Bool.and_eq_true, Bool.or_eq_true, Bool.not_eq_true']
    refine ⟨?_, noClash_all fun x hx => h x (List.mem_cons_of_mem _ hx)⟩
    cases hw : (w || w') with
    | false => exact .inl (.inr rfl)
    | true => exact .inr (h1 hw)

theorem evMem_safe {call : FuncId → List Value → AH → Option (Value × AH)} {ops : Array Oper} (hm : memSafe ops = true) : ∀ (l : List Oper) (i : Nat) (fs : List (Nat × Nat × Bool)) (s s' : St), (∀ j, l[j]? = ops[i + j]?) →
    (∀ x ∈ fs, x.1 < i ∧ ∃ o, ops[x.1]? = some o ∧ heapOp o.op = true ∧ x.2.2 = isStore o.op) → evList P C call ops l s = some s' → evMem P C call ops i fs l s = some s'
  | [], i, fs, s, s', hl, hf, h => by rw [evList_nil] at h; simp only [evMem]; exact h
  | o :: rest, i, fs, s, s', hl, hf, h => by
    have h0 : ops[i]? = some o := by simpa using (hl 0).symm
    have hl' : ∀ j, rest[j]? = ops[i + 1 + j]? := fun j => by have := hl (j + 1); simpa [Nat.add_assoc, Nat.add_comm 1 j] using this
    have hf' : ∀ x ∈ fs, x.1 < i + 1 ∧ ∃ o, ops[x.1]? = some o ∧ heapOp o.op = true ∧ x.2.2 = isStore o.op := fun x hx => ⟨Nat.lt_succ_of_lt (hf x hx).1, (hf x hx).2⟩
    unfold memSafe at hm
    rw [Bool.and_eq_true, Bool.and_eq_true] at hm
    have hsafe : ∀ k ok, ops[k]? = some ok → isStore ok.op = true → alone ops k = true := fun k ok hk hs => by
      have := hm.2
      rw [List.all_eq_true] at this
      have := this k (by simpa using lt_of_some hk)
      rw [hk] at this
      simpa [hs] using this
    have ho : (match o.op with | .load .. => true | .store .. => true | op => !heapOp op) = true := by
      have := hm.1.1
      unfold memOnly at this
      rw [List.all_eq_true] at this
      exact this o (by rw [← Array.getElem?_toList] at h0; exact List.mem_of_getElem? h0)
    have clear : ∀ b, heapOp o.op = true → noClash ((before ops).getD i 0) b (isStore o.op) fs = true := fun b hh => noClash_all fun x hx hw => by
      obtain ⟨h1, ok, h2, h3, h4⟩ := hf x hx
      rw [h4] at hw
      cases hs : isStore o.op with
      | true => exact (alone_spec (hsafe i o h0 hs) h2 (by omega) h3).1 h1
      | false =>
        rw [hs, Bool.false_or] at hw
        exact (alone_spec (hsafe x.1 ok h2 hw) h0 (by omega) hh).2 h1
    have hm' : memSafe ops = true := by unfold memSafe; rw [Bool.and_eq_true, Bool.and_eq_true]; exact hm
    rw [evList_cons] at h
    simp only [evMem]
    split at h <;> first | (cases h; done) | skip
    · split at h <;> first | (cases h; done) | skip
      rename_i v H1 hop
      split at h <;> first | (cases h; done) | skip
      rename_i s1 hput
      cases hh : heapOp o.op with
      | false =>
        have hmf : memFoot C s.tm o.op = some none := by
          unfold memFoot
          split
          · rename_i e; rw [e] at hh; cases hh
          · rename_i e; rw [e] at hh; cases hh
          · rw [hh]; rfl
        have hH : evOp P C call s.tm s.H o.op = some (v, s.H) := evOp_pure hh hop s.H
        rw [hH] at hop
        cases hop
        simp only [hmf, hH, hput]
        exact evMem_safe hm' rest _ _ s1 s' hl' hf' h
      | true =>
        split at ho
        · rename_i t x e
          have hop0 := hop
          rw [e] at hop
          simp only [evOp, oLoad] at hop
          split at hop <;> first | (cases hop; done) | skip
          rename_i a ha
          split at hop <;> first | (cases hop; done) | skip
          rename_i v' hv
          obtain ⟨b, off, rfl⟩ : ∃ b off, a = .pointer (some ⟨b, off, none⟩) := by
            unfold loadV at hv
            split at hv
            · exact ⟨_, _, rfl⟩
            · cases hv
          have hmf : memFoot C s.tm o.op = some (some (b, false)) := by rw [e]; simp only [memFoot, ha]
          have hc := clear b hh
          rw [show isStore o.op = false by rw [e]; rfl] at hc
          simp only [hmf, hc, cond_true, hop0, hput]
          exact evMem_safe hm' rest _ _ s1 s' hl' (fun x hx => by
            rcases List.mem_cons.mp hx with e1 | e1
            · rw [e1]; exact ⟨Nat.lt_succ_self _, o, h0, hh, by rw [e]; rfl⟩
            · exact hf' x e1) h
        · rename_i t x y e
          have hop0 := hop
          rw [e] at hop
          simp only [evOp, oStore] at hop
          split at hop <;> first | (cases hop; done) | skip
          rename_i a a' ha ha'
          split at hop <;> first | (cases hop; done) | skip
          rename_i H' hv
          obtain ⟨b, off, rfl⟩ : ∃ b off, a = .pointer (some ⟨b, off, none⟩) := by
            unfold storeV at hv
            split at hv
            · exact ⟨_, _, rfl⟩
            · cases hv
          have hmf : memFoot C s.tm o.op = some (some (b, true)) := by rw [e]; simp only [memFoot, ha]
          have hc := clear b hh
          rw [show isStore o.op = true by rw [e]; rfl] at hc
          simp only [hmf, hc, cond_true, hop0, hput]
          exact evMem_safe hm' rest _ _ s1 s' hl' (fun x hx => by
            rcases List.mem_cons.mp hx with e1 | e1
            · rw [e1]; exact ⟨Nat.lt_succ_self _, o, h0, hh, by rw [e]; rfl⟩
            · exact hf' x e1) h
        · rw [hh] at ho; cases ho
    · split at h <;> first | (cases h; done) | skip
      rename_i s1 hput
      try simp only [hput]
      exact evMem_safe hm' rest _ _ s1 s' hl' hf' h

/-- A region of loads and stores that draws its order. -/
theorem W_mem {i : Nat} {ops : Array Oper} {s : St} (hd : memSafe ops = true) (h : LW' P C s.k (strip ops) s.tm s.H fun tm' H' => Q .norm ⟨s.k, tm', H'⟩) : W P C (.region i ops true) s Q := by
  obtain ⟨k, tm, H⟩ := s
  obtain ⟨tm', H', h1, h2⟩ := LW_list (ops := ops) ops.toList tm H _ h
  refine ⟨.norm, ⟨k, tm', H'⟩, ?_, h2⟩
  rw [evI_eq]
  simp only [evStep]
  have : evRegion P C (evCall P C (evI P C)) ops true ⟨k, tm, H⟩ = some ⟨k, tm', H'⟩ := by
    have hd' := hd
    unfold memSafe at hd'
    rw [Bool.and_eq_true, Bool.and_eq_true] at hd'
    unfold evRegion
    rw [hd'.1.1, hd'.1.2]
    simp only [Bool.and_self, cond_true]
    exact evMem_safe hd _ _ _ _ _ (fun j => by simp) (fun x hx => by cases hx) h1
  rw [this]

/-! ### regions that draw their order, with calls and new blocks -/
/-- What an operation may see: not what operations have made that aren't ordered ahead of it. -/
def vis (H : AH) (bits : Nat) (ms : List (Nat × Nat × Nat)) : AH := { n := H.n, lw := H.n, t := hideT H.t (hidden bits ms) }

/-- The heap behind an operation that only made new blocks. -/
def grown (H H2 : AH) : AH := { n := H2.n, lw := H.lw, t := addT H.t H2 H.n (H2.n - H.n) }

def grdOf (ops : Array Oper) (o : Oper) : Option (Option Tmp × Bool) := match o.guard with | none => none | some (j, b) => some ((ops[j]?).bind (·.dst), b)

theorem wantedV_eq {ops : Array Oper} {tm : Tr Value} {o : Oper} : wantedV ops tm o = gW tm (grdOf ops o) := gW_eq

/-- What is still to be shown of a region from its i-th operation on. -/
def DG (P : Program) (C : Cfg) (ops : Array Oper) (k i : Nat) (q : Bool) (ms : List (Nat × Nat × Nat)) (l : List Oper) (tm : Tr Value) (H : AH) (K : Tr Value → AH → Prop) : Prop :=
  ∃ tm' H', evDraw P C (callI P C) ops i q ms l ⟨k, tm, H⟩ = some ⟨k, tm', H'⟩ ∧ K tm' H'

def dput (k : Nat) (tm : Tr Value) (dst : Option Tmp) (v : Value) (K : Tr Value → Prop) : Prop :=
  match dst with
  | none => K tm
  | some d => d < k ∧ K (tm.set d v)

/-- Operations that look at no memory, one behind the other; it stops ahead of one that does. -/
def DW (P : Program) (C : Cfg) (ops : Array Oper) (k : Nat) : Nat → Bool → List (Nat × Nat × Nat) → List Oper → Tr Value → AH → (Tr Value → AH → Prop) → Prop
  | _, _, _, [], tm, H, K => K tm H
  | i, q, ms, o :: r, tm, H, K => match gW tm (grdOf ops o) with
    | some true => match heapOp o.op with
      | true => DG P C ops k i q ms (o :: r) tm H K
      | false => match evOp P C (callI P C) tm H o.op with
        | some (v, _) => match o.dst with
          | none => DW P C ops k (i + 1) q ms r tm H K
          | some d => d < k ∧ DW P C ops k (i + 1) q ms r (tm.set d v) H K
        | none => False
    | some false => match o.dst with
      | none => DW P C ops k (i + 1) q ms r tm H K
      | some d => d < k ∧ DW P C ops k (i + 1) q ms r (tm.set d undef) H K
    | none => False

variable {ops : Array Oper} {k i : Nat} {q : Bool} {ms : List (Nat × Nat × Nat)} {tm : Tr Value} {H : AH} {K : Tr Value → AH → Prop}

theorem put_dst {o : Oper} {v : Value} {H1 : AH} {K1 : Tr Value → Prop} (h : match o.dst with | none => K1 tm | some d => d < k ∧ K1 (tm.set d v)) : ∃ tm1, (St.put ⟨k, tm, H⟩ o.dst v H1) = some ⟨k, tm1, H1⟩ ∧ K1 tm1 := by
  cases hd : o.dst with
  | none => rw [hd] at h; exact ⟨tm, rfl, h⟩
  | some d =>
    rw [hd] at h
    have : Nat.blt d k = true := by rw [Nat.blt_eq]; exact h.1
    exact ⟨tm.set d v, by simp only [St.put, putSt, this, cond_true], h.2⟩

theorem blt_self (n : Nat) : Nat.blt n n = false := by
  cases hb : Nat.blt n n with
  | false => rfl
  | true => rw [Nat.blt_eq] at hb; omega

theorem DG_of : ∀ (l : List Oper) (i : Nat) (q : Bool) (ms : List (Nat × Nat × Nat)) (tm : Tr Value) (H : AH), DW P C ops k i q ms l tm H K → DG P C ops k i q ms l tm H K
  | [], i, q, ms, tm, H, h => ⟨tm, H, by simp only [evDraw], h⟩
  | o :: r, i, q, ms, tm, H, h => by
    simp only [DW] at h
    split at h
    · rename_i hg
      split at h
      · exact h
      · rename_i hh
        split at h
        · rename_i v H2 hop
          obtain ⟨tm1, hput, hl⟩ := put_dst (H := H) (H1 := H) (K1 := fun tm => DW P C ops k (i + 1) q ms r tm H K) h
          obtain ⟨tm', H', h1, h2⟩ := DG_of r (i + 1) q ms tm1 H hl
          refine ⟨tm', H', ?_, h2⟩
          simp only [evDraw]
          rw [wantedV_eq, hg]
          simp only [evDrawOp, hh, cond_false, hop, hput, blt_self]
          exact h1
        · exact h.elim
    · rename_i hg
      obtain ⟨tm1, hput, hl⟩ := put_dst (H := H) (H1 := H) (K1 := fun tm => DW P C ops k (i + 1) q ms r tm H K) h
      obtain ⟨tm', H', h1, h2⟩ := DG_of r (i + 1) q ms tm1 H hl
      refine ⟨tm', H', ?_, h2⟩
      simp only [evDraw]
      rw [wantedV_eq, hg]
      simp only [hput]
      exact h1
    · exact h.elim

theorem W_draw {id : Nat} {s : St} (hd : (!memOnly ops && regOk ops) = true) (h : DW P C ops s.k 0 false [] ops.toList s.tm s.H fun tm' H' => Q .norm ⟨s.k, tm', H'⟩) : W P C (.region id ops true) s Q := by
  obtain ⟨k, tm, H⟩ := s
  obtain ⟨tm', H', h1, h2⟩ := DG_of _ _ _ _ _ _ h
  refine ⟨.norm, ⟨k, tm', H'⟩, ?_, h2⟩
  rw [evI_eq]
  simp only [evStep]
  rw [Bool.and_eq_true] at hd
  have hm : memOnly ops = false := by simpa using hd.1
  have : evRegion P C (evCall P C (evI P C)) ops true ⟨k, tm, H⟩ = some ⟨k, tm', H'⟩ := by
    unfold evRegion evRegionD
    rw [hm, hd.2]
    simp only [Bool.and_false, cond_false, cond_true]
    exact h1
  rw [this]

/-- A heap operation that changes nothing: a load, a slice, a call of what only reckons. -/
theorem DG_read {o : Oper} {r : List Oper} {v : Value} (hg : gW tm (grdOf ops o) = some true) (hh : heapOp o.op = true) (hq : q = false)
    (he : evOp P C (callI P C) tm (vis H ((before ops).getD i 0) ms) o.op = some (v, vis H ((before ops).getD i 0) ms))
    (h : match o.dst with | none => DW P C ops k (i + 1) q ms r tm H K | some d => d < k ∧ DW P C ops k (i + 1) q ms r (tm.set d v) H K) : DG P C ops k i q ms (o :: r) tm H K := by
  obtain ⟨tm1, hput, hl⟩ := put_dst (H := H) (H1 := H) (K1 := fun tm => DW P C ops k (i + 1) q ms r tm H K) h
  obtain ⟨tm', H', h1, h2⟩ := DG_of r (i + 1) q ms tm1 H hl
  refine ⟨tm', H', ?_, h2⟩
  subst hq
  have hop : evDrawOp P C (callI P C) ops i false ms ⟨k, tm, H⟩ o = some (v, H, false) := by
    unfold evDrawOp
    rw [hh, cond_true]
    simp only
    have he' : evOp P C (callI P C) tm { n := H.n, lw := H.n, t := hideT H.t (hidden ((before ops).getD i 0) ms) } o.op = some (v, { n := H.n, lw := H.n, t := hideT H.t (hidden ((before ops).getD i 0) ms) }) := he
    rw [he']
    have : Nat.ble H.n H.n = true := Nat.ble_eq.mpr (Nat.le_refl _)
    simp only [this, cond_true, Bool.not_false, Bool.and_self, Nat.sub_self, addT]
  simp only [evDraw]
  rw [wantedV_eq, hg]
  simp only [hop, hput, blt_self, cond_false]
  exact h1

/-- A heap operation that makes new blocks. -/
theorem DG_grow {o : Oper} {r : List Oper} {v : Value} {H2 : AH} (hg : gW tm (grdOf ops o) = some true) (hh : heapOp o.op = true) (hq : q = false)
    (he : evOp P C (callI P C) tm (vis H ((before ops).getD i 0) ms) o.op = some (v, H2)) (hn : H.n ≤ H2.n) (hlw : H.n ≤ H2.lw)
    (h : match o.dst with
      | none => DW P C ops k (i + 1) q (cond (Nat.blt H.n H2.n) ((i, H.n, H2.n) :: ms) ms) r tm (grown H H2) K
      | some d => d < k ∧ DW P C ops k (i + 1) q (cond (Nat.blt H.n H2.n) ((i, H.n, H2.n) :: ms) ms) r (tm.set d v) (grown H H2) K) : DG P C ops k i q ms (o :: r) tm H K := by
  obtain ⟨tm1, hput, hl⟩ := put_dst (H := H) (H1 := grown H H2) (K1 := fun tm => DW P C ops k (i + 1) q (cond (Nat.blt H.n H2.n) ((i, H.n, H2.n) :: ms) ms) r tm (grown H H2) K) h
  obtain ⟨tm', H', h1, h2⟩ := DG_of r (i + 1) q _ tm1 _ hl
  refine ⟨tm', H', ?_, h2⟩
  subst hq
  have hop : evDrawOp P C (callI P C) ops i false ms ⟨k, tm, H⟩ o = some (v, grown H H2, false) := by
    unfold evDrawOp
    rw [hh, cond_true]
    simp only
    have he' : evOp P C (callI P C) tm { n := H.n, lw := H.n, t := hideT H.t (hidden ((before ops).getD i 0) ms) } o.op = some (v, H2) := he
    rw [he']
    have e1 : Nat.ble H.n H2.n = true := Nat.ble_eq.mpr hn
    have e2 : Nat.ble H.n H2.lw = true := Nat.ble_eq.mpr hlw
    simp only [e1, e2, cond_true, Bool.not_false, Bool.and_self]
    rfl
  simp only [evDraw]
  rw [wantedV_eq, hg]
  simp only [hop, hput]
  exact h1

/-- A heap operation that writes; it is ordered against all others. -/
theorem DG_write {o : Oper} {r : List Oper} {v : Value} {H2 : AH} (hg : gW tm (grdOf ops o) = some true) (hh : heapOp o.op = true)
    (ha : alone ops i = true) (hhid : hidden ((before ops).getD i 0) ms = [])
    (he : evOp P C (callI P C) tm { n := H.n, lw := H.n, t := H.t } o.op = some (v, H2)) (hn : H.n ≤ H2.n) (hlw : H2.lw < H.n)
    (h : match o.dst with
      | none => DW P C ops k (i + 1) true (cond (Nat.blt H.n H2.n) ((i, H.n, H2.n) :: ms) ms) r tm { n := H2.n, lw := min H.lw H2.lw, t := H2.t } K
      | some d => d < k ∧ DW P C ops k (i + 1) true (cond (Nat.blt H.n H2.n) ((i, H.n, H2.n) :: ms) ms) r (tm.set d v) { n := H2.n, lw := min H.lw H2.lw, t := H2.t } K) : DG P C ops k i q ms (o :: r) tm H K := by
  obtain ⟨tm1, hput, hl⟩ := put_dst (H := H) (H1 := { n := H2.n, lw := min H.lw H2.lw, t := H2.t }) (K1 := fun tm => DW P C ops k (i + 1) true (cond (Nat.blt H.n H2.n) ((i, H.n, H2.n) :: ms) ms) r tm { n := H2.n, lw := min H.lw H2.lw, t := H2.t } K) h
  obtain ⟨tm', H', h1, h2⟩ := DG_of r (i + 1) true _ tm1 _ hl
  refine ⟨tm', H', ?_, h2⟩
  have hop : evDrawOp P C (callI P C) ops i q ms ⟨k, tm, H⟩ o = some (v, { n := H2.n, lw := min H.lw H2.lw, t := H2.t }, true) := by
    unfold evDrawOp
    rw [hh, cond_true]
    simp only [hhid, hideT]
    rw [he]
    have e1 : Nat.ble H.n H2.n = true := Nat.ble_eq.mpr hn
    have e2 : Nat.ble H.n H2.lw = false := by
      cases hb : Nat.ble H.n H2.lw with
      | false => rfl
      | true => have := Nat.le_of_ble_eq_true hb; omega
    simp only [e1, e2, cond_true, Bool.and_false, cond_false, ha, List.isEmpty_nil, Bool.and_self]
  simp only [evDraw]
  rw [wantedV_eq, hg]
  simp only [hop, hput]
  exact h1

theorem vis_nil (H : AH) (bits : Nat) : vis H bits [] = { n := H.n, lw := H.n, t := H.t } := rfl
theorem vis_blk0 (H : AH) (bits j : Nat) : (vis H bits []).blk j = H.blk j := rfl

/-- A loop; what is to hold behind a round is hidden behind a name. -/
theorem W_loopK {b : Code} (I : Nat → St → Prop) (h : ∀ n s, I n s → ∀ Q' : Ex → St → Prop, (∀ e s', loopQ I n Q e s' → Q' e s') → W P C b s Q') (n : Nat) (s : St) (hI : I n s) : W P C (.loop b) s Q :=
  W_loop I (fun n s hI => h n s hI _ (fun _ _ h => h)) n s hI

/-- A halt between two parts. -/
theorem W_then (R : St → Prop) {a b : Code} {s : St} (h1 : W P C a s fun e s' => e = .norm ∧ R s') (h2 : ∀ s', R s' → W P C b s' Q) : W P C (.seq a b) s Q := by
  refine W_seq fun b' hb => h1.mono ?_
  rintro e s' ⟨rfl, hr⟩
  subst hb
  exact h2 s' hr
end

end

end Go.Proofs.Ytldapilhmmbjhaa.Ev
