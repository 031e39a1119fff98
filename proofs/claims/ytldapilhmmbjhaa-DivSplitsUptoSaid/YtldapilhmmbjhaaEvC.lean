/-
  THE ENGINE, part C: what reading, writing, making and dropping blocks of an abstract heap says of the world.
-/
import Derived.Test.YtldapilhmmbjhaaEvB
namespace Go.Proofs.Ytldapilhmmbjhaa.Ev
open Go Go.RowKit
set_option linter.unusedVariables false
noncomputable section
set_option linter.unusedSimpArgs false

variable {B : Nat} {S : Nat → Prop} {L : Nat → Loc} {H H' : AH} {w w' : World}

theorem Fr.refl (hI : Inv B S L H w) : Fr S L H w L H w :=
  ⟨fun _ _ => rfl, Nat.le_refl _, Nat.le_refl _, fun _ _ _ => rfl, fun _ _ _ cs h => ⟨cs, h⟩,
   fun i hi sz cs h => absurd (hI.bd i (hI.rw i sz cs h).1) (by omega), rfl, rfl, rfl, Nat.le_refl _, fun _ _ => .inl rfl⟩

theorem Fr.trans {L1 L2 : Nat → Loc} {H1 H2 : AH} {w1 w2 : World} {S1 : Nat → Prop} (hI : Inv B S L H w) (hI1 : Inv B S1 L1 H1 w1) (hS : ∀ i, S i → S1 i)
    (a : Fr S L H w L1 H1 w1) (b : Fr S1 L1 H1 w1 L2 H2 w2) : Fr S L H w L2 H2 w2 := by
  have back1 : ∀ i, i < H.n → ∀ sz cs, H1.blk i = .rw sz cs → ∃ cs0, H.blk i = .rw sz cs0 ∧ L1 i = L i := fun i hi sz cs h => by
    obtain ⟨cs0, h0⟩ := a.back i hi sz cs h
    exact ⟨cs0, h0, a.agree i (hI.rw i sz cs0 h0).1⟩
  refine ⟨fun i hi => (b.agree i (hS i hi)).trans (a.agree i hi), Nat.le_trans a.n b.n, Nat.le_trans b.lw a.lw, fun i hi hl => ?_, fun i hi sz cs h => ?_, fun i hi sz cs h => ?_,
    b.os.trans a.os, b.tape.trans a.tape, b.output.trans a.output, Nat.le_trans a.size b.size, fun g hg => ?_⟩
  · rw [b.keep i (Nat.lt_of_lt_of_le hi a.n) hl, a.keep i hi (Nat.lt_of_lt_of_le hl b.lw)]
  · obtain ⟨cs1, h1⟩ := b.back i (Nat.lt_of_lt_of_le hi a.n) sz cs h
    exact a.back i hi sz cs1 h1
  · rcases Nat.lt_or_ge i H1.n with hlt | hge
    · obtain ⟨cs1, h1⟩ := b.back i hlt sz cs h
      rw [b.agree i (hI1.rw i sz cs1 h1).1]
      rcases a.newg i hi sz cs1 h1 with h2 | ⟨i0, sz0, cs0, h0, e0, l0⟩
      · exact .inl h2
      · exact .inr ⟨i0, sz0, cs0, h0, e0, Nat.le_trans b.lw l0⟩
    · rcases b.newg i hge sz cs h with h2 | ⟨i1, sz1, cs1, h1, e1, l1⟩
      · exact .inl (Nat.le_trans a.size h2)
      · rcases Nat.lt_or_ge i1 H.n with hlt | hge1
        · obtain ⟨cs0, h0, hL⟩ := back1 i1 hlt sz1 cs1 h1
          exact .inr ⟨i1, sz1, cs0, h0, by rw [← hL]; exact e1, l1⟩
        · rcases a.newg i1 hge1 sz1 cs1 h1 with h2 | ⟨i0, sz0, cs0, h0, e0, l0⟩
          · exact .inl (by rw [← e1]; exact h2)
          · exact .inr ⟨i0, sz0, cs0, h0, e0.trans e1, Nat.le_trans b.lw l0⟩
  · rcases b.frame g (Nat.lt_of_lt_of_le hg a.size) with h2 | ⟨i1, sz1, cs1, h1, e1, l1⟩
    · rcases a.frame g hg with h3 | ⟨i0, sz0, cs0, h0, e0, l0⟩
      · exact .inl (h2.trans h3)
      · exact .inr ⟨i0, sz0, cs0, h0, e0, Nat.le_trans b.lw l0⟩
    · rcases Nat.lt_or_ge i1 H.n with hlt | hge
      · obtain ⟨cs0, h0, hL⟩ := back1 i1 hlt sz1 cs1 h1
        exact .inr ⟨i1, sz1, cs0, h0, by rw [← hL]; exact e1, l1⟩
      · rcases a.newg i1 hge sz1 cs1 h1 with h2 | ⟨i0, sz0, cs0, h0, e0, l0⟩
        · omega
        · exact .inr ⟨i0, sz0, cs0, h0, e0.trans e1, Nat.le_trans b.lw l0⟩

/-! ### the world's other parts may turn -/
theorem cell_of_heap (h : w'.heap = w.heap) (a : Addr) : w'.cell? a = w.cell? a := by unfold World.cell?; rw [h]

theorem Inv.heap (hI : Inv B S L H w) (h : w'.heap = w.heap) : Inv B S L H w' :=
  ⟨fun i sz cs hb => by
    obtain ⟨h1, h2, h3, h4⟩ := hI.ro i sz cs hb
    exact ⟨h1, h2, h3, fun k v hk => by rw [cell_of_heap h]; exact h4 k v hk⟩,
   fun i sz cs hb => by rw [h]; exact hI.rw i sz cs hb, hI.dj, hI.bd, by rw [h]; exact hI.base⟩

/-! ### reading -/
theorem Inv.cell (hI : Inv B S L H w) {i : Nat} {cs : List Value} (hc : H.cells i = some cs) {k : Nat} {v : Value} (hk : cs[k]? = some v) :
    ∃ v', w.cell? ⟨(L i).g, (L i).o + k, none⟩ = some v' ∧ VR S L v v' := by
  unfold AH.cells at hc
  cases hb : H.blk i with
  | dead => rw [hb] at hc; cases hc
  | ro sz cs0 =>
    rw [hb] at hc
    obtain rfl := Option.some.inj hc
    exact (hI.ro i sz cs0 hb).2.2.2 k v hk
  | rw sz cs0 =>
    rw [hb] at hc
    obtain rfl := Option.some.inj hc
    obtain ⟨_, _, _, C, e, hg, _, hcs⟩ := hI.rw i sz cs0 hb
    obtain ⟨v', h1, h2⟩ := hcs k v hk
    exact ⟨v', by simp [World.cell?, hg, h1], h2⟩

theorem Inv.live (hI : Inv B S L H w) {i : Nat} {cs : List Value} (hc : H.cells i = some cs) : S i := by
  unfold AH.cells at hc
  cases hb : H.blk i with
  | dead => rw [hb] at hc; cases hc
  | ro sz cs0 => exact (hI.ro i sz cs0 hb).1
  | rw sz cs0 => exact (hI.rw i sz cs0 hb).1

theorem add_plain (g o n : Nat) : (⟨g, o, none⟩ : Addr).add n = ⟨g, o + n, none⟩ := by
  unfold Addr.add
  split
  · rename_i h; subst h; rfl
  · rfl

/-- Picked out of a world, place by place. -/
theorem pick_list {n : Nat} {R : Nat → Value → Prop} (h : ∀ k, k < n → ∃ v, R k v) : ∃ l : List Value, l.length = n ∧ ∀ (k : Nat) (v : Value), l[k]? = some v → R k v := by
  induction n with
  | zero => exact ⟨[], rfl, fun k v hk => by simp at hk⟩
  | succ n ih =>
    obtain ⟨l, hl, hr⟩ := ih (fun k hk => h k (by omega))
    obtain ⟨v, hv⟩ := h n (by omega)
    refine ⟨l ++ [v], by simp [hl], fun k u hk => ?_⟩
    rw [List.getElem?_append] at hk
    split at hk
    · exact hr k u hk
    · rename_i hlt
      have hk0 : k = n := by
        rcases Nat.lt_or_ge k (n + 1) with h' | h'
        · omega
        · have : (k - l.length) ≥ 1 := by omega
          rw [List.getElem?_eq_none (by simp; omega)] at hk; cases hk
      subst hk0
      simp [hl] at hk
      subst hk
      exact hv

theorem Inv.cellsAt (hI : Inv B S L H w) {i off n : Nat} {l : List Value} (hr : H.read i off n = some l) :
    ∃ l', VRs S L l l' ∧ l.length = n ∧ ∀ (j : Nat) (v' : Value), l'[j]? = some v' → w.cell? ((⟨(L i).g, (L i).o + off, none⟩ : Addr).add j) = some v' := by
  rw [AH.read_def] at hr
  cases hc : H.cells i with
  | none => rw [hc] at hr; cases hr
  | some cs =>
    rw [hc] at hr
    cases hb : Nat.ble (off + n) cs.length with
    | false => simp [hb] at hr
    | true =>
      simp [hb] at hr
      have hle : off + n ≤ cs.length := Nat.le_of_ble_eq_true hb
      subst hr
      obtain ⟨l', hl', hp⟩ := pick_list (n := n) (R := fun k v' => w.cell? ((⟨(L i).g, (L i).o + off, none⟩ : Addr).add k) = some v' ∧ ∀ v, cs[off + k]? = some v → VR S L v v') (fun k hk => by
        obtain ⟨v', h1, h2⟩ := hI.cell hc (k := off + k) (List.getElem?_eq_getElem (by omega))
        refine ⟨v', by rw [add_plain, Nat.add_assoc]; exact h1, fun v hv => ?_⟩
        rw [List.getElem?_eq_getElem (by omega)] at hv
        obtain rfl := Option.some.inj hv
        exact h2)
      refine ⟨l', ⟨by simp [hl']; omega, fun k v v' h1 h2 => (hp k v' h2).2 v ?_⟩, by simp; omega, fun j v' hj => (hp j v' hj).1⟩
      rw [List.getElem?_take] at h1
      split at h1
      · rw [List.getElem?_drop] at h1; exact h1
      · cases h1

/-! ### making a block: new, or in a block whose owner has gone -/
def put (L : Nat → Loc) (n : Nat) (l : Loc) : Nat → Loc := fun i => if i = n then l else L i

theorem put_at (n : Nat) (l : Loc) : put L n l n = l := by simp [put]
theorem put_ne {n i : Nat} (l : Loc) (h : i ≠ n) : put L n l i = L i := by simp [put, h]

theorem blk_new (sz : Nat) (cs : List Value) (i : Nat) : (H.new sz cs).blk i = if i = H.n then .rw sz cs else H.blk i := by
  unfold AH.new AH.blk
  simp only [Tr.get_set]
  by_cases h : i = H.n
  · rw [if_pos h, if_pos h]
  · rw [if_neg h, if_neg h]

theorem blk_kill (b i : Nat) : (H.kill b).blk i = if i = b then .dead else H.blk i := by
  unfold AH.kill AH.blk
  simp only [Tr.get_set]
  by_cases h : i = b
  · rw [if_pos h, if_pos h]
  · rw [if_neg h, if_neg h]

theorem Inv.lt (hI : Inv B S L H w) {i sz : Nat} {cs : List Value} (h : H.blk i = .rw sz cs) : i < H.n := hI.bd i (hI.rw i sz cs h).1

theorem Inv.kill (hI : Inv B S L H w) (b : Nat) : Inv B S L (H.kill b) w := by
  refine ⟨fun i sz cs h => ?_, fun i sz cs h => ?_, fun i j sz cs sz' cs' h h' e => ?_, hI.bd, hI.base⟩
  · rw [blk_kill] at h; split at h
    · cases h
    · exact hI.ro i sz cs h
  · rw [blk_kill] at h; split at h
    · cases h
    · exact hI.rw i sz cs h
  · rw [blk_kill] at h h'; split at h
    · cases h
    · split at h'
      · cases h'
      · exact hI.dj i j sz cs sz' cs' h h' e

theorem size_lt_of_heap {g : Nat} {o : Obj} (h : w.heap[g]? = some o) : g < w.heap.size := by
  rcases Nat.lt_or_ge g w.heap.size with h' | h'
  · exact h'
  · rw [Array.getElem?_eq_none h'] at h; cases h

/-- A block is made at number g: a new one, or one that no live block is in. -/
theorem Inv.adopt (hI : Inv B S L H w) (sz : Nat) (cs : List Value) (l : Loc) (hsz : l.sz = sz) (hB : B ≤ l.g)
    (hfree : ∀ i sz cs, H.blk i = .rw sz cs → (L i).g ≠ l.g)
    (hsize : w.heap.size ≤ w'.heap.size) (hrest : ∀ k, k < w.heap.size → k ≠ l.g → w'.heap[k]? = w.heap[k]?)
    {C : Array Value} {e : TypeId} (hg : w'.heap[l.g]? = some (.cells C e (0, 0))) (htop : l.top ≤ C.size)
    (hcs : ∀ (k : Nat) (v : Value), cs[k]? = some v → ∃ v', C[l.o + k]? = some v' ∧ VR S L v v') :
    Inv B (ext S H.n (H.n + 1)) (put L H.n l) (H.new sz cs) w' := by
  have hS : ∀ i, S i → ext S H.n (H.n + 1) i := fun i h => .inl h
  have hL : ∀ i, S i → put L H.n l i = L i := fun i h => put_ne l (by have := hI.bd i h; omega)
  refine ⟨fun i sz' cs' h => ?_, fun i sz' cs' h => ?_, fun i j sz1 cs1 sz2 cs2 h h' e => ?_, fun i h => ?_, Nat.le_trans hI.base hsize⟩
  · rw [blk_new] at h; split at h
    · cases h
    · obtain ⟨h1, h2, h3, h4⟩ := hI.ro i sz' cs' h
      rw [hL i h1]
      refine ⟨hS i h1, h2, h3, fun k v hk => ?_⟩
      obtain ⟨v', h5, h6⟩ := h4 k v hk
      have hlt : (L i).g < w.heap.size := Nat.lt_of_lt_of_le h2 hI.base
      refine ⟨v', ?_, h6.mono hS hL⟩
      rw [← h5]
      exact World.cell?_of_block (w := w) (hrest _ hlt (by show (L i).g ≠ l.g; omega))
  · rw [blk_new] at h; split at h
    · rename_i hi
      subst hi
      injection h with h1 h2
      subst h1; subst h2
      rw [put_at]
      refine ⟨.inr ⟨Nat.le_refl _, Nat.lt_succ_self _⟩, hB, hsz, C, e, hg, htop, fun k v hk => ?_⟩
      obtain ⟨v', h5, h6⟩ := hcs k v hk
      exact ⟨v', h5, h6.mono hS hL⟩
    · obtain ⟨h1, h2, h3, C', e', h4, h5, h6⟩ := hI.rw i sz' cs' h
      rw [hL i h1]
      refine ⟨hS i h1, h2, h3, C', e', ?_, h5, fun k v hk => ?_⟩
      · rw [← h4]; exact hrest _ (size_lt_of_heap h4) (hfree i sz' cs' h)
      · obtain ⟨v', h7, h8⟩ := h6 k v hk
        exact ⟨v', h7, h8.mono hS hL⟩
  · rw [blk_new] at h h'
    by_cases hi : i = H.n
    · by_cases hj : j = H.n
      · omega
      · rw [if_neg hj] at h'
        subst hi
        rw [put_at, put_ne l hj] at e
        exact absurd e.symm (hfree j sz2 cs2 h')
    · rw [if_neg hi] at h
      by_cases hj : j = H.n
      · subst hj
        rw [put_at, put_ne l hi] at e
        exact absurd e (hfree i sz1 cs1 h)
      · rw [if_neg hj] at h'
        rw [put_ne l hi, put_ne l hj] at e
        exact hI.dj i j sz1 cs1 sz2 cs2 h h' e
  · rcases h with h | ⟨_, h⟩
    · have := hI.bd i h; show i < H.n + 1; omega
    · exact h

/-- A new block. -/
theorem Inv.new (hI : Inv B S L H w) (sz top : Nat) (cs : List Value) (C : Array Value) (e : TypeId) (htop : top ≤ C.size)
    (hcs : ∀ (k : Nat) (v : Value), cs[k]? = some v → ∃ v', C[k]? = some v' ∧ VR S L v v') :
    Inv B (ext S H.n (H.n + 1)) (put L H.n ⟨w.heap.size, 0, sz, top⟩) (H.new sz cs) (w.alloc (.cells C e)) ∧
    Fr S L H w (put L H.n ⟨w.heap.size, 0, sz, top⟩) (H.new sz cs) (w.alloc (.cells C e)) := by
  have hsz : (w.alloc (.cells C e)).heap.size = w.heap.size + 1 := by show (w.heap.push _).size = _; simp
  have hnew : (w.alloc (.cells C e)).heap[w.heap.size]? = some (.cells C e (0, 0)) := by show (w.heap.push _)[w.heap.size]? = _; simp
  refine ⟨hI.adopt sz cs ⟨w.heap.size, 0, sz, top⟩ rfl hI.base (fun i sz' cs' h => ?_) (by omega) (fun k hk _ => Below.heap_alloc w _ k hk) hnew htop (fun k v hk => by simpa using hcs k v hk), ?_⟩
  · obtain ⟨_, _, _, C', e', h4, _⟩ := hI.rw i sz' cs' h
    have := size_lt_of_heap h4
    show (L i).g ≠ w.heap.size
    omega
  · refine ⟨fun i h => put_ne _ (by have := hI.bd i h; omega), Nat.le_succ _, Nat.le_refl _, fun i hi _ => ?_, fun i hi sz' cs' h => ?_, fun i hi sz' cs' h => ?_, rfl, rfl, rfl, by omega, fun g hg => .inl (Below.heap_alloc w _ g hg)⟩
    · rw [blk_new, if_neg (by omega)]
    · rw [blk_new, if_neg (by omega)] at h; exact ⟨cs', h⟩
    · rw [blk_new] at h; split at h
      · rename_i hi'; subst hi'; rw [put_at]; exact .inl (Nat.le_refl _)
      · exact absurd (hI.lt h) (by omega)

/-! ### writing -/
theorem all_one {S : Nat → Prop} {L : Nat → Loc} {vs vs' : List Value} (h : VRs S L vs vs') (ho : vs.all one = true) : ∀ v ∈ vs', v.oneCell' = true := by
  intro v' hv'
  obtain ⟨k, hk, rfl⟩ := List.getElem_of_mem hv'
  have hk' : k < vs.length := by rw [h.1]; exact hk
  have := h.2 k vs[k] vs'[k] (List.getElem?_eq_getElem hk') (List.getElem?_eq_getElem hk)
  rw [← this.one]
  exact List.all_eq_true.mp ho _ (List.getElem_mem hk')

theorem blk_write {i off : Nat} {vs : List Value} (h : H.write i off vs = some H') :
    ∃ sz cs, H.blk i = .rw sz cs ∧ off + vs.length ≤ cs.length ∧ vs.all one = true ∧ H'.n = H.n ∧ H'.lw = min H.lw i ∧
      (∀ j, H'.blk j = if j = i then .rw sz (cs.take off ++ vs ++ cs.drop (off + vs.length)) else H.blk j) := by
  rw [AH.write_def] at h
  cases hb : H.blk i with
  | dead => rw [hb] at h; cases h
  | ro sz cs => rw [hb] at h; cases h
  | rw sz cs =>
    rw [hb] at h
    cases hc : (Nat.ble (off + vs.length) cs.length && vs.all one) with
    | false => simp only [hc, cond_false] at h; cases h
    | true =>
      simp only [hc, cond_true] at h
      obtain rfl := Option.some.inj h
      rw [Bool.and_eq_true] at hc
      refine ⟨sz, cs, rfl, Nat.le_of_ble_eq_true hc.1, hc.2, rfl, rfl, fun j => ?_⟩
      unfold AH.blk
      simp only [Tr.get_set]
      by_cases h : j = i
      · rw [if_pos h, if_pos h]
      · rw [if_neg h, if_neg h]

theorem getElem?_splice (l vs : List Value) (o k : Nat) (h : o + vs.length ≤ l.length) :
    (l.take o ++ vs ++ l.drop (o + vs.length))[k]? = if k < o then l[k]? else if k < o + vs.length then vs[k - o]? else l[k]? := by
  rw [List.append_assoc, List.getElem?_append]
  have h1 : (l.take o).length = o := by simp; omega
  rw [h1]
  split
  · rw [List.getElem?_take, if_pos (by assumption)]
  · rw [List.getElem?_append]
    split
    · rw [if_pos (by omega)]
    · rw [if_neg (by omega), List.getElem?_drop]
      congr 1
      omega

/-- A store of some cells. -/
theorem Inv.write (hI : Inv B S L H w) {i off : Nat} {vs vs' : List Value} (h : H.write i off vs = some H') (hv : VRs S L vs vs') (P : Program) :
    S i ∧ ∃ w', (storeCells ⟨(L i).g, (L i).o + off, none⟩ vs').run P w = .ok () w' ∧ Inv B S L H' w' ∧ Fr S L H w L H' w' := by
  obtain ⟨sz, cs, hb, hlen, hone, hn, hlw, hblk⟩ := blk_write h
  obtain ⟨hSi, hBg, hs, C, e, hg, htop, hcs⟩ := hI.rw i sz cs hb
  have hC : (L i).o + cs.length ≤ C.size ∨ cs.length = 0 := by
    rcases Nat.eq_zero_or_pos cs.length with h0 | h0
    · exact .inr h0
    · obtain ⟨v', h1, _⟩ := hcs (cs.length - 1) cs[cs.length - 1] (List.getElem?_eq_getElem (by omega))
      left
      rcases Nat.lt_or_ge ((L i).o + (cs.length - 1)) C.size with h2 | h2
      · omega
      · rw [Array.getElem?_eq_none h2] at h1; cases h1
  have hfit : vs'.length = 0 ∨ (L i).o + off + vs'.length ≤ C.size := by rw [← hv.1]; omega
  have hh' : ∀ j sz1 cs1, H'.blk j = .rw sz1 cs1 → ∃ cs0, H.blk j = .rw sz1 cs0 := fun j sz1 cs1 hj => by
    rw [hblk] at hj; split at hj
    · rename_i e1; subst e1; injection hj with h1 h2; subst h1; exact ⟨cs, hb⟩
    · exact ⟨cs1, hj⟩
  rcases hfit with h0 | hfit
  · -- nothing is stored
    have hvs' : vs' = [] := List.eq_nil_of_length_eq_zero h0
    have hvs : vs = [] := List.eq_nil_of_length_eq_zero (by rw [hv.1]; exact h0)
    subst hvs'; subst hvs
    have hsame : ∀ j, H'.blk j = H.blk j := fun j => by
      rw [hblk]; split
      · rename_i e1; subst e1; rw [hb]; simp
      · rfl
    refine ⟨hSi, w, rfl, ⟨fun j s c hj => hI.ro j s c (by rw [← hsame]; exact hj), fun j s c hj => hI.rw j s c (by rw [← hsame]; exact hj), fun a b s1 c1 s2 c2 ha hb' he => hI.dj a b s1 c1 s2 c2 (by rw [← hsame]; exact ha) (by rw [← hsame]; exact hb') he, fun j hj => by rw [hn]; exact hI.bd j hj, hI.base⟩, ?_⟩
    refine ⟨fun _ _ => rfl, Nat.le_of_eq hn.symm, by rw [hlw]; exact Nat.min_le_left _ _, fun j _ _ => hsame j, fun j _ => hh' j, fun j hj s c hc => ?_, rfl, rfl, rfl, Nat.le_refl _, fun _ _ => .inl rfl⟩
    exact absurd (hI.lt (by rw [← hsame]; exact hc)) (by omega)
  · have hst := run_storeCells_at P (L i).g ((L i).o + off) e vs' 0 C w hg (by simpa using hfit) (all_one hv hone)
    refine ⟨hSi, _, hst, ?_, ?_⟩
    · simp only [Nat.add_zero]
      have hotherg : ∀ j s c, H.blk j = .rw s c → j ≠ i → (L j).g ≠ (L i).g := fun j s c hj hne e1 => hne (hI.dj j i s c sz cs hj hb e1)
      refine ⟨fun j s c hj => ?_, fun j s c hj => ?_, fun a b s1 c1 s2 c2 ha hb' he => ?_, fun j hj => by rw [hn]; exact hI.bd j hj, by simpa [World.setRow] using hI.base⟩
      · have hj' : H.blk j = .ro s c := by
          rw [hblk] at hj; split at hj
          · cases hj
          · exact hj
        obtain ⟨h1, h2, h3, h4⟩ := hI.ro j s c hj'
        refine ⟨h1, h2, h3, fun k v hk => ?_⟩
        rw [cell_setRow_other w _ _ _ (by show (L j).g ≠ (L i).g; omega)]
        exact h4 k v hk
      · by_cases hji : j = i
        · subst hji
          rw [hblk, if_pos rfl] at hj
          injection hj with h1 h2
          subst h1
          refine ⟨hSi, hBg, hs, _, e, setRow_heap w _ C _ e (0, 0) hg, ?_, fun k v hk => ?_⟩
          · simp; omega
          · subst h2
            rw [getElem?_splice _ _ _ _ hlen] at hk
            have hsp := getElem?_splice C.toList vs' ((L j).o + off) ((L j).o + k) (by simpa using hfit)
            simp only [List.getElem?_toArray]
            rw [hsp]
            split at hk
            · rw [if_pos (by omega)]
              obtain ⟨v', h5, h6⟩ := hcs k v hk
              exact ⟨v', by simpa using h5, h6⟩
            · rw [if_neg (by omega)]
              rw [← hv.1]
              split at hk
              · rw [if_pos (by omega)]
                obtain ⟨v', h5, h6⟩ := hv.get hk
                exact ⟨v', by rw [← h5]; congr 1; omega, h6⟩
              · rw [if_neg (by omega)]
                obtain ⟨v', h5, h6⟩ := hcs k v hk
                exact ⟨v', by simpa using h5, h6⟩
        · rw [hblk, if_neg hji] at hj
          obtain ⟨h1, h2, h3, C', e', h4, h5, h6⟩ := hI.rw j s c hj
          refine ⟨h1, h2, h3, C', e', ?_, h5, h6⟩
          rw [setRow_other w _ _ _ (hotherg j s c hj hji)]
          exact h4
      · obtain ⟨c1', h1⟩ := hh' a s1 c1 ha
        obtain ⟨c2', h2⟩ := hh' b s2 c2 hb'
        exact hI.dj a b s1 c1' s2 c2' h1 h2 he
    · refine ⟨fun _ _ => rfl, Nat.le_of_eq hn.symm, by rw [hlw]; exact Nat.min_le_left _ _, fun j hj hl => ?_, fun j _ => hh' j, fun j hj s c hc => ?_, rfl, rfl, rfl, by simp [World.setRow], fun g hg' => ?_⟩
      · rw [hblk, if_neg (by rw [hlw] at hl; omega)]
      · obtain ⟨c', hc'⟩ := hh' j s c hc
        exact absurd (hI.lt hc') (by omega)
      · by_cases he : g = (L i).g
        · exact .inr ⟨i, sz, cs, hb, he.symm, by rw [hlw]; exact Nat.min_le_right _ _⟩
        · exact .inl (setRow_other w _ _ _ he)

end
end Go.Proofs.Ytldapilhmmbjhaa.Ev
