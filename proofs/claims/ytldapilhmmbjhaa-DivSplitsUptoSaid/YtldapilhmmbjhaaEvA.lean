/-
  THE ENGINE, part A: a tree by numbers; abstract heaps; what an abstract value says of a machine's value (VR), an abstract heap of a world (Inv); what a stretch of a run may change (Fr).
-/
import Derived.Orders
import Derived.Laws.World
import Derived.Laws.Sem
import Derived.Laws.Cells
import Derived.Laws.Externs
import Derived.Laws.Tables
import Derived.Laws.CopyRow
import Derived.Below
namespace Go.Proofs.Ytldapilhmmbjhaa.Ev
open Go
set_option linter.unusedVariables false
noncomputable section
set_option linter.unusedSimpArgs false

/-! ### a tree by numbers -/
inductive Tr (α : Type) where
  | nil
  | node (l : Tr α) (v : Option α) (r : Tr α)

/-- (By recursors, for the kernel's sake.) -/
def Tr.get {α : Type} (t : Tr α) : Nat → Option α :=
  Tr.rec (motive := fun _ => Nat → Option α) (fun _ => none)
    (fun _ v _ gl gr n => Bool.rec (Bool.rec (gr (n / 2 - 1)) (gl (n / 2)) (Nat.beq (n % 2) 1)) v (Nat.beq n 0)) t

theorem Tr.get_nil {α : Type} (n : Nat) : (Tr.nil : Tr α).get n = none := rfl

theorem Tr.get_node {α : Type} (l : Tr α) (v : Option α) (r : Tr α) (n : Nat) : (Tr.node l v r).get n = cond (Nat.beq n 0) v (cond (Nat.beq (n % 2) 1) (l.get (n / 2)) (r.get (n / 2 - 1))) := by
  show (Bool.rec (Bool.rec (r.get (n / 2 - 1)) (l.get (n / 2)) (Nat.beq (n % 2) 1)) v (Nat.beq n 0) : Option α) = _
  cases Nat.beq n 0 <;> cases Nat.beq (n % 2) 1 <;> rfl

/-- A path to one element. -/
def Tr.new {α : Type} (f : Nat) : Nat → α → Tr α :=
  Nat.rec (motive := fun _ => Nat → α → Tr α) (fun _ _ => .nil)
    (fun _ ih n x => Bool.rec (Bool.rec (.node .nil none (ih (n / 2 - 1) x)) (.node (ih (n / 2) x) none .nil) (Nat.beq (n % 2) 1)) (.node .nil (some x) .nil) (Nat.beq n 0)) f

def Tr.set {α : Type} (t : Tr α) : Nat → α → Tr α :=
  Tr.rec (motive := fun _ => Nat → α → Tr α) (fun n x => Tr.new (n + 1) n x)
    (fun l v r sl sr n x => Bool.rec (Bool.rec (.node l v (sr (n / 2 - 1) x)) (.node (sl (n / 2) x) v r) (Nat.beq (n % 2) 1)) (.node l (some x) r) (Nat.beq n 0)) t

theorem Tr.new_succ {α : Type} (f n : Nat) (x : α) : Tr.new (f + 1) n x = cond (Nat.beq n 0) (.node .nil (some x) .nil) (cond (Nat.beq (n % 2) 1) (.node (Tr.new f (n / 2) x) none .nil) (.node .nil none (Tr.new f (n / 2 - 1) x))) := by
  show (Bool.rec (Bool.rec (.node .nil none (Tr.new f (n / 2 - 1) x)) (.node (Tr.new f (n / 2) x) none .nil) (Nat.beq (n % 2) 1)) (.node .nil (some x) .nil) (Nat.beq n 0) : Tr α) = _
  cases Nat.beq n 0 <;> cases Nat.beq (n % 2) 1 <;> rfl

theorem Tr.set_node {α : Type} (l : Tr α) (v : Option α) (r : Tr α) (n : Nat) (x : α) : (Tr.node l v r).set n x = cond (Nat.beq n 0) (.node l (some x) r) (cond (Nat.beq (n % 2) 1) (.node (l.set (n / 2) x) v r) (.node l v (r.set (n / 2 - 1) x))) := by
  show (Bool.rec (Bool.rec (.node l v (r.set (n / 2 - 1) x)) (.node (l.set (n / 2) x) v r) (Nat.beq (n % 2) 1)) (.node l (some x) r) (Nat.beq n 0) : Tr α) = _
  cases Nat.beq n 0 <;> cases Nat.beq (n % 2) 1 <;> rfl

theorem beq_false' {a b : Nat} (h : a ≠ b) : Nat.beq a b = false := by
  cases e : Nat.beq a b with
  | false => rfl
  | true => exact absurd (Nat.eq_of_beq_eq_true e) h

theorem beq_true' {a b : Nat} (h : a = b) : Nat.beq a b = true := by subst h; exact Nat.beq_refl a

theorem Tr.get_new {α : Type} : ∀ (f n : Nat) (x : α) (m : Nat), n < f → (Tr.new f n x).get m = if m = n then some x else none := by
  intro f
  induction f with
  | zero => intro n x m h; omega
  | succ f ih =>
    intro n x m h
    rw [Tr.new_succ]
    by_cases hn : n = 0
    · rw [beq_true' hn, cond_true, Tr.get_node]
      by_cases hm : m = 0
      · rw [beq_true' hm, cond_true, if_pos (by omega)]
      · rw [beq_false' hm, cond_false, if_neg (by omega)]; cases Nat.beq (m % 2) 1 <;> rfl
    · rw [beq_false' hn, cond_false]
      by_cases ho : n % 2 = 1
      · rw [beq_true' ho, cond_true, Tr.get_node]
        by_cases hm : m = 0
        · rw [beq_true' hm, cond_true, if_neg (by omega)]
        · rw [beq_false' hm, cond_false]
          by_cases hmo : m % 2 = 1
          · rw [beq_true' hmo, cond_true, ih _ _ _ (by omega)]
            by_cases e : m = n
            · subst e; simp
            · rw [if_neg (by omega), if_neg e]
          · rw [beq_false' hmo, cond_false, if_neg (by omega)]; rfl
      · rw [beq_false' ho, cond_false, Tr.get_node]
        by_cases hm : m = 0
        · rw [beq_true' hm, cond_true, if_neg (by omega)]
        · rw [beq_false' hm, cond_false]
          by_cases hmo : m % 2 = 1
          · rw [beq_true' hmo, cond_true, if_neg (by omega)]; rfl
          · rw [beq_false' hmo, cond_false, ih _ _ _ (by omega)]
            by_cases e : m = n
            · subst e; simp
            · rw [if_neg (by omega), if_neg e]

theorem Tr.get_set {α : Type} (t : Tr α) : ∀ (n : Nat) (x : α) (m : Nat), (t.set n x).get m = if m = n then some x else t.get m := by
  induction t with
  | nil => intro n x m; exact Tr.get_new (n + 1) n x m (Nat.lt_succ_self n)
  | node l v r ihl ihr =>
    intro n x m
    rw [Tr.set_node]
    by_cases hn : n = 0
    · rw [beq_true' hn, cond_true, Tr.get_node, Tr.get_node]
      by_cases hm : m = 0
      · rw [beq_true' hm, cond_true, if_pos (by omega)]
      · rw [beq_false' hm, cond_false, if_neg (by omega)]; rfl
    · rw [beq_false' hn, cond_false]
      by_cases ho : n % 2 = 1
      · rw [beq_true' ho, cond_true, Tr.get_node, Tr.get_node]
        by_cases hm : m = 0
        · rw [beq_true' hm, cond_true, if_neg (by omega)]; rfl
        · rw [beq_false' hm, cond_false, cond_false]
          by_cases hmo : m % 2 = 1
          · rw [beq_true' hmo, cond_true, cond_true, ihl]
            by_cases e : m = n
            · subst e; simp
            · rw [if_neg (by omega), if_neg e]
          · rw [beq_false' hmo, cond_false, cond_false, if_neg (by omega)]
      · rw [beq_false' ho, cond_false, Tr.get_node, Tr.get_node]
        by_cases hm : m = 0
        · rw [beq_true' hm, cond_true, if_neg (by omega)]; rfl
        · rw [beq_false' hm, cond_false, cond_false]
          by_cases hmo : m % 2 = 1
          · rw [beq_true' hmo, cond_true, cond_true, if_neg (by omega)]
          · rw [beq_false' hmo, cond_false, cond_false, ihr]
            by_cases e : m = n
            · subst e; simp
            · rw [if_neg (by omega), if_neg e]

/-! ### abstract heaps -/
inductive Blk where
  | dead
  | ro (sz : Nat) (cs : List Value)
  | rw (sz : Nat) (cs : List Value)

structure AH where
  n : Nat
  lw : Nat
  t : Tr Blk

def AH.blk (H : AH) (i : Nat) : Blk := match H.t.get i with | some b => b | none => .dead

structure Loc where
  g : Nat
  o : Nat
  sz : Nat
  top : Nat

/-- What an abstract value says of a machine's value: addresses' blocks by L, of numbers in S; a slice's capacity may be greater, within its block. -/
inductive VR (S : Nat → Prop) (L : Nat → Loc) : Value → Value → Prop
  | bool (b : Bool) : VR S L (.bool b) (.bool b)
  | int (k : IntKind) (n : Int) : VR S L (.int k n) (.int k n)
  | string (s : ByteArray) : VR S L (.string s) (.string s)
  | nilFunc : VR S L .nilFunc .nilFunc
  | nilIface : VR S L .nilIface .nilIface
  | nilPtr : VR S L (.pointer none) (.pointer none)
  | ptr (i o : Nat) : S i → VR S L (.pointer (some ⟨i, o, none⟩)) (.pointer (some ⟨(L i).g, (L i).o + o, none⟩))
  | nilSlice : VR S L (.slice none 0 0) (.slice none 0 0)
  | slice (i o len cap cap' : Nat) : S i → cap ≤ cap' → len ≤ cap → (L i).o + o + cap' * (L i).sz ≤ (L i).top →
      VR S L (.slice (some ⟨i, o, none⟩) len cap) (.slice (some ⟨(L i).g, (L i).o + o, none⟩) len cap')
  /-- an empty slice, of which no place is known -/
  | emp (i : Nat) (a : Addr) (c : Nat) : VR S L (.slice (some ⟨i, 0, some 0⟩) 0 0) (.slice (some a) 0 c)
  | agg (cs cs' : Array Value) : cs.size = cs'.size → (∀ (k : Nat) (v v' : Value), cs[k]? = some v → cs'[k]? = some v' → VR S L v v') → VR S L (.agg cs) (.agg cs')
  | tuple (cs cs' : Array Value) : cs.size = cs'.size → (∀ (k : Nat) (v v' : Value), cs[k]? = some v → cs'[k]? = some v' → VR S L v v') → VR S L (.tuple cs) (.tuple cs')
  | func (f : Fn) (fs fs' cs cs' : Array Value) : fs.size = fs'.size → (∀ (k : Nat) (v v' : Value), fs[k]? = some v → fs'[k]? = some v' → VR S L v v') →
      cs.size = cs'.size → (∀ (k : Nat) (v v' : Value), cs[k]? = some v → cs'[k]? = some v' → VR S L v v') → VR S L (.func f fs cs) (.func f fs' cs')
  | iface (t : TypeId) (v v' : Value) : VR S L v v' → VR S L (.iface t v) (.iface t v')

theorem VR.mono {S S' : Nat → Prop} {L L' : Nat → Loc} {v v' : Value} (h : VR S L v v') (hS : ∀ i, S i → S' i) (hL : ∀ i, S i → L' i = L i) : VR S' L' v v' := by
  induction h with
  | bool b => exact .bool b
  | int k n => exact .int k n
  | string s => exact .string s
  | nilFunc => exact .nilFunc
  | nilIface => exact .nilIface
  | nilPtr => exact .nilPtr
  | ptr i o h => rw [← hL i h]; exact .ptr i o (hS i h)
  | nilSlice => exact .nilSlice
  | slice i o len cap cap' h h1 h2 h3 =>
    rw [← hL i h] at h3
    rw [← hL i h]
    exact .slice i o len cap cap' (hS i h) h1 h2 h3
  | emp i a c => exact .emp i a c
  | agg cs cs' hs _ ih => exact .agg cs cs' hs ih
  | tuple cs cs' hs _ ih => exact .tuple cs cs' hs ih
  | func f fs fs' cs cs' h1 _ h2 _ ih1 ih2 => exact .func f fs fs' cs cs' h1 ih1 h2 ih2
  | iface t v v' _ ih => exact .iface t v v' ih

/-- Lists of values, place by place. -/
def VRs (S : Nat → Prop) (L : Nat → Loc) (xs xs' : List Value) : Prop := xs.length = xs'.length ∧ ∀ (k : Nat) (v v' : Value), xs[k]? = some v → xs'[k]? = some v' → VR S L v v'

theorem VRs.mono {S S' : Nat → Prop} {L L' : Nat → Loc} {xs xs' : List Value} (h : VRs S L xs xs') (hS : ∀ i, S i → S' i) (hL : ∀ i, S i → L' i = L i) : VRs S' L' xs xs' :=
  ⟨h.1, fun k v v' h1 h2 => (h.2 k v v' h1 h2).mono hS hL⟩

theorem VRs.nil {S : Nat → Prop} {L : Nat → Loc} : VRs S L [] [] := ⟨rfl, fun k v v' h => by simp at h⟩

theorem VRs.cons {S : Nat → Prop} {L : Nat → Loc} {x x' : Value} {xs xs' : List Value} (h : VR S L x x') (hs : VRs S L xs xs') : VRs S L (x :: xs) (x' :: xs') := by
  refine ⟨by simp [hs.1], fun k v v' h1 h2 => ?_⟩
  cases k with
  | zero => simp at h1 h2; subst h1; subst h2; exact h
  | succ k => simp at h1 h2; exact hs.2 k v v' h1 h2

theorem VRs.get {S : Nat → Prop} {L : Nat → Loc} {xs xs' : List Value} (h : VRs S L xs xs') {k : Nat} {v : Value} (hk : xs[k]? = some v) : ∃ v', xs'[k]? = some v' ∧ VR S L v v' := by
  have hlt : k < xs.length := by
    rcases Nat.lt_or_ge k xs.length with h' | h'
    · exact h'
    · rw [List.getElem?_eq_none h'] at hk; cases hk
  have hlt' : k < xs'.length := by rw [← h.1]; exact hlt
  exact ⟨xs'[k], List.getElem?_eq_getElem hlt', h.2 k v _ hk (List.getElem?_eq_getElem hlt')⟩

theorem VRs.append {S : Nat → Prop} {L : Nat → Loc} {xs xs' ys ys' : List Value} (h : VRs S L xs xs') (hs : VRs S L ys ys') : VRs S L (xs ++ ys) (xs' ++ ys') := by
  refine ⟨by simp [h.1, hs.1], fun k v v' h1 h2 => ?_⟩
  rw [List.getElem?_append] at h1 h2
  rw [← h.1] at h2
  split at h1
  · rename_i hk; rw [if_pos hk] at h2; exact h.2 k v v' h1 h2
  · rename_i hk; rw [if_neg hk] at h2; exact hs.2 _ v v' h1 h2

theorem VRs.take {S : Nat → Prop} {L : Nat → Loc} {xs xs' : List Value} (h : VRs S L xs xs') (n : Nat) : VRs S L (xs.take n) (xs'.take n) := by
  refine ⟨by simp [h.1], fun k v v' h1 h2 => ?_⟩
  rw [List.getElem?_take] at h1 h2
  split at h1
  · rename_i hk; rw [if_pos hk] at h2; exact h.2 k v v' h1 h2
  · cases h1

theorem VRs.drop {S : Nat → Prop} {L : Nat → Loc} {xs xs' : List Value} (h : VRs S L xs xs') (n : Nat) : VRs S L (xs.drop n) (xs'.drop n) := by
  refine ⟨by simp [h.1], fun k v v' h1 h2 => ?_⟩
  rw [List.getElem?_drop] at h1 h2
  exact h.2 _ v v' h1 h2

/-- Values of one cell. -/
def one : Value → Bool
  | .agg _ | .tuple _ => false
  | _ => true

theorem VR.one {S : Nat → Prop} {L : Nat → Loc} {v v' : Value} (h : VR S L v v') : Ev.one v = v'.oneCell' := by
  cases h <;> rfl

theorem VR.cells {S : Nat → Prop} {L : Nat → Loc} {v v' : Value} (h : VR S L v v') : VRs S L v.cells.toList v'.cells.toList := by
  cases h with
  | agg cs cs' hs hc => exact ⟨by simpa [Value.cells] using hs, fun k v v' h1 h2 => hc k v v' (by simpa [Value.cells] using h1) (by simpa [Value.cells] using h2)⟩
  | bool b => exact .cons (.bool b) .nil
  | int k n => exact .cons (.int k n) .nil
  | string s => exact .cons (.string s) .nil
  | nilFunc => exact .cons .nilFunc .nil
  | nilIface => exact .cons .nilIface .nil
  | nilPtr => exact .cons .nilPtr .nil
  | ptr i o h => exact .cons (.ptr i o h) .nil
  | nilSlice => exact .cons .nilSlice .nil
  | emp i a c => exact .cons (.emp i a c) .nil
  | slice i o len cap cap' h h1 h2 h3 => exact .cons (.slice i o len cap cap' h h1 h2 h3) .nil
  | tuple cs cs' hs hc => exact .cons (.tuple cs cs' hs hc) .nil
  | func f fs fs' cs cs' h1 h2 h3 h4 => exact .cons (.func f fs fs' cs cs' h1 h2 h3 h4) .nil
  | iface t v v' h => exact .cons (.iface t v v' h) .nil

/-- An abstract heap's world: what is live lies there; what may be written lies apart, from block B on. -/
structure Inv (B : Nat) (S : Nat → Prop) (L : Nat → Loc) (H : AH) (w : World) : Prop where
  ro : ∀ i sz cs, H.blk i = .ro sz cs → S i ∧ (L i).g < B ∧ (L i).sz = sz ∧ ∀ (k : Nat) (v : Value), cs[k]? = some v → ∃ v', w.cell? ⟨(L i).g, (L i).o + k, none⟩ = some v' ∧ VR S L v v'
  rw : ∀ i sz cs, H.blk i = .rw sz cs → S i ∧ B ≤ (L i).g ∧ (L i).sz = sz ∧ ∃ C e, w.heap[(L i).g]? = some (.cells C e (0, 0)) ∧ (L i).top ≤ C.size ∧
      ∀ (k : Nat) (v : Value), cs[k]? = some v → ∃ v', C[(L i).o + k]? = some v' ∧ VR S L v v'
  dj : ∀ i j sz cs sz' cs', H.blk i = .rw sz cs → H.blk j = .rw sz' cs' → (L i).g = (L j).g → i = j
  bd : ∀ i, S i → i < H.n
  base : B ≤ w.heap.size

def ext (S : Nat → Prop) (m n : Nat) : Nat → Prop := fun i => S i ∨ (m ≤ i ∧ i < n)

/-- What a stretch of a run may change. -/
structure Fr (S : Nat → Prop) (L : Nat → Loc) (H : AH) (w : World) (L' : Nat → Loc) (H' : AH) (w' : World) : Prop where
  agree : ∀ i, S i → L' i = L i
  n : H.n ≤ H'.n
  lw : H'.lw ≤ H.lw
  keep : ∀ i, i < H.n → i < H'.lw → H'.blk i = H.blk i
  back : ∀ i, i < H.n → ∀ sz cs, H'.blk i = .rw sz cs → ∃ cs0, H.blk i = .rw sz cs0
  newg : ∀ i, H.n ≤ i → ∀ sz cs, H'.blk i = .rw sz cs → w.heap.size ≤ (L' i).g ∨ ∃ i0 sz0 cs0, H.blk i0 = .rw sz0 cs0 ∧ (L i0).g = (L' i).g ∧ H'.lw ≤ i0
  os : w'.os = w.os
  tape : w'.tape = w.tape
  output : w'.output = w.output
  size : w.heap.size ≤ w'.heap.size
  frame : ∀ g, g < w.heap.size → w'.heap[g]? = w.heap[g]? ∨ ∃ i sz cs, H.blk i = .rw sz cs ∧ (L i).g = g ∧ H'.lw ≤ i

end
end Go.Proofs.Ytldapilhmmbjhaa.Ev
