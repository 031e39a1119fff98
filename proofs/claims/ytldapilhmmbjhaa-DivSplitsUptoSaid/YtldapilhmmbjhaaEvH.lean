/-
  THE ENGINE, part H: regions whose order is the text's.
-/
import Derived.Test.YtldapilhmmbjhaaEvG
namespace Go.Proofs.Ytldapilhmmbjhaa.Ev
open Go Go.RowKit
set_option linter.unusedVariables false
noncomputable section
set_option linter.unusedSimpArgs false

variable {B : Nat} {S : Nat → Prop} {L : Nat → Loc} {H H' : AH} {w w' : World} {P : Program} {C : Cfg}
  {call : FuncId → List Value → AH → Option (Value × AH)} {ops : Array Oper} {Q : Exit → Act → World → Prop}

theorem ext_ext {m n p : Nat} (h1 : m ≤ n) (h2 : n ≤ p) : ext (ext S m n) n p = ext S m p := by
  funext i
  apply propext
  unfold ext
  constructor
  · rintro ((h | h) | h)
    · exact .inl h
    · exact .inr ⟨h.1, by omega⟩
    · exact .inr ⟨by omega, h.2⟩
  · rintro (h | h)
    · exact .inl (.inl h)
    · rcases Nat.lt_or_ge i n with hlt | hge
      · exact .inl (.inr ⟨h.1, hlt⟩)
      · exact .inr ⟨hge, h.2⟩

theorem AI.mono {S' : Nat → Prop} {L' : Nat → Loc} {k : Nat} {tm : Tr Value} {a : Act} (h : AI S L k tm a) (hS : ∀ i, S i → S' i) (hL : ∀ i, S i → L' i = L i) : AI S' L' k tm a :=
  ⟨h.defers, h.size, fun t v ht => ⟨(h.tmp t v ht).1, (h.tmp t v ht).2.mono hS hL⟩⟩

theorem GO.mono {S' : Nat → Prop} {L' : Nat → Loc} (h : GO C S L) (hS : ∀ i, S i → S' i) (hL : ∀ i, S i → L' i = L i) : GO C S' L' := fun g hg => by
  obtain ⟨h1, h2, h3⟩ := h g hg
  exact ⟨hS g h1, by rw [hL g h1]; exact h2, by rw [hL g h1]; exact h3⟩

theorem put_some {s s' : St} {dst : Option Tmp} {v : Value} (h : s.put dst v H' = some s') :
    s'.H = H' ∧ s'.k = s.k ∧ ((dst = none ∧ s'.tm = s.tm) ∨ ∃ d, dst = some d ∧ d < s.k ∧ s'.tm = s.tm.set d v) := by
  unfold St.put at h
  obtain ⟨k0, tm0, H0⟩ := s
  simp only [putSt] at h
  cases dst with
  | none => obtain rfl := Option.some.inj h; exact ⟨rfl, rfl, .inl ⟨rfl, rfl⟩⟩
  | some d =>
    simp only at h
    cases hb : Nat.blt d k0 with
    | false => rw [hb] at h; cases h
    | true =>
      rw [hb, cond_true] at h
      obtain rfl := Option.some.inj h
      exact ⟨rfl, rfl, .inr ⟨d, rfl, by rw [Nat.blt_eq] at hb; exact hb, rfl⟩⟩

theorem getD_set_self (a : Array Value) (d : Nat) (v x : Value) (h : d < a.size) : (a.setIfInBounds d v).getD d x = v := by
  simp [Array.getD, h]

theorem getD_set_ne' (a : Array Value) (d t : Nat) (v x : Value) (h : d ≠ t) : (a.setIfInBounds d v).getD t x = a.getD t x := by
  simp [Array.getD_eq_getD_getElem?, Array.getElem?_setIfInBounds_ne h]

theorem AI.put {S' : Nat → Prop} {L' : Nat → Loc} {s s' : St} {a : Act} {dst : Option Tmp} {v v' : Value} (hA : AI S L s.k s.tm a) (hS : ∀ i, S i → S' i) (hL : ∀ i, S i → L' i = L i) (hv : VR S' L' v v')
    (hp : s.put dst v H' = some s') : AI S' L' s'.k s'.tm (a.put dst v') := by
  obtain ⟨_, hk, h⟩ := put_some hp
  rw [hk]
  rcases h with ⟨rfl, ht⟩ | ⟨d, rfl, hd, ht⟩
  · rw [ht]; exact hA.mono hS hL
  · rw [ht]
    have hsz := hA.size
    refine ⟨hA.defers, by simp [Act.put, hsz], fun t u hu => ?_⟩
    rw [Tr.get_set] at hu
    split at hu
    · rename_i e
      subst e
      obtain rfl := Option.some.inj hu
      exact ⟨hd, by simp only [Act.put]; rw [getD_set_self _ _ _ _ (by rw [hsz]; exact hd)]; exact hv⟩
    · rename_i e
      obtain ⟨h1, h2⟩ := hA.tmp t u hu
      exact ⟨h1, by simp only [Act.put]; rw [getD_set_ne' _ _ _ _ _ (fun e' => e e'.symm)]; exact h2.mono hS hL⟩

theorem wanted_ok {tm : Tr Value} {a : Act} {o : Oper} {b : Bool} (h : wantedV ops tm o = some b)
    (hg : ∀ j want d, o.guard = some (j, want) → (ops[j]?).bind (·.dst) = some d → ∀ v, tm.get d = some v → d < a.tmps.size ∧ VR S L v (a.tmps.getD d undef)) :
    Region.wanted o (yielded ops a.tmps) = b := by
  unfold wantedV at h
  unfold Region.wanted
  cases hgd : o.guard with
  | none => rw [hgd] at h; obtain rfl := Option.some.inj h; rfl
  | some x =>
    obtain ⟨j, want⟩ := x
    rw [hgd] at h
    simp only at h ⊢
    cases hd : (ops[j]?).bind (·.dst) with
    | none => rw [hd] at h; cases h
    | some d =>
      rw [hd] at h
      simp only at h
      cases ht : tm.get d with
      | none => rw [ht] at h; cases h
      | some v =>
        obtain ⟨h1, h2⟩ := hg j want d hgd hd v ht
        have he : a.tmps[d]? = some (a.tmps.getD d undef) := by simp [Array.getD, h1]
        rw [ht] at h
        unfold yielded
        rw [hd]
        simp only [Option.bind_some, he]
        generalize a.tmps.getD d undef = u at h2
        cases h2 <;> first | (obtain rfl := Option.some.inj h; first | rfl | (simp; done)) | cases h

theorem AI.guard {k : Nat} {tm : Tr Value} {a : Act} (hA : AI S L k tm a) (o : Oper) : ∀ j want d, o.guard = some (j, want) → (ops[j]?).bind (·.dst) = some d → ∀ v, tm.get d = some v → d < a.tmps.size ∧ VR S L v (a.tmps.getD d undef) :=
  fun _ _ d _ _ v hv => ⟨by rw [hA.size]; exact (hA.tmp d v hv).1, (hA.tmp d v hv).2⟩

/-- Behind a stretch of a function's run. -/
def Done (B : Nat) (S : Nat → Prop) (L : Nat → Loc) (H : AH) (w : World) (s' : St) (a' : Act) (w' : World) : Prop :=
  ∃ L', AI (ext S H.n s'.H.n) L' s'.k s'.tm a' ∧ Inv B (ext S H.n s'.H.n) L' s'.H w' ∧ Fr S L H w L' s'.H w'

theorem Done.refl {s : St} {a : Act} (hA : AI S L s.k s.tm a) (hI : Inv B S L s.H w) : Done B S L s.H w s a w :=
  ⟨L, hA.mono (fun _ h => .inl h) (fun _ _ => rfl), hI.mono (fun _ h => .inl h) (fun i h => hI.bd i (ext_self h)), Fr.refl hI⟩

theorem Done.trans {s1 s2 : St} {L1 : Nat → Loc} {a2 : Act} {w1 w2 : World} (hI : Inv B S L H w) (hI1 : Inv B (ext S H.n s1.H.n) L1 s1.H w1) (hF : Fr S L H w L1 s1.H w1)
    (h : Done B (ext S H.n s1.H.n) L1 s1.H w1 s2 a2 w2) : Done B S L H w s2 a2 w2 := by
  obtain ⟨L2, h1, h2, h3⟩ := h
  rw [ext_ext hF.n h3.n] at h1 h2
  exact ⟨L2, h1, h2, hF.trans hI hI1 (fun _ h => .inl h) h3⟩

theorem undef_vr : VR S L undef undef := .tuple _ _ rfl (fun k v v' h => by simp at h)

theorem evList_ok (hcall : CallOk P C B call) : ∀ (l : List Oper) (k : Nat) (s s' : St) (S : Nat → Prop) (L : Nat → Loc) (a : Act) (w : World), GO C S L → (∀ j, l[j]? = ops[k + j]?) →
    evList P C call ops l s = some s' → AI S L s.k s.tm a → Inv B S L s.H w → (∀ a' w', Done B S L s.H w s' a' w' → Q .normal a' w') → wpOps P ops Q (List.range' k l.length) a w
  | [], k, s, s', S, L, a, w, hG, hl, h, hA, hI, hQ => by
    rw [evList_nil] at h
    obtain rfl := Option.some.inj h
    simp only [List.length_nil, List.range'_zero, wpOps]
    exact hQ a w (Done.refl hA hI)
  | o :: rest, k, s, s', S, L, a, w, hG, hl, h, hA, hI, hQ => by
    have h0 : ops[k]? = some o := by simpa using (hl 0).symm
    have hl' : ∀ j, rest[j]? = ops[k + 1 + j]? := fun j => by have := hl (j + 1); simpa [Nat.add_assoc, Nat.add_comm 1 j] using this
    rw [List.length_cons, List.range'_succ, wpOps_cons]
    unfold wpOp
    rw [h0]
    dsimp only
    rw [evList_cons] at h
    split at h <;> first | (cases h; done) | skip
    · rename_i hw
      rw [wanted_ok hw (hA.guard o), if_pos rfl]
      split at h <;> first | (cases h; done) | skip
      rename_i v H1 hop
      split at h <;> first | (cases h; done) | skip
      rename_i s1 hput
      refine .inl ((evOp_sound hcall hG hI (fun x _ u hx => opd_vr hG hA hx) hop).wp fun v' w1 hgood => ?_)
      obtain ⟨L1, g1, g2, g3⟩ := hgood
      obtain ⟨e1, e2, _⟩ := put_some hput
      subst e1
      refine evList_ok hcall rest (k + 1) s1 s' _ L1 _ w1 (hG.mono (fun _ h => .inl h) g2.agree) hl' h (hA.put (fun _ h => .inl h) g2.agree g3 hput) g1 fun a' w' hd => hQ a' w' (hd.trans hI g1 g2)
    · rename_i hw
      rw [wanted_ok hw (hA.guard o), if_neg (by simp)]
      split at h <;> first | (cases h; done) | skip
      rename_i s1 hput
      obtain ⟨e1, e2, _⟩ := put_some hput
      refine evList_ok hcall rest (k + 1) s1 s' S L _ w hG hl' h (hA.put (fun _ h => h) (fun _ _ => rfl) undef_vr hput) (by rw [e1]; exact hI) fun a' w' hd => hQ a' w' (by rw [e1] at hd; exact hd)

end
end Go.Proofs.Ytldapilhmmbjhaa.Ev
