/-
  The engine and the walks that the claim's last text leans on, part 5 of 5: Args.
-/
import Derived.Test.YtldapilhmmbjhaaM4
import Derived.Test.YtldapilhmmbjhaaM2
import Derived.Deep.Slices
import Derived.JoinedCond

/-
  LISTS OF LIMBS AS ARGUMENTS: what the reading of one says; the abstract heap that holds it (read-only).
-/
namespace Go.Proofs.Ytldapilhmmbjhaa
open Go Go.ChangeShapes Go.WideShapes Go.RowKit Go.Proofs.Ytldapilhmmbjhaa.Ev
set_option linter.unusedVariables false
noncomputable section

theorem bulk_one {H : Type} (d : DataW H) : 1 ≤ Rows.uptoBulk d := by
  cases d with
  | lit l => cases l <;> simp [Rows.uptoBulk]
  | nil => simp [Rows.uptoBulk]
  | ptr d => simp [Rows.uptoBulk]
  | slice elems spare => simp [Rows.uptoBulk]
  | agg parts => simp [Rows.uptoBulk]
  | iface t d => simp [Rows.uptoBulk]
  | map entries => simp [Rows.uptoBulk]
  | held h => simp [Rows.uptoBulk]

theorem bulk_len {H : Type} (l : List (DataW H)) : l.length ≤ Rows.uptoBulkAll l := by
  induction l with
  | nil => simp [Rows.uptoBulkAll]
  | cons x r ih => have := bulk_one x; simp only [Rows.uptoBulkAll, List.length_cons]; omega

theorem bulk_slice {H : Type} (elems spare : List (DataW H)) : elems.length ≤ Rows.uptoBulk (.slice elems spare) := by
  have h1 := bulk_len elems
  simp only [Rows.uptoBulk]
  omega

theorem bulk_part {H : Type} {d : DataW H} {l : List (DataW H)} (h : d ∈ l) : Rows.uptoBulk d ≤ Rows.uptoBulkAll l := by
  induction l with
  | nil => cases h
  | cons x r ih =>
    simp only [Rows.uptoBulkAll]
    cases List.mem_cons.1 h with
    | inl e => subst e; omega
    | inr e => have := ih e; omega

theorem bulk_bound {H : Type} {l : List (DataW H)} (hk : Rows.uptoSmall H l = true) : Rows.uptoBulkAll l ≤ 1048576 := of_decide_eq_true hk

/-- What lies behind an argument's slice. -/
def ArgIs (W : World) (v : Value) (xs : List Nat) : Prop :=
  (v = .slice none 0 0 ∧ xs = []) ∨ ∃ (a : Addr) (cap : Nat), v = .slice (some a) xs.length cap ∧ xs.length ≤ cap ∧ ∀ (i x : Nat), xs[i]? = some x → W.cell? (a.add i) = some (.int .u64 (x : Int))

theorem cU64 : Try.prog.cellsOf 55 = 1 := by kernel_rfl

theorem open_limbs {H : Type} {enc : TypeId × Value → H} {W : World} {r : Reach} {b0 : Nat} {t : TypeId} {v : Value} {d : DataW H} {ps : List MemPlace} (ht : Try.prog.underlying t = some (.slice 55)) (hval : Value.okWide Try.prog W r b0 t v)
    (h : DataW.Trod enc Try.prog W 0 (fun _ => true) true t v d ps) : ∃ xs, Dig 18446744073709551616 xs ∧ xs.length ≤ Rows.uptoBulk d ∧ ArgIs W v xs := by
  obtain ⟨fuel, hf⟩ := h
  obtain ⟨a, len, cap, rfl⟩ := okWide_slice ht hval
  have hc : (Value.slice a len cap).cells.toList = [.slice a len cap] := rfl
  rw [hc] at hf
  rcases Deep.open_slice1 ht cU64 hf with ⟨h1, h2⟩ | ⟨a', len', cap', m, n, V, D, Pl, h1, _, hl, _, hm, hx, hV⟩
  · cases h1
    exact ⟨[], .nil _, Nat.zero_le _, .inl ⟨rfl, rfl⟩⟩
  · cases h1
    rw [if_pos rfl] at hm
    rw [hm] at hx hV
    have hval : ∀ i, i < cap → ∃ x : Nat, V i = .int .u64 (x : Int) ∧ x < 18446744073709551616 := fun i hi => by
      obtain ⟨n', c', x', w'⟩ := DataW.trod_int Try.underlying55 (hV i hi).2
      simp at c'
      simp only [Lit.wf, Bool.and_eq_true, decide_eq_true_eq] at w'
      have e1 : IntKind.u64.min = 0 := by decide
      have e2 : IntKind.u64.max = 18446744073709551615 := by decide
      exact ⟨n'.toNat, by rw [c']; congr 1; omega, by omega⟩
    let f : Nat → Nat := fun i => match V i with | .int _ z => z.toNat | _ => 0
    have hfe : ∀ i, i < cap → V i = .int .u64 ((f i : Nat) : Int) ∧ f i < 18446744073709551616 := fun i hi => by
      obtain ⟨x, h1, h2⟩ := hval i hi
      have : f i = x := by show (match V i with | .int _ z => z.toNat | _ => 0) = x; rw [h1]; simp
      rw [this]; exact ⟨h1, h2⟩
    refine ⟨(List.range len).map f, ?_, ?_, .inr ⟨a', cap, by simp, by simpa using hl, ?_⟩⟩
    · intro x hx
      obtain ⟨i, hi, rfl⟩ := List.mem_map.mp hx
      exact (hfe i (Nat.lt_of_lt_of_le (List.mem_range.mp hi) hl)).2
    · simp only [Prod.mk.injEq] at hx
      rw [hx.1]
      have := bulk_slice ((List.range len).map D) ((List.range (cap - len)).map fun j => D (len + j))
      simpa using this
    · intro i x hi
      rw [List.getElem?_map] at hi
      by_cases hil : i < len
      · rw [List.getElem?_range hil] at hi
        cases hi
        have hic : i < cap := Nat.lt_of_lt_of_le hil hl
        rw [(hV i hic).1, (hfe i hic).1]
      · rw [List.getElem?_eq_none (by simp; omega)] at hi
        cases hi

/-- One argument more in the abstract heap. -/
theorem add_arg {W : World} {S : Nat → Prop} {L : Nat → Ev.Loc} {H : AH} (hI : Inv W.heap.size S L H W) {v : Value} {xs : List Nat} (h : ArgIs W v xs) :
    ∃ (S' : Nat → Prop) (L' : Nat → Ev.Loc) (H' : AH) (v0 : Value), Inv W.heap.size S' L' H' W ∧ (∀ i, S i → S' i) ∧ (∀ i, S i → L' i = L i) ∧ VR S' L' v0 v ∧ Sl H' v0 xs ∧ Keep H H' := by
  rcases h with ⟨rfl, rfl⟩ | ⟨a, cap, rfl, hcap, hc⟩
  · exact ⟨S, L, H, .slice none 0 0, hI, fun _ h => h, fun _ _ => rfl, .nilSlice, .nil, .refl H⟩
  · by_cases h0 : xs.length = 0
    · obtain rfl : xs = [] := List.length_eq_zero_iff.mp h0
      exact ⟨S, L, H, _, hI, fun _ h => h, fun _ _ => rfl, .emp 0 a cap, .emp 0, .refl H⟩
    · have hx0 := hc 0 xs[0] (List.getElem?_eq_getElem (by omega))
      have ea : a.add 0 = a := rfl
      rw [ea] at hx0
      have hspot : a.spot = none := by
        unfold World.cell? at hx0
        cases hs : a.spot with
        | none => rfl
        | some q =>
          rw [hs] at hx0
          split at hx0
          · simp at hx0
          · cases hx0
      have hblk : a.block < W.heap.size := World.block_lt_of_cell? W a hx0
      have hadd : ∀ k, a.add k = ⟨a.block, a.off + k, none⟩ := fun k => by
        unfold Addr.add
        by_cases hk : k = 0
        · subst hk; rw [if_pos rfl]
          cases a with
          | mk b o s => simp at hspot; subst hspot; rfl
        · rw [if_neg hk]
      have hn : ∀ i, S i → i ≠ H.n := fun i hi e => by have := hI.bd i hi; omega
      let L' : Nat → Ev.Loc := fun i => if i = H.n then ⟨a.block, a.off, 1, a.off + cap⟩ else L i
      let S' : Nat → Prop := fun i => i = H.n ∨ S i
      have hL : ∀ i, S i → L' i = L i := fun i hi => if_neg (hn i hi)
      have hLn : L' H.n = ⟨a.block, a.off, 1, a.off + cap⟩ := if_pos rfl
      let H' : AH := { n := H.n + 1, lw := H.lw, t := H.t.set H.n (.ro 1 (xs.map fun x : Nat => Value.int .u64 (x : Int))) }
      have hb : ∀ j, H'.blk j = if j = H.n then .ro 1 (xs.map fun x : Nat => Value.int .u64 (x : Int)) else H.blk j := fun j => by
        show (match (H.t.set H.n _).get j with | some b => b | none => Blk.dead) = _
        rw [Tr.get_set]
        by_cases e : j = H.n
        · rw [if_pos e, if_pos e]
        · rw [if_neg e, if_neg e]; rfl
      refine ⟨S', L', H', .slice (some ⟨H.n, 0, none⟩) xs.length xs.length, ⟨?_, ?_, ?_, ?_, hI.base⟩, fun i hi => .inr hi, hL, ?_, ?_, ?_⟩
      · intro i sz cs hi
        rw [hb] at hi
        by_cases e : i = H.n
        · rw [if_pos e] at hi
          cases hi
          subst e
          rw [hLn]
          refine ⟨.inl rfl, hblk, rfl, fun k v hk => ?_⟩
          rw [List.getElem?_map] at hk
          cases hxk : xs[k]? with
          | none => rw [hxk] at hk; cases hk
          | some x =>
            rw [hxk] at hk
            cases hk
            refine ⟨.int .u64 (x : Int), ?_, .int _ _⟩
            have := hc k x hxk
            rwa [hadd k] at this
        · rw [if_neg e] at hi
          obtain ⟨h1, h2, h3, h4⟩ := hI.ro i sz cs hi
          rw [hL i h1]
          refine ⟨.inr h1, h2, h3, fun k v hk => ?_⟩
          obtain ⟨v', h5, h6⟩ := h4 k v hk
          exact ⟨v', h5, h6.mono (fun _ h => .inr h) hL⟩
      · intro i sz cs hi
        rw [hb] at hi
        by_cases e : i = H.n
        · rw [if_pos e] at hi; cases hi
        · rw [if_neg e] at hi
          obtain ⟨h1, h2, h3, C, e', h4, h5, h6⟩ := hI.rw i sz cs hi
          rw [hL i h1]
          refine ⟨.inr h1, h2, h3, C, e', h4, h5, fun k v hk => ?_⟩
          obtain ⟨v', h7, h8⟩ := h6 k v hk
          exact ⟨v', h7, h8.mono (fun _ h => .inr h) hL⟩
      · intro i j sz cs sz' cs' hi hj hg
        rw [hb] at hi hj
        by_cases e : i = H.n
        · rw [if_pos e] at hi; cases hi
        · by_cases e2 : j = H.n
          · rw [if_pos e2] at hj; cases hj
          · rw [if_neg e] at hi
            rw [if_neg e2] at hj
            rw [hL i (hI.rw i _ _ hi).1, hL j (hI.rw j _ _ hj).1] at hg
            exact hI.dj i j _ _ _ _ hi hj hg
      · intro i hi
        rcases hi with hi | hi
        · subst hi; exact Nat.lt_succ_self _
        · exact Nat.lt_succ_of_lt (hI.bd i hi)
      · have hv := VR.slice (S := S') (L := L') H.n 0 xs.length xs.length cap (.inl rfl) hcap (Nat.le_refl _) (by rw [hLn]; simp)
        rw [hLn] at hv
        have e : (some (⟨a.block, a.off + 0, none⟩ : Addr)) = some a := by
          congr 1
          cases a with
          | mk b o s => simp at hspot; subst hspot; rfl
        rw [e] at hv
        exact hv
      · refine .mk H.n 0 xs.length xs (Nat.le_refl _) ⟨Nat.lt_succ_self _, xs.map fun x : Nat => Value.int .u64 (x : Int), ?_, ?_, fun i x hx => ?_, Nat.zero_le _⟩
        · unfold AH.cells; rw [hb, if_pos rfl]
        · unfold AH.size; rw [hb, if_pos rfl]
        · rw [Nat.zero_add, List.getElem?_map, hx]; rfl
      · exact ⟨Nat.le_succ _, Nat.min_le_left _ _, fun j hj => by rw [hb, if_neg (by omega)]⟩

/-- A law over two lists of limbs, on the machine. -/
theorem calls2 {f : Nat} {fn : Func} (hf : Try.prog.funcs[f]? = some fn) (hb : fn.body.isSome = true) {W : World} {v v' : Value} {xs ys : List Nat} (h1 : ArgIs W v xs) (h2 : ArgIs W v' ys)
    (hrun : ∀ (H : AH) (va vb : Value), Sl H va xs → Sl H vb ys → ∃ H', callI Try.prog cfg0 f [va, vb] H = some (.bool true, H')) :
    Calls Try.prog f #[v, v'] W fun e w' => e = .returned (.bool true) ∧ Below W.heap.size W w' := by
  obtain ⟨S1, L1, H1, v1, I1, s1, l1, r1, q1, k1⟩ := add_arg (noHeap_inv W) h1
  obtain ⟨S2, L2, H2, v2, I2, s2, l2, r2, q2, k2⟩ := add_arg I1 h2
  obtain ⟨H', hc⟩ := hrun H2 v1 v2 (q1.keep k2) q2
  obtain ⟨n, hr⟩ := callI_run hc
  have := run_calls (cfg_ok 0) hr hf hb (fun g hg => absurd hg (Nat.not_lt_zero g)) I2 (args' := [v, v']) (.cons (r1.mono s2 l2) (.cons r2 .nil))
  refine this.mono fun e w' ⟨v', he, hg⟩ => ?_
  have hbel := hg.below I2
  obtain ⟨L', _, _, hv⟩ := hg
  cases hv
  exact ⟨he, hbel⟩

/-- A law over three lists of limbs, on the machine. -/
theorem calls3 {f : Nat} {fn : Func} (hf : Try.prog.funcs[f]? = some fn) (hb : fn.body.isSome = true) {W : World} {v v' v'' : Value} {xs ys zs : List Nat} (h1 : ArgIs W v xs) (h2 : ArgIs W v' ys) (h3 : ArgIs W v'' zs)
    (hrun : ∀ (H : AH) (va vb vc : Value), Sl H va xs → Sl H vb ys → Sl H vc zs → ∃ H', callI Try.prog cfg0 f [va, vb, vc] H = some (.bool true, H')) :
    Calls Try.prog f #[v, v', v''] W fun e w' => e = .returned (.bool true) ∧ Below W.heap.size W w' := by
  obtain ⟨S1, L1, H1, v1, I1, s1, l1, r1, q1, k1⟩ := add_arg (noHeap_inv W) h1
  obtain ⟨S2, L2, H2, v2, I2, s2, l2, r2, q2, k2⟩ := add_arg I1 h2
  obtain ⟨S3, L3, H3, v3, I3, s3, l3, r3, q3, k3⟩ := add_arg I2 h3
  obtain ⟨H', hc⟩ := hrun H3 v1 v2 v3 (q1.keep (k2.trans k3)) (q2.keep k3) q3
  obtain ⟨n, hr⟩ := callI_run hc
  have := run_calls (cfg_ok 0) hr hf hb (fun g hg => absurd hg (Nat.not_lt_zero g)) I3 (args' := [v, v', v'']) (.cons ((r1.mono s2 l2).mono s3 l3) (.cons (r2.mono s3 l3) (.cons r3 .nil)))
  refine this.mono fun e w' ⟨v', he, hg⟩ => ?_
  have hbel := hg.below I3
  obtain ⟨L', _, _, hv⟩ := hg
  cases hv
  exact ⟨he, hbel⟩
end
end Go.Proofs.Ytldapilhmmbjhaa
