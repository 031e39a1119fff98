/-
  bound.Reach and surdref17.Reach: the least 64 times a power of 2 that is no less; errors.
-/
import Derived.Test.YthlgggcpokfmaaaDoorLaid
import Derived.Test.YthlgggcpokfmaaaDoorEvR
namespace Go.Proofs.YthlgggcpokfmaaaDoor
open Go Ev
set_option linter.unusedVariables false
set_option linter.unusedSimpArgs false
noncomputable section

/-- What both Reach answer. -/
def ReachIs (need : Int) (v : Value) : Prop :=
  ((need < 1 ∨ 2097152 < need) ∧ v = .tuple #[.int .i64 0, .int .i64 1]) ∨
  (1 ≤ need ∧ need ≤ 2097152 ∧ ∃ j : Nat, j ≤ 15 ∧ need ≤ ((64 * 2 ^ j : Nat) : Int) ∧ (j = 0 ∨ ((64 * 2 ^ (j - 1) : Nat) : Int) < need) ∧ v = .tuple #[.int .i64 ((64 * 2 ^ j : Nat) : Int), .int .i64 0])

theorem ReachIs.uniq {need : Int} {v v' : Value} (h : ReachIs need v) (h' : ReachIs need v') : v = v' := by
  rcases h with ⟨a, rfl⟩ | ⟨a, b, j, c, d, e, rfl⟩
  · rcases h' with ⟨_, rfl⟩ | ⟨a', b', _⟩
    · rfl
    · omega
  · rcases h' with ⟨a', rfl⟩ | ⟨a', b', j', c', d', e', rfl⟩
    · omega
    · have : j = j' := by
        rcases Nat.lt_trichotomy j j' with h | h | h
        · exfalso
          have : 2 ^ j ≤ 2 ^ (j' - 1) := Nat.pow_le_pow_right (by decide) (by omega)
          rcases e' with e' | e' <;> omega
        · exact h
        · exfalso
          have : 2 ^ j' ≤ 2 ^ (j - 1) := Nat.pow_le_pow_right (by decide) (by omega)
          rcases e with e | e <;> omega
      subst this; rfl

attribute [local simp] strip stripL LW' gW evOp oMove oAssign oPick oBinOp oUnOp oConvert oExtract oIndexAddr oIndex oLoad oStore oSlice oMakeSlice oCall opd opds optOpd plain plain1 Tr.get_set tmOf builtinV binV isShift sameKind intBin undef resultV resOne packV calleeV

theorem reach_spec {need : Int} (lo : -9223372036854775808 ≤ need) (hi : need < 9223372036854775808) {H : AH} :
    CW Tryd.prog cfgR 11 [.int .i64 need] H fun v H' => H' = H ∧ ReachIs need v := by
  refine CW_intro 17 (by decide) (by decide) Tryd.func11 rfl rfl ?_
  apply W_seq; intro b1 hb1
  apply W_region
  simp
  show W _ _ b1 _ _; subst hb1
  apply W_seq; intro b1 hb1
  apply W_seq; intro b2 hb2
  apply W_region
  by_cases h1 : need < 1
  · simp [h1]
    show W _ _ b2 _ _; subst hb2
    refine W_cond (t := true) (by simp) ?_
    apply W_seq; intro b2 hb2
    apply W_region
    simp
    show W _ _ b2 _ _; subst hb2
    apply W_ret
    simp [seqQ]
    exact .inl ⟨.inl h1, rfl⟩
  · by_cases h2 : 2097152 < need
    · simp [h1, h2]
      show W _ _ b2 _ _; subst hb2
      refine W_cond (t := true) (by simp) ?_
      apply W_seq; intro b2 hb2
      apply W_region
      simp
      show W _ _ b2 _ _; subst hb2
      apply W_ret
      simp [seqQ]
      exact .inl ⟨.inr h2, rfl⟩
    · simp [h1, h2]
      show W _ _ b2 _ _; subst hb2
      refine W_cond (t := false) (by simp) ?_
      apply W_skip
      show W _ _ b1 _ _; subst hb1
      apply W_seq; intro b1 hb1
      apply W_region
      simp
      show W _ _ b1 _ _; subst hb1
      apply W_seq; intro b1 hb1
      apply W_block
      refine W_loopK (fun m s' => s'.k = 17 ∧ s'.H = H ∧ ∃ j p : Nat, p = 64 * 2 ^ j ∧ m + j = 15 ∧ (j = 0 ∨ ((64 * 2 ^ (j - 1) : Nat) : Int) < need) ∧ s'.tm.get 0 = some (.int .i64 need) ∧ s'.tm.get 4 = some (.int .i64 (p : Int))) ?_ 15 _
        ⟨rfl, rfl, 0, 64, rfl, rfl, .inl rfl, by simp, by simp⟩
      rintro m ⟨k, tm, H2⟩ ⟨hk, hH, j, p, hp, hm, hj, t0, t4⟩ Q' hQ'
      simp only at hk hH t0 t4
      subst hk; subst hH
      apply W_seq; intro b3 hb3
      apply W_seq; intro b4 hb4
      apply W_region
      simp [t4, t0]
      show W _ _ b4 _ _; subst hb4
      by_cases h : (p : Int) < need
      · have hj15 : j < 15 := by
          rcases Nat.lt_or_ge j 15 with h' | h'
          · exact h'
          · exfalso
            have : 2 ^ 15 ≤ 2 ^ j := Nat.pow_le_pow_right (by decide) h'
            omega
        have hp2 : p * 2 = 64 * 2 ^ (j + 1) := by rw [hp, Nat.pow_succ]; omega
        have hw : IntKind.i64.wrap ((p : Int) * 2) = ((p * 2 : Nat) : Int) := by
          rw [IntKind.wrap_i64]; omega
        refine W_cond (t := true) (by simp; omega) ?_
        apply W_skip
        show W _ _ b3 _ _; subst hb3
        apply W_block
        apply W_region
        simp [t4, t0, hw]
        apply hQ'
        refine ⟨14 - j, by omega, rfl, rfl, j + 1, p * 2, hp2, by omega, .inr (by rw [Nat.add_sub_cancel, ← hp]; exact h), by simp [t0], ?_⟩
        simp
      · refine W_cond (t := false) (by simp; omega) ?_
        apply W_exit
        apply hQ'
        left
        refine ⟨rfl, ?_⟩
        show W _ _ b1 _ _; subst hb1
        apply W_seq; intro b4 hb4
        apply W_region
        simp [t4, t0]
        show W _ _ b4 _ _; subst hb4
        apply W_ret
        simp
        exact .inr ⟨by omega, by omega, j, by omega, by omega, hj, by rw [← hp]⟩
theorem reachRef_spec {need : Int} (lo : -9223372036854775808 ≤ need) (hi : need < 9223372036854775808) {H : AH} :
    CW Tryd.prog cfgR 12 [.int .i64 need] H fun v H' => H' = H ∧ ReachIs need v := by
  refine CW_intro 17 (by decide) (by decide) Tryd.func12 rfl rfl ?_
  apply W_seq; intro b1 hb1
  apply W_region
  simp
  show W _ _ b1 _ _; subst hb1
  apply W_seq; intro b1 hb1
  apply W_seq; intro b2 hb2
  apply W_region
  by_cases h1 : need < 1
  · simp [h1]
    show W _ _ b2 _ _; subst hb2
    refine W_cond (t := true) (by simp) ?_
    apply W_seq; intro b2 hb2
    apply W_region
    simp
    show W _ _ b2 _ _; subst hb2
    apply W_ret
    simp [seqQ]
    exact .inl ⟨.inl h1, rfl⟩
  · by_cases h2 : 2097152 < need
    · simp [h1, h2]
      show W _ _ b2 _ _; subst hb2
      refine W_cond (t := true) (by simp) ?_
      apply W_seq; intro b2 hb2
      apply W_region
      simp
      show W _ _ b2 _ _; subst hb2
      apply W_ret
      simp [seqQ]
      exact .inl ⟨.inr h2, rfl⟩
    · simp [h1, h2]
      show W _ _ b2 _ _; subst hb2
      refine W_cond (t := false) (by simp) ?_
      apply W_skip
      show W _ _ b1 _ _; subst hb1
      apply W_seq; intro b1 hb1
      apply W_region
      simp
      show W _ _ b1 _ _; subst hb1
      apply W_seq; intro b1 hb1
      apply W_block
      refine W_loopK (fun m s' => s'.k = 17 ∧ s'.H = H ∧ ∃ j p : Nat, p = 64 * 2 ^ j ∧ m + j = 15 ∧ (j = 0 ∨ ((64 * 2 ^ (j - 1) : Nat) : Int) < need) ∧ s'.tm.get 0 = some (.int .i64 need) ∧ s'.tm.get 4 = some (.int .i64 (p : Int))) ?_ 15 _
        ⟨rfl, rfl, 0, 64, rfl, rfl, .inl rfl, by simp, by simp⟩
      rintro m ⟨k, tm, H2⟩ ⟨hk, hH, j, p, hp, hm, hj, t0, t4⟩ Q' hQ'
      simp only at hk hH t0 t4
      subst hk; subst hH
      apply W_seq; intro b3 hb3
      apply W_seq; intro b4 hb4
      apply W_region
      simp [t4, t0]
      show W _ _ b4 _ _; subst hb4
      by_cases h : (p : Int) < need
      · have hj15 : j < 15 := by
          rcases Nat.lt_or_ge j 15 with h' | h'
          · exact h'
          · exfalso
            have : 2 ^ 15 ≤ 2 ^ j := Nat.pow_le_pow_right (by decide) h'
            omega
        have hp2 : p * 2 = 64 * 2 ^ (j + 1) := by rw [hp, Nat.pow_succ]; omega
        have hw : IntKind.i64.wrap ((p : Int) * 2) = ((p * 2 : Nat) : Int) := by
          rw [IntKind.wrap_i64]; omega
        refine W_cond (t := true) (by simp; omega) ?_
        apply W_skip
        show W _ _ b3 _ _; subst hb3
        apply W_block
        apply W_region
        simp [t4, t0, hw]
        apply hQ'
        refine ⟨14 - j, by omega, rfl, rfl, j + 1, p * 2, hp2, by omega, .inr (by rw [Nat.add_sub_cancel, ← hp]; exact h), by simp [t0], ?_⟩
        simp
      · refine W_cond (t := false) (by simp; omega) ?_
        apply W_exit
        apply hQ'
        left
        refine ⟨rfl, ?_⟩
        show W _ _ b1 _ _; subst hb1
        apply W_seq; intro b4 hb4
        apply W_region
        simp [t4, t0]
        show W _ _ b4 _ _; subst hb4
        apply W_ret
        simp
        exact .inr ⟨by omega, by omega, j, by omega, by omega, hj, by rw [← hp]⟩

theorem callI_of_run {n : Nat} {C : Cfg} {f : FuncId} {args : List Value} {H : AH} {r : Value × AH} (h : run Tryd.prog C n f args H = some r) : callI Tryd.prog C f args H = some r :=
  call_evI n f args H r h

set_option maxRecDepth 100000 in
theorem lives_runs : saysTrue (run Tryd.prog cfgR 100000 7 [] rowsHeap) = true := by kernel_rfl

theorem lives_call : ∃ H', callI Tryd.prog cfgR 7 [] rowsHeap = some (.bool true, H') := by
  obtain ⟨H', h⟩ := saysTrue_some lives_runs
  exact ⟨H', callI_of_run h⟩

theorem law_spec {need : Int} (lo : -9223372036854775808 ≤ need) (hi : need < 9223372036854775808) :
    CW Tryd.prog cfgR 5 [.int .i64 need] rowsHeap fun v H' => v = .bool true := by
  refine CW_intro 42 (by decide) (by decide) Tryd.func5 rfl rfl ?_
  obtain ⟨v1, H1, hc1, e1, r1⟩ := reach_spec lo hi (H := rowsHeap)
  obtain ⟨v2, H2, hc2, e2, r2⟩ := reachRef_spec lo hi (H := rowsHeap)
  subst e1; subst e2
  obtain rfl := r1.uniq r2
  obtain ⟨H3, hl⟩ := lives_call
  apply W_seq; intro b1 hb1
  apply W_region
  simp
  show W _ _ b1 _ _; subst hb1
  rcases r1 with ⟨a, rfl⟩ | ⟨a, b, j, c, d, e, rfl⟩
  · apply W_seq; intro b1 hb1
    apply W_region
    simp [hc1]
    show W _ _ b1 _ _; subst hb1
    apply W_seq; intro b1 hb1
    apply W_region
    simp [hc2]
    show W _ _ b1 _ _; subst hb1
    apply W_seq; intro b1 hb1
    apply W_region
    simp [hl]
    show W _ _ b1 _ _; subst hb1
    apply W_ret
    simp
  · obtain ⟨p, hp⟩ : ∃ p : Nat, p = 64 * 2 ^ j := ⟨_, rfl⟩
    rw [← hp] at hc1 hc2 d
    have hw : IntKind.i64.wrap (2 * need) = 2 * need := by rw [IntKind.wrap_i64]; omega
    have hlt : ¬ need ≤ 64 → (p : Int) < 2 * need := by
      intro h
      rcases e with e | e
      · subst e; omega
      · by_cases hj : j = 0
        · subst hj; omega
        · have : 2 ^ j = 2 * 2 ^ (j - 1) := by rw [← Nat.pow_succ']; congr 1; omega
          omega
    apply W_seq; intro b1 hb1
    apply W_region
    simp [hc1]
    show W _ _ b1 _ _; subst hb1
    apply W_seq; intro b1 hb1
    apply W_region
    simp [hc2]
    show W _ _ b1 _ _; subst hb1
    apply W_seq; intro b1 hb1
    apply W_region
    by_cases h64 : need ≤ 64
    · simp [hl, h64]
      show W _ _ b1 _ _; subst hb1
      apply W_ret
      simp
    · simp [hl, h64, hw, hlt h64]
      show W _ _ b1 _ _; subst hb1
      apply W_ret
      simp
end
end Go.Proofs.YthlgggcpokfmaaaDoor
