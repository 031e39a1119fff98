/-
  surdref01.Own: lists of their own memory can be written over and grow without touching each other.
-/
import Derived.Test.YtldapilhmmbjhaaOf
namespace Go.Proofs.Ytldapilhmmbjhaa
open Go Ev
set_option linter.unusedVariables false
set_option linter.unusedSimpArgs false
noncomputable section

theorem uLL : Try.prog.underlying 62 = some (.slice 23) := by kernel_rfl
theorem sLst : sizeT Try.prog 23 = some 1 := by kernel_rfl
theorem aLst : isAggT Try.prog 23 = some false := by kernel_rfl

/-- Some lists, each in its own memory, and the list of them. -/
structure Grp (n0 : Nat) (H : AH) (b : Nat) (vs : List Value) (f : Nat → List Nat) : Prop where
  lo : n0 ≤ b
  hi : b < H.n
  blk : H.blk b = .rw 1 vs
  own : ∀ (i : Nat) (v : Value), vs[i]? = some v → Own n0 H v (f i)
  ap : ∀ (i j : Nat) (v w : Value), i ≠ j → vs[i]? = some v → vs[j]? = some w → Apart v w
  out : ∀ (i : Nat) (v : Value), vs[i]? = some v → vblk v ≠ some b

theorem Own.isSlice {n0 : Nat} {H : AH} {v : Value} {xs : List Nat} (h : Own n0 H v xs) : v.cells = #[v] ∧ one v = true := by
  cases h <;> exact ⟨rfl, rfl⟩

section
variable {n0 : Nat} {H : AH} {b : Nat} {vs : List Value} {f : Nat → List Nat}

theorem Grp.adr (g : Grp n0 H b vs f) {k : IntKind} {i : Nat} (hi : i < vs.length) : indexAddrV Try.prog 62 (.slice (some ⟨b, 0, none⟩) vs.length vs.length) (.int k (i : Int)) = some (.pointer (some ⟨b, i, none⟩)) := by
  unfold indexAddrV
  simp only [uLL, sLst]
  rw [if_pos (by omega)]
  simp

theorem Grp.load (g : Grp n0 H b vs f) {i : Nat} (hi : i < vs.length) : loadV Try.prog H 23 (.pointer (some ⟨b, i, none⟩)) = some vs[i] := by
  unfold loadV
  simp only [aLst]
  unfold AH.cells
  rw [g.blk]
  exact List.getElem?_eq_getElem hi

/-- One list changes in its own memory. -/
theorem Grp.step (g : Grp n0 H b vs f) {H' : AH} {i : Nat} (hi : i < vs.length) {ys : List Nat} (bt : But (vblk vs[i]) H H') (o : Own n0 H' vs[i] ys) : Grp n0 H' b vs (fun j => if j = i then ys else f j) := by
  have gi : vs[i]? = some vs[i] := List.getElem?_eq_getElem hi
  refine ⟨g.lo, by rw [bt.n]; exact g.hi, by rw [bt.blk b g.hi (g.out i _ gi)]; exact g.blk, fun j v hj => ?_, g.ap, g.out⟩
  by_cases e : j = i
  · subst e
    rw [if_pos rfl]
    obtain rfl := Option.some.inj (gi.symm.trans hj)
    exact o
  · rw [if_neg e]
    exact (g.own j v hj).but bt fun c hc => g.ap i j _ _ (Ne.symm e) gi hj c hc
end

/-- A store of a list into the list of lists. -/
theorem Grp.put {n0 : Nat} {H H4 : AH} {b : Nat} {vs : List Value} {f : Nat → List Nat} (g : Grp n0 H b vs f) {i : Nat} (hi : i < vs.length) {v' : Value} {ys : List Nat} (md : Mod (vblk vs[i]) H H4) (o : Own H.n H4 v' ys) :
    ∃ H5, storeV Try.prog H4 23 (.pointer (some ⟨b, i, none⟩)) v' = some H5 ∧ Grp n0 H5 b (vs.set i v') (fun j => if j = i then ys else f j) ∧ KA n0 H4 H5 := by
  have gi : vs[i]? = some vs[i] := List.getElem?_eq_getElem hi
  obtain ⟨c1, c2⟩ := o.isSlice
  have hbk : H4.blk b = .rw 1 vs := by rw [md.blk b g.hi (g.out i _ gi)]; exact g.blk
  have hle : Nat.ble (i + 1) vs.length = true := Nat.ble_eq.mpr (by omega)
  have hw : H4.write b i [v'] = some { n := H4.n, lw := min H4.lw b, t := H4.t.set b (.rw 1 (vs.take i ++ [v'] ++ vs.drop (i + 1))) } := by
    rw [AH.write_def, hbk]
    simp only [List.length_singleton, hle, List.all_cons, c2, List.all_nil, Bool.and_self, cond_true]
  have hset : vs.take i ++ [v'] ++ vs.drop (i + 1) = vs.set i v' := by
    rw [List.set_eq_take_append_cons_drop, if_pos hi]; simp
  rw [hset] at hw
  obtain ⟨H5, hH5⟩ : ∃ H5 : AH, H5 = { n := H4.n, lw := min H4.lw b, t := H4.t.set b (.rw 1 (vs.set i v')) } := ⟨_, rfl⟩
  rw [← hH5] at hw
  have n5 : H5.n = H4.n := by rw [hH5]
  have b5 : H5.blk b = .rw 1 (vs.set i v') := by rw [hH5]; unfold AH.blk; simp only [Tr.get_set, if_true]
  have o5 : ∀ j, j ≠ b → H5.blk j = H4.blk j := fun j hj => by rw [hH5]; unfold AH.blk; simp only [Tr.get_set, if_neg hj]
  have bt5 : But (some b) H4 H5 := ⟨n5, fun j _ hj => o5 j (fun e => hj (by rw [e]))⟩
  have hbn : b < H.n := g.hi
  have hn4 := md.n
  have far : ∀ c, vblk v' = some c → H.n ≤ c := fun c hc => (o.blk_lo hc).1
  refine ⟨H5, ?_, ⟨g.lo, by rw [n5]; omega, b5, ?_, ?_, ?_⟩, ?_⟩
  · unfold storeV
    simp only [sLst, c1]
    rw [show Nat.beq (#[v'] : Array Value).size 1 = true from rfl, cond_true]
    exact hw
  · intro j v hj
    rw [List.getElem?_set] at hj
    by_cases e : i = j
    · subst e
      rw [if_pos rfl, if_pos hi] at hj
      cases hj
      rw [if_pos rfl]
      exact (o.mono (by have := g.lo; omega) (.refl _)).but bt5 fun c hc hv => by
        cases hc
        have := far _ hv
        omega
    · rw [if_neg e] at hj
      rw [if_neg (Ne.symm e)]
      exact ((g.own j v hj).mod md fun c hc => g.ap i j _ _ e gi hj c hc).but bt5 fun c hc hv => by cases hc; exact g.out j v hj hv
  · intro j k v w hjk hj hk c hc hc'
    rw [List.getElem?_set] at hj hk
    by_cases e : i = j
    · subst e
      rw [if_pos rfl, if_pos hi] at hj
      cases hj
      rw [if_neg hjk] at hk
      have h1 := far _ hc
      have h2 := ((g.own k w hk).blk_lo hc').2
      omega
    · rw [if_neg e] at hj
      by_cases e2 : i = k
      · subst e2
        rw [if_pos rfl, if_pos hi] at hk
        cases hk
        have h1 := far _ hc'
        have h2 := ((g.own j v hj).blk_lo hc).2
        omega
      · rw [if_neg e2] at hk
        exact g.ap j k v w hjk hj hk c hc hc'
  · intro j v hj hv
    rw [List.getElem?_set] at hj
    by_cases e : i = j
    · subst e
      rw [if_pos rfl, if_pos hi] at hj
      cases hj
      have := far _ hv
      omega
    · rw [if_neg e] at hj
      exact g.out j v hj hv
  · intro H0 k hn
    have := k.lw
    have := g.lo
    refine ⟨by rw [n5]; exact k.n, by rw [hH5]; show min H0.lw H0.n ≤ min H4.lw b; omega, fun j hj => ?_⟩
    rw [o5 j (by omega)]
    exact k.blk j hj

theorem build5_own (H : AH) (a b c d e : Nat) : buildSliceV Try.prog H 23 5 [(0, .int .u64 (a : Int)), (1, .int .u64 (b : Int)), (2, .int .u64 (c : Int)), (3, .int .u64 (d : Int)), (4, .int .u64 (e : Int))] = some (.slice (some ⟨H.n, 0, none⟩) 5 5, H.new 1 ([a, b, c, d, e].map limb)) := by
  unfold buildSliceV
  simp only [tLst, zU64]
  kernel_rfl

theorem conv_iu {n : Nat} (h : n < B64) : convV Try.prog 3 55 (.int .i64 (n : Int)) = some (.int .u64 (n : Int)) := by
  have h : n < 18446744073709551616 := h
  have e : IntKind.u64.wrap (n : Int) = (n : Int) := by rw [IntKind.wrap_u64]; omega
  unfold convV
  simp only [Try.underlying3, Try.underlying55, e]

theorem rem251 {x : Nat} : intBin .rem .i64 (x : Int) 251 = some (.int .i64 ((x % 251 : Nat) : Int)) := rem_i64 (y := 251) (by decide)
theorem mul5 {x : Nat} (h : 5 * x < 9223372036854775808) : intBin .mul .i64 5 (x : Int) = some (.int .i64 ((5 * x : Nat) : Int)) := mul_i64 (x := 5) h
theorem add300 {x : Nat} (h : 300 + x < 9223372036854775808) : intBin .add .i64 300 (x : Int) = some (.int .i64 ((300 + x : Nat) : Int)) := add_i64 (x := 300) h
theorem addu {x y : Nat} (h : x + y < B64) : intBin .add .u64 (x : Int) (y : Int) = some (.int .u64 ((x + y : Nat) : Int)) := add_u64_lt h
theorem sub5_i64 {x : Nat} (h : x < 9223372036854775808) (hx : 5 ≤ x) : intBin .sub .i64 (x : Int) 5 = some (.int .i64 ((x - 5 : Nat) : Int)) := sub_i64 (y := 5) h hx
theorem add5_i64 {x : Nat} (h : x < 9223372036854775800) : intBin .add .i64 (x : Int) 5 = some (.int .i64 ((x + 5 : Nat) : Int)) := add_i64 (y := 5) (by omega)

/-- What stands in the i-th list behind the writing over, and behind the growing. -/
def fillW (f : Nat → List Nat) (i : Nat) : List Nat := List.replicate (f i).length (i % 251 + 1)
def growW (f : Nat → List Nat) (i : Nat) : List Nat := fillW f i ++ [300 + 5 * i, 300 + 5 * i + 1, 300 + 5 * i + 2, 300 + 5 * i + 3, 300 + 5 * i + 4]

attribute [-simp] Int.natCast_add Int.natCast_mul Int.natCast_ediv Int.natCast_emod Int.natCast_pow
attribute [local simp] strip stripL LW' LR gW evOp oMove oAssign oPick oBinOp oUnOp oConvert oExtract oIndexAddr oIndex oLoad oStore oSlice oMakeSlice oCall oBuildSlice opd opds optOpd plain plain1 Tr.get_set tmOf builtinV binV isShift sameKind undef resultV resOne packV ltNat ltNum ltLst calleeV parts lss_nat unV DW grdOf heapOp LX isStore

set_option maxHeartbeats 2000000 in
theorem ownRef_spec {n0 : Nat} {H : AH} {b : Nat} {vs : List Value} {f : Nat → List Nat} (g : Grp n0 H b vs f) (hk : vs.length ≤ 1000) (hlen : ∀ i, (f i).length ≤ 8000000000000) :
    CW Try.prog cfg0 17 [.slice (some ⟨b, 0, none⟩) vs.length vs.length] H fun v H' => v = .bool true ∧ KA n0 H H' := by
  refine CW_intro 112 (by decide) (by decide) Try.func17 rfl rfl ?_
  have lenL : ∀ n, lenV Try.prog 62 (.slice (some ⟨b, 0, none⟩) n n) = some n := fun n => by unfold lenV; rw [uLL]
  apply W_seq; intro b1 hb1
  apply W_region
  simp
  show W _ _ b1 _ _; subst hb1
  -- writing over
  refine W_thenK (fun s' => s'.k = 112 ∧ KA n0 H s'.H ∧ Grp n0 s'.H b vs (fillW f) ∧ s'.tm.get 0 = some (.slice (some ⟨b, 0, none⟩) vs.length vs.length)) ?_ ?_
  · intro Q'' hQ''
    apply W_seq; intro b2 hb2
    apply W_region
    simp [lenL]
    show W _ _ b2 _ _; subst hb2
    apply W_block
    refine W_loopK (fun m s' => s'.k = 112 ∧ KA n0 H s'.H ∧ ∃ i, m + i = vs.length ∧ Grp n0 s'.H b vs (fun j => if j < i then fillW f j else f j) ∧
      s'.tm.get 0 = some (.slice (some ⟨b, 0, none⟩) vs.length vs.length) ∧ s'.tm.get 13 = some (.slice (some ⟨b, 0, none⟩) vs.length vs.length) ∧ s'.tm.get 14 = some (.int .i64 (vs.length : Int)) ∧ s'.tm.get 15 = some (.int .i64 (i : Int))) ?_ vs.length _
      ⟨rfl, .refl _ _, 0, by omega, by simpa using g, by simp, by simp, by simp, by simp⟩
    rintro m ⟨k, tm, H2⟩ ⟨hk', ka, i, hmi, g2, t0, t13, t14, t15⟩ Q' hQ'
    simp only at hk' ka g2 t0 t13 t14 t15
    subst hk'
    apply W_seq; intro b3 hb3
    apply W_region
    simp [t14, t15]
    show W _ _ b3 _ _; subst hb3
    apply W_seq; intro b3 hb3
    by_cases hi : i < vs.length
    · refine W_cond (t := true) (by simp [hi]) ?_
      apply W_skip
      show W _ _ b3 _ _; subst hb3
      have a1 := g2.adr (k := .i64) hi
      have d1 := g2.load hi
      obtain ⟨v, hv⟩ : ∃ v, v = vs[i] := ⟨_, rfl⟩
      have gi : vs[i]? = some v := by rw [hv]; exact List.getElem?_eq_getElem hi
      rw [← hv] at d1
      have ov := g2.own i v gi
      rw [if_neg (Nat.lt_irrefl i)] at ov
      have lv := ov.sl.len ltLst
      obtain ⟨c, hc⟩ : ∃ c, c = i % 251 + 1 := ⟨_, rfl⟩
      have cB : c < B64 := by rw [hc]; show _ < 18446744073709551616; omega
      apply W_seq; intro b3 hb3
      apply W_block
      apply W_seq; intro b4 hb4
      apply W_region
      simp [t13, t15, a1, d1]
      show W _ _ b4 _ _; subst hb4
      apply W_seq; intro b4 hb4
      apply W_region
      simp [lv]
      show W _ _ b4 _ _; subst hb4
      apply W_block
      refine W_loopK (fun m s' => s'.k = 112 ∧ KA n0 H2 s'.H ∧ But (vblk v) H2 s'.H ∧ ∃ j, m + j = (f i).length ∧ Own n0 s'.H v (List.replicate j c ++ (f i).drop j) ∧
        s'.tm.get 0 = some (.slice (some ⟨b, 0, none⟩) vs.length vs.length) ∧ s'.tm.get 13 = some (.slice (some ⟨b, 0, none⟩) vs.length vs.length) ∧ s'.tm.get 14 = some (.int .i64 (vs.length : Int)) ∧ s'.tm.get 15 = some (.int .i64 (i : Int)) ∧
        s'.tm.get 3 = some (.int .i64 (i : Int)) ∧ s'.tm.get 4 = some v ∧ s'.tm.get 21 = some (.int .i64 ((f i).length : Int)) ∧ s'.tm.get 22 = some (.int .i64 (j : Int))) ?_ (f i).length _
        ⟨rfl, .refl _ _, .refl _ _, 0, by omega, by simpa using ov, by simp [t0], by simp [t13], by simp [t14], by simp [t15], by simp, by simp, by simp, by simp⟩
      clear t0 t13 t14 t15
      rintro m2 ⟨k, tm, H3⟩ ⟨hk', ka3, bt3, j, hmj, o3, t0, t13, t14, t15, t3, t4, t21, t22⟩ Q5 hQ5
      simp only at hk' ka3 bt3 o3 t0 t13 t14 t15 t3 t4 t21 t22
      subst hk'
      apply W_seq; intro b5 hb5
      apply W_region
      simp [t21, t22]
      show W _ _ b5 _ _; subst hb5
      apply W_seq; intro b5 hb5
      by_cases hj : j < (f i).length
      · refine W_cond (t := true) (by simp [hj]) ?_
        apply W_skip
        show W _ _ b5 _ _; subst hb5
        have a2 := o3.sl.adr ltLst (k := .i64) (i := j) (by simp; omega)
        have r1 : intBin .add .i64 ((i % 251 : Nat) : Int) 1 = some (.int .i64 (c : Int)) := by rw [hc]; exact add1_i64 (by omega)
        obtain ⟨H4, st4, o4, n4, b4', ka4⟩ := o3.put (i := j) (by simp; omega) c
        rw [List.drop_eq_getElem_cons hj, set_mid _ _ _ _ (by simp)] at o4
        apply W_seq; intro b5 hb5
        apply W_block
        apply W_seq; intro b6 hb6
        apply W_region
        simp [t22]
        show W _ _ b6 _ _; subst hb6
        apply W_region
        simp [t3, t4, rem251, r1, conv_iu cB, a2, st4]
        show W _ _ b5 _ _; subst hb5
        apply W_region
        simp [t22, add1_i64 (x := j) (by have := hlen i; omega)]
        apply hQ5
        refine ⟨m2 - 1, by omega, rfl, ka3.trans ka4, bt3.trans ⟨n4, fun q _ hq => b4' q hq⟩, j + 1, by omega, ?_, by simp [t0], by simp [t13], by simp [t14], by simp [t15], by simp [t3], by simp [t4], by simp [t21], by simp⟩
        rw [List.replicate_succ']
        simpa using o4
      · refine W_cond (t := false) (by simp [hj]) ?_
        apply W_exit
        apply hQ5
        left
        refine ⟨rfl, ?_⟩
        show W _ _ b3 _ _; subst hb3
        obtain rfl : j = (f i).length := by omega
        rw [List.drop_length, List.append_nil] at o3
        apply W_region
        simp [t15, add1_i64 (x := i) (by omega)]
        apply hQ'
        refine ⟨m - 1, by omega, rfl, ka.trans ka3, i + 1, by omega, ?_, by simp [t0], by simp [t13], by simp [t14], by simp⟩
        have g3 := g2.step hi (by rw [← hv]; exact bt3) (by rw [← hv]; exact o3)
        have : (fun j => if j = i then List.replicate (f i).length c else if j < i then fillW f j else f j) = fun j => if j < i + 1 then fillW f j else f j := by
          funext j
          by_cases e : j = i
          · subst e; rw [if_pos rfl, if_pos (by omega)]; unfold fillW; rw [hc]
          · rw [if_neg e]
            by_cases e2 : j < i
            · rw [if_pos e2, if_pos (by omega)]
            · rw [if_neg e2, if_neg (by omega)]
        rw [this] at g3
        exact g3
    · refine W_cond (t := false) (by simp [hi]) ?_
      apply W_exit
      apply hQ'
      left
      refine ⟨rfl, hQ'' _ ⟨rfl, ka, ⟨g2.lo, g2.hi, g2.blk, fun j v hj => ?_, g2.ap, g2.out⟩, by simp [t0]⟩⟩
      have := g2.own j v hj
      rwa [if_pos (by have := (List.getElem?_eq_some_iff.mp hj).1; omega)] at this
  rintro ⟨k, tm, H2⟩ ⟨hk', ka, g2, t0⟩
  simp only at hk' ka g2 t0
  subst hk'
  -- growing
  have flen : ∀ i, (fillW f i).length = (f i).length := fun i => by unfold fillW; simp
  refine W_thenK (fun s' => s'.k = 112 ∧ KA n0 H s'.H ∧ ∃ vs' : List Value, vs'.length = vs.length ∧ Grp n0 s'.H b vs' (growW f) ∧ s'.tm.get 0 = some (.slice (some ⟨b, 0, none⟩) vs.length vs.length)) ?_ ?_
  · intro Q'' hQ''
    apply W_seq; intro b2 hb2
    apply W_region
    simp [t0, lenL]
    show W _ _ b2 _ _; subst hb2
    apply W_block
    refine W_loopK (fun m s' => s'.k = 112 ∧ KA n0 H s'.H ∧ ∃ (i : Nat) (vs' : List Value), m + i = vs.length ∧ vs'.length = vs.length ∧ Grp n0 s'.H b vs' (fun j => if j < i then growW f j else fillW f j) ∧
      s'.tm.get 0 = some (.slice (some ⟨b, 0, none⟩) vs.length vs.length) ∧ s'.tm.get 34 = some (.slice (some ⟨b, 0, none⟩) vs.length vs.length) ∧ s'.tm.get 35 = some (.int .i64 (vs.length : Int)) ∧ s'.tm.get 36 = some (.int .i64 (i : Int))) ?_ vs.length _
      ⟨rfl, ka, 0, vs, by omega, rfl, by simpa using g2, by simp [t0], by simp [t0], by simp, by simp⟩
    clear t0 g2 ka
    rintro m ⟨k, tm, H3⟩ ⟨hk', ka, i, vs', hmi, hvs, g2, t0, t34, t35, t36⟩ Q' hQ'
    simp only at hk' ka g2 t0 t34 t35 t36
    subst hk'
    rw [← hvs] at t0 t34
    apply W_seq; intro b3 hb3
    apply W_region
    simp [t35, t36]
    show W _ _ b3 _ _; subst hb3
    apply W_seq; intro b3 hb3
    by_cases hi : i < vs.length
    · refine W_cond (t := true) (by simp [hi]) ?_
      apply W_skip
      show W _ _ b3 _ _; subst hb3
      have hi' : i < vs'.length := by omega
      have a1 := g2.adr (k := .i64) hi'
      have d1 := g2.load hi'
      obtain ⟨v, hv⟩ : ∃ v, v = vs'[i] := ⟨_, rfl⟩
      have gi : vs'[i]? = some v := by rw [hv]; exact List.getElem?_eq_getElem hi'
      rw [← hv] at d1
      have ov := g2.own i v gi
      rw [if_neg (Nat.lt_irrefl i)] at ov
      obtain ⟨c, hc⟩ : ∃ c, c = 300 + 5 * i := ⟨_, rfl⟩
      have cB : c < 6000 := by omega
      have r1 : intBin .mul .i64 5 (i : Int) = some (.int .i64 ((5 * i : Nat) : Int)) := mul5 (by omega)
      have r2 : intBin .add .i64 300 ((5 * i : Nat) : Int) = some (.int .i64 (c : Int)) := by rw [hc]; exact add300 (by omega)
      have u1 : intBin .add .u64 (c : Int) 1 = some (.int .u64 ((c + 1 : Nat) : Int)) := addu (y := 1) (by show _ < 18446744073709551616; omega)
      have u2 : intBin .add .u64 (c : Int) 2 = some (.int .u64 ((c + 2 : Nat) : Int)) := addu (y := 2) (by show _ < 18446744073709551616; omega)
      have u3 : intBin .add .u64 (c : Int) 3 = some (.int .u64 ((c + 3 : Nat) : Int)) := addu (y := 3) (by show _ < 18446744073709551616; omega)
      have u4 : intBin .add .u64 (c : Int) 4 = some (.int .u64 ((c + 4 : Nat) : Int)) := addu (y := 4) (by show _ < 18446744073709551616; omega)
      have cv : convV Try.prog 3 55 (.int .i64 (c : Int)) = some (.int .u64 (c : Int)) := conv_iu (by show _ < 18446744073709551616; omega)
      have hb5 := build5_own H3 c (c + 1) (c + 2) (c + 3) (c + 4)
      obtain ⟨N, hN⟩ : ∃ N, N = H3.new 1 ([c, c + 1, c + 2, c + 3, c + 4].map limb) := ⟨_, rfl⟩
      have kN : Keep H3 N := by rw [hN]; exact .new _ _ _
      have oN : Own H3.n N (.slice (some ⟨H3.n, 0, none⟩) 5 5) [c, c + 1, c + 2, c + 3, c + 4] := by rw [hN]; exact Own.new H3 [c, c + 1, c + 2, c + 3, c + 4]
      rw [← hN] at hb5
      have gN : n0 ≤ N.n := by have := g2.lo; have := g2.hi; have := kN.n; omega
      obtain ⟨v', H4, hap, o4, md4, ka4⟩ := (ov.mono (Nat.le_refl _) kN).appendN gN oN.sl (by simp) (by rw [flen]; have := hlen i; simp; omega) ltLst ltLst
      have md : Mod (vblk vs'[i]) H3 H4 := by rw [← hv]; exact kN.mod.any.trans md4
      obtain ⟨H5, st5, g5, ka5⟩ := g2.put hi' md (o4.mono kN.n (.refl _))
      have kaN : KA n0 H3 N := fun H0 k _ => k.trans kN
      apply W_seq; intro b3 hb3
      apply W_block
      apply W_seq; intro b4 hb4
      apply W_region
      simp [t34, t36, a1, d1]
      show W _ _ b4 _ _; subst hb4
      apply W_seq; intro b4 hb4
      apply W_region
      simp [r1, r2, cv]
      show W _ _ b4 _ _; subst hb4
      apply W_seq; intro b4 hb4
      apply W_region
      simp [u1, u2, u3, u4, hb5, hap]
      show W _ _ b4 _ _; subst hb4
      apply W_region
      simp [t0, a1, st5]
      show W _ _ b3 _ _; subst hb3
      apply W_region
      simp [t36, add1_i64 (x := i) (by omega)]
      apply hQ'
      refine ⟨m - 1, by omega, rfl, ((ka.trans kaN).trans ka4).trans ka5, i + 1, vs'.set i v', by omega, by simp [hvs], ?_, by simp [t0, hvs], by simp [t34, hvs], by simp [t35], by simp⟩
      have : (fun j => if j = i then fillW f i ++ [c, c + 1, c + 2, c + 3, c + 4] else if j < i then growW f j else fillW f j) = fun j => if j < i + 1 then growW f j else fillW f j := by
        funext j
        by_cases e : j = i
        · subst e; rw [if_pos rfl, if_pos (by omega)]; unfold growW; rw [hc]
        · rw [if_neg e]
          by_cases e2 : j < i
          · rw [if_pos e2, if_pos (by omega)]
          · rw [if_neg e2, if_neg (by omega)]
      rw [this] at g5
      exact g5
    · refine W_cond (t := false) (by simp [hi]) ?_
      apply W_exit
      apply hQ'
      left
      refine ⟨rfl, hQ'' _ ⟨rfl, ka, vs', hvs, ⟨g2.lo, g2.hi, g2.blk, fun j v hj => ?_, g2.ap, g2.out⟩, by simp [t0, hvs]⟩⟩
      have := g2.own j v hj
      rwa [if_pos (by have := (List.getElem?_eq_some_iff.mp hj).1; omega)] at this
  clear t0 g2 ka
  rintro ⟨k, tm, H3⟩ ⟨hk', ka, vs', hvs, g2, t0⟩
  simp only at hk' ka g2 t0
  subst hk'
  -- looking
  apply W_seq; intro b1 hb1
  apply W_seq; intro b2 hb2
  apply W_region
  simp [t0, lenL]
  show W _ _ b2 _ _; subst hb2
  apply W_block
  refine W_loopK (fun m s' => s'.k = 112 ∧ s'.H = H3 ∧ ∃ i, m + i = vs.length ∧ s'.tm.get 62 = some (.slice (some ⟨b, 0, none⟩) vs'.length vs'.length) ∧ s'.tm.get 63 = some (.int .i64 (vs.length : Int)) ∧ s'.tm.get 64 = some (.int .i64 (i : Int))) ?_ vs.length _
    ⟨rfl, rfl, 0, by omega, by simp [t0, hvs], by simp, by simp⟩
  clear t0
  rintro m ⟨k, tm, H4⟩ ⟨hk', hH, i, hmi, t62, t63, t64⟩ Q' hQ'
  simp only at hk' hH t62 t63 t64
  subst hk'; subst hH
  apply W_seq; intro b3 hb3
  apply W_region
  simp [t63, t64]
  show W _ _ b3 _ _; subst hb3
  apply W_seq; intro b3 hb3
  by_cases hi : i < vs.length
  · refine W_cond (t := true) (by simp [hi]) ?_
    apply W_skip
    show W _ _ b3 _ _; subst hb3
    have hi' : i < vs'.length := by omega
    have a1 := g2.adr (k := .i64) hi'
    have d1 := g2.load hi'
    obtain ⟨v, hv⟩ : ∃ v, v = vs'[i] := ⟨_, rfl⟩
    have gi : vs'[i]? = some v := by rw [hv]; exact List.getElem?_eq_getElem hi'
    rw [← hv] at d1
    have ov := (g2.own i v gi).sl
    have lv := ov.len ltLst
    obtain ⟨L, hL⟩ : ∃ L, L = (f i).length := ⟨_, rfl⟩
    have hgl : (growW f i).length = L + 5 := by unfold growW; simp [flen, hL]
    have hLb : L ≤ 8000000000000 := by rw [hL]; exact hlen i
    rw [hgl] at lv
    have s5 : intBin .sub .i64 ((L + 5 : Nat) : Int) 5 = some (.int .i64 (L : Int)) := sub5_i64 (x := L + 5) (by omega) (by omega)
    apply W_seq; intro b3 hb3
    apply W_block
    apply W_seq; intro b4 hb4
    apply W_region
    simp [t62, t64, a1, d1]
    show W _ _ b4 _ _; subst hb4
    apply W_seq; intro b4 hb4
    apply W_region
    simp [lv]
    show W _ _ b4 _ _; subst hb4
    apply W_block
    refine W_loopK (fun m s' => s'.k = 112 ∧ s'.H = H4 ∧ ∃ j, m + j = L + 5 ∧ s'.tm.get 62 = some (.slice (some ⟨b, 0, none⟩) vs'.length vs'.length) ∧ s'.tm.get 63 = some (.int .i64 (vs.length : Int)) ∧ s'.tm.get 64 = some (.int .i64 (i : Int)) ∧
      s'.tm.get 9 = some (.int .i64 (i : Int)) ∧ s'.tm.get 10 = some v ∧ s'.tm.get 69 = some v ∧ s'.tm.get 70 = some (.int .i64 ((L + 5 : Nat) : Int)) ∧ s'.tm.get 71 = some (.int .i64 (j : Int))) ?_ (L + 5) _
      ⟨rfl, rfl, 0, by omega, by simp [t62], by simp [t63], by simp [t64], by simp, by simp, by simp, by simp, by simp⟩
    clear t62 t63 t64
    rintro m2 ⟨k, tm, H5⟩ ⟨hk', hH, j, hmj, t62, t63, t64, t9, t10, t69, t70, t71⟩ Q5 hQ5
    simp only at hk' hH t62 t63 t64 t9 t10 t69 t70 t71
    subst hk'; subst hH
    apply W_seq; intro b5 hb5
    apply W_region
    simp [t70, t71]
    show W _ _ b5 _ _; subst hb5
    apply W_seq; intro b5 hb5
    by_cases hj : j < L + 5
    · refine W_cond (t := true) (by simp [hj]) ?_
      apply W_skip
      show W _ _ b5 _ _; subst hb5
      have a2 := ov.adr ltLst (k := .i64) (i := j) (by omega)
      have d2 := ov.load (i := j) (by omega)
      apply W_seq; intro b5 hb5
      apply W_block
      apply W_seq; intro b6 hb6
      apply W_region
      simp [t69, t71, a2, d2]
      show W _ _ b6 _ _; subst hb6
      have fin : ∀ tm' : Tr Value, tm'.get 62 = some (.slice (some ⟨b, 0, none⟩) vs'.length vs'.length) → tm'.get 63 = some (.int .i64 (vs.length : Int)) → tm'.get 64 = some (.int .i64 (i : Int)) →
          tm'.get 9 = some (.int .i64 (i : Int)) → tm'.get 10 = some v → tm'.get 69 = some v → tm'.get 70 = some (.int .i64 ((L + 5 : Nat) : Int)) → tm'.get 71 = some (.int .i64 (j : Int)) → W Try.prog cfg0 b5 ⟨112, tm', H5⟩ Q5 := fun tm' t62 t63 t64 t9 t10 t69 t70 t71 => by
        subst hb5
        apply W_region
        simp [t71, add1_i64 (x := j) (by omega)]
        apply hQ5
        exact ⟨m2 - 1, by omega, rfl, rfl, j + 1, by omega, by simp [t62], by simp [t63], by simp [t64], by simp [t9], by simp [t10], by simp [t69], by simp [t70], by simp⟩
      apply W_seq; intro b6 hb6
      apply W_region
      by_cases hjL : j < L
      · obtain ⟨c, hc⟩ : ∃ c, c = i % 251 + 1 := ⟨_, rfl⟩
        have hx : (growW f i)[j]'(by omega) = c := by
          unfold growW
          rw [List.getElem_append_left (by rw [flen]; omega)]
          unfold fillW
          rw [List.getElem_replicate, hc]
        have r1 : intBin .add .i64 ((i % 251 : Nat) : Int) 1 = some (.int .i64 (c : Int)) := by rw [hc]; exact add1_i64 (by omega)
        have cv : convV Try.prog 3 55 (.int .i64 (c : Int)) = some (.int .u64 (c : Int)) := conv_iu (by rw [hc]; show _ < 18446744073709551616; omega)
        have ng : ¬ L ≤ j := by omega
        simp [t9, t10, hx, lv, s5, hjL, rem251, r1, cv, neq_nat, geq_nat, ng]
        show W _ _ b6 _ _; subst hb6
        refine W_cond (t := false) (by simp) ?_
        apply W_skip
        show W _ _ b5 _ _
        exact fin _ (by simp [t62]) (by simp [t63]) (by simp [t64]) (by simp [t9]) (by simp [t10]) (by simp [t69]) (by simp [t70]) (by simp [t71])
      · obtain ⟨d, hjd⟩ : ∃ d, j = L + d := ⟨j - L, by omega⟩
        have hd : d < 5 := by omega
        obtain ⟨c, hc⟩ : ∃ c, c = 300 + 5 * i + d := ⟨_, rfl⟩
        have hx? : (growW f i)[j]? = some c := by
          rw [hjd]
          unfold growW
          rw [List.getElem?_append_right (by rw [flen]; omega)]
          have e : L + d - (fillW f i).length = d := by rw [flen]; omega
          have : d = 0 ∨ d = 1 ∨ d = 2 ∨ d = 3 ∨ d = 4 := by omega
          rw [e]
          rcases this with rfl | rfl | rfl | rfl | rfl <;> simp [hc]
        have hx : (growW f i)[j]'(by omega) = c := Option.some.inj ((List.getElem?_eq_getElem (by omega)).symm.trans hx?)
        have r1 : intBin .mul .i64 5 (i : Int) = some (.int .i64 ((5 * i : Nat) : Int)) := mul5 (by omega)
        have r2 : intBin .add .i64 300 ((5 * i : Nat) : Int) = some (.int .i64 ((300 + 5 * i : Nat) : Int)) := add300 (by omega)
        have r3 : intBin .add .i64 ((300 + 5 * i : Nat) : Int) (j : Int) = some (.int .i64 ((300 + 5 * i + j : Nat) : Int)) := add_i64 (by omega)
        have r4 : intBin .sub .i64 ((300 + 5 * i + j : Nat) : Int) ((L + 5 : Nat) : Int) = some (.int .i64 ((300 + 5 * i + j - (L + 5) : Nat) : Int)) := sub_i64 (by omega) (by omega)
        have r5 : intBin .add .i64 ((300 + 5 * i + j - (L + 5) : Nat) : Int) 5 = some (.int .i64 (c : Int)) := by
          rw [add5_i64 (by omega), hc]
          have : 300 + 5 * i + j - (L + 5) + 5 = 300 + 5 * i + d := by omega
          rw [this]
        have cv : convV Try.prog 3 55 (.int .i64 (c : Int)) = some (.int .u64 (c : Int)) := conv_iu (by rw [hc]; show _ < 18446744073709551616; omega)
        have ng : L ≤ j := by omega
        simp [t9, t10, hx, lv, s5, hjL, r1, r2, r3, r4, r5, cv, neq_nat, geq_nat, ng]
        show W _ _ b6 _ _; subst hb6
        refine W_cond (t := false) (by simp) ?_
        apply W_skip
        show W _ _ b5 _ _
        exact fin _ (by simp [t62]) (by simp [t63]) (by simp [t64]) (by simp [t9]) (by simp [t10]) (by simp [t69]) (by simp [t70]) (by simp [t71])
    · refine W_cond (t := false) (by simp [hj]) ?_
      apply W_exit
      apply hQ5
      left
      refine ⟨rfl, ?_⟩
      show W _ _ b3 _ _; subst hb3
      apply W_region
      simp [t64, add1_i64 (x := i) (by omega)]
      apply hQ'
      exact ⟨m - 1, by omega, rfl, rfl, i + 1, by omega, by simp [t62], by simp [t63], by simp⟩
  · refine W_cond (t := false) (by simp [hi]) ?_
    apply W_exit
    apply hQ'
    left
    refine ⟨rfl, ?_⟩
    show W _ _ b1 _ _; subst hb1
    apply W_seq; intro b4 hb4
    apply W_region
    simp
    show W _ _ b4 _ _; subst hb4
    apply W_ret
    simp
    exact ka
end
end Go.Proofs.Ytldapilhmmbjhaa
