/-
  The engine and the walks that the claim's last text leans on, part 4 of 5: Og, Oh, Oi, Oj, Ok, Pa, Pb, Pc, Pd, Pe, Pf, Splits, Boths, Pg.
-/
import Derived.Test.YtldapilhmmbjhaaM3

/-
  surdref01.Own: lists of their own memory can be written over and grow without touching each other.
-/
namespace Go.Proofs.Ytldapilhmmbjhaa
open Go Ev
set_option linter.unusedVariables false
set_option linter.unusedSimpArgs false
noncomputable section

theorem uLL : Try.prog.underlying 62 = some (.slice 23) := by kernel_rfl
theorem sLst : sizeT Try.prog 23 = some 1 := by kernel_rfl
theorem aLst : isAggT Try.prog 23 = some false := by kernel_rfl

/-- Some lists, each in its own memory, and the list of them. -/
structure Grp (n0 : Nat) (H : AH) (b : Nat) (vs : List Value) (f : Nat → List Nat) : Prop where
  lo : n0 ≤ b
  hi : b < H.n
  blk : H.blk b = .rw 1 vs
  own : ∀ (i : Nat) (v : Value), vs[i]? = some v → Own n0 H v (f i)
  ap : ∀ (i j : Nat) (v w : Value), i ≠ j → vs[i]? = some v → vs[j]? = some w → Apart v w
  out : ∀ (i : Nat) (v : Value), vs[i]? = some v → vblk v ≠ some b

theorem Own.isSlice {n0 : Nat} {H : AH} {v : Value} {xs : List Nat} (h : Own n0 H v xs) : v.cells = #[v] ∧ one v = true := by
  cases h <;> exact ⟨rfl, rfl⟩

section
variable {n0 : Nat} {H : AH} {b : Nat} {vs : List Value} {f : Nat → List Nat}

theorem Grp.adr (g : Grp n0 H b vs f) {k : IntKind} {i : Nat} (hi : i < vs.length) : indexAddrV Try.prog 62 (.slice (some ⟨b, 0, none⟩) vs.length vs.length) (.int k (i : Int)) = some (.pointer (some ⟨b, i, none⟩)) := by
  unfold indexAddrV
  simp only [uLL, sLst]
  rw [if_pos (by omega)]
  simp

theorem Grp.load (g : Grp n0 H b vs f) {i : Nat} (hi : i < vs.length) : loadV Try.prog H 23 (.pointer (some ⟨b, i, none⟩)) = some vs[i] := by
  unfold loadV
  simp only [aLst]
  unfold AH.cells
  rw [g.blk]
  exact List.getElem?_eq_getElem hi

/-- One list changes in its own memory. -/
theorem Grp.step (g : Grp n0 H b vs f) {H' : AH} {i : Nat} (hi : i < vs.length) {ys : List Nat} (bt : But (vblk vs[i]) H H') (o : Own n0 H' vs[i] ys) : Grp n0 H' b vs (fun j => if j = i then ys else f j) := by
  have gi : vs[i]? = some vs[i] := List.getElem?_eq_getElem hi
  refine ⟨g.lo, by rw [bt.n]; exact g.hi, by rw [bt.blk b g.hi (g.out i _ gi)]; exact g.blk, fun j v hj => ?_, g.ap, g.out⟩
  by_cases e : j = i
  · subst e
    rw [if_pos rfl]
    obtain rfl := Option.some.inj (gi.symm.trans hj)
    exact o
  · rw [if_neg e]
    exact (g.own j v hj).but bt fun c hc => g.ap i j _ _ (Ne.symm e) gi hj c hc
end

/-- A store of a list into the list of lists. -/
theorem Grp.put {n0 : Nat} {H H4 : AH} {b : Nat} {vs : List Value} {f : Nat → List Nat} (g : Grp n0 H b vs f) {i : Nat} (hi : i < vs.length) {v' : Value} {ys : List Nat} (md : Mod (vblk vs[i]) H H4) (o : Own H.n H4 v' ys) :
    ∃ H5, storeV Try.prog H4 23 (.pointer (some ⟨b, i, none⟩)) v' = some H5 ∧ Grp n0 H5 b (vs.set i v') (fun j => if j = i then ys else f j) ∧ KA n0 H4 H5 := by
  have gi : vs[i]? = some vs[i] := List.getElem?_eq_getElem hi
  obtain ⟨c1, c2⟩ := o.isSlice
  have hbk : H4.blk b = .rw 1 vs := by rw [md.blk b g.hi (g.out i _ gi)]; exact g.blk
  have hle : Nat.ble (i + 1) vs.length = true := Nat.ble_eq.mpr (by omega)
  have hw : H4.write b i [v'] = some { n := H4.n, lw := min H4.lw b, t := H4.t.set b (.rw 1 (vs.take i ++ [v'] ++ vs.drop (i + 1))) } := by
    rw [AH.write_def, hbk]
    simp only [List.length_singleton, hle, List.all_cons, c2, List.all_nil, Bool.and_self, cond_true]
  have hset : vs.take i ++ [v'] ++ vs.drop (i + 1) = vs.set i v' := by
    rw [List.set_eq_take_append_cons_drop, if_pos hi]; simp
  rw [hset] at hw
  obtain ⟨H5, hH5⟩ : ∃ H5 : AH, H5 = { n := H4.n, lw := min H4.lw b, t := H4.t.set b (.rw 1 (vs.set i v')) } := ⟨_, rfl⟩
  rw [← hH5] at hw
  have n5 : H5.n = H4.n := by rw [hH5]
  have b5 : H5.blk b = .rw 1 (vs.set i v') := by rw [hH5]; unfold AH.blk; simp only [Tr.get_set, if_true]
  have o5 : ∀ j, j ≠ b → H5.blk j = H4.blk j := fun j hj => by rw [hH5]; unfold AH.blk; simp only [Tr.get_set, if_neg hj]
  have bt5 : But (some b) H4 H5 := ⟨n5, fun j _ hj => o5 j (fun e => hj (by rw [e]))⟩
  have hbn : b < H.n := g.hi
  have hn4 := md.n
  have far : ∀ c, vblk v' = some c → H.n ≤ c := fun c hc => (o.blk_lo hc).1
  refine ⟨H5, ?_, ⟨g.lo, by rw [n5]; omega, b5, ?_, ?_, ?_⟩, ?_⟩
  · unfold storeV
    simp only [sLst, c1]
    rw [show Nat.beq (#[v'] : Array Value).size 1 = true from rfl, cond_true]
    exact hw
  · intro j v hj
    rw [List.getElem?_set] at hj
    by_cases e : i = j
    · subst e
      rw [if_pos rfl, if_pos hi] at hj
      cases hj
      rw [if_pos rfl]
      exact (o.mono (by have := g.lo; omega) (.refl _)).but bt5 fun c hc hv => by
        cases hc
        have := far _ hv
        omega
    · rw [if_neg e] at hj
      rw [if_neg (Ne.symm e)]
      exact ((g.own j v hj).mod md fun c hc => g.ap i j _ _ e gi hj c hc).but bt5 fun c hc hv => by cases hc; exact g.out j v hj hv
  · intro j k v w hjk hj hk c hc hc'
    rw [List.getElem?_set] at hj hk
    by_cases e : i = j
    · subst e
      rw [if_pos rfl, if_pos hi] at hj
      cases hj
      rw [if_neg hjk] at hk
      have h1 := far _ hc
      have h2 := ((g.own k w hk).blk_lo hc').2
      omega
    · rw [if_neg e] at hj
      by_cases e2 : i = k
      · subst e2
        rw [if_pos rfl, if_pos hi] at hk
        cases hk
        have h1 := far _ hc'
        have h2 := ((g.own j v hj).blk_lo hc).2
        omega
      · rw [if_neg e2] at hk
        exact g.ap j k v w hjk hj hk c hc hc'
  · intro j v hj hv
    rw [List.getElem?_set] at hj
    by_cases e : i = j
    · subst e
      rw [if_pos rfl, if_pos hi] at hj
      cases hj
      have := far _ hv
      omega
    · rw [if_neg e] at hj
      exact g.out j v hj hv
  · intro H0 k hn
    have := k.lw
    have := g.lo
    refine ⟨by rw [n5]; exact k.n, by rw [hH5]; show min H0.lw H0.n ≤ min H4.lw b; omega, fun j hj => ?_⟩
    rw [o5 j (by omega)]
    exact k.blk j hj

theorem build5_own (H : AH) (a b c d e : Nat) : buildSliceV Try.prog H 23 5 [(0, .int .u64 (a : Int)), (1, .int .u64 (b : Int)), (2, .int .u64 (c : Int)), (3, .int .u64 (d : Int)), (4, .int .u64 (e : Int))] = some (.slice (some ⟨H.n, 0, none⟩) 5 5, H.new 1 ([a, b, c, d, e].map limb)) := by
  unfold buildSliceV
  simp only [tLst, zU64]
  kernel_rfl

theorem conv_iu {n : Nat} (h : n < B64) : convV Try.prog 3 55 (.int .i64 (n : Int)) = some (.int .u64 (n : Int)) := by
  have h : n < 18446744073709551616 := h
  have e : IntKind.u64.wrap (n : Int) = (n : Int) := by rw [IntKind.wrap_u64]; omega
  unfold convV
  simp only [Try.underlying3, Try.underlying55, e]

theorem rem251 {x : Nat} : intBin .rem .i64 (x : Int) 251 = some (.int .i64 ((x % 251 : Nat) : Int)) := rem_i64 (y := 251) (by decide)
theorem mul5 {x : Nat} (h : 5 * x < 9223372036854775808) : intBin .mul .i64 5 (x : Int) = some (.int .i64 ((5 * x : Nat) : Int)) := mul_i64 (x := 5) h
theorem add300 {x : Nat} (h : 300 + x < 9223372036854775808) : intBin .add .i64 300 (x : Int) = some (.int .i64 ((300 + x : Nat) : Int)) := add_i64 (x := 300) h
theorem addu {x y : Nat} (h : x + y < B64) : intBin .add .u64 (x : Int) (y : Int) = some (.int .u64 ((x + y : Nat) : Int)) := add_u64_lt h
theorem sub5_i64 {x : Nat} (h : x < 9223372036854775808) (hx : 5 ≤ x) : intBin .sub .i64 (x : Int) 5 = some (.int .i64 ((x - 5 : Nat) : Int)) := sub_i64 (y := 5) h hx
theorem add5_i64 {x : Nat} (h : x < 9223372036854775800) : intBin .add .i64 (x : Int) 5 = some (.int .i64 ((x + 5 : Nat) : Int)) := add_i64 (y := 5) (by omega)

/-- What stands in the i-th list behind the writing over, and behind the growing. -/
def fillW (f : Nat → List Nat) (i : Nat) : List Nat := List.replicate (f i).length (i % 251 + 1)
def growW (f : Nat → List Nat) (i : Nat) : List Nat := fillW f i ++ [300 + 5 * i, 300 + 5 * i + 1, 300 + 5 * i + 2, 300 + 5 * i + 3, 300 + 5 * i + 4]

attribute [-simp] Int.natCast_add Int.natCast_mul Int.natCast_ediv Int.natCast_emod Int.natCast_pow
attribute [local simp] strip stripL LW' LR gW evOp oMove oAssign oPick oBinOp oUnOp oConvert oExtract oIndexAddr oIndex oLoad oStore oSlice oMakeSlice oCall oBuildSlice opd opds optOpd plain plain1 Tr.get_set tmOf builtinV binV isShift sameKind undef resultV resOne packV ltNat ltNum ltLst calleeV parts lss_nat unV DW grdOf heapOp LX isStore

set_option maxHeartbeats 2000000 in
theorem ownRef_spec {n0 : Nat} {H : AH} {b : Nat} {vs : List Value} {f : Nat → List Nat} (g : Grp n0 H b vs f) (hk : vs.length ≤ 1000) (hlen : ∀ i, (f i).length ≤ 8000000000000) :
    CW Try.prog cfg0 17 [.slice (some ⟨b, 0, none⟩) vs.length vs.length] H fun v H' => v = .bool true ∧ KA n0 H H' := by
  refine CW_intro 112 (by decide) (by decide) Try.func17 rfl rfl ?_
  have lenL : ∀ n, lenV Try.prog 62 (.slice (some ⟨b, 0, none⟩) n n) = some n := fun n => by unfold lenV; rw [uLL]
  apply W_seq; intro b1 hb1
  apply W_region
  simp
  show W _ _ b1 _ _; subst hb1
  -- writing over
  refine W_thenK (fun s' => s'.k = 112 ∧ KA n0 H s'.H ∧ Grp n0 s'.H b vs (fillW f) ∧ s'.tm.get 0 = some (.slice (some ⟨b, 0, none⟩) vs.length vs.length)) ?_ ?_
  · intro Q'' hQ''
    apply W_seq; intro b2 hb2
    apply W_region
    simp [lenL]
    show W _ _ b2 _ _; subst hb2
    apply W_block
    refine W_loopK (fun m s' => s'.k = 112 ∧ KA n0 H s'.H ∧ ∃ i, m + i = vs.length ∧ Grp n0 s'.H b vs (fun j => if j < i then fillW f j else f j) ∧
      s'.tm.get 0 = some (.slice (some ⟨b, 0, none⟩) vs.length vs.length) ∧ s'.tm.get 13 = some (.slice (some ⟨b, 0, none⟩) vs.length vs.length) ∧ s'.tm.get 14 = some (.int .i64 (vs.length : Int)) ∧ s'.tm.get 15 = some (.int .i64 (i : Int))) ?_ vs.length _
      ⟨rfl, .refl _ _, 0, by omega, by simpa using g, by simp, by simp, by simp, by simp⟩
    rintro m ⟨k, tm, H2⟩ ⟨hk', ka, i, hmi, g2, t0, t13, t14, t15⟩ Q' hQ'
    simp only at hk' ka g2 t0 t13 t14 t15
    subst hk'
    apply W_seq; intro b3 hb3
    apply W_region
    simp [t14, t15]
    show W _ _ b3 _ _; subst hb3
    apply W_seq; intro b3 hb3
    by_cases hi : i < vs.length
    · refine W_cond (t := true) (by simp [hi]) ?_
      apply W_skip
      show W _ _ b3 _ _; subst hb3
      have a1 := g2.adr (k := .i64) hi
      have d1 := g2.load hi
      obtain ⟨v, hv⟩ : ∃ v, v = vs[i] := ⟨_, rfl⟩
      have gi : vs[i]? = some v := by rw [hv]; exact List.getElem?_eq_getElem hi
      rw [← hv] at d1
      have ov := g2.own i v gi
      rw [if_neg (Nat.lt_irrefl i)] at ov
      have lv := ov.sl.len ltLst
      obtain ⟨c, hc⟩ : ∃ c, c = i % 251 + 1 := ⟨_, rfl⟩
      have cB : c < B64 := by rw [hc]; show _ < 18446744073709551616; omega
      apply W_seq; intro b3 hb3
      apply W_block
      apply W_seq; intro b4 hb4
      apply W_region
      simp [t13, t15, a1, d1]
      show W _ _ b4 _ _; subst hb4
      apply W_seq; intro b4 hb4
      apply W_region
      simp [lv]
      show W _ _ b4 _ _; subst hb4
      apply W_block
      refine W_loopK (fun m s' => s'.k = 112 ∧ KA n0 H2 s'.H ∧ But (vblk v) H2 s'.H ∧ ∃ j, m + j = (f i).length ∧ Own n0 s'.H v (List.replicate j c ++ (f i).drop j) ∧
        s'.tm.get 0 = some (.slice (some ⟨b, 0, none⟩) vs.length vs.length) ∧ s'.tm.get 13 = some (.slice (some ⟨b, 0, none⟩) vs.length vs.length) ∧ s'.tm.get 14 = some (.int .i64 (vs.length : Int)) ∧ s'.tm.get 15 = some (.int .i64 (i : Int)) ∧
        s'.tm.get 3 = some (.int .i64 (i : Int)) ∧ s'.tm.get 4 = some v ∧ s'.tm.get 21 = some (.int .i64 ((f i).length : Int)) ∧ s'.tm.get 22 = some (.int .i64 (j : Int))) ?_ (f i).length _
        ⟨rfl, .refl _ _, .refl _ _, 0, by omega, by simpa using ov, by simp [t0], by simp [t13], by simp [t14], by simp [t15], by simp, by simp, by simp, by simp⟩
      clear t0 t13 t14 t15
      rintro m2 ⟨k, tm, H3⟩ ⟨hk', ka3, bt3, j, hmj, o3, t0, t13, t14, t15, t3, t4, t21, t22⟩ Q5 hQ5
      simp only at hk' ka3 bt3 o3 t0 t13 t14 t15 t3 t4 t21 t22
      subst hk'
      apply W_seq; intro b5 hb5
      apply W_region
      simp [t21, t22]
      show W _ _ b5 _ _; subst hb5
      apply W_seq; intro b5 hb5
      by_cases hj : j < (f i).length
      · refine W_cond (t := true) (by simp [hj]) ?_
        apply W_skip
        show W _ _ b5 _ _; subst hb5
        have a2 := o3.sl.adr ltLst (k := .i64) (i := j) (by simp; omega)
        have r1 : intBin .add .i64 ((i % 251 : Nat) : Int) 1 = some (.int .i64 (c : Int)) := by rw [hc]; exact add1_i64 (by omega)
        obtain ⟨H4, st4, o4, n4, b4', ka4⟩ := o3.put (i := j) (by simp; omega) c
        rw [List.drop_eq_getElem_cons hj, set_mid _ _ _ _ (by simp)] at o4
        apply W_seq; intro b5 hb5
        apply W_block
        apply W_seq; intro b6 hb6
        apply W_region
        simp [t22]
        show W _ _ b6 _ _; subst hb6
        apply W_region
        simp [t3, t4, rem251, r1, conv_iu cB, a2, st4]
        show W _ _ b5 _ _; subst hb5
        apply W_region
        simp [t22, add1_i64 (x := j) (by have := hlen i; omega)]
        apply hQ5
        refine ⟨m2 - 1, by omega, rfl, ka3.trans ka4, bt3.trans ⟨n4, fun q _ hq => b4' q hq⟩, j + 1, by omega, ?_, by simp [t0], by simp [t13], by simp [t14], by simp [t15], by simp [t3], by simp [t4], by simp [t21], by simp⟩
        rw [List.replicate_succ']
        simpa using o4
      · refine W_cond (t := false) (by simp [hj]) ?_
        apply W_exit
        apply hQ5
        left
        refine ⟨rfl, ?_⟩
        show W _ _ b3 _ _; subst hb3
        obtain rfl : j = (f i).length := by omega
        rw [List.drop_length, List.append_nil] at o3
        apply W_region
        simp [t15, add1_i64 (x := i) (by omega)]
        apply hQ'
        refine ⟨m - 1, by omega, rfl, ka.trans ka3, i + 1, by omega, ?_, by simp [t0], by simp [t13], by simp [t14], by simp⟩
        have g3 := g2.step hi (by rw [← hv]; exact bt3) (by rw [← hv]; exact o3)
        have : (fun j => if j = i then List.replicate (f i).length c else if j < i then fillW f j else f j) = fun j => if j < i + 1 then fillW f j else f j := by
          funext j
          by_cases e : j = i
          · subst e; rw [if_pos rfl, if_pos (by omega)]; unfold fillW; rw [hc]
          · rw [if_neg e]
            by_cases e2 : j < i
            · rw [if_pos e2, if_pos (by omega)]
            · rw [if_neg e2, if_neg (by omega)]
        rw [this] at g3
        exact g3
    · refine W_cond (t := false) (by simp [hi]) ?_
      apply W_exit
      apply hQ'
      left
      refine ⟨rfl, hQ'' _ ⟨rfl, ka, ⟨g2.lo, g2.hi, g2.blk, fun j v hj => ?_, g2.ap, g2.out⟩, by simp [t0]⟩⟩
      have := g2.own j v hj
      rwa [if_pos (by have := (List.getElem?_eq_some_iff.mp hj).1; omega)] at this
  rintro ⟨k, tm, H2⟩ ⟨hk', ka, g2, t0⟩
  simp only at hk' ka g2 t0
  subst hk'
  -- growing
  have flen : ∀ i, (fillW f i).length = (f i).length := fun i => by unfold fillW; simp
  refine W_thenK (fun s' => s'.k = 112 ∧ KA n0 H s'.H ∧ ∃ vs' : List Value, vs'.length = vs.length ∧ Grp n0 s'.H b vs' (growW f) ∧ s'.tm.get 0 = some (.slice (some ⟨b, 0, none⟩) vs.length vs.length)) ?_ ?_
  · intro Q'' hQ''
    apply W_seq; intro b2 hb2
    apply W_region
    simp [t0, lenL]
    show W _ _ b2 _ _; subst hb2
    apply W_block
    refine W_loopK (fun m s' => s'.k = 112 ∧ KA n0 H s'.H ∧ ∃ (i : Nat) (vs' : List Value), m + i = vs.length ∧ vs'.length = vs.length ∧ Grp n0 s'.H b vs' (fun j => if j < i then growW f j else fillW f j) ∧
      s'.tm.get 0 = some (.slice (some ⟨b, 0, none⟩) vs.length vs.length) ∧ s'.tm.get 34 = some (.slice (some ⟨b, 0, none⟩) vs.length vs.length) ∧ s'.tm.get 35 = some (.int .i64 (vs.length : Int)) ∧ s'.tm.get 36 = some (.int .i64 (i : Int))) ?_ vs.length _
      ⟨rfl, ka, 0, vs, by omega, rfl, by simpa using g2, by simp [t0], by simp [t0], by simp, by simp⟩
    clear t0 g2 ka
    rintro m ⟨k, tm, H3⟩ ⟨hk', ka, i, vs', hmi, hvs, g2, t0, t34, t35, t36⟩ Q' hQ'
    simp only at hk' ka g2 t0 t34 t35 t36
    subst hk'
    rw [← hvs] at t0 t34
    apply W_seq; intro b3 hb3
    apply W_region
    simp [t35, t36]
    show W _ _ b3 _ _; subst hb3
    apply W_seq; intro b3 hb3
    by_cases hi : i < vs.length
    · refine W_cond (t := true) (by simp [hi]) ?_
      apply W_skip
      show W _ _ b3 _ _; subst hb3
      have hi' : i < vs'.length := by omega
      have a1 := g2.adr (k := .i64) hi'
      have d1 := g2.load hi'
      obtain ⟨v, hv⟩ : ∃ v, v = vs'[i] := ⟨_, rfl⟩
      have gi : vs'[i]? = some v := by rw [hv]; exact List.getElem?_eq_getElem hi'
      rw [← hv] at d1
      have ov := g2.own i v gi
      rw [if_neg (Nat.lt_irrefl i)] at ov
      obtain ⟨c, hc⟩ : ∃ c, c = 300 + 5 * i := ⟨_, rfl⟩
      have cB : c < 6000 := by omega
      have r1 : intBin .mul .i64 5 (i : Int) = some (.int .i64 ((5 * i : Nat) : Int)) := mul5 (by omega)
      have r2 : intBin .add .i64 300 ((5 * i : Nat) : Int) = some (.int .i64 (c : Int)) := by rw [hc]; exact add300 (by omega)
      have u1 : intBin .add .u64 (c : Int) 1 = some (.int .u64 ((c + 1 : Nat) : Int)) := addu (y := 1) (by show _ < 18446744073709551616; omega)
      have u2 : intBin .add .u64 (c : Int) 2 = some (.int .u64 ((c + 2 : Nat) : Int)) := addu (y := 2) (by show _ < 18446744073709551616; omega)
      have u3 : intBin .add .u64 (c : Int) 3 = some (.int .u64 ((c + 3 : Nat) : Int)) := addu (y := 3) (by show _ < 18446744073709551616; omega)
      have u4 : intBin .add .u64 (c : Int) 4 = some (.int .u64 ((c + 4 : Nat) : Int)) := addu (y := 4) (by show _ < 18446744073709551616; omega)
      have cv : convV Try.prog 3 55 (.int .i64 (c : Int)) = some (.int .u64 (c : Int)) := conv_iu (by show _ < 18446744073709551616; omega)
      have hb5 := build5_own H3 c (c + 1) (c + 2) (c + 3) (c + 4)
      obtain ⟨N, hN⟩ : ∃ N, N = H3.new 1 ([c, c + 1, c + 2, c + 3, c + 4].map limb) := ⟨_, rfl⟩
      have kN : Keep H3 N := by rw [hN]; exact .new _ _ _
      have oN : Own H3.n N (.slice (some ⟨H3.n, 0, none⟩) 5 5) [c, c + 1, c + 2, c + 3, c + 4] := by rw [hN]; exact Own.new H3 [c, c + 1, c + 2, c + 3, c + 4]
      rw [← hN] at hb5
      have gN : n0 ≤ N.n := by have := g2.lo; have := g2.hi; have := kN.n; omega
      obtain ⟨v', H4, hap, o4, md4, ka4⟩ := (ov.mono (Nat.le_refl _) kN).appendN gN oN.sl (by simp) (by rw [flen]; have := hlen i; simp; omega) ltLst ltLst
      have md : Mod (vblk vs'[i]) H3 H4 := by rw [← hv]; exact kN.mod.any.trans md4
      obtain ⟨H5, st5, g5, ka5⟩ := g2.put hi' md (o4.mono kN.n (.refl _))
      have kaN : KA n0 H3 N := fun H0 k _ => k.trans kN
      apply W_seq; intro b3 hb3
      apply W_block
      apply W_seq; intro b4 hb4
      apply W_region
      simp [t34, t36, a1, d1]
      show W _ _ b4 _ _; subst hb4
      apply W_seq; intro b4 hb4
      apply W_region
      simp [r1, r2, cv]
      show W _ _ b4 _ _; subst hb4
      apply W_seq; intro b4 hb4
      apply W_region
      simp [u1, u2, u3, u4, hb5, hap]
      show W _ _ b4 _ _; subst hb4
      apply W_region
      simp [t0, a1, st5]
      show W _ _ b3 _ _; subst hb3
      apply W_region
      simp [t36, add1_i64 (x := i) (by omega)]
      apply hQ'
      refine ⟨m - 1, by omega, rfl, ((ka.trans kaN).trans ka4).trans ka5, i + 1, vs'.set i v', by omega, by simp [hvs], ?_, by simp [t0, hvs], by simp [t34, hvs], by simp [t35], by simp⟩
      have : (fun j => if j = i then fillW f i ++ [c, c + 1, c + 2, c + 3, c + 4] else if j < i then growW f j else fillW f j) = fun j => if j < i + 1 then growW f j else fillW f j := by
        funext j
        by_cases e : j = i
        · subst e; rw [if_pos rfl, if_pos (by omega)]; unfold growW; rw [hc]
        · rw [if_neg e]
          by_cases e2 : j < i
          · rw [if_pos e2, if_pos (by omega)]
          · rw [if_neg e2, if_neg (by omega)]
      rw [this] at g5
      exact g5
    · refine W_cond (t := false) (by simp [hi]) ?_
      apply W_exit
      apply hQ'
      left
      refine ⟨rfl, hQ'' _ ⟨rfl, ka, vs', hvs, ⟨g2.lo, g2.hi, g2.blk, fun j v hj => ?_, g2.ap, g2.out⟩, by simp [t0, hvs]⟩⟩
      have := g2.own j v hj
      rwa [if_pos (by have := (List.getElem?_eq_some_iff.mp hj).1; omega)] at this
  clear t0 g2 ka
  rintro ⟨k, tm, H3⟩ ⟨hk', ka, vs', hvs, g2, t0⟩
  simp only at hk' ka g2 t0
  subst hk'
  -- looking
  apply W_seq; intro b1 hb1
  apply W_seq; intro b2 hb2
  apply W_region
  simp [t0, lenL]
  show W _ _ b2 _ _; subst hb2
  apply W_block
  refine W_loopK (fun m s' => s'.k = 112 ∧ s'.H = H3 ∧ ∃ i, m + i = vs.length ∧ s'.tm.get 62 = some (.slice (some ⟨b, 0, none⟩) vs'.length vs'.length) ∧ s'.tm.get 63 = some (.int .i64 (vs.length : Int)) ∧ s'.tm.get 64 = some (.int .i64 (i : Int))) ?_ vs.length _
    ⟨rfl, rfl, 0, by omega, by simp [t0, hvs], by simp, by simp⟩
  clear t0
  rintro m ⟨k, tm, H4⟩ ⟨hk', hH, i, hmi, t62, t63, t64⟩ Q' hQ'
  simp only at hk' hH t62 t63 t64
  subst hk'; subst hH
  apply W_seq; intro b3 hb3
  apply W_region
  simp [t63, t64]
  show W _ _ b3 _ _; subst hb3
  apply W_seq; intro b3 hb3
  by_cases hi : i < vs.length
  · refine W_cond (t := true) (by simp [hi]) ?_
    apply W_skip
    show W _ _ b3 _ _; subst hb3
    have hi' : i < vs'.length := by omega
    have a1 := g2.adr (k := .i64) hi'
    have d1 := g2.load hi'
    obtain ⟨v, hv⟩ : ∃ v, v = vs'[i] := ⟨_, rfl⟩
    have gi : vs'[i]? = some v := by rw [hv]; exact List.getElem?_eq_getElem hi'
    rw [← hv] at d1
    have ov := (g2.own i v gi).sl
    have lv := ov.len ltLst
    obtain ⟨L, hL⟩ : ∃ L, L = (f i).length := ⟨_, rfl⟩
    have hgl : (growW f i).length = L + 5 := by unfold growW; simp [flen, hL]
    have hLb : L ≤ 8000000000000 := by rw [hL]; exact hlen i
    rw [hgl] at lv
    have s5 : intBin .sub .i64 ((L + 5 : Nat) : Int) 5 = some (.int .i64 (L : Int)) := sub5_i64 (x := L + 5) (by omega) (by omega)
    apply W_seq; intro b3 hb3
    apply W_block
    apply W_seq; intro b4 hb4
    apply W_region
    simp [t62, t64, a1, d1]
    show W _ _ b4 _ _; subst hb4
    apply W_seq; intro b4 hb4
    apply W_region
    simp [lv]
    show W _ _ b4 _ _; subst hb4
    apply W_block
    refine W_loopK (fun m s' => s'.k = 112 ∧ s'.H = H4 ∧ ∃ j, m + j = L + 5 ∧ s'.tm.get 62 = some (.slice (some ⟨b, 0, none⟩) vs'.length vs'.length) ∧ s'.tm.get 63 = some (.int .i64 (vs.length : Int)) ∧ s'.tm.get 64 = some (.int .i64 (i : Int)) ∧
      s'.tm.get 9 = some (.int .i64 (i : Int)) ∧ s'.tm.get 10 = some v ∧ s'.tm.get 69 = some v ∧ s'.tm.get 70 = some (.int .i64 ((L + 5 : Nat) : Int)) ∧ s'.tm.get 71 = some (.int .i64 (j : Int))) ?_ (L + 5) _
      ⟨rfl, rfl, 0, by omega, by simp [t62], by simp [t63], by simp [t64], by simp, by simp, by simp, by simp, by simp⟩
    clear t62 t63 t64
    rintro m2 ⟨k, tm, H5⟩ ⟨hk', hH, j, hmj, t62, t63, t64, t9, t10, t69, t70, t71⟩ Q5 hQ5
    simp only at hk' hH t62 t63 t64 t9 t10 t69 t70 t71
    subst hk'; subst hH
    apply W_seq; intro b5 hb5
    apply W_region
    simp [t70, t71]
    show W _ _ b5 _ _; subst hb5
    apply W_seq; intro b5 hb5
    by_cases hj : j < L + 5
    · refine W_cond (t := true) (by simp [hj]) ?_
      apply W_skip
      show W _ _ b5 _ _; subst hb5
      have a2 := ov.adr ltLst (k := .i64) (i := j) (by omega)
      have d2 := ov.load (i := j) (by omega)
      apply W_seq; intro b5 hb5
      apply W_block
      apply W_seq; intro b6 hb6
      apply W_region
      simp [t69, t71, a2, d2]
      show W _ _ b6 _ _; subst hb6
      have fin : ∀ tm' : Tr Value, tm'.get 62 = some (.slice (some ⟨b, 0, none⟩) vs'.length vs'.length) → tm'.get 63 = some (.int .i64 (vs.length : Int)) → tm'.get 64 = some (.int .i64 (i : Int)) →
          tm'.get 9 = some (.int .i64 (i : Int)) → tm'.get 10 = some v → tm'.get 69 = some v → tm'.get 70 = some (.int .i64 ((L + 5 : Nat) : Int)) → tm'.get 71 = some (.int .i64 (j : Int)) → W Try.prog cfg0 b5 ⟨112, tm', H5⟩ Q5 := fun tm' t62 t63 t64 t9 t10 t69 t70 t71 => by
        subst hb5
        apply W_region
        simp [t71, add1_i64 (x := j) (by omega)]
        apply hQ5
        exact ⟨m2 - 1, by omega, rfl, rfl, j + 1, by omega, by simp [t62], by simp [t63], by simp [t64], by simp [t9], by simp [t10], by simp [t69], by simp [t70], by simp⟩
      apply W_seq; intro b6 hb6
      apply W_region
      by_cases hjL : j < L
      · obtain ⟨c, hc⟩ : ∃ c, c = i % 251 + 1 := ⟨_, rfl⟩
        have hx : (growW f i)[j]'(by omega) = c := by
          unfold growW
          rw [List.getElem_append_left (by rw [flen]; omega)]
          unfold fillW
          rw [List.getElem_replicate, hc]
        have r1 : intBin .add .i64 ((i % 251 : Nat) : Int) 1 = some (.int .i64 (c : Int)) := by rw [hc]; exact add1_i64 (by omega)
        have cv : convV Try.prog 3 55 (.int .i64 (c : Int)) = some (.int .u64 (c : Int)) := conv_iu (by rw [hc]; show _ < 18446744073709551616; omega)
        have ng : ¬ L ≤ j := by omega
        simp [t9, t10, hx, lv, s5, hjL, rem251, r1, cv, neq_nat, geq_nat, ng]
        show W _ _ b6 _ _; subst hb6
        refine W_cond (t := false) (by simp) ?_
        apply W_skip
        show W _ _ b5 _ _
        exact fin _ (by simp [t62]) (by simp [t63]) (by simp [t64]) (by simp [t9]) (by simp [t10]) (by simp [t69]) (by simp [t70]) (by simp [t71])
      · obtain ⟨d, hjd⟩ : ∃ d, j = L + d := ⟨j - L, by omega⟩
        have hd : d < 5 := by omega
        obtain ⟨c, hc⟩ : ∃ c, c = 300 + 5 * i + d := ⟨_, rfl⟩
        have hx? : (growW f i)[j]? = some c := by
          rw [hjd]
          unfold growW
          rw [List.getElem?_append_right (by rw [flen]; omega)]
          have e : L + d - (fillW f i).length = d := by rw [flen]; omega
          have : d = 0 ∨ d = 1 ∨ d = 2 ∨ d = 3 ∨ d = 4 := by omega
          rw [e]
          rcases this with rfl | rfl | rfl | rfl | rfl <;> simp [hc]
        have hx : (growW f i)[j]'(by omega) = c := Option.some.inj ((List.getElem?_eq_getElem (by omega)).symm.trans hx?)
        have r1 : intBin .mul .i64 5 (i : Int) = some (.int .i64 ((5 * i : Nat) : Int)) := mul5 (by omega)
        have r2 : intBin .add .i64 300 ((5 * i : Nat) : Int) = some (.int .i64 ((300 + 5 * i : Nat) : Int)) := add300 (by omega)
        have r3 : intBin .add .i64 ((300 + 5 * i : Nat) : Int) (j : Int) = some (.int .i64 ((300 + 5 * i + j : Nat) : Int)) := add_i64 (by omega)
        have r4 : intBin .sub .i64 ((300 + 5 * i + j : Nat) : Int) ((L + 5 : Nat) : Int) = some (.int .i64 ((300 + 5 * i + j - (L + 5) : Nat) : Int)) := sub_i64 (by omega) (by omega)
        have r5 : intBin .add .i64 ((300 + 5 * i + j - (L + 5) : Nat) : Int) 5 = some (.int .i64 (c : Int)) := by
          rw [add5_i64 (by omega), hc]
          have : 300 + 5 * i + j - (L + 5) + 5 = 300 + 5 * i + d := by omega
          rw [this]
        have cv : convV Try.prog 3 55 (.int .i64 (c : Int)) = some (.int .u64 (c : Int)) := conv_iu (by rw [hc]; show _ < 18446744073709551616; omega)
        have ng : L ≤ j := by omega
        simp [t9, t10, hx, lv, s5, hjL, r1, r2, r3, r4, r5, cv, neq_nat, geq_nat, ng]
        show W _ _ b6 _ _; subst hb6
        refine W_cond (t := false) (by simp) ?_
        apply W_skip
        show W _ _ b5 _ _
        exact fin _ (by simp [t62]) (by simp [t63]) (by simp [t64]) (by simp [t9]) (by simp [t10]) (by simp [t69]) (by simp [t70]) (by simp [t71])
    · refine W_cond (t := false) (by simp [hj]) ?_
      apply W_exit
      apply hQ5
      left
      refine ⟨rfl, ?_⟩
      show W _ _ b3 _ _; subst hb3
      apply W_region
      simp [t64, add1_i64 (x := i) (by omega)]
      apply hQ'
      exact ⟨m - 1, by omega, rfl, rfl, i + 1, by omega, by simp [t62], by simp [t63], by simp⟩
  · refine W_cond (t := false) (by simp [hi]) ?_
    apply W_exit
    apply hQ'
    left
    refine ⟨rfl, ?_⟩
    show W _ _ b1 _ _; subst hb1
    apply W_seq; intro b4 hb4
    apply W_region
    simp
    show W _ _ b4 _ _; subst hb4
    apply W_ret
    simp
    exact ka
end
end Go.Proofs.Ytldapilhmmbjhaa

/-
  div: Both, Quo, Rest, Divides, Gcd, Split.
-/
namespace Go.Proofs.Ytldapilhmmbjhaa
open Go Ev
set_option linter.unusedVariables false
set_option linter.unusedSimpArgs false
noncomputable section

/-- The greatest list that the specifications below speak of. -/
abbrev Lim : Nat := 2000000000000

theorem ds64_len {xs : List Nat} (dx : Dig B64 xs) : (ds B64 (dv B64 xs)).length ≤ xs.length := ds_len_le two64 (dv_lt dx)
theorem ds_len_mono {B : Nat} (hB : 2 ≤ B) {n m : Nat} (h : n ≤ m) : (ds B n).length ≤ (ds B m).length := ds_len_le hB (Nat.lt_of_le_of_lt h (ds_lt hB m))
theorem ds_len_pos {B n : Nat} (hB : 2 ≤ B) : 0 < (ds B n).length ↔ 0 < n := by
  constructor
  · intro h
    rcases Nat.eq_zero_or_pos n with h0 | h0
    · subst h0; rw [ds_zero] at h; cases h
    · exact h0
  · intro h
    rw [ds_pos hB (by omega)]; simp
theorem ds_len_zero {B n : Nat} (hB : 2 ≤ B) : (ds B n).length = 0 ↔ n = 0 := by
  have := ds_len_pos (n := n) hB
  omega

theorem norm_two {H : AH} {va vb : Value} {xs ys : List Nat} (ha : Sl H va xs) (hb : Sl H vb ys) (dx : Dig B64 xs) (dy : Dig B64 ys) (lx : xs.length ≤ Lim) (ly : ys.length ≤ Lim) :
    ∃ v1 v2 H1 H2, callI Try.prog cfg0 37 [va] H = some (v1, H1) ∧ callI Try.prog cfg0 37 [vb] H1 = some (v2, H2) ∧ Keep H H2 ∧ Own H.n H2 v1 (ds B64 (dv B64 xs)) ∧ Own H.n H2 v2 (ds B64 (dv B64 ys)) ∧ Apart v1 v2 := by
  obtain ⟨v1, H1, h1, k1, o1⟩ := norm_spec ha (Nat.le_trans lx (by decide))
  obtain ⟨v2, H2, h2, k2, o2⟩ := norm_spec (hb.keep k1) (Nat.le_trans ly (by decide))
  rw [trimL_ds two64 dx] at o1
  rw [trimL_ds two64 dy] at o2
  exact ⟨v1, v2, H1, H2, h1, h2, k1.trans k2, o1.mono (Nat.le_refl _) k2, o2.mono k1.n (.refl _), apart_own o1 o2 (Nat.le_refl _)⟩

/-- divide, of normal ones, as an equation. -/
theorem divide_call {n0 : Nat} {H : AH} {va vb : Value} {A B : Nat} (ha : Own n0 H va (ds B64 A)) (hb : Sl H vb (ds B64 B)) (hn0 : n0 ≤ H.n) (lA : (ds B64 A).length ≤ Lim) (lB : (ds B64 B).length ≤ Lim) (hB : 0 < B) :
    ∃ q r H', callI Try.prog cfg0 38 [va, vb] H = some (.tuple #[q, r], H') ∧ Keep H H' ∧ Own H.n H' q (ds B64 (A / B)) ∧ Own n0 H' r (ds B64 (A % B)) ∧ Apart q r := by
  obtain ⟨v, H', hc, k, q, r, e, o1, o2, ap⟩ := divide_spec ha hb hn0 (ds_dig two64 A) (ds_dig two64 B) (ds_trim two64 A) (ds_trim two64 B) (Nat.le_trans lA (by decide)) (Nat.le_trans lB (by decide)) ((ds_len_pos two64).mpr hB)
  subst e
  rw [dv_ds two64, dv_ds two64] at o1 o2
  exact ⟨q, r, H', hc, k, o1, o2, ap⟩

theorem length_call {H : AH} {v : Value} {A : Nat} (h : Sl H v (ds B64 A)) (lA : (ds B64 A).length ≤ Lim) : callI Try.prog cfg0 31 [v] H = some (.int .i64 (blen A : Int), H) := by
  obtain ⟨_, _, hc, rfl, rfl⟩ := length_spec h (ds_dig two64 A) (Nat.le_trans lA (by decide))
  rw [dv_ds two64] at hc
  exact hc

theorem gtrMax {x : Nat} : intBin .gtr .i64 (x : Int) 67108864 = some (.bool (decide (67108864 < x))) := gtr_nat (y := 67108864)

attribute [-simp] Int.natCast_add Int.natCast_mul Int.natCast_ediv Int.natCast_emod Int.natCast_pow
attribute [local simp] strip stripL LW' LR gW evOp oMove oAssign oPick oBinOp oUnOp oConvert oExtract oIndexAddr oIndex oLoad oStore oSlice oMakeSlice oCall oBuildSlice opd opds optOpd plain plain1 Tr.get_set tmOf builtinV binV isShift sameKind undef resultV resOne packV ltNat ltNum ltLst calleeV parts lss_nat unV DW grdOf heapOp LX isStore

section
variable {H : AH} {va vb : Value} {xs ys : List Nat}

/-- What Both answers. -/
def BothIs (n0 : Nat) (A B : Nat) (v : Value) (H' : AH) : Prop :=
  (B = 0 ∧ v = .tuple #[.slice none 0 0, .slice none 0 0, .int .i64 30]) ∨
  (0 < B ∧ (67108864 < blen (A / B) ∨ 67108864 < blen (A % B)) ∧ v = .tuple #[.slice none 0 0, .slice none 0 0, .int .i64 3]) ∨
  (0 < B ∧ blen (A / B) ≤ 67108864 ∧ blen (A % B) ≤ 67108864 ∧ ∃ q r, v = .tuple #[q, r, .int .i64 0] ∧ Own n0 H' q (ds B64 (A / B)) ∧ Own n0 H' r (ds B64 (A % B)) ∧ Apart q r)

theorem both_spec (ha : Sl H va xs) (hb : Sl H vb ys) (dx : Dig B64 xs) (dy : Dig B64 ys) (lx : xs.length ≤ Lim) (ly : ys.length ≤ Lim) :
    CW Try.prog cfg0 19 [va, vb] H fun v H' => Keep H H' ∧ BothIs H.n (dv B64 xs) (dv B64 ys) v H' := by
  refine CW_intro 32 (by decide) (by decide) Try.func19 rfl rfl ?_
  obtain ⟨v1, v2, H1, H2, c1, c2, k2, o1, o2, ap⟩ := norm_two ha hb dx dy lx ly
  have lA := Nat.le_trans (ds64_len dx) lx
  have lB := Nat.le_trans (ds64_len dy) ly
  generalize dv B64 xs = A at *
  generalize dv B64 ys = B at *
  have l2 := o2.sl.len ltNat
  apply W_seq; intro b1 hb1
  apply W_region
  simp
  show W _ _ b1 _ _; subst hb1
  apply W_seq; intro b1 hb1
  apply W_region
  simp [c1, c2]
  show W _ _ b1 _ _; subst hb1
  apply W_seq; intro b1 hb1
  apply W_seq; intro b2 hb2
  apply W_region
  simp [l2, eq0_nat, ds_len_zero two64]
  show W _ _ b2 _ _; subst hb2
  by_cases hB : B = 0
  · refine W_cond (t := true) (by simp [hB]) ?_
    apply W_seq; intro b2 hb2
    apply W_region
    simp
    show W _ _ b2 _ _; subst hb2
    apply W_ret
    simp [seqQ]
    exact ⟨k2, .inl ⟨hB, rfl⟩⟩
  · refine W_cond (t := false) (by simp [hB]) ?_
    apply W_skip
    show W _ _ b1 _ _; subst hb1
    have hB0 : 0 < B := by omega
    obtain ⟨q, r, H3, c3, k3, oq, orr, apq⟩ := divide_call o1 o2.sl k2.n lA lB hB0
    have lq : (ds B64 (A / B)).length ≤ Lim := Nat.le_trans (ds_len_mono two64 (Nat.div_le_self A B)) lA
    have lr : (ds B64 (A % B)).length ≤ Lim := Nat.le_trans (ds_len_mono two64 (Nat.mod_le A B)) lA
    have c4 := length_call oq.sl lq
    have c5 := length_call orr.sl lr
    apply W_seq; intro b1 hb1
    apply W_region
    simp [c3]
    show W _ _ b1 _ _; subst hb1
    apply W_seq; intro b1 hb1
    apply W_seq; intro b2 hb2
    apply W_region
    by_cases h1 : 67108864 < blen (A / B)
    · simp [c4, gtrMax, h1]
      show W _ _ b2 _ _; subst hb2
      refine W_cond (t := true) (by simp) ?_
      apply W_seq; intro b2 hb2
      apply W_region
      simp
      show W _ _ b2 _ _; subst hb2
      apply W_ret
      simp [seqQ]
      exact ⟨k2.trans k3, .inr (.inl ⟨hB0, .inl h1, rfl⟩)⟩
    · by_cases h2 : 67108864 < blen (A % B)
      · simp [c4, c5, gtrMax, h1, h2]
        show W _ _ b2 _ _; subst hb2
        refine W_cond (t := true) (by simp) ?_
        apply W_seq; intro b2 hb2
        apply W_region
        simp
        show W _ _ b2 _ _; subst hb2
        apply W_ret
        simp [seqQ]
        exact ⟨k2.trans k3, .inr (.inl ⟨hB0, .inr h2, rfl⟩)⟩
      · simp [c4, c5, gtrMax, h1, h2]
        show W _ _ b2 _ _; subst hb2
        refine W_cond (t := false) (by simp) ?_
        apply W_skip
        show W _ _ b1 _ _; subst hb1
        apply W_seq; intro b2 hb2
        apply W_region
        simp
        show W _ _ b2 _ _; subst hb2
        apply W_ret
        simp
        exact ⟨k2.trans k3, .inr (.inr ⟨hB0, by omega, by omega, q, r, rfl, oq.mono k2.n (.refl _), orr, apq⟩)⟩

/-- What Quo and Rest answer. -/
def OneIs (n0 : Nat) (B Z : Nat) (v : Value) (H' : AH) : Prop :=
  (B = 0 ∧ v = .tuple #[.slice none 0 0, .int .i64 30]) ∨
  (0 < B ∧ 67108864 < blen Z ∧ v = .tuple #[.slice none 0 0, .int .i64 3]) ∨
  (0 < B ∧ blen Z ≤ 67108864 ∧ ∃ q, v = .tuple #[q, .int .i64 0] ∧ Own n0 H' q (ds B64 Z))

theorem quo_spec (ha : Sl H va xs) (hb : Sl H vb ys) (dx : Dig B64 xs) (dy : Dig B64 ys) (lx : xs.length ≤ Lim) (ly : ys.length ≤ Lim) :
    CW Try.prog cfg0 21 [va, vb] H fun v H' => Keep H H' ∧ OneIs H.n (dv B64 ys) (dv B64 xs / dv B64 ys) v H' := by
  refine CW_intro 25 (by decide) (by decide) Try.func21 rfl rfl ?_
  obtain ⟨v1, v2, H1, H2, c1, c2, k2, o1, o2, ap⟩ := norm_two ha hb dx dy lx ly
  have lA := Nat.le_trans (ds64_len dx) lx
  have lB := Nat.le_trans (ds64_len dy) ly
  generalize dv B64 xs = A at *
  generalize dv B64 ys = B at *
  have l2 := o2.sl.len ltNat
  apply W_seq; intro b1 hb1
  apply W_region
  simp
  show W _ _ b1 _ _; subst hb1
  apply W_seq; intro b1 hb1
  apply W_region
  simp [c1, c2]
  show W _ _ b1 _ _; subst hb1
  apply W_seq; intro b1 hb1
  apply W_seq; intro b2 hb2
  apply W_region
  simp [l2, eq0_nat, ds_len_zero two64]
  show W _ _ b2 _ _; subst hb2
  by_cases hB : B = 0
  · refine W_cond (t := true) (by simp [hB]) ?_
    apply W_seq; intro b2 hb2
    apply W_region
    simp
    show W _ _ b2 _ _; subst hb2
    apply W_ret
    simp [seqQ]
    exact ⟨k2, .inl ⟨hB, rfl⟩⟩
  · refine W_cond (t := false) (by simp [hB]) ?_
    apply W_skip
    show W _ _ b1 _ _; subst hb1
    have hB0 : 0 < B := by omega
    obtain ⟨q, r, H3, c3, k3, oq, orr, apq⟩ := divide_call o1 o2.sl k2.n lA lB hB0
    have lq : (ds B64 (A / B)).length ≤ Lim := Nat.le_trans (ds_len_mono two64 (Nat.div_le_self A B)) lA
    have c4 := length_call oq.sl lq
    apply W_seq; intro b1 hb1
    apply W_region
    simp [c3]
    show W _ _ b1 _ _; subst hb1
    apply W_seq; intro b1 hb1
    apply W_seq; intro b2 hb2
    apply W_region
    simp [c4, gtrMax]
    show W _ _ b2 _ _; subst hb2
    by_cases h1 : 67108864 < blen (A / B)
    · refine W_cond (t := true) (by simp [h1]) ?_
      apply W_seq; intro b2 hb2
      apply W_region
      simp
      show W _ _ b2 _ _; subst hb2
      apply W_ret
      simp [seqQ]
      exact ⟨k2.trans k3, .inr (.inl ⟨hB0, h1, rfl⟩)⟩
    · refine W_cond (t := false) (by simp [h1]) ?_
      apply W_skip
      show W _ _ b1 _ _; subst hb1
      apply W_seq; intro b2 hb2
      apply W_region
      simp
      show W _ _ b2 _ _; subst hb2
      apply W_ret
      simp
      exact ⟨k2.trans k3, .inr (.inr ⟨hB0, by omega, q, rfl, oq.mono k2.n (.refl _)⟩)⟩

theorem rest_spec (ha : Sl H va xs) (hb : Sl H vb ys) (dx : Dig B64 xs) (dy : Dig B64 ys) (lx : xs.length ≤ Lim) (ly : ys.length ≤ Lim) :
    CW Try.prog cfg0 22 [va, vb] H fun v H' => Keep H H' ∧ OneIs H.n (dv B64 ys) (dv B64 xs % dv B64 ys) v H' := by
  refine CW_intro 25 (by decide) (by decide) Try.func22 rfl rfl ?_
  obtain ⟨v1, v2, H1, H2, c1, c2, k2, o1, o2, ap⟩ := norm_two ha hb dx dy lx ly
  have lA := Nat.le_trans (ds64_len dx) lx
  have lB := Nat.le_trans (ds64_len dy) ly
  generalize dv B64 xs = A at *
  generalize dv B64 ys = B at *
  have l2 := o2.sl.len ltNat
  apply W_seq; intro b1 hb1
  apply W_region
  simp
  show W _ _ b1 _ _; subst hb1
  apply W_seq; intro b1 hb1
  apply W_region
  simp [c1, c2]
  show W _ _ b1 _ _; subst hb1
  apply W_seq; intro b1 hb1
  apply W_seq; intro b2 hb2
  apply W_region
  simp [l2, eq0_nat, ds_len_zero two64]
  show W _ _ b2 _ _; subst hb2
  by_cases hB : B = 0
  · refine W_cond (t := true) (by simp [hB]) ?_
    apply W_seq; intro b2 hb2
    apply W_region
    simp
    show W _ _ b2 _ _; subst hb2
    apply W_ret
    simp [seqQ]
    exact ⟨k2, .inl ⟨hB, rfl⟩⟩
  · refine W_cond (t := false) (by simp [hB]) ?_
    apply W_skip
    show W _ _ b1 _ _; subst hb1
    have hB0 : 0 < B := by omega
    obtain ⟨q, r, H3, c3, k3, oq, orr, apq⟩ := divide_call o1 o2.sl k2.n lA lB hB0
    have lr : (ds B64 (A % B)).length ≤ Lim := Nat.le_trans (ds_len_mono two64 (Nat.mod_le A B)) lA
    have c4 := length_call orr.sl lr
    apply W_seq; intro b1 hb1
    apply W_region
    simp [c3]
    show W _ _ b1 _ _; subst hb1
    apply W_seq; intro b1 hb1
    apply W_seq; intro b2 hb2
    apply W_region
    simp [c4, gtrMax]
    show W _ _ b2 _ _; subst hb2
    by_cases h1 : 67108864 < blen (A % B)
    · refine W_cond (t := true) (by simp [h1]) ?_
      apply W_seq; intro b2 hb2
      apply W_region
      simp
      show W _ _ b2 _ _; subst hb2
      apply W_ret
      simp [seqQ]
      exact ⟨k2.trans k3, .inr (.inl ⟨hB0, h1, rfl⟩)⟩
    · refine W_cond (t := false) (by simp [h1]) ?_
      apply W_skip
      show W _ _ b1 _ _; subst hb1
      apply W_seq; intro b2 hb2
      apply W_region
      simp
      show W _ _ b2 _ _; subst hb2
      apply W_ret
      simp
      exact ⟨k2.trans k3, .inr (.inr ⟨hB0, by omega, r, rfl, orr⟩)⟩

/-- Does B divide A? (0 divides 0 alone.) -/
def dividesB (A B : Nat) : Bool := decide (A % B = 0)

theorem divides_spec (ha : Sl H va xs) (hb : Sl H vb ys) (dx : Dig B64 xs) (dy : Dig B64 ys) (lx : xs.length ≤ Lim) (ly : ys.length ≤ Lim) :
    CW Try.prog cfg0 23 [va, vb] H fun v H' => Keep H H' ∧ v = .bool (dividesB (dv B64 xs) (dv B64 ys)) := by
  refine CW_intro 26 (by decide) (by decide) Try.func23 rfl rfl ?_
  obtain ⟨v1, v2, H1, H2, c1, c2, k2, o1, o2, ap⟩ := norm_two ha hb dx dy lx ly
  have lA := Nat.le_trans (ds64_len dx) lx
  have lB := Nat.le_trans (ds64_len dy) ly
  generalize dv B64 xs = A at *
  generalize dv B64 ys = B at *
  have l1 := o1.sl.len ltNat
  have l2 := o2.sl.len ltNat
  apply W_seq; intro b1 hb1
  apply W_region
  simp
  show W _ _ b1 _ _; subst hb1
  apply W_seq; intro b1 hb1
  apply W_region
  simp [c1, c2]
  show W _ _ b1 _ _; subst hb1
  apply W_seq; intro b1 hb1
  apply W_seq; intro b2 hb2
  apply W_region
  simp [l2, eq0_nat, ds_len_zero two64]
  show W _ _ b2 _ _; subst hb2
  by_cases hB : B = 0
  · refine W_cond (t := true) (by simp [hB]) ?_
    apply W_seq; intro b2 hb2
    apply W_region
    simp [l1, eq0_nat, ds_len_zero two64]
    show W _ _ b2 _ _; subst hb2
    apply W_ret
    subst hB
    simp [seqQ, dividesB]
    exact k2
  · refine W_cond (t := false) (by simp [hB]) ?_
    apply W_skip
    show W _ _ b1 _ _; subst hb1
    have hB0 : 0 < B := by omega
    obtain ⟨q, r, H3, c3, k3, oq, orr, apq⟩ := divide_call o1 o2.sl k2.n lA lB hB0
    have l3 := orr.sl.len ltNat
    apply W_seq; intro b1 hb1
    apply W_region
    simp [c3]
    show W _ _ b1 _ _; subst hb1
    apply W_seq; intro b2 hb2
    apply W_region
    simp [l3, eq0_nat, ds_len_zero two64]
    show W _ _ b2 _ _; subst hb2
    apply W_ret
    simp [dividesB]
    exact k2.trans k3

theorem gcd_spec (ha : Sl H va xs) (hb : Sl H vb ys) (dx : Dig B64 xs) (dy : Dig B64 ys) (lx : xs.length ≤ Lim) (ly : ys.length ≤ Lim) :
    CW Try.prog cfg0 26 [va, vb] H fun v H' => Keep H H' ∧ Own H.n H' v (ds B64 (Nat.gcd (dv B64 xs) (dv B64 ys))) := by
  refine CW_intro 23 (by decide) (by decide) Try.func26 rfl rfl ?_
  obtain ⟨v1, v2, H1, H2, c1, c2, k2, o1, o2, ap⟩ := norm_two ha hb dx dy lx ly
  have lA := Nat.le_trans (ds64_len dx) lx
  have lB := Nat.le_trans (ds64_len dy) ly
  generalize dv B64 xs = A at *
  generalize dv B64 ys = B at *
  apply W_seq; intro b1 hb1
  apply W_region
  simp
  show W _ _ b1 _ _; subst hb1
  apply W_seq; intro b1 hb1
  apply W_region
  simp [c1, c2]
  show W _ _ b1 _ _; subst hb1
  apply W_seq; intro b1 hb1
  apply W_block
  refine W_loopK (fun m s' => s'.k = 23 ∧ Keep H s'.H ∧ ∃ (a : Nat) (av bv : Value), Nat.gcd a m = Nat.gcd A B ∧ (ds B64 a).length ≤ Lim ∧ (ds B64 m).length ≤ Lim ∧ Own H.n s'.H av (ds B64 a) ∧ Own H.n s'.H bv (ds B64 m) ∧ s'.tm.get 0 = some av ∧ s'.tm.get 1 = some bv) ?_ B _
    ⟨rfl, k2, A, v1, v2, rfl, lA, lB, o1, o2, by simp, by simp⟩
  rintro m ⟨k, tm, H3⟩ ⟨hk, k3, a, av, bv, hg, la, lm, oa, ob, t0, t1⟩ Q' hQ'
  simp only at hk k3 oa ob t0 t1
  subst hk
  have lb := ob.sl.len ltNat
  apply W_seq; intro b3 hb3
  apply W_seq; intro b4 hb4
  apply W_region
  simp [t1, lb, gtr0, ds_len_pos two64]
  show W _ _ b4 _ _; subst hb4
  by_cases hm : 0 < m
  · refine W_cond (t := true) (by simp [hm]) ?_
    apply W_skip
    show W _ _ b3 _ _; subst hb3
    obtain ⟨q, r, H4, c4, k4, oq, orr, apq⟩ := divide_call oa ob.sl k3.n la lm hm
    apply W_block
    apply W_seq; intro b3 hb3
    apply W_region
    simp [t0, t1, c4]
    show W _ _ b3 _ _; subst hb3
    apply W_region
    simp [t1]
    apply hQ'
    refine ⟨a % m, Nat.mod_lt _ hm, rfl, k3.trans k4, m, bv, r, ?_, lm, Nat.le_trans (ds_len_mono two64 (Nat.mod_le a m)) la, ob.mono (Nat.le_refl _) k4, orr, by simp, by simp⟩
    show Nat.gcd m (a % m) = _
    rw [← hg, Nat.gcd_comm a m, Nat.gcd_rec m a, Nat.gcd_comm]
  · refine W_cond (t := false) (by simp [hm]) ?_
    apply W_exit
    apply hQ'
    left
    refine ⟨rfl, ?_⟩
    obtain rfl : m = 0 := by omega
    rw [Nat.gcd_zero_right] at hg
    show W _ _ b1 _ _; subst hb1
    apply W_seq; intro b4 hb4
    apply W_region
    simp [t0]
    show W _ _ b4 _ _; subst hb4
    apply W_ret
    simp
    rw [← hg]
    exact ⟨k3, oa⟩

/-- How often B is in A, and what is left. -/
def SplitIs (A B k c : Nat) : Prop := A = c * B ^ k ∧ c % B ≠ 0

theorem SplitIs.uniq {A B k c k' c' : Nat} (hB : 1 < B) (h : SplitIs A B k c) (h' : SplitIs A B k' c') : k = k' ∧ c = c' := by
  have aux : ∀ {k c k' c' : Nat}, SplitIs A B k c → SplitIs A B k' c' → ¬ k < k' := fun {k c k' c'} h h' hlt => by
    obtain ⟨d, rfl⟩ : ∃ d, k' = k + (d + 1) := ⟨k' - k - 1, by omega⟩
    have e : c * B ^ k = (c' * B ^ (d + 1)) * B ^ k := by rw [← h.1, h'.1, Nat.pow_add, Nat.mul_assoc, Nat.mul_comm (B ^ k)]
    have e2 := Nat.eq_of_mul_eq_mul_right (Nat.pow_pos (by omega)) e
    apply h.2
    rw [e2, Nat.pow_succ, ← Nat.mul_assoc, Nat.mul_mod_left]
  have hk : k = k' := by
    have := aux h h'
    have := aux h' h
    omega
  subst hk
  refine ⟨rfl, ?_⟩
  have := h.1.symm.trans h'.1
  exact Nat.eq_of_mul_eq_mul_right (Nat.pow_pos (by omega)) this

/-- What Split answers. -/
def SplitAns (n0 : Nat) (A B : Nat) (v : Value) (H' : AH) : Prop :=
  ((A = 0 ∨ B < 2) ∧ v = .tuple #[.int .i64 0, .slice none 0 0, .int .i64 1]) ∨
  (0 < A ∧ 2 ≤ B ∧ ∃ k c, SplitIs A B k c ∧ ((67108864 < blen c ∧ v = .tuple #[.int .i64 0, .slice none 0 0, .int .i64 3]) ∨ (blen c ≤ 67108864 ∧ ∃ u, v = .tuple #[.int .i64 (k : Int), u, .int .i64 0] ∧ Own n0 H' u (ds B64 c))))

theorem split_bound {A B k c : Nat} (h : A = c * B ^ k) (hA : 0 < A) (hB : 2 ≤ B) {L : Nat} (hL : (ds B64 A).length ≤ L) : k < 64 * L := by
  have h1 := ds_lt two64 A
  have h2 : B64 ^ (ds B64 A).length ≤ B64 ^ L := Nat.pow_le_pow_right (by decide) hL
  have h3 : 2 ^ k ≤ A := by
    have hc : 0 < c := by
      rcases Nat.eq_zero_or_pos c with h0 | h0
      · subst h0; rw [Nat.zero_mul] at h; omega
      · exact h0
    have a : 2 ^ k ≤ B ^ k := Nat.pow_le_pow_left hB k
    have b : 1 * B ^ k ≤ c * B ^ k := Nat.mul_le_mul_right _ hc
    omega
  have h4 : B64 ^ L = 2 ^ (64 * L) := by rw [Nat.pow_mul]
  have h5 : 2 ^ k < 2 ^ (64 * L) := by rw [← h4]; exact Nat.lt_of_le_of_lt h3 (Nat.lt_of_lt_of_le h1 h2)
  exact (Nat.pow_lt_pow_iff_right (by decide)).mp h5

theorem ds_one {B n : Nat} (hB : 2 ≤ B) (h : (ds B n).length = 1) : ds B n = [n] ∧ n < B := by
  have hn : n ≠ 0 := by rintro rfl; rw [ds_zero] at h; cases h
  have hlt := ds_lt hB n
  rw [h, Nat.pow_one] at hlt
  rw [ds_pos hB hn, Nat.mod_eq_of_lt hlt, Nat.div_eq_of_lt hlt, ds_zero]
  exact ⟨rfl, hlt⟩

set_option maxHeartbeats 1000000 in
theorem split_spec (ha : Sl H va xs) (hb : Sl H vb ys) (dx : Dig B64 xs) (dy : Dig B64 ys) (lx : xs.length ≤ Lim) (ly : ys.length ≤ Lim) :
    CW Try.prog cfg0 12 [va, vb] H fun v H' => Keep H H' ∧ SplitAns H.n (dv B64 xs) (dv B64 ys) v H' := by
  refine CW_intro 50 (by decide) (by decide) Try.func12 rfl rfl ?_
  obtain ⟨v1, v2, H1, H2, c1, c2, k2, o1, o2, ap⟩ := norm_two ha hb dx dy lx ly
  have lA := Nat.le_trans (ds64_len dx) lx
  have lB := Nat.le_trans (ds64_len dy) ly
  generalize dv B64 xs = A at *
  generalize dv B64 ys = B at *
  have l1 := o1.sl.len ltNat
  have l2 := o2.sl.len ltNat
  have e1 : ∀ x : Nat, intBin .eql .i64 (x : Int) 1 = some (.bool (decide (x = 1))) := fun x => eql_nat (y := 1)
  have e1u : ∀ x : Nat, intBin .eql .u64 (x : Int) 1 = some (.bool (decide (x = 1))) := fun x => eql_nat (y := 1)
  apply W_seq; intro b1 hb1
  apply W_region
  simp
  show W _ _ b1 _ _; subst hb1
  apply W_seq; intro b1 hb1
  apply W_region
  simp [c1, c2]
  show W _ _ b1 _ _; subst hb1
  apply W_seq; intro b1 hb1
  apply W_seq; intro b2 hb2
  apply W_region
  have bad : ∀ tm : Tr Value, (A = 0 ∨ B < 2) → tm.get 32 = some (.bool true) → W Try.prog cfg0 b2 ⟨50, tm, H2⟩ (seqQ Try.prog cfg0 b1 fun ex s => (ex = .norm ∨ ex = .ret) ∧ ∃ vs, resultV Try.prog s Try.f12.results.toList = some vs ∧ Keep H s.H ∧ SplitAns H.n A B (packV vs) s.H) := fun tm h0 ht => by
    subst hb2
    refine W_cond (t := true) (by simp [ht]) ?_
    apply W_seq; intro b2 hb2
    apply W_region
    simp
    show W _ _ b2 _ _; subst hb2
    apply W_ret
    simp [seqQ, Try.f12]
    exact ⟨k2, .inl ⟨h0, rfl⟩⟩
  have good : ∀ tm : Tr Value, 0 < A → 2 ≤ B → tm.get 32 = some (.bool false) → tm.get 0 = some v1 → tm.get 1 = some v2 → W Try.prog cfg0 b2 ⟨50, tm, H2⟩ (seqQ Try.prog cfg0 b1 fun ex s => (ex = .norm ∨ ex = .ret) ∧ ∃ vs, resultV Try.prog s Try.f12.results.toList = some vs ∧ Keep H s.H ∧ SplitAns H.n A B (packV vs) s.H) := fun tm hA hB ht t0 t1 => by
    subst hb2
    refine W_cond (t := false) (by simp [ht]) ?_
    apply W_skip
    show W _ _ b1 _ _; subst hb1
    have hB0 : 0 < B := by omega
    apply W_seq; intro b1 hb1
    apply W_region
    simp
    show W _ _ b1 _ _; subst hb1
    apply W_seq; intro b1 hb1
    apply W_block
    refine W_loopK (fun a s' => s'.k = 50 ∧ Keep H s'.H ∧ ∃ (k : Nat) (av : Value), 0 < a ∧ A = a * B ^ k ∧ (ds B64 a).length ≤ Lim ∧ Own H.n s'.H av (ds B64 a) ∧ Own H.n s'.H v2 (ds B64 B) ∧ s'.tm.get 0 = some av ∧ s'.tm.get 1 = some v2 ∧ s'.tm.get 7 = some (.int .i64 (k : Int))) ?_ A _
      ⟨rfl, k2, 0, v1, hA, by simp, lA, o1, o2, by simp [t0], by simp [t1], by simp⟩
    clear t0 t1
    rintro a ⟨k', tm, H3⟩ ⟨hk, k3, k, av, ha0, hAe, la, oa, ob, t0, t1, t7⟩ Q' hQ'
    simp only at hk k3 oa ob t0 t1 t7
    subst hk
    obtain ⟨q, r, H4, c4, k4, oq, orr, apq⟩ := divide_call oa ob.sl k3.n la lB hB0
    have lr := orr.sl.len ltNat
    have hkb := split_bound hAe hA hB lA
    have hkb : k < 64 * 2000000000000 := hkb
    apply W_block
    apply W_seq; intro b3 hb3
    apply W_region
    simp [t0, t1, c4]
    show W _ _ b3 _ _; subst hb3
    apply W_seq; intro b3 hb3
    apply W_seq; intro b4 hb4
    apply W_region
    simp [lr, gtr0, ds_len_pos two64]
    show W _ _ b4 _ _; subst hb4
    by_cases hr : 0 < a % B
    · refine W_cond (t := true) (by simp [hr]) ?_
      apply W_exit
      right
      refine ⟨by decide, ?_⟩
      apply hQ'
      left
      refine ⟨rfl, ?_⟩
      have oa4 := oa.mono (Nat.le_refl _) k4
      have c5 := length_call oa4.sl la
      have hsp : SplitIs A B k a := ⟨hAe, by omega⟩
      show W _ _ b1 _ _; subst hb1
      apply W_seq; intro b5 hb5
      apply W_seq; intro b6 hb6
      apply W_region
      simp [t0, c5, gtrMax]
      show W _ _ b6 _ _; subst hb6
      by_cases hbig : 67108864 < blen a
      · refine W_cond (t := true) (by simp [hbig]) ?_
        apply W_seq; intro b6 hb6
        apply W_region
        simp
        show W _ _ b6 _ _; subst hb6
        apply W_ret
        simp [seqQ, Try.f12]
        exact ⟨k3.trans k4, .inr ⟨hA, hB, k, a, hsp, .inl ⟨hbig, rfl⟩⟩⟩
      · refine W_cond (t := false) (by simp [hbig]) ?_
        apply W_skip
        show W _ _ b5 _ _; subst hb5
        apply W_seq; intro b6 hb6
        apply W_region
        simp [t0, t7]
        show W _ _ b6 _ _; subst hb6
        apply W_ret
        simp [Try.f12]
        exact ⟨k3.trans k4, .inr ⟨hA, hB, k, a, hsp, .inr ⟨by omega, av, rfl, oa4⟩⟩⟩
    · refine W_cond (t := false) (by simp [hr]) ?_
      apply W_skip
      show W _ _ b3 _ _; subst hb3
      have hdm : a = a / B * B := by
        have := Nat.div_add_mod a B
        rw [Nat.mul_comm] at this
        omega
      have hq0 : 0 < a / B := by
        rcases Nat.eq_zero_or_pos (a / B) with h0 | h0
        · rw [h0, Nat.zero_mul] at hdm; omega
        · exact h0
      apply W_seq; intro b3 hb3
      apply W_region
      simp
      show W _ _ b3 _ _; subst hb3
      apply W_region
      simp [t7, add1_i64 (x := k) (by omega)]
      apply hQ'
      refine ⟨a / B, Nat.div_lt_self ha0 hB, rfl, k3.trans k4, k + 1, q, hq0, ?_, Nat.le_trans (ds_len_mono two64 (Nat.div_le_self a B)) la, oq.mono k3.n (.refl _), ob.mono (Nat.le_refl _) k4, by simp, by simp [t1], by simp⟩
      rw [Nat.pow_succ, Nat.mul_comm (B ^ k) B, ← Nat.mul_assoc, ← hdm]
      exact hAe
  obtain ⟨LA, hLA⟩ : ∃ LA, LA = (ds B64 A).length := ⟨_, rfl⟩
  obtain ⟨LB, hLB⟩ : ∃ LB, LB = (ds B64 B).length := ⟨_, rfl⟩
  rw [← hLA] at l1
  rw [← hLB] at l2
  by_cases hA : A = 0
  · have f1 : intBin .eql .i64 (LA : Int) 0 = some (.bool true) := by rw [eq0_nat, decide_eq_true]; rw [hLA, ds_len_zero two64]; exact hA
    simp [l1, f1]
    show W _ _ b2 _ _
    exact bad _ (.inl hA) (by simp)
  · have f1 : intBin .eql .i64 (LA : Int) 0 = some (.bool false) := by rw [eq0_nat, decide_eq_false]; rw [hLA, ds_len_zero two64]; exact hA
    by_cases hB : B = 0
    · have f2 : intBin .eql .i64 (LB : Int) 0 = some (.bool true) := by rw [eq0_nat, decide_eq_true]; rw [hLB, ds_len_zero two64]; exact hB
      simp [l1, l2, f1, f2]
      show W _ _ b2 _ _
      exact bad _ (.inr (by omega)) (by simp)
    · have f2 : intBin .eql .i64 (LB : Int) 0 = some (.bool false) := by rw [eq0_nat, decide_eq_false]; rw [hLB, ds_len_zero two64]; exact hB
      by_cases h1 : LB = 1
      · have f3 : intBin .eql .i64 (LB : Int) 1 = some (.bool true) := by rw [e1, decide_eq_true]; exact h1
        obtain ⟨eB, hlt⟩ := ds_one (n := B) two64 (by rw [← hLB]; exact h1)
        have a0 : indexAddrV Try.prog 24 v2 (.int .i64 0) = some (adr v2 0) := o2.sl.adr ltNat (k := .i64) (i := 0) (by omega)
        have o2' := o2
        rw [eB] at o2'
        have d0 : loadV Try.prog H2 55 (adr v2 0) = some (.int .u64 (B : Int)) := o2'.sl.load (i := 0) (by simp)
        by_cases hB1 : B = 1
        · have f4 : intBin .eql .u64 (B : Int) 1 = some (.bool true) := by rw [e1u, decide_eq_true]; exact hB1
          simp [l1, l2, f1, f2, f3, a0, d0, f4]
          show W _ _ b2 _ _
          exact bad _ (.inr (by omega)) (by simp)
        · have f4 : intBin .eql .u64 (B : Int) 1 = some (.bool false) := by rw [e1u, decide_eq_false]; exact hB1
          simp [l1, l2, f1, f2, f3, a0, d0, f4]
          show W _ _ b2 _ _
          exact good _ (by omega) (by omega) (by simp) (by simp) (by simp)
      · have f3 : intBin .eql .i64 (LB : Int) 1 = some (.bool false) := by rw [e1, decide_eq_false]; exact h1
        simp [l1, l2, f1, f2, f3]
        show W _ _ b2 _ _
        refine good _ (by omega) ?_ (by simp) (by simp) (by simp)
        rcases Nat.lt_or_ge B 2 with h2 | h2
        · exfalso
          obtain rfl : B = 1 := by omega
          exact h1 (by rw [hLB, ds_pos two64 (by omega), show (1 : Nat) / B64 = 0 by decide, ds_zero]; rfl)
        · exact h2
end
end
end Go.Proofs.Ytldapilhmmbjhaa

/-
  surdref01: Len, Gcd; surdref03: Divides, Both, Split; surdlaw03: same, lives.
-/
namespace Go.Proofs.Ytldapilhmmbjhaa
open Go Ev
set_option linter.unusedVariables false
set_option linter.unusedSimpArgs false
noncomputable section

theorem blen32 {N : Nat} (h : 0 < (ds b32 N).length) : blen N = 32 * ((ds b32 N).length - 1) + blen ((ds b32 N)[(ds b32 N).length - 1]) ∧ (ds b32 N)[(ds b32 N).length - 1] < b32 := by
  have hN : 0 < N := (ds_len_pos two32).mp h
  obtain ⟨k, hk⟩ : ∃ k, k = (ds b32 N).length - 1 := ⟨_, rfl⟩
  have hlt : k < (ds b32 N).length := by omega
  have e := dv_split' b32 (ds b32 N) k (by omega)
  rw [dv_ds two32, List.drop_eq_getElem_cons hlt, List.drop_eq_nil_of_le (by omega)] at e
  simp only [dv, Nat.mul_zero, Nat.add_zero] at e
  have hl := dv_lt ((ds_dig two32 N).take k)
  rw [List.length_take, Nat.min_eq_left (by omega)] at hl
  have hd : (ds b32 N)[k] < b32 := (ds_dig two32 N).get (List.getElem?_eq_getElem hlt)
  have hge := ds_ge two32 (n := N) (by omega)
  rw [← hk] at hge
  have hp : b32 ^ k = 2 ^ (32 * k) := by rw [Nat.pow_mul]
  rw [hp] at hge e hl
  have e2 : (ds b32 N)[(ds b32 N).length - 1] = (ds b32 N)[k] := by simp only [hk]
  rw [e2, ← hk]
  refine ⟨?_, hd⟩
  have hs := blen_shift hge
  have hq : N / 2 ^ (32 * k) = (ds b32 N)[k] := by
    generalize (ds b32 N)[k] = t at *
    generalize dv b32 ((ds b32 N).take k) = u at *
    rw [e, Nat.add_mul_div_left _ _ (Nat.two_pow_pos _), Nat.div_eq_of_lt hl, Nat.zero_add]
  rw [hq] at hs
  exact hs

theorem blen_le32 {x : Nat} (h : x < b32) : blen x ≤ 32 := by
  rcases Nat.lt_or_ge 32 (blen x) with h1 | h1
  · have h0 : x ≠ 0 := by rintro rfl; simp [blen] at h1
    have a := blen_ge h0
    have b : 2 ^ 32 ≤ 2 ^ (blen x - 1) := Nat.pow_le_pow_right (by decide) (by omega)
    have hx : x < 4294967296 := h
    omega
  · exact h1

/-- A list of one limb that is written out. -/
theorem build1_call (H : AH) {t : TypeId} (ht : LT t) (x : Nat) : ∃ v N, buildSliceV Try.prog H t 1 [(0, .int .u64 (x : Int))] = some (v, N) ∧ Keep H N ∧ Own H.n N v [x] :=
  ⟨_, _, build1_own H ht x, .new _ _ _, Own.new H [x]⟩

theorem cmp_call {H : AH} {v w : Value} {xs ys : List Nat} (hv : Sl H v xs) (hw : Sl H w ys) (dx : Dig B64 xs) (dy : Dig B64 ys) (lx : xs.length ≤ Lim) (ly : ys.length ≤ Lim) :
    callI Try.prog cfg0 33 [v, w] H = some (.int .i64 (cmpN (dv B64 xs) (dv B64 ys)), H) := by
  obtain ⟨_, _, hc, rfl, rfl⟩ := compare_spec hv hw dx dy (Nat.le_trans lx (by decide)) (Nat.le_trans ly (by decide))
  exact hc

theorem dig1 {x : Nat} (h : x < B64) : Dig B64 [x] := .cons h (.nil _)
theorem dv1 (x : Nat) : dv B64 [x] = x := by simp [dv]
theorem ds1 {x : Nat} (h0 : x ≠ 0) (h : x < B64) : ds B64 x = [x] := by rw [ds_pos two64 h0, Nat.mod_eq_of_lt h, Nat.div_eq_of_lt h, ds_zero]

attribute [-simp] Int.natCast_add Int.natCast_mul Int.natCast_ediv Int.natCast_emod Int.natCast_pow
attribute [local simp] strip stripL LW' LR gW evOp oMove oAssign oPick oBinOp oUnOp oConvert oExtract oIndexAddr oIndex oLoad oStore oSlice oMakeSlice oCall oBuildSlice opd opds optOpd plain plain1 Tr.get_set tmOf builtinV binV isShift sameKind undef resultV resOne packV ltNat ltNum ltLst calleeV parts lss_nat unV DW grdOf heapOp LX isStore

theorem refLen_spec {H : AH} {v : Value} {N : Nat} (h : Sl H v (ds b32 N)) (hl : (ds b32 N).length ≤ 2 * Lim) :
    CW Try.prog cfg0 15 [v] H fun v' H' => H' = H ∧ v' = .int .i64 (blen N : Int) := by
  refine CW_intro 25 (by decide) (by decide) Try.func15 rfl rfl ?_
  have l1 := h.len ltNum
  obtain ⟨L, hL⟩ : ∃ L, L = (ds b32 N).length := ⟨_, rfl⟩
  rw [← hL] at l1
  have hl : L ≤ 4000000000000 := by rw [hL]; exact hl
  apply W_seq; intro b1 hb1
  apply W_region
  simp
  show W _ _ b1 _ _; subst hb1
  apply W_seq; intro b1 hb1
  apply W_seq; intro b2 hb2
  apply W_region
  simp [l1, eq0_nat]
  show W _ _ b2 _ _; subst hb2
  by_cases h0 : L = 0
  · refine W_cond (t := true) (by simp [h0]) ?_
    apply W_seq; intro b2 hb2
    apply W_region
    simp
    show W _ _ b2 _ _; subst hb2
    apply W_ret
    have : N = 0 := by rw [h0] at hL; exact (ds_len_zero two32).mp hL.symm
    subst this
    simp [seqQ, blen]
  · refine W_cond (t := false) (by simp [h0]) ?_
    apply W_skip
    show W _ _ b1 _ _; subst hb1
    obtain ⟨e, hd⟩ := blen32 (N := N) (by omega)
    have a1 := h.adr ltNum (k := .i64) (i := (ds b32 N).length - 1) (by omega)
    have d1 := h.load (i := (ds b32 N).length - 1) (by omega)
    obtain ⟨x, hx⟩ : ∃ x, x = (ds b32 N)[(ds b32 N).length - 1]'(by omega) := ⟨_, rfl⟩
    rw [← hx] at d1 hd e
    rw [← hL] at a1 d1 e
    have hx32 := blen_le32 hd
    have s1 : intBin .sub .i64 (L : Int) 1 = some (.int .i64 ((L - 1 : Nat) : Int)) := sub1_i64 (by omega) (by omega)
    have s2 : intBin .mul .i64 32 ((L - 1 : Nat) : Int) = some (.int .i64 ((32 * (L - 1) : Nat) : Int)) := mul32_i64 (by omega)
    apply W_seq; intro b1 hb1
    apply W_region
    simp [l1, s1, s2]
    show W _ _ b1 _ _; subst hb1
    apply W_seq; intro b1 hb1
    apply W_seq; intro b2 hb2
    apply W_region
    simp [l1, s1, a1, d1]
    show W _ _ b2 _ _; subst hb2
    apply W_block
    refine W_loopK (fun y s' => s'.k = 25 ∧ s'.H = H ∧ y < b32 ∧ ∃ n : Nat, n + blen y = blen N ∧ s'.tm.get 3 = some (.int .i64 (n : Int)) ∧ s'.tm.get 4 = some (.int .u64 (y : Int))) ?_ x _
      ⟨rfl, rfl, hd, 32 * (L - 1), e.symm, by simp, by simp⟩
    rintro y ⟨k, tm, H2⟩ ⟨hk, hH, hy, n, hn, t3, t4⟩ Q' hQ'
    simp only at hk hH t3 t4
    subst hk; subst hH
    apply W_seq; intro b3 hb3
    apply W_seq; intro b4 hb4
    apply W_region
    simp [t4, gtr0]
    show W _ _ b4 _ _; subst hb4
    by_cases hy0 : 0 < y
    · refine W_cond (t := true) (by simp [hy0]) ?_
      apply W_skip
      show W _ _ b3 _ _; subst hb3
      have hbh := blen_half hy0
      apply W_seq; intro b3 hb3
      apply W_block
      apply W_region
      simp [t3, add1_i64 (x := n) (by omega)]
      show W _ _ b3 _ _; subst hb3
      apply W_region
      simp [t4, quo2 (b32_lt hy)]
      apply hQ'
      exact ⟨y / 2, Nat.div_lt_self hy0 (by decide), rfl, rfl, Nat.lt_of_le_of_lt (Nat.div_le_self y 2) hy, n + 1, by omega, by simp, by simp⟩
    · refine W_cond (t := false) (by simp [hy0]) ?_
      apply W_exit
      apply hQ'
      left
      refine ⟨rfl, ?_⟩
      obtain rfl : y = 0 := by omega
      have hn' : n = blen N := by rw [← hn]; rfl
      show W _ _ b1 _ _; subst hb1
      apply W_seq; intro b4 hb4
      apply W_region
      simp [t3]
      show W _ _ b4 _ _; subst hb4
      apply W_ret
      simp [hn']

theorem refLen_call {H : AH} {v : Value} {N : Nat} (h : Sl H v (ds b32 N)) (hl : (ds b32 N).length ≤ 2 * Lim) : callI Try.prog cfg0 15 [v] H = some (.int .i64 (blen N : Int), H) := by
  obtain ⟨_, _, hc, rfl, rfl⟩ := refLen_spec h hl
  exact hc

theorem zero_call {H : AH} {v : Value} {N : Nat} (h : Sl H v (ds b32 N)) : callI Try.prog cfg0 39 [v] H = some (.bool (decide (N = 0)), H) := by
  obtain ⟨_, _, hc, rfl, rfl⟩ := zero_spec h
  rw [hc]
  congr 3
  exact decide_eq_decide.mpr (ds_len_zero two32)

theorem refDiv_call {H : AH} {va vb : Value} {A B : Nat} (ha : Sl H va (ds b32 A)) (hb : Sl H vb (ds b32 B)) (lA : (ds b32 A).length ≤ 2 * Lim) (lB : (ds b32 B).length ≤ 2 * Lim) (hB : 0 < B) :
    ∃ q r H', callI Try.prog cfg0 40 [va, vb] H = some (.tuple #[q, r], H') ∧ Keep H H' ∧ Own H.n H' q (ds b32 (A / B)) ∧ Own H.n H' r (ds b32 (A % B)) := by
  obtain ⟨v, H', hc, k, q, r, e, o1, o2⟩ := refDiv_spec ha hb (ds_dig two32 A) (ds_dig two32 B) (ds_trim two32 B) (Nat.le_trans lA (by decide)) (Nat.le_trans lB (by decide)) (by rw [dv_ds two32]; exact hB)
  subst e
  rw [dv_ds two32, dv_ds two32] at o1 o2
  exact ⟨q, r, H', hc, k, o1, o2⟩

section
variable {H : AH} {va vb : Value} {A B : Nat}

theorem refDivides_spec (ha : Sl H va (ds b32 A)) (hb : Sl H vb (ds b32 B)) (lA : (ds b32 A).length ≤ 2 * Lim) (lB : (ds b32 B).length ≤ 2 * Lim) :
    CW Try.prog cfg0 24 [va, vb] H fun v H' => Keep H H' ∧ v = .bool (dividesB A B) := by
  refine CW_intro 19 (by decide) (by decide) Try.func24 rfl rfl ?_
  have z2 := zero_call hb
  have z1 := zero_call ha
  apply W_seq; intro b1 hb1
  apply W_region
  simp
  show W _ _ b1 _ _; subst hb1
  apply W_seq; intro b1 hb1
  apply W_seq; intro b2 hb2
  apply W_region
  simp [z2]
  show W _ _ b2 _ _; subst hb2
  by_cases hB : B = 0
  · refine W_cond (t := true) (by simp [hB]) ?_
    apply W_seq; intro b2 hb2
    apply W_region
    simp [z1]
    show W _ _ b2 _ _; subst hb2
    apply W_ret
    subst hB
    simp [seqQ, dividesB]
    exact .refl H
  · refine W_cond (t := false) (by simp [hB]) ?_
    apply W_skip
    show W _ _ b1 _ _; subst hb1
    obtain ⟨q, r, H3, c3, k3, oq, orr⟩ := refDiv_call ha hb lA lB (by omega)
    have z3 := zero_call orr.sl
    apply W_seq; intro b1 hb1
    apply W_region
    simp [c3]
    show W _ _ b1 _ _; subst hb1
    apply W_seq; intro b2 hb2
    apply W_region
    simp [z3]
    show W _ _ b2 _ _; subst hb2
    apply W_ret
    simp [dividesB]
    exact k3

def RefBothIs (n0 A B : Nat) (v : Value) (H' : AH) : Prop := (B = 0 ∧ v = .tuple #[.slice none 0 0, .slice none 0 0, .int .i64 30]) ∨
  (0 < B ∧ ∃ q r, v = .tuple #[q, r, .int .i64 0] ∧ Own n0 H' q (ds b32 (A / B)) ∧ Own n0 H' r (ds b32 (A % B)))

def RefSplitIs (A B : Nat) (v : Value) (H' : AH) : Prop := ((A = 0 ∨ B < 2) ∧ v = .tuple #[.int .i64 0, .slice none 0 0, .int .i64 1]) ∨
  (0 < A ∧ 2 ≤ B ∧ ∃ k c u, SplitIs A B k c ∧ v = .tuple #[.int .i64 (k : Int), u, .int .i64 0] ∧ Sl H' u (ds b32 c) ∧ (ds b32 c).length ≤ 2 * Lim)

theorem refBoth_spec (ha : Sl H va (ds b32 A)) (hb : Sl H vb (ds b32 B)) (lA : (ds b32 A).length ≤ 2 * Lim) (lB : (ds b32 B).length ≤ 2 * Lim) :
    CW Try.prog cfg0 20 [va, vb] H fun v H' => Keep H H' ∧ RefBothIs H.n A B v H' := by
  refine CW_intro 19 (by decide) (by decide) Try.func20 rfl rfl ?_
  have z2 := zero_call hb
  apply W_seq; intro b1 hb1
  apply W_region
  simp
  show W _ _ b1 _ _; subst hb1
  apply W_seq; intro b1 hb1
  apply W_seq; intro b2 hb2
  apply W_region
  simp [z2]
  show W _ _ b2 _ _; subst hb2
  by_cases hB : B = 0
  · refine W_cond (t := true) (by simp [hB]) ?_
    apply W_seq; intro b2 hb2
    apply W_region
    simp
    show W _ _ b2 _ _; subst hb2
    apply W_ret
    simp [seqQ]
    exact ⟨.refl H, .inl ⟨hB, rfl⟩⟩
  · refine W_cond (t := false) (by simp [hB]) ?_
    apply W_skip
    show W _ _ b1 _ _; subst hb1
    obtain ⟨q, r, H3, c3, k3, oq, orr⟩ := refDiv_call ha hb lA lB (by omega)
    apply W_seq; intro b1 hb1
    apply W_region
    simp [c3]
    show W _ _ b1 _ _; subst hb1
    apply W_seq; intro b2 hb2
    apply W_region
    simp
    show W _ _ b2 _ _; subst hb2
    apply W_ret
    simp
    exact ⟨k3, .inr ⟨by omega, q, r, rfl, oq, orr⟩⟩

theorem refGcd_spec (ha : Sl H va (ds b32 A)) (hb : Sl H vb (ds b32 B)) (lA : (ds b32 A).length ≤ 2 * Lim) (lB : (ds b32 B).length ≤ 2 * Lim) :
    CW Try.prog cfg0 28 [va, vb] H fun v H' => Keep H H' ∧ Sl H' v (ds b32 (Nat.gcd A B)) := by
  refine CW_intro 19 (by decide) (by decide) Try.func28 rfl rfl ?_
  apply W_seq; intro b1 hb1
  apply W_region
  simp
  show W _ _ b1 _ _; subst hb1
  apply W_seq; intro b1 hb1
  apply W_block
  refine W_loopK (fun m s' => s'.k = 19 ∧ Keep H s'.H ∧ ∃ (a : Nat) (av bv : Value), Nat.gcd a m = Nat.gcd A B ∧ (ds b32 a).length ≤ 2 * Lim ∧ (ds b32 m).length ≤ 2 * Lim ∧ Sl s'.H av (ds b32 a) ∧ Sl s'.H bv (ds b32 m) ∧ s'.tm.get 0 = some av ∧ s'.tm.get 1 = some bv) ?_ B _
    ⟨rfl, .refl H, A, va, vb, rfl, lA, lB, ha, hb, by simp, by simp⟩
  rintro m ⟨k, tm, H3⟩ ⟨hk, k3, a, av, bv, hg, la, lm, oa, ob, t0, t1⟩ Q' hQ'
  simp only at hk k3 oa ob t0 t1
  subst hk
  have z := zero_call ob
  apply W_seq; intro b3 hb3
  apply W_seq; intro b4 hb4
  apply W_region
  simp [t1, z]
  show W _ _ b4 _ _; subst hb4
  by_cases hm : m = 0
  · refine W_cond (t := false) (by simp [hm]) ?_
    apply W_exit
    apply hQ'
    left
    refine ⟨rfl, ?_⟩
    subst hm
    rw [Nat.gcd_zero_right] at hg
    show W _ _ b1 _ _; subst hb1
    apply W_seq; intro b4 hb4
    apply W_region
    simp [t0]
    show W _ _ b4 _ _; subst hb4
    apply W_ret
    simp
    rw [← hg]
    exact ⟨k3, oa⟩
  · refine W_cond (t := true) (by simp [hm]) ?_
    apply W_skip
    show W _ _ b3 _ _; subst hb3
    obtain ⟨q, r, H4, c4, k4, oq, orr⟩ := refDiv_call oa ob la lm (by omega)
    apply W_block
    apply W_seq; intro b3 hb3
    apply W_region
    simp [t0, t1, c4]
    show W _ _ b3 _ _; subst hb3
    apply W_region
    simp [t1]
    apply hQ'
    refine ⟨a % m, Nat.mod_lt _ (by omega), rfl, k3.trans k4, m, bv, r, ?_, lm, Nat.le_trans (ds_len_mono two32 (Nat.mod_le a m)) la, ob.keep k4, orr.sl, by simp, by simp⟩
    rw [← hg, Nat.gcd_comm a m, Nat.gcd_rec m a, Nat.gcd_comm]

theorem blen_lt2 {B : Nat} : blen B < 2 ↔ B < 2 := by
  constructor
  · intro h
    have := blen_lt B
    have h2 : 2 ^ blen B ≤ 2 ^ 1 := Nat.pow_le_pow_right (by decide) (by omega)
    omega
  · intro h
    have : B = 0 ∨ B = 1 := by omega
    rcases this with rfl | rfl <;> decide

set_option maxHeartbeats 1000000 in
theorem refSplit_spec (ha : Sl H va (ds b32 A)) (hb : Sl H vb (ds b32 B)) (lA : (ds b32 A).length ≤ 2 * Lim) (lB : (ds b32 B).length ≤ 2 * Lim) :
    CW Try.prog cfg0 13 [va, vb] H fun v H' => Keep H H' ∧ RefSplitIs A B v H' := by
  refine CW_intro 28 (by decide) (by decide) Try.func13 rfl rfl ?_
  have z1 := zero_call ha
  have c2 := refLen_call hb lB
  have lt2 : intBin .lss .i64 (blen B : Int) 2 = some (.bool (decide (blen B < 2))) := lss_nat (y := 2)
  apply W_seq; intro b1 hb1
  apply W_region
  simp
  show W _ _ b1 _ _; subst hb1
  apply W_seq; intro b1 hb1
  apply W_seq; intro b2 hb2
  apply W_region
  by_cases hA : A = 0
  · rw [decide_eq_true hA] at z1
    simp [z1]
    show W _ _ b2 _ _; subst hb2
    refine W_cond (t := true) (by simp) ?_
    apply W_seq; intro b2 hb2
    apply W_region
    simp
    show W _ _ b2 _ _; subst hb2
    apply W_ret
    simp [seqQ]
    exact ⟨.refl H, .inl ⟨.inl hA, rfl⟩⟩
  · by_cases hB : B < 2
    · have hbl : blen B < 2 := blen_lt2.mpr hB
      simp [z1, hA, c2, lt2, hbl]
      show W _ _ b2 _ _; subst hb2
      refine W_cond (t := true) (by simp) ?_
      apply W_seq; intro b2 hb2
      apply W_region
      simp
      show W _ _ b2 _ _; subst hb2
      apply W_ret
      simp [seqQ]
      exact ⟨.refl H, .inl ⟨.inr hB, rfl⟩⟩
    · have hbl : ¬ blen B < 2 := fun h => hB (blen_lt2.mp h)
      simp [z1, hA, c2, lt2, hbl]
      show W _ _ b2 _ _; subst hb2
      refine W_cond (t := false) (by simp) ?_
      apply W_skip
      show W _ _ b1 _ _; subst hb1
      have hB0 : 0 < B := by omega
      apply W_seq; intro b1 hb1
      apply W_region
      simp
      show W _ _ b1 _ _; subst hb1
      apply W_seq; intro b1 hb1
      apply W_block
      refine W_loopK (fun a s' => s'.k = 28 ∧ Keep H s'.H ∧ ∃ (k : Nat) (av : Value), 0 < a ∧ A = a * B ^ k ∧ (ds b32 a).length ≤ 2 * Lim ∧ Sl s'.H av (ds b32 a) ∧ s'.tm.get 0 = some av ∧ s'.tm.get 1 = some vb ∧ s'.tm.get 7 = some (.int .i64 (k : Int))) ?_ A _
        ⟨rfl, .refl H, 0, va, by omega, by simp, lA, ha, by simp, by simp, by simp⟩
      rintro a ⟨k', tm, H3⟩ ⟨hk, k3, k, av, ha0, hAe, la, oa, t0, t1, t7⟩ Q' hQ'
      simp only at hk k3 oa t0 t1 t7
      subst hk
      obtain ⟨_, H4, c4, k4, rfl⟩ := refDivides_spec oa (hb.keep k3) la lB
      have hkb : k < 64 * (2 * Lim) := by
        have h1 := ds_lt two32 A
        have h2 : b32 ^ (ds b32 A).length ≤ B64 ^ (ds b32 A).length := Nat.pow_le_pow_left (by decide) _
        exact split_bound hAe (by omega) (by omega) (Nat.le_trans (ds_len_le two64 (Nat.lt_of_lt_of_le h1 h2)) lA)
      have hkb : k < 64 * (2 * 2000000000000) := hkb
      apply W_seq; intro b3 hb3
      apply W_seq; intro b4 hb4
      apply W_region
      simp [t0, t1, c4]
      show W _ _ b4 _ _; subst hb4
      by_cases hr : a % B = 0
      · refine W_cond (t := true) (by simp [dividesB, hr]) ?_
        apply W_skip
        show W _ _ b3 _ _; subst hb3
        obtain ⟨q, r, H5, c5, k5, oq, orr⟩ := refDiv_call (oa.keep k4) ((hb.keep k3).keep k4) la lB hB0
        have hdm : a = a / B * B := by
          have := Nat.div_add_mod a B
          rw [Nat.mul_comm] at this
          omega
        have hq0 : 0 < a / B := by
          rcases Nat.eq_zero_or_pos (a / B) with h0 | h0
          · rw [h0, Nat.zero_mul] at hdm; omega
          · exact h0
        apply W_block
        apply W_seq; intro b3 hb3
        apply W_region
        simp [t0, t1, c5]
        show W _ _ b3 _ _; subst hb3
        apply W_region
        simp [t7, add1_i64 (x := k) (by omega)]
        apply hQ'
        refine ⟨a / B, Nat.div_lt_self ha0 (by omega), rfl, (k3.trans k4).trans k5, k + 1, q, hq0, ?_, Nat.le_trans (ds_len_mono two32 (Nat.div_le_self a B)) la, oq.sl, by simp, by simp [t1], by simp⟩
        rw [Nat.pow_succ, Nat.mul_comm (B ^ k) B, ← Nat.mul_assoc, ← hdm]
        exact hAe
      · refine W_cond (t := false) (by simp [dividesB, hr]) ?_
        apply W_exit
        apply hQ'
        left
        refine ⟨rfl, ?_⟩
        show W _ _ b1 _ _; subst hb1
        apply W_seq; intro b4 hb4
        apply W_region
        simp [t0, t7]
        show W _ _ b4 _ _; subst hb4
        apply W_ret
        simp
        exact ⟨k3.trans k4, .inr ⟨by omega, by omega, k, a, av, ⟨hAe, hr⟩, rfl, oa.keep k4, la⟩⟩
end

/-! ### the law's own -/
/-- When an answer is the number, or the error. -/
def SameIs (xs : List Nat) (e : Nat) (N code : Nat) : Prop :=
  (code ≠ 0 ∧ e = code ∧ xs = []) ∨ (code = 0 ∧ 67108864 < blen N ∧ e = 3 ∧ xs = []) ∨ (code = 0 ∧ blen N ≤ 67108864 ∧ e = 0 ∧ xs = ds B64 N)

theorem same_spec {H : AH} {v w : Value} {xs : List Nat} {N e code : Nat} (hv : Sl H v xs) (hw : Sl H w (ds b32 N)) (hl : (ds b32 N).length ≤ 2 * Lim) (hs : SameIs xs e N code) (he : e < 1000) (hc : code < 1000) :
    CW Try.prog cfg0 16 [v, .int .i64 (e : Int), w, .int .i64 (code : Int)] H fun v' H' => Keep H H' ∧ v' = .bool true := by
  refine CW_intro 33 (by decide) (by decide) Try.func16 rfl rfl ?_
  have c2 := refLen_call hw hl
  have l1 := hv.len ltNat
  apply W_seq; intro b1 hb1
  apply W_region
  simp
  show W _ _ b1 _ _; subst hb1
  obtain ⟨c', hc'⟩ : ∃ c', c' = if code = 0 ∧ 67108864 < blen N then 3 else code := ⟨_, rfl⟩
  refine W_thenK (fun s' => s'.k = 33 ∧ s'.H = H ∧ s'.tm.get 0 = some v ∧ s'.tm.get 1 = some (.int .i64 (e : Int)) ∧ s'.tm.get 2 = some w ∧ s'.tm.get 3 = some (.int .i64 (c' : Int))) ?_ ?_
  · intro Q' hQ'
    apply W_seq; intro b1 hb1
    apply W_region
    by_cases h0 : code = 0
    · subst h0
      have f1 : intBin .eql .i64 0 0 = some (.bool true) := rfl
      by_cases hb : 67108864 < blen N
      · simp [f1, c2, gtrMax, hb]
        show W _ _ b1 _ _; subst hb1
        refine W_cond (t := true) (by simp) ?_
        apply W_region
        simp
        apply hQ'
        rw [if_pos ⟨rfl, hb⟩] at hc'
        subst hc'
        exact ⟨rfl, rfl, by simp, by simp, by simp, by simp⟩
      · simp [f1, c2, gtrMax, hb]
        show W _ _ b1 _ _; subst hb1
        refine W_cond (t := false) (by simp) ?_
        apply W_skip
        apply hQ'
        rw [if_neg (fun h => hb h.2)] at hc'
        subst hc'
        exact ⟨rfl, rfl, by simp, by simp, by simp, by simp⟩
    · have f1 : intBin .eql .i64 (code : Int) 0 = some (.bool false) := by rw [eq0_nat, decide_eq_false]; exact h0
      simp [f1]
      show W _ _ b1 _ _; subst hb1
      refine W_cond (t := false) (by simp) ?_
      apply W_skip
      apply hQ'
      rw [if_neg (fun h => h0 h.1)] at hc'
      subst hc'
      exact ⟨rfl, rfl, by simp, by simp, by simp, by simp⟩
  rintro ⟨k, tm, H'⟩ ⟨hk, hH, t0, t1, t2, t3⟩
  simp only at hk hH t0 t1 t2 t3
  subst hk; subst hH
  apply W_seq; intro b1 hb1
  apply W_seq; intro b2 hb2
  apply W_region
  have f2 : intBin .neq .i64 (c' : Int) 0 = some (.bool (decide (c' ≠ 0))) := neq_nat (y := 0)
  simp [t3, f2]
  show W _ _ b2 _ _; subst hb2
  by_cases h0 : c' = 0
  · refine W_cond (t := false) (by simp [h0]) ?_
    apply W_skip
    show W _ _ b1 _ _; subst hb1
    have hok : code = 0 ∧ blen N ≤ 67108864 := by
      by_cases h1 : code = 0 ∧ 67108864 < blen N
      · rw [if_pos h1] at hc'; omega
      · rw [if_neg h1] at hc'; omega
    obtain ⟨he0, hxs⟩ : e = 0 ∧ xs = ds B64 N := by
      rcases hs with ⟨a, _⟩ | ⟨_, a, _⟩ | ⟨_, _, a, b⟩
      · exact absurd hok.1 a
      · omega
      · exact ⟨a, b⟩
    have f3 : intBin .eql .i64 (e : Int) 0 = some (.bool true) := by rw [eq0_nat, decide_eq_true]; exact he0
    obtain ⟨_, H2, c3, k3, e3⟩ := is_spec hw hv (ds_dig two32 N) (Nat.le_trans hl (by decide))
    subst e3
    rw [pairs_ds, hxs, decide_eq_true rfl] at c3
    apply W_seq; intro b2 hb2
    apply W_region
    simp [t0, t1, t2, f3, c3]
    show W _ _ b2 _ _; subst hb2
    apply W_ret
    simp
    exact k3
  · refine W_cond (t := true) (by simp [h0]) ?_
    obtain ⟨he0, hxs⟩ : e = c' ∧ xs = [] := by
      rcases hs with ⟨a, b, c⟩ | ⟨a, b, c, d⟩ | ⟨a, b, c, d⟩
      · rw [if_neg (fun h => a h.1)] at hc'; exact ⟨by omega, c⟩
      · rw [if_pos ⟨a, b⟩] at hc'; exact ⟨by omega, d⟩
      · rw [if_neg (by omega)] at hc'; omega
    subst hxs
    have f3 : intBin .eql .i64 (e : Int) (c' : Int) = some (.bool true) := by rw [eql_nat, decide_eq_true]; exact he0
    apply W_seq; intro b2 hb2
    apply W_region
    simp [t0, t1, t3, f3, l1]
    have f4 : intBin .eql .i64 0 0 = some (.bool true) := rfl
    simp [f4]
    show W _ _ b2 _ _; subst hb2
    apply W_ret
    simp [seqQ]
    exact .refl _
end
end Go.Proofs.Ytldapilhmmbjhaa

/-
  surdlaw03: lives (the document's examples).
-/
namespace Go.Proofs.Ytldapilhmmbjhaa
open Go Ev
set_option linter.unusedVariables false
set_option linter.unusedSimpArgs false
noncomputable section

attribute [-simp] Int.natCast_add Int.natCast_mul Int.natCast_ediv Int.natCast_emod Int.natCast_pow
attribute [local simp] strip stripL LW' LR gW evOp oMove oAssign oPick oBinOp oUnOp oConvert oExtract oIndexAddr oIndex oLoad oStore oSlice oMakeSlice oCall oBuildSlice opd opds optOpd plain plain1 Tr.get_set tmOf builtinV binV isShift sameKind undef resultV resOne packV ltNat ltNum ltLst calleeV parts lss_nat unV DW grdOf heapOp LX isStore

set_option maxHeartbeats 1000000 in
theorem lives_spec (H : AH) : CW Try.prog cfg0 11 [] H fun v H' => Keep H H' ∧ v = .bool true := by
  refine CW_intro 38 (by decide) (by decide) Try.func11 rfl rfl ?_
  obtain ⟨v1, N1, b1c, k1, o1⟩ := build1_call H ltNat 100
  obtain ⟨v2, N2, b2c, k2, o2⟩ := build1_call N1 ltNat 7
  have b1c : buildSliceV Try.prog H 24 1 [(0, .int .u64 100)] = some (v1, N1) := b1c
  have b2c : buildSliceV Try.prog N1 24 1 [(0, .int .u64 7)] = some (v2, N2) := b2c
  obtain ⟨vb, H1, c1, k3, hb⟩ := both_spec (o1.sl.keep k2) o2.sl (dig1 (by decide)) (dig1 (by decide)) (by decide) (by decide)
  rw [dv1, dv1] at hb
  obtain ⟨q, r, rfl, oq, orr⟩ : ∃ q r, vb = .tuple #[q, r, .int .i64 0] ∧ Own N2.n H1 q [14] ∧ Own N2.n H1 r [2] := by
    rcases hb with ⟨h, _⟩ | ⟨_, h, _⟩ | ⟨_, _, _, q, r, e, oq, orr, _⟩
    · exact absurd h (by decide)
    · exact absurd h (by decide)
    · refine ⟨q, r, e, ?_, ?_⟩
      · rwa [show (100 : Nat) / 7 = 14 by decide, ds1 (by decide) (by decide)] at oq
      · rwa [show (100 : Nat) % 7 = 2 by decide, ds1 (by decide) (by decide)] at orr
  obtain ⟨v3, N3, b3c, k4, o3⟩ := build1_call H1 ltNat 14
  have b3c : buildSliceV Try.prog H1 24 1 [(0, .int .u64 14)] = some (v3, N3) := b3c
  have c3 := cmp_call (oq.sl.keep k4) o3.sl (dig1 (by decide)) (dig1 (by decide)) (by decide) (by decide)
  rw [show cmpN (dv B64 [14]) (dv B64 [14]) = 0 by simp [cmpN]] at c3
  obtain ⟨v4, N4, b4c, k5, o4⟩ := build1_call N3 ltNat 2
  have b4c : buildSliceV Try.prog N3 24 1 [(0, .int .u64 2)] = some (v4, N4) := b4c
  have c4 := cmp_call ((orr.sl.keep k4).keep k5) o4.sl (dig1 (by decide)) (dig1 (by decide)) (by decide) (by decide)
  rw [show cmpN (dv B64 [2]) (dv B64 [2]) = 0 by simp [cmpN]] at c4
  obtain ⟨v5, N5, b5c, k6, o5⟩ := build1_call N4 ltNat 48
  have b5c : buildSliceV Try.prog N4 24 1 [(0, .int .u64 48)] = some (v5, N5) := b5c
  obtain ⟨v6, N6, b6c, k7, o6⟩ := build1_call N5 ltNat 36
  have b6c : buildSliceV Try.prog N5 24 1 [(0, .int .u64 36)] = some (v6, N6) := b6c
  obtain ⟨vg, H2, c5, k8, og⟩ := gcd_spec (o5.sl.keep k7) o6.sl (dig1 (by decide)) (dig1 (by decide)) (by decide) (by decide)
  rw [dv1, dv1, show Nat.gcd 48 36 = 12 by decide, ds1 (by decide) (by decide)] at og
  obtain ⟨v7, N7, b7c, k9, o7⟩ := build1_call H2 ltNat 12
  have b7c : buildSliceV Try.prog H2 24 1 [(0, .int .u64 12)] = some (v7, N7) := b7c
  have c6 := cmp_call (og.sl.keep k9) o7.sl (dig1 (by decide)) (dig1 (by decide)) (by decide) (by decide)
  rw [show cmpN (dv B64 [12]) (dv B64 [12]) = 0 by simp [cmpN]] at c6
  have lq := oq.sl.len ltNat
  have f0 : intBin .eql .i64 0 0 = some (.bool true) := rfl
  have f1 : intBin .eql .i64 1 1 = some (.bool true) := rfl
  apply W_seq; intro b1 hb1
  apply W_region
  simp
  show W _ _ b1 _ _; subst hb1
  apply W_seq; intro b1 hb1
  apply W_region
  simp [b1c, b2c, c1]
  show W _ _ b1 _ _; subst hb1
  apply W_seq; intro b1 hb1
  apply W_region
  simp [f0, f1, b3c, c3, b4c, c4, b5c, b6c, c5, b7c, c6, lq]
  show W _ _ b1 _ _; subst hb1
  apply W_ret
  simp
  exact (((((((k1.trans k2).trans k3).trans k4).trans k5).trans k6).trans k7).trans k8).trans k9

theorem lives_call (H : AH) : ∃ H', callI Try.prog cfg0 11 [] H = some (.bool true, H') ∧ Keep H H' := by
  obtain ⟨_, H', hc, k, rfl⟩ := lives_spec H
  exact ⟨H', hc, k⟩

/-! ### the list of lists that a call with dots is given -/
theorem tLL : sliceT Try.prog 62 = some (23, 1, 24) := by kernel_rfl
theorem zLst : zeroT Try.prog 23 = some (.slice none 0 0) := by kernel_rfl

theorem buildLL1 (H : AH) (v : Value) (hv : v.cells = #[v]) : buildSliceV Try.prog H 62 1 [(0, v)] = some (.slice (some ⟨H.n, 0, none⟩) 1 1, H.new 1 [v]) := by
  unfold buildSliceV
  simp only [tLL, zLst]
  have : Instr.fill (fun i => some (i * 1, 1)) ((Array.range (1 * 1)).map ((Value.slice none 0 0).cells[· % (Value.slice none 0 0).cells.size]!)) [(0, v)] = some #[v] := by
    simp only [Instr.fill, hv]
    kernel_rfl
  rw [this]
  have e : Nat.ble (1 * 1) (2 ^ 24) = true := by decide
  rw [e]
  rfl

theorem grp1 {n0 : Nat} {H : AH} {v : Value} {xs : List Nat} (h : Own n0 H v xs) (hn : n0 ≤ H.n) : Grp n0 (H.new 1 [v]) H.n [v] (fun _ => xs) := by
  have hk := Keep.new H 1 [v]
  refine ⟨hn, Nat.lt_succ_self _, by rw [AH.blk_new, if_pos rfl], ?_, ?_, ?_⟩
  · intro i w hi
    match i, hi with
    | 0, hi => cases hi; exact h.mono (Nat.le_refl _) hk
  · intro i j w w' hij hi hj
    match i, j, hi, hj with
    | 0, 0, _, _ => exact absurd rfl hij
  · intro i w hi hw
    match i, hi with
    | 0, hi =>
      cases hi
      have := (h.blk_lo hw).2
      omega
end
end Go.Proofs.Ytldapilhmmbjhaa

/-
  surdref01: Lend, Kept.
-/
namespace Go.Proofs.Ytldapilhmmbjhaa
open Go Ev
set_option linter.unusedVariables false
set_option linter.unusedSimpArgs false
noncomputable section

abbrev junk : Nat := 10855845

/-- 'v[j:j+m]' of a list, where something stands from j on. -/
theorem Sl.part' {H : AH} {v : Value} {xs : List Nat} (h : Sl H v xs) {t : TypeId} (ht : LT t) {j m : Nat} (hm : j + m ≤ xs.length) (h0 : j < xs.length) :
    ∃ w, sliceV Try.prog H t v (some (.int .i64 (j : Int))) (some (.int .i64 ((j + m : Nat) : Int))) none = some w ∧ Sl H w ((xs.drop j).take m) ∧ vblk w = vblk v := by
  cases h with
  | nil => simp at h0
  | emp b => simp at h0
  | mk b o cap xs h1 h2 =>
    have hl : ((xs.drop j).take m).length = m := by rw [List.length_take, List.length_drop]; omega
    obtain ⟨h2a, cs, h3, h4, h5⟩ := h2
    refine ⟨.slice (some ⟨b, o + j, none⟩) ((xs.drop j).take m).length (cap - j), ?_, .mk b (o + j) (cap - j) _ (by omega) ⟨h2a, cs, h3, h4, fun i x hx => ?_, by have := (List.getElem?_eq_some_iff.mp (h5.1 j _ (List.getElem?_eq_getElem h0))).1; omega⟩, rfl⟩
    · unfold sliceV
      simp only [ht.1, sU64]
      unfold cutV boundV
      simp only [h4, Option.isSome_some, Option.isNone_none, Bool.true_or]
      rw [if_pos (by omega)]
      have e1 : Nat.ble (j + m) cap = true := Nat.ble_eq.mpr (by omega)
      have e2 : Nat.blt j cap = true := by rw [Nat.blt_eq]; omega
      simp only [boundV, Int.toNat_natCast]
      rw [if_pos (by omega)]
      simp [e1, e2, hl]
    · rw [List.getElem?_take] at hx
      split at hx
      · rw [List.getElem?_drop] at hx
        have := h5.1 (j + i) x hx
        rwa [← Nat.add_assoc] at this
      · cases hx

attribute [-simp] Int.natCast_add Int.natCast_mul Int.natCast_ediv Int.natCast_emod Int.natCast_pow
attribute [local simp] strip stripL LW' LR gW evOp oMove oAssign oPick oBinOp oUnOp oConvert oExtract oIndexAddr oIndex oLoad oStore oSlice oMakeSlice oCall oBuildSlice opd opds optOpd plain plain1 Tr.get_set tmOf builtinV binV isShift sameKind undef resultV resOne packV ltNat ltNum ltLst calleeV parts lss_nat unV DW grdOf heapOp LX isStore

theorem lend_spec {H : AH} {v : Value} {xs : List Nat} (hv : Sl H v xs) (hl : xs.length ≤ Lim) :
    CW Try.prog cfg0 18 [v] H fun v' H' => Keep H H' ∧ ∃ w p, v' = .tuple #[w, p] ∧ Sl H' w ([junk, junk] ++ xs ++ [junk, junk]) ∧ Sl H' p xs := by
  refine CW_intro 40 (by decide) (by decide) Try.func18 rfl rfl ?_
  have l1 := hv.len ltLst
  obtain ⟨n, hn⟩ : ∃ n, n = xs.length := ⟨_, rfl⟩
  rw [← hn] at l1
  have hl : n ≤ 2000000000000 := by rw [hn]; exact hl
  obtain ⟨c0, H1, hmk, k1, o1, n1⟩ := makeSlice_own (H := H) ltLst (n := n + 4) (by omega)
  have add4 : intBin .add .i64 (n : Int) 4 = some (.int .i64 ((n + 4 : Nat) : Int)) := add_i64 (y := 4) (by omega)
  have add2 : intBin .add .i64 (n : Int) 2 = some (.int .i64 ((2 + n : Nat) : Int)) := by rw [Nat.add_comm]; exact add_i64 (y := 2) (by omega)
  apply W_seq; intro b1 hb1
  apply W_region
  simp
  show W _ _ b1 _ _; subst hb1
  apply W_seq; intro b1 hb1
  apply W_region
  simp [l1, add4, hmk]
  show W _ _ b1 _ _; subst hb1
  refine W_thenK (fun s' => s'.k = 40 ∧ Keep H s'.H ∧ Own H.n s'.H c0 (List.replicate (n + 4) junk) ∧ s'.tm.get 0 = some v ∧ s'.tm.get 4 = some c0) ?_ ?_
  · intro Q'' hQ''
    have l0 := o1.sl.len ltLst
    rw [List.length_replicate] at l0
    apply W_seq; intro b1 hb1
    apply W_region
    simp [l0]
    show W _ _ b1 _ _; subst hb1
    apply W_block
    refine W_loopK (fun m s' => s'.k = 40 ∧ Keep H s'.H ∧ ∃ i, m + i = n + 4 ∧ Own H.n s'.H c0 (List.replicate i junk ++ List.replicate m 0) ∧ s'.tm.get 0 = some v ∧ s'.tm.get 4 = some c0 ∧ s'.tm.get 13 = some (.int .i64 ((n + 4 : Nat) : Int)) ∧ s'.tm.get 14 = some (.int .i64 (i : Int))) ?_ (n + 4) _
      ⟨rfl, k1, 0, by omega, by simpa using o1, by simp, by simp, by simp, by simp⟩
    rintro m ⟨k, tm, H2⟩ ⟨hk, kH, i, hmi, own, t0, t4, t13, t14⟩ Q' hQ'
    simp only at hk kH own t0 t4 t13 t14
    subst hk
    apply W_seq; intro b3 hb3
    apply W_region
    simp [t13, t14]
    show W _ _ b3 _ _; subst hb3
    apply W_seq; intro b3 hb3
    by_cases hi : i < n + 4
    · refine W_cond (t := true) (by simp [hi]) ?_
      apply W_skip
      show W _ _ b3 _ _; subst hb3
      obtain ⟨m', rfl⟩ : ∃ m', m = m' + 1 := ⟨m - 1, by omega⟩
      have a1 := own.sl.adr ltLst (k := .i64) (i := i) (by simp)
      obtain ⟨H3, st3, own3, bt3, ka3⟩ := own.fill (i := i) (by simp) junk
      have st3 : storeV Try.prog H2 55 (adr c0 i) (.int .u64 10855845) = some H3 := st3
      apply W_seq; intro b3 hb3
      apply W_block
      apply W_seq; intro b4 hb4
      apply W_region
      simp [t14]
      show W _ _ b4 _ _; subst hb4
      apply W_region
      simp [t4, a1, st3]
      show W _ _ b3 _ _; subst hb3
      apply W_region
      simp [t14, add1_i64 (x := i) (by omega)]
      apply hQ'
      refine ⟨m', by omega, rfl, ka3 H kH (Nat.le_refl _), i + 1, by omega, ?_, by simp [t0], by simp [t4], by simp [t13], by simp⟩
      rw [List.replicate_succ']
      exact own3
    · refine W_cond (t := false) (by simp [hi]) ?_
      apply W_exit
      apply hQ'
      left
      obtain rfl : m = 0 := by omega
      obtain rfl : i = n + 4 := by omega
      exact ⟨rfl, hQ'' _ ⟨rfl, kH, by simpa using own, by simp [t0], by simp [t4]⟩⟩
  rintro ⟨k, tm, H2⟩ ⟨hk, k2, own2, t0, t4⟩
  simp only at hk k2 own2 t0 t4
  subst hk
  have e0 : List.replicate (n + 4) junk = [junk, junk] ++ xs.take 0 ++ List.replicate (n - 0) junk ++ [junk, junk] := by
    rw [List.take_zero, List.append_nil, Nat.sub_zero]
    have e1 : [junk, junk] = List.replicate 2 junk := rfl
    rw [e1, List.replicate_append_replicate, List.replicate_append_replicate]
    congr 1; omega
  rw [e0] at own2
  refine W_thenK (fun s' => s'.k = 40 ∧ Keep H s'.H ∧ Own H.n s'.H c0 ([junk, junk] ++ xs ++ [junk, junk]) ∧ s'.tm.get 0 = some v ∧ s'.tm.get 4 = some c0) ?_ ?_
  · intro Q'' hQ''
    apply W_seq; intro b1 hb1
    apply W_region
    simp [t0, l1]
    show W _ _ b1 _ _; subst hb1
    apply W_block
    refine W_loopK (fun m s' => s'.k = 40 ∧ Keep H s'.H ∧ ∃ i, m + i = n ∧ Own H.n s'.H c0 ([junk, junk] ++ xs.take i ++ List.replicate (n - i) junk ++ [junk, junk]) ∧ s'.tm.get 0 = some v ∧ s'.tm.get 4 = some c0 ∧ s'.tm.get 21 = some v ∧ s'.tm.get 22 = some (.int .i64 (n : Int)) ∧ s'.tm.get 23 = some (.int .i64 (i : Int))) ?_ n _
      ⟨rfl, k2, 0, by omega, own2, by simp [t0], by simp [t4], by simp [t0], by simp, by simp⟩
    clear t0 t4 own2 k2
    rintro m ⟨k, tm, H3⟩ ⟨hk, kH, i, hmi, own, t0, t4, t21, t22, t23⟩ Q' hQ'
    simp only at hk kH own t0 t4 t21 t22 t23
    subst hk
    apply W_seq; intro b3 hb3
    apply W_region
    simp [t22, t23]
    show W _ _ b3 _ _; subst hb3
    apply W_seq; intro b3 hb3
    by_cases hi : i < n
    · refine W_cond (t := true) (by simp [hi]) ?_
      apply W_skip
      show W _ _ b3 _ _; subst hb3
      have hi' : i < xs.length := by omega
      have sv := hv.keep kH
      have a1 := sv.adr ltLst (k := .i64) hi'
      have d1 := sv.load hi'
      obtain ⟨x, hx⟩ : ∃ x, x = xs[i] := ⟨_, rfl⟩
      rw [← hx] at d1
      have r1 : intBin .add .i64 (i : Int) 2 = some (.int .i64 ((i + 2 : Nat) : Int)) := add_i64 (y := 2) (by omega)
      have hsp : [junk, junk] ++ xs.take i ++ List.replicate (n - i) junk ++ [junk, junk] = ([junk, junk] ++ xs.take i) ++ junk :: (List.replicate (n - (i + 1)) junk ++ [junk, junk]) := by
        rw [show n - i = (n - (i + 1)) + 1 by omega, List.replicate_succ]; simp
      rw [hsp] at own
      have lp : ([junk, junk] ++ xs.take i).length = i + 2 := by simp; omega
      have a2 := own.sl.adr ltLst (k := .i64) (i := i + 2) (by rw [List.length_append, lp, List.length_cons]; omega)
      obtain ⟨H4, st4, own4, n4, bt4, ka4⟩ := own.put (i := i + 2) (by rw [List.length_append, lp, List.length_cons]; omega) x
      rw [set_mid _ _ _ _ lp] at own4
      apply W_seq; intro b3 hb3
      apply W_block
      apply W_seq; intro b4 hb4
      apply W_region
      simp [t21, t23, a1, d1]
      show W _ _ b4 _ _; subst hb4
      apply W_region
      simp [t4, r1, a2, st4]
      show W _ _ b3 _ _; subst hb3
      apply W_region
      simp [t23, add1_i64 (x := i) (by omega)]
      apply hQ'
      refine ⟨m - 1, by omega, rfl, ka4 H kH (Nat.le_refl _), i + 1, by omega, ?_, by simp [t0], by simp [t4], by simp [t21], by simp [t22], by simp⟩
      rw [take_snoc hi', ← hx]
      simpa using own4
    · refine W_cond (t := false) (by simp [hi]) ?_
      apply W_exit
      apply hQ'
      left
      obtain rfl : i = n := by omega
      rw [Nat.sub_self, hn, List.take_length] at own
      exact ⟨rfl, hQ'' _ ⟨rfl, kH, by simpa using own, by simp [t0], by simp [t4]⟩⟩
  clear t0 t4 own2 k2
  rintro ⟨k, tm, H3⟩ ⟨hk, k3, own3, t0, t4⟩
  simp only at hk k3 own3 t0 t4
  subst hk
  obtain ⟨p, hp, sp, _⟩ := own3.sl.top.part' ltLst (j := 2) (m := n) (by simp; omega) (by simp)
  have hp : sliceV Try.prog H3.top 23 c0 (some (.int .i64 2)) (some (.int .i64 ((2 + n : Nat) : Int))) none = some p := hp
  have sp' : Sl H3 p xs := by
    have e : (([junk, junk] ++ xs ++ [junk, junk]).drop 2).take n = xs := by simp [hn]
    rw [e] at sp
    exact sp.same ⟨rfl, fun _ _ _ => rfl⟩
  apply W_seq; intro b1 hb1
  apply W_reads (by kernel_rfl)
  simp [t0, t4, l1, add2, hp]
  show W _ _ b1 _ _; subst hb1
  apply W_ret
  simp
  exact ⟨k3, c0, p, ⟨rfl, rfl⟩, by simpa using own3.sl, sp'⟩

theorem kept_spec {H : AH} {w v : Value} {xs : List Nat} (hw : Sl H w ([junk, junk] ++ xs ++ [junk, junk])) (hv : Sl H v xs) (hl : xs.length ≤ Lim) :
    CW Try.prog cfg0 25 [w, v] H fun v' H' => H' = H ∧ v' = .bool true := by
  refine CW_intro 39 (by decide) (by decide) Try.func25 rfl rfl ?_
  have l1 := hv.len ltLst
  have l2 := hw.len ltLst
  obtain ⟨n, hn⟩ : ∃ n, n = xs.length := ⟨_, rfl⟩
  rw [← hn] at l1
  have hlw : ([junk, junk] ++ xs ++ [junk, junk]).length = n + 4 := by simp; omega
  rw [hlw] at l2
  have hl : n ≤ 2000000000000 := by rw [hn]; exact hl
  have add4 : intBin .add .i64 (n : Int) 4 = some (.int .i64 ((n + 4 : Nat) : Int)) := add_i64 (y := 4) (by omega)
  have add2 : intBin .add .i64 (n : Int) 2 = some (.int .i64 ((n + 2 : Nat) : Int)) := add_i64 (y := 2) (by omega)
  apply W_seq; intro b1 hb1
  apply W_region
  simp
  show W _ _ b1 _ _; subst hb1
  apply W_seq; intro b1 hb1
  apply W_seq; intro b2 hb2
  apply W_region
  simp [l1, l2, add4, neq_nat]
  show W _ _ b2 _ _; subst hb2
  refine W_cond (t := false) (by simp) ?_
  apply W_skip
  show W _ _ b1 _ _; subst hb1
  apply W_seq; intro b1 hb1
  apply W_seq; intro b2 hb2
  apply W_region
  simp [l2]
  show W _ _ b2 _ _; subst hb2
  apply W_block
  refine W_loopK (fun m s' => s'.k = 39 ∧ s'.H = H ∧ ∃ i, m + i = n + 4 ∧ s'.tm.get 1 = some v ∧ s'.tm.get 13 = some w ∧ s'.tm.get 14 = some (.int .i64 ((n + 4 : Nat) : Int)) ∧ s'.tm.get 15 = some (.int .i64 (i : Int))) ?_ (n + 4) _
    ⟨rfl, rfl, 0, by omega, by simp, by simp, by simp, by simp⟩
  rintro m ⟨k, tm, H2⟩ ⟨hk, hH, i, hmi, t1, t13, t14, t15⟩ Q' hQ'
  simp only at hk hH t1 t13 t14 t15
  subst hk; subst hH
  apply W_seq; intro b3 hb3
  apply W_region
  simp [t14, t15]
  show W _ _ b3 _ _; subst hb3
  apply W_seq; intro b3 hb3
  by_cases hi : i < n + 4
  · refine W_cond (t := true) (by simp [hi]) ?_
    apply W_skip
    show W _ _ b3 _ _; subst hb3
    have a1 := hw.adr ltLst (k := .i64) (i := i) (by rw [hlw]; exact hi)
    have d1 := hw.load (i := i) (by rw [hlw]; exact hi)
    obtain ⟨x, hx⟩ : ∃ x, x = ([junk, junk] ++ xs ++ [junk, junk])[i]'(by rw [hlw]; exact hi) := ⟨_, rfl⟩
    rw [← hx] at d1
    have lt2 : intBin .lss .i64 (i : Int) 2 = some (.bool (decide (i < 2))) := lss_nat (y := 2)
    apply W_seq; intro b3 hb3
    have fin' : ∀ tm' : Tr Value, tm'.get 1 = some v → tm'.get 13 = some w → tm'.get 14 = some (.int .i64 ((n + 4 : Nat) : Int)) → tm'.get 15 = some (.int .i64 (i : Int)) → W Try.prog cfg0 b3 ⟨39, tm', H2⟩ Q' := fun tm' t1 t13 t14 t15 => by
      subst hb3
      apply W_region
      simp [t15, add1_i64 (x := i) (by omega)]
      apply hQ'
      exact ⟨m - 1, by omega, rfl, rfl, i + 1, by omega, by simp [t1], by simp [t13], by simp [t14], by simp⟩
    apply W_block
    apply W_seq; intro b4 hb4
    apply W_region
    simp [t13, t15, a1, d1]
    show W _ _ b4 _ _; subst hb4
    apply W_seq; intro b4 hb4
    apply W_region
    have edge : (i < 2 ∨ n + 2 ≤ i) → ∀ tm' : Tr Value, tm'.get 28 = some (.bool true) → tm'.get 6 = some (.int .u64 (x : Int)) → tm'.get 1 = some v → tm'.get 13 = some w → tm'.get 14 = some (.int .i64 ((n + 4 : Nat) : Int)) → tm'.get 15 = some (.int .i64 (i : Int)) → W Try.prog cfg0 b4 ⟨39, tm', H2⟩ (blockQ 1 (seqQ Try.prog cfg0 b3 Q')) := fun he tm' t28 t6 t1 t13 t14 t15 => by
      have hxj : x = junk := by
        rw [hx]
        rcases he with he | he
        · have : i = 0 ∨ i = 1 := by omega
          rcases this with rfl | rfl <;> rfl
        · rw [List.getElem_append_right (by simp; omega)]
          have : i - ([junk, junk] ++ xs).length = 0 ∨ i - ([junk, junk] ++ xs).length = 1 := by simp; omega
          rcases this with e | e <;> simp only [e] <;> rfl
      have f1 : intBin .neq .u64 (x : Int) 10855845 = some (.bool false) := by rw [hxj]; rfl
      subst hb4
      refine W_cond (t := true) (by simp [t28]) ?_
      apply W_seq; intro b5 hb5
      apply W_region
      simp [t6, f1]
      show W _ _ b5 _ _; subst hb5
      refine W_cond (t := false) (by simp) ?_
      apply W_skip
      show W _ _ b3 _ _
      exact fin' _ (by simp [t1]) (by simp [t13]) (by simp [t14]) (by simp [t15])
    by_cases h2 : i < 2
    · simp [lt2, h2]
      show W _ _ b4 _ _
      exact edge (.inl h2) _ (by simp) (by simp) (by simp [t1]) (by simp [t13]) (by simp [t14]) (by simp [t15])
    · by_cases h3 : n + 2 ≤ i
      · simp [t1, lt2, h2, l1, add2, geq_nat, h3]
        show W _ _ b4 _ _
        exact edge (.inr h3) _ (by simp) (by simp) (by simp [t1]) (by simp [t13]) (by simp [t14]) (by simp [t15])
      · simp [t1, lt2, h2, l1, add2, geq_nat, h3]
        show W _ _ b4 _ _; subst hb4
        refine W_cond (t := false) (by simp) ?_
        have hi2 : i - 2 < xs.length := by omega
        have a2 := hv.adr ltLst (k := .i64) hi2
        have d2 := hv.load hi2
        have hxe : xs[i - 2] = x := by
          rw [hx, List.getElem_append_left (by simp; omega), List.getElem_append_right (by simp; omega)]
          rfl
        rw [hxe] at d2
        have r2 : intBin .sub .i64 (i : Int) 2 = some (.int .i64 ((i - 2 : Nat) : Int)) := sub2_i64 (by omega) (by omega)
        apply W_seq; intro b5 hb5
        apply W_region
        simp [t1, r2, a2, d2, neq_nat]
        show W _ _ b5 _ _; subst hb5
        refine W_cond (t := false) (by simp) ?_
        apply W_skip
        show W _ _ b3 _ _
        exact fin' _ (by simp [t1]) (by simp [t13]) (by simp [t14]) (by simp [t15])
  · refine W_cond (t := false) (by simp [hi]) ?_
    apply W_exit
    apply hQ'
    left
    refine ⟨rfl, ?_⟩
    show W _ _ b1 _ _; subst hb1
    apply W_seq; intro b4 hb4
    apply W_region
    simp
    show W _ _ b4 _ _; subst hb4
    apply W_ret
    simp
end
end Go.Proofs.Ytldapilhmmbjhaa

/-
  mul: part, addAt, sum, less.
-/
namespace Go.Proofs.Ytldapilhmmbjhaa
open Go Ev
set_option linter.unusedVariables false
set_option linter.unusedSimpArgs false
noncomputable section

theorem dv_set (B : Nat) : ∀ (xs : List Nat) (i y : Nat) (h : i < xs.length), dv B (xs.set i y) + B ^ i * xs[i] = dv B xs + B ^ i * y
  | x :: xs, 0, y, _ => by simp [dv]; omega
  | x :: xs, i + 1, y, h => by
    have h' : i < xs.length := by simpa using h
    have ih := dv_set B xs i y h'
    simp only [List.set_cons_succ, dv, List.getElem_cons_succ, Nat.pow_succ]
    have e : B * (dv B (xs.set i y) + B ^ i * xs[i]) = B * (dv B xs + B ^ i * y) := by rw [ih]
    rw [Nat.mul_add, Nat.mul_add] at e
    rw [Nat.mul_comm (B ^ i) B, Nat.mul_assoc, Nat.mul_assoc]
    omega

theorem Dig.set {B : Nat} {xs : List Nat} (h : Dig B xs) {i y : Nat} (hy : y < B) : Dig B (xs.set i y) := fun x hx => by
  rcases List.mem_or_eq_of_mem_set hx with h' | h'
  · exact h x h'
  · rw [h']; exact hy

theorem dv_zero_of {B : Nat} : ∀ {xs : List Nat}, (∀ x ∈ xs, x = 0) → dv B xs = 0
  | [], _ => rfl
  | x :: xs, h => by
    simp only [dv]
    rw [h x (List.mem_cons_self ..), dv_zero_of fun y hy => h y (List.mem_cons_of_mem _ hy)]
    simp

theorem nth_set {xs : List Nat} {i j y : Nat} (h : i ≠ j) : nth (xs.set i y) j = nth xs j := by
  unfold nth
  rw [List.getElem?_set, if_neg h]

/-- 'v[f:t]' of a list that is not empty. -/
theorem Sl.partAny {H : AH} {v : Value} {xs : List Nat} (h : Sl H v xs) {t : TypeId} (ht : LT t) {f m : Nat} (hm : f + m ≤ xs.length) (h0 : 0 < xs.length) :
    ∃ w, sliceV Try.prog H t v (some (.int .i64 (f : Int))) (some (.int .i64 ((f + m : Nat) : Int))) none = some w ∧ Sl H w ((xs.drop f).take m) := by
  by_cases hf : f < xs.length
  · obtain ⟨w, h1, h2, _⟩ := h.part' ht hm hf
    exact ⟨w, h1, h2⟩
  · have hfe : f = xs.length := by omega
    have hm0 : m = 0 := by omega
    subst hm0
    rw [List.take_zero]
    cases h with
    | nil => simp at h0
    | emp b => simp at h0
    | mk b o cap xs h1 h2 =>
      obtain ⟨h2a, cs, h3, h4, h5⟩ := h2
      by_cases hc : f < cap
      · refine ⟨.slice (some ⟨b, o + f, none⟩) 0 (cap - f), ?_, .mk b (o + f) (cap - f) [] (Nat.zero_le _) ⟨h2a, cs, h3, h4, fun i x hx => by simp at hx, by have := (list_of h0 h5.1).1; omega⟩⟩
        unfold sliceV
        simp only [ht.1, sU64]
        unfold cutV boundV
        simp only [h4, Option.isSome_some, Option.isNone_none, Bool.true_or]
        rw [if_pos (by omega)]
        have e1 : Nat.ble f cap = true := Nat.ble_eq.mpr (by omega)
        have e2 : Nat.blt f cap = true := by rw [Nat.blt_eq]; omega
        simp only [boundV, Int.toNat_natCast]
        rw [if_pos (by omega)]
        simp [e1, e2]
      · refine ⟨.slice (some ⟨b, 0, some 0⟩) 0 0, ?_, .emp b⟩
        unfold sliceV
        simp only [ht.1, sU64]
        unfold cutV boundV
        simp only [h4, Option.isSome_some, Option.isNone_none, Bool.true_or]
        rw [if_pos (by omega)]
        have e1 : Nat.ble f cap = true := Nat.ble_eq.mpr (by omega)
        have e2 : Nat.blt f cap = false := by
          cases hb : Nat.blt f cap with
          | false => rfl
          | true => rw [Nat.blt_eq] at hb; omega
        have e3 : Nat.beq f 0 = false := beq_false' (by omega)
        simp only [boundV, Int.toNat_natCast]
        rw [if_pos (by omega)]
        simp [e1, e2, e3]

/-- 'copy(v, w)' into a list that has room. -/
theorem Own.copy {n : Nat} {H : AH} {v w : Value} {zs xs : List Nat} (h : Own n H v zs) (hw : Sl H w xs) (hl : xs.length ≤ zs.length) {t t2 : TypeId} (ht : LT t) (ht2 : LT t2) :
    ∃ u H', copyV Try.prog H t t2 v w = some (u, H') ∧ Own n H' v (xs ++ zs.drop xs.length) ∧ But (vblk v) H H' ∧ KA n H H' := by
  have hc : sliceCells H 1 w xs.length = some (xs.map limb) := by
    rcases Nat.eq_zero_or_pos xs.length with h0 | h0
    · obtain rfl : xs = [] := List.length_eq_zero_iff.mp h0
      generalize hz : ([] : List Nat) = ys at hw
      cases hw with
      | nil => rfl
      | emp b => rfl
      | mk b o cap xs h1 h2 =>
        subst hz
        obtain ⟨_, cs, h3, h4, h5⟩ := h2
        have : Nat.ble o cs.length = true := Nat.ble_eq.mpr h5.2
        simp [sliceCells, AH.read_def, h3, this]
    · exact hw.cells h0
  obtain ⟨a2, cap2, rfl⟩ : ∃ a cap, w = .slice a xs.length cap := by cases hw <;> exact ⟨_, _, rfl⟩
  cases h with
  | nil =>
    obtain rfl : xs = [] := List.length_eq_zero_iff.mp (by simpa using hl)
    refine ⟨.int .i64 0, H, ?_, by simpa using Own.nil, .refl _ _, .refl _ _⟩
    simp [copyV, ht.2, ht2.2]
  | mk b o cap zs cs h1 h2 h3 h4 h5 h6 =>
    have hmin : Nat.min xs.length zs.length = xs.length := Nat.min_eq_left hl
    have hle : Nat.ble (o + xs.length) cs.length = true := Nat.ble_eq.mpr (by omega)
    have hw2 : H.write b o (xs.map limb) = some { n := H.n, lw := min H.lw b, t := H.t.set b (.rw 1 (cs.take o ++ xs.map limb ++ cs.drop (o + xs.length))) } := by
      rw [AH.write_def, h4]
      simp only [List.length_map, hle, one_limbs, Bool.and_self, cond_true]
    obtain ⟨H', hH'⟩ : ∃ H' : AH, H' = { n := H.n, lw := min H.lw b, t := H.t.set b (.rw 1 (cs.take o ++ xs.map limb ++ cs.drop (o + xs.length))) } := ⟨_, rfl⟩
    rw [← hH'] at hw2
    have hblk : ∀ j, H'.blk j = if j = b then .rw 1 (cs.take o ++ xs.map limb ++ cs.drop (o + xs.length)) else H.blk j := fun j => by
      rw [hH']
      show (match (H.t.set b _).get j with | some b => b | none => Blk.dead) = _
      rw [Tr.get_set]
      by_cases e : j = b
      · rw [if_pos e, if_pos e]
      · rw [if_neg e, if_neg e]; rfl
    have hn : H'.n = H.n := by rw [hH']
    refine ⟨.int .i64 (Nat.min xs.length zs.length), H', ?_, ?_, ⟨hn, fun j _ hj => ?_⟩, ?_⟩
    · unfold copyV
      simp only [ht.2, ht2.2, hmin, hc, hw2]
    · have hlen : (xs ++ zs.drop xs.length).length = zs.length := by simp; omega
      rw [← hlen]
      refine .mk b o cap _ (cs.take o ++ xs.map limb ++ cs.drop (o + xs.length)) (by omega) h2 (by rw [hn]; exact h3) (by rw [hblk, if_pos rfl]) ?_ ?_
      · simp only [List.length_append, List.length_take, List.length_drop, List.length_map]; omega
      · intro i x hi
        rw [List.append_assoc, List.getElem?_append_right (by rw [List.length_take]; omega), List.length_take, show o + i - min o cs.length = i by omega]
        rw [List.getElem?_append] at hi
        rw [List.getElem?_append, List.length_map]
        by_cases hix : i < xs.length
        · rw [if_pos hix] at hi ⊢
          rw [List.getElem?_map, hi]; rfl
        · rw [if_neg hix] at hi ⊢
          rw [List.getElem?_drop] at hi ⊢
          have := h6 _ x hi
          rw [show o + xs.length + (i - xs.length) = o + (xs.length + (i - xs.length)) by omega]
          exact this
    · rw [hblk, if_neg (fun e => hj (by rw [e]; rfl))]
    · intro H0 k hn0
      have := k.lw
      refine ⟨by rw [hn]; exact k.n, by rw [hH']; show min H0.lw H0.n ≤ min H.lw b; omega, fun j hj => ?_⟩
      rw [hblk, if_neg (by omega)]
      exact k.blk j hj
end
end Go.Proofs.Ytldapilhmmbjhaa

/-
  mul: part, addAt, sum, less.
-/
namespace Go.Proofs.Ytldapilhmmbjhaa
open Go Ev
set_option linter.unusedVariables false
set_option linter.unusedSimpArgs false
noncomputable section

theorem min_nat (a b : Nat) : minmaxV false [.int .i64 (a : Int), .int .i64 (b : Int)] = some (.int .i64 ((min a b : Nat) : Int)) := by
  unfold minmaxV
  simp only [sameKind]
  show some (Value.int .i64 (if (b : Int) < (a : Int) then (b : Int) else (a : Int))) = _
  by_cases h : b < a
  · rw [if_pos (by omega), Nat.min_eq_right (by omega)]
  · rw [if_neg (by omega), Nat.min_eq_left (by omega)]
theorem max_nat (a b : Nat) : minmaxV true [.int .i64 (a : Int), .int .i64 (b : Int)] = some (.int .i64 ((max a b : Nat) : Int)) := by
  unfold minmaxV
  simp only [sameKind]
  show some (Value.int .i64 (if (a : Int) < (b : Int) then (b : Int) else (a : Int))) = _
  by_cases h : a < b
  · rw [if_pos (by omega), Nat.max_eq_right (by omega)]
  · rw [if_neg (by omega), Nat.max_eq_left (by omega)]
theorem max_nat0 (a : Nat) : minmaxV true [.int .i64 (a : Int), .int .i64 0] = some (.int .i64 (a : Int)) := by
  have := max_nat a 0
  rw [Nat.max_eq_left (Nat.zero_le _)] at this
  exact this

/-- A list written over digit by digit. -/
theorem Own.fillAt {n : Nat} {H : AH} {v : Value} {L zs : List Nat} {i : Nat} (h : Own n H v (L ++ zs.drop i)) (hL : L.length = i) (hi : i < zs.length) (y : Nat) :
    ∃ H', storeV Try.prog H 55 (adr v i) (.int .u64 (y : Int)) = some H' ∧ Own n H' v ((L ++ [y]) ++ zs.drop (i + 1)) ∧ But (vblk v) H H' ∧ KA n H H' := by
  obtain ⟨H', h1, h2, h3, h4, h5⟩ := h.put (i := i) (by simp; omega) y
  refine ⟨H', h1, ?_, ⟨h3, fun j _ hj => h4 j hj⟩, h5⟩
  rw [List.drop_eq_getElem_cons hi, set_mid _ _ _ _ hL] at h2
  simpa using h2

theorem Own.loadAt {n : Nat} {H : AH} {v : Value} {L zs : List Nat} {i : Nat} (h : Own n H v (L ++ zs.drop i)) (hL : L.length = i) (hi : i < zs.length) :
    loadV Try.prog H 55 (adr v i) = some (.int .u64 (nth zs i : Int)) := by
  have := h.sl.load (i := i) (by simp; omega)
  rw [this, nth_get hi]
  congr 3
  rw [List.getElem_append_right (by omega)]
  simp [hL]

attribute [-simp] Int.natCast_add Int.natCast_mul Int.natCast_ediv Int.natCast_emod Int.natCast_pow
attribute [local simp] strip stripL LW' LR gW evOp oMove oAssign oPick oBinOp oUnOp oConvert oExtract oIndexAddr oIndex oLoad oStore oSlice oMakeSlice oCall oBuildSlice opd opds optOpd plain plain1 Tr.get_set tmOf builtinV binV isShift sameKind undef resultV resOne packV ltNat ltNum ltLst calleeV parts lss_nat unV DW grdOf heapOp LX isStore

/-- Some limbs, without noughts at the top. -/
def segL (xs : List Nat) (f t : Nat) : List Nat := trimL ((xs.drop (min f xs.length)).take (min t xs.length - min f xs.length))

theorem part_spec {H : AH} {v : Value} {xs : List Nat} (hv : Sl H v xs) (h0 : 0 < xs.length) (lx : xs.length ≤ 17592186044416) {f t : Nat} (hft : f ≤ t) :
    CW Try.prog cfg0 69 [v, .int .i64 (f : Int), .int .i64 (t : Int)] H fun v' H' => H' = H ∧ Sl H v' (segL xs f t) := by
  refine CW_intro 32 (by decide) (by decide) Try.func69 rfl rfl ?_
  have l1 := hv.len ltNat
  obtain ⟨f', hf'⟩ : ∃ f', f' = min f xs.length := ⟨_, rfl⟩
  obtain ⟨t', ht'⟩ : ∃ t', t' = min t xs.length := ⟨_, rfl⟩
  have m1 := min_nat f xs.length
  have m2 := min_nat t xs.length
  rw [← hf'] at m1
  rw [← ht'] at m2
  have hle : f' ≤ t' := by omega
  have htl : t' ≤ xs.length := by omega
  unfold segL
  rw [← hf', ← ht']
  apply W_seq; intro b1 hb1
  apply W_region
  simp
  show W _ _ b1 _ _; subst hb1
  apply W_seq; intro b1 hb1
  apply W_region
  simp [l1, m1, m2]
  show W _ _ b1 _ _; subst hb1
  apply W_seq; intro b1 hb1
  apply W_block
  refine W_loopK (fun m s => s.k = 32 ∧ s.H = H ∧ f' + m ≤ t' ∧ trimL ((xs.drop f').take m) = trimL ((xs.drop f').take (t' - f')) ∧ s.tm.get 0 = some v ∧ s.tm.get 1 = some (.int .i64 (f' : Int)) ∧ s.tm.get 2 = some (.int .i64 ((f' + m : Nat) : Int))) ?_ (t' - f') _
    ⟨rfl, rfl, by omega, rfl, by simp, by simp, by simp; omega⟩
  rintro m ⟨k, tm, H'⟩ ⟨hk, hH, hm, ht, t0, t1, t2⟩ Q' hQ'
  simp only at hk hH t0 t1 t2
  subst hk; subst hH
  apply W_seq; intro b2 hb2
  apply W_seq; intro b3 hb3
  apply W_region
  have fin : ∀ tm' : Tr Value, tm'.get 0 = some v → tm'.get 1 = some (.int .i64 (f' : Int)) → tm'.get 2 = some (.int .i64 ((f' + m : Nat) : Int)) → trimL ((xs.drop f').take m) = (xs.drop f').take m → Q' (.exit 0) ⟨32, tm', H'⟩ := fun tm' t0 t1 t2 he => by
    apply hQ'
    left
    refine ⟨rfl, ?_⟩
    show W _ _ b1 _ _; subst hb1
    obtain ⟨w, c1, c2⟩ := hv.partAny ltNat (f := f') (m := m) (by omega) h0
    apply W_seq; intro b4 hb4
    apply W_region
    simp [t0, t1, t2, c1]
    show W _ _ b4 _ _; subst hb4
    apply W_ret
    simp
    rw [← ht, he]
    exact c2
  by_cases hz : m = 0
  · have g0 : intBin .gtr .i64 ((f' + m : Nat) : Int) (f' : Int) = some (.bool false) := by rw [gtr_nat, decide_eq_false]; omega
    simp [t1, t2, g0]
    show W _ _ b3 _ _; subst hb3
    refine W_cond (t := false) (by simp) ?_
    apply W_exit
    exact fin _ (by simp [t0]) (by simp [t1]) (by simp [t2]) (by rw [hz]; rfl)
  · have g0 : intBin .gtr .i64 ((f' + m : Nat) : Int) (f' : Int) = some (.bool true) := by rw [gtr_nat, decide_eq_true]; omega
    have hi : f' + m - 1 < xs.length := by omega
    have a1 := hv.adr ltNat (k := .i64) hi
    have d1 := hv.load hi
    have htake : (xs.drop f').take m = (xs.drop f').take (m - 1) ++ [xs[f' + m - 1]] := by
      have := take_snoc (xs := xs.drop f') (i := m - 1) (by rw [List.length_drop]; omega)
      rw [show m - 1 + 1 = m by omega] at this
      rw [this, List.getElem_drop]
      congr 3
      omega
    have s1 : intBin .sub .i64 ((f' + m : Nat) : Int) 1 = some (.int .i64 ((f' + m - 1 : Nat) : Int)) := sub1_i64 (by omega) (by omega)
    simp [t0, t1, t2, g0, s1, a1, d1, eq0_nat]
    show W _ _ b3 _ _; subst hb3
    by_cases h0 : xs[f' + m - 1] = 0
    · refine W_cond (t := true) (by simp [h0]) ?_
      apply W_skip
      show W _ _ b2 _ _; subst hb2
      apply W_block
      apply W_region
      simp [t2, s1]
      apply hQ'
      refine ⟨m - 1, by omega, rfl, rfl, by show f' + (m - 1) ≤ t'; omega, ?_, by simp [t0], by simp [t1], by simp; omega⟩
      rw [← ht, htake, h0, trimL_snoc0]
    · refine W_cond (t := false) (by simp [h0]) ?_
      apply W_exit
      exact fin _ (by simp [t0]) (by simp [t1]) (by simp [t2]) (by rw [htake]; exact trimL_snoc _ _ h0)

theorem addAt_spec {n0 : Nat} {H : AH} {va vb : Value} {zs ys : List Nat} {a : Nat} (ha : Own n0 H va zs) (hb : Sl H vb ys) (ap : Apart va vb) (dz : Dig B64 zs) (dy : Dig B64 ys) (lz : zs.length ≤ 17592186044416) (ly : ys.length ≤ 17592186044416) (haz : a ≤ zs.length)
    (room : dv B64 zs + B64 ^ a * dv B64 ys < B64 ^ zs.length) :
    CW Try.prog cfg0 68 [va, vb, .int .i64 (a : Int)] H fun v' H' => But (vblk va) H H' ∧ KA n0 H H' ∧ ∃ zs', zs'.length = zs.length ∧ Dig B64 zs' ∧ dv B64 zs' = dv B64 zs + B64 ^ a * dv B64 ys ∧ Own n0 H' va zs' := by
  refine CW_intro 53 (by decide) (by decide) Try.func68 rfl rfl ?_
  have l2 := hb.len ltNat
  apply W_seq; intro b1 hb1
  apply W_region
  simp
  show W _ _ b1 _ _; subst hb1
  apply W_seq; intro b1 hb1
  apply W_region
  simp
  show W _ _ b1 _ _; subst hb1
  apply W_block
  refine W_loopK (fun m s => s.k = 53 ∧ But (vblk va) H s.H ∧ KA n0 H s.H ∧ ∃ (i c : Nat) (L : List Nat), m + i = zs.length ∧ a ≤ i ∧ L.length = i ∧ c ≤ 1 ∧ Dig B64 L ∧ dv B64 L + B64 ^ i * c = dv B64 (zs.take i) + B64 ^ a * dv B64 (ys.take (i - a)) ∧ Own n0 s.H va (L ++ zs.drop i) ∧
    s.tm.get 0 = some va ∧ s.tm.get 1 = some vb ∧ s.tm.get 2 = some (.int .i64 (a : Int)) ∧ s.tm.get 6 = some (.int .u64 (c : Int)) ∧ s.tm.get 7 = some (.int .i64 (i : Int))) ?_ (zs.length - a) _
    ⟨rfl, .refl _ _, .refl _ _, a, 0, zs.take a, by omega, Nat.le_refl _, by rw [List.length_take]; omega, by omega, dz.take a, by simp [dv], by rw [List.take_append_drop]; exact ha, by simp, by simp, by simp, by simp, by simp⟩
  rintro m ⟨k, tm, H2⟩ ⟨hk, bt, ka, i, c, L, hmi, hai, hL, hc, dL, heq, own, t0, t1, t2, t6, t7⟩ Q' hQ'
  simp only at hk bt ka own t0 t1 t2 t6 t7
  subst hk
  have sb := hb.but bt ap
  have l1 := own.sl.len ltNat
  rw [show (L ++ zs.drop i).length = zs.length by simp; omega] at l1
  have s1 : intBin .sub .i64 (i : Int) (a : Int) = some (.int .i64 ((i - a : Nat) : Int)) := sub_i64 (by omega) hai
  apply W_seq; intro b2 hb2
  apply W_seq; intro b3 hb3
  apply W_region
  -- the way on
  have on : ∀ tm' : Tr Value, i < zs.length → tm'.get 25 = some (.bool true) → tm'.get 0 = some va → tm'.get 1 = some vb → tm'.get 2 = some (.int .i64 (a : Int)) → tm'.get 6 = some (.int .u64 (c : Int)) → tm'.get 7 = some (.int .i64 (i : Int)) →
      W Try.prog cfg0 b3 ⟨53, tm', H2⟩ (seqQ Try.prog cfg0 b2 Q') := fun tm' hi t25 t0 t1 t2 t6 t7 => by
    subst hb3
    refine W_cond (t := true) (by simp [t25]) ?_
    apply W_skip
    show W _ _ b2 _ _; subst hb2
    obtain ⟨y, hy⟩ : ∃ y, y = nth ys (i - a) := ⟨_, rfl⟩
    have hyB : y < B64 := by rw [hy]; exact nth_lt dy (by decide) _
    obtain ⟨x, hx⟩ : ∃ x, x = nth zs i := ⟨_, rfl⟩
    have hxB : x < B64 := by rw [hx]; exact nth_lt dz (by decide) _
    have d0 := own.loadAt hL hi
    rw [← hx] at d0
    have a0 := own.sl.adr ltNat (k := .i64) (i := i) (by simp; omega)
    obtain ⟨z, hz⟩ : ∃ z, z = (x + y + c) % B64 := ⟨_, rfl⟩
    obtain ⟨c', hc'⟩ : ∃ c', c' = (x + y + c) / B64 := ⟨_, rfl⟩
    have hzc : B64 * c' + z = x + y + c := by rw [hz, hc']; exact Nat.div_add_mod _ _
    have hzB : z < B64 := by rw [hz]; exact Nat.mod_lt _ (by decide)
    have hc1 : c' ≤ 1 := by
      have : c' < 2 := by rw [hc', Nat.div_lt_iff_lt_mul (by decide)]; omega
      omega
    have ac : callI Try.prog cfg0 49 [.int .u64 (x : Int), .int .u64 (y : Int), .int .u64 (c : Int)] H2 = some (.tuple #[.int .u64 (z : Int), .int .u64 (c' : Int)], H2) := by rw [hz, hc']; exact add64_call x y c H2 hc
    obtain ⟨H3, st3, own3, bt3, ka3⟩ := own.fillAt hL hi z
    apply W_seq; intro b2 hb2
    apply W_block
    apply W_seq; intro b3 hb3
    apply W_region
    simp
    show W _ _ b3 _ _; subst hb3
    refine W_thenK (fun s' => s'.k = 53 ∧ s'.H = H2 ∧ s'.tm.get 0 = some va ∧ s'.tm.get 1 = some vb ∧ s'.tm.get 2 = some (.int .i64 (a : Int)) ∧ s'.tm.get 6 = some (.int .u64 (c : Int)) ∧ s'.tm.get 7 = some (.int .i64 (i : Int)) ∧ s'.tm.get 8 = some (.int .u64 (y : Int))) ?_ ?_
    · intro Q'' hQ''
      apply W_seq; intro b3 hb3
      apply W_region
      simp [t1, t2, t7, s1, l2]
      show W _ _ b3 _ _; subst hb3
      by_cases hb' : i - a < ys.length
      · refine W_cond (t := true) (by simp [hb']) ?_
        have a1 := sb.adr ltNat (k := .i64) hb'
        have d1 := sb.load hb'
        rw [← nth_get hb', ← hy] at d1
        apply W_region
        simp [t1, t2, t7, s1, a1, d1]
        apply hQ''
        exact ⟨rfl, rfl, by simp [t0], by simp [t1], by simp [t2], by simp [t6], by simp [t7], by simp⟩
      · refine W_cond (t := false) (by simp [hb']) ?_
        apply W_skip
        apply hQ''
        rw [nth_out (by omega)] at hy
        subst hy
        exact ⟨rfl, rfl, by simp [t0], by simp [t1], by simp [t2], by simp [t6], by simp [t7], by simp⟩
    clear t0 t1 t2 t6 t7
    rintro ⟨k, tm, H4⟩ ⟨hk, hH, t0, t1, t2, t6, t7, t8⟩
    simp only at hk hH t0 t1 t2 t6 t7 t8
    subst hk; subst hH
    apply W_region
    simp [t0, t6, t7, t8, a0, d0, ac, st3]
    show W _ _ b2 _ _; subst hb2
    apply W_region
    simp [t7, add1_i64 (x := i) (by omega)]
    apply hQ'
    refine ⟨m - 1, by omega, rfl, bt.trans bt3, ka.trans ka3, i + 1, c', L ++ [z], by omega, by omega, by simp [hL], hc1, dL.append (.cons hzB (.nil _)), ?_, own3, by simp [t0], by simp [t1], by simp [t2], by simp, by simp⟩
    rw [dv_append, hL, dv_take_nth, show i + 1 - a = (i - a) + 1 by omega, dv_take_nth, ← hx, ← hy]
    simp only [dv, Nat.mul_zero, Nat.add_zero]
    have e1 : B64 ^ i * (B64 * c' + z) = B64 ^ i * (x + y + c) := by rw [hzc]
    rw [Nat.mul_add, ← Nat.mul_assoc, show B64 ^ i * B64 = B64 ^ (i + 1) from rfl, Nat.mul_add, Nat.mul_add] at e1
    have e2 : B64 ^ a * (B64 ^ (i - a) * y) = B64 ^ i * y := by rw [← Nat.mul_assoc, ← Nat.pow_add, show a + (i - a) = i by omega]
    rw [Nat.mul_add (B64 ^ a), e2]
    omega
  -- the end
  have stop : ∀ tm' : Tr Value, (i = zs.length ∨ (ys.length ≤ i - a ∧ c = 0)) → tm'.get 25 = some (.bool false) → W Try.prog cfg0 b3 ⟨53, tm', H2⟩ (seqQ Try.prog cfg0 b2 Q') := fun tm' he t25 => by
    subst hb3
    refine W_cond (t := false) (by simp [t25]) ?_
    apply W_exit
    apply hQ'
    left
    refine ⟨rfl, .inl rfl, bt, ka, L ++ zs.drop i, by simp; omega, dL.append (dz.drop _), ?_, own⟩
    have e1 := dv_split' B64 zs i (by omega)
    rw [dv_append, hL]
    rcases he with rfl | ⟨hy, rfl⟩
    · rw [List.drop_length, List.take_length] at *
      simp only [dv, Nat.mul_zero, Nat.add_zero] at *
      have hys : dv B64 ys < B64 ^ (zs.length - a) := by
        have h1 : B64 ^ a * dv B64 ys < B64 ^ a * B64 ^ (zs.length - a) := by
          rw [← Nat.pow_add, show a + (zs.length - a) = zs.length by omega]; omega
        exact Nat.lt_of_mul_lt_mul_left h1
      rw [dv_take_all (by decide) hys] at heq
      rcases Nat.lt_or_ge c 1 with h0 | h0
      · obtain rfl : c = 0 := by omega
        rw [Nat.mul_zero] at heq
        omega
      · obtain rfl : c = 1 := by omega
        rw [Nat.mul_one] at heq
        omega
    · rw [List.take_of_length_le hy] at heq
      rw [Nat.mul_zero] at heq
      omega
  by_cases hi : i < zs.length
  · by_cases hy : i - a < ys.length
    · simp [t0, t1, t2, t6, t7, l1, l2, hi, s1, hy]
      show W _ _ b3 _ _
      exact on _ hi (by simp) (by simp [t0]) (by simp [t1]) (by simp [t2]) (by simp [t6]) (by simp [t7])
    · by_cases hc0 : 0 < c
      · simp [t0, t1, t2, t6, t7, l1, l2, hi, s1, hy, gtr0, hc0]
        show W _ _ b3 _ _
        exact on _ hi (by simp) (by simp [t0]) (by simp [t1]) (by simp [t2]) (by simp [t6]) (by simp [t7])
      · simp [t0, t1, t2, t6, t7, l1, l2, hi, s1, hy, gtr0, hc0]
        show W _ _ b3 _ _
        exact stop _ (.inr ⟨by omega, by omega⟩) (by simp)
  · simp [t0, t1, t2, t6, t7, l1, l2, hi]
    show W _ _ b3 _ _
    exact stop _ (.inl (by omega)) (by simp)
end
end Go.Proofs.Ytldapilhmmbjhaa

/-
  mul: sum, less, school.
-/
namespace Go.Proofs.Ytldapilhmmbjhaa
open Go Ev
set_option linter.unusedVariables false
set_option linter.unusedSimpArgs false
noncomputable section

/-- A new list of limbs of a value. -/
def NewL (n0 : Nat) (H' : AH) (v : Value) (len N : Nat) : Prop := ∃ zs, zs.length = len ∧ Dig B64 zs ∧ dv B64 zs = N ∧ Own n0 H' v zs

attribute [-simp] Int.natCast_add Int.natCast_mul Int.natCast_ediv Int.natCast_emod Int.natCast_pow
attribute [local simp] strip stripL LW' LR gW evOp oMove oAssign oPick oBinOp oUnOp oConvert oExtract oIndexAddr oIndex oLoad oStore oSlice oMakeSlice oCall oBuildSlice opd opds optOpd plain plain1 Tr.get_set tmOf builtinV binV isShift sameKind undef resultV resOne packV ltNat ltNum ltLst calleeV parts lss_nat unV DW grdOf heapOp LX isStore

section
variable {H : AH} {va vb : Value} {xs ys : List Nat}

theorem dv_zeros_append (xs : List Nat) (n : Nat) : dv B64 (xs ++ List.replicate n 0) = dv B64 xs := by rw [dv_append, dv_zeros, Nat.mul_zero, Nat.add_zero]
theorem dig_zeros {B : Nat} (hB : 0 < B) (n : Nat) : Dig B (List.replicate n 0) := fun x hx => by rw [List.eq_of_mem_replicate hx]; exact hB

theorem sum_spec (ha : Sl H va xs) (hb : Sl H vb ys) (dx : Dig B64 xs) (dy : Dig B64 ys) (lx : xs.length ≤ 17592186000000) (ly : ys.length ≤ 17592186000000) :
    CW Try.prog cfg0 71 [va, vb] H fun v H' => Keep H H' ∧ NewL H.n H' v (max xs.length ys.length + 1) (dv B64 xs + dv B64 ys) := by
  refine CW_intro 20 (by decide) (by decide) Try.func71 rfl rfl ?_
  have l1 := ha.len ltNat
  have l2 := hb.len ltNat
  obtain ⟨n, hn⟩ : ∃ n, n = max xs.length ys.length := ⟨_, rfl⟩
  have mx := max_nat xs.length ys.length
  rw [← hn] at mx ⊢
  obtain ⟨c0, H1, hmk, k1, o1, n1⟩ := makeSlice_own (H := H) ltNat (n := n + 1) (by omega)
  obtain ⟨u, H2, hcp, o2, bt2, ka2⟩ := o1.copy (ha.keep k1) (by simp; omega) ltNat ltNat
  have k2 : Keep H H2 := ka2 H k1 (Nat.le_refl _)
  rw [List.drop_replicate] at o2
  have apc : Apart c0 vb := fun c hc hc' => by
    have a := (o1.blk_lo hc).1
    have b := hb.blk_lt hc'
    omega
  have hlen : (xs ++ List.replicate (n + 1 - xs.length) 0).length = n + 1 := by simp; omega
  obtain ⟨w, H3, hc3, bt3, ka3, zs, lz, dz, vz, oz⟩ := addAt_spec (a := 0) o2 ((hb.keep k1).but bt2 apc) apc (dx.append (dig_zeros (by decide) _)) dy (by omega) (by omega) (Nat.zero_le _) (by
    rw [hlen, dv_zeros_append, Nat.pow_zero, Nat.one_mul]
    have h1 := dv_lt dx
    have h2 := dv_lt dy
    have h3 : B64 ^ xs.length ≤ B64 ^ n := Nat.pow_le_pow_right (by decide) (by omega)
    have h4 : B64 ^ ys.length ≤ B64 ^ n := Nat.pow_le_pow_right (by decide) (by omega)
    have h5 : B64 ^ (n + 1) = B64 ^ n * 18446744073709551616 := rfl
    omega)
  rw [hlen] at lz
  rw [dv_zeros_append, Nat.pow_zero, Nat.one_mul] at vz
  have hc3 : callI Try.prog cfg0 68 [c0, vb, .int .i64 0] H2 = some (w, H3) := hc3
  apply W_seq; intro b1 hb1
  apply W_region
  simp
  show W _ _ b1 _ _; subst hb1
  apply W_seq; intro b1 hb1
  apply W_region
  simp [l1, l2, mx, add1_i64 (x := n) (by omega), hmk]
  show W _ _ b1 _ _; subst hb1
  apply W_seq; intro b1 hb1
  apply W_region
  simp [hcp]
  show W _ _ b1 _ _; subst hb1
  apply W_seq; intro b1 hb1
  apply W_region
  simp [hc3]
  show W _ _ b1 _ _; subst hb1
  apply W_seq; intro b1 hb1
  apply W_region
  simp
  show W _ _ b1 _ _; subst hb1
  apply W_ret
  simp
  exact ⟨ka3 H k2 (Nat.le_refl _), zs, lz, dz, vz, oz⟩

theorem less_spec (ha : Sl H va xs) (hb : Sl H vb ys) (dx : Dig B64 xs) (dy : Dig B64 ys) (lx : xs.length ≤ 17592186000000) (ly : ys.length ≤ 17592186000000) (hle : dv B64 ys ≤ dv B64 xs) :
    CW Try.prog cfg0 70 [va, vb] H fun v H' => Keep H H' ∧ NewL H.n H' v xs.length (dv B64 xs - dv B64 ys) := by
  refine CW_intro 43 (by decide) (by decide) Try.func70 rfl rfl ?_
  have l1 := ha.len ltNat
  have l2 := hb.len ltNat
  obtain ⟨n, hn⟩ : ∃ n, n = xs.length := ⟨_, rfl⟩
  rw [← hn] at l1 ⊢
  obtain ⟨c0, H1, hmk, k1, o1, n1⟩ := makeSlice_own (H := H) ltNat (n := n) (by omega)
  obtain ⟨u, H2, hcp, o2, bt2, ka2⟩ := o1.copy (ha.keep k1) (by simp; omega) ltNat ltNat
  have k2 : Keep H H2 := ka2 H k1 (Nat.le_refl _)
  rw [List.drop_replicate, hn, Nat.sub_self, List.replicate_zero, List.append_nil] at o2
  have l0 := o2.sl.len ltNat
  rw [← hn] at l0
  apply W_seq; intro b1 hb1
  apply W_region
  simp
  show W _ _ b1 _ _; subst hb1
  apply W_seq; intro b1 hb1
  apply W_region
  simp [l1, hmk]
  show W _ _ b1 _ _; subst hb1
  apply W_seq; intro b1 hb1
  apply W_region
  simp [hcp]
  show W _ _ b1 _ _; subst hb1
  apply W_seq; intro b1 hb1
  apply W_region
  simp
  show W _ _ b1 _ _; subst hb1
  apply W_seq; intro b1 hb1
  apply W_seq; intro b2 hb2
  apply W_region
  simp [l0]
  show W _ _ b2 _ _; subst hb2
  apply W_block
  refine W_loopK (fun m s' => s'.k = 43 ∧ Keep H s'.H ∧ ∃ (i bor : Nat) (L : List Nat), m + i = n ∧ L.length = i ∧ bor ≤ 1 ∧ Dig B64 L ∧ dv B64 L + dv B64 (ys.take i) = dv B64 (xs.take i) + B64 ^ i * bor ∧ Own H.n s'.H c0 (L ++ xs.drop i) ∧
    s'.tm.get 1 = some vb ∧ s'.tm.get 5 = some c0 ∧ s'.tm.get 6 = some (.int .u64 (bor : Int)) ∧ s'.tm.get 16 = some (.int .i64 (n : Int)) ∧ s'.tm.get 17 = some (.int .i64 (i : Int))) ?_ n _
    ⟨rfl, k2, 0, 0, [], by omega, rfl, by omega, .nil _, by simp [dv], by simpa using o2, by simp, by simp, by simp, by simp, by simp⟩
  rintro m ⟨k, tm, H3⟩ ⟨hk, kH, i, bor, L, hmi, hL, hbr, dL, heq, own, t1, t5, t6, t16, t17⟩ Q' hQ'
  simp only at hk kH own t1 t5 t6 t16 t17
  subst hk
  apply W_seq; intro b3 hb3
  apply W_region
  simp [t16, t17]
  show W _ _ b3 _ _; subst hb3
  apply W_seq; intro b3 hb3
  by_cases hi : i < n
  · refine W_cond (t := true) (by simp [hi]) ?_
    apply W_skip
    show W _ _ b3 _ _; subst hb3
    have hi' : i < xs.length := by omega
    have sb := hb.keep kH
    obtain ⟨y, hy⟩ : ∃ y, y = nth ys i := ⟨_, rfl⟩
    have hyB : y < B64 := by rw [hy]; exact nth_lt dy (by decide) _
    obtain ⟨x, hx⟩ : ∃ x, x = nth xs i := ⟨_, rfl⟩
    have hxB : x < B64 := by rw [hx]; exact nth_lt dx (by decide) _
    have d0 := own.loadAt hL hi'
    rw [← hx] at d0
    have a0 := own.sl.adr ltNat (k := .i64) (i := i) (by simp; omega)
    obtain ⟨z, hz⟩ : ∃ z, z = (x + B64 - y - bor) % B64 := ⟨_, rfl⟩
    obtain ⟨b', hb'⟩ : ∃ b', b' = (if x < y + bor then 1 else 0) := ⟨_, rfl⟩
    have hzB : z < B64 := by rw [hz]; exact Nat.mod_lt _ (by decide)
    have hb1' : b' ≤ 1 := by rw [hb']; split <;> omega
    have hst : z + y + bor = x + B64 * b' := by
      by_cases h : x < y + bor
      · rw [hz, hb', if_pos h, Nat.mod_eq_of_lt (by omega)]; omega
      · rw [hz, hb', if_neg h]
        have : x + B64 - y - bor = (x - y - bor) + B64 := by omega
        rw [this, Nat.add_mod_right, Nat.mod_eq_of_lt (by omega)]; omega
    have sc : callI Try.prog cfg0 75 [.int .u64 (x : Int), .int .u64 (y : Int), .int .u64 (bor : Int)] H3 = some (.tuple #[.int .u64 (z : Int), .int .u64 (b' : Int)], H3) := by rw [hz, hb']; exact sub64_call x y bor H3 hbr
    obtain ⟨H4, st4, own4, bt4, ka4⟩ := own.fillAt hL hi' z
    apply W_seq; intro b3 hb3
    apply W_block
    apply W_seq; intro b4 hb4
    apply W_region
    simp [t17]
    show W _ _ b4 _ _; subst hb4
    apply W_seq; intro b4 hb4
    apply W_region
    simp
    show W _ _ b4 _ _; subst hb4
    refine W_thenK (fun s' => s'.k = 43 ∧ s'.H = H3 ∧ s'.tm.get 1 = some vb ∧ s'.tm.get 5 = some c0 ∧ s'.tm.get 6 = some (.int .u64 (bor : Int)) ∧ s'.tm.get 7 = some (.int .i64 (i : Int)) ∧ s'.tm.get 8 = some (.int .u64 (y : Int)) ∧ s'.tm.get 16 = some (.int .i64 (n : Int)) ∧ s'.tm.get 17 = some (.int .i64 (i : Int))) ?_ ?_
    · intro Q'' hQ''
      apply W_seq; intro b4 hb4
      apply W_region
      simp [t1, l2]
      show W _ _ b4 _ _; subst hb4
      by_cases hby : i < ys.length
      · refine W_cond (t := true) (by simp [hby]) ?_
        have a1 := sb.adr ltNat (k := .i64) hby
        have d1 := sb.load hby
        rw [← nth_get hby, ← hy] at d1
        apply W_region
        simp [t1, a1, d1]
        apply hQ''
        exact ⟨rfl, rfl, by simp [t1], by simp [t5], by simp [t6], by simp, by simp, by simp [t16], by simp [t17]⟩
      · refine W_cond (t := false) (by simp [hby]) ?_
        apply W_skip
        apply hQ''
        rw [nth_out (by omega)] at hy
        subst hy
        exact ⟨rfl, rfl, by simp [t1], by simp [t5], by simp [t6], by simp, by simp, by simp [t16], by simp [t17]⟩
    clear t1 t5 t6 t16 t17
    rintro ⟨k, tm, H5⟩ ⟨hk, hH, t1, t5, t6, t7, t8, t16, t17⟩
    simp only at hk hH t1 t5 t6 t7 t8 t16 t17
    subst hk; subst hH
    apply W_region
    simp [t5, t6, t7, t8, a0, d0, sc, st4]
    show W _ _ b3 _ _; subst hb3
    apply W_region
    simp [t17, add1_i64 (x := i) (by omega)]
    apply hQ'
    refine ⟨m - 1, by omega, rfl, ka4 H kH (Nat.le_refl _), i + 1, b', L ++ [z], by omega, by simp [hL], hb1', dL.append (.cons hzB (.nil _)), ?_, own4, by simp [t1], by simp [t5], by simp, by simp [t16], by simp⟩
    rw [dv_append, hL, dv_take_nth, dv_take_nth, ← hx, ← hy]
    simp only [dv, Nat.mul_zero, Nat.add_zero]
    have e1 : B64 ^ i * (z + y + bor) = B64 ^ i * (x + B64 * b') := by rw [hst]
    rw [Nat.mul_add (B64 ^ i) x, ← Nat.mul_assoc, show B64 ^ i * B64 = B64 ^ (i + 1) from rfl, Nat.mul_add, Nat.mul_add] at e1
    omega
  · refine W_cond (t := false) (by simp [hi]) ?_
    apply W_exit
    apply hQ'
    left
    refine ⟨rfl, ?_⟩
    obtain rfl : i = n := by omega
    have hxl := dv_lt dx
    rw [← hn] at hxl
    rw [List.take_of_length_le (l := xs) (by omega), dv_take_all (by decide) (Nat.lt_of_le_of_lt hle hxl)] at heq
    have hLl := dv_lt dL
    rw [hL] at hLl
    have hval : dv B64 L = dv B64 xs - dv B64 ys := by
      rcases Nat.lt_or_ge bor 1 with h0 | h0
      · obtain rfl : bor = 0 := by omega
        rw [Nat.mul_zero] at heq
        omega
      · obtain rfl : bor = 1 := by omega
        rw [Nat.mul_one] at heq
        omega
    rw [List.drop_of_length_le (by omega), List.append_nil] at own
    show W _ _ b1 _ _; subst hb1
    apply W_seq; intro b4 hb4
    apply W_region
    simp [t5]
    show W _ _ b4 _ _; subst hb4
    apply W_ret
    simp
    exact ⟨kH, L, hL, dL, hval, own⟩

/-- One digit of a product. -/
theorem mul_step {x y o c : Nat} (hx : x < B64) (hy : y < B64) (ho : o < B64) (hc : c < B64) :
    let p := x * y; let l := (p % B64 + c) % B64; let h := p / B64 + (p % B64 + c) / B64
    h < B64 ∧ h + (o + l) / B64 < B64 ∧ (o + l) % B64 + B64 * (h + (o + l) / B64) = o + x * y + c := by
  intro p l h
  have hx : x < 18446744073709551616 := hx
  have hy : y < 18446744073709551616 := hy
  have ho : o < 18446744073709551616 := ho
  have hc : c < 18446744073709551616 := hc
  have hp : p ≤ 18446744073709551615 * 18446744073709551615 := Nat.mul_le_mul (by omega) (by omega)
  show p / 18446744073709551616 + (p % 18446744073709551616 + c) / 18446744073709551616 < 18446744073709551616 ∧ p / 18446744073709551616 + (p % 18446744073709551616 + c) / 18446744073709551616 + (o + (p % 18446744073709551616 + c) % 18446744073709551616) / 18446744073709551616 < 18446744073709551616 ∧
    (o + (p % 18446744073709551616 + c) % 18446744073709551616) % 18446744073709551616 + 18446744073709551616 * (p / 18446744073709551616 + (p % 18446744073709551616 + c) / 18446744073709551616 + (o + (p % 18446744073709551616 + c) % 18446744073709551616) / 18446744073709551616) = o + p + c
  clear_value p
  omega

set_option maxHeartbeats 1000000 in
theorem school_spec (ha : Sl H va xs) (hb : Sl H vb ys) (dx : Dig B64 xs) (dy : Dig B64 ys) (lx : xs.length ≤ 8000000000000) (ly : ys.length ≤ 8000000000000) :
    CW Try.prog cfg0 67 [va, vb] H fun v H' => Keep H H' ∧ NewL H.n H' v (xs.length + ys.length) (dv B64 xs * dv B64 ys) := by
  refine CW_intro 78 (by decide) (by decide) Try.func67 rfl rfl ?_
  have l1 := ha.len ltNat
  have l2 := hb.len ltNat
  obtain ⟨la, hla⟩ : ∃ la, la = xs.length := ⟨_, rfl⟩
  obtain ⟨lb, hlb⟩ : ∃ lb, lb = ys.length := ⟨_, rfl⟩
  rw [← hla] at l1 ⊢
  rw [← hlb] at l2 ⊢
  obtain ⟨c0, H1, hmk, k1, o1, n1⟩ := makeSlice_own (H := H) ltNat (n := la + lb) (by omega)
  have ad : intBin .add .i64 (la : Int) (lb : Int) = some (.int .i64 ((la + lb : Nat) : Int)) := add_i64 (by omega)
  apply W_seq; intro b1 hb1
  apply W_region
  simp
  show W _ _ b1 _ _; subst hb1
  apply W_seq; intro b1 hb1
  apply W_region
  simp [l1, l2, ad, hmk]
  show W _ _ b1 _ _; subst hb1
  apply W_seq; intro b1 hb1
  apply W_seq; intro b2 hb2
  apply W_region
  simp [l1]
  show W _ _ b2 _ _; subst hb2
  apply W_block
  refine W_loopK (fun m s' => s'.k = 78 ∧ Keep H s'.H ∧ ∃ (i : Nat) (O : List Nat), m + i = la ∧ O.length = la + lb ∧ Dig B64 O ∧ (∀ j, i + lb ≤ j → nth O j = 0) ∧ dv B64 O = dv B64 (xs.take i) * dv B64 ys ∧ Own H.n s'.H c0 O ∧
    s'.tm.get 1 = some vb ∧ s'.tm.get 5 = some c0 ∧ s'.tm.get 20 = some va ∧ s'.tm.get 21 = some (.int .i64 (la : Int)) ∧ s'.tm.get 22 = some (.int .i64 (i : Int))) ?_ la _
    ⟨rfl, k1, 0, List.replicate (la + lb) 0, by omega, by simp, dig_zeros (by decide) _, fun j _ => by
      by_cases hj : j < (List.replicate (la + lb) 0).length
      · rw [nth_get hj]; simp
      · exact nth_out (by omega), by simp [dv, dv_zeros], o1, by simp, by simp, by simp, by simp, by simp⟩
  rintro m ⟨k, tm, H2⟩ ⟨hk, kH, i, O, hmi, hO, dO, hz, heq, own, t1, t5, t20, t21, t22⟩ Q' hQ'
  simp only at hk kH own t1 t5 t20 t21 t22
  subst hk
  apply W_seq; intro b3 hb3
  apply W_region
  simp [t21, t22]
  show W _ _ b3 _ _; subst hb3
  apply W_seq; intro b3 hb3
  by_cases hi : i < la
  · refine W_cond (t := true) (by simp [hi]) ?_
    apply W_skip
    show W _ _ b3 _ _; subst hb3
    have hi' : i < xs.length := by omega
    have sa := ha.keep kH
    have sb := hb.keep kH
    have a1 := sa.adr ltNat (k := .i64) hi'
    have d1 := sa.load hi'
    obtain ⟨x, hx⟩ : ∃ x, x = xs[i] := ⟨_, rfl⟩
    have hxB : x < B64 := by rw [hx]; exact dx.get (List.getElem?_eq_getElem hi')
    rw [← hx] at d1
    apply W_seq; intro b3 hb3
    apply W_block
    apply W_seq; intro b4 hb4
    apply W_region
    simp [t20, t22, a1, d1]
    show W _ _ b4 _ _; subst hb4
    apply W_seq; intro b4 hb4
    apply W_region
    simp
    show W _ _ b4 _ _; subst hb4
    refine W_thenK (fun s' => s'.k = 78 ∧ Keep H s'.H ∧ ∃ (c : Nat) (O2 : List Nat), c < B64 ∧ O2.length = la + lb ∧ Dig B64 O2 ∧ (∀ j, i + lb ≤ j → nth O2 j = 0) ∧ dv B64 O2 + B64 ^ (i + lb) * c = dv B64 O + B64 ^ i * (x * dv B64 ys) ∧ Own H.n s'.H c0 O2 ∧
      s'.tm.get 1 = some vb ∧ s'.tm.get 5 = some c0 ∧ s'.tm.get 6 = some (.int .i64 (i : Int)) ∧ s'.tm.get 8 = some (.int .u64 (c : Int)) ∧ s'.tm.get 20 = some va ∧ s'.tm.get 21 = some (.int .i64 (la : Int)) ∧ s'.tm.get 22 = some (.int .i64 (i : Int))) ?_ ?_
    · intro Q'' hQ''
      apply W_seq; intro b4 hb4
      apply W_region
      simp [t1, l2]
      show W _ _ b4 _ _; subst hb4
      apply W_block
      refine W_loopK (fun m s' => s'.k = 78 ∧ Keep H s'.H ∧ ∃ (j c : Nat) (O2 : List Nat), m + j = lb ∧ c < B64 ∧ O2.length = la + lb ∧ Dig B64 O2 ∧ (∀ j, i + lb ≤ j → nth O2 j = 0) ∧ dv B64 O2 + B64 ^ (i + j) * c = dv B64 O + B64 ^ i * (x * dv B64 (ys.take j)) ∧ Own H.n s'.H c0 O2 ∧
        s'.tm.get 1 = some vb ∧ s'.tm.get 5 = some c0 ∧ s'.tm.get 6 = some (.int .i64 (i : Int)) ∧ s'.tm.get 7 = some (.int .u64 (x : Int)) ∧ s'.tm.get 8 = some (.int .u64 (c : Int)) ∧ s'.tm.get 20 = some va ∧ s'.tm.get 21 = some (.int .i64 (la : Int)) ∧ s'.tm.get 22 = some (.int .i64 (i : Int)) ∧
        s'.tm.get 27 = some vb ∧ s'.tm.get 28 = some (.int .i64 (lb : Int)) ∧ s'.tm.get 29 = some (.int .i64 (j : Int))) ?_ lb _
        ⟨rfl, kH, 0, 0, O, by omega, by decide, hO, dO, hz, by simp [dv], own, by simp [t1], by simp [t5], by simp, by simp, by simp, by simp [t20], by simp [t21], by simp [t22], by simp [t1], by simp, by simp⟩
      clear t1 t5 t20 t21 t22
      rintro m2 ⟨k, tm, H3⟩ ⟨hk, kH3, j, c, O2, hmj, hc, hO2, dO2, hz2, heq2, own2, t1, t5, t6, t7, t8, t20, t21, t22, t27, t28, t29⟩ Q5 hQ5
      simp only at hk kH3 own2 t1 t5 t6 t7 t8 t20 t21 t22 t27 t28 t29
      subst hk
      apply W_seq; intro b5 hb5
      apply W_region
      simp [t28, t29]
      show W _ _ b5 _ _; subst hb5
      apply W_seq; intro b5 hb5
      by_cases hj : j < lb
      · refine W_cond (t := true) (by simp [hj]) ?_
        apply W_skip
        show W _ _ b5 _ _; subst hb5
        have hj' : j < ys.length := by omega
        have sb3 := hb.keep kH3
        have a2 := sb3.adr ltNat (k := .i64) hj'
        have d2 := sb3.load hj'
        obtain ⟨y, hy⟩ : ∃ y, y = ys[j] := ⟨_, rfl⟩
        have hyB : y < B64 := by rw [hy]; exact dy.get (List.getElem?_eq_getElem hj')
        rw [← hy] at d2
        have hij : i + j < O2.length := by omega
        have a3 := own2.sl.adr ltNat (k := .i64) hij
        have d3 := own2.sl.load hij
        obtain ⟨o, ho⟩ : ∃ o, o = O2[i + j] := ⟨_, rfl⟩
        have hoB : o < B64 := by rw [ho]; exact dO2.get (List.getElem?_eq_getElem hij)
        rw [← ho] at d3
        have step := mul_step hxB hyB hoB hc
        simp only at step
        obtain ⟨ph, hph⟩ : ∃ ph, ph = x * y / B64 := ⟨_, rfl⟩
        obtain ⟨pl, hpl⟩ : ∃ pl, pl = x * y % B64 := ⟨_, rfl⟩
        rw [← hph, ← hpl] at step
        obtain ⟨l, hl⟩ : ∃ l, l = (pl + c) % B64 := ⟨_, rfl⟩
        obtain ⟨c1, hc1⟩ : ∃ c1, c1 = (pl + c) / B64 := ⟨_, rfl⟩
        rw [← hl, ← hc1] at step
        obtain ⟨o', ho'⟩ : ∃ o', o' = (o + l) % B64 := ⟨_, rfl⟩
        obtain ⟨c2, hc2⟩ : ∃ c2, c2 = (o + l) / B64 := ⟨_, rfl⟩
        rw [← ho', ← hc2] at step
        obtain ⟨st1, st2, st3⟩ := step
        have ho'B : o' < B64 := by rw [ho']; exact Nat.mod_lt _ (by decide)
        have e1 : callI Try.prog cfg0 74 [.int .u64 (x : Int), .int .u64 (y : Int)] H3 = some (.tuple #[.int .u64 (ph : Int), .int .u64 (pl : Int)], H3) := by rw [hph, hpl]; exact mul64_call hxB hyB H3
        have e2 : callI Try.prog cfg0 49 [.int .u64 (pl : Int), .int .u64 (c : Int), .int .u64 0] H3 = some (.tuple #[.int .u64 (l : Int), .int .u64 (c1 : Int)], H3) := by rw [hl, hc1]; exact add64_call0 pl c H3
        have e3 : intBin .add .u64 (ph : Int) (c1 : Int) = some (.int .u64 ((ph + c1 : Nat) : Int)) := add_u64_lt st1
        have e4 : callI Try.prog cfg0 49 [.int .u64 (o : Int), .int .u64 (l : Int), .int .u64 0] H3 = some (.tuple #[.int .u64 (o' : Int), .int .u64 (c2 : Int)], H3) := by rw [ho', hc2]; exact add64_call0 o l H3
        have e5 : intBin .add .u64 ((ph + c1 : Nat) : Int) (c2 : Int) = some (.int .u64 ((ph + c1 + c2 : Nat) : Int)) := add_u64_lt st2
        have e6 : intBin .add .i64 (i : Int) (j : Int) = some (.int .i64 ((i + j : Nat) : Int)) := add_i64 (by omega)
        obtain ⟨H4, st4, own4, n4, bt4, ka4⟩ := own2.put (i := i + j) hij o'
        apply W_seq; intro b5 hb5
        apply W_block
        apply W_seq; intro b6 hb6
        apply W_region
        simp [t27, t29, a2, d2]
        show W _ _ b6 _ _; subst hb6
        apply W_seq; intro b6 hb6
        apply W_region
        simp [t7, e1]
        show W _ _ b6 _ _; subst hb6
        apply W_seq; intro b6 hb6
        apply W_region
        simp
        show W _ _ b6 _ _; subst hb6
        apply W_seq; intro b6 hb6
        apply W_region
        simp [t8, e2]
        show W _ _ b6 _ _; subst hb6
        apply W_seq; intro b6 hb6
        apply W_region
        simp [e3]
        show W _ _ b6 _ _; subst hb6
        apply W_seq; intro b6 hb6
        apply W_region
        simp [t5, t6, e6, a3, d3, e4, st4]
        show W _ _ b6 _ _; subst hb6
        apply W_region
        simp [e5]
        show W _ _ b5 _ _; subst hb5
        apply W_region
        simp [t29, add1_i64 (x := j) (by omega)]
        apply hQ5
        refine ⟨m2 - 1, by omega, rfl, ka4 H kH3 (Nat.le_refl _), j + 1, ph + c1 + c2, O2.set (i + j) o', by omega, st2, by simp [hO2], dO2.set ho'B, fun q hq => by rw [nth_set (by omega)]; exact hz2 q hq, ?_, own4, by simp [t1], by simp [t5], by simp [t6], by simp [t7], by simp, by simp [t20], by simp [t21], by simp [t22], by simp [t27], by simp [t28], by simp⟩
        have ds := dv_set B64 O2 (i + j) o' hij
        rw [← ho] at ds
        rw [take_snoc hj', dv_append, List.length_take, Nat.min_eq_left (by omega), ← hy]
        simp only [dv, Nat.mul_zero, Nat.add_zero]
        generalize ph + c1 + c2 = cc at *
        have f1 : B64 ^ (i + j) * (o' + B64 * cc) = B64 ^ (i + j) * (o + x * y + c) := by rw [st3]
        rw [Nat.mul_add, ← Nat.mul_assoc (B64 ^ (i + j)) B64, show B64 ^ (i + j) * B64 = B64 ^ (i + (j + 1)) from rfl, Nat.mul_add, Nat.mul_add] at f1
        have f2 : B64 ^ i * (x * (dv B64 (ys.take j) + B64 ^ j * y)) = B64 ^ i * (x * dv B64 (ys.take j)) + B64 ^ (i + j) * (x * y) := by
          rw [Nat.mul_add x, Nat.mul_add (B64 ^ i), Nat.pow_add, Nat.mul_left_comm x (B64 ^ j) y, Nat.mul_assoc (B64 ^ i)]
        rw [f2]
        omega
      · refine W_cond (t := false) (by simp [hj]) ?_
        apply W_exit
        apply hQ5
        left
        obtain rfl : j = lb := by omega
        rw [List.take_of_length_le (by omega)] at heq2
        exact ⟨rfl, hQ'' _ ⟨rfl, kH3, c, O2, hc, hO2, dO2, hz2, heq2, own2, by simp [t1], by simp [t5], by simp [t6], by simp [t8], by simp [t20], by simp [t21], by simp [t22]⟩⟩
    clear t1 t5 t20 t21 t22
    rintro ⟨k, tm, H3⟩ ⟨hk, kH3, c, O2, hc, hO2, dO2, hz2, heq2, own2, t1, t5, t6, t8, t20, t21, t22⟩
    simp only at hk kH3 own2 t1 t5 t6 t8 t20 t21 t22
    subst hk
    have hij : i + lb < O2.length := by omega
    have a3 := own2.sl.adr ltNat (k := .i64) hij
    have e6 : intBin .add .i64 (i : Int) (lb : Int) = some (.int .i64 ((i + lb : Nat) : Int)) := add_i64 (by omega)
    obtain ⟨H4, st4, own4, n4, bt4, ka4⟩ := own2.put (i := i + lb) hij c
    apply W_region
    simp [t1, t5, t6, t8, l2, e6, a3, st4]
    show W _ _ b3 _ _; subst hb3
    apply W_region
    simp [t22, add1_i64 (x := i) (by omega)]
    apply hQ'
    refine ⟨m - 1, by omega, rfl, ka4 H kH3 (Nat.le_refl _), i + 1, O2.set (i + lb) c, by omega, by simp [hO2], dO2.set hc, fun q hq => by rw [nth_set (by omega)]; exact hz2 q (by omega), ?_, own4, by simp [t1], by simp [t5], by simp [t20], by simp [t21], by simp⟩
    have ds := dv_set B64 O2 (i + lb) c hij
    have h0 := hz2 (i + lb) (Nat.le_refl _)
    rw [nth_get hij] at h0
    rw [h0, Nat.mul_zero, Nat.add_zero] at ds
    rw [ds, heq2, heq, take_snoc hi', dv_append, List.length_take, Nat.min_eq_left (by omega), ← hx, Nat.add_mul]
    simp only [dv, Nat.mul_zero, Nat.add_zero]
    rw [Nat.mul_assoc (B64 ^ i)]
  · refine W_cond (t := false) (by simp [hi]) ?_
    apply W_exit
    apply hQ'
    left
    refine ⟨rfl, ?_⟩
    obtain rfl : i = la := by omega
    rw [List.take_of_length_le (by omega)] at heq
    show W _ _ b1 _ _; subst hb1
    apply W_seq; intro b4 hb4
    apply W_region
    simp [t5]
    show W _ _ b4 _ _; subst hb4
    apply W_ret
    simp
    exact ⟨kH, O, hO, dO, heq, own⟩
end
end
end Go.Proofs.Ytldapilhmmbjhaa

/-
  mul.halved (Karatsuba's way).
-/
namespace Go.Proofs.Ytldapilhmmbjhaa
open Go Ev
set_option linter.unusedVariables false
set_option linter.unusedSimpArgs false
noncomputable section

theorem segL_low {xs : List Nat} (dx : Dig B64 xs) (k : Nat) : dv B64 (segL xs 0 k) = dv B64 (xs.take k) ∧ (segL xs 0 k).length ≤ min k xs.length ∧ Dig B64 (segL xs 0 k) := by
  unfold segL
  have e : (xs.drop (min 0 xs.length)).take (min k xs.length - min 0 xs.length) = xs.take k := by
    rw [Nat.zero_min, List.drop_zero, Nat.sub_zero]
    rcases Nat.le_total k xs.length with h | h
    · rw [Nat.min_eq_left h]
    · rw [Nat.min_eq_right h, List.take_length, List.take_of_length_le h]
  rw [e]
  refine ⟨dv_trimL _ _, ?_, trimL_dig (dx.take k)⟩
  have := trimL_len (xs.take k)
  rwa [List.length_take] at this

theorem segL_high {xs : List Nat} (dx : Dig B64 xs) {k : Nat} (hk : k ≤ xs.length) : dv B64 (segL xs k xs.length) = dv B64 (xs.drop k) ∧ (segL xs k xs.length).length ≤ xs.length - k ∧ Dig B64 (segL xs k xs.length) := by
  unfold segL
  rw [Nat.min_eq_left hk, Nat.min_self, List.take_of_length_le (l := xs.drop k) (by rw [List.length_drop]; omega)]
  refine ⟨dv_trimL _ _, ?_, trimL_dig (dx.drop k)⟩
  have := trimL_len (xs.drop k)
  rwa [List.length_drop] at this

/-- Beyond the list's end there is nothing. -/
theorem segL_high' {xs : List Nat} (dx : Dig B64 xs) (k : Nat) : dv B64 (segL xs k xs.length) = dv B64 (xs.drop k) ∧ (segL xs k xs.length).length ≤ xs.length - k ∧ Dig B64 (segL xs k xs.length) := by
  rcases Nat.lt_or_ge xs.length k with h | h
  · unfold segL
    rw [Nat.min_eq_right (a := k) (by omega), Nat.min_self, Nat.sub_self, List.take_zero, List.drop_eq_nil_of_le (by omega)]
    exact ⟨rfl, Nat.zero_le _, .nil _⟩
  · exact segL_high dx h

theorem kara {al ah bl bh : Nat} : (al + ah) * (bl + bh) - al * bl - ah * bh = al * bh + ah * bl ∧ al * bl ≤ (al + ah) * (bl + bh) ∧ ah * bh ≤ (al + ah) * (bl + bh) - al * bl := by
  have e : (al + ah) * (bl + bh) = al * bl + al * bh + (ah * bl + ah * bh) := by rw [Nat.add_mul, Nat.mul_add, Nat.mul_add]
  omega

theorem quo2_i64 {x : Nat} (h : x < 9223372036854775808) : intBin .quo .i64 (x : Int) 2 = some (.int .i64 ((x / 2 : Nat) : Int)) := quo_i64 (y := 2) h (by decide)

attribute [-simp] Int.natCast_add Int.natCast_mul Int.natCast_ediv Int.natCast_emod Int.natCast_pow
attribute [local simp] strip stripL LW' LR gW evOp oMove oAssign oPick oBinOp oUnOp oConvert oExtract oIndexAddr oIndex oLoad oStore oSlice oMakeSlice oCall oBuildSlice opd opds optOpd plain plain1 Tr.get_set tmOf builtinV binV isShift sameKind undef resultV resOne packV ltNat ltNum ltLst calleeV parts lss_nat unV DW grdOf heapOp LX isStore

/-- What halved answers. -/
def HalvedIs (n0 : Nat) (lab N : Nat) (v : Value) (H' : AH) : Prop := ∃ len, len ≤ lab + 1 ∧ NewL n0 H' v len N

def HalvedOK (N : Nat) : Prop := ∀ (H : AH) (va vb : Value) (xs ys : List Nat), Sl H va xs → Sl H vb ys → Dig B64 xs → Dig B64 ys → xs.length + ys.length ≤ N →
  ∃ v H', callI Try.prog cfg0 48 [va, vb, .int .i64 40] H = some (v, H') ∧ Keep H H' ∧ HalvedIs H.n (xs.length + ys.length) (dv B64 xs * dv B64 ys) v H'

theorem dv_mul_lt {xs ys : List Nat} (dx : Dig B64 xs) (dy : Dig B64 ys) : dv B64 xs * dv B64 ys < B64 ^ (xs.length + ys.length + 1) := by
  have h1 := dv_lt dx
  have h2 := dv_lt dy
  have h3 : dv B64 xs * dv B64 ys ≤ B64 ^ xs.length * B64 ^ ys.length := Nat.mul_le_mul (Nat.le_of_lt h1) (Nat.le_of_lt h2)
  rw [← Nat.pow_add] at h3
  have h4 : B64 ^ (xs.length + ys.length) < B64 ^ (xs.length + ys.length + 1) := Nat.pow_lt_pow_right (by decide) (Nat.lt_succ_self _)
  omega

set_option maxHeartbeats 4000000 in
theorem halved_ok : ∀ N, N ≤ 4000000000000 → HalvedOK N := by
  intro N
  induction N using Nat.strongRecOn with
  | _ N ih =>
    intro hN H va vb xs ys ha hb dx dy hl
    suffices h : CW Try.prog cfg0 48 [va, vb, .int .i64 40] H fun v H' => Keep H H' ∧ HalvedIs H.n (xs.length + ys.length) (dv B64 xs * dv B64 ys) v H' by
      obtain ⟨v, H', h1, h2, h3⟩ := h
      exact ⟨v, H', h1, h2, h3⟩
    refine CW_intro 124 (by decide) (by decide) Try.func48 rfl rfl ?_
    apply W_seq; intro b1 hb1
    apply W_region
    simp
    show W _ _ b1 _ _; subst hb1
    refine W_thenK (fun s' => s'.k = 124 ∧ s'.H = H ∧ ∃ (a b : Value) (xa xb : List Nat), Sl H a xa ∧ Sl H b xb ∧ Dig B64 xa ∧ Dig B64 xb ∧ xb.length ≤ xa.length ∧ xa.length + xb.length = xs.length + ys.length ∧ dv B64 xa * dv B64 xb = dv B64 xs * dv B64 ys ∧ s'.tm.get 0 = some a ∧ s'.tm.get 1 = some b ∧ s'.tm.get 2 = some (.int .i64 40)) ?_ ?_
    · intro Q' hQ'
      have l1 := ha.len ltNat
      have l2 := hb.len ltNat
      apply W_seq; intro b1 hb1
      apply W_region
      simp [l1, l2]
      show W _ _ b1 _ _; subst hb1
      by_cases h : xs.length < ys.length
      · refine W_cond (t := true) (by simp [h]) ?_
        apply W_region
        simp
        apply hQ'
        exact ⟨rfl, rfl, vb, va, ys, xs, hb, ha, dy, dx, by omega, by omega, Nat.mul_comm _ _, by simp, by simp, by simp⟩
      · refine W_cond (t := false) (by simp [h]) ?_
        apply W_skip
        apply hQ'
        exact ⟨rfl, rfl, va, vb, xs, ys, ha, hb, dx, dy, by omega, rfl, rfl, by simp, by simp, by simp⟩
    clear ha hb dx dy
    rintro ⟨k, tm, H0⟩ ⟨hk, hH, a, b, xa, xb, ha, hb, dx, dy, hba, hab, hprod, t0, t1, t2⟩
    simp only at hk hH t0 t1 t2
    subst hk; subst hH
    rw [← hprod, ← hab]
    rw [← hab] at hl
    clear hprod hab
    have l1 := ha.len ltNat
    have l2 := hb.len ltNat
    obtain ⟨la, hla⟩ : ∃ la, la = xa.length := ⟨_, rfl⟩
    obtain ⟨lb, hlb⟩ : ∃ lb, lb = xb.length := ⟨_, rfl⟩
    rw [← hla] at l1 hl hba ⊢
    rw [← hlb] at l2 hl hba ⊢
    have lt40 : intBin .lss .i64 (lb : Int) 40 = some (.bool (decide (lb < 40))) := lss_nat (y := 40)
    have hpl := dv_mul_lt dx dy
    rw [← hla, ← hlb] at hpl
    apply W_seq; intro b1 hb1
    apply W_seq; intro b2 hb2
    apply W_region
    simp [t1, t2, l2, lt40]
    show W _ _ b2 _ _; subst hb2
    by_cases h40 : lb < 40
    · obtain ⟨v, H', hc, k, hn⟩ := school_spec ha hb dx dy (by omega) (by omega)
      rw [← hla, ← hlb] at hn
      refine W_cond (t := true) (by simp [h40]) ?_
      apply W_seq; intro b2 hb2
      apply W_region
      simp [t0, t1, hc]
      show W _ _ b2 _ _; subst hb2
      apply W_ret
      simp [seqQ]
      exact ⟨k, _, Nat.le_succ _, hn⟩
    · refine W_cond (t := false) (by simp [h40]) ?_
      apply W_skip
      show W _ _ b1 _ _; subst hb1
      obtain ⟨k, hk⟩ : ∃ k, k = (la + 1) / 2 := ⟨_, rfl⟩
      have q2 := quo2_i64 (x := la + 1) (by omega)
      rw [← hk] at q2
      have ps : ∀ {Hx : AH} {f t : Nat} {c : Value} {cs : List Nat}, Sl Hx c cs → 40 ≤ cs.length → cs.length ≤ 4000000000000 → f ≤ t → ∃ w, callI Try.prog cfg0 69 [c, .int .i64 (f : Int), .int .i64 (t : Int)] Hx = some (w, Hx) ∧ Sl Hx w (segL cs f t) := fun {Hx f t c cs} hs h1 h2 h3 => by
        obtain ⟨w, H', hc, e, hw⟩ := part_spec hs (by omega) (by omega) h3
        subst e
        exact ⟨w, hc, hw⟩
      have adlab : intBin .add .i64 (la : Int) (lb : Int) = some (.int .i64 ((la + lb : Nat) : Int)) := add_i64 (by omega)
      apply W_seq; intro b1 hb1
      apply W_region
      simp [t0, l1, add1_i64 (x := la) (by omega), q2]
      show W _ _ b1 _ _; subst hb1
      apply W_seq; intro b1 hb1
      apply W_seq; intro b2 hb2
      apply W_region
      simp [t1, l2, leq_nat]
      show W _ _ b2 _ _; subst hb2
      by_cases hbk : lb ≤ k
      · obtain ⟨c0, H1, hmk, k1, o1, n1⟩ := makeSlice_own (H := H0) ltNat (n := la + lb + 1) (by omega)
        have a1 := ha.keep k1
        have b1' := hb.keep k1
        obtain ⟨w1, e1, s1⟩ := ps (f := 0) (t := k) a1 (by omega) (by omega) (Nat.zero_le _)
        have e1 : callI Try.prog cfg0 69 [a, .int .i64 0, .int .i64 (k : Int)] H1 = some (w1, H1) := e1
        obtain ⟨v1, z1, d1⟩ := segL_low dx k
        obtain ⟨p1, H2, e2, k2, len1, hlen1, zs1, lz1, dz1, vz1, oz1⟩ := ih (k + lb) (by omega) (by omega) H1 w1 b (segL xa 0 k) xb s1 b1' d1 dy (by omega)
        rw [v1] at vz1
        have o2 := o1.mono (Nat.le_refl _) k2
        have prod : dv B64 (xa.take k) * dv B64 xb + B64 ^ k * (dv B64 (xa.drop k) * dv B64 xb) = dv B64 xa * dv B64 xb := by
          rw [dv_split' B64 xa k (by omega), Nat.add_mul, Nat.mul_assoc]
        obtain ⟨u3, H3, e3, bt3, ka3, zs3, lz3, dz3, vz3, oz3⟩ := addAt_spec (a := 0) o2 oz1.sl (apart_own o1 oz1 (Nat.le_refl _)) (dig_zeros (by decide) _) dz1 (by simp; omega) (by omega) (Nat.zero_le _) (by
          rw [dv_zeros, List.length_replicate, Nat.pow_zero, Nat.one_mul, vz1]; omega)
        have e3 : callI Try.prog cfg0 68 [c0, p1, .int .i64 0] H2 = some (u3, H3) := e3
        rw [List.length_replicate] at lz3
        rw [dv_zeros, Nat.pow_zero, Nat.one_mul, Nat.zero_add, vz1] at vz3
        have k3 : Keep H0 H3 := ka3 H0 (k1.trans k2) (Nat.le_refl _)
        have a3 := ha.keep k3
        have b3' := hb.keep k3
        obtain ⟨w4, e4, s4⟩ := ps (f := k) (t := la) a3 (by omega) (by omega) (by omega)
        obtain ⟨v4, z4, d4⟩ := segL_high' dx k
        rw [← hla] at v4 z4 d4
        obtain ⟨p5, H5, e5, k5, len5, hlen5, zs5, lz5, dz5, vz5, oz5⟩ := ih (la - k + lb) (by omega) (by omega) H3 w4 b (segL xa k la) xb s4 b3' d4 dy (by omega)
        rw [v4] at vz5
        have o5 := oz3.mono (Nat.le_refl _) k5
        obtain ⟨u6, H6, e6, bt6, ka6, zs6, lz6, dz6, vz6, oz6⟩ := addAt_spec (a := k) o5 oz5.sl (apart_own oz3 oz5 (Nat.le_refl _)) dz3 dz5 (by omega) (by omega) (by omega) (by
          rw [vz3, vz5, lz3, prod]; exact hpl)
        have k6 : Keep H0 H6 := ka6 H0 (k3.trans k5) (Nat.le_refl _)
        refine W_cond (t := true) (by simp [hbk]) ?_
        apply W_seq; intro b2 hb2
        apply W_region
        simp [t0, t1, l1, l2, adlab, add1_i64 (x := la + lb) (by omega), hmk]
        show W _ _ b2 _ _; subst hb2
        apply W_seq; intro b2 hb2
        apply W_region
        simp [t0, t1, t2, e1, e2, e3]
        show W _ _ b2 _ _; subst hb2
        apply W_seq; intro b2 hb2
        apply W_region
        simp [t0, t1, t2, l1, e4, e5, e6]
        show W _ _ b2 _ _; subst hb2
        apply W_seq; intro b2 hb2
        apply W_region
        simp
        show W _ _ b2 _ _; subst hb2
        apply W_ret
        simp [seqQ]
        exact ⟨k6, la + lb + 1, Nat.le_refl _, zs6, by omega, dz6, by rw [vz6, vz3, vz5, prod], oz6⟩
      · refine W_cond (t := false) (by simp [hbk]) ?_
        apply W_skip
        show W _ _ b1 _ _; subst hb1
        -- the parts
        obtain ⟨wal, eal, sal⟩ := ps (f := 0) (t := k) ha (by omega) (by omega) (Nat.zero_le _)
        have eal : callI Try.prog cfg0 69 [a, .int .i64 0, .int .i64 (k : Int)] H0 = some (wal, H0) := eal
        obtain ⟨wah, eah, sah⟩ := ps (f := k) (t := la) ha (by omega) (by omega) (by omega)
        obtain ⟨wbl, ebl, sbl⟩ := ps (f := 0) (t := k) hb (by omega) (by omega) (Nat.zero_le _)
        have ebl : callI Try.prog cfg0 69 [b, .int .i64 0, .int .i64 (k : Int)] H0 = some (wbl, H0) := ebl
        obtain ⟨wbh, ebh, sbh⟩ := ps (f := k) (t := lb) hb (by omega) (by omega) (by omega)
        obtain ⟨val, zal, dal⟩ := segL_low dx k
        obtain ⟨vah, zah, dah⟩ := segL_high' dx k
        obtain ⟨vbl, zbl, dbl⟩ := segL_low dy k
        obtain ⟨vbh, zbh, dbh⟩ := segL_high' dy k
        rw [← hla] at vah zah dah zal
        rw [← hlb] at vbh zbh dbh zbl
        have ea := dv_split' B64 xa k (by omega)
        have eb := dv_split' B64 xb k (by omega)
        rw [← val, ← vah] at ea
        rw [← vbl, ← vbh] at eb
        generalize hAL : segL xa 0 k = AL at *
        generalize hAH : segL xa k la = AHh at *
        generalize hBL : segL xb 0 k = BL at *
        generalize hBH : segL xb k lb = BH at *
        have hlal : AL.length ≤ k := by omega
        have hlah : AHh.length ≤ la - k := by omega
        have hlbl : BL.length ≤ k := by omega
        have hlbh : BH.length ≤ lb - k := by omega
        clear zal zah zbl zbh val vah vbl vbh hAL hAH hBL hBH
        obtain ⟨p1, H1, e1, k1, len1, hlen1, zs1, lz1, dz1, vz1, oz1⟩ := ih (k + k) (by omega) (by omega) H0 wal wbl AL BL sal sbl dal dbl (by omega)
        obtain ⟨p2, H2, e2, k2, len2, hlen2, zs2, lz2, dz2, vz2, oz2⟩ := ih (la - k + (lb - k)) (by omega) (by omega) H1 wah wbh AHh BH (sah.keep k1) (sbh.keep k1) dah dbh (by omega)
        have k12 := k1.trans k2
        obtain ⟨s3, H3, e3, k3, zs3, lz3, dz3, vz3, oz3⟩ := sum_spec (sal.keep k12) (sah.keep k12) dal dah (by omega) (by omega)
        have k13 := k12.trans k3
        obtain ⟨n4, H4, e4, k4, o4⟩ := norm_spec oz3.sl (by omega)
        rw [trimL_ds two64 dz3, vz3] at o4
        have k14 := k13.trans k4
        obtain ⟨s5, H5, e5, k5, zs5, lz5, dz5, vz5, oz5⟩ := sum_spec (sbl.keep k14) (sbh.keep k14) dbl dbh (by omega) (by omega)
        obtain ⟨n6, H6, e6, k6, o6⟩ := norm_spec oz5.sl (by omega)
        rw [trimL_ds two64 dz5, vz5] at o6
        have l4 : (ds B64 (dv B64 AL + dv B64 AHh)).length ≤ k + 1 := by rw [← vz3]; exact Nat.le_trans (ds64_len dz3) (by omega)
        have l6 : (ds B64 (dv B64 BL + dv B64 BH)).length ≤ k + 1 := by rw [← vz5]; exact Nat.le_trans (ds64_len dz5) (by omega)
        obtain ⟨p7, H7, e7, k7, len7, hlen7, zs7, lz7, dz7, vz7, oz7⟩ := ih (k + 1 + (k + 1)) (by omega) (by omega) H6 n4 n6 _ _ ((o4.sl.keep k5).keep k6) o6.sl (ds_dig two64 _) (ds_dig two64 _) (by omega)
        rw [dv_ds two64, dv_ds two64] at vz7
        obtain ⟨kr1, kr2, kr3⟩ := kara (al := dv B64 AL) (ah := dv B64 AHh) (bl := dv B64 BL) (bh := dv B64 BH)
        have k27 := (((k3.trans k4).trans k5).trans k6).trans k7
        have k17 := k2.trans k27
        obtain ⟨p8, H8, e8, k8, zs8, lz8, dz8, vz8, oz8⟩ := less_spec oz7.sl (oz1.sl.keep k17) dz7 dz1 (by omega) (by omega) (by rw [vz7, vz1]; exact kr2)
        rw [vz7, vz1] at vz8
        have k28 := k27.trans k8
        obtain ⟨p9, H9, e9, k9, zs9, lz9, dz9, vz9, oz9⟩ := less_spec oz8.sl (oz2.sl.keep k28) dz8 dz2 (by omega) (by omega) (by rw [vz8, vz2]; exact kr3)
        rw [vz8, vz2, kr1] at vz9
        have k29 := k28.trans k9
        obtain ⟨c0, H10, hmk, k10, o10, n10⟩ := makeSlice_own (H := H9) ltNat (n := la + lb + 1) (by omega)
        have k210 := k29.trans k10
        have k110 := k2.trans k210
        have K10 := k1.trans k110
        have apart' : ∀ {n0 : Nat} {Hx : AH} {p : Value} {zs : List Nat}, Own n0 Hx p zs → Hx.n ≤ H9.n → Apart c0 p := fun {n0 Hx p zs} o hn c hc hc' => by
          have x1 := (o10.blk_lo hc).1
          have x2 := (o.blk_lo hc').2
          omega
        have n1' := k2.n
        have n2' := k29.n
        have prod : dv B64 AL * dv B64 BL + B64 ^ k * (dv B64 AL * dv B64 BH + dv B64 AHh * dv B64 BL) + B64 ^ (2 * k) * (dv B64 AHh * dv B64 BH) = dv B64 xa * dv B64 xb := by
          rw [ea, eb, Nat.add_mul, Nat.mul_add, Nat.mul_add, Nat.mul_add, Nat.two_mul, Nat.pow_add]
          generalize dv B64 AL = x at *
          generalize dv B64 AHh = y at *
          generalize dv B64 BL = z at *
          generalize dv B64 BH = w at *
          generalize B64 ^ k = q at *
          have f1 : x * (q * w) = q * (x * w) := by rw [Nat.mul_left_comm]
          have f2 : q * y * z = q * (y * z) := by rw [Nat.mul_assoc]
          have f3 : q * y * (q * w) = q * q * (y * w) := by rw [Nat.mul_mul_mul_comm]
          rw [f1, f2, f3]
          omega
        have p1le : dv B64 AL * dv B64 BL < B64 ^ (la + lb + 1) := by omega
        have p2le : dv B64 AL * dv B64 BL + B64 ^ k * (dv B64 AL * dv B64 BH + dv B64 AHh * dv B64 BL) < B64 ^ (la + lb + 1) := by omega
        obtain ⟨u11, H11, e11, bt11, ka11, zs11, lz11, dz11, vz11, oz11⟩ := addAt_spec (a := 0) o10 (oz1.sl.keep k110) (apart' oz1 (by omega)) (dig_zeros (by decide) _) dz1 (by simp; omega) (by omega) (Nat.zero_le _) (by
          rw [dv_zeros, List.length_replicate, Nat.pow_zero, Nat.one_mul, vz1]; omega)
        have e11 : callI Try.prog cfg0 68 [c0, p1, .int .i64 0] H10 = some (u11, H11) := e11
        rw [List.length_replicate] at lz11
        rw [dv_zeros, Nat.pow_zero, Nat.one_mul, Nat.zero_add, vz1] at vz11
        have sp9 := (oz9.sl.keep k10).but bt11 (apart' oz9 (Nat.le_refl _))
        obtain ⟨u12, H12, e12, bt12, ka12, zs12, lz12, dz12, vz12, oz12⟩ := addAt_spec (a := k) oz11 sp9 (apart' oz9 (Nat.le_refl _)) dz11 dz9 (by omega) (by omega) (by omega) (by
          rw [vz11, vz9, lz11]; exact p2le)
        have sp2 := ((oz2.sl.keep k210).but bt11 (apart' oz2 n2')).but bt12 (apart' oz2 n2')
        obtain ⟨u13, H13, e13, bt13, ka13, zs13, lz13, dz13, vz13, oz13⟩ := addAt_spec (a := 2 * k) oz12 sp2 (apart' oz2 n2') dz12 dz2 (by omega) (by omega) (by omega) (by
          rw [vz12, vz11, vz9, vz2, lz12, lz11, prod]; exact hpl)
        have K13 : Keep H0 H13 := by
          have n9 : H0.n ≤ H9.n := by have := (k1.trans (k2.trans k29)).n; exact this
          exact ka13 H0 (ka12 H0 (ka11 H0 K10 n9) n9) n9
        apply W_seq; intro b1 hb1
        apply W_region
        simp [t0, t1, l1, l2, eal, eah, ebl, ebh]
        show W _ _ b1 _ _; subst hb1
        apply W_seq; intro b1 hb1
        apply W_region
        simp [t2, e1, e2]
        show W _ _ b1 _ _; subst hb1
        apply W_seq; intro b1 hb1
        apply W_region
        simp [t2, e3, e4, e5, e6, e7, e8, e9]
        show W _ _ b1 _ _; subst hb1
        apply W_seq; intro b1 hb1
        apply W_region
        simp [t0, t1, l1, l2, adlab, add1_i64 (x := la + lb) (by omega), hmk]
        show W _ _ b1 _ _; subst hb1
        apply W_seq; intro b1 hb1
        apply W_region
        simp [e11]
        show W _ _ b1 _ _; subst hb1
        apply W_seq; intro b1 hb1
        apply W_region
        simp [e12]
        show W _ _ b1 _ _; subst hb1
        apply W_seq; intro b1 hb1
        apply W_region
        simp [dbl_i64 (x := k) (by omega), e13]
        show W _ _ b1 _ _; subst hb1
        apply W_seq; intro b1 hb1
        apply W_region
        simp
        show W _ _ b1 _ _; subst hb1
        apply W_ret
        simp
        refine ⟨K13, la + lb + 1, Nat.le_refl _, zs13, by omega, dz13, by rw [vz13, vz12, vz11, vz9, vz2, prod], oz13.mono ?_ (.refl _)⟩
        exact (k1.trans (k2.trans k29)).n
end
end Go.Proofs.Ytldapilhmmbjhaa

/-
  mul.Mul; nat.Add.
-/
namespace Go.Proofs.Ytldapilhmmbjhaa
open Go Ev
set_option linter.unusedVariables false
set_option linter.unusedSimpArgs false
noncomputable section

theorem blen_pos {n : Nat} : 0 < blen n ↔ 0 < n := by
  unfold blen
  by_cases h : n = 0
  · rw [if_pos h]; omega
  · rw [if_neg h]; omega

theorem blen_mul {A B : Nat} (hA : 0 < A) (hB : 0 < B) : blen A + blen B - 1 ≤ blen (A * B) := by
  have h1 := blen_ge (n := A) (by omega)
  have h2 := blen_ge (n := B) (by omega)
  have h3 := blen_lt (A * B)
  have h4 : 2 ^ (blen A - 1) * 2 ^ (blen B - 1) ≤ A * B := Nat.mul_le_mul h1 h2
  rw [← Nat.pow_add] at h4
  have h5 := (Nat.pow_lt_pow_iff_right (a := 2) (by decide)).mp (Nat.lt_of_le_of_lt h4 h3)
  have := blen_pos.mpr hA
  have := blen_pos.mpr hB
  omega

theorem blen_bound {A : Nat} {L : Nat} (h : (ds B64 A).length ≤ L) : blen A ≤ 64 * L := by
  rcases Nat.eq_zero_or_pos A with h0 | h0
  · subst h0; exact Nat.zero_le _
  · have h1 := ds_lt two64 A
    have h2 : B64 ^ (ds B64 A).length ≤ B64 ^ L := Nat.pow_le_pow_right (by decide) h
    have h4 : B64 ^ L = 2 ^ (64 * L) := by rw [Nat.pow_mul]
    have h3 := blen_ge (n := A) (by omega)
    have h5 : 2 ^ (blen A - 1) < 2 ^ (64 * L) := by rw [← h4]; omega
    have := (Nat.pow_lt_pow_iff_right (a := 2) (by decide)).mp h5
    omega

attribute [-simp] Int.natCast_add Int.natCast_mul Int.natCast_ediv Int.natCast_emod Int.natCast_pow
attribute [local simp] strip stripL LW' LR gW evOp oMove oAssign oPick oBinOp oUnOp oConvert oExtract oIndexAddr oIndex oLoad oStore oSlice oMakeSlice oCall oBuildSlice opd opds optOpd plain plain1 Tr.get_set tmOf builtinV binV isShift sameKind undef resultV resOne packV ltNat ltNum ltLst calleeV parts lss_nat unV DW grdOf heapOp LX isStore

section
variable {H : AH} {va vb : Value} {xs ys : List Nat}

/-- A number as an answer: ErrBig, if it is too great. -/
def MulIs (n0 : Nat) (N : Nat) (v : Value) (H' : AH) : Prop :=
  (67108864 < blen N ∧ v = .tuple #[.slice none 0 0, .int .i64 3]) ∨ (blen N ≤ 67108864 ∧ ∃ u, v = .tuple #[u, .int .i64 0] ∧ Own n0 H' u (ds B64 N))

theorem great_spec {A B : Nat} (ha : Sl H va (ds B64 A)) (hb : Sl H vb (ds B64 B)) (lA : (ds B64 A).length ≤ Lim) (lB : (ds B64 B).length ≤ Lim) :
    CW Try.prog cfg0 65 [va, vb] H fun v H' => H' = H ∧ v = .bool (decide (0 < A ∧ 0 < B ∧ 67108864 < blen A + blen B - 1)) := by
  refine CW_intro 24 (by decide) (by decide) Try.func65 rfl rfl ?_
  have c1 := length_call ha lA
  have c2 := length_call hb lB
  have bA : blen A ≤ 64 * 2000000000000 := blen_bound lA
  have bB : blen B ≤ 64 * 2000000000000 := blen_bound lB
  apply W_seq; intro b1 hb1
  apply W_region
  simp
  show W _ _ b1 _ _; subst hb1
  apply W_seq; intro b1 hb1
  apply W_region
  simp [c1, c2]
  show W _ _ b1 _ _; subst hb1
  apply W_seq; intro b1 hb1
  apply W_region
  by_cases hA : 0 < blen A
  · by_cases hB : 0 < blen B
    · have s1 : intBin .add .i64 (blen A : Int) (blen B : Int) = some (.int .i64 ((blen A + blen B : Nat) : Int)) := add_i64 (by omega)
      have s2 : intBin .sub .i64 ((blen A + blen B : Nat) : Int) 1 = some (.int .i64 ((blen A + blen B - 1 : Nat) : Int)) := sub1_i64 (by omega) (by omega)
      simp [gtr0, hA, hB, s1, s2, gtrMax]
      show W _ _ b1 _ _; subst hb1
      apply W_ret
      have hA' := blen_pos.mp hA
      have hB' := blen_pos.mp hB
      simp [hA', hB']
    · have hB' : ¬ 0 < B := fun h => hB (blen_pos.mpr h)
      simp [gtr0, hA, hB]
      show W _ _ b1 _ _; subst hb1
      apply W_ret
      simp
      omega
  · have hA' : ¬ 0 < A := fun h => hA (blen_pos.mpr h)
    simp [gtr0, hA]
    show W _ _ b1 _ _; subst hb1
    apply W_ret
    simp
    omega

theorem fits_spec (ha : Sl H va xs) (dx : Dig B64 xs) (lx : xs.length ≤ 2 * Lim + 1) :
    CW Try.prog cfg0 66 [va] H fun v H' => Keep H H' ∧ MulIs H.n (dv B64 xs) v H' := by
  refine CW_intro 10 (by decide) (by decide) Try.func66 rfl rfl ?_
  obtain ⟨v1, H1, c1, k1, o1⟩ := norm_spec ha (Nat.le_trans lx (by decide))
  rw [trimL_ds two64 dx] at o1
  have lN := ds64_len dx
  have c2 : callI Try.prog cfg0 31 [v1] H1 = some (.int .i64 (blen (dv B64 xs) : Int), H1) := by
    obtain ⟨_, _, hc, rfl, rfl⟩ := length_spec o1.sl (ds_dig two64 _) (Nat.le_trans (Nat.le_trans lN lx) (by decide))
    rw [dv_ds two64] at hc
    exact hc
  generalize dv B64 xs = N at *
  apply W_seq; intro b1 hb1
  apply W_region
  simp
  show W _ _ b1 _ _; subst hb1
  apply W_seq; intro b1 hb1
  apply W_region
  simp [c1]
  show W _ _ b1 _ _; subst hb1
  apply W_seq; intro b1 hb1
  apply W_seq; intro b2 hb2
  apply W_region
  simp [c2, gtrMax]
  show W _ _ b2 _ _; subst hb2
  by_cases h : 67108864 < blen N
  · refine W_cond (t := true) (by simp [h]) ?_
    apply W_seq; intro b2 hb2
    apply W_region
    simp
    show W _ _ b2 _ _; subst hb2
    apply W_ret
    simp [seqQ]
    exact ⟨k1, .inl ⟨h, rfl⟩⟩
  · refine W_cond (t := false) (by simp [h]) ?_
    apply W_skip
    show W _ _ b1 _ _; subst hb1
    apply W_seq; intro b2 hb2
    apply W_region
    simp
    show W _ _ b2 _ _; subst hb2
    apply W_ret
    simp
    exact ⟨k1, .inr ⟨by omega, v1, rfl, o1⟩⟩

theorem mulWay_call {A B : Nat} (ha : Sl H va (ds B64 A)) (hb : Sl H vb (ds B64 B)) (lA : (ds B64 A).length ≤ Lim) (lB : (ds B64 B).length ≤ Lim) :
    ∃ v H', callI Try.prog cfg0 47 [va, vb] H = some (v, H') ∧ Keep H H' ∧ HalvedIs H.n ((ds B64 A).length + (ds B64 B).length) (A * B) v H' := by
  obtain ⟨v, H', hc, k, h⟩ := halved_ok ((ds B64 A).length + (ds B64 B).length) (by have : Lim = 2000000000000 := rfl; omega) H va vb _ _ ha hb (ds_dig two64 A) (ds_dig two64 B) (Nat.le_refl _)
  rw [dv_ds two64, dv_ds two64] at h
  suffices hs : CW Try.prog cfg0 47 [va, vb] H fun v' H'' => v' = v ∧ H'' = H' by
    obtain ⟨_, _, hc2, rfl, rfl⟩ := hs
    exact ⟨_, _, hc2, k, h⟩
  refine CW_intro 8 (by decide) (by decide) Try.func47 rfl rfl ?_
  apply W_seq; intro b1 hb1
  apply W_region
  simp
  show W _ _ b1 _ _; subst hb1
  apply W_seq; intro b1 hb1
  apply W_region
  simp [hc]
  show W _ _ b1 _ _; subst hb1
  apply W_ret
  simp

theorem mul_spec (ha : Sl H va xs) (hb : Sl H vb ys) (dx : Dig B64 xs) (dy : Dig B64 ys) (lx : xs.length ≤ Lim) (ly : ys.length ≤ Lim) :
    CW Try.prog cfg0 32 [va, vb] H fun v H' => Keep H H' ∧ MulIs H.n (dv B64 xs * dv B64 ys) v H' := by
  suffices hp : CW Try.prog cfg0 46 [va, vb, .func (.func 47) #[] #[]] H fun v H' => Keep H H' ∧ MulIs H.n (dv B64 xs * dv B64 ys) v H' ∧ ∃ a b, v = .tuple #[a, b] by
    obtain ⟨_, H1, hc, k1, h1, a, b, rfl⟩ := hp
    refine CW_intro 11 (by decide) (by decide) Try.func32 rfl rfl ?_
    apply W_seq; intro b1 hb1
    apply W_region
    simp
    show W _ _ b1 _ _; subst hb1
    apply W_seq; intro b1 hb1
    apply W_region
    simp [hc]
    show W _ _ b1 _ _; subst hb1
    apply W_ret
    simp
    exact ⟨k1, h1⟩
  refine CW_intro 22 (by decide) (by decide) Try.func46 rfl rfl ?_
  obtain ⟨v1, v2, H1, H2, c1, c2, k2, o1, o2, ap⟩ := norm_two ha hb dx dy lx ly
  have lA := Nat.le_trans (ds64_len dx) lx
  have lB := Nat.le_trans (ds64_len dy) ly
  generalize dv B64 xs = A at *
  generalize dv B64 ys = B at *
  have c3 : callI Try.prog cfg0 65 [v1, v2] H2 = some (.bool (decide (0 < A ∧ 0 < B ∧ 67108864 < blen A + blen B - 1)), H2) := by
    obtain ⟨_, _, hc, rfl, rfl⟩ := great_spec o1.sl o2.sl lA lB
    exact hc
  apply W_seq; intro b1 hb1
  apply W_region
  simp
  show W _ _ b1 _ _; subst hb1
  apply W_seq; intro b1 hb1
  apply W_region
  simp [c1, c2]
  show W _ _ b1 _ _; subst hb1
  apply W_seq; intro b1 hb1
  apply W_seq; intro b2 hb2
  by_cases hg : 0 < A ∧ 0 < B ∧ 67108864 < blen A + blen B - 1
  · rw [decide_eq_true hg] at c3
    apply W_region
    simp [c3]
    show W _ _ b2 _ _; subst hb2
    refine W_cond (t := true) (by simp) ?_
    apply W_seq; intro b2 hb2
    apply W_region
    simp
    show W _ _ b2 _ _; subst hb2
    apply W_ret
    simp [seqQ]
    have := blen_mul hg.1 hg.2.1
    exact ⟨k2, .inl ⟨by omega, rfl⟩⟩
  · rw [decide_eq_false hg] at c3
    obtain ⟨v3, H3, c4, k3, len, hlen, zs, lz, dz, vz, oz⟩ := mulWay_call o1.sl o2.sl lA lB
    obtain ⟨v5, H5, c5, k5, h5⟩ := fits_spec oz.sl dz (by have : Lim = 2000000000000 := rfl; omega)
    rw [vz] at h5
    have hn : H.n ≤ H3.n := (k2.trans k3).n
    have h6 : MulIs H.n (A * B) v5 H5 ∧ ∃ a b, v5 = .tuple #[a, b] := by
      rcases h5 with ⟨h, rfl⟩ | ⟨h, u, rfl, o⟩
      · exact ⟨.inl ⟨h, rfl⟩, _, _, rfl⟩
      · exact ⟨.inr ⟨h, u, rfl, o.mono hn (.refl _)⟩, _, _, rfl⟩
    obtain ⟨h6, a, b, rfl⟩ := h6
    apply W_region
    simp [c3]
    show W _ _ b2 _ _; subst hb2
    refine W_cond (t := false) (by simp) ?_
    apply W_skip
    show W _ _ b1 _ _; subst hb1
    apply W_seq; intro b2 hb2
    apply W_region
    simp [c4, c5]
    show W _ _ b2 _ _; subst hb2
    apply W_ret
    simp
    exact ⟨(k2.trans k3).trans k5, h6⟩
end
end
end Go.Proofs.Ytldapilhmmbjhaa

/-
  nat.Add.
-/
namespace Go.Proofs.Ytldapilhmmbjhaa
open Go Ev
set_option linter.unusedVariables false
set_option linter.unusedSimpArgs false
noncomputable section

attribute [-simp] Int.natCast_add Int.natCast_mul Int.natCast_ediv Int.natCast_emod Int.natCast_pow
attribute [local simp] strip stripL LW' LR gW evOp oMove oAssign oPick oBinOp oUnOp oConvert oExtract oIndexAddr oIndex oLoad oStore oSlice oMakeSlice oCall oBuildSlice opd opds optOpd plain plain1 Tr.get_set tmOf builtinV binV isShift sameKind undef resultV resOne packV ltNat ltNum ltLst calleeV parts lss_nat unV DW grdOf heapOp LX isStore

section
variable {H : AH} {va vb : Value} {xs ys : List Nat}

theorem natAdd_spec (ha : Sl H va xs) (hb : Sl H vb ys) (dx : Dig B64 xs) (dy : Dig B64 ys) (lx : xs.length ≤ 2 * Lim) (ly : ys.length ≤ 2 * Lim) :
    CW Try.prog cfg0 34 [va, vb] H fun v H' => Keep H H' ∧ MulIs H.n (dv B64 xs + dv B64 ys) v H' := by
  have hLim : Lim = 2000000000000 := rfl
  refine CW_intro 61 (by decide) (by decide) Try.func34 rfl rfl ?_
  obtain ⟨v1, H1, c1, e1, s1⟩ := trim_spec ha (by omega)
  obtain ⟨v2, H2, c2, e2, s2⟩ := trim_spec hb (by omega)
  rw [e1] at c1
  rw [e2] at c2
  rw [← dv_trimL B64 xs, ← dv_trimL B64 ys]
  have dx := trimL_dig dx
  have dy := trimL_dig dy
  have lx : (trimL xs).length ≤ 2 * Lim := Nat.le_trans (trimL_len xs) lx
  have ly : (trimL ys).length ≤ 2 * Lim := Nat.le_trans (trimL_len ys) ly
  generalize trimL xs = xs at *
  generalize trimL ys = ys at *
  apply W_seq; intro b1 hb1
  apply W_region
  simp
  show W _ _ b1 _ _; subst hb1
  apply W_seq; intro b1 hb1
  apply W_region
  simp [c1, c2]
  show W _ _ b1 _ _; subst hb1
  refine W_thenK (fun s' => s'.k = 61 ∧ s'.H = H ∧ ∃ (a b : Value) (xa xb : List Nat), Sl H a xa ∧ Sl H b xb ∧ Dig B64 xa ∧ Dig B64 xb ∧ xb.length ≤ xa.length ∧ xa.length ≤ 2 * Lim ∧ dv B64 xa + dv B64 xb = dv B64 xs + dv B64 ys ∧ s'.tm.get 0 = some a ∧ s'.tm.get 1 = some b) ?_ ?_
  · intro Q' hQ'
    have l1 := s1.len ltNat
    have l2 := s2.len ltNat
    apply W_seq; intro b1 hb1
    apply W_region
    simp [l1, l2]
    show W _ _ b1 _ _; subst hb1
    by_cases h : xs.length < ys.length
    · refine W_cond (t := true) (by simp [h]) ?_
      apply W_region
      simp
      apply hQ'
      exact ⟨rfl, rfl, v2, v1, ys, xs, s2, s1, dy, dx, by omega, by omega, Nat.add_comm _ _, by simp, by simp⟩
    · refine W_cond (t := false) (by simp [h]) ?_
      apply W_skip
      apply hQ'
      exact ⟨rfl, rfl, v1, v2, xs, ys, s1, s2, dx, dy, by omega, by omega, rfl, by simp, by simp⟩
  clear ha hb s1 s2 dx dy c1 c2
  rintro ⟨k, tm, H0⟩ ⟨hk, hH, a, b, xa, xb, ha, hb, dx, dy, hba, hla, hsum, t0, t1⟩
  simp only at hk hH t0 t1
  subst hk; subst hH
  rw [← hsum]
  clear hsum lx ly
  have l1 := ha.len ltNat
  have l2 := hb.len ltNat
  obtain ⟨n, hn⟩ : ∃ n, n = xa.length := ⟨_, rfl⟩
  rw [← hn] at l1
  obtain ⟨c0, H3, hmk, k3, o3, n3⟩ := makeSlice_own (H := H0) ltNat (n := n + 1) (by omega)
  apply W_seq; intro b1 hb1
  apply W_region
  simp [t0, l1, add1_i64 (x := n) (by omega), hmk]
  show W _ _ b1 _ _; subst hb1
  apply W_seq; intro b1 hb1
  apply W_region
  simp
  show W _ _ b1 _ _; subst hb1
  apply W_seq; intro b1 hb1
  apply W_seq; intro b2 hb2
  apply W_region
  simp [t0, l1]
  show W _ _ b2 _ _; subst hb2
  apply W_block
  refine W_loopK (fun m s' => s'.k = 61 ∧ Keep H0 s'.H ∧ ∃ (i c : Nat) (L : List Nat), m + i = n ∧ L.length = i ∧ c ≤ 1 ∧ Dig B64 L ∧ dv B64 L + B64 ^ i * c = dv B64 (xa.take i) + dv B64 (xb.take i) ∧ Own H0.n s'.H c0 (L ++ List.replicate (m + 1) 0) ∧
    s'.tm.get 0 = some a ∧ s'.tm.get 1 = some b ∧ s'.tm.get 6 = some c0 ∧ s'.tm.get 7 = some (.int .u64 (c : Int)) ∧ s'.tm.get 26 = some (.int .i64 (n : Int)) ∧ s'.tm.get 27 = some (.int .i64 (i : Int))) ?_ n _
    ⟨rfl, k3, 0, 0, [], by omega, rfl, by omega, .nil _, by simp [dv], by simpa using o3, by simp [t0], by simp [t1], by simp, by simp, by simp, by simp⟩
  clear t0 t1
  rintro m ⟨k, tm, H4⟩ ⟨hk, kH, i, c, L, hmi, hL, hc, dL, heq, own, t0, t1, t6, t7, t26, t27⟩ Q' hQ'
  simp only at hk kH own t0 t1 t6 t7 t26 t27
  subst hk
  apply W_seq; intro b3 hb3
  apply W_region
  simp [t26, t27]
  show W _ _ b3 _ _; subst hb3
  apply W_seq; intro b3 hb3
  by_cases hi : i < n
  · refine W_cond (t := true) (by simp [hi]) ?_
    apply W_skip
    show W _ _ b3 _ _; subst hb3
    obtain ⟨m', rfl⟩ : ∃ m', m = m' + 1 := ⟨m - 1, by omega⟩
    have hi' : i < xa.length := by omega
    have sa := ha.keep kH
    have sb := hb.keep kH
    obtain ⟨y, hy⟩ : ∃ y, y = nth xb i := ⟨_, rfl⟩
    have hyB : y < B64 := by rw [hy]; exact nth_lt dy (by decide) _
    obtain ⟨x, hx⟩ : ∃ x, x = nth xa i := ⟨_, rfl⟩
    have hxB : x < B64 := by rw [hx]; exact nth_lt dx (by decide) _
    have a0 := sa.adr ltNat (k := .i64) hi'
    have d0 := sa.load hi'
    rw [← nth_get hi', ← hx] at d0
    obtain ⟨z, hz⟩ : ∃ z, z = (x + y + c) % B64 := ⟨_, rfl⟩
    obtain ⟨c', hc'⟩ : ∃ c', c' = (x + y + c) / B64 := ⟨_, rfl⟩
    have hzc : B64 * c' + z = x + y + c := by rw [hz, hc']; exact Nat.div_add_mod _ _
    have hzB : z < B64 := by rw [hz]; exact Nat.mod_lt _ (by decide)
    have hc1 : c' ≤ 1 := by
      have : c' < 2 := by rw [hc', Nat.div_lt_iff_lt_mul (by decide)]; omega
      omega
    have ac : callI Try.prog cfg0 49 [.int .u64 (x : Int), .int .u64 (y : Int), .int .u64 (c : Int)] H4 = some (.tuple #[.int .u64 (z : Int), .int .u64 (c' : Int)], H4) := by rw [hz, hc']; exact add64_call x y c H4 hc
    obtain ⟨H5, st5, own5, bt5, ka5⟩ := own.fill hL z
    have a3 := own.sl.adr ltNat (k := .i64) (i := i) (by simp; omega)
    apply W_seq; intro b3 hb3
    apply W_block
    apply W_seq; intro b4 hb4
    apply W_region
    simp [t27]
    show W _ _ b4 _ _; subst hb4
    apply W_seq; intro b4 hb4
    apply W_region
    simp
    show W _ _ b4 _ _; subst hb4
    refine W_thenK (fun s' => s'.k = 61 ∧ s'.H = H4 ∧ s'.tm.get 0 = some a ∧ s'.tm.get 1 = some b ∧ s'.tm.get 6 = some c0 ∧ s'.tm.get 7 = some (.int .u64 (c : Int)) ∧ s'.tm.get 8 = some (.int .i64 (i : Int)) ∧ s'.tm.get 9 = some (.int .u64 (y : Int)) ∧ s'.tm.get 26 = some (.int .i64 (n : Int)) ∧ s'.tm.get 27 = some (.int .i64 (i : Int))) ?_ ?_
    · intro Q'' hQ''
      apply W_seq; intro b4 hb4
      apply W_region
      simp [t1, l2]
      show W _ _ b4 _ _; subst hb4
      by_cases hby : i < xb.length
      · refine W_cond (t := true) (by simp [hby]) ?_
        have a1 := sb.adr ltNat (k := .i64) hby
        have d1 := sb.load hby
        rw [← nth_get hby, ← hy] at d1
        apply W_region
        simp [t1, a1, d1]
        apply hQ''
        exact ⟨rfl, rfl, by simp [t0], by simp [t1], by simp [t6], by simp [t7], by simp, by simp, by simp [t26], by simp [t27]⟩
      · refine W_cond (t := false) (by simp [hby]) ?_
        apply W_skip
        apply hQ''
        rw [nth_out (by omega)] at hy
        subst hy
        exact ⟨rfl, rfl, by simp [t0], by simp [t1], by simp [t6], by simp [t7], by simp, by simp, by simp [t26], by simp [t27]⟩
    clear t0 t1 t6 t7 t26 t27
    rintro ⟨k, tm, H6⟩ ⟨hk, hH, t0, t1, t6, t7, t8, t9, t26, t27⟩
    simp only at hk hH t0 t1 t6 t7 t8 t9 t26 t27
    subst hk; subst hH
    apply W_region
    simp [t0, t6, t7, t8, t9, a0, d0, ac, a3, st5]
    show W _ _ b3 _ _; subst hb3
    apply W_region
    simp [t27, add1_i64 (x := i) (by omega)]
    apply hQ'
    refine ⟨m', by omega, rfl, ka5 H0 kH (Nat.le_refl _), i + 1, c', L ++ [z], by omega, by simp [hL], hc1, dL.append (.cons hzB (.nil _)), ?_, own5, by simp [t0], by simp [t1], by simp [t6], by simp, by simp [t26], by simp⟩
    rw [dv_append, hL, dv_take_nth, dv_take_nth, ← hx, ← hy]
    simp only [dv, Nat.mul_zero, Nat.add_zero]
    have e1 : B64 ^ i * (B64 * c' + z) = B64 ^ i * (x + y + c) := by rw [hzc]
    rw [Nat.mul_add, ← Nat.mul_assoc, show B64 ^ i * B64 = B64 ^ (i + 1) from rfl, Nat.mul_add, Nat.mul_add] at e1
    omega
  · refine W_cond (t := false) (by simp [hi]) ?_
    apply W_exit
    apply hQ'
    left
    refine ⟨rfl, ?_⟩
    obtain rfl : i = n := by omega
    obtain rfl : m = 0 := by omega
    rw [List.take_of_length_le (by omega), List.take_of_length_le (by omega)] at heq
    have a3 := own.sl.adr ltNat (k := .i64) (i := i) (by simp; omega)
    obtain ⟨H5, st5, own5, bt5, ka5⟩ := own.fill hL c
    rw [List.replicate_zero, List.append_nil] at own5
    have dLc : Dig B64 (L ++ [c]) := dL.append (.cons (by show c < 18446744073709551616; omega) (.nil _))
    have hval : dv B64 (L ++ [c]) = dv B64 xa + dv B64 xb := by
      rw [dv_append, hL]
      simp only [dv, Nat.mul_zero, Nat.add_zero]
      exact heq
    obtain ⟨v6, H6, c6, e6, h6⟩ := told_spec own5 dLc (by simp; omega)
    subst e6
    rw [hval] at h6
    have k5 : Keep H0 H6 := ka5 H0 kH (Nat.le_refl _)
    have h7 : MulIs H0.n (dv B64 xa + dv B64 xb) v6 H6 ∧ ∃ a b, v6 = .tuple #[a, b] := by
      rcases h6 with ⟨h, rfl⟩ | ⟨h, u, rfl, o⟩
      · exact ⟨.inl ⟨h, rfl⟩, _, _, rfl⟩
      · exact ⟨.inr ⟨h, u, rfl, o⟩, _, _, rfl⟩
    obtain ⟨h7, p, q, rfl⟩ := h7
    show W _ _ b1 _ _; subst hb1
    apply W_seq; intro b4 hb4
    apply W_region
    simp [t0, t6, t7, l1, a3, st5]
    show W _ _ b4 _ _; subst hb4
    apply W_seq; intro b4 hb4
    apply W_region
    simp [t6, c6]
    show W _ _ b4 _ _; subst hb4
    apply W_ret
    simp
    exact ⟨k5, h7⟩
end
end
end Go.Proofs.Ytldapilhmmbjhaa

/-
  surdlaw03.DivSplits: the walk.
-/
namespace Go.Proofs.Ytldapilhmmbjhaa
open Go Ev
set_option linter.unusedVariables false
set_option linter.unusedSimpArgs false
noncomputable section

theorem of_call {H : AH} {v : Value} {xs : List Nat} (h : Sl H v xs) (dx : Dig B64 xs) (hl : xs.length ≤ Lim) : ∃ v' H', callI Try.prog cfg0 14 [v] H = some (v', H') ∧ Keep H H' ∧ Own H.n H' v' (ds b32 (dv B64 xs)) ∧ (ds b32 (dv B64 xs)).length ≤ 2 * Lim := by
  obtain ⟨v', H', hc, k, o⟩ := of_spec h dx (Nat.le_trans hl (by decide))
  refine ⟨v', H', hc, k, o, ?_⟩
  have h1 : dv B64 xs < b32 ^ (2 * xs.length) := by
    have := dv_lt (halves_dig dx)
    rwa [halves_dv, halves_len] at this
  have := ds_len_le two32 h1
  have hl : xs.length ≤ 2000000000000 := hl
  show _ ≤ 2 * 2000000000000
  omega

theorem eql_self {k : IntKind} {x : Int} : intBin .eql k x x = some (.bool true) := by
  show some (Value.bool (x == x)) = _
  simp

attribute [-simp] Int.natCast_add Int.natCast_mul Int.natCast_ediv Int.natCast_emod Int.natCast_pow
attribute [local simp] strip stripL LW' LR gW evOp oMove oAssign oPick oBinOp oUnOp oConvert oExtract oIndexAddr oIndex oLoad oStore oSlice oMakeSlice oCall oBuildSlice opd opds optOpd plain plain1 Tr.get_set tmOf builtinV binV isShift sameKind undef resultV resOne packV ltNat ltNum ltLst calleeV parts lss_nat unV DW grdOf heapOp LX isStore

set_option maxHeartbeats 1000000 in
theorem divSplits_spec {H : AH} {va vb : Value} {xs ys : List Nat} (ha : Sl H va xs) (hb : Sl H vb ys) (dx : Dig B64 xs) (dy : Dig B64 ys) (lx : xs.length ≤ Lim) (ly : ys.length ≤ Lim) :
    CW Try.prog cfg0 4 [va, vb] H fun v H' => Keep H H' ∧ v = .bool true := by
  refine CW_intro 52 (by decide) (by decide) Try.func4 rfl rfl ?_
  obtain ⟨v1, H1, c1, k1, a1⟩ := split_spec ha hb dx dy lx ly
  obtain ⟨v2, H2, c2, k2, o2, l2⟩ := of_call (ha.keep k1) dx lx
  obtain ⟨v3, H3, c3, k3, o3, l3⟩ := of_call ((hb.keep k1).keep k2) dy ly
  obtain ⟨v4, H4, c4, k4, a4⟩ := refSplit_spec (o2.sl.keep k3) o3.sl l2 l3
  have lA : (ds b32 (dv B64 xs)).length ≤ 2 * Lim := l2
  generalize dv B64 xs = A at *
  generalize dv B64 ys = B at *
  have k234 := (k2.trans k3).trans k4
  have kH := k1.trans k234
  apply W_seq; intro b1 hb1
  apply W_region
  simp
  show W _ _ b1 _ _; subst hb1
  have fin : ∀ (b : Code) (n kk : Nat) (cv wv : Value) (xs' : List Nat) (e N code : Nat) (tm : Tr Value), kk < 9223372036854775808 → tm.get 5 = some (.int .i64 (kk : Int)) → tm.get 8 = some (.int .i64 (kk : Int)) → tm.get 6 = some cv → tm.get 7 = some (.int .i64 (e : Int)) → tm.get 9 = some wv → tm.get 10 = some (.int .i64 (code : Int)) →
      Own H.n H4 cv xs' → Sl H4 wv (ds b32 N) → (ds b32 N).length ≤ 2 * Lim → SameIs xs' e N code → e < 1000 → code < 1000 → xs'.length ≤ 8000000000000 →
      b = sndC (sndC (sndC (sndC (Try.f4.body.getD .skip)))) →
      W Try.prog cfg0 b ⟨52, tm, H4⟩ fun ex s => (ex = .norm ∨ ex = .ret) ∧ ∃ vs, resultV Try.prog s Try.f4.results.toList = some vs ∧ Keep H s.H ∧ packV vs = .bool true := fun b n kk cv wv xs' e N code tm hkk t5 t8 t6 t7 t9 t10 ocv swv lN hs he hcd hl hb => by
    subst hb
    obtain ⟨_, H5, c5, k5, rfl⟩ := same_spec ocv.sl swv lN hs he hcd
    have ocv5 := ocv.mono (Nat.le_refl _) k5
    have hn : H.n ≤ H5.n := Nat.le_trans kH.n k5.n
    have hbl := buildLL1 H5 cv ocv.isSlice.1
    obtain ⟨_, H6, c6, rfl, ka6⟩ := ownRef_spec (grp1 ocv5 hn) (by simp) (fun _ => hl)
    have c6 : callI Try.prog cfg0 17 [.slice (some ⟨H5.n, 0, none⟩) 1 1] (H5.new 1 [cv]) = some (.bool true, H6) := c6
    have k6 : Keep H H6 := ka6 H ((kH.trans k5).trans (.new _ _ _)) (Nat.le_refl _)
    obtain ⟨H7, c7, k7⟩ := lives_call H6
    show W _ _ (.seq (.region 5 _ _) _) _ _
    apply W_seq; intro b1 hb1
    apply W_region
    simp [t5, t6, t7, t8, t9, t10, eql_self, c5, hbl, c6, c7]
    show W _ _ b1 _ _; subst hb1
    apply W_ret
    simp [Try.f4]
    exact k6.trans k7
  rcases a4 with ⟨hbad, rfl⟩ | ⟨hA, hB, k, c, u, hsp, rfl, su, lc⟩
  · obtain rfl : v1 = .tuple #[.int .i64 0, .slice none 0 0, .int .i64 1] := by
      rcases a1 with ⟨_, h⟩ | ⟨h1, h2, _⟩
      · exact h
      · omega
    apply W_seq; intro b1 hb1
    apply W_region
    simp [c1]
    show W _ _ b1 _ _; subst hb1
    apply W_seq; intro b1 hb1
    apply W_region
    simp [c2, c3, c4]
    show W _ _ b1 _ _; subst hb1
    apply W_seq; intro b1 hb1
    apply W_seq; intro b2 hb2
    have f1 : intBin .eql .i64 1 0 = some (.bool false) := rfl
    apply W_region
    simp [f1]
    show W _ _ b2 _ _; subst hb2
    refine W_cond (t := false) (by simp) ?_
    apply W_skip
    show W _ _ b1 _ _
    exact fin b1 0 0 (.slice none 0 0) (.slice none 0 0) [] 1 0 1 _ (by decide) (by simp) (by simp) (by simp) (by simp) (by simp) (by simp) .nil (by rw [ds_zero]; exact .nil) (by rw [ds_zero]; exact Nat.zero_le _) (.inl ⟨by decide, rfl, rfl⟩) (by decide) (by decide) (by simp) hb1
  · have hkb : k < 64 * (2 * Lim) := by
      have h1 := ds_lt two32 A
      have h2 : b32 ^ (ds b32 A).length ≤ B64 ^ (ds b32 A).length := Nat.pow_le_pow_left (by decide) _
      exact split_bound hsp.1 hA hB (Nat.le_trans (ds_len_le two64 (Nat.lt_of_lt_of_le h1 h2)) lA)
    have hkb : k < 64 * (2 * 2000000000000) := hkb
    have f0 : intBin .eql .i64 0 0 = some (.bool true) := rfl
    have c5 := refLen_call su lc
    have l64 : (ds B64 c).length ≤ 8000000000000 := by
      have h1 := ds_lt two32 c
      have h2 : b32 ^ (ds b32 c).length ≤ B64 ^ (ds b32 c).length := Nat.pow_le_pow_left (by decide) _
      exact Nat.le_trans (ds_len_le two64 (Nat.lt_of_lt_of_le h1 h2)) (Nat.le_trans lc (by decide))
    rcases a1 with ⟨h, _⟩ | ⟨_, _, k', c', hsp', h⟩
    · omega
    · obtain ⟨rfl, rfl⟩ := hsp.uniq (by omega) hsp'
      rcases h with ⟨hbig, rfl⟩ | ⟨hsm, u', rfl, ou'⟩
      · apply W_seq; intro b1 hb1
        apply W_region
        simp [c1]
        show W _ _ b1 _ _; subst hb1
        apply W_seq; intro b1 hb1
        apply W_region
        simp [c2, c3, c4]
        show W _ _ b1 _ _; subst hb1
        apply W_seq; intro b1 hb1
        apply W_seq; intro b2 hb2
        apply W_region
        simp [f0, c5, gtrMax, hbig]
        show W _ _ b2 _ _; subst hb2
        refine W_cond (t := true) (by simp) ?_
        apply W_region
        simp
        show W _ _ b1 _ _
        exact fin b1 0 0 (.slice none 0 0) u [] 3 c 0 _ (by decide) (by simp) (by simp) (by simp) (by simp) (by simp) (by simp) .nil su lc (.inr (.inl ⟨rfl, hbig, rfl, rfl⟩)) (by decide) (by decide) (by simp) hb1
      · have hnb : ¬ 67108864 < blen c := by omega
        apply W_seq; intro b1 hb1
        apply W_region
        simp [c1]
        show W _ _ b1 _ _; subst hb1
        apply W_seq; intro b1 hb1
        apply W_region
        simp [c2, c3, c4]
        show W _ _ b1 _ _; subst hb1
        apply W_seq; intro b1 hb1
        apply W_seq; intro b2 hb2
        apply W_region
        simp [f0, c5, gtrMax, hnb]
        show W _ _ b2 _ _; subst hb2
        refine W_cond (t := false) (by simp) ?_
        apply W_skip
        show W _ _ b1 _ _
        exact fin b1 0 k u' u (ds B64 c) 0 c 0 _ (by omega) (by simp) (by simp) (by simp) (by simp) (by simp) (by simp) (ou'.mono (Nat.le_refl _) k234) su lc (.inr (.inr ⟨rfl, hsm, rfl, rfl⟩)) (by decide) (by decide) l64 hb1
end
end Go.Proofs.Ytldapilhmmbjhaa

/-
  surdlaw03.DivBoths: the walk.
-/
namespace Go.Proofs.Ytldapilhmmbjhaa
open Go Ev
set_option linter.unusedVariables false
set_option linter.unusedSimpArgs false
noncomputable section

def four (x0 x1 x2 x3 : List Nat) : Nat → List Nat
  | 0 => x0
  | 1 => x1
  | 2 => x2
  | _ => x3

theorem buildLL4 (H : AH) (v0 v1 v2 v3 : Value) (h0 : v0.cells = #[v0]) (h1 : v1.cells = #[v1]) (h2 : v2.cells = #[v2]) (h3 : v3.cells = #[v3]) :
    buildSliceV Try.prog H 62 4 [(0, v0), (1, v1), (2, v2), (3, v3)] = some (.slice (some ⟨H.n, 0, none⟩) 4 4, H.new 1 [v0, v1, v2, v3]) := by
  unfold buildSliceV
  simp only [tLL, zLst]
  have : Instr.fill (fun i => some (i * 1, 1)) ((Array.range (4 * 1)).map ((Value.slice none 0 0).cells[· % (Value.slice none 0 0).cells.size]!)) [(0, v0), (1, v1), (2, v2), (3, v3)] = some #[v0, v1, v2, v3] := by
    simp only [Instr.fill, h0, h1, h2, h3]
    kernel_rfl
  rw [this]
  have e : Nat.ble (4 * 1) (2 ^ 24) = true := by decide
  rw [e]
  rfl

theorem grp4 {n0 : Nat} {H : AH} {v0 v1 v2 v3 : Value} {x0 x1 x2 x3 : List Nat} (h0 : Own n0 H v0 x0) (h1 : Own n0 H v1 x1) (h2 : Own n0 H v2 x2) (h3 : Own n0 H v3 x3)
    (a01 : Apart v0 v1) (a02 : Apart v0 v2) (a03 : Apart v0 v3) (a12 : Apart v1 v2) (a13 : Apart v1 v3) (a23 : Apart v2 v3) (hn : n0 ≤ H.n) : Grp n0 (H.new 1 [v0, v1, v2, v3]) H.n [v0, v1, v2, v3] (four x0 x1 x2 x3) := by
  have hk := Keep.new H 1 [v0, v1, v2, v3]
  have sy : ∀ {v w : Value}, Apart v w → Apart w v := fun h c hc hc' => h c hc' hc
  refine ⟨hn, Nat.lt_succ_self _, by rw [AH.blk_new, if_pos rfl], ?_, ?_, ?_⟩
  · intro i w hi
    match i, hi with
    | 0, hi => cases hi; exact h0.mono (Nat.le_refl _) hk
    | 1, hi => cases hi; exact h1.mono (Nat.le_refl _) hk
    | 2, hi => cases hi; exact h2.mono (Nat.le_refl _) hk
    | 3, hi => cases hi; exact h3.mono (Nat.le_refl _) hk
  · intro i j w w' hij hi hj
    match i, j, hi, hj with
    | 0, 0, _, _ => exact absurd rfl hij
    | 1, 1, _, _ => exact absurd rfl hij
    | 2, 2, _, _ => exact absurd rfl hij
    | 3, 3, _, _ => exact absurd rfl hij
    | 0, 1, hi, hj => cases hi; cases hj; exact a01
    | 0, 2, hi, hj => cases hi; cases hj; exact a02
    | 0, 3, hi, hj => cases hi; cases hj; exact a03
    | 1, 2, hi, hj => cases hi; cases hj; exact a12
    | 1, 3, hi, hj => cases hi; cases hj; exact a13
    | 2, 3, hi, hj => cases hi; cases hj; exact a23
    | 1, 0, hi, hj => cases hi; cases hj; exact sy a01
    | 2, 0, hi, hj => cases hi; cases hj; exact sy a02
    | 3, 0, hi, hj => cases hi; cases hj; exact sy a03
    | 2, 1, hi, hj => cases hi; cases hj; exact sy a12
    | 3, 1, hi, hj => cases hi; cases hj; exact sy a13
    | 3, 2, hi, hj => cases hi; cases hj; exact sy a23
  · intro i w hi hw
    have := fun {v : Value} {x : List Nat} (h : Own n0 H v x) (e : vblk v = some H.n) => (h.blk_lo e).2
    match i, hi with
    | 0, hi => cases hi; exact absurd (this h0 hw) (Nat.lt_irrefl _)
    | 1, hi => cases hi; exact absurd (this h1 hw) (Nat.lt_irrefl _)
    | 2, hi => cases hi; exact absurd (this h2 hw) (Nat.lt_irrefl _)
    | 3, hi => cases hi; exact absurd (this h3 hw) (Nat.lt_irrefl _)

theorem ds_len_32 {c : Nat} {L : Nat} (h : (ds b32 c).length ≤ L) : (ds B64 c).length ≤ L := by
  have h1 := ds_lt two32 c
  have h2 : b32 ^ (ds b32 c).length ≤ B64 ^ (ds b32 c).length := Nat.pow_le_pow_left (by decide) _
  exact Nat.le_trans (ds_len_le two64 (Nat.lt_of_lt_of_le h1 h2)) h

attribute [-simp] Int.natCast_add Int.natCast_mul Int.natCast_ediv Int.natCast_emod Int.natCast_pow
attribute [local simp] strip stripL LW' LR gW evOp oMove oAssign oPick oBinOp oUnOp oConvert oExtract oIndexAddr oIndex oLoad oStore oSlice oMakeSlice oCall oBuildSlice opd opds optOpd plain plain1 Tr.get_set tmOf builtinV binV isShift sameKind undef resultV resOne packV ltNat ltNum ltLst calleeV parts lss_nat unV DW grdOf heapOp LX isStore

/-- Code that ends the law well. -/
def Ends (H : AH) (b : Code) (s : St) : Prop := W Try.prog cfg0 b s fun ex s => (ex = .norm ∨ ex = .ret) ∧ ∃ vs, resultV Try.prog s [.tmp 4] = some vs ∧ Keep H s.H ∧ packV vs = .bool true

/-- An answer of Quo or Rest, as the law compares it. -/
structure OneAns (n0 : Nat) (v : Value) (H' : AH) (N code : Nat) (q : Value) (f : Nat) (xs : List Nat) : Prop where
  e : v = .tuple #[q, .int .i64 (f : Int)]
  own : Own n0 H' q xs
  same : SameIs xs f N code
  f : f < 1000
  len : xs.length ≤ 8000000000000

theorem boolNeq {b : Bool} : eqVals Try.prog 4 (.bool b) (.bool b) = some true := by
  unfold eqVals
  rw [Try.underlying4]
  simp

set_option maxHeartbeats 2000000 in
theorem divBoths_tail {H H4 : AH} {va vb w p v s : Value} {xs ys : List Nat} {n0 : Nat} (kH : Keep H H4) (hn0 : H.n ≤ n0) (hn4 : n0 ≤ H4.n) (k2 : ∃ H2, H2.n = n0 ∧ Keep H2 H4 ∧ Keep H H2 ∧ Sl H2 va xs ∧ Sl H2 vb ys ∧ Sl H2 w ([junk, junk] ++ xs ++ [junk, junk]) ∧ Sl H2 p xs ∧ Sl H2 v ([junk, junk] ++ ys ++ [junk, junk]) ∧ Sl H2 s ys)
    (dx : Dig B64 xs) (dy : Dig B64 ys) (lx : xs.length ≤ Lim) (ly : ys.length ≤ Lim) {q r x y : Value} {xq xr : List Nat} {e X Y code : Nat} (oq : Own n0 H4 q xq) (orr : Own n0 H4 r xr) (apq : Apart q r) (sx : Sl H4 x (ds b32 X)) (sy : Sl H4 y (ds b32 Y))
    (lX : (ds b32 X).length ≤ 2 * Lim) (lY : (ds b32 Y).length ≤ 2 * Lim) (sq : SameIs xq e X code) (sr : SameIs xr e Y code) (he : e < 1000) (hcd : code < 1000) (lq : xq.length ≤ 8000000000000) (lr : xr.length ≤ 8000000000000)
    (hQ : ∀ n v H', OneIs n (dv B64 ys) (dv B64 xs / dv B64 ys) v H' → ∃ q f xs, OneAns n v H' X code q f xs) (hR : ∀ n v H', OneIs n (dv B64 ys) (dv B64 xs % dv B64 ys) v H' → ∃ q f xs, OneAns n v H' Y code q f xs)
    (tm : Tr Value) (t0 : tm.get 0 = some va) (t1 : tm.get 1 = some vb) (t5 : tm.get 5 = some w) (t6 : tm.get 6 = some p) (t7 : tm.get 7 = some v) (t8 : tm.get 8 = some s) (t9 : tm.get 9 = some q) (t10 : tm.get 10 = some r) (t11 : tm.get 11 = some (.int .i64 (e : Int))) (t12 : tm.get 12 = some x) (t13 : tm.get 13 = some y) (t14 : tm.get 14 = some (.int .i64 (code : Int))) :
    Ends H (sndC (sndC (sndC (sndC (sndC (sndC (Try.f5.body.getD .skip))))))) ⟨142, tm, H4⟩ := by
  obtain ⟨H2, hH2, k24, kH2, sa, sb, sw, sp, sv, ss⟩ := k2
  subst hH2
  obtain ⟨_, H5, c5, k5, rfl⟩ := same_spec oq.sl sx lX sq he hcd
  obtain ⟨_, H6, c6, k6, rfl⟩ := same_spec (orr.sl.keep k5) (sy.keep k5) lY sr he hcd
  have k26 := (k24.trans k5).trans k6
  obtain ⟨v7, H7, c7, k7, a7⟩ := quo_spec (sp.keep k26) (ss.keep k26) dx dy lx ly
  obtain ⟨q2, f2, xq2, q2e, oq2, sq2, hf2, lq2⟩ := hQ _ _ _ a7
  subst q2e
  have k27 := k26.trans k7
  obtain ⟨v8, H8, c8, k8, a8⟩ := rest_spec (sp.keep k27) (ss.keep k27) dx dy lx ly
  obtain ⟨r2, g2, xr2, r2e, or2, sr2, hg2, lr2⟩ := hR _ _ _ a8
  subst r2e
  have k28 := k27.trans k8
  have k48 := ((k5.trans k6).trans k7).trans k8
  obtain ⟨_, H9, c9, k9, rfl⟩ := same_spec (oq2.sl.keep k8) (sx.keep k48) lX sq2 hf2 hcd
  obtain ⟨_, H10, c10, k10, rfl⟩ := same_spec (or2.sl.keep k9) (sy.keep (k48.trans k9)) lY sr2 hg2 hcd
  have k210 := (k28.trans k9).trans k10
  obtain ⟨_, H11, c11, k11, rfl⟩ := divides_spec (sp.keep k210) (ss.keep k210) dx dy lx ly
  have k211 := k210.trans k11
  obtain ⟨o1, H12, c12, k12, oo1, lo1⟩ := of_call (sa.keep k211) dx lx
  have k212 := k211.trans k12
  obtain ⟨o2, H13, c13, k13, oo2, lo2⟩ := of_call (sb.keep k212) dy ly
  obtain ⟨_, H14, c14, k14, rfl⟩ := refDivides_spec (oo1.sl.keep k13) oo2.sl lo1 lo2
  have k214 := (k212.trans k13).trans k14
  have k1014 := ((k11.trans k12).trans k13).trans k14
  have k814 := (k9.trans k10).trans k1014
  have k714 := k8.trans k814
  have k414 := ((k5.trans k6).trans k7).trans k714
  have n46 : H4.n ≤ H6.n := Nat.le_trans k5.n k6.n
  have n67 := k7.n
  have oqF := oq.mono (Nat.le_refl _) k414
  have orF := orr.mono (Nat.le_refl _) k414
  have oq2F := oq2.mono (show H2.n ≤ H6.n by omega) k714
  have or2F := or2.mono (show H2.n ≤ H7.n by omega) k814
  have hbl := buildLL4 H14 q r q2 r2 oqF.isSlice.1 orF.isSlice.1 oq2F.isSlice.1 or2F.isSlice.1
  have g := grp4 oqF orF oq2F or2F apq (apart_own oq oq2 n46) (apart_own oq or2 (by omega)) (apart_own orr oq2 n46) (apart_own orr or2 (by omega)) (apart_own oq2 or2 (Nat.le_refl _)) (show H2.n ≤ H14.n from k214.n)
  obtain ⟨_, H15, c15, rfl, ka15⟩ := ownRef_spec g (by simp) (fun i => by
    match i with
    | 0 => exact lq
    | 1 => exact lr
    | 2 => exact lq2
    | (n + 3) => exact lr2)
  have c15 : callI Try.prog cfg0 17 [.slice (some ⟨H14.n, 0, none⟩) 4 4] (H14.new 1 [q, r, q2, r2]) = some (.bool true, H15) := c15
  have k215 : Keep H2 H15 := ka15 H2 (k214.trans (.new _ _ _)) (Nat.le_refl _)
  obtain ⟨_, H16, c16, e16, rfl⟩ := kept_spec (sw.keep k215) (sa.keep k215) lx
  rw [e16] at c16
  obtain ⟨_, H17, c17, e17, rfl⟩ := kept_spec (sv.keep k215) (sb.keep k215) ly
  rw [e17] at c17
  obtain ⟨H18, c18, k18⟩ := lives_call H15
  unfold Ends
  show W _ _ (.seq (.seq (.region 7 _ _) _) _) _ _
  apply W_seq; intro b1 hb1
  apply W_seq; intro b2 hb2
  apply W_region
  simp [t9, t10, t11, t12, t13, t14, c5, c6]
  show W _ _ b2 _ _; subst hb2
  refine W_cond (t := false) (by simp) ?_
  apply W_skip
  show W _ _ b1 _ _; subst hb1
  apply W_seq; intro b1 hb1
  apply W_region
  simp [t6, t8, c7]
  show W _ _ b1 _ _; subst hb1
  apply W_seq; intro b1 hb1
  apply W_region
  simp [t6, t8, c8]
  show W _ _ b1 _ _; subst hb1
  apply W_seq; intro b1 hb1
  apply W_seq; intro b2 hb2
  apply W_region
  simp [t0, t1, t6, t8, t12, t13, t14, c9, c10, c11, c12, c13, c14, boolNeq]
  show W _ _ b2 _ _; subst hb2
  refine W_cond (t := false) (by simp) ?_
  apply W_skip
  show W _ _ b1 _ _; subst hb1
  apply W_seq; intro b1 hb1
  apply W_region
  simp [t0, t1, t5, t7, t9, t10, hbl, c15, c16, c17, c18]
  show W _ _ b1 _ _; subst hb1
  apply W_ret
  simp
  exact (kH2.trans k215).trans k18

theorem lend_call {H : AH} {v : Value} {xs : List Nat} (hv : Sl H v xs) (hl : xs.length ≤ Lim) : ∃ w p H', callI Try.prog cfg0 18 [v] H = some (.tuple #[w, p], H') ∧ Keep H H' ∧ Sl H' w ([junk, junk] ++ xs ++ [junk, junk]) ∧ Sl H' p xs := by
  obtain ⟨_, H', hc, k, w, p, rfl, sw, sp⟩ := lend_spec hv hl
  exact ⟨w, p, H', hc, k, sw, sp⟩

set_option maxHeartbeats 2000000 in
theorem divBoths_spec {H : AH} {va vb : Value} {xs ys : List Nat} (ha : Sl H va xs) (hb : Sl H vb ys) (dx : Dig B64 xs) (dy : Dig B64 ys) (lx : xs.length ≤ Lim) (ly : ys.length ≤ Lim) :
    CW Try.prog cfg0 5 [va, vb] H fun v H' => Keep H H' ∧ v = .bool true := by
  refine CW_intro 142 (by decide) (by decide) Try.func5 rfl rfl ?_
  obtain ⟨w, p, H1, c1, k1, sw, sp⟩ := lend_call ha lx
  obtain ⟨v, s, H2, c2, k2, sv, ss⟩ := lend_call (hb.keep k1) ly
  have kH2 := k1.trans k2
  obtain ⟨v3, H3, c3, k3, a3⟩ := both_spec (sp.keep k2) ss dx dy lx ly
  have k13 := kH2.trans k3
  obtain ⟨o1, H4, c4, k4, oo1, lo1⟩ := of_call (ha.keep k13) dx lx
  obtain ⟨o2, H5, c5, k5, oo2, lo2⟩ := of_call ((hb.keep k13).keep k4) dy ly
  obtain ⟨v6, H6, c6, k6, a6⟩ := refBoth_spec (oo1.sl.keep k5) oo2.sl lo1 lo2
  have k36 := (k4.trans k5).trans k6
  have k26 := k3.trans k36
  have kH := kH2.trans k26
  have hk2 : ∃ H2', H2'.n = H2.n ∧ Keep H2' H6 ∧ Keep H H2' ∧ Sl H2' va xs ∧ Sl H2' vb ys ∧ Sl H2' w ([junk, junk] ++ xs ++ [junk, junk]) ∧ Sl H2' p xs ∧ Sl H2' v ([junk, junk] ++ ys ++ [junk, junk]) ∧ Sl H2' s ys :=
    ⟨H2, rfl, k26, kH2, ha.keep kH2, hb.keep kH2, sw.keep k2, sp.keep k2, sv, ss⟩
  have bA : (ds B64 (dv B64 xs)).length ≤ 8000000000000 := Nat.le_trans (ds64_len dx) (Nat.le_trans lx (by decide))
  have lenA : (ds b32 (dv B64 xs)).length ≤ 2 * Lim := lo1
  apply W_seq; intro b1 hb1
  apply W_region
  simp
  show W _ _ b1 _ _; subst hb1
  apply W_seq; intro b1 hb1
  apply W_region
  simp [c1]
  show W _ _ b1 _ _; subst hb1
  apply W_seq; intro b1 hb1
  apply W_region
  simp [c2]
  show W _ _ b1 _ _; subst hb1
  rcases a3 with ⟨hB, rfl⟩ | ⟨hB, hbig, rfl⟩ | ⟨hB, hq, hr, q, r, rfl, oq, orr, apq⟩
  · obtain rfl : v6 = .tuple #[.slice none 0 0, .slice none 0 0, .int .i64 30] := by
      rcases a6 with ⟨_, h⟩ | ⟨h, _⟩
      · exact h
      · omega
    apply W_seq; intro b1 hb1
    apply W_region
    simp [c3]
    show W _ _ b1 _ _; subst hb1
    apply W_seq; intro b1 hb1
    apply W_region
    simp [c4, c5, c6]
    show W _ _ b1 _ _; subst hb1
    apply W_seq; intro b1 hb1
    apply W_seq; intro b2 hb2
    have f1 : intBin .eql .i64 30 0 = some (.bool false) := rfl
    apply W_region
    simp [f1]
    show W _ _ b2 _ _; subst hb2
    refine W_cond (t := false) (by simp) ?_
    apply W_skip
    show W _ _ b1 _ _; subst hb1
    have one : ∀ Z n v H', OneIs n (dv B64 ys) Z v H' → ∃ q f xs, OneAns n v H' 0 30 q f xs := fun Z n v H' h => by
      rcases h with ⟨_, rfl⟩ | ⟨h, _⟩ | ⟨h, _⟩
      · exact ⟨.slice none 0 0, 30, [], rfl, .nil, .inl ⟨by decide, rfl, rfl⟩, by decide, by decide⟩
      · omega
      · omega
    exact divBoths_tail kH kH2.n (k26.n) hk2 dx dy lx ly (q := .slice none 0 0) (r := .slice none 0 0) (x := .slice none 0 0) (y := .slice none 0 0) (xq := []) (xr := []) (e := 30) (X := 0) (Y := 0) (code := 30) .nil .nil (fun c hc => by cases hc) (by rw [ds_zero]; exact .nil) (by rw [ds_zero]; exact .nil)
      (by rw [ds_zero]; exact Nat.zero_le _) (by rw [ds_zero]; exact Nat.zero_le _) (.inl ⟨by decide, rfl, rfl⟩) (.inl ⟨by decide, rfl, rfl⟩) (by decide) (by decide) (by decide) (by decide) (one _) (one _) _
      (by simp) (by simp) (by simp) (by simp) (by simp) (by simp) (by simp) (by simp) (by simp) (by simp) (by simp) (by simp)
  · obtain ⟨_, q', r', rfl, oq', or'⟩ : 0 < dv B64 ys ∧ ∃ q r, v6 = .tuple #[q, r, .int .i64 0] ∧ Own H5.n H6 q (ds b32 (dv B64 xs / dv B64 ys)) ∧ Own H5.n H6 r (ds b32 (dv B64 xs % dv B64 ys)) := by
      rcases a6 with ⟨h, _⟩ | h
      · omega
      · exact h
    have e1 := refLen_call oq'.sl (Nat.le_trans (ds_len_mono two32 (Nat.div_le_self _ _)) lenA)
    have e2 := refLen_call or'.sl (Nat.le_trans (ds_len_mono two32 (Nat.mod_le _ _)) lenA)
    have f0 : intBin .eql .i64 0 0 = some (.bool true) := rfl
    have f3 : intBin .eql .i64 3 3 = some (.bool true) := rfl
    obtain ⟨H7, c7, k7⟩ := lives_call H6
    have ln : lenV Try.prog 24 (.slice none 0 0) = some 0 := Sl.len (H := H) .nil ltNat
    apply W_seq; intro b1 hb1
    apply W_region
    simp [c3]
    show W _ _ b1 _ _; subst hb1
    apply W_seq; intro b1 hb1
    apply W_region
    simp [c4, c5, c6]
    show W _ _ b1 _ _; subst hb1
    apply W_seq; intro b1 hb1
    apply W_seq; intro b2 hb2
    apply W_region
    have go : ∀ tm : Tr Value, tm.get 56 = some (.bool true) → tm.get 9 = some (.slice none 0 0) → tm.get 10 = some (.slice none 0 0) → tm.get 11 = some (.int .i64 3) → W Try.prog cfg0 b2 ⟨142, tm, H6⟩ (seqQ Try.prog cfg0 b1 fun ex s => (ex = .norm ∨ ex = .ret) ∧ ∃ vs, resultV Try.prog s [.tmp 4] = some vs ∧ Keep H s.H ∧ packV vs = .bool true) := fun tm t56 t9 t10 t11 => by
      subst hb2
      refine W_cond (t := true) (by simp [t56]) ?_
      apply W_seq; intro b2 hb2
      apply W_region
      simp [t9, t10, t11, f0, f3, ln, c7]
      show W _ _ b2 _ _; subst hb2
      apply W_ret
      simp [seqQ]
      exact kH.trans k7
    by_cases hb1' : 67108864 < blen (dv B64 xs / dv B64 ys)
    · simp [f0, e1, gtrMax, hb1']
      show W _ _ b2 _ _
      exact go _ (by simp) (by simp) (by simp) (by simp)
    · have hb2' : 67108864 < blen (dv B64 xs % dv B64 ys) := by
        rcases hbig with h | h
        · exact absurd h hb1'
        · exact h
      simp [f0, e1, e2, gtrMax, hb1', hb2']
      show W _ _ b2 _ _
      exact go _ (by simp) (by simp) (by simp) (by simp)
  · obtain ⟨_, q', r', rfl, oq', or'⟩ : 0 < dv B64 ys ∧ ∃ q r, v6 = .tuple #[q, r, .int .i64 0] ∧ Own H5.n H6 q (ds b32 (dv B64 xs / dv B64 ys)) ∧ Own H5.n H6 r (ds b32 (dv B64 xs % dv B64 ys)) := by
      rcases a6 with ⟨h, _⟩ | h
      · omega
      · exact h
    have lq' : (ds b32 (dv B64 xs / dv B64 ys)).length ≤ 2 * Lim := Nat.le_trans (ds_len_mono two32 (Nat.div_le_self _ _)) lenA
    have lr' : (ds b32 (dv B64 xs % dv B64 ys)).length ≤ 2 * Lim := Nat.le_trans (ds_len_mono two32 (Nat.mod_le _ _)) lenA
    have e1 := refLen_call oq'.sl lq'
    have e2 := refLen_call or'.sl lr'
    have f0 : intBin .eql .i64 0 0 = some (.bool true) := rfl
    have n1 : ¬ 67108864 < blen (dv B64 xs / dv B64 ys) := by omega
    have n2 : ¬ 67108864 < blen (dv B64 xs % dv B64 ys) := by omega
    apply W_seq; intro b1 hb1
    apply W_region
    simp [c3]
    show W _ _ b1 _ _; subst hb1
    apply W_seq; intro b1 hb1
    apply W_region
    simp [c4, c5, c6]
    show W _ _ b1 _ _; subst hb1
    apply W_seq; intro b1 hb1
    apply W_seq; intro b2 hb2
    apply W_region
    simp [f0, e1, e2, gtrMax, n1, n2]
    show W _ _ b2 _ _; subst hb2
    refine W_cond (t := false) (by simp) ?_
    apply W_skip
    show W _ _ b1 _ _; subst hb1
    have one : ∀ Z, blen Z ≤ 67108864 → (ds B64 Z).length ≤ 8000000000000 → ∀ n v H', OneIs n (dv B64 ys) Z v H' → ∃ q f xs, OneAns n v H' Z 0 q f xs := fun Z hZ lZ n v H' h => by
      rcases h with ⟨h, _⟩ | ⟨_, h, _⟩ | ⟨_, _, u, rfl, ou⟩
      · omega
      · omega
      · exact ⟨u, 0, ds B64 Z, rfl, ou, .inr (.inr ⟨rfl, hZ, rfl, rfl⟩), by decide, lZ⟩
    have bq : (ds B64 (dv B64 xs / dv B64 ys)).length ≤ 8000000000000 := Nat.le_trans (ds_len_mono two64 (Nat.div_le_self _ _)) bA
    have br : (ds B64 (dv B64 xs % dv B64 ys)).length ≤ 8000000000000 := Nat.le_trans (ds_len_mono two64 (Nat.mod_le _ _)) bA
    exact divBoths_tail kH kH2.n (k26.n) hk2 dx dy lx ly (q := q) (r := r) (x := q') (y := r') (e := 0) (X := dv B64 xs / dv B64 ys) (Y := dv B64 xs % dv B64 ys) (code := 0) (oq.mono (Nat.le_refl _) k36) (orr.mono (Nat.le_refl _) k36) apq oq'.sl or'.sl
      lq' lr' (.inr (.inr ⟨rfl, hq, rfl, rfl⟩)) (.inr (.inr ⟨rfl, hr, rfl, rfl⟩)) (by decide) (by decide) bq br (one _ hq bq) (one _ hr br) _
      (by simp) (by simp) (by simp) (by simp) (by simp) (by simp) (by simp) (by simp) (by simp) (by simp) (by simp) (by simp)
end
end Go.Proofs.Ytldapilhmmbjhaa

/-
  div.Lcm; surdref01.Mul; surdref03.Lcm.
-/
namespace Go.Proofs.Ytldapilhmmbjhaa
open Go Ev
set_option linter.unusedVariables false
set_option linter.unusedSimpArgs false
noncomputable section

theorem gcd_pos {A B : Nat} (hA : 0 < A) : 0 < Nat.gcd A B := Nat.gcd_pos_of_pos_left B hA

/-- One digit of 32 bits of a product. -/
theorem mul_step32 {x y o c : Nat} (hx : x < b32) (hy : y < b32) (ho : o < b32) (hc : c < b32) :
    x * y < B64 ∧ x * y + o < B64 ∧ x * y + o + c < B64 ∧ (x * y + o + c) / 4294967296 < b32 ∧ (x * y + o + c) % 4294967296 + b32 * ((x * y + o + c) / 4294967296) = o + x * y + c := by
  have hx : x < 4294967296 := hx
  have hy : y < 4294967296 := hy
  have ho : o < 4294967296 := ho
  have hc : c < 4294967296 := hc
  have hp : x * y ≤ 4294967295 * 4294967295 := Nat.mul_le_mul (by omega) (by omega)
  show x * y < 18446744073709551616 ∧ x * y + o < 18446744073709551616 ∧ x * y + o + c < 18446744073709551616 ∧ (x * y + o + c) / 4294967296 < 4294967296 ∧ (x * y + o + c) % 4294967296 + 4294967296 * ((x * y + o + c) / 4294967296) = o + x * y + c
  generalize x * y = p at *
  omega

attribute [-simp] Int.natCast_add Int.natCast_mul Int.natCast_ediv Int.natCast_emod Int.natCast_pow
attribute [local simp] strip stripL LW' LR gW evOp oMove oAssign oPick oBinOp oUnOp oConvert oExtract oIndexAddr oIndex oLoad oStore oSlice oMakeSlice oCall oBuildSlice opd opds optOpd plain plain1 Tr.get_set tmOf builtinV binV isShift sameKind undef resultV resOne packV ltNat ltNum ltLst calleeV parts lss_nat unV DW grdOf heapOp LX isStore

section
variable {H : AH} {va vb : Value}

set_option maxHeartbeats 1000000 in
theorem refMul_spec {xs ys : List Nat} (ha : Sl H va xs) (hb : Sl H vb ys) (dx : Dig b32 xs) (dy : Dig b32 ys) (lx : xs.length ≤ 8000000000000) (ly : ys.length ≤ 8000000000000) :
    CW Try.prog cfg0 43 [va, vb] H fun v H' => Keep H H' ∧ Own H.n H' v (ds b32 (dv b32 xs * dv b32 ys)) := by
  refine CW_intro 65 (by decide) (by decide) Try.func43 rfl rfl ?_
  have l1 := ha.len ltNum
  have l2 := hb.len ltNum
  obtain ⟨la, hla⟩ : ∃ la, la = xs.length := ⟨_, rfl⟩
  obtain ⟨lb, hlb⟩ : ∃ lb, lb = ys.length := ⟨_, rfl⟩
  rw [← hla] at l1
  rw [← hlb] at l2
  obtain ⟨c0, H1, hmk, k1, o1, n1⟩ := makeSlice_own (H := H) ltNum (n := la + lb + 1) (by omega)
  have ad : intBin .add .i64 (la : Int) (lb : Int) = some (.int .i64 ((la + lb : Nat) : Int)) := add_i64 (by omega)
  apply W_seq; intro b1 hb1
  apply W_region
  simp
  show W _ _ b1 _ _; subst hb1
  apply W_seq; intro b1 hb1
  apply W_region
  simp [l1, l2, ad, add1_i64 (x := la + lb) (by omega), hmk]
  show W _ _ b1 _ _; subst hb1
  apply W_seq; intro b1 hb1
  apply W_seq; intro b2 hb2
  apply W_region
  simp [l1]
  show W _ _ b2 _ _; subst hb2
  apply W_block
  refine W_loopK (fun m s' => s'.k = 65 ∧ Keep H s'.H ∧ ∃ (i : Nat) (O : List Nat), m + i = la ∧ O.length = la + lb + 1 ∧ Dig b32 O ∧ (∀ j, i + lb ≤ j → nth O j = 0) ∧ dv b32 O = dv b32 (xs.take i) * dv b32 ys ∧ Own H.n s'.H c0 O ∧
    s'.tm.get 1 = some vb ∧ s'.tm.get 5 = some c0 ∧ s'.tm.get 19 = some va ∧ s'.tm.get 20 = some (.int .i64 (la : Int)) ∧ s'.tm.get 21 = some (.int .i64 (i : Int))) ?_ la _
    ⟨rfl, k1, 0, List.replicate (la + lb + 1) 0, by omega, by simp, dig_zeros (by decide) _, fun j _ => by
      by_cases hj : j < (List.replicate (la + lb + 1) 0).length
      · rw [nth_get hj]; simp
      · exact nth_out (by omega), by simp [dv, dv_zeros], o1, by simp, by simp, by simp, by simp, by simp⟩
  rintro m ⟨k, tm, H2⟩ ⟨hk, kH, i, O, hmi, hO, dO, hz, heq, own, t1, t5, t19, t20, t21⟩ Q' hQ'
  simp only at hk kH own t1 t5 t19 t20 t21
  subst hk
  apply W_seq; intro b3 hb3
  apply W_region
  simp [t20, t21]
  show W _ _ b3 _ _; subst hb3
  apply W_seq; intro b3 hb3
  by_cases hi : i < la
  · refine W_cond (t := true) (by simp [hi]) ?_
    apply W_skip
    show W _ _ b3 _ _; subst hb3
    have hi' : i < xs.length := by omega
    have sa := ha.keep kH
    have sb := hb.keep kH
    have a1 := sa.adr ltNum (k := .i64) hi'
    have d1 := sa.load hi'
    obtain ⟨x, hx⟩ : ∃ x, x = xs[i] := ⟨_, rfl⟩
    have hxB : x < b32 := by rw [hx]; exact dx.get (List.getElem?_eq_getElem hi')
    rw [← hx] at d1
    apply W_seq; intro b3 hb3
    apply W_block
    apply W_seq; intro b4 hb4
    apply W_region
    simp [t19, t21, a1, d1]
    show W _ _ b4 _ _; subst hb4
    apply W_seq; intro b4 hb4
    apply W_region
    simp
    show W _ _ b4 _ _; subst hb4
    refine W_thenK (fun s' => s'.k = 65 ∧ Keep H s'.H ∧ ∃ (c : Nat) (O2 : List Nat), c < b32 ∧ O2.length = la + lb + 1 ∧ Dig b32 O2 ∧ (∀ j, i + lb ≤ j → nth O2 j = 0) ∧ dv b32 O2 + b32 ^ (i + lb) * c = dv b32 O + b32 ^ i * (x * dv b32 ys) ∧ Own H.n s'.H c0 O2 ∧
      s'.tm.get 1 = some vb ∧ s'.tm.get 5 = some c0 ∧ s'.tm.get 6 = some (.int .i64 (i : Int)) ∧ s'.tm.get 8 = some (.int .u64 (c : Int)) ∧ s'.tm.get 19 = some va ∧ s'.tm.get 20 = some (.int .i64 (la : Int)) ∧ s'.tm.get 21 = some (.int .i64 (i : Int))) ?_ ?_
    · intro Q'' hQ''
      apply W_seq; intro b4 hb4
      apply W_region
      simp [t1, l2]
      show W _ _ b4 _ _; subst hb4
      apply W_block
      refine W_loopK (fun m s' => s'.k = 65 ∧ Keep H s'.H ∧ ∃ (j c : Nat) (O2 : List Nat), m + j = lb ∧ c < b32 ∧ O2.length = la + lb + 1 ∧ Dig b32 O2 ∧ (∀ j, i + lb ≤ j → nth O2 j = 0) ∧ dv b32 O2 + b32 ^ (i + j) * c = dv b32 O + b32 ^ i * (x * dv b32 (ys.take j)) ∧ Own H.n s'.H c0 O2 ∧
        s'.tm.get 1 = some vb ∧ s'.tm.get 5 = some c0 ∧ s'.tm.get 6 = some (.int .i64 (i : Int)) ∧ s'.tm.get 7 = some (.int .u64 (x : Int)) ∧ s'.tm.get 8 = some (.int .u64 (c : Int)) ∧ s'.tm.get 19 = some va ∧ s'.tm.get 20 = some (.int .i64 (la : Int)) ∧ s'.tm.get 21 = some (.int .i64 (i : Int)) ∧
        s'.tm.get 26 = some vb ∧ s'.tm.get 27 = some (.int .i64 (lb : Int)) ∧ s'.tm.get 28 = some (.int .i64 (j : Int))) ?_ lb _
        ⟨rfl, kH, 0, 0, O, by omega, by decide, hO, dO, hz, by simp [dv], own, by simp [t1], by simp [t5], by simp, by simp, by simp, by simp [t19], by simp [t20], by simp [t21], by simp [t1], by simp, by simp⟩
      clear t1 t5 t19 t20 t21
      rintro m2 ⟨k, tm, H3⟩ ⟨hk, kH3, j, c, O2, hmj, hc, hO2, dO2, hz2, heq2, own2, t1, t5, t6, t7, t8, t19, t20, t21, t26, t27, t28⟩ Q5 hQ5
      simp only at hk kH3 own2 t1 t5 t6 t7 t8 t19 t20 t21 t26 t27 t28
      subst hk
      apply W_seq; intro b5 hb5
      apply W_region
      simp [t27, t28]
      show W _ _ b5 _ _; subst hb5
      apply W_seq; intro b5 hb5
      by_cases hj : j < lb
      · refine W_cond (t := true) (by simp [hj]) ?_
        apply W_skip
        show W _ _ b5 _ _; subst hb5
        have hj' : j < ys.length := by omega
        have sb3 := hb.keep kH3
        have a2 := sb3.adr ltNum (k := .i64) hj'
        have d2 := sb3.load hj'
        obtain ⟨y, hy⟩ : ∃ y, y = ys[j] := ⟨_, rfl⟩
        have hyB : y < b32 := by rw [hy]; exact dy.get (List.getElem?_eq_getElem hj')
        rw [← hy] at d2
        have hij : i + j < O2.length := by omega
        have a3 := own2.sl.adr ltNum (k := .i64) hij
        have d3 := own2.sl.load hij
        obtain ⟨o, ho⟩ : ∃ o, o = O2[i + j] := ⟨_, rfl⟩
        have hoB : o < b32 := by rw [ho]; exact dO2.get (List.getElem?_eq_getElem hij)
        rw [← ho] at d3
        obtain ⟨st0, st1, st2, st3, st4'⟩ := mul_step32 hxB hyB hoB hc
        have e1 : intBin .mul .u64 (x : Int) (y : Int) = some (.int .u64 ((x * y : Nat) : Int)) := by rw [mul_u64, Nat.mod_eq_of_lt st0]
        have e2 : intBin .add .u64 ((x * y : Nat) : Int) (o : Int) = some (.int .u64 ((x * y + o : Nat) : Int)) := add_u64_lt st1
        have e3 : intBin .add .u64 ((x * y + o : Nat) : Int) (c : Int) = some (.int .u64 ((x * y + o + c : Nat) : Int)) := add_u64_lt st2
        obtain ⟨v, hv⟩ : ∃ v, v = x * y + o + c := ⟨_, rfl⟩
        rw [← hv] at e3 st2 st3 st4'
        have e6 : intBin .add .i64 (i : Int) (j : Int) = some (.int .i64 ((i + j : Nat) : Int)) := add_i64 (by omega)
        obtain ⟨H4, st4, own4, n4, bt4, ka4⟩ := own2.put (i := i + j) hij (v % 4294967296)
        apply W_seq; intro b5 hb5
        apply W_block
        apply W_seq; intro b6 hb6
        apply W_region
        simp [t26, t28, a2, d2]
        show W _ _ b6 _ _; subst hb6
        apply W_seq; intro b6 hb6
        apply W_region
        simp [t5, t6, t7, t8, e6, a3, d3, e1, e2, e3]
        show W _ _ b6 _ _; subst hb6
        apply W_seq; intro b6 hb6
        apply W_region
        simp [t5, t6, e6, a3, rem32, st4]
        show W _ _ b6 _ _; subst hb6
        apply W_region
        simp [quo32 st2]
        show W _ _ b5 _ _; subst hb5
        apply W_region
        simp [t28, add1_i64 (x := j) (by omega)]
        apply hQ5
        refine ⟨m2 - 1, by omega, rfl, ka4 H kH3 (Nat.le_refl _), j + 1, v / 4294967296, O2.set (i + j) (v % 4294967296), by omega, st3, by simp [hO2], dO2.set (Nat.mod_lt _ (by decide)), fun q hq => by rw [nth_set (by omega)]; exact hz2 q hq, ?_, own4, by simp [t1], by simp [t5], by simp [t6], by simp [t7], by simp, by simp [t19], by simp [t20], by simp [t21], by simp [t26], by simp [t27], by simp⟩
        have ds := dv_set b32 O2 (i + j) (v % 4294967296) hij
        rw [← ho] at ds
        rw [take_snoc hj', dv_append, List.length_take, Nat.min_eq_left (by omega), ← hy]
        simp only [dv, Nat.mul_zero, Nat.add_zero]
        generalize v / 4294967296 = cc at *
        generalize v % 4294967296 = o' at *
        have f1 : b32 ^ (i + j) * (o' + b32 * cc) = b32 ^ (i + j) * (o + x * y + c) := by rw [st4']
        rw [Nat.mul_add, ← Nat.mul_assoc (b32 ^ (i + j)) b32, show b32 ^ (i + j) * b32 = b32 ^ (i + (j + 1)) from rfl, Nat.mul_add, Nat.mul_add] at f1
        have f2 : b32 ^ i * (x * (dv b32 (ys.take j) + b32 ^ j * y)) = b32 ^ i * (x * dv b32 (ys.take j)) + b32 ^ (i + j) * (x * y) := by
          rw [Nat.mul_add x, Nat.mul_add (b32 ^ i), Nat.pow_add, Nat.mul_left_comm x (b32 ^ j) y, Nat.mul_assoc (b32 ^ i)]
        rw [f2]
        omega
      · refine W_cond (t := false) (by simp [hj]) ?_
        apply W_exit
        apply hQ5
        left
        obtain rfl : j = lb := by omega
        rw [List.take_of_length_le (by omega)] at heq2
        exact ⟨rfl, hQ'' _ ⟨rfl, kH3, c, O2, hc, hO2, dO2, hz2, heq2, own2, by simp [t1], by simp [t5], by simp [t6], by simp [t8], by simp [t19], by simp [t20], by simp [t21]⟩⟩
    clear t1 t5 t19 t20 t21
    rintro ⟨k, tm, H3⟩ ⟨hk, kH3, c, O2, hc, hO2, dO2, hz2, heq2, own2, t1, t5, t6, t8, t19, t20, t21⟩
    simp only at hk kH3 own2 t1 t5 t6 t8 t19 t20 t21
    subst hk
    have hij : i + lb < O2.length := by omega
    have a3 := own2.sl.adr ltNum (k := .i64) hij
    have e6 : intBin .add .i64 (i : Int) (lb : Int) = some (.int .i64 ((i + lb : Nat) : Int)) := add_i64 (by omega)
    obtain ⟨H4, st4, own4, n4, bt4, ka4⟩ := own2.put (i := i + lb) hij c
    apply W_region
    simp [t1, t5, t6, t8, l2, e6, a3, st4]
    show W _ _ b3 _ _; subst hb3
    apply W_region
    simp [t21, add1_i64 (x := i) (by omega)]
    apply hQ'
    refine ⟨m - 1, by omega, rfl, ka4 H kH3 (Nat.le_refl _), i + 1, O2.set (i + lb) c, by omega, by simp [hO2], dO2.set hc, fun q hq => by rw [nth_set (by omega)]; exact hz2 q (by omega), ?_, own4, by simp [t1], by simp [t5], by simp [t19], by simp [t20], by simp⟩
    have ds := dv_set b32 O2 (i + lb) c hij
    have h0 := hz2 (i + lb) (Nat.le_refl _)
    rw [nth_get hij] at h0
    rw [h0, Nat.mul_zero, Nat.add_zero] at ds
    rw [ds, heq2, heq, take_snoc hi', dv_append, List.length_take, Nat.min_eq_left (by omega), ← hx, Nat.add_mul]
    simp only [dv, Nat.mul_zero, Nat.add_zero]
    rw [Nat.mul_assoc (b32 ^ i)]
  · refine W_cond (t := false) (by simp [hi]) ?_
    apply W_exit
    apply hQ'
    left
    refine ⟨rfl, ?_⟩
    obtain rfl : i = la := by omega
    rw [List.take_of_length_le (by omega)] at heq
    obtain ⟨v5, H5, hc5, e5, o5, _⟩ := norm32_spec own (by omega)
    subst e5
    rw [trimL_ds two32 dO, heq] at o5
    show W _ _ b1 _ _; subst hb1
    apply W_seq; intro b4 hb4
    apply W_region
    simp [t5, hc5]
    show W _ _ b4 _ _; subst hb4
    apply W_ret
    simp
    exact ⟨kH, o5⟩

theorem ds32_mul_len {A B : Nat} : (ds b32 (A * B)).length ≤ (ds b32 A).length + (ds b32 B).length := by
  have h1 := ds_lt two32 A
  have h2 := ds_lt two32 B
  refine ds_len_le two32 ?_
  rw [Nat.pow_add]
  exact Nat.mul_lt_mul'' h1 h2

theorem refMul_call {A B : Nat} (ha : Sl H va (ds b32 A)) (hb : Sl H vb (ds b32 B)) (lA : (ds b32 A).length ≤ 2 * Lim) (lB : (ds b32 B).length ≤ 2 * Lim) :
    ∃ v H', callI Try.prog cfg0 43 [va, vb] H = some (v, H') ∧ Keep H H' ∧ Own H.n H' v (ds b32 (A * B)) := by
  obtain ⟨v, H', hc, k, o⟩ := refMul_spec ha hb (ds_dig two32 A) (ds_dig two32 B) (Nat.le_trans lA (by decide)) (Nat.le_trans lB (by decide))
  rw [dv_ds two32, dv_ds two32] at o
  exact ⟨v, H', hc, k, o⟩

theorem refLcm_spec {A B : Nat} (ha : Sl H va (ds b32 A)) (hb : Sl H vb (ds b32 B)) (lA : (ds b32 A).length ≤ 2 * Lim) (lB : (ds b32 B).length ≤ 2 * Lim) :
    CW Try.prog cfg0 30 [va, vb] H fun v H' => Keep H H' ∧ Sl H' v (ds b32 (A / Nat.gcd A B * B)) := by
  refine CW_intro 24 (by decide) (by decide) Try.func30 rfl rfl ?_
  have z1 := zero_call ha
  have z2 := zero_call hb
  apply W_seq; intro b1 hb1
  apply W_region
  simp
  show W _ _ b1 _ _; subst hb1
  apply W_seq; intro b1 hb1
  apply W_seq; intro b2 hb2
  apply W_region
  have bad : ∀ tm : Tr Value, A / Nat.gcd A B * B = 0 → tm.get 12 = some (.bool true) → W Try.prog cfg0 b2 ⟨24, tm, H⟩ (seqQ Try.prog cfg0 b1 fun ex s => (ex = .norm ∨ ex = .ret) ∧ ∃ vs, resultV Try.prog s [.tmp 4] = some vs ∧ Keep H s.H ∧ Sl s.H (packV vs) (ds b32 (A / Nat.gcd A B * B))) := fun tm h0 t12 => by
    subst hb2
    refine W_cond (t := true) (by simp [t12]) ?_
    apply W_seq; intro b2 hb2
    apply W_region
    simp
    show W _ _ b2 _ _; subst hb2
    apply W_ret
    rw [h0, ds_zero]
    simp [seqQ]
    exact ⟨.refl H, .nil⟩
  by_cases hA : A = 0
  · rw [decide_eq_true hA] at z1
    simp [z1]
    show W _ _ b2 _ _
    exact bad _ (by rw [hA]; simp) (by simp)
  · rw [decide_eq_false hA] at z1
    by_cases hB : B = 0
    · rw [decide_eq_true hB] at z2
      simp [z1, z2]
      show W _ _ b2 _ _
      exact bad _ (by rw [hB]; simp) (by simp)
    · rw [decide_eq_false hB] at z2
      obtain ⟨g, H1, c1, k1, s1⟩ := refGcd_spec ha hb lA lB
      have hg : 0 < Nat.gcd A B := gcd_pos (by omega)
      have lg : (ds b32 (Nat.gcd A B)).length ≤ 2 * Lim := Nat.le_trans (ds_len_mono two32 (Nat.gcd_le_left B (by omega))) lA
      obtain ⟨q, r, H2, c2, k2, oq, orr⟩ := refDiv_call (ha.keep k1) s1 lA lg hg
      have lq : (ds b32 (A / Nat.gcd A B)).length ≤ 2 * Lim := Nat.le_trans (ds_len_mono two32 (Nat.div_le_self _ _)) lA
      obtain ⟨p, H3, c3, k3, op⟩ := refMul_call oq.sl (hb.keep (k1.trans k2)) lq lB
      simp [z1, z2]
      show W _ _ b2 _ _; subst hb2
      refine W_cond (t := false) (by simp) ?_
      apply W_skip
      show W _ _ b1 _ _; subst hb1
      apply W_seq; intro b1 hb1
      apply W_region
      simp [c1, c2]
      show W _ _ b1 _ _; subst hb1
      apply W_seq; intro b1 hb1
      apply W_region
      simp [c3]
      show W _ _ b1 _ _; subst hb1
      apply W_ret
      simp
      exact ⟨(k1.trans k2).trans k3, op.sl⟩

theorem gtrMax1 {x : Nat} : intBin .gtr .i64 (x : Int) 67108865 = some (.bool (decide (67108865 < x))) := gtr_nat (y := 67108865)

theorem lcm_spec {xs ys : List Nat} (ha : Sl H va xs) (hb : Sl H vb ys) (dx : Dig B64 xs) (dy : Dig B64 ys) (lx : xs.length ≤ Lim) (ly : ys.length ≤ Lim) :
    CW Try.prog cfg0 27 [va, vb] H fun v H' => Keep H H' ∧ MulIs H.n (dv B64 xs / Nat.gcd (dv B64 xs) (dv B64 ys) * dv B64 ys) v H' := by
  refine CW_intro 39 (by decide) (by decide) Try.func27 rfl rfl ?_
  obtain ⟨v1, v2, H1, H2, c1, c2, k2, o1, o2, ap⟩ := norm_two ha hb dx dy lx ly
  have lA := Nat.le_trans (ds64_len dx) lx
  have lB := Nat.le_trans (ds64_len dy) ly
  generalize dv B64 xs = A at *
  generalize dv B64 ys = B at *
  have l1 := o1.sl.len ltNat
  have l2 := o2.sl.len ltNat
  obtain ⟨LA, hLA⟩ : ∃ LA, LA = (ds B64 A).length := ⟨_, rfl⟩
  obtain ⟨LB, hLB⟩ : ∃ LB, LB = (ds B64 B).length := ⟨_, rfl⟩
  rw [← hLA] at l1
  rw [← hLB] at l2
  apply W_seq; intro b1 hb1
  apply W_region
  simp
  show W _ _ b1 _ _; subst hb1
  apply W_seq; intro b1 hb1
  apply W_region
  simp [c1, c2]
  show W _ _ b1 _ _; subst hb1
  apply W_seq; intro b1 hb1
  apply W_seq; intro b2 hb2
  apply W_region
  have bad : ∀ tm : Tr Value, A / Nat.gcd A B * B = 0 → tm.get 19 = some (.bool true) → W Try.prog cfg0 b2 ⟨39, tm, H2⟩ (seqQ Try.prog cfg0 b1 fun ex s => (ex = .norm ∨ ex = .ret) ∧ ∃ vs, resultV Try.prog s [.tmp 4, .tmp 5] = some vs ∧ Keep H s.H ∧ MulIs H.n (A / Nat.gcd A B * B) (packV vs) s.H) := fun tm h0 t19 => by
    subst hb2
    refine W_cond (t := true) (by simp [t19]) ?_
    apply W_seq; intro b2 hb2
    apply W_region
    simp
    show W _ _ b2 _ _; subst hb2
    apply W_ret
    rw [h0]
    simp [seqQ]
    exact ⟨k2, .inr ⟨by decide, .slice none 0 0, rfl, by rw [ds_zero]; exact .nil⟩⟩
  by_cases hA : A = 0
  · have f1 : intBin .eql .i64 (LA : Int) 0 = some (.bool true) := by rw [eq0_nat, decide_eq_true]; rw [hLA, ds_len_zero two64]; exact hA
    simp [l1, f1]
    show W _ _ b2 _ _
    exact bad _ (by rw [hA]; simp) (by simp)
  · have f1 : intBin .eql .i64 (LA : Int) 0 = some (.bool false) := by rw [eq0_nat, decide_eq_false]; rw [hLA, ds_len_zero two64]; exact hA
    by_cases hB : B = 0
    · have f2 : intBin .eql .i64 (LB : Int) 0 = some (.bool true) := by rw [eq0_nat, decide_eq_true]; rw [hLB, ds_len_zero two64]; exact hB
      simp [l1, l2, f1, f2]
      show W _ _ b2 _ _
      exact bad _ (by rw [hB]; simp) (by simp)
    · have f2 : intBin .eql .i64 (LB : Int) 0 = some (.bool false) := by rw [eq0_nat, decide_eq_false]; rw [hLB, ds_len_zero two64]; exact hB
      obtain ⟨g, H3, c3, k3, og⟩ := gcd_spec o1.sl o2.sl (ds_dig two64 A) (ds_dig two64 B) lA lB
      rw [dv_ds two64, dv_ds two64] at og
      have hg : 0 < Nat.gcd A B := gcd_pos (by omega)
      have lg : (ds B64 (Nat.gcd A B)).length ≤ Lim := Nat.le_trans (ds_len_mono two64 (Nat.gcd_le_left B (by omega))) lA
      obtain ⟨q, r, H4, c4, k4, oq, orr, apq⟩ := divide_call (o1.mono (Nat.le_refl _) k3) og.sl (k2.trans k3).n lA lg hg
      have lq : (ds B64 (A / Nat.gcd A B)).length ≤ Lim := Nat.le_trans (ds_len_mono two64 (Nat.div_le_self _ _)) lA
      have c5 := length_call oq.sl lq
      have s2 := o2.sl.keep (k3.trans k4)
      have c6 := length_call s2 lB
      have bq : blen (A / Nat.gcd A B) ≤ 64 * 2000000000000 := blen_bound lq
      have bB : blen B ≤ 64 * 2000000000000 := blen_bound lB
      have ad : intBin .add .i64 (blen (A / Nat.gcd A B) : Int) (blen B : Int) = some (.int .i64 ((blen (A / Nat.gcd A B) + blen B : Nat) : Int)) := add_i64 (by omega)
      obtain ⟨v7, H5, c7, k5, h7⟩ := mul_spec oq.sl s2 (ds_dig two64 _) (ds_dig two64 B) lq lB
      rw [dv_ds two64, dv_ds two64] at h7
      have k24 := (k2.trans k3).trans k4
      have h8 : MulIs H.n (A / Nat.gcd A B * B) v7 H5 ∧ ∃ a b, v7 = .tuple #[a, b] := by
        rcases h7 with ⟨h, rfl⟩ | ⟨h, u, rfl, o⟩
        · exact ⟨.inl ⟨h, rfl⟩, _, _, rfl⟩
        · exact ⟨.inr ⟨h, u, rfl, o.mono k24.n (.refl _)⟩, _, _, rfl⟩
      obtain ⟨h8, p1, p2, rfl⟩ := h8
      simp [l1, l2, f1, f2]
      show W _ _ b2 _ _; subst hb2
      refine W_cond (t := false) (by simp) ?_
      apply W_skip
      show W _ _ b1 _ _; subst hb1
      apply W_seq; intro b1 hb1
      apply W_region
      simp [c3, c4]
      show W _ _ b1 _ _; subst hb1
      apply W_seq; intro b1 hb1
      apply W_seq; intro b2 hb2
      apply W_region
      simp [c5, c6, ad, gtrMax1]
      show W _ _ b2 _ _; subst hb2
      by_cases hbig : 67108865 < blen (A / Nat.gcd A B) + blen B
      · refine W_cond (t := true) (by simp [hbig]) ?_
        apply W_seq; intro b2 hb2
        apply W_region
        simp
        show W _ _ b2 _ _; subst hb2
        apply W_ret
        simp [seqQ]
        have hq0 : 0 < A / Nat.gcd A B := Nat.div_pos (Nat.gcd_le_left B (by omega)) hg
        have := blen_mul hq0 (show 0 < B by omega)
        exact ⟨k24, .inl ⟨by omega, rfl⟩⟩
      · refine W_cond (t := false) (by simp [hbig]) ?_
        apply W_skip
        show W _ _ b1 _ _; subst hb1
        apply W_seq; intro b2 hb2
        apply W_region
        simp [c7]
        show W _ _ b2 _ _; subst hb2
        apply W_ret
        simp
        exact ⟨k24.trans k5, h8⟩
end
end
end Go.Proofs.Ytldapilhmmbjhaa
