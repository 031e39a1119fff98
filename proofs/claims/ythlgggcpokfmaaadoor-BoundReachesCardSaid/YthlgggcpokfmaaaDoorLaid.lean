/-
  THE LISTED TABLE 'surd/expr.rows': what the condition gives; the abstract heap that holds it (read-only, under its own number); a closed law over it.
-/
import Derived.Test.YthlgggcpokfmaaaDoorCfg
import Derived.Test.YthlgggcpokfmaaaDoorCards
import Derived.Test.YthlgggcpokfmaaaDoorTie
import Derived.LaidMore
import Derived.Deep.Strs
import Derived.MakeChecks
import Derived.FnData
import Derived.Stop.Joined
import Derived.SevenTiedAt
namespace Go.Proofs.YthlgggcpokfmaaaDoor
open Go.ChangeShapes Go.WideShapes Go.ChangeAt Go.RowKit Go.Proofs.YthlgggcpokfmaaaDoor.Ev
set_option linter.unusedVariables false
noncomputable section
set_option linter.unusedSimpArgs false

def lz (k : Int) (s : List UInt8) (a : Int) : List Value := [.int .i64 k, .string ⟨s.toArray⟩, .int .i64 a]
def rowD (k : Int) (s : List UInt8) (a : Int) {H : Type} : DataW H := .agg [.lit (.int .i64 k), .lit (.string s), .lit (.int .i64 a)]
def rowList : List (Int × List UInt8 × Int) := [(0, [], 0), (1, [112, 105], 0), (2, [45], 1), (3, [43], 2), (4, [45], 2), (5, [42], 2), (6, [47], 2), (7, [97, 98, 115], 1), (8, [109, 105, 110], 2), (9, [109, 97, 120], 2), (10, [115, 113, 114, 116], 1), (11, [101, 120, 112], 1), (12, [108, 110], 1), (13, [115, 105, 110], 1), (14, [99, 111, 115], 1), (15, [97, 116, 97, 110], 1)]
def rowsCells : List Value := rowList.flatMap fun x => lz x.1 x.2.1 x.2.2
theorem laid_rows {H : Type} : (Rows.laid_surd_expr_rows : DataW H) = .agg (rowList.map fun x => rowD x.1 x.2.1 x.2.2) := rfl

theorem gRows : Tryd.prog.globalNamed "surd/expr.rows" = some 0 := by kernel_rfl
theorem tRows : (Tryd.prog.globals[0]?).map (·.type) = some 80 := by kernel_rfl
theorem uRows : Tryd.prog.underlying 80 = some (.array 16 79) := by kernel_rfl
theorem uRow : ∃ f0 f1 f2, Tryd.prog.underlying 79 = some (.struct #[f0, f1, f2]) ∧ f0.type = 23 ∧ f0.offset = 0 ∧ f1.type = 9 ∧ f1.offset = 1 ∧ f2.type = 3 ∧ f2.offset = 2 := ⟨_, _, _, Tryd.underlying79, rfl, rfl, rfl, rfl, rfl, rfl⟩
theorem uOp : Tryd.prog.underlying 23 = some (.int .i64) := by kernel_rfl
theorem cOp : Tryd.prog.cellsOf 23 = 1 := by kernel_rfl
theorem cStr : Tryd.prog.cellsOf 9 = 1 := by kernel_rfl
theorem cInt : Tryd.prog.cellsOf 3 = 1 := by kernel_rfl
theorem cRow : Tryd.prog.cellsOf 79 = 3 := by kernel_rfl
theorem cRows : Tryd.prog.cellsOf 80 = 48 := by kernel_rfl

section
variable {H : Type} {enc : TypeId × Value → H} {w : World} {base : Nat} {sp : Nat → Bool} {held : Bool}

theorem row_of {m : Nat} {l : List Value} {k : Int} {s : List UInt8} {a : Int} {p : List MemPlace} (h : DataW.trod enc Tryd.prog w base sp held m 79 l = some (rowD k s a, p)) : l = lz k s a := by
  obtain ⟨f0, f1, f2, hu, e1, e2, e3, e4, e5, e6⟩ := uRow
  obtain ⟨y0, y1, y2, n, hx, hl, h0, h1, h2⟩ := Deep.trod_struct3 hu h
  rw [e1, e2, cOp] at h0
  rw [e3, e4, cStr] at h1
  rw [e5, e6, cInt] at h2
  rw [cRow] at hl
  obtain ⟨n0, c0, x0, _⟩ := DataW.trod_int uOp h0
  obtain ⟨s1, c1, x1, _⟩ := DataW.trod_string Tryd.underlying9 h1
  obtain ⟨n2, c2, x2, _⟩ := DataW.trod_int Tryd.underlying3 h2
  subst x0; subst x1; subst x2
  simp only [rowD, Prod.mk.injEq, DataW.agg.injEq, List.cons.injEq, DataW.lit.injEq, Lit.int.injEq, Lit.string.injEq, true_and, and_true] at hx
  obtain ⟨⟨rfl, rfl, rfl⟩, _⟩ := hx
  match l, hl with
  | [a0, a1, a2], _ =>
    simp at c0 c1 c2
    subst c0; subst c1; subst c2
    rfl

theorem rows_of {fuel : Nat} {cs : List Value} {p : List MemPlace} (h : DataW.trod enc Tryd.prog w base sp held fuel 80 cs = some (Rows.laid_surd_expr_rows, p)) : cs = rowsCells := by
  obtain ⟨xs, m, _, hx, hl, hn, hel⟩ := DataW.trod_array uRows h
  rw [cRows] at hl
  rw [laid_rows] at hx
  simp only [Prod.mk.injEq, DataW.agg.injEq] at hx
  have key : ∀ i, i < 16 → (cs.drop (i * 3)).take 3 = (rowsCells.drop (i * 3)).take 3 := by
    intro i hi
    have h1 := hel i hi
    rw [cRow] at h1
    have h2 : (xs.map (·.1))[i]? = some (rowD ((rowList[i]?.getD (0, [], 0))).1 (rowList[i]?.getD (0, [], 0)).2.1 (rowList[i]?.getD (0, [], 0)).2.2) := by
      rw [← hx.1, List.getElem?_map, List.getElem?_eq_getElem (show i < rowList.length from hi)]
      rfl
    rw [List.getElem?_map] at h2
    cases hxi : xs[i]? with
    | none => rw [hxi] at h2; cases h2
    | some y =>
      rw [hxi] at h1 h2
      obtain ⟨y1, y2⟩ := y
      simp only [Option.map_some, Option.some.injEq] at h2
      subst h2
      rw [row_of h1]
      clear h1 hx hel hn hl h hxi
      have : i = 0 ∨ i = 1 ∨ i = 2 ∨ i = 3 ∨ i = 4 ∨ i = 5 ∨ i = 6 ∨ i = 7 ∨ i = 8 ∨ i = 9 ∨ i = 10 ∨ i = 11 ∨ i = 12 ∨ i = 13 ∨ i = 14 ∨ i = 15 := by omega
      rcases this with rfl | rfl | rfl | rfl | rfl | rfl | rfl | rfl | rfl | rfl | rfl | rfl | rfl | rfl | rfl | rfl <;> rfl
  apply List.ext_getElem?
  intro k
  by_cases hk : k < 48
  · have := key (k / 3) (by omega)
    have h3 := congrArg (fun l => l[k % 3]?) this
    simp only [List.getElem?_take, List.getElem?_drop] at h3
    rw [if_pos (Nat.mod_lt _ (by decide)), if_pos (Nat.mod_lt _ (by decide))] at h3
    have e : k / 3 * 3 + k % 3 = k := by omega
    rw [e] at h3
    exact h3
  · rw [List.getElem?_eq_none (by omega), List.getElem?_eq_none (by show rowsCells.length ≤ k; have : rowsCells.length = 48 := rfl; omega)]
end

theorem of_laid {W : World} (h : laidMetH Tryd.prog [("surd/expr.rows", Rows.laid_surd_expr_rows)] W) : ∀ k v, rowsCells[k]? = some v → W.cell? ⟨0, k, none⟩ = some v := by
  rw [MakeChecks.laidMetH_plain _ _ _ (by kernel_rfl)] at h
  obtain ⟨ps, ⟨g0, t0, cs0, f0, p0, q0, hg0, ht0, hv0, hd0, _⟩, _, _⟩ := h
  obtain rfl := Option.some.inj (gRows.symm.trans hg0)
  obtain rfl := Option.some.inj (tRows.symm.trans ht0)
  have hc := rows_of hd0
  intro k v hk
  rw [World.var?_cell hg0 hv0 k, ← hk, ← hc]
  simp

/-- The abstract heap that holds the table. -/
def rowsHeap : AH := { n := 0 + 1, lw := 0 + 1, t := Tr.nil.set 0 (.ro 3 rowsCells) }
def cfgR : Cfg := { cfg0 with ng := 0 + 1 }
def rowsL : Nat → Ev.Loc := fun i => ⟨i, 0, 3, 48⟩
def rowsS : Nat → Prop := fun i => i < 0 + 1

theorem rows_go : GO cfgR rowsS rowsL := fun g hg => ⟨hg, rfl, rfl⟩

theorem rows_plain : rowsCells.all plain1 = true := rfl

theorem vr_plain1 {S : Nat → Prop} {L : Nat → Ev.Loc} {v : Value} (h : plain1 v = true) : VR S L v v := by
  unfold plain1 at h
  split at h
  · exact .bool _
  · exact .int _ _
  · exact .string _
  · exact .nilPtr
  · exact .nilSlice
  · exact .nilFunc
  · exact .nilIface
  · cases h

theorem rowsHeap_inv {w : World} (h : ∀ k v, rowsCells[k]? = some v → w.cell? ⟨0, k, none⟩ = some v) : Inv w.heap.size rowsS rowsL rowsHeap w := by
  have hblk : ∀ i b, rowsHeap.blk i = b → b ≠ .dead → i = 0 ∧ b = .ro 3 rowsCells := by
    intro i b hb hd
    by_cases hi : i = 0
    · subst hi; exact ⟨rfl, by rw [← hb]; rfl⟩
    · exfalso; apply hd; rw [← hb]; unfold AH.blk rowsHeap; simp only [Tr.get_set, if_neg hi, Tr.get_nil]
  have h0 := h 0 _ rfl
  have hsz : 0 < w.heap.size := by
    by_cases hx : 0 < w.heap.size
    · exact hx
    · exfalso
      have : w.heap[0]? = none := Array.getElem?_eq_none (by omega)
      simp [World.cell?, this] at h0
  refine ⟨fun i sz cs hb => ?_, fun i sz cs hb => ?_, fun i j a b c d hb => ?_, fun i hi => hi, Nat.le_refl _⟩
  · obtain ⟨rfl, he⟩ := hblk i _ hb (by intro e; cases e)
    cases he
    refine ⟨Nat.lt_succ_self _, hsz, rfl, fun k v hk => ⟨v, ?_, ?_⟩⟩
    · have := h k v hk
      simpa [rowsL] using this
    · exact vr_plain1 (List.all_eq_true.mp rows_plain v (List.mem_of_getElem? hk))
  · obtain ⟨_, he⟩ := hblk i _ hb (by intro e; cases e); cases he
  · obtain ⟨_, he⟩ := hblk i _ hb (by intro e; cases e); cases he

/-- A closed run over the table. -/
theorem rows_calls {n f : Nat} {fn : Func} (hf : Tryd.prog.funcs[f]? = some fn) (hb : fn.body.isSome = true) (h : saysTrue (run Tryd.prog cfgR n f [] rowsHeap) = true) {w : World}
    (hL : laidMetH Tryd.prog [("surd/expr.rows", Rows.laid_surd_expr_rows)] w) :
    Calls Tryd.prog f #[] w fun e w' => e = .returned (.bool true) ∧ Below w.heap.size w w' := by
  obtain ⟨H', hr⟩ := saysTrue_some h
  have hI := rowsHeap_inv (of_laid hL)
  have := run_calls (cfg_ok (0 + 1)) hr hf hb rows_go hI VRs.nil
  refine this.mono fun e w' ⟨v', he, hg⟩ => ?_
  have hbel := hg.below hI
  obtain ⟨L', _, _, hv⟩ := hg
  cases hv
  exact ⟨he, hbel⟩

end
end Go.Proofs.YthlgggcpokfmaaaDoor
