/- Cards of this seat: the two tables that the chart's text reads, out of the list that the row names. No premise of its own. -/
import Derived.Test.YtlmhgfgdkenpfaaDoorRows
import Derived.Lib.LaidTab
import Derived.Lib.AppendIntMem
namespace Go.Proofs.YtlmhgfgdkenpfaaDoor.top
open Go.RowKit

def tabsCh : List (String × DataW Unit) := [("math/bits.deBruijn32tab", Rows.laid_math_bits_deBruijn32tab), ("math/bits.deBruijn64tab", Rows.laid_math_bits_deBruijn64tab), ("internal/strconv.uint64pow10", Rows.laid_internal_strconv_uint64pow10), ("verge/chart.letters", Rows.laid_verge_chart_letters)]
theorem tabs_ch {W : World} (h0 : laidMetH Tryd.prog tabsCh W) : Lib.TabIs Tryd.prog W "verge/chart.letters" .u8 [105, 116, 98, 108] ∧ Lib.TabIs Tryd.prog W "internal/strconv.uint64pow10" .u64 Lib.pow10Tab := by
  have h : laidMet Tryd.prog tabsCh W := h0
  obtain ⟨ps, ⟨_, _, _, _, _, q1, _, _, _, _, h1, _⟩, _⟩ := h
  obtain ⟨_, _, _, _, _, q2, _, _, _, _, h2, _⟩ := h1
  obtain ⟨g3, t3, cs3, fuel3, p3, q3, hg3, ht3, hvar3, hd3, h3, _⟩ := h2
  obtain ⟨g4, t4, cs4, fuel4, p4, q4, hg4, ht4, hvar4, hd4, h4, _⟩ := h3
  have eg3 : Tryd.prog.globalNamed "internal/strconv.uint64pow10" = some 1 := by kernel_rfl
  have eg4 : Tryd.prog.globalNamed "verge/chart.letters" = some 0 := by kernel_rfl
  obtain rfl := Option.some.inj (eg3.symm.trans hg3)
  obtain rfl := Option.some.inj (eg4.symm.trans hg4)
  have et3 : (Tryd.prog.globals[1]?).map (·.type) = some 71 := by kernel_rfl
  have et4 : (Tryd.prog.globals[0]?).map (·.type) = some 56 := by kernel_rfl
  obtain rfl := Option.some.inj (et3.symm.trans ht3)
  obtain rfl := Option.some.inj (et4.symm.trans ht4)
  have hd3' : DataW.trod (fun _ => ()) Tryd.prog W 0 (fun _ => true) false fuel3 71 cs3.toList = some (Lib.tabData .u64 Lib.pow10Tab, p3) := hd3
  have hd4' : DataW.trod (fun _ => ()) Tryd.prog W 0 (fun _ => true) false fuel4 56 cs4.toList = some (Lib.tabData .u8 [105, 116, 98, 108], p4) := hd4
  constructor
  · unfold Lib.TabIs
    rw [hvar4, ← Lib.cells_of_tab (n := 4) (e := 5) (by kernel_rfl) (by kernel_rfl) (by kernel_rfl) (by kernel_rfl) hd4']
  · unfold Lib.TabIs
    rw [hvar3, ← Lib.cells_of_tab (n := 20) (e := 61) (by kernel_rfl) (by kernel_rfl) (by kernel_rfl) (by kernel_rfl) hd3']
def numsOf : DataW Unit → Array Value
  | .agg l => (l.map fun d => match d with
    | .lit (.int k z) => Value.int k z
    | _ => undef).toArray
  | _ => #[]
def layAt (d : DataW Unit) : Obj → Obj
  | .cells _ t frozen => .cells (numsOf d) t frozen
  | o => o
/-- A world for the witness: the settled one, the tables holding what their initialisers lay. -/
noncomputable def laidWorld (os : Os) : World :=
  { World.holding Tryd.prog os ⟨#[], #[], []⟩ with heap := ((((World.holding Tryd.prog os ⟨#[], #[], []⟩).heap.modify 2 (layAt Rows.laid_math_bits_deBruijn32tab)).modify 3 (layAt Rows.laid_math_bits_deBruijn64tab)).modify 1 (layAt Rows.laid_internal_strconv_uint64pow10)).modify 0 (layAt Rows.laid_verge_chart_letters) }
end Go.Proofs.YtlmhgfgdkenpfaaDoor.top
