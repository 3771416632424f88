/- The three tables of the library, where the row of FnExplored finds them laid. Conditions: none. -/
import Derived.Test.YtlglhokpaplifaaGreatDoorEvOpen
import Derived.Test.YtlglhokpaplifaaGreatDoorSortG
import Derived.Lib.LaidTab
import Derived.Test.YtlglhokpaplifaaGreatDoorRows
import Derived.ProofKit
import Derived.LaidMore
import Derived.OpenShut
import Derived.Stop.Joined
namespace Go.Proofs.YtlglhokpaplifaaGreatDoor
open Go.RowKit Go.ChangeShapes Go.WideShapes Go.ChangeAt Go.WideMaps Go.WideElems
set_option linter.unusedVariables false
set_option linter.unusedSimpArgs false

theorem own : ownKnob Tryz.prog.godebug = none := by kernel_rfl
def laidL : List (String × DataW Unit) := [("math/bits.deBruijn32tab", Rows.laid_math_bits_deBruijn32tab), ("math/bits.deBruijn64tab", Rows.laid_math_bits_deBruijn64tab), ("internal/strconv.uint64pow10", Rows.laid_internal_strconv_uint64pow10)]
theorem g64 : Tryz.prog.globalNamed "math/bits.deBruijn64tab" = some 1 := by kernel_rfl
theorem t64 : (Tryz.prog.globals[1]?).map (·.type) = some 116 := by kernel_rfl
theorem dat64 : Rows.laid_math_bits_deBruijn64tab = (.agg (Lib.deBruijn64tab.map fun (n : Nat) => .lit (.int .u8 (n : Int))) : DataW Unit) := by kernel_rfl
theorem g10 : Tryz.prog.globalNamed "internal/strconv.uint64pow10" = some 2 := by kernel_rfl
theorem t10 : (Tryz.prog.globals[2]?).map (·.type) = some 128 := by kernel_rfl
theorem dat10 : Rows.laid_internal_strconv_uint64pow10 = (Lib.tabData .u64 Lib.pow10Tab : DataW Unit) := by kernel_rfl
theorem of_laid {W : World} (h : laidMetH Tryz.prog laidL W) : laidG W := by
  rw [MakeChecks.laidMetH_plain _ _ _ (by kernel_rfl)] at h
  obtain ⟨ps, ⟨g0, t0, cs0, f0, p0, q0, hg0, ht0, hv0, hd0, ⟨g1, t1, cs1, f1, p1, q1, hg1, ht1, hv1, hd1, ⟨g2, t2, cs2, f2, p2, q2, hg2, ht2, hv2, hd2, _, _⟩, _⟩, _⟩, _, _⟩ := h
  refine ⟨?_, ?_⟩
  · clear hg2 ht2 hv2 hd2
    obtain rfl := Option.some.inj (g64.symm.trans hg1)
    obtain rfl := Option.some.inj (t64.symm.trans ht1)
    obtain ⟨xs, m1, rfl, hx1, hlen, hn, hel⟩ := DataW.trod_array Tryz.underlying116 hd1
    have ce : Tryz.prog.cellsOf 5 = 1 := by kernel_rfl
    rw [dat64] at hx1
    simp only [Prod.mk.injEq, DataW.agg.injEq] at hx1
    have hxs := hx1.1
    intro j hj
    have hj64 : j < 64 := hj
    have hE := hel j hj64
    rw [ce, Nat.mul_one] at hE
    have hj2 : j < xs.length := by omega
    rw [List.getElem?_eq_getElem hj2] at hE
    obtain ⟨k, e1, e2, _⟩ := DataW.trod_int Tryz.underlying5 hE
    have h3 := congrArg (fun l => l[j]?) hxs
    simp only [List.getElem?_map, List.getElem?_eq_getElem hj2, List.getElem?_eq_getElem hj, Option.map_some, Option.some.injEq] at h3
    rw [e2] at h3
    simp only [DataW.lit.injEq, Lit.int.injEq, true_and] at h3
    have hc : cs1[j]? = some (.int .u8 k) := by
      have h4 := congrArg (fun l => l[0]?) e1
      simpa using h4
    rw [World.var?_cell hg1 hv1 j, hc, ← h3]
    simp [List.getD, List.getElem?_eq_getElem hj]
    try rfl
  · clear hg1 ht1 hv1 hd1
    obtain rfl := Option.some.inj (g10.symm.trans hg2)
    obtain rfl := Option.some.inj (t10.symm.trans ht2)
    rw [dat10] at hd2
    unfold powT Lib.TabIs
    rw [hv2, ← Lib.cells_of_tab Tryz.underlying128 Tryz.underlying111 (by kernel_rfl) (by kernel_rfl) hd2]
def doorN : Nat := 4000
theorem door_met (os : Os) (args : Array Value) : laidMetH Tryz.prog laidL ((World.doorLaid Tryz.prog doorN os).forCall (fun _ _ => 0) ⟨#[], args, []⟩).memory :=
  laidMetH_of_parts3 (fuel := 8) (laidMet_of_run' 8 (by kernel_rfl) (by kernel_rfl)) (by kernel_rfl) (by kernel_rfl)
end Go.Proofs.YtlglhokpaplifaaGreatDoor
