/-
  What the listed variable gives the walks: the table's cells.
-/
import Derived.Test.YtccmeiflahnleaaDoorRows
import Derived.Test.YtccmeiflahnleaaDoorS0
import Derived.ProofKit
import Derived.LaidMore
import Derived.OpenShut
namespace Go.Proofs.YtccmeiflahnleaaDoor.A
set_option linter.unusedVariables false
set_option linter.unusedSimpArgs false
open Go.ChangeShapes Go.WideShapes Go.ChangeAt Go.RowKit

theorem gTab : Tryd.prog.globalNamed "countinghouse/sums.table" = some 0 := by kernel_rfl
theorem tTab : (Tryd.prog.globals[0]?).map (·.type) = some 56 := by kernel_rfl
theorem tabData {H : Type} : (Rows.laid_countinghouse_sums_table : DataW H) = .agg (tab.map fun (n : Nat) => .lit (.int .u32 (n : Int))) := rfl
theorem tab_of_laid {W : World} (h : laidMetH Tryd.prog [("countinghouse/sums.table", Rows.laid_countinghouse_sums_table)] W) : TabAt W := by
  rw [MakeChecks.laidMetH_plain _ _ _ (by kernel_rfl)] at h
  obtain ⟨ps, ⟨g0, t0, cs0, f0, p0, q0, hg0, ht0, hv0, hd0, _, _⟩, _, _⟩ := h
  obtain rfl := Option.some.inj (gTab.symm.trans hg0)
  obtain rfl := Option.some.inj (tTab.symm.trans ht0)
  obtain ⟨xs, m1, rfl, hx1, hlen, hn, hel⟩ := DataW.trod_array Tryd.underlying56 hd0
  have c25 : Tryd.prog.cellsOf 25 = 1 := by kernel_rfl
  simp only [Prod.mk.injEq, tabData, DataW.agg.injEq] at hx1
  intro i hi
  rw [World.var?_cell hg0 hv0]
  have hi' : i < xs.length := by omega
  have h0 := (hel i hi).trans (List.getElem?_eq_getElem hi')
  obtain ⟨k, e1, e2, _⟩ := DataW.trod_int Tryd.underlying25 h0
  have ht : tab.length = 16 := rfl
  have hk : (xs[i]).1 = .lit (.int .u32 (tab.getD i 0 : Nat)) := by
    have hq := congrArg (fun l => l[i]?) hx1.1
    simp only [List.getElem?_map] at hq
    rw [List.getElem?_eq_getElem hi', List.getElem?_eq_getElem (by omega)] at hq
    simp only [Option.map_some, Option.some.injEq] at hq
    rw [← hq, List.getD_eq_getElem?_getD, List.getElem?_eq_getElem (by omega)]
    rfl
  rw [e2] at hk
  simp only [DataW.lit.injEq, Lit.int.injEq, true_and] at hk
  rw [c25, Nat.mul_one] at e1
  have h3 : cs0.toList[i]? = some (.int .u32 k) := by
    have := congrArg (fun l => l[0]?) e1
    simpa [List.getElem?_take, List.getElem?_drop] using this
  rw [Array.getElem?_toList] at h3
  rw [h3, hk]
end Go.Proofs.YtccmeiflahnleaaDoor.A
