/-
  sums.Ends, as one; the chapter's examples, as plain facts.
-/
import Derived.Test.YtccmeiflahnleaaDoorS7
namespace Go.Proofs.YtccmeiflahnleaaDoor.A
set_option linter.unusedVariables false
set_option linter.unusedSimpArgs false
open Go.RowKit

theorem xends (A : Option Addr) (c : Nat) (bs : List Nat) (w : World) (B : Bytes w A bs) (T : TabAt w) (hc : bs.length ≤ c) : Calls Tryd.prog 18 #[.slice A bs.length c] w fun e w' => e = .returned (.bool (endsB bs)) ∧ Below w.heap.size w w' := by
  by_cases h : bs.length < 4
  · have hE : endsB bs = false := decide_eq_false (by omega)
    rw [hE]
    exact ends_short A bs.length c h w
  · obtain ⟨g, off, x, rfl, _⟩ := B.get 0 (by omega)
    obtain ⟨m, hm⟩ : ∃ m, bs.length = m + 4 := ⟨bs.length - 4, by omega⟩
    have := ends_long g off c m bs w B T hm (by omega)
    rw [hm]
    exact this

theorem fact1 : crc 0 [49, 50, 51, 52, 53, 54, 55, 56, 57] = 3421780262 := by decide +kernel
theorem fact2 : withSum [0] = [0, 141, 239, 2, 210] := by decide +kernel
theorem fact3 : endsB [0, 141, 239, 2, 210] = true := by decide +kernel
theorem fact4 : endsB [1, 2, 3] = false := by decide +kernel
theorem fact5 : crc 0 [] = 0 := by decide +kernel
end Go.Proofs.YtccmeiflahnleaaDoor.A
