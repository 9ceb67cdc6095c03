/-
  The law PathsCheap, of a row that came in.
-/
import Derived.Test.YtjopmkfpghdlpaaY1
import Derived.Test.YtjopmkfpghdlpaaY2
namespace Go.Proofs.Ytjopmkfpghdlpaa.A
set_option linter.unusedVariables false
set_option linter.unusedSimpArgs false
open Go.RowKit

theorem cheap_of_row (A : Option Addr) (n c : Nat) (es : List Ed) (w : World) (h : RowE w A n c es) : Calls Try.prog 7 #[.slice A n c] w fun e w' => e = .returned (.bool true) ∧ Below w.heap.size w w' := by
  by_cases hn : 300 < n
  · exact cheap_many A n c w hn
  · have hl := h.num
    have := cheap_few A c es w ⟨h.reads, h.wf, by omega⟩ (by omega)
    rwa [hl] at this
end Go.Proofs.Ytjopmkfpghdlpaa.A

