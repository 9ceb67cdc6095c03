/-
  The law PathsRound, of a row that came in.
-/
import Derived.Test.YtjopmkfpghdlpaaZ2
import Derived.Test.YtjopmkfpghdlpaaY2
namespace Go.Proofs.Ytjopmkfpghdlpaa.A
set_option linter.unusedVariables false
set_option linter.unusedSimpArgs false
open Go.RowKit

theorem rnd_of_row (A : Option Addr) (n c : Nat) (es : List Ed) (w : World) (h : RowE w A n c es) : Calls Try.prog 5 #[.slice A n c] w fun e w' => e = .returned (.bool true) ∧ Below w.heap.size w w' := by
  by_cases hn : 300 < n
  · exact rnd_many A n c w hn
  · have hl := h.num
    have := rnd_few A c es w ⟨h.reads, h.wf, by omega⟩ (by omega)
    rwa [hl] at this
end Go.Proofs.Ytjopmkfpghdlpaa.A

