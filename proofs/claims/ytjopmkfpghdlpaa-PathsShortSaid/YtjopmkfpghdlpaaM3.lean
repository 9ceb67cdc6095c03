/-
  The law PathsShort, of values that came in.
-/
import Derived.Test.YtjopmkfpghdlpaaM2
import Derived.Test.YtjopmkfpghdlpaaY2
namespace Go.Proofs.Ytjopmkfpghdlpaa.A
set_option linter.unusedVariables false
set_option linter.unusedSimpArgs false
open Go.RowKit

theorem short_of_row (A : Option Addr) (n c : Nat) (fs : List Fl) (f t : Int) (w : World) (h : RowF w A n c fs) (hf : (Lit.int .u8 f).wf = true) (ht : (Lit.int .u8 t).wf = true) : Calls Try.prog 8 #[.slice A n c, .int .u8 f, .int .u8 t] w fun e w' => e = .returned (.bool true) ∧ Below w.heap.size w w' := by
  have h1 := wf_u8 hf
  have h2 := wf_u8 ht
  obtain ⟨f', rfl⟩ : ∃ k : Nat, f = k := ⟨f.toNat, by omega⟩
  obtain ⟨t', rfl⟩ : ∃ k : Nat, t = k := ⟨t.toNat, by omega⟩
  exact sh_of_row A n c f' t' fs w h (by omega) (by omega)
end Go.Proofs.Ytjopmkfpghdlpaa.A

