/-
  The law PathsLeast, of a row that came in.
-/
import Derived.Test.YtjopmkfpghdlpaaY6
import Derived.Test.YtjopmkfpghdlpaaY2
namespace Go.Proofs.Ytjopmkfpghdlpaa.A
set_option linter.unusedVariables false
set_option linter.unusedSimpArgs false
open Go.RowKit

theorem least_few (A : Option Addr) (c f t : Nat) (fs : List Fl) (w : World) (F : Flows w A fs) (hn : fs.length ≤ 300) :
    Calls Try.prog 6 #[.slice A fs.length c, .int .u8 (f : Int), .int .u8 (t : Int)] w fun e w' => e = .returned (.bool true) ∧ Below w.heap.size w w' := by
  by_cases h : newOk fs = true ∧ okp f = true ∧ okp t = true ∧ f ≠ t
  · exact least_some A c f t fs w F hn h.1 h.2.1 h.2.2.1 h.2.2.2
  · refine least_none A c f t fs w F hn ?_
    cases hk : newOk fs with
    | false => exact .inl rfl
    | true => exact .inr fun h2 => h ⟨hk, h2⟩
theorem least_of_row (A : Option Addr) (n c : Nat) (fs : List Fl) (f t : Int) (w : World) (h : RowF w A n c fs) (hf : (Lit.int .u8 f).wf = true) (ht : (Lit.int .u8 t).wf = true) : Calls Try.prog 6 #[.slice A n c, .int .u8 f, .int .u8 t] w fun e w' => e = .returned (.bool true) ∧ Below w.heap.size w w' := by
  have kf := wf_u8 hf
  have kt := wf_u8 ht
  obtain ⟨f', rfl⟩ : ∃ f' : Nat, f = f' := ⟨f.toNat, by omega⟩
  obtain ⟨t', rfl⟩ : ∃ t' : Nat, t = t' := ⟨t.toNat, by omega⟩
  by_cases hn : 300 < n
  · exact least_many A n c f' t' w hn
  · have hl := h.num
    have := least_few A c f' t' fs w ⟨h.reads, h.wf, by omega⟩ (by omega)
    rwa [hl] at this
end Go.Proofs.Ytjopmkfpghdlpaa.A

