/-
  sums.four: the four bytes of a sum.
-/
import Derived.Test.YtccmeiflahnleaaDoorS1
namespace Go.Proofs.YtccmeiflahnleaaDoor.A
set_option linter.unusedVariables false
set_option linter.unusedSimpArgs false
open Go.RowKit

def four (n : Nat) : List Nat := [n % 256, n / 256 % 256, n / 65536 % 256, n / 16777216 % 256]
theorem four_small (n : Nat) : ∀ b ∈ four n, b < 256 := by
  intro b hb
  simp [four] at hb
  omega

set_option maxHeartbeats 1000000 in
set_option maxRecDepth 100000 in
theorem xfour (n : Nat) (w : World) : Calls Tryd.prog 36 #[.int .u32 (n : Int)] w fun e w' => ∃ g, e = .returned (.slice (some ⟨g, 0, none⟩) 4 4) ∧ w'.heap[g]? = some (.cells (enc8 (four n)).toArray 5 (0, 0)) ∧ w.heap.size ≤ g ∧ Below w.heap.size w w' := by
  go_enter Tryd.func36, Tryd.ntmps36
  go_wp2
  go_ret
  refine ⟨w.heap.size, rfl, ?_, Nat.le_refl _, (Below.refl _ _).alloc (Nat.le_refl _) _⟩
  have e : (enc8 (four n)).toArray = #[Value.int .u8 ((n : Int) % 256), .int .u8 ((n : Int) / 256 % 256), .int .u8 ((n : Int) / 65536 % 256), .int .u8 ((n : Int) / 16777216 % 256)] := by
    simp [enc8, four]
  rw [heap_alloc_new, e]
end Go.Proofs.YtccmeiflahnleaaDoor.A
