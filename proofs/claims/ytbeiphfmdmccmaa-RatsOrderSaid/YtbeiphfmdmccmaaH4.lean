/-
  Clean contracts of the rates' functions, in the form that the printed laws ask.
-/
import Derived.Test.YtbeiphfmdmccmaaH2
namespace Go.Proofs.Ytbeiphfmdmccmaa.L
set_option linter.unusedVariables false
set_option linter.unusedSimpArgs false
open Go.RowKit Go.Proofs.Ytbeiphfmdmccmaa.A Go.Proofs.Ytbeiphfmdmccmaa.P Go.Proofs.Ytbeiphfmdmccmaa

def rats_Of.f (a0 a1 : Int) : Option (Int × Int × Int) := if in64 a0 ∧ in64 a1 then some (ratOf a0 a1) else none
theorem rats_Of.calls (a0 a1 : Int) (r1 r2 r3 : Int) (w : World) (h : rats_Of.f a0 a1 = some (r1, r2, r3)) :
    Calls Try.prog 32 #[.int .i64 a0, .int .i64 a1] w fun e w' => e = .returned (.tuple #[.agg #[.int .i64 r1, .int .i64 r2], .int .i64 r3]) ∧ Below w.heap.size w w' := by
  unfold rats_Of.f at h
  split at h
  · rename_i hc
    obtain ⟨h0, h1⟩ := hc
    exact P.rats_Of.calls a0 a1 r1 r2 r3 w ((of_eq a0 a1 h0 h1).trans h)
  · cases h
def rats_May.f (a0 a1 : Int) : Option (Bool) := if in64 a0 ∧ in64 a1 then some (may a0 a1) else none
theorem rats_May.calls (a0 a1 : Int) (r : Bool) (w : World) (h : rats_May.f a0 a1 = some r) :
    Calls Try.prog 34 #[.agg #[.int .i64 a0, .int .i64 a1]] w fun e w' => e = .returned (.bool r) ∧ Below w.heap.size w w' := by
  unfold rats_May.f at h
  split at h
  · rename_i hc
    obtain ⟨h0, h1⟩ := hc
    exact P.rats_May.calls a0 a1 r w ((may_eq a0 a1 h0 h1).trans h)
  · cases h
def rats_Inverse.f (a0 a1 : Int) : Option (Int × Int) := if in64 a0 ∧ in64 a1 then some (inv a0 a1) else none
theorem rats_Inverse.calls (a0 a1 : Int) (r1 r2 : Int) (w : World) (h : rats_Inverse.f a0 a1 = some (r1, r2)) :
    Calls Try.prog 36 #[.agg #[.int .i64 a0, .int .i64 a1]] w fun e w' => e = .returned (.agg #[.int .i64 r1, .int .i64 r2]) ∧ Below w.heap.size w w' := by
  unfold rats_Inverse.f at h
  split at h
  · rename_i hc
    obtain ⟨h0, h1⟩ := hc
    exact P.rats_Inverse.calls a0 a1 r1 r2 w ((inv_eq a0 a1 h0 h1).trans h)
  · cases h
def rats_Compare.f (a0 a1 a2 a3 : Int) : Option (Int) := if in64 a0 ∧ in64 a1 ∧ in64 a2 ∧ in64 a3 then some (cmpr a0 a1 a2 a3) else none
theorem rats_Compare.calls (a0 a1 a2 a3 : Int) (r : Int) (w : World) (h : rats_Compare.f a0 a1 a2 a3 = some r) :
    Calls Try.prog 39 #[.agg #[.int .i64 a0, .int .i64 a1], .agg #[.int .i64 a2, .int .i64 a3]] w fun e w' => e = .returned (.int .i64 r) ∧ Below w.heap.size w w' := by
  unfold rats_Compare.f at h
  split at h
  · rename_i hc
    obtain ⟨h0, h1, h2, h3⟩ := hc
    exact P.rats_Compare.calls (4) a0 a1 a2 a3 r w ((compare_eq 0 a0 a1 a2 a3 h0 h1 h2 h3).trans h)
  · cases h
def rats_Down.f (a0 a1 a2 : Int) : Option (Int × Int) := if in64 a0 ∧ in64 a1 ∧ in64 a2 then some (rby a0 a1 a2 false) else none
theorem rats_Down.calls (a0 a1 a2 : Int) (r1 r2 : Int) (w : World) (h : rats_Down.f a0 a1 a2 = some (r1, r2)) :
    Calls Try.prog 41 #[.int .i64 a0, .agg #[.int .i64 a1, .int .i64 a2]] w fun e w' => e = .returned (.tuple #[.int .i64 r1, .int .i64 r2]) ∧ Below w.heap.size w w' := by
  unfold rats_Down.f at h
  split at h
  · rename_i hc
    obtain ⟨h0, h1, h2⟩ := hc
    exact P.rats_Down.calls a0 a1 a2 r1 r2 w ((down_eq a0 a1 a2 h0 h1 h2).trans h)
  · cases h
def rats_Up.f (a0 a1 a2 : Int) : Option (Int × Int) := if in64 a0 ∧ in64 a1 ∧ in64 a2 then some (rby a0 a1 a2 true) else none
theorem rats_Up.calls (a0 a1 a2 : Int) (r1 r2 : Int) (w : World) (h : rats_Up.f a0 a1 a2 = some (r1, r2)) :
    Calls Try.prog 43 #[.int .i64 a0, .agg #[.int .i64 a1, .int .i64 a2]] w fun e w' => e = .returned (.tuple #[.int .i64 r1, .int .i64 r2]) ∧ Below w.heap.size w w' := by
  unfold rats_Up.f at h
  split at h
  · rename_i hc
    obtain ⟨h0, h1, h2⟩ := hc
    exact P.rats_Up.calls a0 a1 a2 r1 r2 w ((up_eq a0 a1 a2 h0 h1 h2).trans h)
  · cases h
def rats_Fits.f (a0 a1 a2 : Int) : Option (Int) := if in64 a0 ∧ in64 a1 ∧ in64 a2 then some (fits a0 a1 a2) else none
theorem rats_Fits.calls (a0 a1 a2 : Int) (r : Int) (w : World) (h : rats_Fits.f a0 a1 a2 = some r) :
    Calls Try.prog 45 #[.int .i64 a0, .agg #[.int .i64 a1, .int .i64 a2]] w fun e w' => e = .returned (.int .i64 r) ∧ Below w.heap.size w w' := by
  unfold rats_Fits.f at h
  split at h
  · rename_i hc
    obtain ⟨h0, h1, h2⟩ := hc
    exact P.rats_Fits.calls (1) a0 a1 a2 r w ((fits_eq 0 a0 a1 a2 h0 h1 h2).trans h)
  · cases h

end Go.Proofs.Ytbeiphfmdmccmaa.L
