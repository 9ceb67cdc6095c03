/-
  Clean contracts of the rates' functions, in the form that the printed laws ask.
-/
import Derived.Test.YtbeiphfmdmccmaaH3
import Derived.Test.YtbeiphfmdmccmaaH4
namespace Go.Proofs.Ytbeiphfmdmccmaa.L
set_option linter.unusedVariables false
set_option linter.unusedSimpArgs false
open Go.RowKit Go.Proofs.Ytbeiphfmdmccmaa.A Go.Proofs.Ytbeiphfmdmccmaa.P Go.Proofs.Ytbeiphfmdmccmaa

def ref02_Of.f (a0 a1 : Int) : Option (Int × Int × Int) := if in64 a0 ∧ in64 a1 then some (ratOf a0 a1) else none
theorem ref02_Of.calls (a0 a1 : Int) (r1 r2 r3 : Int) (w : World) (h : ref02_Of.f a0 a1 = some (r1, r2, r3)) :
    Calls Try.prog 33 #[.int .i64 a0, .int .i64 a1] w fun e w' => e = .returned (.tuple #[.agg #[.int .i64 r1, .int .i64 r2], .int .i64 r3]) ∧ Below w.heap.size w w' := by
  unfold ref02_Of.f at h
  split at h
  · rename_i hc
    obtain ⟨h0, h1⟩ := hc
    exact P.countinghouseref02_Of.calls (enough a0 a1 + 1) a0 a1 r1 r2 r3 w ((ref_of_eq _ a0 a1 h0 h1 (Nat.le_refl _)).trans h)
  · cases h
def ref02_May.f (a0 a1 : Int) : Option (Bool) := if in64 a0 ∧ in64 a1 then some (may a0 a1) else none
theorem ref02_May.calls (a0 a1 : Int) (r : Bool) (w : World) (h : ref02_May.f a0 a1 = some r) :
    Calls Try.prog 35 #[.agg #[.int .i64 a0, .int .i64 a1]] w fun e w' => e = .returned (.bool r) ∧ Below w.heap.size w w' := by
  unfold ref02_May.f at h
  split at h
  · rename_i hc
    obtain ⟨h0, h1⟩ := hc
    exact P.countinghouseref02_May.calls (enough a0 a1) a0 a1 r w ((ref_may_eq _ a0 a1 h0 h1 (Nat.le_refl _)).trans h)
  · cases h
def ref02_Inverse.f (a0 a1 : Int) : Option (Int × Int) := if in64 a0 ∧ in64 a1 then some (inv a0 a1) else none
theorem ref02_Inverse.calls (a0 a1 : Int) (r1 r2 : Int) (w : World) (h : ref02_Inverse.f a0 a1 = some (r1, r2)) :
    Calls Try.prog 37 #[.agg #[.int .i64 a0, .int .i64 a1]] w fun e w' => e = .returned (.agg #[.int .i64 r1, .int .i64 r2]) ∧ Below w.heap.size w w' := by
  unfold ref02_Inverse.f at h
  split at h
  · rename_i hc
    obtain ⟨h0, h1⟩ := hc
    exact P.countinghouseref02_Inverse.calls (enough a0 a1) a0 a1 r1 r2 w ((ref_inv_eq _ a0 a1 h0 h1 (Nat.le_refl _)).trans h)
  · cases h
def ref02_Down.f (a0 a1 a2 : Int) : Option (Int × Int) := if in64 a0 ∧ in64 a1 ∧ in64 a2 then some (rby a0 a1 a2 false) else none
theorem ref02_Down.calls (a0 a1 a2 : Int) (r1 r2 : Int) (w : World) (h : ref02_Down.f a0 a1 a2 = some (r1, r2)) :
    Calls Try.prog 42 #[.int .i64 a0, .agg #[.int .i64 a1, .int .i64 a2]] w fun e w' => e = .returned (.tuple #[.int .i64 r1, .int .i64 r2]) ∧ Below w.heap.size w w' := by
  unfold ref02_Down.f at h
  split at h
  · rename_i hc
    obtain ⟨h0, h1, h2⟩ := hc
    exact P.countinghouseref02_Down.calls (enough a1 a2) a0 a1 a2 r1 r2 w ((ref_down_eq _ a0 a1 a2 h0 h1 h2 (Nat.le_refl _)).trans h)
  · cases h
def ref02_Up.f (a0 a1 a2 : Int) : Option (Int × Int) := if in64 a0 ∧ in64 a1 ∧ in64 a2 then some (rby a0 a1 a2 true) else none
theorem ref02_Up.calls (a0 a1 a2 : Int) (r1 r2 : Int) (w : World) (h : ref02_Up.f a0 a1 a2 = some (r1, r2)) :
    Calls Try.prog 44 #[.int .i64 a0, .agg #[.int .i64 a1, .int .i64 a2]] w fun e w' => e = .returned (.tuple #[.int .i64 r1, .int .i64 r2]) ∧ Below w.heap.size w w' := by
  unfold ref02_Up.f at h
  split at h
  · rename_i hc
    obtain ⟨h0, h1, h2⟩ := hc
    exact P.countinghouseref02_Up.calls (enough a1 a2) a0 a1 a2 r1 r2 w ((ref_up_eq _ a0 a1 a2 h0 h1 h2 (Nat.le_refl _)).trans h)
  · cases h
def ref02_Fits.f (a0 a1 a2 : Int) : Option (Int) := if in64 a0 ∧ in64 a1 ∧ in64 a2 then some (fits a0 a1 a2) else none
theorem ref02_Fits.calls (a0 a1 a2 : Int) (r : Int) (w : World) (h : ref02_Fits.f a0 a1 a2 = some r) :
    Calls Try.prog 46 #[.int .i64 a0, .agg #[.int .i64 a1, .int .i64 a2]] w fun e w' => e = .returned (.int .i64 r) ∧ Below w.heap.size w w' := by
  unfold ref02_Fits.f at h
  split at h
  · rename_i hc
    obtain ⟨h0, h1, h2⟩ := hc
    exact P.countinghouseref02_Fits.calls (enough a1 a2 + 40 + 3) a0 a1 a2 r w ((ref_fits_eq _ a0 a1 a2 h0 h1 h2 (Nat.le_refl _)).trans h)
  · cases h

end Go.Proofs.Ytbeiphfmdmccmaa.L
