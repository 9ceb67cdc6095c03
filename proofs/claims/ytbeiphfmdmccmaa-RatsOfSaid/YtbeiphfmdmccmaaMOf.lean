/-
  The law RatsOf: what its printed form answers is true.
-/
import Derived.Test.YtbeiphfmdmccmaaM0
import Derived.Test.YtbeiphfmdmccmaaLx4
namespace Go.Proofs.Ytbeiphfmdmccmaa.L
set_option linter.unusedVariables false
set_option linter.unusedSimpArgs false
open Go.RowKit Go.Proofs.Ytbeiphfmdmccmaa.A Go.Proofs.Ytbeiphfmdmccmaa.P

theorem g_rof {a b : Int} (ha : in64 a) (hb : in64 b) : ref02_Of.f a b = some (ratOf a b) := if_pos ⟨ha, hb⟩
theorem g_rmay {a b : Int} (ha : in64 a) (hb : in64 b) : ref02_May.f a b = some (may a b) := if_pos ⟨ha, hb⟩
theorem g_rinv {a b : Int} (ha : in64 a) (hb : in64 b) : ref02_Inverse.f a b = some (inv a b) := if_pos ⟨ha, hb⟩
theorem g_rup {n a b : Int} (hn : in64 n) (ha : in64 a) (hb : in64 b) : ref02_Up.f n a b = some (rby n a b true) := if_pos ⟨hn, ha, hb⟩
theorem g_rdown {n a b : Int} (hn : in64 n) (ha : in64 a) (hb : in64 b) : ref02_Down.f n a b = some (rby n a b false) := if_pos ⟨hn, ha, hb⟩
theorem g_rfits {n a b : Int} (hn : in64 n) (ha : in64 a) (hb : in64 b) : ref02_Fits.f n a b = some (fits n a b) := if_pos ⟨hn, ha, hb⟩
theorem law_of (a b : Int) (ha : in64 a) (hb : in64 b) : countinghouselaw02_RatsOf.f 2 a b = some true := by
  unfold countinghouselaw02_RatsOf.f
  simp only [g_of ha hb, g_rof ha hb, g_may ha hb, g_rmay ha hb, g_inv ha hb, g_rinv ha hb, Option.bind_some, BEq.rfl, Bool.and_self, if_true, lives_two]
theorem law_of_walk (a b : Int) (ha : (Lit.int .i64 a).wf = true) (hb : (Lit.int .i64 b).wf = true) (w : World) : Calls Try.prog 8 #[.int .i64 a, .int .i64 b] w fun e w' => e = .returned (.bool true) ∧ Below w.heap.size w w' :=
  countinghouselaw02_RatsOf.calls 2 a b true w (law_of a b (in64_of ha) (in64_of hb))

end Go.Proofs.Ytbeiphfmdmccmaa.L
