/-
  The law RatsBy: what its printed form answers is true.
-/
import Derived.Test.YtbeiphfmdmccmaaM0
import Derived.Test.YtbeiphfmdmccmaaLx6
namespace Go.Proofs.Ytbeiphfmdmccmaa.L
set_option linter.unusedVariables false
set_option linter.unusedSimpArgs false
open Go.RowKit Go.Proofs.Ytbeiphfmdmccmaa.A Go.Proofs.Ytbeiphfmdmccmaa.P

theorem g_rof {a b : Int} (ha : in64 a) (hb : in64 b) : ref02_Of.f a b = some (ratOf a b) := if_pos ⟨ha, hb⟩
theorem g_rmay {a b : Int} (ha : in64 a) (hb : in64 b) : ref02_May.f a b = some (may a b) := if_pos ⟨ha, hb⟩
theorem g_rinv {a b : Int} (ha : in64 a) (hb : in64 b) : ref02_Inverse.f a b = some (inv a b) := if_pos ⟨ha, hb⟩
theorem g_rup {n a b : Int} (hn : in64 n) (ha : in64 a) (hb : in64 b) : ref02_Up.f n a b = some (rby n a b true) := if_pos ⟨hn, ha, hb⟩
theorem g_rdown {n a b : Int} (hn : in64 n) (ha : in64 a) (hb : in64 b) : ref02_Down.f n a b = some (rby n a b false) := if_pos ⟨hn, ha, hb⟩
theorem g_rfits {n a b : Int} (hn : in64 n) (ha : in64 a) (hb : in64 b) : ref02_Fits.f n a b = some (fits n a b) := if_pos ⟨hn, ha, hb⟩
theorem law_by2 (n p q : Int) (hn : in64 n) (hp : in64 p) (hq : in64 q) : countinghouselaw02_RatsBy.f 2 n p q = some true := by
  unfold countinghouselaw02_RatsBy.f
  simp only [g_down hn hp hq, g_rdown hn hp hq, g_up hn hp hq, g_rup hn hp hq, g_fits hn hp hq, g_rfits hn hp hq, Option.bind_some, BEq.rfl, Bool.and_self, if_true, lives_two]
theorem law_by2_walk (n p q : Int) (hn : (Lit.int .i64 n).wf = true) (hp : (Lit.int .i64 p).wf = true) (hq : (Lit.int .i64 q).wf = true) (w : World) : Calls Try.prog 10 #[.int .i64 n, .agg #[.int .i64 p, .int .i64 q]] w fun e w' => e = .returned (.bool true) ∧ Below w.heap.size w w' :=
  countinghouselaw02_RatsBy.calls 2 n p q true w (law_by2 n p q (in64_of hn) (in64_of hp) (in64_of hq))

end Go.Proofs.Ytbeiphfmdmccmaa.L
