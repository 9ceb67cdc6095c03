/-
  The rates' laws: what all of them reach.
-/
import Derived.Test.YtbeiphfmdmccmaaLx3
namespace Go.Proofs.Ytbeiphfmdmccmaa.L
set_option linter.unusedVariables false
set_option linter.unusedSimpArgs false
open Go.RowKit Go.Proofs.Ytbeiphfmdmccmaa.A Go.Proofs.Ytbeiphfmdmccmaa.P

theorem lives_two : countinghouselaw02_lives.f 2 = some true := by decide +kernel
theorem lives_more (k : Nat) : countinghouselaw02_lives.f (k + 2) = some true := by
  induction k with
  | zero => exact lives_two
  | succ k ih => exact countinghouselaw02_lives.mono (k + 2) true ih

theorem g_of {a b : Int} (ha : in64 a) (hb : in64 b) : rats_Of.f a b = some (ratOf a b) := if_pos ⟨ha, hb⟩
theorem g_may {a b : Int} (ha : in64 a) (hb : in64 b) : rats_May.f a b = some (may a b) := if_pos ⟨ha, hb⟩
theorem g_inv {a b : Int} (ha : in64 a) (hb : in64 b) : rats_Inverse.f a b = some (inv a b) := if_pos ⟨ha, hb⟩
theorem g_up {n a b : Int} (hn : in64 n) (ha : in64 a) (hb : in64 b) : rats_Up.f n a b = some (rby n a b true) := if_pos ⟨hn, ha, hb⟩
theorem g_down {n a b : Int} (hn : in64 n) (ha : in64 a) (hb : in64 b) : rats_Down.f n a b = some (rby n a b false) := if_pos ⟨hn, ha, hb⟩
theorem g_fits {n a b : Int} (hn : in64 n) (ha : in64 a) (hb : in64 b) : rats_Fits.f n a b = some (fits n a b) := if_pos ⟨hn, ha, hb⟩
theorem g_cmp {a b c d : Int} (ha : in64 a) (hb : in64 b) (hc : in64 c) (hd : in64 d) : rats_Compare.f a b c d = some (cmpr a b c d) := if_pos ⟨ha, hb, hc, hd⟩

end Go.Proofs.Ytbeiphfmdmccmaa.L
