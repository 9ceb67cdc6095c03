/-
  The contracts proved by hand, in the form that the printed texts of the rates' functions ask.
-/
import Derived.Test.YtbeiphfmdmccmaaK0
namespace Go.Proofs.Ytbeiphfmdmccmaa.P
set_option linter.unusedVariables false
set_option linter.unusedSimpArgs false
open Go.RowKit Go.Proofs.Ytbeiphfmdmccmaa.A

def rats_divisor.f (a b : Int) : Option Int := if 1 ≤ a ∧ 1 ≤ b then some (gd a b) else none
theorem rats_divisor.calls (a0 a1 : Int) (r : Int) (w : World) (h : rats_divisor.f a0 a1 = some r) :
    Calls Try.prog 68 #[.int .i64 a0, .int .i64 a1] w fun e w' => e = .returned (.int .i64 r) ∧ Below w.heap.size w w' := by
  unfold rats_divisor.f at h
  split at h
  · rename_i hc
    obtain rfl := Option.some.inj h
    exact xdivisor a0 a1 hc.1 hc.2 w
  · cases h

def bits_Mul64.f (x y : Int) : Option (Int × Int) := if (0 ≤ x ∧ x < 18446744073709551616) ∧ (0 ≤ y ∧ y < 18446744073709551616) then some (x * y / 18446744073709551616, x * y % 18446744073709551616) else none
theorem bits_Mul64.calls (a0 a1 : Int) (r1 r2 : Int) (w : World) (h : bits_Mul64.f a0 a1 = some (r1, r2)) :
    Calls Try.prog 30 #[.int .u64 a0, .int .u64 a1] w fun e w' => e = .returned (.tuple #[.int .u64 r1, .int .u64 r2]) ∧ Below w.heap.size w w' := by
  unfold bits_Mul64.f at h
  split at h
  · rename_i hc
    obtain ⟨rfl, rfl⟩ := Prod.mk.inj (Option.some.inj h)
    obtain ⟨⟨h1, h2⟩, h3, h4⟩ := hc
    obtain ⟨x, rfl⟩ := Int.eq_ofNat_of_zero_le h1
    obtain ⟨y, rfl⟩ := Int.eq_ofNat_of_zero_le h3
    have := xMul64 x y (by omega) (by omega) w
    simp only [Int.natCast_ediv, Int.natCast_emod, Int.natCast_mul] at this
    exact this
  · cases h

instance (a : Int) : Decidable (in64 a) := inferInstanceAs (Decidable (_ ∧ _))
def byo (a b c : Int) (up : Bool) : Option (Int × Int) := if in64 a ∧ in64 b ∧ in64 c then some (byf a b c up) else none
theorem byo_of {a b c : Int} {up : Bool} {r1 r2 : Int} (h : byo a b c up = some (r1, r2)) : in64 a ∧ in64 b ∧ in64 c ∧ r1 = (byf a b c up).1 ∧ r2 = (byf a b c up).2 := by
  unfold byo at h
  split at h
  · rename_i hc
    have := Option.some.inj h
    rw [this]
    exact ⟨hc.1, hc.2.1, hc.2.2, rfl, rfl⟩
  · cases h
def exacts_Down.f (a b c : Int) : Option (Int × Int) := byo a b c false
theorem exacts_Down.calls (a0 a1 a2 : Int) (r1 r2 : Int) (w : World) (h : exacts_Down.f a0 a1 a2 = some (r1, r2)) :
    Calls Try.prog 26 #[.int .i64 a0, .int .i64 a1, .int .i64 a2] w fun e w' => e = .returned (.tuple #[.int .i64 r1, .int .i64 r2]) ∧ Below w.heap.size w w' := by
  obtain ⟨h1, h2, h3, rfl, rfl⟩ := byo_of h
  exact xdown a0 a1 a2 h1 h2 h3 w
def ref_Down.f (a b c : Int) : Option (Int × Int) := byo a b c false
theorem ref_Down.calls (a0 a1 a2 : Int) (r1 r2 : Int) (w : World) (h : ref_Down.f a0 a1 a2 = some (r1, r2)) :
    Calls Try.prog 27 #[.int .i64 a0, .int .i64 a1, .int .i64 a2] w fun e w' => e = .returned (.tuple #[.int .i64 r1, .int .i64 r2]) ∧ Below w.heap.size w w' := by
  obtain ⟨h1, h2, h3, rfl, rfl⟩ := byo_of h
  exact down_any a0 a1 a2 h1 h2 h3 w
def exacts_Up.f (a b c : Int) : Option (Int × Int) := byo a b c true
theorem exacts_Up.calls (a0 a1 a2 : Int) (r1 r2 : Int) (w : World) (h : exacts_Up.f a0 a1 a2 = some (r1, r2)) :
    Calls Try.prog 28 #[.int .i64 a0, .int .i64 a1, .int .i64 a2] w fun e w' => e = .returned (.tuple #[.int .i64 r1, .int .i64 r2]) ∧ Below w.heap.size w w' := by
  obtain ⟨h1, h2, h3, rfl, rfl⟩ := byo_of h
  exact xup a0 a1 a2 h1 h2 h3 w
def ref_Up.f (a b c : Int) : Option (Int × Int) := byo a b c true
theorem ref_Up.calls (a0 a1 a2 : Int) (r1 r2 : Int) (w : World) (h : ref_Up.f a0 a1 a2 = some (r1, r2)) :
    Calls Try.prog 29 #[.int .i64 a0, .int .i64 a1, .int .i64 a2] w fun e w' => e = .returned (.tuple #[.int .i64 r1, .int .i64 r2]) ∧ Below w.heap.size w w' := by
  obtain ⟨h1, h2, h3, rfl, rfl⟩ := byo_of h
  exact up_any a0 a1 a2 h1 h2 h3 w
end Go.Proofs.Ytbeiphfmdmccmaa.P
