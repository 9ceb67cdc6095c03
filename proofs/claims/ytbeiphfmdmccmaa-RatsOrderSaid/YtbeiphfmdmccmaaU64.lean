/-
  Numbers of 64 bits as the walk spells them: the complement, the negative. No program in sight.
-/
import Derived.WalkKit
import Derived.Laws.Bits64
import Derived.Laws.Bits64b
namespace Go.Proofs.Ytbeiphfmdmccmaa.A
set_option linter.unusedVariables false
set_option linter.unusedSimpArgs false

theorem u64_max : IntKind.u64.max = 18446744073709551615 := by decide
theorem not_u64 (u : Nat) (hu : u < 18446744073709551616) : bits .xor .u64 IntKind.u64.max (u : Int) = ((18446744073709551615 - u : Nat) : Int) := by
  rw [u64_max]
  have h := bits_xor_u64_nat 18446744073709551615 u (by omega) hu
  rw [show ((18446744073709551615 : Nat) : Int) = 18446744073709551615 from rfl] at h
  rw [h]
  congr 1
  apply Nat.eq_of_testBit_eq
  intro i
  rw [Nat.testBit_xor, show (18446744073709551615 : Nat) = 2 ^ 64 - 1 by decide, Nat.testBit_two_pow_sub_one, show 2 ^ 64 - 1 - u = 2 ^ 64 - (u + 1) by omega, Nat.testBit_two_pow_sub_succ (by omega)]
  by_cases h : i < 64
  · simp [h]
  · simp only [h, decide_false, Bool.false_and, Bool.false_bne]
    exact Nat.testBit_lt_two_pow (Nat.lt_of_lt_of_le (show u < 2 ^ 64 by omega) (Nat.pow_le_pow_right (by omega) (by omega)))
theorem neg_u64 (u : Nat) (hu : u < 18446744073709551616) : IntKind.u64.wrap (bits .xor .u64 IntKind.u64.max (u : Int) + 1) = (((18446744073709551616 - u) % 18446744073709551616 : Nat) : Int) := by
  rw [not_u64 u hu, IntKind.wrap_u64]
  omega
theorem abs_u64 (a : Int) (h1 : -9223372036854775808 ≤ a) (h2 : a < 0) : IntKind.u64.wrap (bits .xor .u64 IntKind.u64.max (IntKind.u64.wrap a) + 1) = (a.natAbs : Int) := by
  have e : IntKind.u64.wrap a = ((18446744073709551616 - a.natAbs : Nat) : Int) := by rw [IntKind.wrap_u64]; omega
  rw [e, neg_u64 _ (by omega)]
  omega
theorem pos_u64 (a : Int) (h1 : 0 ≤ a) (h2 : a ≤ 9223372036854775807) : IntKind.u64.wrap a = (a.natAbs : Int) := by rw [IntKind.wrap_u64]; omega
theorem neg64_u64 (u : Nat) (hu : (u : Int) ≤ 9223372036854775808) : Go.RowKit.wrap64 (IntKind.u64.wrap (bits .xor .u64 IntKind.u64.max (u : Int) + 1)) = -(u : Int) := by
  rw [neg_u64 u (by omega)]
  unfold Go.RowKit.wrap64
  omega
theorem and_one (u : Nat) (hu : u < 18446744073709551616) : bits .and .u64 (u : Int) 1 = ((u % 2 : Nat) : Int) := by
  have h := bits_and_u64_nat u 1 hu (by omega)
  rw [show ((1 : Nat) : Int) = 1 from rfl] at h
  rw [h, Nat.and_one_is_mod]
theorem bit_u64 (u k : Nat) (hu : u < 18446744073709551616) : (bits .and .u64 ((u : Int) / 2 ^ k) 1 == 1) = u.testBit k := by
  have e : ((u : Int) / 2 ^ k) = ((u / 2 ^ k : Nat) : Int) := by push_cast; rfl
  rw [e, and_one _ (Nat.lt_of_le_of_lt (Nat.div_le_self _ _) hu), Nat.testBit_eq_decide_div_mod_eq, Bool.eq_iff_iff]
  simp only [beq_iff_eq, decide_eq_true_eq]
  omega
end Go.Proofs.Ytbeiphfmdmccmaa.A
