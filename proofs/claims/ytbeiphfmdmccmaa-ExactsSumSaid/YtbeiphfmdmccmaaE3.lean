/-
  The program's by, Down and Up (exacts): floored, or raised, or too great.
-/
import Derived.Test.YtbeiphfmdmccmaaD1
namespace Go.Proofs.Ytbeiphfmdmccmaa.A
set_option linter.unusedVariables false
set_option linter.unusedSimpArgs false
open Go.RowKit

def bx (a num den : Int) : Int × Int × Int :=
  if a < 0 ∨ num < 0 ∨ den < 1 then (0, 0, 1)
  else if (a.toNat * num.toNat / den.toNat : Nat) ≤ 9223372036854775807 then (((a.toNat * num.toNat / den.toNat : Nat) : Int), ((a.toNat * num.toNat % den.toNat : Nat) : Int), 0) else (0, 0, 10)

set_option maxHeartbeats 1000000 in
set_option maxRecDepth 100000 in
theorem xby_bad (a num den : Int) (h : a < 0 ∨ num < 0 ∨ den < 1) (w : World) : Calls Try.prog 54 #[.int .i64 a, .int .i64 num, .int .i64 den] w fun e w' => e = .returned (.tuple #[.int .i64 0, .int .u64 0, .int .i64 1]) ∧ Below w.heap.size w w' := by
  have BB := AsideA.mk (Below.refl w.heap.size w)
  by_cases h1 : a < 0
  · have d1 : decide (a < 0) = true := decide_eq_true h1
    clear h h1
    go_enter Try.func54, Try.ntmps54
    go_wp2
    go_ret3
    exact ⟨rfl, BB.out⟩
  · have d1 : decide (a < 0) = false := decide_eq_false h1
    by_cases h2 : num < 0
    · have d2 : decide (num < 0) = true := decide_eq_true h2
      clear h h1 h2
      go_enter Try.func54, Try.ntmps54
      go_wp2
      go_ret3
      exact ⟨rfl, BB.out⟩
    · have d2 : decide (num < 0) = false := decide_eq_false h2
      have d3 : decide (den < 1) = true := decide_eq_true (by omega)
      clear h h1 h2
      go_enter Try.func54, Try.ntmps54
      go_wp2
      go_ret3
      exact ⟨rfl, BB.out⟩

set_option maxHeartbeats 2000000 in
set_option maxRecDepth 100000 in
theorem xby_good (A N D : Nat) (hA : (A : Int) ≤ 9223372036854775807) (hN : (N : Int) ≤ 9223372036854775807) (hD : (D : Int) ≤ 9223372036854775807) (h0 : 0 < D) (w : World) :
    Calls Try.prog 54 #[.int .i64 (A : Int), .int .i64 (N : Int), .int .i64 (D : Int)] w fun e w' => e = .returned (.tuple #[.int .i64 (bx A N D).1, .int .u64 (bx A N D).2.1, .int .i64 (bx A N D).2.2]) ∧ Below w.heap.size w w' := by
  have BB := AsideA.mk (Below.refl w.heap.size w)
  have d1 : decide ((A : Int) < 0) = false := decide_eq_false (by omega)
  have d2 : decide ((N : Int) < 0) = false := decide_eq_false (by omega)
  have d3 : decide ((D : Int) < 1) = false := decide_eq_false (by omega)
  have MU := AsideA.mk (xMul64 A N (by omega) (by omega))
  have hB : bx A N D = if A * N / D ≤ 9223372036854775807 then (((A * N / D : Nat) : Int), ((A * N % D : Nat) : Int), 0) else (0, 0, 10) := by
    unfold bx
    rw [if_neg (by omega)]
    simp only [Int.toNat_natCast]
  have DV := fun (h : A * N / 18446744073709551616 < D) => xDiv64 (A * N / 18446744073709551616) (A * N % 18446744073709551616) D (Nat.mod_lt _ (by omega)) h (by omega)
  rw [show A * N / 18446744073709551616 * 18446744073709551616 + A * N % 18446744073709551616 = A * N by rw [Nat.mul_comm]; exact Nat.div_add_mod _ _] at DV
  generalize A * N = M at *
  rw [hB]
  clear hB
  by_cases hi : M / 18446744073709551616 < D
  · have DV' := AsideA.mk (DV hi)
    have hg : decide ((D : Int) ≤ ((M / 18446744073709551616 : Nat) : Int)) = false := decide_eq_false (by omega)
    have hg' : ¬ D ≤ M / 18446744073709551616 := by omega
    clear DV
    by_cases hq : M / D ≤ 9223372036854775807
    · rw [if_pos hq]
      have hq' : ((M / D : Nat) : Int) ≤ 9223372036854775807 := by omega
      clear hq hi
      generalize M / 18446744073709551616 = x at *
      generalize M % 18446744073709551616 = y at *
      generalize M / D = q at *
      generalize M % D = r at *
      go_enter Try.func54, Try.ntmps54
      go_wp2_with (first | (go_at_call 30; refine (MU.out _).mono ?_; rintro e wq ⟨rfl, hq⟩; have BN := AsideA.mk (below_call BB.out hq); clear hq BB; have BB := BN; clear BN) | (go_at_call 66; refine (DV'.out _).mono ?_; rintro e wq ⟨rfl, hq⟩; have BN := AsideA.mk (below_call BB.out hq); clear hq BB; have BB := BN; clear BN))
      go_ret3
      exact ⟨rfl, BB.out⟩
    · rw [if_neg hq]
      have hq' : decide (9223372036854775807 < ((M / D : Nat) : Int)) = true := decide_eq_true (by omega)
      clear hq hi
      generalize M / 18446744073709551616 = x at *
      generalize M % 18446744073709551616 = y at *
      generalize M / D = q at *
      generalize M % D = r at *
      go_enter Try.func54, Try.ntmps54
      go_wp2_with (first | (go_at_call 30; refine (MU.out _).mono ?_; rintro e wq ⟨rfl, hq⟩; have BN := AsideA.mk (below_call BB.out hq); clear hq BB; have BB := BN; clear BN) | (go_at_call 66; refine (DV'.out _).mono ?_; rintro e wq ⟨rfl, hq⟩; have BN := AsideA.mk (below_call BB.out hq); clear hq BB; have BB := BN; clear BN))
      go_ret3
      exact ⟨rfl, BB.out⟩
  · rw [if_neg (by
      have : 18446744073709551616 ≤ M / D := by
        rw [Nat.le_div_iff_mul_le h0]
        have := Nat.div_mul_le_self M 18446744073709551616
        have := Nat.mul_le_mul_right 18446744073709551616 (Nat.le_of_not_lt hi)
        omega
      omega)]
    have hg' : D ≤ M / 18446744073709551616 := by omega
    clear hi DV
    generalize M / 18446744073709551616 = x at *
    generalize M % 18446744073709551616 = y at *
    go_enter Try.func54, Try.ntmps54
    go_wp2_with (first | (go_at_call 30; refine (MU.out _).mono ?_; rintro e wq ⟨rfl, hq⟩; have BN := AsideA.mk (below_call BB.out hq); clear hq BB; have BB := BN; clear BN))
    go_ret3
    exact ⟨rfl, BB.out⟩
end Go.Proofs.Ytbeiphfmdmccmaa.A
