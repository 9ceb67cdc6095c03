/-
  The program's Add, Sub, size and Mul (exacts): exact, or too great (10).
-/
import Derived.Test.YtbeiphfmdmccmaaR10
import Derived.Lib.Mul64
namespace Go.Proofs.Ytbeiphfmdmccmaa.A
set_option linter.unusedVariables false
set_option linter.unusedSimpArgs false
open Go.RowKit

theorem fit_in {v : Int} (h : in64 v) : fit v = (v, 0) := if_pos h
theorem fit_out {v : Int} (h : ¬ in64 v) : fit v = (0, 10) := if_neg h

set_option maxHeartbeats 1000000 in
set_option maxRecDepth 100000 in
theorem xadd (a b : Int) (ha : in64 a) (hb : in64 b) (w : World) : Calls Try.prog 14 #[.int .i64 a, .int .i64 b] w fun e w' => e = .returned (.tuple #[.int .i64 (fit (a + b)).1, .int .i64 (fit (a + b)).2]) ∧ Below w.heap.size w w' := by
  have BB := AsideA.mk (Below.refl w.heap.size w)
  have HA := AsideA.mk (And.intro ha hb)
  clear ha hb
  have key : ∀ s : Int, wrap64 (a + b) = s → (decide (a < s) = decide (0 < b) ∧ fit (a + b) = (s, 0)) ∨ ((decide (a < s) == decide (0 < b)) = false ∧ fit (a + b) = (0, 10)) := by
    rintro s rfl
    obtain ⟨⟨h1, h2⟩, h3, h4⟩ := HA.out
    by_cases hin : in64 (a + b)
    · left
      have e : wrap64 (a + b) = a + b := by obtain ⟨h5, h6⟩ := hin; unfold wrap64; omega
      rw [e, fit_in hin]
      exact ⟨decide_eq_decide.2 (by omega), rfl⟩
    · right
      rw [fit_out hin]
      refine ⟨?_, rfl⟩
      unfold in64 at hin
      by_cases hb : 0 < b
      · rw [decide_eq_true hb, decide_eq_false (by unfold wrap64; omega)]; rfl
      · rw [decide_eq_false hb, decide_eq_true (by unfold wrap64; omega)]; rfl
  have K := AsideA.mk key
  clear key
  go_enter Try.func14, Try.ntmps14
  go_upto_region 2 with (fail)
  generalize hs : wrap64 (a + b) = s
  rcases K.out s hs with ⟨h1, h2⟩ | ⟨h1, h2⟩
  · have H2 := AsideA.mk h2
    clear h2 hs HA K
    cases hq : decide (0 < b)
    all_goals
      rw [hq] at h1
      go_wp2
      go_ret2
      rw [H2.out]
      exact ⟨rfl, BB.out⟩
  · have H2 := AsideA.mk h2
    clear h2 hs HA K
    go_wp2
    go_ret2
    rw [H2.out]
    exact ⟨rfl, BB.out⟩

set_option maxHeartbeats 1000000 in
set_option maxRecDepth 100000 in
theorem xsub (a b : Int) (ha : in64 a) (hb : in64 b) (w : World) : Calls Try.prog 17 #[.int .i64 a, .int .i64 b] w fun e w' => e = .returned (.tuple #[.int .i64 (fit (a - b)).1, .int .i64 (fit (a - b)).2]) ∧ Below w.heap.size w w' := by
  have BB := AsideA.mk (Below.refl w.heap.size w)
  have HA := AsideA.mk (And.intro ha hb)
  clear ha hb
  have key : ∀ s : Int, wrap64 (a - b) = s → (decide (s < a) = decide (0 < b) ∧ fit (a - b) = (s, 0)) ∨ ((decide (s < a) == decide (0 < b)) = false ∧ fit (a - b) = (0, 10)) := by
    rintro s rfl
    obtain ⟨⟨h1, h2⟩, h3, h4⟩ := HA.out
    by_cases hin : in64 (a - b)
    · left
      have e : wrap64 (a - b) = a - b := by obtain ⟨h5, h6⟩ := hin; unfold wrap64; omega
      rw [e, fit_in hin]
      exact ⟨decide_eq_decide.2 (by omega), rfl⟩
    · right
      rw [fit_out hin]
      refine ⟨?_, rfl⟩
      unfold in64 at hin
      by_cases hb : 0 < b
      · rw [decide_eq_true hb, decide_eq_false (by unfold wrap64; omega)]; rfl
      · rw [decide_eq_false hb, decide_eq_true (by unfold wrap64; omega)]; rfl
  have K := AsideA.mk key
  clear key
  go_enter Try.func17, Try.ntmps17
  go_upto_region 2 with (fail)
  generalize hs : wrap64 (a - b) = s
  rcases K.out s hs with ⟨h1, h2⟩ | ⟨h1, h2⟩
  · have H2 := AsideA.mk h2
    clear h2 hs HA K
    cases hq : decide (0 < b)
    all_goals
      rw [hq] at h1
      go_wp2
      go_ret2
      rw [H2.out]
      exact ⟨rfl, BB.out⟩
  · have H2 := AsideA.mk h2
    clear h2 hs HA K
    go_wp2
    go_ret2
    rw [H2.out]
    exact ⟨rfl, BB.out⟩

theorem xsize (a : Int) (ha : in64 a) (w : World) : Calls Try.prog 50 #[.int .i64 a] w fun e w' => e = .returned (.int .u64 (a.natAbs : Int)) ∧ Below w.heap.size w w' := by
  have BB := AsideA.mk (Below.refl w.heap.size w)
  by_cases h : a < 0
  · have E : AsideA (IntKind.u64.wrap (-IntKind.u64.wrap a) = (a.natAbs : Int)) := ⟨by have := ha.1; rw [IntKind.wrap_u64, IntKind.wrap_u64]; omega⟩
    have d1 : decide (a < 0) = true := decide_eq_true h
    clear ha h
    go_enter Try.func50, Try.ntmps50
    go_wp2
    go_ret
    exact ⟨by rw [← E.out]; rfl, BB.out⟩
  · have E : AsideA (IntKind.u64.wrap a = (a.natAbs : Int)) := ⟨by have := ha.2; rw [IntKind.wrap_u64]; omega⟩
    have d1 : decide (a < 0) = false := decide_eq_false h
    clear ha h
    go_enter Try.func50, Try.ntmps50
    go_wp2
    go_ret
    exact ⟨by rw [← E.out]; rfl, BB.out⟩
end Go.Proofs.Ytbeiphfmdmccmaa.A
