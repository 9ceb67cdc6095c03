/-
  The reference's by, whatever numbers, Down and Up (countinghouseref01).
-/
import Derived.Test.YtbeiphfmdmccmaaR9
namespace Go.Proofs.Ytbeiphfmdmccmaa.A
set_option linter.unusedVariables false
set_option linter.unusedSimpArgs false
open Go.RowKit

def byf (a num den : Int) (up : Bool) : Int × Int :=
  if a < 0 ∨ num < 0 ∨ den < 1 then (0, 1) else fit ((a.toNat * num.toNat / den.toNat + (if up = true ∧ a.toNat * num.toNat % den.toNat ≠ 0 then 1 else 0) : Nat) : Int)

set_option maxHeartbeats 1000000 in
set_option maxRecDepth 100000 in
theorem by_bad (a num den : Int) (up : Bool) (h : a < 0 ∨ num < 0 ∨ den < 1) (w : World) : Calls Try.prog 55 #[.int .i64 a, .int .i64 num, .int .i64 den, .bool up] w fun e w' => e = .returned (.tuple #[.int .i64 0, .int .i64 1]) ∧ Below w.heap.size w w' := by
  have BB := AsideA.mk (Below.refl w.heap.size w)
  by_cases h1 : a < 0
  · have d1 : decide (a < 0) = true := decide_eq_true h1
    clear h h1
    go_enter Try.func55, Try.ntmps55
    go_wp2
    go_ret2
    exact ⟨rfl, BB.out⟩
  · have d1 : decide (a < 0) = false := decide_eq_false h1
    by_cases h2 : num < 0
    · have d2 : decide (num < 0) = true := decide_eq_true h2
      clear h h1 h2
      go_enter Try.func55, Try.ntmps55
      go_wp2
      go_ret2
      exact ⟨rfl, BB.out⟩
    · have d2 : decide (num < 0) = false := decide_eq_false h2
      have d3 : decide (den < 1) = true := decide_eq_true (by omega)
      clear h h1 h2
      go_enter Try.func55, Try.ntmps55
      go_wp2
      go_ret2
      exact ⟨rfl, BB.out⟩

theorem by_any (a num den : Int) (ha : in64 a) (hn : in64 num) (hd : in64 den) (up : Bool) (w : World) : Calls Try.prog 55 #[.int .i64 a, .int .i64 num, .int .i64 den, .bool up] w fun e w' => e = .returned (.tuple #[.int .i64 (byf a num den up).1, .int .i64 (byf a num den up).2]) ∧ Below w.heap.size w w' := by
  by_cases h : a < 0 ∨ num < 0 ∨ den < 1
  · rw [show byf a num den up = (0, 1) by unfold byf; rw [if_pos h]]
    exact by_bad a num den up h w
  · have ea : ((a.toNat : Nat) : Int) = a := by omega
    have en : ((num.toNat : Nat) : Int) = num := by omega
    have ed : ((den.toNat : Nat) : Int) = den := by omega
    have h1 := ha.2
    have h2 := hn.2
    have h3 := hd.2
    have hf : byf a num den up = fit ((a.toNat * num.toNat / den.toNat + (if up = true ∧ a.toNat * num.toNat % den.toNat ≠ 0 then 1 else 0) : Nat) : Int) := by unfold byf; rw [if_neg h]
    rw [hf]
    generalize a.toNat = A at *
    generalize num.toNat = N at *
    generalize den.toNat = D at *
    subst ea en ed
    cases up with
    | false =>
      rw [if_neg (by simp), Nat.add_zero]
      exact by_down A N D (by omega) (by omega) (by omega) (by omega) w
    | true =>
      by_cases hr : A * N % D = 0
      · rw [if_neg (by simp [hr]), Nat.add_zero]
        exact by_up0 A N D (by omega) (by omega) (by omega) (by omega) hr w
      · rw [if_pos ⟨rfl, hr⟩]
        exact by_up1 A N D (by omega) (by omega) (by omega) (by omega) hr w

set_option maxHeartbeats 1000000 in
set_option maxRecDepth 100000 in
theorem down_any (a num den : Int) (ha : in64 a) (hn : in64 num) (hd : in64 den) (w : World) : Calls Try.prog 27 #[.int .i64 a, .int .i64 num, .int .i64 den] w fun e w' => e = .returned (.tuple #[.int .i64 (byf a num den false).1, .int .i64 (byf a num den false).2]) ∧ Below w.heap.size w w' := by
  have B := AsideA.mk (by_any a num den ha hn hd false)
  clear ha hn hd
  generalize byf a num den false = r at *
  go_enter Try.func27, Try.ntmps27
  go_wp2_with (go_at_call 55; refine (B.out _).mono ?_; rintro e wq ⟨rfl, hq⟩; have BN := AsideA.mk hq; clear hq)
  go_ret2
  exact ⟨rfl, BN.out⟩
set_option maxHeartbeats 1000000 in
set_option maxRecDepth 100000 in
theorem up_any (a num den : Int) (ha : in64 a) (hn : in64 num) (hd : in64 den) (w : World) : Calls Try.prog 29 #[.int .i64 a, .int .i64 num, .int .i64 den] w fun e w' => e = .returned (.tuple #[.int .i64 (byf a num den true).1, .int .i64 (byf a num den true).2]) ∧ Below w.heap.size w w' := by
  have B := AsideA.mk (by_any a num den ha hn hd true)
  clear ha hn hd
  generalize byf a num den true = r at *
  go_enter Try.func29, Try.ntmps29
  go_wp2_with (go_at_call 55; refine (B.out _).mono ?_; rintro e wq ⟨rfl, hq⟩; have BN := AsideA.mk hq; clear hq)
  go_ret2
  exact ⟨rfl, BN.out⟩
end Go.Proofs.Ytbeiphfmdmccmaa.A
