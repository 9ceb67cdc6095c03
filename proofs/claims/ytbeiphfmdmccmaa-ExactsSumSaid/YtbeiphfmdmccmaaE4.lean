/-
  The program's Down and Up (exacts) are the reference's.
-/
import Derived.Test.YtbeiphfmdmccmaaE3
namespace Go.Proofs.Ytbeiphfmdmccmaa.A
set_option linter.unusedVariables false
set_option linter.unusedSimpArgs false
open Go.RowKit

theorem xby (a num den : Int) (ha : in64 a) (hn : in64 num) (hd : in64 den) (w : World) :
    Calls Try.prog 54 #[.int .i64 a, .int .i64 num, .int .i64 den] w fun e w' => e = .returned (.tuple #[.int .i64 (bx a num den).1, .int .u64 (bx a num den).2.1, .int .i64 (bx a num den).2.2]) ∧ Below w.heap.size w w' := by
  by_cases h : a < 0 ∨ num < 0 ∨ den < 1
  · rw [show bx a num den = (0, 0, 1) by unfold bx; rw [if_pos h]]
    exact xby_bad a num den h w
  · have ea : ((a.toNat : Nat) : Int) = a := by omega
    have en : ((num.toNat : Nat) : Int) = num := by omega
    have ed : ((den.toNat : Nat) : Int) = den := by omega
    have h1 := ha.2
    have h2 := hn.2
    have h3 := hd.2
    generalize a.toNat = A at *
    generalize num.toNat = N at *
    generalize den.toNat = D at *
    subst ea en ed
    exact xby_good A N D h1 h2 h3 (by omega) w

theorem bx_down (a num den : Int) : byf a num den false = ((bx a num den).1, (bx a num den).2.2) := by
  unfold byf bx
  split
  · rfl
  · rw [if_neg (by simp), Nat.add_zero]
    generalize a.toNat * num.toNat / den.toNat = q
    split
    · rename_i h
      exact fit_in ⟨by omega, by omega⟩
    · rename_i h
      exact fit_out (fun hh => h (by have := hh.2; omega))

theorem bx_up (a num den : Int) : byf a num den true = if (bx a num den).2.2 = 0 ∧ 0 < (bx a num den).2.1 then fit ((bx a num den).1 + 1) else ((bx a num den).1, (bx a num den).2.2) := by
  unfold byf bx
  split
  · rfl
  · generalize a.toNat * num.toNat / den.toNat = q
    generalize a.toNat * num.toNat % den.toNat = r
    by_cases h : q ≤ 9223372036854775807
    · rw [if_pos h]
      by_cases hr : r = 0
      · subst hr
        simp
        exact fit_in ⟨by omega, by omega⟩
      · rw [if_pos ⟨rfl, hr⟩, if_pos ⟨rfl, by show (0 : Int) < r; omega⟩]
        congr 1
    · rw [if_neg h]
      simp only [show ¬ ((10 : Int) = 0 ∧ (0 : Int) < 0) by omega, if_false]
      split
      · exact fit_out (fun hh => by have := hh.2; omega)
      · exact fit_out (fun hh => by have := hh.2; omega)
theorem bx_in (a num den : Int) : in64 (bx a num den).1 ∧ 0 ≤ (bx a num den).2.1 := by
  unfold bx
  split
  · exact ⟨⟨by decide, by decide⟩, by decide⟩
  · generalize a.toNat * num.toNat / den.toNat = q
    generalize a.toNat * num.toNat % den.toNat = r
    split
    · rename_i h
      exact ⟨⟨by show _ ≤ (q : Int); omega, by show (q : Int) ≤ _; omega⟩, by show (0 : Int) ≤ (r : Int); omega⟩
    · exact ⟨⟨by decide, by decide⟩, by decide⟩

set_option maxHeartbeats 1000000 in
set_option maxRecDepth 100000 in
theorem xdown (a num den : Int) (ha : in64 a) (hn : in64 num) (hd : in64 den) (w : World) : Calls Try.prog 26 #[.int .i64 a, .int .i64 num, .int .i64 den] w fun e w' => e = .returned (.tuple #[.int .i64 (byf a num den false).1, .int .i64 (byf a num den false).2]) ∧ Below w.heap.size w w' := by
  have B := AsideA.mk (xby a num den ha hn hd)
  rw [bx_down]
  clear ha hn hd
  generalize bx a num den = r at *
  go_enter Try.func26, Try.ntmps26
  go_wp2_with (go_at_call 54; refine (B.out _).mono ?_; rintro e wq ⟨rfl, hq⟩; have BN := AsideA.mk hq; clear hq)
  go_ret2
  exact ⟨rfl, BN.out⟩

set_option maxHeartbeats 1000000 in
set_option maxRecDepth 100000 in
theorem xup (a num den : Int) (ha : in64 a) (hn : in64 num) (hd : in64 den) (w : World) : Calls Try.prog 28 #[.int .i64 a, .int .i64 num, .int .i64 den] w fun e w' => e = .returned (.tuple #[.int .i64 (byf a num den true).1, .int .i64 (byf a num den true).2]) ∧ Below w.heap.size w w' := by
  have B := AsideA.mk (xby a num den ha hn hd)
  have hi := bx_in a num den
  rw [bx_up]
  clear ha hn hd
  generalize bx a num den = r at *
  obtain ⟨q, l, e⟩ := r
  have AD := AsideA.mk (xadd q 1 hi.1 ⟨by decide, by decide⟩)
  simp only at hi B ⊢
  have hl := hi.2
  clear hi
  by_cases h1 : e = 0
  · subst h1
    by_cases h2 : 0 < l
    · rw [if_pos ⟨rfl, h2⟩]
      generalize fit (q + 1) = s at *
      go_enter Try.func28, Try.ntmps28
      go_wp2_with (first | (go_at_call 54; refine (B.out _).mono ?_; rintro e wq ⟨rfl, hq⟩; have BN := AsideA.mk hq; clear hq) | (go_at_call 14; refine (AD.out _).mono ?_; rintro e wp ⟨rfl, hq⟩; have BM := AsideA.mk (below_call BN.out hq); clear hq))
      go_ret2
      exact ⟨rfl, BM.out⟩
    · rw [if_neg (fun h => h2 h.2)]
      have d2 : decide (0 < l) = false := decide_eq_false h2
      go_enter Try.func28, Try.ntmps28
      go_wp2_with (go_at_call 54; refine (B.out _).mono ?_; rintro e wq ⟨rfl, hq⟩; have BN := AsideA.mk hq; clear hq)
      go_ret2
      exact ⟨rfl, BN.out⟩
  · rw [if_neg (fun h => h1 h.1)]
    have d1 : (e == 0) = false := beq_eq_false_iff_ne.mpr h1
    clear h1
    go_enter Try.func28, Try.ntmps28
    go_wp2_with (go_at_call 54; refine (B.out _).mono ?_; rintro e wq ⟨rfl, hq⟩; have BN := AsideA.mk hq; clear hq)
    go_ret2
    exact ⟨rfl, BN.out⟩
end Go.Proofs.Ytbeiphfmdmccmaa.A
