/-
  The reference's numbers: the contract of Num (countinghouseref01).
-/
import Derived.Test.YtbeiphfmdmccmaaR2
namespace Go.Proofs.Ytbeiphfmdmccmaa.A
set_option linter.unusedVariables false
set_option linter.unusedSimpArgs false
open Go.RowKit

/-- a number with a sign, as 64 bits, or too great (10) -/
def fit (v : Int) : Int × Int := if -9223372036854775808 ≤ v ∧ v ≤ 9223372036854775807 then (v, 0) else (0, 10)
def sval (s : Bool) (n : Nat) : Int := if s then -(n : Int) else n

theorem num_over {s : Bool} {n k : Nat} (hk : 64 ≤ k) (hb : n.testBit k = true) : fit (sval s n) = (0, 10) := by
  have h1 : 2 ^ k ≤ n := Nat.ge_two_pow_of_testBit hb
  have h2 : (2 : Nat) ^ 64 ≤ 2 ^ k := Nat.pow_le_pow_right (by omega) hk
  unfold fit
  rw [if_neg]
  unfold sval
  cases s <;> simp <;> omega
theorem div_bit (n k : Nat) : n / 2 ^ k = 2 * (n / 2 ^ (k + 1)) + (n.testBit k).toNat := by
  rw [Nat.pow_succ, ← Nat.div_div_eq_div_mul, Nat.toNat_testBit]
  omega

/-- what the loop knows with k places still to come -/
def NumInv (n k u : Nat) : Prop := u = n / 2 ^ k ∧ n < 2 ^ max k 64
theorem NumInv.start {n : Nat} (h : n < 2 ^ 192) : NumInv n 192 0 := ⟨(Nat.div_eq_of_lt h).symm, h⟩
theorem NumInv.le {n k u : Nat} (h : NumInv n k u) : u ≤ 18446744073709551615 := by
  obtain ⟨rfl, h2⟩ := h
  by_cases h64 : 64 ≤ k
  · rw [Nat.max_eq_left h64] at h2
    rw [Nat.div_eq_of_lt h2]
    omega
  · rw [Nat.max_eq_right (by omega)] at h2
    have := Nat.div_le_self n (2 ^ k)
    omega
theorem NumInv.step {n k u : Nat} (h : NumInv n (k + 1) u) (hb : n.testBit k = true → k < 64) : NumInv n k (2 * u + (n.testBit k).toNat) := by
  obtain ⟨rfl, h2⟩ := h
  refine ⟨(div_bit n k).symm, ?_⟩
  by_cases h64 : 64 ≤ k
  · have hf : n.testBit k = false := by
      cases hbb : n.testBit k with
      | false => rfl
      | true => exact absurd (hb hbb) (by omega)
    rw [Nat.max_eq_left (by omega)] at h2 ⊢
    have e := div_bit n k
    rw [Nat.div_eq_of_lt h2, hf] at e
    exact (Nat.div_eq_zero_iff_lt (Nat.pos_of_ne_zero (by simp))).1 (by simpa using e)
  · rw [Nat.max_eq_right (by omega)] at h2 ⊢
    exact h2

set_option maxHeartbeats 2000000 in
set_option maxRecDepth 100000 in
theorem ref_Num (s : Bool) (n : Nat) (hn : n < 2 ^ 192) (w : World) : Calls Try.prog 47 #[.agg (wh s n)] w fun e w' => e = .returned (.tuple #[.int .i64 (fit (sval s n)).1, .int .i64 (fit (sval s n)).2]) ∧ Below w.heap.size w w' := by
  have T := AsideA.mk (NumInv.start hn)
  clear hn
  go_enter Try.func47, Try.ntmps47
  go_wp2_with (first | (refine box_new 59 (.tmp 0) rfl rfl _ rfl (wh s n) rfl ?_; intro g1 w1 N1))
  have B1 := AsideA.mk N1.blk
  have BB := AsideA.mk (below_new (Below.refl _ _) N1)
  clear N1
  go_loop [4, 5] (fun c i => ∃ k u : Nat, k ≤ 192 ∧ i = .int .i64 ((k : Int) - 1) ∧ c = .int .u64 u ∧ AsideA (NumInv n k u)) (fun _ i => (intOf i + 1).toNat)
  case atStart => exact ⟨192, 0, by omega, rfl, rfl, T⟩
  case round =>
    obtain ⟨k, u, hk, rfl, rfl, S⟩ := hrel
    cases k with
    | zero =>
      have h0 : u = n := by have := S.out.1; simpa using this
      subst h0
      have hle := S.out.le
      have x0 : w1.cell? ⟨g1, 0, none⟩ = some (.bool s) := (blk_cell B1.out 0).trans (wh_zero s u)
      cases s
      · by_cases h63 : (u : Int) ≤ 9223372036854775807
        · have d1 : decide (9223372036854775808 ≤ (u : Int)) = false := decide_eq_false (by omega)
          clear hle
          go_wp2
          go_ret2
          have F : fit (sval false u) = ((u : Int), 0) := by unfold fit sval; rw [if_pos (by simp; omega)]; simp
          rw [F]
          exact ⟨rfl, BB.out⟩
        · have d1 : decide (9223372036854775808 ≤ (u : Int)) = true := decide_eq_true (by omega)
          clear hle h63
          go_wp2
          go_ret2
          have F : fit (sval false u) = (0, 10) := by
            have := of_decide_eq_true d1
            unfold fit sval; rw [if_neg (by simp; omega)]
          rw [F]
          exact ⟨rfl, BB.out⟩
      · by_cases h63 : (u : Int) ≤ 9223372036854775808
        · have d1 : decide ((u : Int) ≤ 9223372036854775808) = true := decide_eq_true h63
          clear hle h63
          go_wp2
          go_ret2
          have F : fit (sval true u) = (-(u : Int), 0) := by
            have := of_decide_eq_true d1
            unfold fit sval; rw [if_pos (by simp; omega)]; simp
          rw [F]
          rw [neg64_u64 u (of_decide_eq_true d1)]
          exact ⟨rfl, BB.out⟩
        · have d1 : decide ((u : Int) ≤ 9223372036854775808) = false := decide_eq_false h63
          have d2 : decide (9223372036854775808 ≤ (u : Int)) = true := decide_eq_true (by omega)
          clear hle h63
          go_wp2
          go_ret2
          have F : fit (sval true u) = (0, 10) := by
            have := of_decide_eq_true d2
            have := of_decide_eq_false d1
            unfold fit sval; rw [if_neg (by simp; omega)]
          rw [F]
          exact ⟨rfl, BB.out⟩
    | succ k =>
      have hlt : k < 192 := by omega
      have x1 : w1.cell? ⟨g1, 1 + k, none⟩ = some (.bool (n.testBit k)) := (blk_cell B1.out _).trans (wh_get s n hlt)
      have e1 : ((k + 1 : Nat) : Int) - 1 = k := by omega
      rw [e1]
      clear e1
      cases hb : n.testBit k
      · rw [hb] at x1
        have S' := AsideA.mk (S.out.step (by rw [hb]; intro h; cases h))
        rw [hb] at S'
        have hle : 2 * u ≤ 18446744073709551615 := by simpa using S'.out.le
        clear S hb
        go_wp2
        exact ⟨⟨k, 2 * u, by omega, rfl, by go_num, S'⟩, by simp [intOf]⟩
      · rw [hb] at x1
        by_cases h64 : k < 64
        · have S' := AsideA.mk (S.out.step (fun _ => h64))
          rw [hb] at S'
          have hle : 2 * u + 1 ≤ 18446744073709551615 := by simpa using S'.out.le
          clear S hb
          go_wp2
          exact ⟨⟨k, 2 * u + 1, by omega, rfl, by go_num, S'⟩, by simp [intOf]⟩
        · have ho := AsideA.mk (num_over (s := s) (show 64 ≤ k by omega) hb)
          clear S hb
          go_wp2
          go_ret2
          rw [ho.out]
          exact ⟨rfl, BB.out⟩
end Go.Proofs.Ytbeiphfmdmccmaa.A
