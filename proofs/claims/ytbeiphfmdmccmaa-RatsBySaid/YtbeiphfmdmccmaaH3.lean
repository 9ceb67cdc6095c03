/-
  The rates' functions, the reference's: what the printed forms say, in plain words.
-/
import Derived.Test.YtbeiphfmdmccmaaH2
import Derived.Test.YtbeiphfmdmccmaaPx4
namespace Go.Proofs.Ytbeiphfmdmccmaa.P
set_option linter.unusedVariables false
set_option linter.unusedSimpArgs false
open Go.RowKit Go.Proofs.Ytbeiphfmdmccmaa.A Go.Proofs.YtbeiphfmdmccmaaW.PrintWords

theorem gd_self (a : Int) (ha : 0 ≤ a) : gd a a = a := by
  unfold gd
  rw [Nat.gcd_self]
  omega
theorem gd_sub (a b m : Int) (hb : 0 ≤ b) (hm : 0 ≤ m) (h : 0 ≤ a - b * m) : gd (a - b * m) b = gd a b := by
  unfold gd
  have h2 : 0 ≤ b * m := Int.mul_nonneg hb hm
  obtain ⟨B, rfl⟩ := Int.eq_ofNat_of_zero_le hb
  obtain ⟨M, rfl⟩ := Int.eq_ofNat_of_zero_le hm
  obtain ⟨A, hA⟩ := Int.eq_ofNat_of_zero_le h
  have e : a.toNat = A + B * M := by
    have : (a : Int) = ((A + B * M : Nat) : Int) := by rw [Int.natCast_add, Int.natCast_mul]; omega
    rw [this, Int.toNat_natCast]
  rw [e, hA, Int.toNat_natCast, Int.toNat_natCast]
  congr 1
  rw [Nat.mul_comm, Nat.gcd_add_mul_right_left]
theorem step_le (a b : Int) (ha : in64 a) (hb : 1 ≤ b) (h : b < a) : ∃ m, 0 ≤ m ∧ b * m ≤ a - 1 ∧ 1 ≤ b * m ∧ wrap64 (a - wrap64 (b * mx 1 (wrap64 (wrap64 (Int.tdiv a b) - 1)))) = a - b * m := by
  have h1 : wrap64 (Int.tdiv a b) = a / b := quo_in (by omega) hb ha
  have h2 : 1 ≤ a / b := by rw [Int.le_ediv_iff_mul_le (by omega)]; omega
  have h3 : a / b ≤ a := Int.ediv_le_self _ (by omega)
  have h4 := ha.2
  have h5 : wrap64 (a / b - 1) = a / b - 1 := by unfold wrap64; omega
  have h6 : b * (a / b) ≤ a := Int.mul_ediv_self_le (by omega)
  rw [h1, h5]
  refine ⟨mx 1 (a / b - 1), ?_⟩
  have hm : b * mx 1 (a / b - 1) ≤ a - 1 ∧ 1 ≤ b * mx 1 (a / b - 1) ∧ 0 ≤ mx 1 (a / b - 1) := by
    unfold mx
    split
    · have e : b * (a / b - 1) = b * (a / b) - b := by rw [Int.mul_sub, Int.mul_one]
      have : 1 * 1 ≤ b * (a / b - 1) := Int.mul_le_mul hb (by omega) (by omega) (by omega)
      exact ⟨by omega, by omega, by omega⟩
    · rw [Int.mul_one]
      exact ⟨by omega, by omega, by omega⟩
  obtain ⟨m1, m2, m3⟩ := hm
  refine ⟨m3, m1, m2, ?_⟩
  generalize b * mx 1 (a / b - 1) = v at *
  have e : wrap64 v = v := by unfold wrap64; omega
  rw [e]
  unfold wrap64
  omega

theorem common_eq : ∀ (k : Nat) (a b : Int), 1 ≤ a → 1 ≤ b → in64 a → in64 b → a.toNat + b.toNat ≤ k → countinghouseref02_common.l0 (k + 1) a b = some (gd a b)
  | 0, a, b, ha, hb, _, _, h => by omega
  | k + 1, a, b, ha, hb, ia, ib, h => by
    rw [countinghouseref02_common.l0]
    by_cases he : a = b
    · subst he
      rw [if_pos rfl, gd_self a (by omega)]
    · rw [if_neg he]
      by_cases hgt : a > b
      · rw [if_pos hgt, if_neg (by omega)]
        obtain ⟨m, m0, m1, m2, e⟩ := step_le a b ia hb (by omega)
        rw [e, common_eq k (a - b * m) b (by omega) hb ⟨by omega, by have := ia.2; omega⟩ ib (by omega), gd_sub a b m (by omega) m0 (by omega)]
      · rw [if_neg hgt, if_neg (by omega)]
        obtain ⟨m, m0, m1, m2, e⟩ := step_le b a ib ha (by omega)
        rw [e, common_eq k a (b - a * m) ha (by omega) ia ⟨by omega, by have := ib.2; omega⟩ (by omega), gd_comm a (b - a * m), gd_sub b a m (by omega) m0 (by omega), gd_comm]

/-- rounds that are enough -/
def enough (a b : Int) : Nat := a.toNat + b.toNat + 1
theorem common_of (k : Nat) (a b : Int) (ha : 1 ≤ a) (hb : 1 ≤ b) (ia : in64 a) (ib : in64 b) (h : enough a b ≤ k) : countinghouseref02_common.f k a b = some (gd a b) := by
  unfold enough at h
  obtain ⟨j, rfl⟩ : ∃ j, k = j + 1 := ⟨k - 1, by omega⟩
  exact common_eq j a b ha hb ia ib (by omega)

theorem ref_of_eq (k : Nat) (a b : Int) (ia : in64 a) (ib : in64 b) (h : enough a b ≤ k) : countinghouseref02_Of.f (k + 1) a b = some (ratOf a b) := by
  unfold countinghouseref02_Of.f ratOf
  by_cases h1 : a < 1
  · rw [if_pos h1, if_pos (.inl h1)]
    simp [countinghouseref02_Of.j0]
  · rw [if_neg h1]
    by_cases h2 : b < 1
    · rw [if_pos (.inr h2)]
      simp [countinghouseref02_Of.j0, h2]
    · rw [if_neg (by omega)]
      have hg := gd_pos a b (by omega)
      simp only [countinghouseref02_Of.j0, h2, decide_false, Bool.false_eq_true, if_false, common_of k a b (by omega) (by omega) ia ib h, Option.bind_some]
      rw [if_neg (by omega), quo_in (by omega) hg ia, quo_in (by omega) hg ib]
      by_cases g1 : 1099511627776 < a / gd a b
      · rw [if_pos g1, if_pos (.inl g1)]
      · rw [if_neg g1]
        by_cases g2 : 1099511627776 < b / gd a b
        · rw [if_pos g2, if_pos (.inr g2)]
        · rw [if_neg g2, if_neg (by omega)]
theorem ref_may_eq (k : Nat) (a b : Int) (ia : in64 a) (ib : in64 b) (h : enough a b ≤ k) : countinghouseref02_May.f k a b = some (may a b) := by
  unfold countinghouseref02_May.f
  by_cases h1 : a < 1
  · rw [if_pos h1]; congr 1; symm; unfold may; rw [decide_eq_false_iff_not]; omega
  · rw [if_neg h1]
    by_cases h2 : b < 1
    · rw [if_pos h2]; congr 1; symm; unfold may; rw [decide_eq_false_iff_not]; omega
    · rw [if_neg h2]
      by_cases h3 : a > 1099511627776
      · rw [if_pos h3]; congr 1; symm; unfold may; rw [decide_eq_false_iff_not]; omega
      · rw [if_neg h3]
        by_cases h4 : b > 1099511627776
        · rw [if_pos h4]; congr 1; symm; unfold may; rw [decide_eq_false_iff_not]; omega
        · rw [if_neg h4, common_of k a b (by omega) (by omega) ia ib h]
          simp only [Option.bind_some]
          congr 1
          rw [Bool.eq_iff_iff, beq_iff_eq, may_iff]
          omega
theorem ref_inv_eq (k : Nat) (a b : Int) (ia : in64 a) (ib : in64 b) (h : enough a b ≤ k) : countinghouseref02_Inverse.f k a b = some (inv a b) := by
  unfold countinghouseref02_Inverse.f inv
  rw [ref_may_eq k a b ia ib h]
  simp only [Option.bind_some]
  split <;> rfl
theorem ref_up_eq (k : Nat) (n p q : Int) (hn : in64 n) (hp : in64 p) (hq : in64 q) (h : enough p q ≤ k) : countinghouseref02_Up.f k n p q = some (rby n p q true) := by
  unfold countinghouseref02_Up.f rby ref_Up.f byo
  rw [ref_may_eq k p q hp hq h, if_pos ⟨hn, hp, hq⟩]
  simp only [Option.bind_some]
  split <;> rfl
theorem ref_down_eq (k : Nat) (n p q : Int) (hn : in64 n) (hp : in64 p) (hq : in64 q) (h : enough p q ≤ k) : countinghouseref02_Down.f k n p q = some (rby n p q false) := by
  unfold countinghouseref02_Down.f rby ref_Down.f byo
  rw [ref_may_eq k p q hp hq h, if_pos ⟨hn, hp, hq⟩]
  simp only [Option.bind_some]
  split <;> rfl

def two (j : Nat) : Int := ((2 ^ j : Nat) : Int)
theorem two_succ (j : Nat) : two (j + 1) = 2 * two j := by unfold two; rw [Nat.pow_succ]; omega
theorem two_pos (j : Nat) : 1 ≤ two j := by
  unfold two
  have := Nat.pow_pos (n := j) (show 0 < 2 by omega)
  omega
theorem two_le {j : Nat} (h : j ≤ 40) : two j ≤ 1099511627776 := by
  unfold two
  have := Nat.pow_le_pow_right (show 0 < 2 by omega) h
  have e : (2 ^ 40 : Nat) = 1099511627776 := by decide
  omega
theorem halve (s : Int) (h1 : 1 ≤ s) (h2 : s ≤ 1099511627776) : wrap64 (Int.tdiv s 2) = s / 2 := quo_in h1 (by omega) (in64_small (by omega) h2)

/-- the loop that halves: it finds how much fits -/
theorem ref_fits_loop (n p q : Int) (hn : in64 n) (h0 : 0 ≤ n) (hp : in64 p) (hq : in64 q) (hm : may p q = true) : ∀ (j : Nat) (k : Nat) (y : Int), j ≤ 40 → 0 ≤ y → y ≤ fits n p q → fits n p q < y + 2 * two j → enough p q + j ≤ k →
    countinghouseref02_Fits.l0 (k + 2) n y (two j) p q = some (fits n p q)
  | j, k, y, hj, hy, hy1, hy2, hk => by
    have hf : fits n p q = if n * q / p ≤ 1099511627776 then n * q / p else 1099511627776 := by
      unfold fits
      rw [if_neg (by rw [hm]; simp; omega)]
    have t1 := two_pos j
    have t2 := two_le hj
    have hF : fits n p q ≤ 1099511627776 := by rw [hf]; split <;> omega
    rw [countinghouseref02_Fits.l0, if_pos (by omega), halve _ t1 t2]
    have hw : wrap64 (y + two j) = y + two j := by unfold wrap64; omega
    rw [hw]
    -- what the next round does
    have next : ∀ y', 0 ≤ y' → y' ≤ fits n p q → fits n p q < y' + two j → countinghouseref02_Fits.l0 (k + 1) n y' (two j / 2) p q = some (fits n p q) := by
      intro y' c1 c2 c3
      cases j with
      | zero =>
        have : two 0 = 1 := rfl
        rw [this] at c3 ⊢
        rw [show (1 : Int) / 2 = 0 by decide, countinghouseref02_Fits.l0, if_neg (by decide)]
        congr 1
        omega
      | succ j =>
        rw [two_succ] at c3 ⊢
        rw [show 2 * two j / 2 = two j by omega]
        obtain ⟨k', rfl⟩ : ∃ k', k = k' + 1 := ⟨k - 1, by omega⟩
        exact ref_fits_loop n p q hn h0 hp hq hm j k' y' (by omega) c1 c2 c3 (by omega)
    by_cases hb : y + two j > 1099511627776
    · rw [if_pos hb]
      exact next y hy hy1 (by omega)
    · rw [if_neg hb, ref_up_eq (k + 1) (y + two j) p q (in64_small (by omega) (by omega)) hp hq (by omega)]
      simp only [Option.bind_some]
      have hu := up_fits n p q (y + two j) hn h0 hm (by omega)
      have hle : y + two j ≤ fits n p q ↔ y + two j ≤ n * q / p := by
        rw [hf]
        split <;> omega
      by_cases hc : (rby (y + two j) p q true).2 = 0 ∧ (rby (y + two j) p q true).1 ≤ n
      · rw [if_pos hc.1, if_pos hc.2]
        exact next (y + two j) (by omega) (hle.mpr (hu.mp hc)) (by omega)
      · have hn' : ¬ (y + two j ≤ fits n p q) := fun h => hc (hu.mpr (hle.mp h))
        have := next y hy hy1 (by omega)
        by_cases h2 : (rby (y + two j) p q true).2 = 0
        · rw [if_pos h2, if_neg (fun h => hc ⟨h2, h⟩)]
          exact this
        · rw [if_neg h2]
          exact this
theorem ref_fits_eq (k : Nat) (n p q : Int) (hn : in64 n) (hp : in64 p) (hq : in64 q) (h : enough p q + 40 ≤ k) : countinghouseref02_Fits.f (k + 3) n p q = some (fits n p q) := by
  unfold countinghouseref02_Fits.f
  by_cases h0 : n < 0
  · rw [if_pos h0]
    unfold fits
    rw [if_pos (.inl h0)]
    simp [countinghouseref02_Fits.j0]
  · rw [if_neg h0, ref_may_eq (k + 3) p q hp hq (by omega)]
    simp only [Option.bind_some]
    cases hm : may p q
    · unfold fits
      rw [if_pos (.inr hm)]
      simp [countinghouseref02_Fits.j0]
    · simp only [countinghouseref02_Fits.j0, Bool.not_true, Bool.false_eq_true, if_false]
      have ht : (1099511627776 : Int) = two 40 := by unfold two; decide
      have hf : 0 ≤ fits n p q ∧ fits n p q ≤ 1099511627776 := by
        obtain ⟨g1, g2, g3, g4, g5⟩ := may_iff.mp hm
        have := Int.ediv_nonneg (Int.mul_nonneg (show 0 ≤ n by omega) (show 0 ≤ q by omega)) (show 0 ≤ p by omega)
        unfold fits
        rw [if_neg (by rw [hm]; simp; omega)]
        split <;> omega
      have := ref_fits_loop n p q hn (by omega) hp hq hm 40 k 0 (by omega) (by omega) hf.1 (by rw [← ht]; omega) h
      rw [← ht] at this
      exact this
end Go.Proofs.Ytbeiphfmdmccmaa.P
