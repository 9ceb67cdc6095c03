/-
  The law RatsFits: what its printed form answers is true.
-/
import Derived.Test.YtbeiphfmdmccmaaM0
import Derived.Test.YtbeiphfmdmccmaaLx8
namespace Go.Proofs.Ytbeiphfmdmccmaa.L
set_option linter.unusedVariables false
set_option linter.unusedSimpArgs false
open Go.RowKit Go.Proofs.Ytbeiphfmdmccmaa.A Go.Proofs.Ytbeiphfmdmccmaa.P

/-- what is floored, where what is raised has room -/
theorem down_up (y p q : Int) (hm : may p q = true) (hy : 0 ≤ y) (h : (rby y p q true).2 = 0) : (rby y p q false).2 = 0 ∧ in64 (rby y p q false).1 ∧ in64 (rby y p q true).1 ∧ ((rby y p q true).1 = (rby y p q false).1 ∨ (rby y p q true).1 = (rby y p q false).1 + 1) := by
  obtain ⟨g1, g2, g3, g4, g5⟩ := may_iff.mp hm
  unfold rby at h ⊢
  rw [if_pos hm] at h ⊢
  rw [if_pos hm]
  rw [byf_nat y p q true hy (by omega) (by omega)] at h ⊢
  rw [byf_nat y p q false hy (by omega) (by omega)]
  rw [show (if false = true ∧ y * p % q ≠ 0 then (1 : Int) else 0) = 0 by simp, Int.add_zero]
  have h0 := Int.ediv_nonneg (Int.mul_nonneg hy (show 0 ≤ p by omega)) (show 0 ≤ q by omega)
  generalize y * p / q = u at *
  have hc : (if true = true ∧ y * p % q ≠ 0 then (1 : Int) else 0) = 0 ∨ (if true = true ∧ y * p % q ≠ 0 then (1 : Int) else 0) = 1 := by
    split
    · exact .inr rfl
    · exact .inl rfl
  generalize (if true = true ∧ y * p % q ≠ 0 then (1 : Int) else 0) = c at *
  by_cases hv : in64 (u + c)
  · have hu : in64 u := by
      unfold in64 at hv ⊢
      omega
    rw [fit_in hv, fit_in hu]
    exact ⟨rfl, hu, hv, by rcases hc with rfl | rfl <;> simp⟩
  · rw [fit_out hv] at h
    exact absurd h (by decide)

theorem law_fits (n p q : Int) (hn : in64 n) (hp : in64 p) (hq : in64 q) : countinghouselaw02_RatsFits.f 6 n p q = some true := by
  unfold countinghouselaw02_RatsFits.f
  rw [g_fits hn hp hq]
  simp only [Option.bind_some]
  by_cases h0 : n < 0
  · rw [if_pos h0]
    simp only [countinghouselaw02_RatsFits.j0, if_true]
    rw [if_pos (by unfold fits; rw [if_pos (.inl h0)]), lives_more 3]
    rfl
  · rw [if_neg h0, g_may hp hq]
    simp only [Option.bind_some]
    cases hm : may p q
    · simp only [countinghouselaw02_RatsFits.j0, Bool.not_false, if_true]
      rw [if_pos (by unfold fits; rw [if_pos (.inr hm)]), lives_more 3]
      rfl
    · have hf : fits n p q = if n * q / p ≤ 1099511627776 then n * q / p else 1099511627776 := by
        unfold fits
        rw [if_neg (by rw [hm]; simp; omega)]
      obtain ⟨g1, g2, g3, g4, g5⟩ := may_iff.mp hm
      have hv := Int.ediv_nonneg (Int.mul_nonneg (show 0 ≤ n by omega) (show 0 ≤ q by omega)) (show 0 ≤ p by omega)
      have u1 := up_fits n p q (fits n p q) hn (by omega) hm (by rw [hf]; split <;> omega)
      have u2 := up_fits n p q (fits n p q + 1) hn (by omega) hm (by rw [hf]; split <;> omega)
      have b1 : 0 ≤ fits n p q ∧ fits n p q ≤ 1099511627776 ∧ fits n p q ≤ n * q / p ∧ (fits n p q < 1099511627776 → ¬ fits n p q + 1 ≤ n * q / p) := by
        rw [hf]
        split <;> refine ⟨by omega, by omega, by omega, fun h => by omega⟩
      clear hf
      generalize fits n p q = y at *
      generalize n * q / p = v at *
      obtain ⟨b1, b2, b3, b4⟩ := b1
      obtain ⟨c1, c2⟩ := u1.mpr b3
      obtain ⟨d1, d2, d3, d4⟩ := down_up y p q hm b1 c1
      have iy : in64 y := in64_small b1 b2
      have w1 : wrap64 (y + 1) = y + 1 := by unfold wrap64; omega
      have iy1 : in64 (y + 1) := ⟨by omega, by omega⟩
      have fin : ∀ k, countinghouselaw02_RatsFits.j3 (k + 3) y (rby y p q true).1 false p q = some true := by
        intro k
        simp only [countinghouselaw02_RatsFits.j3, Bool.false_eq_true, if_false]
        rw [g_down iy hp hq]
        simp only [Option.bind_some]
        rw [if_pos d1, lives_more k]
        generalize (rby y p q true).1 = U at *
        generalize (rby y p q false).1 = V at *
        by_cases e : U = V
        · rw [if_pos e]; rfl
        · have e2 : U = V + 1 := by omega
          have w2 : wrap64 (V + 1) = V + 1 := by
            unfold in64 at d3 d2
            unfold wrap64
            omega
          rw [if_neg e, w2, if_pos e2]; rfl
      simp only [countinghouselaw02_RatsFits.j0, Bool.not_true, Bool.false_eq_true, if_false]
      rw [if_neg (by omega)]
      simp only [countinghouselaw02_RatsFits.j1]
      rw [show decide (y > 1099511627776) = false from decide_eq_false (by omega)]
      simp only [Bool.false_eq_true, if_false]
      rw [g_up iy hp hq]
      simp only [Option.bind_some]
      rw [if_pos c1]
      simp only [countinghouselaw02_RatsFits.j2]
      rw [show decide ((rby y p q true).1 > n) = false from decide_eq_false (by omega)]
      simp only [Bool.false_eq_true, if_false]
      by_cases hlt : y < 1099511627776
      · rw [if_pos hlt, w1, g_up iy1 hp hq]
        simp only [Option.bind_some]
        have hno : ¬ ((rby (y + 1) p q true).2 = 0 ∧ (rby (y + 1) p q true).1 ≤ n) := fun h => b4 hlt (u2.mp h)
        by_cases e0 : (rby (y + 1) p q true).2 = 0
        · rw [if_pos e0, show decide ((rby (y + 1) p q true).1 ≤ n) = false from decide_eq_false (fun h => hno ⟨e0, h⟩)]
          exact fin 0
        · rw [if_neg e0]
          exact fin 0
      · rw [if_neg hlt]
        have := fin 0
        simp only [countinghouselaw02_RatsFits.j3, Bool.false_eq_true, if_false] at this
        rw [lives_more 1]
        rw [lives_two] at this
        exact this
theorem law_fits_walk (n p q : Int) (hn : (Lit.int .i64 n).wf = true) (hp : (Lit.int .i64 p).wf = true) (hq : (Lit.int .i64 q).wf = true) (w : World) : Calls Try.prog 12 #[.int .i64 n, .agg #[.int .i64 p, .int .i64 q]] w fun e w' => e = .returned (.bool true) ∧ Below w.heap.size w w' :=
  countinghouselaw02_RatsFits.calls 6 n p q true w (law_fits n p q (in64_of hn) (in64_of hp) (in64_of hq))
end Go.Proofs.Ytbeiphfmdmccmaa.L
