/-
  The law RatsOrder: what its printed form answers is true.
-/
import Derived.Test.YtbeiphfmdmccmaaM0
import Derived.Test.YtbeiphfmdmccmaaLx7
namespace Go.Proofs.Ytbeiphfmdmccmaa.L
set_option linter.unusedVariables false
set_option linter.unusedSimpArgs false
open Go.RowKit Go.Proofs.Ytbeiphfmdmccmaa.A Go.Proofs.Ytbeiphfmdmccmaa.P

theorem cmpr_in (a b c d : Int) : cmpr a b c d = -1 ∨ cmpr a b c d = 0 ∨ cmpr a b c d = 1 := by
  unfold cmpr cmpi
  split <;> (try split) <;> (try split) <;> simp
theorem cmpi_flip (x y : Int) : cmpi x y = -cmpi y x := by
  unfold cmpi
  split <;> split <;> omega
theorem cmpr_flip (a b c d : Int) : cmpr a b c d = -cmpr c d a b := by
  unfold cmpr
  by_cases h : may a b = true ∧ may c d = true
  · rw [if_pos h, if_pos ⟨h.2, h.1⟩]
    exact cmpi_flip _ _
  · rw [if_neg h, if_neg (fun h' => h ⟨h'.2, h'.1⟩)]
    rfl
theorem same_rate (a b c d : Int) (h1 : may a b = true) (h2 : may c d = true) (h : a * d = c * b) : a = c ∧ b = d := by
  obtain ⟨a1, a2, a3, a4, a5⟩ := may_iff.mp h1
  obtain ⟨c1, c2, c3, c4, c5⟩ := may_iff.mp h2
  obtain ⟨A, rfl⟩ := Int.eq_ofNat_of_zero_le (show 0 ≤ a by omega)
  obtain ⟨B, rfl⟩ := Int.eq_ofNat_of_zero_le (show 0 ≤ b by omega)
  obtain ⟨C, rfl⟩ := Int.eq_ofNat_of_zero_le (show 0 ≤ c by omega)
  obtain ⟨D, rfl⟩ := Int.eq_ofNat_of_zero_le (show 0 ≤ d by omega)
  unfold gd at a5 c5
  rw [Int.toNat_natCast, Int.toNat_natCast] at a5 c5
  have hN : A * D = C * B := by
    have : ((A * D : Nat) : Int) = ((C * B : Nat) : Int) := by rw [Int.natCast_mul, Int.natCast_mul]; exact h
    omega
  have g1 : Nat.gcd A B = 1 := by omega
  have g2 : Nat.gcd C D = 1 := by omega
  have d1 : A ∣ C := Nat.Coprime.dvd_of_dvd_mul_right g1 (hN ▸ Nat.dvd_mul_right A D)
  have d2 : C ∣ A := Nat.Coprime.dvd_of_dvd_mul_right g2 (hN.symm ▸ Nat.dvd_mul_right C B)
  have e : A = C := Nat.dvd_antisymm d1 d2
  subst e
  have : D = B := Nat.eq_of_mul_eq_mul_left (by omega) hN
  subst this
  exact ⟨rfl, rfl⟩
theorem cmp_trans (a b c d e f : Int) (h1 : may a b = true) (h2 : may c d = true) (h3 : may e f = true) (x : cmpr a b c d ≤ 0) (y : cmpr c d e f ≤ 0) : cmpr a b e f ≤ 0 := by
  have k : ∀ u v : Int, cmpi u v ≤ 0 ↔ u ≤ v := by
    intro u v
    unfold cmpi
    split
    · omega
    · split <;> omega
  unfold cmpr at *
  rw [if_pos ⟨h1, h2⟩, k] at x
  rw [if_pos ⟨h2, h3⟩, k] at y
  rw [if_pos ⟨h1, h3⟩, k]
  obtain ⟨a1, a2, _⟩ := may_iff.mp h1
  obtain ⟨c1, c2, _⟩ := may_iff.mp h2
  obtain ⟨e1, e2, _⟩ := may_iff.mp h3
  have x' : a * d * f ≤ c * b * f := Int.mul_le_mul_of_nonneg_right x (by omega)
  have y' : c * f * b ≤ e * d * b := Int.mul_le_mul_of_nonneg_right y (by omega)
  have : d * (a * f) ≤ d * (e * b) := by
    have t1 : a * d * f = d * (a * f) := by rw [Int.mul_comm a d, Int.mul_assoc]
    have t2 : c * b * f = c * f * b := by rw [Int.mul_assoc, Int.mul_comm b f, ← Int.mul_assoc]
    have t3 : e * d * b = d * (e * b) := by rw [Int.mul_comm e d, Int.mul_assoc]
    omega
  exact Int.le_of_mul_le_mul_left this (by omega)

theorem law_order (a b c d e f : Int) (ia : in64 a) (ib : in64 b) (ic : in64 c) (id : in64 d) (ie : in64 e) (if' : in64 f) : countinghouselaw02_RatsOrder.f 6 a b c d e f = some true := by
  unfold countinghouselaw02_RatsOrder.f
  rw [g_cmp ia ib ic id, g_cmp ic id ia ib]
  simp only [Option.bind_some]
  have hin := cmpr_in a b c d
  have hw : wrap64 (-cmpr c d a b) = -cmpr c d a b := by
    have := cmpr_in c d a b
    unfold wrap64
    omega
  rw [hw, if_pos (cmpr_flip a b c d), if_neg (by omega), show decide (cmpr a b c d > 1) = false from decide_eq_false (by omega)]
  simp only [countinghouselaw02_RatsOrder.j0, Bool.false_eq_true, if_false]
  rw [g_may ia ib, g_may ic id, g_may ie if']
  simp only [Option.bind_some]
  have some_not : ∀ k, ¬ (may a b = true ∧ may c d = true ∧ may e f = true) → countinghouselaw02_RatsOrder.j1 (k + 3) (cmpr a b c d) true a b c d e f = some true := by
    intro k hno
    simp only [countinghouselaw02_RatsOrder.j1, if_true]
    by_cases hz : cmpr a b c d = 0
    · rw [if_pos hz, lives_more k]; rfl
    · have hboth : may a b = true ∧ may c d = true := by
        unfold cmpr at hz
        by_cases h : may a b = true ∧ may c d = true
        · exact h
        · rw [if_neg h] at hz; exact absurd rfl hz
      rw [if_neg hz, g_may ia ib, g_may ic id, hboth.1, hboth.2]
      simp only [Option.bind_some, if_true]
      rw [lives_more k]
      rfl
  by_cases h1 : may a b = true
  · rw [if_pos h1]
    by_cases h2 : may c d = true
    · rw [if_pos h2]
      by_cases h3 : may e f = true
      · rw [h3]
        have fin : ∀ k, countinghouselaw02_RatsOrder.j2 (k + 3) (cmpr a b c d) false a b c d e f = some true := by
          intro k
          simp only [countinghouselaw02_RatsOrder.j2, Bool.false_eq_true, if_false]
          rw [lives_more k]
          by_cases hle : cmpr a b c d ≤ 0
          · rw [if_pos hle, g_cmp ic id ie if']
            simp only [Option.bind_some]
            by_cases hle2 : cmpr c d e f ≤ 0
            · rw [if_pos hle2, g_cmp ia ib ie if']
              simp only [Option.bind_some]
              have := cmp_trans a b c d e f h1 h2 h3 hle hle2
              rw [if_neg (by omega)]
            · rw [if_neg hle2]
              try rfl
          · rw [if_neg hle]
            try rfl
        have ii : inv a b = (b, a) := by unfold inv; rw [if_pos h1]
        have jj : inv c d = (d, c) := by unfold inv; rw [if_pos h2]
        have m1 : may b a = true := by rw [may_comm]; exact h1
        have m2 : may d c = true := by rw [may_comm]; exact h2
        have iii : inv b a = (a, b) := by unfold inv; rw [if_pos m1]
        have flip : cmpr a b c d = wrap64 (-cmpr b a d c) := by
          have e1 : cmpr b a d c = cmpr c d a b := by
            unfold cmpr
            rw [if_pos ⟨m1, m2⟩, if_pos ⟨h2, h1⟩, Int.mul_comm b c, Int.mul_comm d a]
          rw [e1, hw]
          exact cmpr_flip a b c d
        simp only [countinghouselaw02_RatsOrder.j1, Bool.not_true, Bool.false_eq_true, if_false]
        rw [g_inv ia ib, g_inv ic id, ii, jj]
        simp only [Option.bind_some]
        rw [g_cmp ib ia id ic]
        simp only [Option.bind_some]
        rw [if_pos flip, g_inv ib ia, iii]
        simp only [Option.bind_some]
        have e0 : (!(a == a) || (!(b == b))) = false := by simp
        rw [e0, fin 1]
        by_cases hz : cmpr a b c d = 0
        · have heq : a = c ∧ b = d := by
            refine same_rate a b c d h1 h2 ?_
            unfold cmpr cmpi at hz
            rw [if_pos ⟨h1, h2⟩] at hz
            split at hz
            · cases hz
            · split at hz
              · cases hz
              · omega
          rw [if_pos hz, if_neg (by rw [heq.1, heq.2]; simp)]
        · rw [if_neg hz]
      · have h3' : may e f = false := by simpa using h3
        rw [h3']
        exact some_not 2 (fun h => h3 h.2.2)
    · rw [if_neg h2]
      exact some_not 2 (fun h => h2 h.2.1)
  · rw [if_neg h1]
    exact some_not 2 (fun h => h1 h.1)
theorem law_order_walk (a b c d e f : Int) (ia : (Lit.int .i64 a).wf = true) (ib : (Lit.int .i64 b).wf = true) (ic : (Lit.int .i64 c).wf = true) (id : (Lit.int .i64 d).wf = true) (ie : (Lit.int .i64 e).wf = true) (if' : (Lit.int .i64 f).wf = true) (w : World) :
    Calls Try.prog 11 #[.agg #[.int .i64 a, .int .i64 b], .agg #[.int .i64 c, .int .i64 d], .agg #[.int .i64 e, .int .i64 f]] w fun e w' => e = .returned (.bool true) ∧ Below w.heap.size w w' :=
  countinghouselaw02_RatsOrder.calls 6 a b c d e f true w (law_order a b c d e f (in64_of ia) (in64_of ib) (in64_of ic) (in64_of id) (in64_of ie) (in64_of if'))
end Go.Proofs.Ytbeiphfmdmccmaa.L
