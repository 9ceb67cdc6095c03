/-
  The law RatsScaled: what its printed form answers is true.
-/
import Derived.Test.YtbeiphfmdmccmaaM0
import Derived.Test.YtbeiphfmdmccmaaLx8
namespace Go.Proofs.Ytbeiphfmdmccmaa.L
set_option linter.unusedVariables false
set_option linter.unusedSimpArgs false
open Go.RowKit Go.Proofs.Ytbeiphfmdmccmaa.A Go.Proofs.Ytbeiphfmdmccmaa.P

theorem gd_scaled (a b k : Int) (ha : 0 ≤ a) (hb : 0 ≤ b) (hk : 0 ≤ k) : gd (a * k) (b * k) = gd a b * k := by
  obtain ⟨A, rfl⟩ := Int.eq_ofNat_of_zero_le ha
  obtain ⟨B, rfl⟩ := Int.eq_ofNat_of_zero_le hb
  obtain ⟨K, rfl⟩ := Int.eq_ofNat_of_zero_le hk
  unfold gd
  rw [← Int.natCast_mul, ← Int.natCast_mul, Int.toNat_natCast, Int.toNat_natCast, Int.toNat_natCast, Int.toNat_natCast, Nat.gcd_mul_right, Int.natCast_mul]
theorem gd_quo (a b : Int) (ha : 1 ≤ a) (hb : 1 ≤ b) : gd (a / gd a b) (b / gd a b) = 1 := by
  obtain ⟨A, rfl⟩ := Int.eq_ofNat_of_zero_le (show 0 ≤ a by omega)
  obtain ⟨B, rfl⟩ := Int.eq_ofNat_of_zero_le (show 0 ≤ b by omega)
  have e : gd (A : Int) (B : Int) = ((Nat.gcd A B : Nat) : Int) := by unfold gd; rw [Int.toNat_natCast, Int.toNat_natCast]
  rw [e, ← Int.natCast_ediv, ← Int.natCast_ediv]
  unfold gd
  rw [Int.toNat_natCast, Int.toNat_natCast, (show (A / A.gcd B).gcd (B / A.gcd B) = 1 by
    have hp : 0 < A.gcd B := Nat.gcd_pos_of_pos_left B (by omega)
    rw [Nat.gcd_div (Nat.gcd_dvd_left A B) (Nat.gcd_dvd_right A B), Nat.div_self hp])]
  rfl
theorem quo_cross (a b : Int) (ha : 0 ≤ a) (hb : 0 ≤ b) : a / gd a b * b = b / gd a b * a := by
  obtain ⟨x, hx⟩ := gd_dvd_left a b ha
  obtain ⟨y, hy⟩ := gd_dvd_right a b hb
  generalize gd a b = g at *
  by_cases hg : g = 0
  · subst hg; simp
  · rw [hx, hy, Int.mul_ediv_cancel_left _ hg, Int.mul_ediv_cancel_left _ hg]
    rw [← Int.mul_assoc, ← Int.mul_assoc, Int.mul_comm x g, Int.mul_comm y g, Int.mul_assoc, Int.mul_assoc, Int.mul_comm x y]

theorem law_scaled (a0 a1 a2 : Int) (h0 : 0 ≤ a0 ∧ a0 ≤ 65535) (h1 : 0 ≤ a1 ∧ a1 ≤ 65535) (h2 : 0 ≤ a2 ∧ a2 ≤ 4294967295) : countinghouselaw02_RatsScaled.f 2 a0 a1 a2 = some true := by
  unfold countinghouselaw02_RatsScaled.f
  have w0 : wrap64 (wrap64 a0 + 1) = a0 + 1 := by unfold wrap64; omega
  have w1 : wrap64 (wrap64 a1 + 1) = a1 + 1 := by unfold wrap64; omega
  have w2 : wrap64 (wrap64 a2 + 1) = a2 + 1 := by unfold wrap64; omega
  rw [w0, w1, w2]
  obtain ⟨n, hn⟩ : ∃ n, n = a0 + 1 := ⟨_, rfl⟩
  obtain ⟨d, hd⟩ : ∃ d, d = a1 + 1 := ⟨_, rfl⟩
  obtain ⟨k, hk⟩ : ∃ k, k = a2 + 1 := ⟨_, rfl⟩
  rw [← hn, ← hd, ← hk]
  have n1 : 1 ≤ n ∧ n ≤ 65536 := by omega
  have d1 : 1 ≤ d ∧ d ≤ 65536 := by omega
  have k1 : 1 ≤ k ∧ k ≤ 4294967296 := by omega
  clear hn hd hk w0 w1 w2 h0 h1 h2
  have nk : 1 * 1 ≤ n * k ∧ n * k ≤ 65536 * 4294967296 := ⟨Int.mul_le_mul n1.1 k1.1 (by omega) (by omega), Int.mul_le_mul n1.2 k1.2 (by omega) (by omega)⟩
  have dk : 1 * 1 ≤ d * k ∧ d * k ≤ 65536 * 4294967296 := ⟨Int.mul_le_mul d1.1 k1.1 (by omega) (by omega), Int.mul_le_mul d1.2 k1.2 (by omega) (by omega)⟩
  have v1 : wrap64 (n * k) = n * k := by unfold wrap64; omega
  have v2 : wrap64 (d * k) = d * k := by unfold wrap64; omega
  rw [v1, v2]
  have i1 : in64 n := ⟨by omega, by omega⟩
  have i2 : in64 d := ⟨by omega, by omega⟩
  have i3 : in64 (n * k) := ⟨by omega, by omega⟩
  have i4 : in64 (d * k) := ⟨by omega, by omega⟩
  have hg := gd_pos n d n1.1
  have q1 := quo_pos (a := n) (b := d) n1.1
  have q2 : 1 ≤ d / gd n d := by rw [gd_comm]; exact quo_pos d1.1
  have q3 : n / gd n d ≤ n := Int.ediv_le_self _ (by omega)
  have q4 : d / gd n d ≤ d := Int.ediv_le_self _ (by omega)
  have e1 : ratOf n d = (n / gd n d, d / gd n d, 0) := by
    unfold ratOf
    rw [if_neg (by omega), if_neg (by omega)]
  have gs := gd_scaled n d k (by omega) (by omega) (by omega)
  have e2 : ratOf (n * k) (d * k) = (n / gd n d, d / gd n d, 0) := by
    unfold ratOf
    rw [if_neg (by omega), gs, Int.mul_ediv_mul_of_pos_left _ _ (by omega : 0 < k), Int.mul_ediv_mul_of_pos_left _ _ (by omega : 0 < k), if_neg (by omega)]
  rw [g_of i1 i2, g_of i3 i4, e1, e2]
  simp only [Option.bind_some, if_true, BEq.rfl, Bool.and_self]
  rw [g_may (in64_small (by omega) (by omega)) (in64_small (by omega) (by omega))]
  have m1 : may (n / gd n d) (d / gd n d) = true := may_iff.mpr ⟨q1, q2, by omega, by omega, gd_quo n d n1.1 d1.1⟩
  rw [m1]
  simp only [Option.bind_some, if_true]
  rw [if_pos (by rw [quo_cross n d (by omega) (by omega)]), g_may i3 i4]
  simp only [Option.bind_some]
  have hone : (n / gd n d = n) ↔ gd n d = 1 := quo_one n1.1 hg
  have mm : may (n * k) (d * k) = true ↔ (k = 1 ∧ n / gd n d = n) := by
    rw [may_iff, gs, hone]
    constructor
    · rintro ⟨_, _, _, _, h⟩
      have : 1 * k ≤ gd n d * k := Int.mul_le_mul_of_nonneg_right hg (by omega)
      have hk1 : k = 1 := by omega
      subst hk1
      exact ⟨rfl, by omega⟩
    · rintro ⟨rfl, h⟩
      rw [h]
      exact ⟨by omega, by omega, by omega, by omega, rfl⟩
  rw [lives_two]
  by_cases hk : k = 1
  · rw [if_pos hk, if_pos]
    · rfl
    · rw [beq_iff_eq, Bool.eq_iff_iff, mm, beq_iff_eq]
      exact ⟨fun h => h.2, fun h => ⟨hk, h⟩⟩
  · rw [if_neg hk, if_pos]
    · rfl
    · rw [beq_iff_eq]
      cases hm : may (n * k) (d * k)
      · rfl
      · exact absurd (mm.mp hm).1 hk
theorem law_scaled_walk (a b c : Int) (ha : (Lit.int .u16 a).wf = true) (hb : (Lit.int .u16 b).wf = true) (hc : (Lit.int .u32 c).wf = true) (w : World) : Calls Try.prog 13 #[.int .u16 a, .int .u16 b, .int .u32 c] w fun e w' => e = .returned (.bool true) ∧ Below w.heap.size w w' := by
  refine countinghouselaw02_RatsScaled.calls 2 a b c true w (law_scaled a b c ?_ ?_ ?_)
  all_goals
    simp [Lit.wf, IntKind.min, IntKind.max, IntKind.bits, IntKind.signed] at ha hb hc
    omega

end Go.Proofs.Ytbeiphfmdmccmaa.L
