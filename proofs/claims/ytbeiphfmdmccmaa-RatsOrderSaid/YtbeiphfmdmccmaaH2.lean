/-
  The rates' functions, the program's: what the printed forms say, in plain words.
-/
import Derived.Test.YtbeiphfmdmccmaaPx3
namespace Go.Proofs.Ytbeiphfmdmccmaa.P
set_option linter.unusedVariables false
set_option linter.unusedSimpArgs false
open Go.RowKit Go.Proofs.Ytbeiphfmdmccmaa.A Go.Proofs.YtbeiphfmdmccmaaW.PrintWords

/-- least terms -/
def lt (a b : Int) : Int × Int := if a < 1 ∨ b < 1 then (0, 0) else (a / gd a b, b / gd a b)
theorem lt_bad {a b : Int} (h : a < 1 ∨ b < 1) : lt a b = (0, 0) := if_pos h
theorem lt_good {a b : Int} (ha : 1 ≤ a) (hb : 1 ≤ b) : lt a b = (a / gd a b, b / gd a b) := if_neg (by omega)
theorem quo_in {a g : Int} (ha : 1 ≤ a) (hg : 1 ≤ g) (h : in64 a) : wrap64 (Int.tdiv a g) = a / g := by
  rw [Int.tdiv_eq_ediv_of_nonneg (by omega)]
  have h1 : 0 ≤ a / g := Int.ediv_nonneg (by omega) (by omega)
  have h2 : a / g ≤ a := Int.ediv_le_self _ (by omega)
  have h3 := h.2
  unfold wrap64
  omega
theorem gd_comm (a b : Int) : gd a b = gd b a := by unfold gd; rw [Nat.gcd_comm]
theorem gd_dvd_left (a b : Int) (ha : 0 ≤ a) : gd a b ∣ a := by
  unfold gd
  have := Nat.gcd_dvd_left a.toNat b.toNat
  have h2 := Int.natCast_dvd_natCast.mpr this
  rwa [Int.toNat_of_nonneg ha] at h2
theorem gd_dvd_right (a b : Int) (hb : 0 ≤ b) : gd a b ∣ b := by rw [gd_comm]; exact gd_dvd_left b a hb
theorem quo_pos {a b : Int} (ha : 1 ≤ a) : 1 ≤ a / gd a b := by
  have h1 := gd_pos a b ha
  have h2 := gd_le a b ha
  rw [Int.le_ediv_iff_mul_le (by omega)]
  omega
theorem quo_one {a g : Int} (ha : 1 ≤ a) (hg : 1 ≤ g) : (a / g = a) ↔ g = 1 := by
  constructor
  · intro h
    by_cases h1 : g = 1
    · exact h1
    · have : a / g < a := Int.ediv_lt_self_of_pos_of_ne_one (by omega) (by omega) |> fun x => x
      omega
  · rintro rfl
    simp

theorem least_eq (a b : Int) (ha : in64 a) (hb : in64 b) : rats_least.f a b = some (lt a b) := by
  unfold rats_least.f
  by_cases h1 : a < 1
  · rw [if_pos h1, lt_bad (.inl h1)]
  · by_cases h2 : b < 1
    · rw [if_neg h1, if_pos h2, lt_bad (.inr h2)]
    · have hg := gd_pos a b (by omega)
      rw [if_neg h1, if_neg h2, lt_good (by omega) (by omega)]
      unfold rats_divisor.f
      rw [if_pos ⟨by omega, by omega⟩]
      show (if gd a b = 0 then none else some (wrap64 (Int.tdiv a (gd a b)), wrap64 (Int.tdiv b (gd a b)))) = _
      rw [if_neg (by omega), quo_in (by omega) hg ha, quo_in (by omega) hg hb]
theorem great_eq (a b : Int) : rats_great.f a b = some (decide (1099511627776 < a ∨ 1099511627776 < b)) := by
  unfold rats_great.f mx
  congr 1
  rw [decide_eq_decide]
  split <;> omega

def ratOf (a b : Int) : Int × Int × Int := if a < 1 ∨ b < 1 then (0, 0, 1) else if 1099511627776 < a / gd a b ∨ 1099511627776 < b / gd a b then (0, 0, 10) else (a / gd a b, b / gd a b, 0)
theorem of_eq (a b : Int) (ha : in64 a) (hb : in64 b) : rats_Of.f a b = some (ratOf a b) := by
  unfold rats_Of.f ratOf
  rw [least_eq a b ha hb]
  simp only [Option.bind_some]
  by_cases h : a < 1 ∨ b < 1
  · rw [lt_bad h, if_pos h]
    simp
  · rw [lt_good (by omega) (by omega), if_neg h, great_eq]
    have h1 := quo_pos (a := a) (b := b) (by omega)
    simp only [Option.bind_some]
    have e : (a / gd a b == 0 && b / gd a b == 0) = false := by
      rw [beq_eq_false_iff_ne.mpr (by omega : a / gd a b ≠ 0)]; rfl
    rw [e]
    by_cases hg : 1099511627776 < a / gd a b ∨ 1099511627776 < b / gd a b
    · simp [hg]
    · simp [hg]

def may (a b : Int) : Bool := decide (1 ≤ a ∧ 1 ≤ b ∧ a ≤ 1099511627776 ∧ b ≤ 1099511627776 ∧ gd a b = 1)
theorem may_iff {a b : Int} : may a b = true ↔ 1 ≤ a ∧ 1 ≤ b ∧ a ≤ 1099511627776 ∧ b ≤ 1099511627776 ∧ gd a b = 1 := by unfold may; exact decide_eq_true_iff
theorem may_comm (a b : Int) : may a b = may b a := by
  unfold may
  rw [gd_comm a b, decide_eq_decide]
  omega
theorem may_eq (a b : Int) (ha : in64 a) (hb : in64 b) : rats_May.f a b = some (may a b) := by
  unfold rats_May.f
  rw [least_eq a b ha hb, great_eq]
  simp only [Option.bind_some]
  by_cases h : a < 1 ∨ b < 1
  · have e : may a b = false := by
      unfold may
      rw [decide_eq_false_iff_not]
      omega
    rw [lt_bad h, e]
    by_cases hz : (!(a == 0) || (!(b == 0))) = true
    · rw [if_pos hz]
      have hz2 : (a == 0 && b == 0) = false := by
        cases h1 : (a == 0) <;> cases h2 : (b == 0) <;> simp_all
      simp only [hz2]
      rfl
    · rw [if_neg hz]
  · have hz : (!(a == 0) || (!(b == 0))) = true := by
      rw [beq_eq_false_iff_ne.mpr (by omega : a ≠ 0)]
      rfl
    rw [if_pos hz, lt_good (by omega) (by omega)]
    have hg := gd_pos a b (by omega)
    have q1 := quo_one (a := a) (g := gd a b) (by omega) hg
    have q2 := quo_one (a := b) (g := gd a b) (by omega) hg
    simp only
    by_cases h1 : gd a b = 1
    · have e1 : (a == a / gd a b && b == b / gd a b) = true := by
        rw [q1.mpr h1, q2.mpr h1]; simp
      rw [if_pos e1]
      congr 1
      unfold may
      rw [← decide_not, decide_eq_decide]
      omega
    · have e1 : ¬ (a == a / gd a b && b == b / gd a b) = true := by
        intro hh
        rw [Bool.and_eq_true, beq_iff_eq] at hh
        exact h1 (q1.mp hh.1.symm)
      rw [if_neg e1]
      congr 1
      unfold may
      symm
      rw [decide_eq_false_iff_not]
      omega

def inv (a b : Int) : Int × Int := if may a b = true then (b, a) else (0, 0)
theorem inv_eq (a b : Int) (ha : in64 a) (hb : in64 b) : rats_Inverse.f a b = some (inv a b) := by
  unfold rats_Inverse.f inv
  rw [may_eq a b ha hb]
  simp only [Option.bind_some]
  split <;> rfl
def rby (n p q : Int) (up : Bool) : Int × Int := if may p q = true then byf n p q up else (0, 1)
theorem up_eq (n p q : Int) (hn : in64 n) (hp : in64 p) (hq : in64 q) : rats_Up.f n p q = some (rby n p q true) := by
  unfold rats_Up.f rby exacts_Up.f byo
  rw [may_eq p q hp hq, if_pos ⟨hn, hp, hq⟩]
  simp only [Option.bind_some]
  split <;> rfl
theorem down_eq (n p q : Int) (hn : in64 n) (hp : in64 p) (hq : in64 q) : rats_Down.f n p q = some (rby n p q false) := by
  unfold rats_Down.f rby exacts_Down.f byo
  rw [may_eq p q hp hq, if_pos ⟨hn, hp, hq⟩]
  simp only [Option.bind_some]
  split <;> rfl

/-- how much fits -/
def fits (n p q : Int) : Int := if n < 0 ∨ may p q = false then 0 else if n * q / p ≤ 1099511627776 then n * q / p else 1099511627776
theorem byf_nat (n p q : Int) (up : Bool) (hn : 0 ≤ n) (hp : 0 ≤ p) (hq : 1 ≤ q) : byf n p q up = fit (n * p / q + (if up = true ∧ n * p % q ≠ 0 then 1 else 0)) := by
  unfold byf
  rw [if_neg (by omega)]
  obtain ⟨N, rfl⟩ := Int.eq_ofNat_of_zero_le hn
  obtain ⟨P, rfl⟩ := Int.eq_ofNat_of_zero_le hp
  obtain ⟨Q, rfl⟩ := Int.eq_ofNat_of_zero_le (show 0 ≤ q by omega)
  simp only [Int.toNat_natCast]
  congr 1
  rw [Int.natCast_add, Int.natCast_ediv, Int.natCast_mul]
  congr 1
  have : ((N * P % Q : Nat) : Int) = (N : Int) * P % Q := by rw [Int.natCast_emod, Int.natCast_mul]
  have hiff : (N * P % Q ≠ 0) ↔ ((N : Int) * P % Q ≠ 0) := by rw [← this]; omega
  cases up
  · rw [if_neg (by simp), if_neg (by simp)]; rfl
  · by_cases hc : N * P % Q ≠ 0
    · rw [if_pos ⟨rfl, hc⟩, if_pos ⟨rfl, hiff.mp hc⟩]; rfl
    · rw [if_neg (fun h => hc h.2), if_neg (fun h => hc (hiff.mpr h.2))]; rfl
theorem in64_small {a : Int} (h1 : 0 ≤ a) (h2 : a ≤ 1099511627776) : in64 a := ⟨by omega, by omega⟩
theorem fits_eq (k : Nat) (n p q : Int) (hn : in64 n) (hp : in64 p) (hq : in64 q) : rats_Fits.f (k + 1) n p q = some (fits n p q) := by
  unfold rats_Fits.f fits
  by_cases h : n < 0
  · rw [if_pos h, if_pos (.inl h)]
    simp [rats_Fits.j0]
  · rw [if_neg h, may_eq p q hp hq]
    simp only [Option.bind_some]
    cases hm : may p q
    · rw [if_pos (.inr rfl)]
      simp [rats_Fits.j0]
    · rw [if_neg (by simp; omega)]
      have hm' : may q p = true := by rw [may_comm]; exact hm
      obtain ⟨g1, g2, g3, g4, g5⟩ := may_iff.mp hm
      simp only [rats_Fits.j0, inv_eq p q hp hq, Option.bind_some, inv, hm, if_true, Bool.not_true, Bool.false_eq_true, if_false, down_eq n q p hn hq hp, rby, hm']
      have hb := byf_nat n q p false (by omega) (by omega) (by omega)
      rw [if_neg (show ¬ (false = true ∧ n * q % p ≠ 0) by simp), Int.add_zero] at hb
      rw [hb]
      clear hb
      have h0 : 0 ≤ n * q / p := Int.ediv_nonneg (Int.mul_nonneg (by omega) (by omega)) (by omega)
      generalize n * q / p = v at *
      unfold mn
      by_cases hv : in64 v
      · rw [fit_in hv]
        simp only [if_true]
        congr 1
        split <;> split <;> omega
      · rw [fit_out hv]
        have hv' : ¬ v ≤ 1099511627776 := by
          unfold in64 at hv
          omega
        rw [if_neg (by decide), if_neg hv']

/-- what is raised is n at most, just where no more is taken than fits -/
theorem up_fits (n p q y : Int) (hn : in64 n) (h0 : 0 ≤ n) (hm : may p q = true) (hy : 0 ≤ y) : ((rby y p q true).2 = 0 ∧ (rby y p q true).1 ≤ n) ↔ y ≤ n * q / p := by
  obtain ⟨g1, g2, g3, g4, g5⟩ := may_iff.mp hm
  unfold rby
  rw [if_pos hm, byf_nat y p q true hy (by omega) (by omega)]
  have hc : (y * p / q + (if true = true ∧ y * p % q ≠ 0 then 1 else 0) ≤ n) ↔ y ≤ n * q / p := by
    rw [Int.le_ediv_iff_mul_le (by omega)]
    have e : q * (y * p / q) + y * p % q = y * p := Int.mul_ediv_add_emod (y * p) q
    have l1 : 0 ≤ y * p % q := Int.emod_nonneg _ (by omega)
    have l2 : y * p % q < q := Int.emod_lt_of_pos _ (by omega)
    generalize y * p / q = u at *
    generalize y * p % q = r at *
    generalize y * p = t at *
    have e2 : n * q = q * n := Int.mul_comm _ _
    rw [e2]
    have e3 : q * n - q * u = q * (n - u) := by rw [Int.mul_sub]
    generalize hd : n - u = d at *
    constructor
    · intro hh
      split at hh
      · have : q * 1 ≤ q * d := Int.mul_le_mul_of_nonneg_left (by omega) (by omega)
        omega
      · rename_i hr
        have hr0 : r = 0 := by simp at hr; omega
        have : q * 0 ≤ q * d := Int.mul_le_mul_of_nonneg_left (by omega) (by omega)
        omega
    · intro hh
      have hd0 : 0 ≤ d := by
        by_cases hneg : d < 0
        · have : q * d ≤ q * (-1) := Int.mul_le_mul_of_nonneg_left (by omega) (by omega)
          omega
        · omega
      split
      · rename_i hr
        have hr0 : r ≠ 0 := hr.2
        by_cases hd1 : d = 0
        · subst hd1
          omega
        · omega
      · omega
  rw [← hc]
  have hpos : 0 ≤ y * p / q + (if true = true ∧ y * p % q ≠ 0 then 1 else 0) := by
    have := Int.ediv_nonneg (Int.mul_nonneg hy (show 0 ≤ p by omega)) (show 0 ≤ q by omega)
    split <;> omega
  generalize y * p / q + (if true = true ∧ y * p % q ≠ 0 then 1 else 0) = v at *
  by_cases hv : in64 v
  · rw [fit_in hv]
    simp
  · rw [fit_out hv]
    have := hn.2
    unfold in64 at hv
    constructor
    · intro h; exact absurd h.1 (by decide)
    · intro h; omega

/-- which is less -/
def cmpi (x y : Int) : Int := if x < y then -1 else if y < x then 1 else 0
def cmpr (a b c d : Int) : Int := if may a b = true ∧ may c d = true then cmpi (a * d) (c * b) else 0
theorem cmpu_eq (x y : Int) : cmp_Compare_uint64.f x y = some (cmpi x y) := by
  unfold cmp_Compare_uint64.f cmp_isNaN_uint64.f cmpi
  simp
  split <;> (try split) <;> rfl
theorem or_eq (k : Nat) (x y : Int) : cmp_Or_int.f (k + 3) [x, y] = some (if x = 0 then y else x) := by
  unfold cmp_Or_int.f
  simp only [cmp_Or_int.l0, List.length_cons, List.length_nil, rd]
  by_cases hx : x = 0
  · subst hx
    by_cases hy : y = 0
    · subst hy
      simp [wrap64]
    · simp [wrap64, hy]
  · simp [wrap64, hx]
theorem cmp_words (x y : Int) : (if cmpi (x / 18446744073709551616) (y / 18446744073709551616) = 0 then cmpi (x % 18446744073709551616) (y % 18446744073709551616) else cmpi (x / 18446744073709551616) (y / 18446744073709551616)) = cmpi x y := by
  unfold cmpi
  omega
theorem mul_eq (x y : Int) (h1 : 1 ≤ x) (h2 : x ≤ 1099511627776) (h3 : 1 ≤ y) (h4 : y ≤ 1099511627776) : bits_Mul64.f (IntKind.u64.wrap x) (IntKind.u64.wrap y) = some (x * y / 18446744073709551616, x * y % 18446744073709551616) := by
  have e1 : IntKind.u64.wrap x = x := by rw [IntKind.wrap_u64]; omega
  have e2 : IntKind.u64.wrap y = y := by rw [IntKind.wrap_u64]; omega
  rw [e1, e2]
  unfold bits_Mul64.f
  rw [if_pos ⟨⟨by omega, by omega⟩, by omega, by omega⟩]
theorem compare_eq (k : Nat) (a b c d : Int) (ha : in64 a) (hb : in64 b) (hc : in64 c) (hd : in64 d) : rats_Compare.f (k + 4) a b c d = some (cmpr a b c d) := by
  unfold rats_Compare.f cmpr
  rw [may_eq a b ha hb, may_eq c d hc hd]
  simp only [Option.bind_some]
  cases h1 : may a b
  · simp [rats_Compare.j0]
  · cases h2 : may c d
    · simp [rats_Compare.j0]
    · obtain ⟨g1, g2, g3, g4, g5⟩ := may_iff.mp h1
      obtain ⟨k1, k2, k3, k4, k5⟩ := may_iff.mp h2
      simp only [rats_Compare.j0, Bool.not_true, Bool.false_eq_true, if_false, if_true, and_self, mul_eq a d g1 g3 k2 k4, mul_eq c b k1 k3 g2 g4, Option.bind_some, cmpu_eq, or_eq, cmp_words]
end Go.Proofs.Ytbeiphfmdmccmaa.P
