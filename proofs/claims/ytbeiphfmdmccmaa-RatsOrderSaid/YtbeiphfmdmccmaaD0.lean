/-
  Long division by halves of a word (the plain law of math/bits.Div64). No program in sight.
-/
import Derived.Lib.BitFns
namespace Go.Proofs.Ytbeiphfmdmccmaa.A
set_option linter.unusedVariables false
set_option linter.unusedSimpArgs false
open Go.Lib (bitLen bitLen_half)

theorem bitLen_spec : ∀ (n x : Nat), x ≤ n → x ≠ 0 → x < 2 ^ 64 → 1 ≤ bitLen x ∧ 2 ^ (bitLen x - 1) ≤ x ∧ x < 2 ^ bitLen x
  | 0, x, h, h0, _ => by omega
  | n + 1, x, h, h0, hx => by
    rw [bitLen_half x h0 hx]
    by_cases h2 : x / 2 = 0
    · have : x = 1 := by omega
      subst this
      decide
    · obtain ⟨h3, h4, h5⟩ := bitLen_spec n (x / 2) (by omega) h2 (by omega)
      generalize bitLen (x / 2) = b at *
      obtain ⟨c, rfl⟩ : ∃ c, b = c + 1 := ⟨b - 1, by omega⟩
      rw [show 1 + (c + 1) - 1 = c + 1 by omega, show 1 + (c + 1) = c + 1 + 1 by omega, Nat.pow_succ 2 (c + 1)]
      rw [show c + 1 - 1 = c by omega] at h4
      have : 2 ^ (c + 1) = 2 * 2 ^ c := by rw [Nat.pow_succ]; omega
      omega
theorem norm (y : Nat) (h0 : 0 < y) (hy : y < 18446744073709551616) : ∃ s : Nat, s ≤ 63 ∧ bitLen y = 64 - s ∧ 9223372036854775808 ≤ y * 2 ^ s ∧ y * 2 ^ s < 18446744073709551616 := by
  obtain ⟨h1, h2, h3⟩ := bitLen_spec y y (Nat.le_refl _) (by omega) (by omega)
  have hb : bitLen y ≤ 64 := by
    apply Nat.le_of_not_lt
    intro h
    have : 2 ^ 64 ≤ 2 ^ (bitLen y - 1) := Nat.pow_le_pow_right (by omega) (by omega)
    omega
  generalize bitLen y = b at *
  refine ⟨64 - b, by omega, by omega, ?_, ?_⟩
  · have : 2 ^ (b - 1) * 2 ^ (64 - b) = 2 ^ 63 := by rw [← Nat.pow_add]; congr 1; omega
    have := Nat.mul_le_mul_right (2 ^ (64 - b)) h2
    omega
  · have : 2 ^ b * 2 ^ (64 - b) = 2 ^ 64 := by rw [← Nat.pow_add]; congr 1; omega
    have := Nat.mul_lt_mul_of_pos_right h3 (Nat.pos_of_ne_zero (by simp) : 0 < 2 ^ (64 - b))
    omega

/-- one digit: u·2^32 + d by y = a·2^32 + b -/
structure Dig (u y a b d q : Nat) : Prop where
  hy : y = a * 4294967296 + b
  ha : 2147483648 ≤ a ∧ a < 4294967296
  hb : b < 4294967296
  hu : u < y
  hd : d < 4294967296
  hq : q = (u * 4294967296 + d) / y
section
variable {u y a b d q : Nat}
theorem Dig.le (D : Dig u y a b d q) : q * y ≤ u * 4294967296 + d ∧ u * 4294967296 + d < q * y + y := by
  have h := Nat.div_add_mod (u * 4294967296 + d) y
  have h2 := Nat.mod_lt (u * 4294967296 + d) (show 0 < y by have := D.hu; omega)
  rw [← D.hq, Nat.mul_comm] at h
  omega
theorem Dig.lt (D : Dig u y a b d q) : q < 4294967296 := by
  apply Nat.lt_of_not_le
  intro h
  have h1 := D.le.1
  have h2 := Nat.mul_le_mul_right y h
  have h3 := D.hu
  have h4 := D.hd
  omega
/-- what the loop holds -/
def Dig.Inv (u a q m r : Nat) : Prop := u = m * a + r ∧ q ≤ m ∧ r < 4294967296 ∧ m ≤ 4294967297
theorem Dig.start (D : Dig u y a b d q) : Dig.Inv u a q (u / a) (u % a) := by
  have ha := D.ha
  have hb := D.hb
  have hd := D.hd
  have hu := D.hu
  have hy := D.hy
  have hq := D.le.1
  refine ⟨by rw [Nat.mul_comm, Nat.div_add_mod], ?_, by have := Nat.mod_lt u (show 0 < a by omega); omega, ?_⟩
  · rw [Nat.le_div_iff_mul_le (by omega)]
    rw [hy, Nat.mul_add, ← Nat.mul_assoc] at hq
    generalize q * b = z at hq
    omega
  · have h : u < (4294967297 + 1) * a := by
      rw [Nat.add_mul]; omega
    exact Nat.le_of_lt_succ ((Nat.div_lt_iff_lt_mul (by omega)).2 h)
theorem Dig.down (D : Dig u y a b d q) {m r : Nat} (I : Dig.Inv u a q m r) (h : 4294967296 ≤ m ∨ 4294967296 * r + d < m * b) : q ≤ m - 1 ∧ 1 ≤ m ∧ u = (m - 1) * a + (r + a) := by
  obtain ⟨h1, h2, h3, h4⟩ := I
  have hlt := D.lt
  have key : q < m := by
    rcases h with h | h
    · omega
    · apply Nat.lt_of_not_le
      intro hm
      obtain rfl : q = m := by omega
      have := D.le.1
      rw [D.hy, Nat.mul_add, ← Nat.mul_assoc, h1, Nat.add_mul] at this
      omega
  refine ⟨by omega, by omega, ?_⟩
  obtain ⟨k, rfl⟩ : ∃ k, m = k + 1 := ⟨m - 1, by omega⟩
  rw [show k + 1 - 1 = k by omega, h1, Nat.add_mul]
  omega
theorem Dig.stop (D : Dig u y a b d q) {m r : Nat} (I : u = m * a + r ∧ q ≤ m) (h : m * b ≤ 4294967296 * r + d) : m = q := by
  have h2 := D.le.2
  have : m < q + 1 := by
    apply Nat.lt_of_mul_lt_mul_right (a := y)
    rw [Nat.add_mul, Nat.one_mul]
    refine Nat.lt_of_le_of_lt ?_ h2
    rw [I.1]
    conv => lhs; rw [D.hy]
    rw [Nat.mul_add, ← Nat.mul_assoc, Nat.add_mul]
    omega
  omega
theorem Dig.break_ (D : Dig u y a b d q) {m r : Nat} (I : u = m * a + r ∧ q ≤ m) (hm : m ≤ 4294967296) (hr : 4294967296 ≤ r) : m = q := by
  refine D.stop I ?_
  have h1 := Nat.mul_le_mul hm (show b ≤ 4294967295 by have := D.hb; omega)
  omega
theorem Dig.rest (D : Dig u y a b d q) : (u * 4294967296 + d) - q * y < y ∧ q * y ≤ u * 4294967296 + d := by
  have := D.le
  omega
end

theorem div_final (N y s Y Q r : Nat) (hY : Y = y * 2 ^ s) (e : N * 2 ^ s = Q * Y + r) (hr : r < Y) (hy : 0 < y) : N / y = Q ∧ r / 2 ^ s = N % y := by
  have hp : 0 < 2 ^ s := Nat.pos_of_ne_zero (by simp)
  have hYp : 0 < Y := by rw [hY]; exact Nat.mul_pos hy hp
  constructor
  · rw [← Nat.mul_div_mul_right N y hp, ← hY, e, Nat.mul_comm Q, Nat.mul_add_div hYp, Nat.div_eq_of_lt hr, Nat.add_zero]
  · have e2 : r = N * 2 ^ s % Y := by rw [e, Nat.mul_comm Q, Nat.mul_add_mod, Nat.mod_eq_of_lt hr]
    rw [e2, hY, Nat.mul_mod_mul_right, Nat.mul_div_cancel _ hp]
/-- the whole -/
theorem div_whole (N y s Y u q1 u21 q0 d1 d0 : Nat) (hY : Y = y * 2 ^ s) (hu : u = N * 2 ^ s / 18446744073709551616) (hd : d1 * 4294967296 + d0 = N * 2 ^ s % 18446744073709551616)
    (h21 : u * 4294967296 + d1 = q1 * Y + u21) (h0 : u21 * 4294967296 + d0 < q0 * Y + Y) (h1 : q0 * Y ≤ u21 * 4294967296 + d0) (hy : 0 < y) :
    N / y = q1 * 4294967296 + q0 ∧ (u21 * 4294967296 + d0 - q0 * Y) / 2 ^ s = N % y := by
  have hp : 0 < 2 ^ s := Nat.pos_of_ne_zero (by simp)
  have hN := Nat.div_add_mod (N * 2 ^ s) 18446744073709551616
  rw [← hu, ← hd] at hN
  have e : N * 2 ^ s = (q1 * 4294967296 + q0) * Y + (u21 * 4294967296 + d0 - q0 * Y) := by
    rw [Nat.add_mul, Nat.mul_right_comm]
    have : (u * 4294967296 + d1) * 4294967296 = (q1 * Y + u21) * 4294967296 := by rw [h21]
    rw [Nat.add_mul, Nat.add_mul] at this
    omega
  exact div_final N y s Y _ _ hY e (by omega) hy
end Go.Proofs.Ytbeiphfmdmccmaa.A
