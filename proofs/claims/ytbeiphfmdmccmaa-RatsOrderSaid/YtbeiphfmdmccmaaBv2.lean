/-
  More on numbers as bits: taking off, comparing, shifting, single bits of a number of 64 bits. No program in sight.
-/
import Derived.Test.YtbeiphfmdmccmaaBv
namespace Go.Proofs.Ytbeiphfmdmccmaa.A
set_option linter.unusedVariables false
set_option linter.unusedSimpArgs false

theorem bit_le (b : Bool) : b.toNat ≤ 1 := by cases b <;> simp
theorem less_digit (n d k : Nat) : ((n + d).testBit k).toNat + 2 * carry n d (k + 1) = carry n d k + (n.testBit k).toNat + (d.testBit k).toNat := by
  rw [carry_step, add_bit]
  generalize carry n d k + (n.testBit k).toNat + (d.testBit k).toNat = x
  rcases Nat.mod_two_eq_zero_or_one x with h | h <;> simp [h] <;> omega
theorem less_set (d k : Nat) (c : Int) (hk : k < 192) (hc : c = (d.testBit k).toNat) : (bv (d % 2 ^ k)).setIfInBounds k (.bool (c == 1)) = bv (d % 2 ^ (k + 1)) := by
  refine bv_set fun i _ => ?_
  rw [Nat.testBit_mod_two_pow, Nat.testBit_mod_two_pow]
  by_cases hki : k = i
  · subst hki
    rw [if_pos rfl, decide_eq_true (show k < k + 1 by omega), Bool.true_and, hc]
    cases d.testBit k <;> rfl
  · rw [if_neg hki]
    by_cases h1 : i < k
    · simp [h1, show i < k + 1 by omega]
    · simp [h1, show ¬ i < k + 1 by omega]
theorem shift_set (m b k : Nat) (hb : b ≤ k) : (bv ((m <<< b) % 2 ^ k)).setIfInBounds k (.bool (m.testBit (k - b))) = bv ((m <<< b) % 2 ^ (k + 1)) := by
  refine bv_set fun i _ => ?_
  rw [Nat.testBit_mod_two_pow, Nat.testBit_mod_two_pow]
  by_cases hki : k = i
  · subst hki
    rw [if_pos rfl, decide_eq_true (show k < k + 1 by omega), Bool.true_and, Nat.testBit_shiftLeft]
    simp [hb]
  · rw [if_neg hki]
    by_cases h1 : i < k
    · simp [h1, show i < k + 1 by omega]
    · simp [h1, show ¬ i < k + 1 by omega]
theorem shift_start (m b : Nat) : (m <<< b) % 2 ^ b = 0 := by
  rw [Nat.shiftLeft_eq]; exact Nat.mul_mod_left _ _

/-- above place k the two have the same bits -/
def Same (m n k : Nat) : Prop := ∀ j, k ≤ j → m.testBit j = n.testBit j
theorem same_top {m n : Nat} (hm : m < 2 ^ 192) (hn : n < 2 ^ 192) : Same m n 192 := fun j hj => by
  rw [Nat.testBit_lt_two_pow (Nat.lt_of_lt_of_le hm (Nat.pow_le_pow_right (by omega) hj)), Nat.testBit_lt_two_pow (Nat.lt_of_lt_of_le hn (Nat.pow_le_pow_right (by omega) hj))]
theorem same_step {m n k : Nat} (h : Same m n (k + 1)) (e : m.testBit k = n.testBit k) : Same m n k := fun j hj => by
  rcases Nat.lt_or_ge k j with h1 | h1
  · exact h j h1
  · obtain rfl : j = k := by omega
    exact e
theorem same_zero {m n : Nat} (h : Same m n 0) : m = n := Nat.eq_of_testBit_eq fun i => h i (by omega)
theorem lt_of_bit {m n k : Nat} (h : Same m n (k + 1)) (h1 : m.testBit k = true) (h2 : n.testBit k = false) : n < m := by
  have e : m / 2 ^ (k + 1) = n / 2 ^ (k + 1) := Nat.eq_of_testBit_eq fun i => by
    rw [Nat.testBit_div_two_pow, Nat.testBit_div_two_pow]
    exact h _ (by omega)
  have hm := Nat.div_add_mod m (2 ^ (k + 1))
  have hn := Nat.div_add_mod n (2 ^ (k + 1))
  rw [mod_pow_succ', h1] at hm
  rw [mod_pow_succ', h2] at hn
  have hp : 0 < 2 ^ k := Nat.pos_of_ne_zero (by simp)
  have := Nat.mod_lt n hp
  rw [e] at hm
  simp at hm hn
  omega
theorem same_gt {m n k : Nat} (h : Same m n (k + 1)) (e : m.testBit k ≠ n.testBit k) : m.testBit k = decide (n < m) := by
  cases h1 : m.testBit k with
  | true =>
    have h2 : n.testBit k = false := by cases h2 : n.testBit k <;> simp_all
    exact (decide_eq_true (lt_of_bit h h1 h2)).symm
  | false =>
    have h2 : n.testBit k = true := by cases h2 : n.testBit k <;> simp_all
    have := lt_of_bit (fun j hj => (h j hj).symm) h2 h1
    exact (decide_eq_false (by omega)).symm

theorem bit_of_u64 (u k : Nat) : (((u / 2 ^ k % 2 : Nat) : Int) == 1) = u.testBit k := by
  rw [Nat.testBit_eq_decide_div_mod_eq, Bool.eq_iff_iff]
  simp only [beq_iff_eq, decide_eq_true_eq]
  omega
theorem wh_set {s : Bool} {m n k : Nat} {b : Bool} (h : ∀ i, i < 192 → (if k = i then b else m.testBit i) = n.testBit i) : (wh s m).setIfInBounds (1 + k) (.bool b) = wh s n := by
  have e := bv_set h
  unfold wh
  rw [← e]
  apply Array.ext_getElem?
  intro j
  rw [Array.getElem?_setIfInBounds]
  simp only [Array.getElem?_append, Array.size_append, bv_size, List.size_toArray, List.length_cons, List.length_nil, Nat.zero_add]
  rw [Array.getElem?_setIfInBounds]
  by_cases h1 : 1 + k = j
  · subst h1
    simp [bv_size]
    by_cases h2 : k < 192
    · simp [h2]; omega
    · simp [h2]; omega
  · rw [if_neg h1]
    by_cases h3 : j < 1
    · simp [h3]
    · rw [if_neg h3, if_neg h3, if_neg (by omega)]
theorem whbits_set (s : Bool) (u k : Nat) : (wh s (u % 2 ^ k)).setIfInBounds (1 + k) (.bool (u.testBit k)) = wh s (u % 2 ^ (k + 1)) := by
  refine wh_set fun i _ => ?_
  rw [Nat.testBit_mod_two_pow, Nat.testBit_mod_two_pow]
  by_cases hki : k = i
  · subst hki
    rw [if_pos rfl, decide_eq_true (show k < k + 1 by omega), Bool.true_and]
  · rw [if_neg hki]
    by_cases h1 : i < k
    · simp [h1, show i < k + 1 by omega]
    · simp [h1, show ¬ i < k + 1 by omega]
end Go.Proofs.Ytbeiphfmdmccmaa.A
