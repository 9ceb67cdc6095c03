/-
  Bits as the reference keeps them: an array of 192 bools reads as a number below 2^192. No program in sight.
-/
import Derived.WalkKit
namespace Go.Proofs.Ytbeiphfmdmccmaa.A
set_option linter.unusedVariables false
set_option linter.unusedSimpArgs false

def bv (n : Nat) : Array Value := ((List.range 192).map fun i => Value.bool (n.testBit i)).toArray

theorem bv_size (n : Nat) : (bv n).size = 192 := by simp [bv]
theorem bv_get (n : Nat) {i : Nat} (h : i < 192) : (bv n)[i]? = some (.bool (n.testBit i)) := by simp [bv, h]
theorem bv_none (n : Nat) {i : Nat} (h : 192 ≤ i) : (bv n)[i]? = none := by simp [bv, h]
theorem bv_ext {cs : Array Value} {n : Nat} (hs : cs.size = 192) (h : ∀ i, i < 192 → cs[i]? = some (.bool (n.testBit i))) : cs = bv n := by
  apply Array.ext_getElem?
  intro i
  by_cases hi : i < 192
  · rw [h i hi, bv_get n hi]
  · rw [bv_none n (by omega)]; simp; omega
theorem bv_congr {m n : Nat} (h : ∀ i, i < 192 → m.testBit i = n.testBit i) : bv m = bv n :=
  bv_ext (bv_size m) fun i hi => by rw [bv_get m hi, h i hi]
theorem bv_set {m n : Nat} {k : Nat} {b : Bool} (h : ∀ i, i < 192 → (if k = i then b else m.testBit i) = n.testBit i) : (bv m).setIfInBounds k (.bool b) = bv n := by
  apply bv_ext (by simp [bv_size])
  intro i hi
  rw [Array.getElem?_setIfInBounds]
  by_cases hk : k = i
  · subst hk
    rw [if_pos rfl, if_pos (by simpa [bv_size] using hi), ← h k hi, if_pos rfl]
  · rw [if_neg hk, bv_get m hi, ← h i hi, if_neg hk]
theorem bv_one (n : Nat) : ∀ v ∈ (bv n).toList, v.oneCell' = true := by
  intro v hv
  simp [bv] at hv
  obtain ⟨i, _, rfl⟩ := hv
  rfl
theorem bv_mod (n : Nat) : bv (n % 2 ^ 192) = bv n := bv_congr fun i hi => by rw [Nat.testBit_mod_two_pow]; simp [hi]
theorem bv_inj {m n : Nat} (h : bv m = bv n) (hm : m < 2 ^ 192) (hn : n < 2 ^ 192) : m = n := by
  apply Nat.eq_of_testBit_eq
  intro i
  by_cases hi : i < 192
  · have := congrArg (fun c : Array Value => c[i]?) h
    simpa [bv_get _ hi] using this
  · rw [Nat.testBit_lt_two_pow (Nat.lt_of_lt_of_le hm (Nat.pow_le_pow_right (by omega) (by omega))), Nat.testBit_lt_two_pow (Nat.lt_of_lt_of_le hn (Nat.pow_le_pow_right (by omega) (by omega)))]

/-- a whole number as the reference keeps it: its sign, then its bits -/
def wh (b : Bool) (n : Nat) : Array Value := #[Value.bool b] ++ bv n
theorem wh_size (b : Bool) (n : Nat) : (wh b n).size = 193 := by simp [wh, bv_size]
theorem wh_zero (b : Bool) (n : Nat) : (wh b n)[0]? = some (.bool b) := by rw [wh, Array.getElem?_append, if_pos (by simp)]; simp
theorem wh_get (b : Bool) (n : Nat) {i : Nat} (h : i < 192) : (wh b n)[1 + i]? = some (.bool (n.testBit i)) := by
  rw [wh, Array.getElem?_append, if_neg (by simp)]
  simpa using bv_get n h
theorem wh_bv (b : Bool) (n j : Nat) (_ : j < (bv n).size) : (wh b n)[1 + j]? = (bv n)[j]? := by
  rw [wh, Array.getElem?_append, if_neg (by simp)]
  simp
theorem wh_one (b : Bool) (n : Nat) : ∀ v ∈ (wh b n).toList, v.oneCell' = true := by
  intro v hv
  simp only [wh, Array.toList_append, List.mem_append] at hv
  rcases hv with hv | hv
  · simp at hv; subst hv; rfl
  · exact bv_one n v hv
attribute [irreducible] bv wh

theorem b2n (b : Bool) : b.toNat = if b then 1 else 0 := by cases b <;> rfl
/-- what is carried into place k -/
def carry (m n k : Nat) : Nat := (m % 2 ^ k + n % 2 ^ k) / 2 ^ k
theorem carry_zero (m n : Nat) : carry m n 0 = 0 := by simp [carry, Nat.mod_one]
theorem mod_pow_succ' (m k : Nat) : m % 2 ^ (k + 1) = m % 2 ^ k + 2 ^ k * (m.testBit k).toNat := by
  rw [Nat.mod_pow_succ, Nat.toNat_testBit]
theorem carry_step (m n k : Nat) : carry m n (k + 1) = (carry m n k + (m.testBit k).toNat + (n.testBit k).toNat) / 2 := by
  unfold carry
  rw [mod_pow_succ', mod_pow_succ', Nat.pow_succ, ← Nat.div_div_eq_div_mul]
  congr 1
  have hp : 0 < 2 ^ k := Nat.pos_of_ne_zero (by simp)
  rw [show m % 2 ^ k + 2 ^ k * (m.testBit k).toNat + (n % 2 ^ k + 2 ^ k * (n.testBit k).toNat) = (m % 2 ^ k + n % 2 ^ k) + 2 ^ k * ((m.testBit k).toNat + (n.testBit k).toNat) by rw [Nat.mul_add]; omega]
  rw [Nat.add_mul_div_left _ _ hp]
  omega
theorem carry_le (m n k : Nat) : carry m n k ≤ 1 := by
  unfold carry
  have hp : 0 < 2 ^ k := Nat.pos_of_ne_zero (by simp)
  have h1 := Nat.mod_lt m hp
  have h2 := Nat.mod_lt n hp
  exact Nat.le_of_lt_succ ((Nat.div_lt_iff_lt_mul hp).2 (by omega))
theorem add_bit (m n k : Nat) : (m + n).testBit k = ((carry m n k + (m.testBit k).toNat + (n.testBit k).toNat) % 2 == 1) := by
  have hp : 0 < 2 ^ k := Nat.pos_of_ne_zero (by simp)
  have e : (m + n) / 2 ^ k = carry m n k + m / 2 ^ k + n / 2 ^ k := by
    unfold carry
    conv => lhs; rw [← Nat.div_add_mod m (2 ^ k), ← Nat.div_add_mod n (2 ^ k)]
    rw [show 2 ^ k * (m / 2 ^ k) + m % 2 ^ k + (2 ^ k * (n / 2 ^ k) + n % 2 ^ k) = (m % 2 ^ k + n % 2 ^ k) + 2 ^ k * (m / 2 ^ k + n / 2 ^ k) by rw [Nat.mul_add]; omega]
    rw [Nat.add_mul_div_left _ _ hp]
    omega
  rw [Nat.testBit_eq_decide_div_mod_eq, e, Nat.toNat_testBit, Nat.toNat_testBit]
  have : (carry m n k + m / 2 ^ k + n / 2 ^ k) % 2 = (carry m n k + m / 2 ^ k % 2 + n / 2 ^ k % 2) % 2 := by omega
  rw [this]
  rfl
theorem plus_set (m n k : Nat) (hk : k < 192) (c : Int) (hc : c = carry m n k + (m.testBit k).toNat + (n.testBit k).toNat) :
    (bv ((m + n) % 2 ^ k)).setIfInBounds k (.bool (c % 2 == 1)) = bv ((m + n) % 2 ^ (k + 1)) := by
  refine bv_set fun i _ => ?_
  rw [Nat.testBit_mod_two_pow, Nat.testBit_mod_two_pow]
  by_cases hki : k = i
  · subst hki
    rw [if_pos rfl, add_bit, decide_eq_true (show k < k + 1 by omega), Bool.true_and, hc]
    rw [Bool.eq_iff_iff]
    simp only [beq_iff_eq]
    omega
  · rw [if_neg hki]
    by_cases h1 : i < k
    · simp [h1, show i < k + 1 by omega]
    · simp [h1, show ¬ i < k + 1 by omega]
end Go.Proofs.Ytbeiphfmdmccmaa.A
