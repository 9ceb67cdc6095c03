/-
  The plain law of bytes that end with their sum: bit by bit; with bits turned that lie within 32 neighbouring ones they do not.
-/
import Derived.Test.YtccmeiflahnleaaDoorS7
namespace Go.Proofs.YtccmeiflahnleaaDoor.A
set_option linter.unusedVariables false
set_option linter.unusedSimpArgs false

theorem xor_zero_iff {a b : Nat} : a ^^^ b = 0 ↔ a = b := by
  constructor
  · intro h
    have := congrArg (· ^^^ b) h
    simp only [Nat.xor_assoc, Nat.xor_self, Nat.xor_zero, Nat.zero_xor] at this
    exact this
  · rintro rfl
    exact Nat.xor_self _
def stepb (n : Nat) (b : Bool) : Nat := (n >>> 1) ^^^ (if n.testBit 0 != b then 3988292384 else 0)
/-- bits, one behind the other -/
def R (n : Nat) (l : List Bool) : Nat := l.foldl stepb n
def bitsK (c k : Nat) : List Bool := (List.range k).map fun i => c.testBit i

theorem low16 (x : Nat) : x &&& 15 = (x.testBit 0).toNat + 2 * (x.testBit 1).toNat + 4 * (x.testBit 2).toNat + 8 * (x.testBit 3).toNat := by
  have e : x &&& 15 = x % 16 := Nat.and_two_pow_sub_one_eq_mod x 4
  have h : ∀ k, (x.testBit k).toNat = x / 2 ^ k % 2 := fun k => by
    rw [Nat.testBit_eq_decide_div_mod_eq]
    by_cases h : x / 2 ^ k % 2 = 1
    · simp [h]
    · simp [h]; omega
  rw [e, h, h, h, h]
  simp only [Nat.reducePow, Nat.div_one]
  omega
theorem stepb_eq (n k m : Nat) (b : Bool) (hm : m.testBit 0 = false) : stepb ((n >>> k) ^^^ m) b = (n >>> (k + 1)) ^^^ ((m >>> 1) ^^^ (if n.testBit k != b then 3988292384 else 0)) := by
  unfold stepb
  rw [Nat.testBit_xor, hm, Nat.testBit_shiftRight, Nat.shiftRight_xor_distrib, ← Nat.shiftRight_add, Nat.xor_assoc]
  simp
theorem nib_bits (n c : Nat) : nib n c = R n [c.testBit 0, c.testBit 1, c.testBit 2, c.testBit 3] := by
  unfold nib
  rw [low16]
  simp only [Nat.testBit_xor]
  have e0 : n = (n >>> 0) ^^^ 0 := by simp
  unfold R
  simp only [List.foldl_cons, List.foldl_nil]
  conv => rhs; rw [e0]
  rw [stepb_eq n 0 0 _ (by decide)]
  have hx : ∀ i, (n.testBit i ^^ c.testBit i) = (n.testBit i != c.testBit i) := fun i => rfl
  simp only [hx]
  rw [stepb_eq n 1 _ _ (by cases (n.testBit 0 != c.testBit 0) <;> decide)]
  rw [stepb_eq n 2 _ _ (by cases (n.testBit 0 != c.testBit 0) <;> cases (n.testBit 1 != c.testBit 1) <;> decide)]
  rw [stepb_eq n 3 _ _ (by cases (n.testBit 0 != c.testBit 0) <;> cases (n.testBit 1 != c.testBit 1) <;> cases (n.testBit 2 != c.testBit 2) <;> decide)]
  refine congrArg _ ?_
  cases (n.testBit 0 != c.testBit 0) <;> cases (n.testBit 1 != c.testBit 1) <;> cases (n.testBit 2 != c.testBit 2) <;> cases (n.testBit 3 != c.testBit 3) <;> decide
theorem R_append (n : Nat) (a b : List Bool) : R n (a ++ b) = R (R n a) b := List.foldl_append
theorem crcb_bits (n c : Nat) : crcb n c = R n (bitsK c 8) := by
  unfold crcb
  rw [nib_bits, nib_bits, ← R_append]
  congr 1
/-- all bits of bytes -/
def bitsL (p : List Nat) : List Bool := (List.range (8 * p.length)).map fun j => (p.getD (j / 8) 0).testBit (j % 8)
theorem bitsL_nil : bitsL [] = [] := rfl
theorem bitsL_cons (c : Nat) (r : List Nat) : bitsL (c :: r) = bitsK c 8 ++ bitsL r := by
  unfold bitsL bitsK
  rw [List.length_cons, show 8 * (r.length + 1) = 8 + 8 * r.length by omega, List.range_add, List.map_append, List.map_map]
  refine congr (congrArg _ ?_) ?_
  · apply List.map_congr_left
    intro i hi
    have := List.mem_range.1 hi
    rw [show i / 8 = 0 by omega, show i % 8 = i by omega]
    rfl
  · apply List.map_congr_left
    intro i hi
    simp only [Function.comp]
    rw [show (8 + i) / 8 = i / 8 + 1 by omega, show (8 + i) % 8 = i % 8 by omega]
    rfl
theorem bitsL_len (p : List Nat) : (bitsL p).length = 8 * p.length := by unfold bitsL; simp
theorem foldl_bits (p : List Nat) : ∀ n, p.foldl crcb n = R n (bitsL p) := by
  induction p with
  | nil => intro n; rfl
  | cons c r ih => intro n; rw [List.foldl_cons, ih, bitsL_cons, R_append, crcb_bits]
theorem bitsL_append (p q : List Nat) : bitsL (p ++ q) = bitsL p ++ bitsL q := by
  induction p with
  | nil => rfl
  | cons c r ih => rw [List.cons_append, bitsL_cons, bitsL_cons, ih, List.append_assoc]

theorem stepb_lin (a b : Nat) (x y : Bool) : stepb (a ^^^ b) (x != y) = stepb a x ^^^ stepb b y := by
  unfold stepb
  rw [Nat.testBit_xor, Nat.shiftRight_xor_distrib]
  have hx : (((a.testBit 0) ^^ (b.testBit 0)) != (x != y)) = ((a.testBit 0 != x) != (b.testBit 0 != y)) := by
    cases a.testBit 0 <;> cases b.testBit 0 <;> cases x <;> cases y <;> rfl
  rw [hx]
  have e : (if ((a.testBit 0 != x) != (b.testBit 0 != y)) = true then 3988292384 else 0) = (if (a.testBit 0 != x) = true then 3988292384 else 0) ^^^ (if (b.testBit 0 != y) = true then 3988292384 else (0 : Nat)) := by
    cases (a.testBit 0 != x) <;> cases (b.testBit 0 != y) <;> decide
  rw [e]
  generalize a >>> 1 = p
  generalize b >>> 1 = q
  generalize (if (a.testBit 0 != x) = true then 3988292384 else 0) = r
  generalize (if (b.testBit 0 != y) = true then 3988292384 else 0) = s
  rw [Nat.xor_assoc, Nat.xor_assoc]
  congr 1
  rw [← Nat.xor_assoc, ← Nat.xor_assoc, Nat.xor_comm q r]
theorem R_lin (xs : List Bool) : ∀ (ys : List Bool) (a b : Nat), xs.length = ys.length → R (a ^^^ b) (List.zipWith (· != ·) xs ys) = R a xs ^^^ R b ys := by
  induction xs with
  | nil => intro ys a b h; cases ys with
    | nil => rfl
    | cons y r => cases h
  | cons x r ih => intro ys a b h; cases ys with
    | nil => cases h
    | cons y s =>
      show R (stepb (a ^^^ b) (x != y)) (List.zipWith (· != ·) r s) = _
      rw [stepb_lin, ih s _ _ (by simpa using h)]
      rfl
theorem stepb_lt (n : Nat) (b : Bool) (h : n < 2 ^ 32) : stepb n b < 2 ^ 32 := by
  unfold stepb
  refine Nat.xor_lt_two_pow (Nat.lt_of_le_of_lt (Nat.shiftRight_le n 1) h) ?_
  split <;> decide
theorem R_lt (l : List Bool) : ∀ n, n < 2 ^ 32 → R n l < 2 ^ 32 := by
  induction l with
  | nil => intro n h; exact h
  | cons b r ih => intro n h; exact ih _ (stepb_lt n b h)
theorem stepb_zero (n : Nat) (h : n < 2 ^ 32) : stepb n false = 0 → n = 0 := by
  unfold stepb
  intro h0
  have hx := xor_zero_iff.1 h0
  cases hb : n.testBit 0 with
  | true =>
    simp [hb, Nat.shiftRight_eq_div_pow] at hx
    omega
  | false =>
    simp [hb, Nat.shiftRight_eq_div_pow] at hx
    have : n % 2 = 0 := by
      have := Nat.testBit_zero n
      rw [hb] at this
      have := of_decide_eq_false this.symm
      omega
    omega
theorem R_zeros (k : Nat) : ∀ n, n < 2 ^ 32 → R n (List.replicate k false) = 0 → n = 0 := by
  induction k with
  | zero => intro n _ h; exact h
  | succ k ih =>
    intro n hn h
    exact stepb_zero n hn (ih _ (stepb_lt n false hn) h)
theorem R_zero (k : Nat) : R 0 (List.replicate k false) = 0 := by
  induction k with
  | zero => rfl
  | succ k ih => exact ih
/-- the number of bits, the lowest first -/
def num : List Bool → Nat
  | [] => 0
  | b :: r => b.toNat + 2 * num r
theorem zip_false (xs : List Bool) : List.zipWith (· != ·) (List.replicate xs.length false) xs = xs := by
  induction xs with
  | nil => rfl
  | cons x r ih =>
    rw [List.length_cons, List.replicate_succ, List.zipWith_cons_cons, ih]
    cases x <;> rfl
theorem rep_false (k : Nat) : List.zipWith (· != ·) (List.replicate k false) (List.replicate k false) = List.replicate k false := by
  have := zip_false (List.replicate k false)
  rwa [List.length_replicate] at this
theorem R_xor (k a b : Nat) : R (a ^^^ b) (List.replicate k false) = R a (List.replicate k false) ^^^ R b (List.replicate k false) := by
  conv => lhs; rw [← rep_false k]
  rw [R_lin _ _ _ _ rfl]
theorem R_split (a : Nat) (xs : List Bool) : R a xs = R a (List.replicate xs.length false) ^^^ R 0 xs := by
  have := R_lin (List.replicate xs.length false) xs a 0 (by simp)
  rw [zip_false, Nat.xor_zero] at this
  exact this
theorem R_num (xs : List Bool) : R 0 xs = R (num xs) (List.replicate xs.length false) := by
  induction xs with
  | nil => rfl
  | cons x r ih =>
    have e1 : stepb (num (x :: r)) false = num r ^^^ stepb 0 x := by
      show ((x.toNat + 2 * num r) >>> 1) ^^^ (if (x.toNat + 2 * num r).testBit 0 != false then 3988292384 else 0) = num r ^^^ ((0 >>> 1) ^^^ (if (0 : Nat).testBit 0 != x then 3988292384 else 0))
      have h1 : (x.toNat + 2 * num r) >>> 1 = num r := by
        rw [Nat.shiftRight_eq_div_pow]
        cases x <;> simp <;> omega
      have h2 : (x.toNat + 2 * num r).testBit 0 = x := by
        rw [Nat.testBit_zero]
        cases x <;> simp <;> omega
      rw [h1, h2]
      cases x <;> simp
    show R (stepb 0 x) r = R (stepb (num (x :: r)) false) (List.replicate r.length false)
    rw [e1, R_xor, R_split (stepb 0 x) r, ih, Nat.xor_comm]
theorem R_in (a : Nat) (xs : List Bool) : R a xs = R (a ^^^ num xs) (List.replicate xs.length false) := by
  rw [R_xor, ← R_num, ← R_split]
theorem num_bitsK (k : Nat) : ∀ v, num (bitsK v k) = v % 2 ^ k := by
  induction k with
  | zero => intro v; simp [bitsK, num, Nat.mod_one]
  | succ k ih =>
    intro v
    have e : bitsK v (k + 1) = v.testBit 0 :: bitsK (v >>> 1) k := by
      unfold bitsK
      rw [List.range_succ_eq_map, List.map_cons, List.map_map]
      congr 1
      apply List.map_congr_left
      intro i _
      simp [Function.comp, Nat.testBit_shiftRight, Nat.add_comm]
    rw [e]
    show (v.testBit 0).toNat + 2 * num (bitsK (v >>> 1) k) = _
    rw [ih, Nat.shiftRight_eq_div_pow, Nat.testBit_zero]
    have h := Nat.mod_mul (x := v) (a := 2) (b := 2 ^ k)
    rw [show (2 : Nat) ^ (k + 1) = 2 * 2 ^ k by rw [Nat.pow_succ, Nat.mul_comm], h, Nat.pow_one]
    have h2 : (decide (v % 2 = 1)).toNat = v % 2 := by
      rcases Nat.mod_two_eq_zero_or_one v with h | h <;> simp [h]
    rw [h2]

theorem bits_four (r : Nat) (hr : r < 2 ^ 32) : bitsL (four r) = bitsK r 32 := by
  unfold bitsL bitsK four
  apply List.map_congr_left
  intro j hj
  have hj := List.mem_range.1 hj
  have hj : j < 32 := by simpa using hj
  have h256 : ∀ (m k i : Nat), i < 8 → (m / 2 ^ k % 256).testBit i = m.testBit (k + i) := fun m k i hi => by
    rw [show 256 = 2 ^ 8 by rfl, Nat.testBit_mod_two_pow, ← Nat.shiftRight_eq_div_pow, Nat.testBit_shiftRight]
    simp [hi]
  have q : j / 8 = 0 ∨ j / 8 = 1 ∨ j / 8 = 2 ∨ j / 8 = 3 := by omega
  rcases q with q | q | q | q <;> rw [q]
  · have := h256 r 0 (j % 8) (by omega)
    rw [show 0 + j % 8 = j by omega] at this
    simpa using this
  · have := h256 r 8 (j % 8) (by omega)
    rw [show 8 + j % 8 = j by omega] at this
    simpa using this
  · have := h256 r 16 (j % 8) (by omega)
    rw [show 16 + j % 8 = j by omega] at this
    simpa using this
  · have := h256 r 24 (j % 8) (by omega)
    rw [show 24 + j % 8 = j by omega] at this
    simpa using this
theorem num_append (xs ys : List Bool) : num (xs ++ ys) = num xs + 2 ^ xs.length * num ys := by
  induction xs with
  | nil => simp [num]
  | cons x r ih =>
    show x.toNat + 2 * num (r ++ ys) = x.toNat + 2 * num r + 2 ^ (r.length + 1) * num ys
    rw [ih, Nat.pow_succ, Nat.mul_add, Nat.mul_comm (2 ^ r.length) 2, Nat.mul_assoc]
    omega
theorem num_byte (c : Nat) (r : List Nat) (h : c < 256) : num (bitsL (c :: r)) = c + 256 * num (bitsL r) := by
  have hk : (bitsK c 8).length = 8 := by simp [bitsK]
  rw [bitsL_cons, num_append, num_bitsK, hk, Nat.mod_eq_of_lt h]
theorem num_four (a b c d : Nat) (ha : a < 256) (hb : b < 256) (hc : c < 256) (hd : d < 256) : num (bitsL [a, b, c, d]) = a + 256 * (b + 256 * (c + 256 * (d + 256 * 0))) := by
  rw [num_byte _ _ ha, num_byte _ _ hb, num_byte _ _ hc, num_byte _ _ hd]
  rfl
theorem four_of (a b c d r : Nat) (ha : a < 256) (hb : b < 256) (hc : c < 256) (hd : d < 256) (h : a + 256 * (b + 256 * (c + 256 * (d + 256 * 0))) = r) : [a, b, c, d] = four r := by
  have e1 : a = r % 256 := by omega
  have e2 : b = r / 256 % 256 := by omega
  have e3 : c = r / 65536 % 256 := by omega
  have e4 : d = r / 16777216 % 256 := by omega
  unfold four
  rw [← e1, ← e2, ← e3, ← e4]
theorem list4 {α : Type} (q : List α) (hq : q.length = 4) : ∃ a b c d, q = [a, b, c, d] := by
  rcases q with _ | ⟨a, _ | ⟨b, _ | ⟨c, _ | ⟨d, _ | ⟨e, t⟩⟩⟩⟩⟩
  · cases hq
  · cases hq
  · cases hq
  · cases hq
  · exact ⟨a, b, c, d, rfl⟩
  · simp at hq
theorem bitsL_inj4 (q : List Nat) (r : Nat) (hq : q.length = 4) (hs : ∀ b ∈ q, b < 256) (h : num (bitsL q) = r) : q = four r := by
  obtain ⟨a, b, c, d, rfl⟩ := list4 q hq
  have ha := hs a (by simp)
  have hb := hs b (by simp)
  have hc := hs c (by simp)
  have hd := hs d (by simp)
  rw [num_four a b c d ha hb hc hd] at h
  exact four_of a b c d r ha hb hc hd h
/-- the register, of bytes that end with their sum -/
def resid : Nat := R 4294967295 (List.replicate 32 false)
theorem R_inj (k a b : Nat) (ha : a < 2 ^ 32) (hb : b < 2 ^ 32) (h : R a (List.replicate k false) = R b (List.replicate k false)) : a = b := by
  refine xor_zero_iff.1 (R_zeros k _ (Nat.xor_lt_two_pow ha hb) ?_)
  rw [R_xor, h, Nat.xor_self]
theorem num_lt (xs : List Bool) : num xs < 2 ^ xs.length := by
  induction xs with
  | nil => simp [num]
  | cons x r ih =>
    simp only [num, List.length_cons, Nat.pow_succ]
    cases x <;> simp <;> omega
theorem not32_iff (r m : Nat) : r ^^^ m = 4294967295 ↔ m = not32 r := by
  unfold not32
  constructor
  · intro h
    have := congrArg (r ^^^ ·) h
    simp only [← Nat.xor_assoc, Nat.xor_self, Nat.zero_xor] at this
    exact this
  · intro h
    rw [h, ← Nat.xor_assoc, Nat.xor_self, Nat.zero_xor]
theorem ends_iff (p : List Nat) (hs : ∀ b ∈ p, b < 256) (hl : 4 ≤ p.length) : endsB p = decide (R 4294967295 (bitsL p) = resid) := by
  unfold endsB
  obtain ⟨h, q, rfl, hq⟩ : ∃ h q, p = h ++ q ∧ q.length = 4 := ⟨p.take (p.length - 4), p.drop (p.length - 4), by simp, by simp; omega⟩
  have e1 : (h ++ q).length - 4 = h.length := by simp [hq]
  rw [e1, List.drop_left' rfl, List.take_left' rfl]
  have hcrc : crc 0 h = not32 (R 4294967295 (bitsL h)) := by
    unfold crc
    rw [foldl_bits]
    rfl
  have hr : R 4294967295 (bitsL h) < 2 ^ 32 := R_lt _ _ (by decide)
  rw [hcrc, bitsL_append, R_append]
  generalize R 4294967295 (bitsL h) = r at *
  have hn : (bitsL q).length = 32 := by rw [bitsL_len, hq]
  rw [R_in, hn]
  congr 1
  have hm : num (bitsL q) < 2 ^ 32 := by have := num_lt (bitsL q); rwa [hn] at this
  apply propext
  constructor
  · rintro ⟨_, h1⟩
    have h2 : num (bitsL q) = not32 r := by
      rw [h1, bits_four _ (not32_lt hr), num_bitsK, Nat.mod_eq_of_lt (not32_lt hr)]
    rw [(not32_iff _ _).2 h2]
    rfl
  · intro h1
    refine ⟨by simp [hq], ?_⟩
    have h2 := R_inj 32 _ _ (Nat.xor_lt_two_pow hr hm) (by decide) h1
    exact bitsL_inj4 q _ hq (fun b hb => hs b (by simp [hb])) ((not32_iff _ _).1 h2)
theorem ends_withSum (bs : List Nat) (hs : ∀ b ∈ bs, b < 256) : endsB (withSum bs) = true := by
  unfold endsB
  have e : (withSum bs).length - 4 = bs.length := by rw [withSum_len]; omega
  rw [e]
  refine decide_eq_true ⟨by rw [withSum_len]; omega, ?_⟩
  unfold withSum
  rw [List.drop_left' rfl, List.take_left' rfl]

/-- one bit turned -/
def flip1 (p : List Nat) (k : Nat) : List Nat := p.set (k / 8) (p.getD (k / 8) 0 ^^^ (1 <<< (k % 8)))
/-- the first i of 32 bits turned, from the bit f on -/
def turned (p : List Nat) (f v : Nat) : Nat → List Nat
  | 0 => p
  | i + 1 => if v.testBit i then flip1 (turned p f v i) (f + i) else turned p f v i
theorem flip1_len (p : List Nat) (k : Nat) : (flip1 p k).length = p.length := by simp [flip1]
theorem turned_len (p : List Nat) (f v i : Nat) : (turned p f v i).length = p.length := by
  induction i with
  | zero => rfl
  | succ i ih =>
    unfold turned
    split
    · rw [flip1_len, ih]
    · exact ih
theorem flip1_small (p : List Nat) (k : Nat) (hs : ∀ b ∈ p, b < 256) : ∀ b ∈ flip1 p k, b < 256 := by
  intro b hb
  unfold flip1 at hb
  rcases List.mem_or_eq_of_mem_set hb with h | h
  · exact hs b h
  · rw [h]
    have h1 : p.getD (k / 8) 0 < 256 := by
      rw [List.getD_eq_getElem?_getD]
      cases hq : p[k / 8]? with
      | none => simp
      | some x => exact hs x (List.mem_of_getElem? hq)
    have h2 : 1 <<< (k % 8) < 256 := by
      rw [Nat.one_shiftLeft]
      have : k % 8 < 8 := Nat.mod_lt _ (by decide)
      exact (Nat.pow_lt_pow_iff_right (a := 2) (by decide)).2 this
    exact Nat.xor_lt_two_pow (n := 8) h1 h2
theorem turned_small (p : List Nat) (f v i : Nat) (hs : ∀ b ∈ p, b < 256) : ∀ b ∈ turned p f v i, b < 256 := by
  induction i with
  | zero => exact hs
  | succ i ih =>
    unfold turned
    split
    · exact flip1_small _ _ ih
    · exact ih
theorem flip1_bit (p : List Nat) (k j : Nat) (hk : k < 8 * p.length) : ((flip1 p k).getD (j / 8) 0).testBit (j % 8) = ((p.getD (j / 8) 0).testBit (j % 8) != decide (j = k)) := by
  unfold flip1
  simp only [List.getD_eq_getElem?_getD, List.getElem?_set]
  by_cases h : k / 8 = j / 8
  · rw [if_pos h, if_pos (by omega)]
    simp only [Option.getD_some]
    rw [Nat.testBit_xor, h, Nat.one_shiftLeft, Nat.testBit_two_pow]
    have : decide (k % 8 = j % 8) = decide (j = k) := by
      congr 1
      apply propext
      omega
    rw [this]
  · rw [if_neg h]
    have : decide (j = k) = false := decide_eq_false (by intro e; subst e; exact h rfl)
    rw [this]
    simp
theorem turned_bit (p : List Nat) (f v i j : Nat) (hi : f + i ≤ 8 * p.length) : ((turned p f v i).getD (j / 8) 0).testBit (j % 8) = ((p.getD (j / 8) 0).testBit (j % 8) != (decide (f ≤ j ∧ j < f + i) && v.testBit (j - f))) := by
  induction i with
  | zero =>
    have : decide (f ≤ j ∧ j < f + 0) = false := decide_eq_false (by omega)
    rw [this]
    simp [turned]
  | succ i ih =>
    have ih := ih (by omega)
    unfold turned
    by_cases hv : v.testBit i = true
    · rw [if_pos hv, flip1_bit _ _ _ (by rw [turned_len]; omega), ih]
      by_cases hj : j = f + i
      · have h1 : decide (f ≤ j ∧ j < f + i) = false := decide_eq_false (by omega)
        have h2 : decide (f ≤ j ∧ j < f + (i + 1)) = true := decide_eq_true (by omega)
        rw [h1, h2, decide_eq_true hj, show j - f = i by omega, hv]
        simp
      · rw [decide_eq_false hj]
        have : decide (f ≤ j ∧ j < f + i) = decide (f ≤ j ∧ j < f + (i + 1)) := by
          congr 1
          apply propext
          omega
        rw [this]
        simp
    · rw [if_neg hv, ih]
      by_cases hj : j = f + i
      · have h1 : decide (f ≤ j ∧ j < f + i) = false := decide_eq_false (by omega)
        rw [h1, show j - f = i by omega]
        have : v.testBit i = false := by simpa using hv
        rw [this]
        simp
      · have : decide (f ≤ j ∧ j < f + i) = decide (f ≤ j ∧ j < f + (i + 1)) := by
          congr 1
          apply propext
          omega
        rw [this]
theorem bits_turned (p : List Nat) (f v : Nat) (hf : f + 32 ≤ 8 * p.length) : bitsL (turned p f v 32) = List.zipWith (· != ·) (bitsL p) (List.replicate f false ++ (bitsK v 32 ++ List.replicate (8 * p.length - f - 32) false)) := by
  have e : List.replicate f false ++ (bitsK v 32 ++ List.replicate (8 * p.length - f - 32) false) = (List.range (8 * p.length)).map fun j => decide (f ≤ j ∧ j < f + 32) && v.testBit (j - f) := by
    apply List.ext_getElem?
    intro j
    simp only [List.getElem?_append, List.length_replicate, List.getElem?_map, bitsK, List.length_map, List.length_range]
    by_cases h1 : j < f
    · rw [if_pos h1, List.getElem?_replicate, if_pos h1, List.getElem?_range (by omega)]
      have : decide (f ≤ j ∧ j < f + 32) = false := decide_eq_false (by omega)
      simp [this]
      omega
    · rw [if_neg h1]
      by_cases h2 : j - f < 32
      · rw [if_pos h2, List.getElem?_range (by omega), List.getElem?_range (by omega)]
        have : decide (f ≤ j ∧ j < f + 32) = true := decide_eq_true (by omega)
        simp [this]
        omega
      · rw [if_neg h2]
        by_cases h3 : j < 8 * p.length
        · rw [List.getElem?_replicate, if_pos (by omega), List.getElem?_range (by omega)]
          have : decide (f ≤ j ∧ j < f + 32) = false := decide_eq_false (by omega)
          simp [this]
          omega
        · rw [List.getElem?_replicate, if_neg (by omega), List.getElem?_eq_none (by simp; omega)]
          rfl
  rw [e]
  unfold bitsL
  rw [turned_len, List.zipWith_map]
  have hz : List.zipWith (fun a b => ((p.getD (a / 8) 0).testBit (a % 8)) != (decide (f ≤ b ∧ b < f + 32) && v.testBit (b - f))) (List.range (8 * p.length)) (List.range (8 * p.length)) = (List.range (8 * p.length)).map fun j => ((p.getD (j / 8) 0).testBit (j % 8)) != (decide (f ≤ j ∧ j < f + 32) && v.testBit (j - f)) := by
    rw [List.zipWith_self]
  rw [hz]
  apply List.map_congr_left
  intro j _
  exact turned_bit p f v 32 j hf
/-- bits turned that lie within 32 neighbouring ones: the bytes end no longer so -/
theorem burst (p : List Nat) (f v : Nat) (hs : ∀ b ∈ p, b < 256) (hf : f + 32 ≤ 8 * p.length) (hl : 4 ≤ p.length) (hv : v < 2 ^ 32) (he : endsB p = true) : endsB (turned p f v 32) = decide (v = 0) := by
  rw [ends_iff p hs hl] at he
  have he := of_decide_eq_true he
  rw [ends_iff _ (turned_small p f v 32 hs) (by rw [turned_len]; exact hl)]
  congr 1
  have hlen : (bitsL p).length = (List.replicate f false ++ (bitsK v 32 ++ List.replicate (8 * p.length - f - 32) false)).length := by
    rw [bitsL_len]
    simp [bitsK]
    omega
  have e := R_lin (bitsL p) (List.replicate f false ++ (bitsK v 32 ++ List.replicate (8 * p.length - f - 32) false)) 4294967295 0 hlen
  rw [Nat.xor_zero] at e
  rw [bits_turned p f v hf, e, he]
  have hk : (bitsK v 32).length = 32 := by simp [bitsK]
  have z : R 0 (List.replicate f false ++ (bitsK v 32 ++ List.replicate (8 * p.length - f - 32) false)) = 0 ↔ v = 0 := by
    rw [R_append, R_zero, R_append, R_num (bitsK v 32), num_bitsK, hk, Nat.mod_eq_of_lt hv]
    constructor
    · intro h
      exact R_zeros 32 v hv (R_zeros _ _ (R_lt _ _ hv) h)
    · rintro rfl
      rw [R_zero, R_zero]
  apply propext
  rw [← z]
  constructor
  · intro h
    have := congrArg (resid ^^^ ·) h
    simp only [← Nat.xor_assoc, Nat.xor_self, Nat.zero_xor] at this
    exact this
  · intro h
    rw [h, Nat.xor_zero]
end Go.Proofs.YtccmeiflahnleaaDoor.A
