/-
  A row of bytes of the call's own, cell by cell; one bit of a byte. (As in the text of SumsBurst.)
-/
import Derived.Test.YtccmeiflahnleaaDoorU3
namespace Go.Proofs.YtccmeiflahnleaaDoor.A
set_option linter.unusedVariables false
set_option linter.unusedSimpArgs false
open Go.RowKit

theorem Fill.at_ {w wr : World} {g cap : Nat} {bs : List Nat} (h : Fill w wr g cap bs) (q x : Nat) (hq : bs[q]? = some x) : wr.cell? ⟨g, q, none⟩ = some (.int .u8 (x : Int)) := by
  obtain ⟨t, h1, h2⟩ := h.blk
  have hl := (List.getElem?_eq_some_iff.1 hq).1
  rw [blk_cell h1, List.getElem?_toArray, List.getElem?_append_left (by rw [enc8_len]; exact hl)]
  unfold enc8
  rw [List.getElem?_map, hq]
  rfl
theorem Fill.thaw {w wr : World} {g cap : Nat} {bs : List Nat} (h : Fill w wr g cap bs) (q : Nat) : wr.frozen? ⟨g, q, none⟩ = false := by
  obtain ⟨t, h1, h2⟩ := h.blk
  exact blk_frozen h1 q
theorem Fill.put {w wr : World} {g cap : Nat} {bs : List Nat} (h : Fill w wr g cap bs) (q y : Nat) (hq : q < bs.length) : Fill w (wr.setCell ⟨g, q, none⟩ (.int .u8 (y : Int))) g cap (bs.set q y) := by
  obtain ⟨t, h1, h2⟩ := h.blk
  refine ⟨⟨t, ?_, by rw [List.length_set]; exact h2⟩, h.ge, below_set h.below h.ge⟩
  rw [blk_set h1]
  congr 2
  simp only [List.setIfInBounds_toArray]
  rw [List.set_append_left _ _ (by rw [enc8_len]; exact hq)]
  unfold enc8
  rw [List.map_set]
theorem Fill.drew {w wr : World} {g cap : Nat} {bs : List Nat} (h : Fill w wr g cap bs) : Fill w wr.drew g cap bs := h.later (Below.refl _ _).drew
theorem bit_at (v k : Nat) (hv : v < 2 ^ 32) : bits .and .u32 ((v : Int) / 2 ^ k) 1 = if v.testBit k then 1 else 0 := by
  have e : (v : Int) / 2 ^ k = ((v / 2 ^ k : Nat) : Int) := by
    rw [Int.natCast_ediv]
    rfl
  have h := and32 (v / 2 ^ k) 1 (Nat.lt_of_le_of_lt (Nat.div_le_self _ _) hv) (by decide)
  rw [e]
  refine h.trans ?_
  rw [Nat.and_one_is_mod, Nat.testBit_eq_decide_div_mod_eq]
  rcases Nat.mod_two_eq_zero_or_one (v / 2 ^ k) with h2 | h2 <;> simp [h2]

theorem xor_bit (x r : Nat) (hx : x < 256) (hr : r < 8) : bits .xor .u8 (x : Int) ((2 : Int) ^ r) = ((x ^^^ (1 <<< r) : Nat) : Int) ∧ IntKind.u8.wrap ((2 : Int) ^ r) = (2 : Int) ^ r := by
  have e : (2 : Int) ^ r = ((1 <<< r : Nat) : Int) := by
    rw [Nat.one_shiftLeft, Int.natCast_pow]
    rfl
  have hl : 1 <<< r < 2 ^ 8 := by
    rw [Nat.one_shiftLeft]
    exact (Nat.pow_lt_pow_iff_right (a := 2) (by decide)).2 hr
  have hx' : x % 2 ^ IntKind.u8.bits = x := Nat.mod_eq_of_lt hx
  have hl' : (1 <<< r) % 2 ^ IntKind.u8.bits = 1 <<< r := Nat.mod_eq_of_lt hl
  have w8 : ∀ n : Nat, n < 2 ^ 8 → IntKind.u8.wrap (n : Int) = n := fun n hn => by
    rw [IntKind.wrap_u8]
    omega
  rw [e]
  refine ⟨?_, w8 _ hl⟩
  simp only [bits, BitVec.ofInt_natCast, BitVec.toNat_xor, BitVec.toNat_ofNat, hx', hl']
  exact w8 _ (Nat.xor_lt_two_pow hx hl)
end Go.Proofs.YtccmeiflahnleaaDoor.A

