/-
  The reference's sum (countinghouseref15.Of): bit by bit.
-/
import Derived.Test.YtccmeiflahnleaaDoorS10
import Derived.Test.YtccmeiflahnleaaDoorT1
namespace Go.Proofs.YtccmeiflahnleaaDoor.A
set_option linter.unusedVariables false
set_option linter.unusedSimpArgs false
open Go.RowKit

theorem bitsK_step (x k : Nat) : bitsK x (k + 1) = bitsK x k ++ [x.testBit k] := by
  unfold bitsK
  rw [List.range_succ, List.map_append]
  rfl
theorem R_step (n x k : Nat) : R n (bitsK x (k + 1)) = stepb (R n (bitsK x k)) (x.testBit k) := by
  rw [bitsK_step, R_append]
  rfl
theorem crc_take (bs : List Nat) (k x : Nat) (h : bs[k]? = some x) (n : Nat) : (bs.take (k + 1)).foldl crcb n = R ((bs.take k).foldl crcb n) (bitsK x 8) := by
  rw [List.take_add_one, h, List.foldl_append]
  exact crcb_bits _ _
/-- one bit, in the walk's own forms -/
theorem ref_bit (m x k : Nat) (hm : m < 2 ^ 32) (hx : x < 256) (hk : k < 8) : ∃ b u z : Nat, ((x : Int) / 2 ^ k).tmod 2 = (b : Int) ∧ (m : Int) % 2 = (u : Int) ∧ (m : Int) / 2 % 4294967296 = (z : Int) ∧ z < 2 ^ 32 ∧ stepb m (x.testBit k) = (if u = b then z else z ^^^ 3988292384) := by
  have e : (x : Int) / 2 ^ k = ((x / 2 ^ k : Nat) : Int) := by
    rw [Int.natCast_ediv, Int.natCast_pow]
    rfl
  refine ⟨x / 2 ^ k % 2, m % 2, m / 2, ?_, by omega, by omega, by omega, ?_⟩
  · rw [e]
    rfl
  · unfold stepb
    rw [Nat.shiftRight_eq_div_pow, Nat.testBit_zero, Nat.testBit_eq_decide_div_mod_eq, Nat.pow_one]
    rcases Nat.mod_two_eq_zero_or_one m with h1 | h1 <;> rcases Nat.mod_two_eq_zero_or_one (x / 2 ^ k) with h2 | h2 <;> simp [h1, h2]
theorem sub_not (n : Nat) (h : n < 2 ^ 32) : 4294967295 - n = not32 n := by
  unfold not32
  have e : (4294967295 : Nat) = 2 ^ 32 - 1 := rfl
  apply Nat.eq_of_testBit_eq
  intro i
  rw [e, Nat.testBit_xor, Nat.testBit_two_pow_sub_one, show 2 ^ 32 - 1 - n = 2 ^ 32 - (n + 1) by omega, Nat.testBit_two_pow_sub_succ h]
  by_cases hi : i < 32
  · simp [hi]
  · have : n.testBit i = false := Nat.testBit_lt_two_pow (Nat.lt_of_lt_of_le h (Nat.pow_le_pow_right (by decide) (by omega)))
    simp [hi, this]

set_option maxHeartbeats 2000000 in
set_option maxRecDepth 100000 in
theorem ref_of (A : Option Addr) (c : Nat) (bs : List Nat) (w : World) (B : Bytes w A bs) : Calls Tryd.prog 14 #[.slice A bs.length c] w fun e w' => e = .returned (.int .u32 (crc 0 bs : Nat)) ∧ Below w.heap.size w w' := by
  have HB := AsideA.mk B
  have hlen := B.len
  obtain ⟨len, hl⟩ : ∃ len, len = bs.length := ⟨_, rfl⟩
  rw [← hl] at hlen ⊢
  have HL := AsideA.mk hl
  clear hl B
  have I0 : AsideA (Below w.heap.size w w ∧ 4294967295 = (bs.take 0).foldl crcb 4294967295 ∧ 4294967295 < 2 ^ 32) := ⟨Below.refl _ _, rfl, by decide⟩
  go_enter Tryd.func14, Tryd.ntmps14
  go_wp2
  go_loopw [3, 4] (fun n i wr => ∃ k m : Nat, k ≤ len ∧ i = .int .i64 k ∧ n = .int .u32 (m : Int) ∧ AsideA (Below w.heap.size w wr ∧ m = (bs.take k).foldl crcb 4294967295 ∧ m < 2 ^ 32)) (fun _ i _ => len - (intOf i).toNat)
  case atStart => exact ⟨0, 4294967295, by omega, rfl, rfl, I0⟩
  case round =>
    obtain ⟨k, m, hk, rfl, rfl, I⟩ := hrel
    clear I0
    by_cases hlt : k < len
    · obtain ⟨g, off, x, rfl, hc, hx, hxx⟩ := (HB.out.below I.out.1).get k (by have := HL.out; omega)
      have HX := AsideA.mk (And.intro hxx hx)
      have CT := AsideA.mk (crc_take bs k x hxx 4294967295)
      rw [← I.out.2.1] at CT
      clear hxx
      go_wp2
      have J0 : AsideA (m = R m (bitsK x 0) ∧ m < 2 ^ 32) := ⟨rfl, I.out.2.2⟩
      go_loop [3, 5] (fun n j => ∃ q y : Nat, q ≤ 8 ∧ j = .int .i64 q ∧ n = .int .u32 (y : Int) ∧ AsideA (y = R m (bitsK x q) ∧ y < 2 ^ 32)) (fun _ j => 8 - (intOf j).toNat)
      case atStart => exact ⟨0, m, by omega, rfl, rfl, J0⟩
      case round =>
        obtain ⟨q, y, hq, rfl, rfl, J⟩ := hrel
        clear J0
        by_cases hql : q < 8
        · obtain ⟨b, u, z, e1, e2, e4, hz, e3⟩ := ref_bit y x q J.out.2 HX.out.2 hql
          have RS := AsideA.mk ((R_step m x q).trans (by rw [← J.out.1]))
          have SL := AsideA.mk (stepb_lt y (x.testBit q) J.out.2)
          rw [e3] at RS SL
          clear e3
          by_cases hub : u = b
          · subst hub
            rw [if_pos rfl] at RS SL
            have HZ := AsideA.mk hz
            clear hz
            go_wp2
            exact ⟨⟨q + 1, z, by omega, by go_num, by first | rfl | rw [e4], ⟨RS.out.symm, SL.out⟩⟩, by simp [intOf]; omega⟩
          · have d1 : ((u : Int) == (b : Int)) = false := beq_eq_false_iff_ne.mpr (by omega)
            have d2 : ((u : Int) != (b : Int)) = true := by rw [bne, d1]; rfl
            rw [if_neg hub] at RS SL
            have e5 := xor32 z 3988292384 hz (by decide)
            have e6 : ((3988292384 : Nat) : Int) = 3988292384 := rfl
            rw [e6] at e5
            clear e6
            generalize z ^^^ 3988292384 = z2 at *
            go_wp2
            exact ⟨⟨q + 1, z2, by omega, by go_num, rfl, ⟨RS.out.symm, SL.out⟩⟩, by simp [intOf]; omega⟩
        · have e : q = 8 := by omega
          subst e
          go_wp2
          refine ⟨⟨k + 1, y, by omega, by go_num, rfl, ⟨I.out.1, ?_, J.out.2⟩⟩, by simp [intOf]; omega⟩
          rw [CT.out]
          exact J.out.1
    · have e : bs.take k = bs := List.take_of_length_le (by have := HL.out; omega)
      have hm := I.out.2.1
      rw [e] at hm
      have e2 : (4294967295 : Int) - (m : Int) = ((not32 m : Nat) : Int) := by
        rw [← sub_not m I.out.2.2]
        have := I.out.2.2
        omega
      have HM := AsideA.mk (show not32 m = crc 0 bs by rw [hm]; rfl)
      have hn := not32_lt I.out.2.2
      clear e hm
      generalize not32 m = y at *
      go_wp2
      go_ret
      exact ⟨by rw [← HM.out]; first | rfl | (rw [e2]), I.out.1⟩
end Go.Proofs.YtccmeiflahnleaaDoor.A

