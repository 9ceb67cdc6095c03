/-
  The reference's numbers as lists of bits (countinghouseref01): contracts of Plus and its kin, each in terms of numbers below 2^192.
-/
import Derived.Test.YtbeiphfmdmccmaaProg
import Derived.Test.YtbeiphfmdmccmaaArr
import Derived.Test.YtbeiphfmdmccmaaBv
import Derived.KernelRfl
import Derived.Outline

namespace Go.Proofs.Ytbeiphfmdmccmaa.A
set_option linter.unusedVariables false
set_option linter.unusedSimpArgs false
open Go.RowKit

theorem zero57 : (Try.prog.info? 57).bind (·.zero) = some (.agg (bv 0)) := by kernel_rfl
theorem zero59 : (Try.prog.info? 59).bind (·.zero) = some (.agg (wh false 0)) := by kernel_rfl
theorem size57' : (Try.prog.info? 57).map (·.size) = some 192 := by kernel_rfl
theorem size59' : (Try.prog.info? 59).map (·.size) = some 193 := by kernel_rfl
theorem size57 (n : Nat) : (Try.prog.info? 57).map (·.size) = some (bv n).size := by rw [bv_size]; exact size57'
theorem size59 (b : Bool) (n : Nat) : (Try.prog.info? 59).map (·.size) = some (wh b n).size := by rw [wh_size]; exact size59'

structure PlusInv (w wr : World) (g2 g3 g4 g5 m n k : Nat) : Prop where
  b2 : wr.heap[g2]? = some (.cells (bv m) 57 (0, 0))
  b3 : wr.heap[g3]? = some (.cells (bv n) 57 (0, 0))
  b4 : wr.heap[g4]? = some (.cells (bv 0) 57 (0, 0))
  b5 : wr.heap[g5]? = some (.cells (bv ((m + n) % 2 ^ k)) 57 (0, 0))
  n2 : g2 ≠ g5
  n3 : g3 ≠ g5
  n4 : g4 ≠ g5
  ge4 : w.heap.size ≤ g4
  ge5 : w.heap.size ≤ g5
  below : Below w.heap.size w wr

theorem PlusInv.next {w wr : World} {g2 g3 g4 g5 m n k : Nat} (I : PlusInv w wr g2 g3 g4 g5 m n k) (hlt : k < 192) (c : Int) (hc : c = carry m n k + (m.testBit k).toNat + (n.testBit k).toNat) :
    PlusInv w (wr.setCell ⟨g5, k, none⟩ (.bool (c % 2 == 1))) g2 g3 g4 g5 m n (k + 1) ∧ c / 2 = carry m n (k + 1) := by
  refine ⟨⟨blk_set_other I.b2 _ _ I.n2, blk_set_other I.b3 _ _ I.n3, blk_set_other I.b4 _ _ I.n4, ?_, I.n2, I.n3, I.n4, I.ge4, I.ge5, below_set I.below I.ge5⟩, ?_⟩
  · rw [blk_set I.b5, plus_set m n k hlt c hc]
  · rw [carry_step, hc]
    omega

set_option maxHeartbeats 1000000 in
set_option maxRecDepth 100000 in
theorem ref_Plus (m n : Nat) (w : World) : Calls Try.prog 62 #[.agg (bv m), .agg (bv n)] w fun e w' => e = .returned (.agg (bv (m + n))) ∧ Below w.heap.size w w' := by
  go_enter Try.func62, Try.ntmps62
  go_wp2_with (first | (refine box_new 57 (.tmp 0) rfl rfl _ rfl (bv m) rfl ?_; intro g2 w2 N2) | (refine box_new 57 (.tmp 1) rfl rfl _ rfl (bv n) rfl ?_; intro g3 w3 N3) | ((with_reducible refine gate (N := 4) rfl ?_); refine alloc_new 57 rfl rfl _ zero57 (bv 0) rfl ?_; intro ga wa Na) | (refine alloc_new 57 rfl rfl _ zero57 (bv 0) rfl ?_; intro g4 w4 N4))
  have I0 : PlusInv w w4 g2 g3 ga g4 m n 0 := by
    have c2 := blk_below (blk_below (blk_below N2.blk N3.below) Na.below) N4.below
    have c3 := blk_below (blk_below N3.blk Na.below) N4.below
    have c4 := blk_below Na.blk N4.below
    have d2 := below_new (Below.refl _ _) N2
    have d3 := below_new d2 N3
    have da := below_new d3 Na
    exact ⟨c2, c3, c4, by simpa [Nat.mod_one] using N4.blk, N4.ne (blk_below (blk_below N2.blk N3.below) Na.below), N4.ne (blk_below N3.blk Na.below), N4.ne Na.blk, Na.ge d3, N4.ge da, below_new da N4⟩
  clear N2 N3 Na N4
  go_loopw [6, 7] (fun c i wr => ∃ k : Nat, k ≤ 192 ∧ i = .int .i64 k ∧ c = .int .i64 (carry m n k) ∧ PlusInv w wr g2 g3 ga g4 m n k) (fun _ i _ => 192 - (intOf i).toNat)
  case atStart => exact ⟨0, by omega, rfl, by rw [carry_zero]; rfl, I0⟩
  case round =>
    obtain ⟨k, hk, rfl, rfl, I⟩ := hrel
    clear I0
    by_cases hlt : k < 192
    · have x2 : wr.cell? ⟨g2, k, none⟩ = some (.bool (m.testBit k)) := (blk_cell I.b2 k).trans (bv_get m hlt)
      have x3 : wr.cell? ⟨g3, k, none⟩ = some (.bool (n.testBit k)) := (blk_cell I.b3 k).trans (bv_get n hlt)
      have x5 : wr.cell? ⟨g4, k, none⟩ = some (.bool (((m + n) % 2 ^ k).testBit k)) := (blk_cell I.b5 k).trans (bv_get _ hlt)
      have f5 := blk_frozen I.b5 k
      have hc := carry_le m n k
      have NX : Hid (∀ c : Int, c = carry m n k + (m.testBit k).toNat + (n.testBit k).toNat → PlusInv w (wr.setCell ⟨g4, k, none⟩ (.bool (c % 2 == 1))) g2 g3 ga g4 m n (k + 1) ∧ c / 2 = carry m n (k + 1)) := fun c hc => I.next hlt c hc
      clear I
      generalize m.testBit k = p at *
      generalize n.testBit k = q at *
      generalize ((m + n) % 2 ^ k).testBit k = o5 at *
      generalize carry m n k = cv at *
      cases p <;> cases q <;> go_wp2
      all_goals exact ⟨⟨k + 1, by omega, by go_num, by rw [(NX.out _ (by simp <;> omega)).2], (NX.out _ (by simp <;> omega)).1⟩, by simp [intOf]; omega⟩
    · obtain rfl : k = 192 := by omega
      have x5 : ∀ j, j < (bv ((m + n) % 2 ^ 192)).size → wr.cell? ⟨g4, 0 + j, none⟩ = (bv ((m + n) % 2 ^ 192))[j]? := fun j _ => by rw [Nat.zero_add]; exact blk_cell I.b5 j
      have X5 := AsideA.mk x5
      clear x5
      go_wp2_with (first | (refine load_at 57 (.tmp 5) rfl rfl g4 0 rfl (bv ((m + n) % 2 ^ 192)) _ Try.underlying57 rfl (size57 _) X5.out ?_) | (refine store_at 57 (.tmp 4) (.tmp 31) rfl rfl ga 0 rfl (bv ((m + n) % 2 ^ 192)) rfl (bv 0) 57 I.b4 (size57 _) (by simp [bv_size]) (bv_one _) _ (splice_all _ _ (by simp [bv_size])) ?_; intro wz hz uz))
      refine bodyPost_ret (v := .agg (bv (m + n))) ?_ rfl ⟨rfl, uz.below I.below I.ge4⟩
      rw [bv_mod] at hz
      exact results_at rfl _ _ ga 57 _ _ rfl hz Try.underlying57 rfl (size57 _)
end Go.Proofs.Ytbeiphfmdmccmaa.A
