import Derived.Test.YtbeiphfmdmccmaaProg
import Derived.Test.YtbeiphfmdmccmaaArr
import Derived.Test.YtbeiphfmdmccmaaBv
import Derived.KernelRfl
import Derived.Outline
import Derived.Test.YtbeiphfmdmccmaaBv2
import Derived.BigQuiet
import Derived.Deep.QuietTactic
import Derived.Test.YtbeiphfmdmccmaaU64
import Derived.Test.YtbeiphfmdmccmaaReg
import Derived.Test.YtbeiphfmdmccmaaReg3
import Derived.Deep.CutBlock
import Derived.Deep.DeepCutAuto
import Derived.Test.YtbeiphfmdmccmaaEqArr
/-
  The reference's numbers as lists of bits (countinghouseref01): contracts of Plus and its kin, each in terms of numbers below 2^192.
-/

namespace Go.Proofs.Ytbeiphfmdmccmaa.A
set_option linter.unusedVariables false
set_option linter.unusedSimpArgs false
open Go.RowKit

theorem zero57 : (Try.prog.info? 57).bind (·.zero) = some (.agg (bv 0)) := by kernel_rfl
theorem zero59 : (Try.prog.info? 59).bind (·.zero) = some (.agg (wh false 0)) := by kernel_rfl
theorem size57' : (Try.prog.info? 57).map (·.size) = some 192 := by kernel_rfl
theorem size59' : (Try.prog.info? 59).map (·.size) = some 193 := by kernel_rfl
theorem size57 (n : Nat) : (Try.prog.info? 57).map (·.size) = some (bv n).size := by rw [bv_size]; exact size57'
theorem size59 (b : Bool) (n : Nat) : (Try.prog.info? 59).map (·.size) = some (wh b n).size := by rw [wh_size]; exact size59'

structure PlusInv (w wr : World) (g2 g3 g4 g5 m n k : Nat) : Prop where
  b2 : wr.heap[g2]? = some (.cells (bv m) 57 (0, 0))
  b3 : wr.heap[g3]? = some (.cells (bv n) 57 (0, 0))
  b4 : wr.heap[g4]? = some (.cells (bv 0) 57 (0, 0))
  b5 : wr.heap[g5]? = some (.cells (bv ((m + n) % 2 ^ k)) 57 (0, 0))
  n2 : g2 ≠ g5
  n3 : g3 ≠ g5
  n4 : g4 ≠ g5
  ge4 : w.heap.size ≤ g4
  ge5 : w.heap.size ≤ g5
  below : Below w.heap.size w wr

theorem PlusInv.next {w wr : World} {g2 g3 g4 g5 m n k : Nat} (I : PlusInv w wr g2 g3 g4 g5 m n k) (hlt : k < 192) (c : Int) (hc : c = carry m n k + (m.testBit k).toNat + (n.testBit k).toNat) :
    PlusInv w (wr.setCell ⟨g5, k, none⟩ (.bool (c % 2 == 1))) g2 g3 g4 g5 m n (k + 1) ∧ c / 2 = carry m n (k + 1) := by
  refine ⟨⟨blk_set_other I.b2 _ _ I.n2, blk_set_other I.b3 _ _ I.n3, blk_set_other I.b4 _ _ I.n4, ?_, I.n2, I.n3, I.n4, I.ge4, I.ge5, below_set I.below I.ge5⟩, ?_⟩
  · rw [blk_set I.b5, plus_set m n k hlt c hc]
  · rw [carry_step, hc]
    omega

set_option maxHeartbeats 1000000 in
set_option maxRecDepth 100000 in
theorem ref_Plus (m n : Nat) (w : World) : Calls Try.prog 62 #[.agg (bv m), .agg (bv n)] w fun e w' => e = .returned (.agg (bv (m + n))) ∧ Below w.heap.size w w' := by
  go_enter Try.func62, Try.ntmps62
  go_wp2_with (first | (refine box_new 57 (.tmp 0) rfl rfl _ rfl (bv m) rfl ?_; intro g2 w2 N2) | (refine box_new 57 (.tmp 1) rfl rfl _ rfl (bv n) rfl ?_; intro g3 w3 N3) | ((with_reducible refine gate (N := 4) rfl ?_); refine alloc_new 57 rfl rfl _ zero57 (bv 0) rfl ?_; intro ga wa Na) | (refine alloc_new 57 rfl rfl _ zero57 (bv 0) rfl ?_; intro g4 w4 N4))
  have I0 : PlusInv w w4 g2 g3 ga g4 m n 0 := by
    have c2 := blk_below (blk_below (blk_below N2.blk N3.below) Na.below) N4.below
    have c3 := blk_below (blk_below N3.blk Na.below) N4.below
    have c4 := blk_below Na.blk N4.below
    have d2 := below_new (Below.refl _ _) N2
    have d3 := below_new d2 N3
    have da := below_new d3 Na
    exact ⟨c2, c3, c4, by simpa [Nat.mod_one] using N4.blk, N4.ne (blk_below (blk_below N2.blk N3.below) Na.below), N4.ne (blk_below N3.blk Na.below), N4.ne Na.blk, Na.ge d3, N4.ge da, below_new da N4⟩
  clear N2 N3 Na N4
  go_loopw [6, 7] (fun c i wr => ∃ k : Nat, k ≤ 192 ∧ i = .int .i64 k ∧ c = .int .i64 (carry m n k) ∧ PlusInv w wr g2 g3 ga g4 m n k) (fun _ i _ => 192 - (intOf i).toNat)
  case atStart => exact ⟨0, by omega, rfl, by rw [carry_zero]; rfl, I0⟩
  case round =>
    obtain ⟨k, hk, rfl, rfl, I⟩ := hrel
    clear I0
    by_cases hlt : k < 192
    · have x2 : wr.cell? ⟨g2, k, none⟩ = some (.bool (m.testBit k)) := (blk_cell I.b2 k).trans (bv_get m hlt)
      have x3 : wr.cell? ⟨g3, k, none⟩ = some (.bool (n.testBit k)) := (blk_cell I.b3 k).trans (bv_get n hlt)
      have x5 : wr.cell? ⟨g4, k, none⟩ = some (.bool (((m + n) % 2 ^ k).testBit k)) := (blk_cell I.b5 k).trans (bv_get _ hlt)
      have f5 := blk_frozen I.b5 k
      have hc := carry_le m n k
      have NX : Hid (∀ c : Int, c = carry m n k + (m.testBit k).toNat + (n.testBit k).toNat → PlusInv w (wr.setCell ⟨g4, k, none⟩ (.bool (c % 2 == 1))) g2 g3 ga g4 m n (k + 1) ∧ c / 2 = carry m n (k + 1)) := fun c hc => I.next hlt c hc
      clear I
      generalize m.testBit k = p at *
      generalize n.testBit k = q at *
      generalize ((m + n) % 2 ^ k).testBit k = o5 at *
      generalize carry m n k = cv at *
      cases p <;> cases q <;> go_wp2
      all_goals exact ⟨⟨k + 1, by omega, by go_num, by rw [(NX.out _ (by simp <;> omega)).2], (NX.out _ (by simp <;> omega)).1⟩, by simp [intOf]; omega⟩
    · obtain rfl : k = 192 := by omega
      have x5 : ∀ j, j < (bv ((m + n) % 2 ^ 192)).size → wr.cell? ⟨g4, 0 + j, none⟩ = (bv ((m + n) % 2 ^ 192))[j]? := fun j _ => by rw [Nat.zero_add]; exact blk_cell I.b5 j
      have X5 := AsideA.mk x5
      clear x5
      go_wp2_with (first | (refine load_at 57 (.tmp 5) rfl rfl g4 0 rfl (bv ((m + n) % 2 ^ 192)) _ Try.underlying57 rfl (size57 _) X5.out ?_) | (refine store_at 57 (.tmp 4) (.tmp 31) rfl rfl ga 0 rfl (bv ((m + n) % 2 ^ 192)) rfl (bv 0) 57 I.b4 (size57 _) (by simp [bv_size]) (bv_one _) _ (splice_all _ _ (by simp [bv_size])) ?_; intro wz hz uz))
      refine bodyPost_ret (v := .agg (bv (m + n))) ?_ rfl ⟨rfl, uz.below I.below I.ge4⟩
      rw [bv_mod] at hz
      exact results_at rfl _ _ ga 57 _ _ rfl hz Try.underlying57 rfl (size57 _)
end Go.Proofs.Ytbeiphfmdmccmaa.A

/-
  The reference's numbers: contracts of Less, Greater, Shifted, Of (countinghouseref01).
-/
namespace Go.Proofs.Ytbeiphfmdmccmaa.A
set_option linter.unusedVariables false
set_option linter.unusedSimpArgs false
open Go.RowKit

/-- four blocks: two arguments, the result's, the variable's -/
structure ArrInv (w wr : World) (g2 g3 g4 g5 : Nat) (c2 c3 c4 c5 : Array Value) : Prop where
  b2 : wr.heap[g2]? = some (.cells c2 57 (0, 0))
  b3 : wr.heap[g3]? = some (.cells c3 57 (0, 0))
  b4 : wr.heap[g4]? = some (.cells c4 57 (0, 0))
  b5 : wr.heap[g5]? = some (.cells c5 57 (0, 0))
  n2 : g2 ≠ g5
  n3 : g3 ≠ g5
  n4 : g4 ≠ g5
  ge4 : w.heap.size ≤ g4
  ge5 : w.heap.size ≤ g5
  below : Below w.heap.size w wr

theorem ArrInv.new {w w2 w3 wa w4 : World} {g2 g3 ga g4 : Nat} {c2 c3 c4 c5 : Array Value} (N2 : New w w2 g2 c2 57) (N3 : New w2 w3 g3 c3 57) (Na : New w3 wa ga c4 57) (N4 : New wa w4 g4 c5 57) : ArrInv w w4 g2 g3 ga g4 c2 c3 c4 c5 := by
  have e2 := blk_below (blk_below N2.blk N3.below) Na.below
  have e3 := blk_below N3.blk Na.below
  have d2 := below_new (Below.refl _ _) N2
  have d3 := below_new d2 N3
  have da := below_new d3 Na
  exact ⟨blk_below e2 N4.below, blk_below e3 N4.below, blk_below Na.blk N4.below, N4.blk, N4.ne e2, N4.ne e3, N4.ne Na.blk, Na.ge d3, N4.ge da, below_new da N4⟩
theorem ArrInv.set {w wr : World} {g2 g3 g4 g5 : Nat} {c2 c3 c4 c5 c5' : Array Value} (I : ArrInv w wr g2 g3 g4 g5 c2 c3 c4 c5) (k : Nat) (v : Value) (h : c5.setIfInBounds k v = c5') : ArrInv w (wr.setCell ⟨g5, k, none⟩ v) g2 g3 g4 g5 c2 c3 c4 c5' :=
  ⟨blk_set_other I.b2 _ _ I.n2, blk_set_other I.b3 _ _ I.n3, blk_set_other I.b4 _ _ I.n4, h ▸ blk_set I.b5 k v, I.n2, I.n3, I.n4, I.ge4, I.ge5, below_set I.below I.ge5⟩

theorem below_drewN' {B : Nat} {w W : World} (h : Below B w W) (n : Nat) : Below B w (W.drewN n) := ⟨h.os, h.tape, h.output, h.size, h.block⟩
set_option maxHeartbeats 1000000 in
set_option maxRecDepth 100000 in
theorem ref_Less (d n : Nat) (w : World) : Calls Try.prog 63 #[.agg (bv (n + d)), .agg (bv n)] w fun e w' => e = .returned (.agg (bv d)) ∧ Below w.heap.size w w' := by
  go_enter Try.func63, Try.ntmps63
  go_wp2_with (first | (refine box_new 57 (.tmp 0) rfl rfl _ rfl (bv (n + d)) rfl ?_; intro g2 w2 N2) | (refine box_new 57 (.tmp 1) rfl rfl _ rfl (bv n) rfl ?_; intro g3 w3 N3) | ((with_reducible refine gate (N := 4) rfl ?_); refine alloc_new 57 rfl rfl _ zero57 (bv 0) rfl ?_; intro ga wa Na) | (refine alloc_new 57 rfl rfl _ zero57 (bv 0) rfl ?_; intro g4 w4 N4))
  have I0 := ArrInv.new N2 N3 Na N4
  clear N2 N3 Na N4
  go_loopw [6, 7] (fun c i wr => ∃ k : Nat, k ≤ 192 ∧ i = .int .i64 k ∧ c = .int .i64 (carry n d k) ∧ ArrInv w wr g2 g3 ga g4 (bv (n + d)) (bv n) (bv 0) (bv (d % 2 ^ k))) (fun _ i _ => 192 - (intOf i).toNat)
  case atStart => exact ⟨0, by omega, rfl, by rw [carry_zero]; rfl, by simpa [Nat.mod_one] using I0⟩
  case round =>
    obtain ⟨k, hk, rfl, rfl, I⟩ := hrel
    clear I0
    by_cases hlt : k < 192
    · have x2 : wr.cell? ⟨g2, k, none⟩ = some (.bool ((n + d).testBit k)) := (blk_cell I.b2 k).trans (bv_get _ hlt)
      have x3 : wr.cell? ⟨g3, k, none⟩ = some (.bool (n.testBit k)) := (blk_cell I.b3 k).trans (bv_get n hlt)
      have x5 : wr.cell? ⟨g4, k, none⟩ = some (.bool ((d % 2 ^ k).testBit k)) := (blk_cell I.b5 k).trans (bv_get _ hlt)
      have f5 := blk_frozen I.b5 k
      have hc := carry_le n d k
      have hc' := carry_le n d (k + 1)
      have hd := bit_le (d.testBit k)
      have hdig := less_digit n d k
      have NX : AsideA (∀ c : Int, c = (d.testBit k).toNat → ArrInv w (wr.setCell ⟨g4, k, none⟩ (.bool (c == 1))) g2 g3 ga g4 (bv (n + d)) (bv n) (bv 0) (bv (d % 2 ^ (k + 1)))) := ⟨fun c hc => I.set k _ (less_set d k c hlt hc)⟩
      clear I
      generalize (n + d).testBit k = p at *
      generalize n.testBit k = q at *
      generalize (d % 2 ^ k).testBit k = o5 at *
      generalize carry n d k = cv at *
      generalize (d.testBit k).toNat = dv at *
      have HC : AsideA (carry n d (k + 1) ≤ 1 ∧ p.toNat + 2 * carry n d (k + 1) = cv + q.toNat + dv) := ⟨hc', hdig⟩
      clear hc' hdig
      cases p <;> cases q <;> go_wp2
      all_goals
        have h1 := HC.out.1
        have h2 := HC.out.2
        simp only [Bool.toNat_true, Bool.toNat_false] at h2
        refine ⟨⟨k + 1, by omega, by go_num, ?_, NX.out _ (by omega)⟩, by simp [intOf]; omega⟩
        first | (have h3 : carry n d (k + 1) = 0 := by omega
                 rw [h3]; rfl) | (have h3 : carry n d (k + 1) = 1 := by omega
                                  rw [h3]; rfl)
    · obtain rfl : k = 192 := by omega
      have x5 : ∀ j, j < (bv (d % 2 ^ 192)).size → wr.cell? ⟨g4, 0 + j, none⟩ = (bv (d % 2 ^ 192))[j]? := fun j _ => by rw [Nat.zero_add]; exact blk_cell I.b5 j
      have X5 := AsideA.mk x5
      clear x5
      go_wp2_with (first | (refine load_at 57 (.tmp 5) rfl rfl g4 0 rfl (bv (d % 2 ^ 192)) _ Try.underlying57 rfl (size57 _) X5.out ?_) | (refine store_at 57 (.tmp 4) (.tmp 33) rfl rfl ga 0 rfl (bv (d % 2 ^ 192)) rfl (bv 0) 57 I.b4 (size57 _) (by simp [bv_size]) (bv_one _) _ (splice_all _ _ (by simp [bv_size])) ?_; intro wz hz uz))
      refine bodyPost_ret (v := .agg (bv d)) ?_ rfl ⟨rfl, uz.below I.below I.ge4⟩
      rw [bv_mod] at hz
      exact results_at rfl _ _ ga 57 _ _ rfl hz Try.underlying57 rfl (size57 _)

set_option maxHeartbeats 1000000 in
set_option maxRecDepth 100000 in
theorem ref_Greater (m n : Nat) (hm : m < 2 ^ 192) (hn : n < 2 ^ 192) (w : World) : Calls Try.prog 61 #[.agg (bv m), .agg (bv n)] w fun e w' => e = .returned (.bool (decide (n < m))) ∧ Below w.heap.size w w' := by
  have T := AsideA.mk (same_top hm hn)
  clear hm hn
  go_enter Try.func61, Try.ntmps61
  go_wp2_with (first | (refine box_new 57 (.tmp 0) rfl rfl _ rfl (bv m) rfl ?_; intro g2 w2 N2) | (refine box_new 57 (.tmp 1) rfl rfl _ rfl (bv n) rfl ?_; intro g3 w3 N3))
  have B2 := AsideA.mk (blk_below N2.blk N3.below)
  have B3 := AsideA.mk N3.blk
  have BB := AsideA.mk (below_new (below_new (Below.refl _ _) N2) N3)
  clear N2 N3
  go_loopw [5] (fun i wr => ∃ k : Nat, k ≤ 192 ∧ i = .int .i64 ((k : Int) - 1) ∧ AsideA (Same m n k) ∧ AsideA (wr.heap = w3.heap) ∧ AsideA (Below w.heap.size w wr)) (fun i _ => (intOf i + 1).toNat)
  case atStart => exact ⟨192, by omega, rfl, T, ⟨rfl⟩, BB⟩
  case round =>
    obtain ⟨k, hk, rfl, S, HH, HB⟩ := hrel
    clear BB
    cases k with
    | zero =>
      go_wp2
      go_ret
      have := same_zero S.out
      subst this
      exact ⟨by simp, HB.out⟩
    | succ k =>
      have hlt : k < 192 := by omega
      have x2 : wr.cell? ⟨g2, k, none⟩ = some (.bool (m.testBit k)) := by
        have := B2.out
        rw [← HH.out] at this
        exact (blk_cell this k).trans (bv_get _ hlt)
      have x3 : wr.cell? ⟨g3, k, none⟩ = some (.bool (n.testBit k)) := by
        have := B3.out
        rw [← HH.out] at this
        exact (blk_cell this k).trans (bv_get _ hlt)
      have e1 : ((k + 1 : Nat) : Int) - 1 = k := by omega
      rw [e1]
      clear e1
      by_cases hb : m.testBit k = n.testBit k
      · have S' := AsideA.mk (same_step S.out hb)
        rw [← hb] at x3
        clear hb S
        generalize m.testBit k = p at *
        go_wp2
        go_quiet (fail)
        go_wp2
        exact ⟨⟨k, by omega, rfl, S', ⟨HH.out⟩, ⟨below_drewN' HB.out _⟩⟩, by simp [intOf]⟩
      · have S' := AsideA.mk (same_gt S.out hb)
        have hq : n.testBit k = !m.testBit k := by cases h1 : m.testBit k <;> cases h2 : n.testBit k <;> simp_all
        rw [hq] at x3
        clear hb hq S
        generalize m.testBit k = p at *
        cases p
        all_goals
          go_wp2
          go_quiet (fail)
          go_wp2
          go_ret
          rw [← S'.out]
          exact ⟨rfl, below_drewN' HB.out _⟩
end Go.Proofs.Ytbeiphfmdmccmaa.A

/-
  The reference's numbers: contracts of Shifted and Of (countinghouseref01).
-/
namespace Go.Proofs.Ytbeiphfmdmccmaa.A
set_option linter.unusedVariables false
set_option linter.unusedSimpArgs false
open Go.RowKit

structure ShInv (w wr : World) (g2 g4 g5 : Nat) (c2 c4 c5 : Array Value) : Prop where
  b2 : wr.heap[g2]? = some (.cells c2 57 (0, 0))
  b4 : wr.heap[g4]? = some (.cells c4 57 (0, 0))
  b5 : wr.heap[g5]? = some (.cells c5 57 (0, 0))
  n2 : g2 ≠ g5
  n4 : g4 ≠ g5
  ge4 : w.heap.size ≤ g4
  ge5 : w.heap.size ≤ g5
  below : Below w.heap.size w wr
theorem ShInv.new {w w2 wa w4 : World} {g2 ga g4 : Nat} {c2 c4 c5 : Array Value} (N2 : New w w2 g2 c2 57) (Na : New w2 wa ga c4 57) (N4 : New wa w4 g4 c5 57) : ShInv w w4 g2 ga g4 c2 c4 c5 := by
  have e2 := blk_below N2.blk Na.below
  have d2 := below_new (Below.refl _ _) N2
  have da := below_new d2 Na
  exact ⟨blk_below e2 N4.below, blk_below Na.blk N4.below, N4.blk, N4.ne e2, N4.ne Na.blk, Na.ge d2, N4.ge da, below_new da N4⟩
theorem ShInv.set {w wr : World} {g2 g4 g5 : Nat} {c2 c4 c5 c5' : Array Value} (I : ShInv w wr g2 g4 g5 c2 c4 c5) (k : Nat) (v : Value) (h : c5.setIfInBounds k v = c5') : ShInv w (wr.setCell ⟨g5, k, none⟩ v) g2 g4 g5 c2 c4 c5' :=
  ⟨blk_set_other I.b2 _ _ I.n2, blk_set_other I.b4 _ _ I.n4, h ▸ blk_set I.b5 k v, I.n2, I.n4, I.ge4, I.ge5, below_set I.below I.ge5⟩

set_option maxHeartbeats 1000000 in
set_option maxRecDepth 100000 in
theorem ref_Shifted (m b : Nat) (hb : b ≤ 192) (w : World) : Calls Try.prog 64 #[.agg (bv m), .int .i64 b] w fun e w' => e = .returned (.agg (bv (m <<< b))) ∧ Below w.heap.size w w' := by
  go_enter Try.func64, Try.ntmps64
  go_wp2_with (first | (refine box_new 57 (.tmp 0) rfl rfl _ rfl (bv m) rfl ?_; intro g2 w2 N2) | ((with_reducible refine gate (N := 4) rfl ?_); refine alloc_new 57 rfl rfl _ zero57 (bv 0) rfl ?_; intro ga wa Na) | (refine alloc_new 57 rfl rfl _ zero57 (bv 0) rfl ?_; intro g4 w4 N4))
  have I0 := ShInv.new N2 Na N4
  rw [← shift_start m b] at I0
  clear N2 Na N4
  go_loopw [6] (fun i wr => ∃ k : Nat, b ≤ k ∧ k ≤ 192 ∧ i = .int .i64 k ∧ ShInv w wr g2 ga g4 (bv m) (bv 0) (bv ((m <<< b) % 2 ^ k))) (fun i _ => 192 - (intOf i).toNat)
  case atStart => exact ⟨b, by omega, by omega, rfl, by have := I0; rw [shift_start] at this ⊢; exact this⟩
  case round =>
    obtain ⟨k, hbk, hk, rfl, I⟩ := hrel
    clear I0
    by_cases hlt : k < 192
    · have x2 : wr.cell? ⟨g2, k - b, none⟩ = some (.bool (m.testBit (k - b))) := (blk_cell I.b2 _).trans (bv_get _ (by omega))
      have x5 : wr.cell? ⟨g4, k, none⟩ = some (.bool (((m <<< b) % 2 ^ k).testBit k)) := (blk_cell I.b5 k).trans (bv_get _ hlt)
      have f5 := blk_frozen I.b5 k
      have NX := AsideA.mk (I.set k _ (shift_set m b k hbk))
      clear I
      generalize m.testBit (k - b) = p at *
      generalize ((m <<< b) % 2 ^ k).testBit k = o5 at *
      go_wp2
      exact ⟨⟨k + 1, by omega, by omega, by go_num, NX.out⟩, by simp [intOf]; omega⟩
    · obtain rfl : k = 192 := by omega
      have x5 : ∀ j, j < (bv ((m <<< b) % 2 ^ 192)).size → wr.cell? ⟨g4, 0 + j, none⟩ = (bv ((m <<< b) % 2 ^ 192))[j]? := fun j _ => by rw [Nat.zero_add]; exact blk_cell I.b5 j
      have X5 := AsideA.mk x5
      clear x5
      go_wp2_with (first | (refine load_at 57 (.tmp 5) rfl rfl g4 0 rfl (bv ((m <<< b) % 2 ^ 192)) _ Try.underlying57 rfl (size57 _) X5.out ?_) | (refine store_at 57 (.tmp 4) (.tmp 19) rfl rfl ga 0 rfl (bv ((m <<< b) % 2 ^ 192)) rfl (bv 0) 57 I.b4 (size57 _) (by simp [bv_size]) (bv_one _) _ (splice_all _ _ (by simp [bv_size])) ?_; intro wz hz uz))
      refine bodyPost_ret (v := .agg (bv (m <<< b))) ?_ rfl ⟨rfl, uz.below I.below I.ge4⟩
      rw [bv_mod] at hz
      exact results_at rfl _ _ ga 57 _ _ rfl hz Try.underlying57 rfl (size57 _)

theorem zc59 (b : Bool) : Try.zeroCells59.setIfInBounds 0 (.bool b) = wh b 0 := by cases b <;> kernel_rfl

theorem zc59_size (b : Bool) : (Try.prog.info? 59).map (·.size) = some (Try.zeroCells59.setIfInBounds 0 (.bool b)).size := (zc59 b) ▸ size59 b 0
theorem zc59_le (b : Bool) (n : Nat) : 0 + (Try.zeroCells59.setIfInBounds 0 (.bool b)).size ≤ (wh false n).size := by rw [zc59, wh_size, wh_size]; exact Nat.le_refl _
theorem zc59_one (b : Bool) : ∀ v ∈ (Try.zeroCells59.setIfInBounds 0 (.bool b)).toList, v.oneCell' = true := (zc59 b) ▸ wh_one b 0
theorem zc59_splice (b : Bool) (n : Nat) : splice (wh false n) 0 (Try.zeroCells59.setIfInBounds 0 (.bool b)) = wh b 0 := by rw [zc59]; exact splice_all _ _ (by rw [wh_size, wh_size])
structure OfInv (w wr : World) (g2 g3 : Nat) (c2 c3 : Array Value) : Prop where
  b2 : wr.heap[g2]? = some (.cells c2 59 (0, 0))
  b3 : wr.heap[g3]? = some (.cells c3 59 (0, 0))
  n2 : g2 ≠ g3
  ge2 : w.heap.size ≤ g2
  ge3 : w.heap.size ≤ g3
  below : Below w.heap.size w wr
theorem OfInv.set {w wr : World} {g2 g3 : Nat} {c2 c3 c3' : Array Value} (I : OfInv w wr g2 g3 c2 c3) (k : Nat) (v : Value) (h : c3.setIfInBounds k v = c3') : OfInv w (wr.setCell ⟨g3, k, none⟩ v) g2 g3 c2 c3' :=
  ⟨blk_set_other I.b2 _ _ I.n2, h ▸ blk_set I.b3 k v, I.n2, I.ge2, I.ge3, below_set I.below I.ge3⟩

set_option maxHeartbeats 1000000 in
set_option maxRecDepth 100000 in
theorem ref_Of (a : Int) (h1 : -9223372036854775808 ≤ a) (h2 : a ≤ 9223372036854775807) (w : World) : Calls Try.prog 49 #[.int .i64 a] w fun e w' => e = .returned (.agg (wh (decide (a < 0)) a.natAbs)) ∧ Below w.heap.size w w' := by
  have key : ∀ b : Bool, decide (a < 0) = b → Calls Try.prog 49 #[.int .i64 a] w fun e w' => e = .returned (.agg (wh b a.natAbs)) ∧ Below w.heap.size w w' := by
    intro b hb
    cases b
    all_goals
      go_enter Try.func49, Try.ntmps49
      go_wp2_with (first | ((with_reducible refine gate (N := 2) rfl ?_); refine alloc_new 59 rfl rfl _ zero59 (wh false 0) rfl ?_; intro g2 w2 N2) | (refine alloc_new 59 rfl rfl _ zero59 (wh false 0) rfl ?_; intro g3 w3 N3) | (refine store_at 59 (.tmp 3) (.tmp 8) rfl rfl g3 0 rfl _ rfl (wh false 0) 59 N3.blk (zc59_size _) (zc59_le _ _) (zc59_one _) _ (zc59_splice _ _) ?_; intro w4 hb4 u4))
      have I0 : OfInv w w4 g2 g3 (wh false 0) (wh _ 0) := ⟨blk_upd u4 (blk_below N2.blk N3.below) (N3.ne N2.blk), hb4, N3.ne N2.blk, N2.ge (Below.refl _ _), N3.ge (below_new (Below.refl _ _) N2), u4.below (below_new (below_new (Below.refl _ _) N2) N3) (N3.ge (below_new (Below.refl _ _) N2))⟩
      clear N2 N3 u4 hb4
      first | rw [abs_u64 a h1 (of_decide_eq_true hb)] | rw [pos_u64 a (Int.not_lt.1 (of_decide_eq_false hb)) h2]
      have hu : a.natAbs < 18446744073709551616 := by omega
      have h63 : a.natAbs ≤ 9223372036854775808 := by omega
      clear hb h1 h2
      generalize HU0 : a.natAbs = u at hu h63 I0 ⊢
      have HU := AsideA.mk HU0
      clear HU0
      go_loopw [5] (fun i wr => ∃ k : Nat, k ≤ 64 ∧ i = .int .i64 k ∧ OfInv w wr g2 g3 (wh false 0) (wh _ (u % 2 ^ k))) (fun i _ => 64 - (intOf i).toNat)
      case atStart => exact ⟨0, by omega, rfl, by rw [Nat.pow_zero, Nat.mod_one]; exact I0⟩
      case round =>
        obtain ⟨k, hk, rfl, I⟩ := hrel
        clear I0
        by_cases hlt : k < 64
        · have x3 := (blk_cell I.b3 (1 + k)).trans (wh_get _ _ (show k < 192 by omega))
          have f3 := blk_frozen I.b3 (1 + k)
          have NX := AsideA.mk (I.set (1 + k) _ (whbits_set _ u k))
          rw [← bit_u64 u k hu] at NX
          clear I
          generalize (u % 2 ^ k).testBit k = o5 at *
          go_wp2
          exact ⟨⟨k + 1, by omega, by go_num, NX.out⟩, by simp [intOf]; omega⟩
        · obtain rfl : k = 64 := by omega
          rw [Nat.mod_eq_of_lt hu] at I
          have X3 := AsideA.mk (blk_at0 I.b3)
          have B2 := AsideA.mk I.b2
          have UB := AsideA.mk (fun (wz : World) (uz : Upd wr wz g2) => uz.below I.below I.ge2)
          clear I
          go_wp2_with (first | (refine load_at 59 (.tmp 3) rfl rfl g3 0 rfl (wh _ u) _ Try.underlying59 rfl (size59 _ _) X3.out ?_) | (refine store_at 59 (.tmp 2) (.tmp 28) rfl rfl g2 0 rfl (wh _ u) rfl (wh false 0) 59 B2.out (size59 _ _) (by rw [wh_size, wh_size]; exact Nat.le_refl _) (wh_one _ _) _ (splice_all _ _ (by rw [wh_size, wh_size])) ?_; intro wz hz uz))
          refine bodyPost_ret (v := .agg (wh _ u)) ?_ rfl ⟨by rw [HU.out], UB.out _ uz⟩
          exact results_at rfl _ _ g2 59 _ _ rfl hz Try.underlying59 rfl (size59 _ _)
  exact key _ rfl
end Go.Proofs.Ytbeiphfmdmccmaa.A

/-
  The reference's numbers: the contract of Num (countinghouseref01).
-/
namespace Go.Proofs.Ytbeiphfmdmccmaa.A
set_option linter.unusedVariables false
set_option linter.unusedSimpArgs false
open Go.RowKit

/-- a number with a sign, as 64 bits, or too great (10) -/
def fit (v : Int) : Int × Int := if -9223372036854775808 ≤ v ∧ v ≤ 9223372036854775807 then (v, 0) else (0, 10)
def sval (s : Bool) (n : Nat) : Int := if s then -(n : Int) else n

theorem num_over {s : Bool} {n k : Nat} (hk : 64 ≤ k) (hb : n.testBit k = true) : fit (sval s n) = (0, 10) := by
  have h1 : 2 ^ k ≤ n := Nat.ge_two_pow_of_testBit hb
  have h2 : (2 : Nat) ^ 64 ≤ 2 ^ k := Nat.pow_le_pow_right (by omega) hk
  unfold fit
  rw [if_neg]
  unfold sval
  cases s <;> simp <;> omega
theorem div_bit (n k : Nat) : n / 2 ^ k = 2 * (n / 2 ^ (k + 1)) + (n.testBit k).toNat := by
  rw [Nat.pow_succ, ← Nat.div_div_eq_div_mul, Nat.toNat_testBit]
  omega

/-- what the loop knows with k places still to come -/
def NumInv (n k u : Nat) : Prop := u = n / 2 ^ k ∧ n < 2 ^ max k 64
theorem NumInv.start {n : Nat} (h : n < 2 ^ 192) : NumInv n 192 0 := ⟨(Nat.div_eq_of_lt h).symm, h⟩
theorem NumInv.le {n k u : Nat} (h : NumInv n k u) : u ≤ 18446744073709551615 := by
  obtain ⟨rfl, h2⟩ := h
  by_cases h64 : 64 ≤ k
  · rw [Nat.max_eq_left h64] at h2
    rw [Nat.div_eq_of_lt h2]
    omega
  · rw [Nat.max_eq_right (by omega)] at h2
    have := Nat.div_le_self n (2 ^ k)
    omega
theorem NumInv.step {n k u : Nat} (h : NumInv n (k + 1) u) (hb : n.testBit k = true → k < 64) : NumInv n k (2 * u + (n.testBit k).toNat) := by
  obtain ⟨rfl, h2⟩ := h
  refine ⟨(div_bit n k).symm, ?_⟩
  by_cases h64 : 64 ≤ k
  · have hf : n.testBit k = false := by
      cases hbb : n.testBit k with
      | false => rfl
      | true => exact absurd (hb hbb) (by omega)
    rw [Nat.max_eq_left (by omega)] at h2 ⊢
    have e := div_bit n k
    rw [Nat.div_eq_of_lt h2, hf] at e
    exact (Nat.div_eq_zero_iff_lt (Nat.pos_of_ne_zero (by simp))).1 (by simpa using e)
  · rw [Nat.max_eq_right (by omega)] at h2 ⊢
    exact h2

set_option maxHeartbeats 2000000 in
set_option maxRecDepth 100000 in
theorem ref_Num (s : Bool) (n : Nat) (hn : n < 2 ^ 192) (w : World) : Calls Try.prog 47 #[.agg (wh s n)] w fun e w' => e = .returned (.tuple #[.int .i64 (fit (sval s n)).1, .int .i64 (fit (sval s n)).2]) ∧ Below w.heap.size w w' := by
  have T := AsideA.mk (NumInv.start hn)
  clear hn
  go_enter Try.func47, Try.ntmps47
  go_wp2_with (first | (refine box_new 59 (.tmp 0) rfl rfl _ rfl (wh s n) rfl ?_; intro g1 w1 N1))
  have B1 := AsideA.mk N1.blk
  have BB := AsideA.mk (below_new (Below.refl _ _) N1)
  clear N1
  go_loop [4, 5] (fun c i => ∃ k u : Nat, k ≤ 192 ∧ i = .int .i64 ((k : Int) - 1) ∧ c = .int .u64 u ∧ AsideA (NumInv n k u)) (fun _ i => (intOf i + 1).toNat)
  case atStart => exact ⟨192, 0, by omega, rfl, rfl, T⟩
  case round =>
    obtain ⟨k, u, hk, rfl, rfl, S⟩ := hrel
    cases k with
    | zero =>
      have h0 : u = n := by have := S.out.1; simpa using this
      subst h0
      have hle := S.out.le
      have x0 : w1.cell? ⟨g1, 0, none⟩ = some (.bool s) := (blk_cell B1.out 0).trans (wh_zero s u)
      cases s
      · by_cases h63 : (u : Int) ≤ 9223372036854775807
        · have d1 : decide (9223372036854775808 ≤ (u : Int)) = false := decide_eq_false (by omega)
          clear hle
          go_wp2
          go_ret2
          have F : fit (sval false u) = ((u : Int), 0) := by unfold fit sval; rw [if_pos (by simp; omega)]; simp
          rw [F]
          exact ⟨rfl, BB.out⟩
        · have d1 : decide (9223372036854775808 ≤ (u : Int)) = true := decide_eq_true (by omega)
          clear hle h63
          go_wp2
          go_ret2
          have F : fit (sval false u) = (0, 10) := by
            have := of_decide_eq_true d1
            unfold fit sval; rw [if_neg (by simp; omega)]
          rw [F]
          exact ⟨rfl, BB.out⟩
      · by_cases h63 : (u : Int) ≤ 9223372036854775808
        · have d1 : decide ((u : Int) ≤ 9223372036854775808) = true := decide_eq_true h63
          clear hle h63
          go_wp2
          go_ret2
          have F : fit (sval true u) = (-(u : Int), 0) := by
            have := of_decide_eq_true d1
            unfold fit sval; rw [if_pos (by simp; omega)]; simp
          rw [F]
          rw [neg64_u64 u (of_decide_eq_true d1)]
          exact ⟨rfl, BB.out⟩
        · have d1 : decide ((u : Int) ≤ 9223372036854775808) = false := decide_eq_false h63
          have d2 : decide (9223372036854775808 ≤ (u : Int)) = true := decide_eq_true (by omega)
          clear hle h63
          go_wp2
          go_ret2
          have F : fit (sval true u) = (0, 10) := by
            have := of_decide_eq_true d2
            have := of_decide_eq_false d1
            unfold fit sval; rw [if_neg (by simp; omega)]
          rw [F]
          exact ⟨rfl, BB.out⟩
    | succ k =>
      have hlt : k < 192 := by omega
      have x1 : w1.cell? ⟨g1, 1 + k, none⟩ = some (.bool (n.testBit k)) := (blk_cell B1.out _).trans (wh_get s n hlt)
      have e1 : ((k + 1 : Nat) : Int) - 1 = k := by omega
      rw [e1]
      clear e1
      cases hb : n.testBit k
      · rw [hb] at x1
        have S' := AsideA.mk (S.out.step (by rw [hb]; intro h; cases h))
        rw [hb] at S'
        have hle : 2 * u ≤ 18446744073709551615 := by simpa using S'.out.le
        clear S hb
        go_wp2
        exact ⟨⟨k, 2 * u, by omega, rfl, by go_num, S'⟩, by simp [intOf]⟩
      · rw [hb] at x1
        by_cases h64 : k < 64
        · have S' := AsideA.mk (S.out.step (fun _ => h64))
          rw [hb] at S'
          have hle : 2 * u + 1 ≤ 18446744073709551615 := by simpa using S'.out.le
          clear S hb
          go_wp2
          exact ⟨⟨k, 2 * u + 1, by omega, rfl, by go_num, S'⟩, by simp [intOf]⟩
        · have ho := AsideA.mk (num_over (s := s) (show 64 ≤ k by omega) hb)
          clear S hb
          go_wp2
          go_ret2
          rw [ho.out]
          exact ⟨rfl, BB.out⟩
end Go.Proofs.Ytbeiphfmdmccmaa.A

/-
  The reference's numbers: the contract of Together (countinghouseref01).
-/
namespace Go.Proofs.Ytbeiphfmdmccmaa.A
set_option linter.unusedVariables false
set_option linter.unusedSimpArgs false
open Go.RowKit

theorem built59_fill (parts : List (Nat × Value)) : Try.prog.built 59 parts = Instr.fill ((#[(0, 1), (1, 192)] : Array (Nat × Nat))[·]?) (wh false 0) parts := by kernel_rfl
theorem wh_set0 (b s : Bool) (n : Nat) : splice (wh s n) 0 #[Value.bool b] = wh b n := by
  unfold splice
  unfold wh
  simp
theorem wh_lay (b : Bool) (m n : Nat) : splice (wh b m) 1 (bv n) = wh b n := by
  unfold splice
  unfold wh
  have h1 : ((#[Value.bool b] ++ bv m).toList.take 1) = [Value.bool b] := by simp
  have h2 : ((#[Value.bool b] ++ bv m).toList.drop (1 + (bv n).size)) = [] := List.drop_eq_nil_of_le (by simp [bv_size])
  rw [h1, h2]
  simp
theorem built59 (b : Bool) (n : Nat) : Try.prog.built 59 [(0, .bool b), (1, .agg (bv n))] = some (wh b n) := by
  rw [built59_fill, fill_cons _ _ _ _ _ 0 1 rfl rfl (by rw [wh_size]; omega)]
  rw [show (Value.bool b).cells = #[Value.bool b] from rfl, wh_set0]
  rw [fill_cons _ _ _ (Value.agg (bv n)) _ 1 192 rfl (bv_size n) (by rw [wh_size]; omega)]
  rw [show (Value.agg (bv n)).cells = bv n from rfl, wh_lay]
  rfl

/-- the two arguments' blocks and the result's -/
structure TogInv (w wr : World) (g2 g3 g4 : Nat) (c2 c3 c4 : Array Value) : Prop where
  b2 : wr.heap[g2]? = some (.cells c2 59 (0, 0))
  b3 : wr.heap[g3]? = some (.cells c3 59 (0, 0))
  b4 : wr.heap[g4]? = some (.cells c4 59 (0, 0))
  ge4 : w.heap.size ≤ g4
  below : Below w.heap.size w wr
theorem TogInv.later {w wr wz : World} {g2 g3 g4 : Nat} {c2 c3 c4 : Array Value} (I : TogInv w wr g2 g3 g4 c2 c3 c4) (h : Below wr.heap.size wr wz) : TogInv w wz g2 g3 g4 c2 c3 c4 :=
  ⟨blk_below I.b2 h, blk_below I.b3 h, blk_below I.b4 h, I.ge4, below_call I.below h⟩
theorem TogInv.drew {w wr : World} {g2 g3 g4 : Nat} {c2 c3 c4 : Array Value} (I : TogInv w wr g2 g3 g4 c2 c3 c4) : TogInv w wr.drew g2 g3 g4 c2 c3 c4 :=
  ⟨I.b2, I.b3, I.b4, I.ge4, I.below.drew⟩
theorem TogInv.new {w w2 w3 w4 : World} {g2 g3 g4 : Nat} {c2 c3 c4 : Array Value} (N2 : New w w2 g2 c2 59) (N3 : New w2 w3 g3 c3 59) (N4 : New w3 w4 g4 c4 59) : TogInv w w4 g2 g3 g4 c2 c3 c4 := by
  have e2 := blk_below N2.blk N3.below
  have d2 := below_new (Below.refl _ _) N2
  have d3 := below_new d2 N3
  exact ⟨blk_below e2 N4.below, blk_below N3.blk N4.below, N4.blk, N4.ge d3, below_new d3 N4⟩
theorem at1 {wr : World} {g : Nat} {s : Bool} {n : Nat} (h : wr.heap[g]? = some (.cells (wh s n) 59 (0, 0))) : ∀ j, j < (bv n).size → wr.cell? ⟨g, 1 + j, none⟩ = (bv n)[j]? := fun j hj => (blk_cell h _).trans (wh_bv s n j hj)

theorem follows : Try.prog.follows .mixedOrders = true := by kernel_rfl

set_option maxHeartbeats 2000000 in
set_option maxRecDepth 100000 in
theorem tog_same (s : Bool) (m n : Nat) (w : World) : Calls Try.prog 48 #[.agg (wh s m), .agg (wh s n)] w fun e w' => e = .returned (.agg (wh s (m + n))) ∧ Below w.heap.size w w' := by
  go_enter Try.func48, Try.ntmps48
  go_wp2_with (first | (refine box_new 59 (.tmp 0) rfl rfl _ rfl (wh s m) rfl ?_; intro g2 w2 N2) | (refine box_new 59 (.tmp 1) rfl rfl _ rfl (wh s n) rfl ?_; intro g3 w3 N3; have I0 := AsideA.mk N3) | (refine alloc_new 59 rfl rfl _ zero59 (wh false 0) rfl ?_; intro g4 w4 N4; have I := AsideA.mk (TogInv.new N2 N3 N4); have x2 : w4.cell? ⟨g2, 0, none⟩ = some (.bool s) := (blk_cell I.out.b2 0).trans (wh_zero s m); have x3 : w4.cell? ⟨g3, 0, none⟩ = some (.bool s) := (blk_cell I.out.b3 0).trans (wh_zero s n); clear N2 I0 N3 N4))
  refine region_fin follows [10, 11, 12, 13, 14, 15, 16, 17] [(10, .pointer (some ⟨g2, 0, none⟩)), (11, .bool s), (12, .pointer (some ⟨g2, 1, none⟩)), (13, .agg (bv m)), (14, .pointer (some ⟨g3, 1, none⟩)), (15, .agg (bv n)), (16, .agg (bv (m + n))), (17, .agg (wh s (m + n)))] rfl _ (by simp only [actPuts]; go_simp; rfl) 39 rfl (by kernel_rfl)
    (fun wr => TogInv w wr g2 g3 g4 (wh s m) (wh s n) (wh false 0)) (fun wr => wr.heap[g4]? = some (.cells (wh s (m + n)) 59 (0, 0)) ∧ Below w.heap.size w wr) I.out.drew ?_ ?_
  · refine ⟨?_, ?_, ?_, ?_, ?_, ?_, ?_, ?_, ?_⟩
    · intro wr h
      exact op_val (v := .pointer (some ⟨g2, 0, none⟩)) (w' := wr) (by go_simp) rfl rfl h
    · intro wr h
      have hx := (blk_cell h.b2 0).trans (wh_zero s m)
      exact op_val (v := .bool s) (w' := wr) (by go_simp) rfl rfl h
    · intro wr h
      exact op_val (v := .pointer (some ⟨g2, 1, none⟩)) (w' := wr) (by go_simp) rfl rfl h
    · intro wr h
      exact op_val (run_load_at 57 _ rfl g2 1 rfl (bv m) _ Try.underlying57 rfl (size57 _) (at1 h.b2)) rfl rfl h
    · intro wr h
      exact op_val (v := .pointer (some ⟨g3, 1, none⟩)) (w' := wr) (by go_simp) rfl rfl h
    · intro wr h
      exact op_val (run_load_at 57 _ rfl g3 1 rfl (bv n) _ Try.underlying57 rfl (size57 _) (at1 h.b3)) rfl rfl h
    · intro wr h
      exact op_call (f := 62) (args := #[.agg (bv m), .agg (bv n)]) (by go_simp) rfl rfl ((ref_Plus m n wr).mono fun e w' ⟨he, hb⟩ => ⟨he, h.later hb⟩)
    · intro wr h
      exact op_build 59 _ rfl [(0, .bool s), (1, .agg (bv (m + n)))] (by go_simp) _ (built59 s (m + n)) rfl rfl h
    · intro wr h
      exact op_store 59 (.tmp 4) (.tmp 17) rfl rfl g4 0 rfl (wh s (m + n)) rfl (wh false 0) 59 h.b4 (size59 _ _) (by rw [wh_size, wh_size]; exact Nat.le_refl _) (wh_one _ _) _ (splice_all _ _ (by rw [wh_size, wh_size]))
        fun w1 hb hu => ⟨hb, hu.below h.below h.ge4⟩
  · rintro wz ⟨hz, hbz⟩
    go_wp2
    refine bodyPost_ret (v := .agg (wh s (m + n))) ?_ rfl ⟨rfl, hbz⟩
    exact results_at rfl _ _ g4 59 _ _ rfl hz Try.underlying59 rfl (size59 _ _)

set_option maxHeartbeats 2000000 in
set_option maxRecDepth 100000 in
theorem tog_less (s : Bool) (n d : Nat) (h0 : 0 < d) (hd : n + d < 2 ^ 192) (w : World) : Calls Try.prog 48 #[.agg (wh s n), .agg (wh (!s) (n + d))] w fun e w' => e = .returned (.agg (wh (!s) d)) ∧ Below w.heap.size w w' := by
  have GR := AsideA.mk (ref_Greater (n + d) n (by omega) (by omega))
  rw [show decide (n < (n + d)) = true from by simp <;> omega] at GR
  generalize hs2 : (!s) = s2 at *
  have hne : (s == s2) = false := by subst hs2; cases s <;> rfl
  clear hs2
  go_enter Try.func48, Try.ntmps48
  go_wp2_with (first | (refine box_new 59 (.tmp 0) rfl rfl _ rfl (wh s n) rfl ?_; intro g2 w2 N2) | (refine box_new 59 (.tmp 1) rfl rfl _ rfl (wh s2 (n + d)) rfl ?_; intro g3 w3 N3) | (refine alloc_new 59 rfl rfl _ zero59 (wh false 0) rfl ?_; intro g4 w4 N4; have I := AsideA.mk (TogInv.new N2 N3 N4); have x2 : w4.cell? ⟨g2, 0, none⟩ = some (.bool s) := (blk_cell I.out.b2 0).trans (wh_zero s _); have x3 : w4.cell? ⟨g3, 0, none⟩ = some (.bool s2) := (blk_cell I.out.b3 0).trans (wh_zero s2 _); clear N2 N3 N4) | (refine load_at 57 (.tmp 18) rfl rfl g3 1 rfl (bv (n + d)) _ Try.underlying57 rfl (size57 _) (at1 I.out.b3) ?_) | (refine load_at 57 (.tmp 20) rfl rfl g2 1 rfl (bv n) _ Try.underlying57 rfl (size57 _) (at1 I.out.b2) ?_) | (go_at_call 61; refine (GR.out _).mono ?_; rintro e w5 ⟨rfl, hb5⟩; have I5 := AsideA.mk (I.out.later hb5); clear hb5 I x2 x3))
  refine region_fin follows [23, 24, 25, 26, 27, 28, 29, 30] [(23, .pointer (some ⟨g3, 0, none⟩)), (24, .bool s2), (25, .pointer (some ⟨g3, 1, none⟩)), (26, .agg (bv (n + d))), (27, .pointer (some ⟨g2, 1, none⟩)), (28, .agg (bv n)), (29, .agg (bv d)), (30, .agg (wh s2 d))] rfl _ (by simp only [actPuts]; go_simp; rfl) 39 rfl (by kernel_rfl)
    (fun wr => TogInv w wr g2 g3 g4 (wh s n) (wh s2 (n + d)) (wh false 0)) (fun wr => wr.heap[g4]? = some (.cells (wh s2 d) 59 (0, 0)) ∧ Below w.heap.size w wr) I5.out.drew ?_ ?_
  · refine ⟨?_, ?_, ?_, ?_, ?_, ?_, ?_, ?_, ?_⟩
    · intro wr h
      exact op_val (v := .pointer (some ⟨g3, 0, none⟩)) (w' := wr) (by go_simp) rfl rfl h
    · intro wr h
      have hx := (blk_cell h.b3 0).trans (wh_zero s2 _)
      exact op_val (v := .bool s2) (w' := wr) (by go_simp) rfl rfl h
    · intro wr h
      exact op_val (v := .pointer (some ⟨g3, 1, none⟩)) (w' := wr) (by go_simp) rfl rfl h
    · intro wr h
      exact op_val (run_load_at 57 _ rfl g3 1 rfl (bv (n + d)) _ Try.underlying57 rfl (size57 _) (at1 h.b3)) rfl rfl h
    · intro wr h
      exact op_val (v := .pointer (some ⟨g2, 1, none⟩)) (w' := wr) (by go_simp) rfl rfl h
    · intro wr h
      exact op_val (run_load_at 57 _ rfl g2 1 rfl (bv n) _ Try.underlying57 rfl (size57 _) (at1 h.b2)) rfl rfl h
    · intro wr h
      exact op_call (f := 63) (args := #[.agg (bv (n + d)), .agg (bv n)]) (by go_simp) rfl rfl ((ref_Less d n wr).mono fun e w' ⟨he, hb⟩ => ⟨he, h.later hb⟩)
    · intro wr h
      exact op_build 59 _ rfl [(0, .bool s2), (1, .agg (bv d))] (by go_simp) _ (built59 s2 d) rfl rfl h
    · intro wr h
      exact op_store 59 (.tmp 4) (.tmp 30) rfl rfl g4 0 rfl (wh s2 d) rfl (wh false 0) 59 h.b4 (size59 _ _) (by rw [wh_size, wh_size]; exact Nat.le_refl _) (wh_one _ _) _ (splice_all _ _ (by rw [wh_size, wh_size]))
        fun w1 hb hu => ⟨hb, hu.below h.below h.ge4⟩
  · rintro wz ⟨hz, hbz⟩
    go_wp2
    refine bodyPost_ret (v := .agg (wh s2 d)) ?_ rfl ⟨rfl, hbz⟩
    exact results_at rfl _ _ g4 59 _ _ rfl hz Try.underlying59 rfl (size59 _ _)

set_option maxHeartbeats 2000000 in
set_option maxRecDepth 100000 in
theorem tog_more (s : Bool) (n d : Nat) (hd : n + d < 2 ^ 192) (w : World) : Calls Try.prog 48 #[.agg (wh s (n + d)), .agg (wh (!s) n)] w fun e w' => e = .returned (.agg (wh s d)) ∧ Below w.heap.size w w' := by
  have GR := AsideA.mk (ref_Greater n (n + d) (by omega) (by omega))
  rw [show decide ((n + d) < n) = false from by simp <;> omega] at GR
  generalize hs2 : (!s) = s2 at *
  have hne : (s == s2) = false := by subst hs2; cases s <;> rfl
  clear hs2
  go_enter Try.func48, Try.ntmps48
  go_wp2_with (first | (refine box_new 59 (.tmp 0) rfl rfl _ rfl (wh s (n + d)) rfl ?_; intro g2 w2 N2) | (refine box_new 59 (.tmp 1) rfl rfl _ rfl (wh s2 n) rfl ?_; intro g3 w3 N3) | (refine alloc_new 59 rfl rfl _ zero59 (wh false 0) rfl ?_; intro g4 w4 N4; have I := AsideA.mk (TogInv.new N2 N3 N4); have x2 : w4.cell? ⟨g2, 0, none⟩ = some (.bool s) := (blk_cell I.out.b2 0).trans (wh_zero s _); have x3 : w4.cell? ⟨g3, 0, none⟩ = some (.bool s2) := (blk_cell I.out.b3 0).trans (wh_zero s2 _); clear N2 N3 N4) | (refine load_at 57 (.tmp 18) rfl rfl g3 1 rfl (bv n) _ Try.underlying57 rfl (size57 _) (at1 I.out.b3) ?_) | (refine load_at 57 (.tmp 20) rfl rfl g2 1 rfl (bv (n + d)) _ Try.underlying57 rfl (size57 _) (at1 I.out.b2) ?_) | (go_at_call 61; refine (GR.out _).mono ?_; rintro e w5 ⟨rfl, hb5⟩; have I5 := AsideA.mk (I.out.later hb5); clear hb5 I x2 x3))
  refine region_fin follows [31, 32, 33, 34, 35, 36, 37, 38] [(31, .pointer (some ⟨g2, 0, none⟩)), (32, .bool s), (33, .pointer (some ⟨g2, 1, none⟩)), (34, .agg (bv (n + d))), (35, .pointer (some ⟨g3, 1, none⟩)), (36, .agg (bv n)), (37, .agg (bv d)), (38, .agg (wh s d))] rfl _ (by simp only [actPuts]; go_simp; rfl) 39 rfl (by kernel_rfl)
    (fun wr => TogInv w wr g2 g3 g4 (wh s (n + d)) (wh s2 n) (wh false 0)) (fun wr => wr.heap[g4]? = some (.cells (wh s d) 59 (0, 0)) ∧ Below w.heap.size w wr) I5.out.drew ?_ ?_
  · refine ⟨?_, ?_, ?_, ?_, ?_, ?_, ?_, ?_, ?_⟩
    · intro wr h
      exact op_val (v := .pointer (some ⟨g2, 0, none⟩)) (w' := wr) (by go_simp) rfl rfl h
    · intro wr h
      have hx := (blk_cell h.b2 0).trans (wh_zero s _)
      exact op_val (v := .bool s) (w' := wr) (by go_simp) rfl rfl h
    · intro wr h
      exact op_val (v := .pointer (some ⟨g2, 1, none⟩)) (w' := wr) (by go_simp) rfl rfl h
    · intro wr h
      exact op_val (run_load_at 57 _ rfl g2 1 rfl (bv (n + d)) _ Try.underlying57 rfl (size57 _) (at1 h.b2)) rfl rfl h
    · intro wr h
      exact op_val (v := .pointer (some ⟨g3, 1, none⟩)) (w' := wr) (by go_simp) rfl rfl h
    · intro wr h
      exact op_val (run_load_at 57 _ rfl g3 1 rfl (bv n) _ Try.underlying57 rfl (size57 _) (at1 h.b3)) rfl rfl h
    · intro wr h
      exact op_call (f := 63) (args := #[.agg (bv (n + d)), .agg (bv n)]) (by go_simp) rfl rfl ((ref_Less d n wr).mono fun e w' ⟨he, hb⟩ => ⟨he, h.later hb⟩)
    · intro wr h
      exact op_build 59 _ rfl [(0, .bool s), (1, .agg (bv d))] (by go_simp) _ (built59 s d) rfl rfl h
    · intro wr h
      exact op_store 59 (.tmp 4) (.tmp 38) rfl rfl g4 0 rfl (wh s d) rfl (wh false 0) 59 h.b4 (size59 _ _) (by rw [wh_size, wh_size]; exact Nat.le_refl _) (wh_one _ _) _ (splice_all _ _ (by rw [wh_size, wh_size]))
        fun w1 hb hu => ⟨hb, hu.below h.below h.ge4⟩
  · rintro wz ⟨hz, hbz⟩
    go_wp2
    refine bodyPost_ret (v := .agg (wh s d)) ?_ rfl ⟨rfl, hbz⟩
    exact results_at rfl _ _ g4 59 _ _ rfl hz Try.underlying59 rfl (size59 _ _)
end Go.Proofs.Ytbeiphfmdmccmaa.A

/-
  The reference's numbers: the contracts of Together, as one, and of Times (countinghouseref01).
-/
namespace Go.Proofs.Ytbeiphfmdmccmaa.A
set_option linter.unusedVariables false
set_option linter.unusedSimpArgs false
open Go.RowKit

/-- the sum of two numbers with signs -/
def tg (a b : Bool × Nat) : Bool × Nat := if a.1 = b.1 then (a.1, a.2 + b.2) else if a.2 < b.2 then (b.1, b.2 - a.2) else (a.1, a.2 - b.2)
theorem tg_val (a b : Bool × Nat) : sval (tg a b).1 (tg a b).2 = sval a.1 a.2 + sval b.1 b.2 := by
  obtain ⟨s, m⟩ := a
  obtain ⟨t, n⟩ := b
  unfold tg sval
  cases s <;> cases t <;> simp <;> first | omega | (split <;> simp <;> omega) | (split <;> omega)
theorem tg_le (a b : Bool × Nat) : (tg a b).2 ≤ a.2 + b.2 := by
  unfold tg
  split
  · exact Nat.le_refl _
  · split <;> simp <;> omega

theorem ref_Together (a b : Bool × Nat) (h : a.2 + b.2 < 2 ^ 192) (w : World) : Calls Try.prog 48 #[.agg (wh a.1 a.2), .agg (wh b.1 b.2)] w fun e w' => e = .returned (.agg (wh (tg a b).1 (tg a b).2)) ∧ Below w.heap.size w w' := by
  obtain ⟨s, m⟩ := a
  obtain ⟨t, n⟩ := b
  simp only at h ⊢
  by_cases hst : s = t
  · subst hst
    rw [show tg (s, m) (s, n) = (s, m + n) by simp [tg]]
    exact tog_same s m n w
  · obtain rfl : t = !s := by cases s <;> cases t <;> simp_all
    by_cases hlt : m < n
    · rw [show tg (s, m) (!s, n) = (!s, n - m) by simp [tg, hlt]]
      have := tog_less s m (n - m) (by omega) (by omega) w
      rw [show m + (n - m) = n by omega] at this
      exact this
    · rw [show tg (s, m) (!s, n) = (s, m - n) by simp [tg, hlt]]
      have := tog_more s n (m - n) (by omega) w
      rw [show n + (m - n) = m by omega] at this
      exact this

structure TimInv (w wr : World) (g2 g3 g4 g5 : Nat) (c2 c3 c4 c5 : Array Value) : Prop where
  b2 : wr.heap[g2]? = some (.cells c2 59 (0, 0))
  b3 : wr.heap[g3]? = some (.cells c3 59 (0, 0))
  b4 : wr.heap[g4]? = some (.cells c4 59 (0, 0))
  b5 : wr.heap[g5]? = some (.cells c5 59 (0, 0))
  n2 : g2 ≠ g5
  n3 : g3 ≠ g5
  n4 : g4 ≠ g5
  ge4 : w.heap.size ≤ g4
  ge5 : w.heap.size ≤ g5
  below : Below w.heap.size w wr
theorem TimInv.later {w wr wz : World} {g2 g3 g4 g5 : Nat} {c2 c3 c4 c5 : Array Value} (I : TimInv w wr g2 g3 g4 g5 c2 c3 c4 c5) (h : Below wr.heap.size wr wz) : TimInv w wz g2 g3 g4 g5 c2 c3 c4 c5 :=
  ⟨blk_below I.b2 h, blk_below I.b3 h, blk_below I.b4 h, blk_below I.b5 h, I.n2, I.n3, I.n4, I.ge4, I.ge5, below_call I.below h⟩
theorem TimInv.drew {w wr : World} {g2 g3 g4 g5 : Nat} {c2 c3 c4 c5 : Array Value} (I : TimInv w wr g2 g3 g4 g5 c2 c3 c4 c5) : TimInv w wr.drew g2 g3 g4 g5 c2 c3 c4 c5 :=
  ⟨I.b2, I.b3, I.b4, I.b5, I.n2, I.n3, I.n4, I.ge4, I.ge5, I.below.drew⟩
theorem TimInv.upd {w wr wz : World} {g2 g3 g4 g5 : Nat} {c2 c3 c4 c5 c5' : Array Value} (I : TimInv w wr g2 g3 g4 g5 c2 c3 c4 c5) (hb : wz.heap[g5]? = some (.cells c5' 59 (0, 0))) (hu : Upd wr wz g5) : TimInv w wz g2 g3 g4 g5 c2 c3 c4 c5' :=
  ⟨blk_upd hu I.b2 I.n2, blk_upd hu I.b3 I.n3, blk_upd hu I.b4 I.n4, hb, I.n2, I.n3, I.n4, I.ge4, I.ge5, hu.below I.below I.ge5⟩
theorem TimInv.new {w w2 w3 w4 w5 : World} {g2 g3 g4 g5 : Nat} {c2 c3 c4 c5 : Array Value} (N2 : New w w2 g2 c2 59) (N3 : New w2 w3 g3 c3 59) (N4 : New w3 w4 g4 c4 59) (N5 : New w4 w5 g5 c5 59) : TimInv w w5 g2 g3 g4 g5 c2 c3 c4 c5 := by
  have T := TogInv.new N2 N3 N4
  exact ⟨blk_below T.b2 N5.below, blk_below T.b3 N5.below, blk_below T.b4 N5.below, N5.blk, N5.ne T.b2, N5.ne T.b3, N5.ne T.b4, T.ge4, N5.ge T.below, below_new T.below N5⟩

theorem mul_bit (m n k : Nat) : m * (n % 2 ^ (k + 1)) = m * (n % 2 ^ k) + (if n.testBit k then m <<< k else 0) := by
  rw [mod_pow_succ', Nat.mul_add]
  cases n.testBit k
  · simp
  · simp [Nat.shiftLeft_eq]

set_option maxHeartbeats 2000000 in
set_option maxRecDepth 100000 in
theorem ref_Times (s t : Bool) (m n : Nat) (w : World) : Calls Try.prog 51 #[.agg (wh s m), .agg (wh t n)] w fun e w' => e = .returned (.agg (wh (!(s == t)) (m * (n % 2 ^ 64)))) ∧ Below w.heap.size w w' := by
  go_enter Try.func51, Try.ntmps51
  go_wp2_with (first | (refine box_new 59 (.tmp 0) rfl rfl _ rfl (wh s m) rfl ?_; intro g2 w2 N2) | (refine box_new 59 (.tmp 1) rfl rfl _ rfl (wh t n) rfl ?_; intro g3 w3 N3) | ((with_reducible refine gate (N := 4) rfl ?_); refine alloc_new 59 rfl rfl _ zero59 (wh false 0) rfl ?_; intro g4 w4 N4; have x2 : w4.cell? ⟨g2, 0, none⟩ = some (.bool s) := (blk_cell (TogInv.new N2 N3 N4).b2 0).trans (wh_zero s m); have x3 : w4.cell? ⟨g3, 0, none⟩ = some (.bool t) := (blk_cell (TogInv.new N2 N3 N4).b3 0).trans (wh_zero t n)) | (refine alloc_new 59 rfl rfl _ zero59 (wh false 0) rfl ?_; intro g5 w5 N5) | (refine store_at 59 (.tmp 5) (.tmp 12) rfl rfl g5 0 rfl _ rfl (wh false 0) 59 N5.blk (zc59_size _) (zc59_le _ _) (zc59_one _) _ (zc59_splice _ _) ?_; intro w6 hb6 u6))
  have I0 := (TimInv.new N2 N3 N4 N5).upd hb6 u6
  clear N2 N3 N4 N5 hb6 u6 x2 x3
  generalize hst : (!(s == t)) = st at I0 ⊢
  have HS := AsideA.mk hst
  clear hst
  go_loopw [6] (fun i wr => ∃ k : Nat, k ≤ 64 ∧ i = .int .i64 k ∧ TimInv w wr g2 g3 g4 g5 (wh s m) (wh t n) (wh false 0) (wh st (m * (n % 2 ^ k)))) (fun i _ => 64 - (intOf i).toNat)
  case atStart => exact ⟨0, by omega, rfl, by rw [Nat.pow_zero, Nat.mod_one, Nat.mul_zero]; exact I0⟩
  case round =>
    obtain ⟨k, hk, rfl, I⟩ := hrel
    clear I0
    by_cases hlt : k < 64
    · have x3 : wr.cell? ⟨g3, 1 + k, none⟩ = some (.bool (n.testBit k)) := (blk_cell I.b3 _).trans (wh_get t n (by omega))
      have M := AsideA.mk (mul_bit m n k)
      cases hb : n.testBit k
      · rw [hb] at x3 M
        have I' := AsideA.mk I
        clear I hb
        go_wp2
        exact ⟨⟨k + 1, by omega, by go_num, by have := M.out; simp only [Bool.false_eq_true, if_false, Nat.add_zero] at this; rw [this]; exact I'.out⟩, by simp [intOf]; omega⟩
      · rw [hb] at x3 M
        have I' := AsideA.mk I
        clear I hb
        go_wp2
        generalize hp : m * (n % 2 ^ k) = p at *
        refine region_fin follows [21, 22, 23, 24, 25, 26, 27, 28] [(21, .pointer (some ⟨g5, 1, none⟩)), (22, .agg (bv p)), (23, .pointer (some ⟨g2, 1, none⟩)), (24, .agg (bv m)), (25, .int .i64 k), (26, .agg (bv (m <<< k))), (27, .agg (bv (p + m <<< k))), (28, .pointer (some ⟨g5, 1, none⟩))] rfl _ (by simp only [actPuts]; go_simp; rfl) 30 rfl (by kernel_rfl)
          (fun wr => TimInv w wr g2 g3 g4 g5 (wh s m) (wh t n) (wh false 0) (wh st p)) (fun wr => TimInv w wr g2 g3 g4 g5 (wh s m) (wh t n) (wh false 0) (wh st (p + m <<< k))) I'.out.drew ?_ ?_
        · refine ⟨?_, ?_, ?_, ?_, ?_, ?_, ?_, ?_, ?_⟩
          · intro wr h
            exact op_val (v := .pointer (some ⟨g5, 1, none⟩)) (w' := wr) (by go_simp) rfl rfl h
          · intro wr h
            exact op_val (run_load_at 57 _ rfl g5 1 rfl (bv p) _ Try.underlying57 rfl (size57 _) (at1 h.b5)) rfl rfl h
          · intro wr h
            exact op_val (v := .pointer (some ⟨g2, 1, none⟩)) (w' := wr) (by go_simp) rfl rfl h
          · intro wr h
            exact op_val (run_load_at 57 _ rfl g2 1 rfl (bv m) _ Try.underlying57 rfl (size57 _) (at1 h.b2)) rfl rfl h
          · intro wr h
            exact op_val (v := .int .i64 k) (w' := wr) (by go_simp) rfl rfl h
          · intro wr h
            exact op_call (f := 64) (args := #[.agg (bv m), .int .i64 k]) (by go_simp) rfl rfl ((ref_Shifted m k (by omega) wr).mono fun e w' ⟨he, hb⟩ => ⟨he, h.later hb⟩)
          · intro wr h
            exact op_call (f := 62) (args := #[.agg (bv p), .agg (bv (m <<< k))]) (by go_simp) rfl rfl ((ref_Plus p (m <<< k) wr).mono fun e w' ⟨he, hb⟩ => ⟨he, h.later hb⟩)
          · intro wr h
            exact op_val (v := .pointer (some ⟨g5, 1, none⟩)) (w' := wr) (by go_simp) rfl rfl h
          · intro wr h
            exact op_store 57 (.tmp 28) (.tmp 27) rfl rfl g5 1 rfl (bv (p + m <<< k)) rfl (wh st p) 59 h.b5 (size57 _) (by rw [wh_size, bv_size]; omega) (bv_one _) _ (wh_lay _ _ _)
              fun w1 hb hu => h.upd hb hu
        · intro wz hz
          have Z := AsideA.mk hz
          clear hz I'
          go_wp2
          exact ⟨⟨k + 1, by omega, by go_num, by have := M.out; simp only [if_true] at this; rw [this]; exact Z.out⟩, by simp [intOf]; omega⟩
    · obtain rfl : k = 64 := by omega
      have B5 := AsideA.mk I.b5
      have B4 := AsideA.mk I.b4
      have UB := AsideA.mk (fun (wz : World) (uz : Upd wr wz g4) => uz.below I.below I.ge4)
      clear I
      generalize hp : m * (n % 2 ^ 64) = p at B5
      have HP := AsideA.mk hp
      clear hp
      go_wp2_with (first | (refine load_at 59 (.tmp 5) rfl rfl g5 0 rfl (wh st p) _ Try.underlying59 rfl (size59 _ _) (blk_at0 B5.out) ?_) | (refine store_at 59 (.tmp 4) (.tmp 29) rfl rfl g4 0 rfl (wh st p) rfl (wh false 0) 59 B4.out (size59 _ _) (by rw [wh_size, wh_size]; exact Nat.le_refl _) (wh_one _ _) _ (splice_all _ _ (by rw [wh_size, wh_size])) ?_; intro wz hz uz))
      refine bodyPost_ret (v := .agg (wh st p)) ?_ rfl ⟨by rw [HS.out, HP.out], UB.out _ uz⟩
      exact results_at rfl _ _ g4 59 _ _ rfl hz Try.underlying59 rfl (size59 _ _)
end Go.Proofs.Ytbeiphfmdmccmaa.A

/-
  The reference's numbers: the contract of Divided (countinghouseref01).
-/
namespace Go.Proofs.Ytbeiphfmdmccmaa.A
set_option linter.unusedVariables false
set_option linter.unusedSimpArgs false
open Go.RowKit

structure DivInv (w wr : World) (g2 g3 g4 g5 g6 g7 : Nat) (c2 c3 c4 c5 c6 c7 : Array Value) : Prop where
  b2 : wr.heap[g2]? = some (.cells c2 57 (0, 0))
  b3 : wr.heap[g3]? = some (.cells c3 57 (0, 0))
  b4 : wr.heap[g4]? = some (.cells c4 57 (0, 0))
  b5 : wr.heap[g5]? = some (.cells c5 57 (0, 0))
  b6 : wr.heap[g6]? = some (.cells c6 57 (0, 0))
  b7 : wr.heap[g7]? = some (.cells c7 57 (0, 0))
  lt : g2 < g3 ∧ g3 < g4 ∧ g4 < g5 ∧ g5 < g6 ∧ g6 < g7 ∧ w.heap.size ≤ g2
  below : Below w.heap.size w wr
section
variable {w wr wz : World} {g2 g3 g4 g5 g6 g7 : Nat} {c2 c3 c4 c5 c6 c7 : Array Value}
theorem DivInv.later (I : DivInv w wr g2 g3 g4 g5 g6 g7 c2 c3 c4 c5 c6 c7) (h : Below wr.heap.size wr wz) : DivInv w wz g2 g3 g4 g5 g6 g7 c2 c3 c4 c5 c6 c7 :=
  ⟨blk_below I.b2 h, blk_below I.b3 h, blk_below I.b4 h, blk_below I.b5 h, blk_below I.b6 h, blk_below I.b7 h, I.lt, below_call I.below h⟩
theorem DivInv.drew (I : DivInv w wr g2 g3 g4 g5 g6 g7 c2 c3 c4 c5 c6 c7) : DivInv w wr.drew g2 g3 g4 g5 g6 g7 c2 c3 c4 c5 c6 c7 :=
  ⟨I.b2, I.b3, I.b4, I.b5, I.b6, I.b7, I.lt, I.below.drew⟩
theorem DivInv.upd7 {c : Array Value} (I : DivInv w wr g2 g3 g4 g5 g6 g7 c2 c3 c4 c5 c6 c7) (hb : wz.heap[g7]? = some (.cells c 57 (0, 0))) (hu : Upd wr wz g7) : DivInv w wz g2 g3 g4 g5 g6 g7 c2 c3 c4 c5 c6 c := by
  have := I.lt
  exact ⟨blk_upd hu I.b2 (by omega), blk_upd hu I.b3 (by omega), blk_upd hu I.b4 (by omega), blk_upd hu I.b5 (by omega), blk_upd hu I.b6 (by omega), hb, I.lt, hu.below I.below (by omega)⟩
theorem DivInv.upd6 {c : Array Value} (I : DivInv w wr g2 g3 g4 g5 g6 g7 c2 c3 c4 c5 c6 c7) (hb : wz.heap[g6]? = some (.cells c 57 (0, 0))) (hu : Upd wr wz g6) : DivInv w wz g2 g3 g4 g5 g6 g7 c2 c3 c4 c5 c c7 := by
  have := I.lt
  exact ⟨blk_upd hu I.b2 (by omega), blk_upd hu I.b3 (by omega), blk_upd hu I.b4 (by omega), blk_upd hu I.b5 (by omega), hb, blk_upd hu I.b7 (by omega), I.lt, hu.below I.below (by omega)⟩
theorem DivInv.upd4 {c : Array Value} (I : DivInv w wr g2 g3 g4 g5 g6 g7 c2 c3 c4 c5 c6 c7) (hb : wz.heap[g4]? = some (.cells c 57 (0, 0))) (hu : Upd wr wz g4) : DivInv w wz g2 g3 g4 g5 g6 g7 c2 c3 c c5 c6 c7 := by
  have := I.lt
  exact ⟨blk_upd hu I.b2 (by omega), blk_upd hu I.b3 (by omega), hb, blk_upd hu I.b5 (by omega), blk_upd hu I.b6 (by omega), blk_upd hu I.b7 (by omega), I.lt, hu.below I.below (by omega)⟩
theorem DivInv.upd5 {c : Array Value} (I : DivInv w wr g2 g3 g4 g5 g6 g7 c2 c3 c4 c5 c6 c7) (hb : wz.heap[g5]? = some (.cells c 57 (0, 0))) (hu : Upd wr wz g5) : DivInv w wz g2 g3 g4 g5 g6 g7 c2 c3 c4 c c6 c7 := by
  have := I.lt
  exact ⟨blk_upd hu I.b2 (by omega), blk_upd hu I.b3 (by omega), blk_upd hu I.b4 (by omega), hb, blk_upd hu I.b6 (by omega), blk_upd hu I.b7 (by omega), I.lt, hu.below I.below (by omega)⟩
theorem DivInv.set7 {c : Array Value} (I : DivInv w wr g2 g3 g4 g5 g6 g7 c2 c3 c4 c5 c6 c7) (k : Nat) (v : Value) (h : c7.setIfInBounds k v = c) : DivInv w (wr.setCell ⟨g7, k, none⟩ v) g2 g3 g4 g5 g6 g7 c2 c3 c4 c5 c6 c :=
  I.upd7 (h ▸ blk_set I.b7 k v) (Upd.setCell _ _ _ _)
theorem DivInv.set6 {c : Array Value} (I : DivInv w wr g2 g3 g4 g5 g6 g7 c2 c3 c4 c5 c6 c7) (k : Nat) (v : Value) (h : c6.setIfInBounds k v = c) : DivInv w (wr.setCell ⟨g6, k, none⟩ v) g2 g3 g4 g5 g6 g7 c2 c3 c4 c5 c c7 :=
  I.upd6 (h ▸ blk_set I.b6 k v) (Upd.setCell _ _ _ _)
theorem DivInv.new {w2 w3 w4 w5 w6 w7 : World} (N2 : New w w2 g2 c2 57) (N3 : New w2 w3 g3 c3 57) (N4 : New w3 w4 g4 c4 57) (N5 : New w4 w5 g5 c5 57) (N6 : New w5 w6 g6 c6 57) (N7 : New w6 w7 g7 c7 57) : DivInv w w7 g2 g3 g4 g5 g6 g7 c2 c3 c4 c5 c6 c7 := by
  have e3 := N3.below
  have e4 := N4.below
  have e5 := N5.below
  have e6 := N6.below
  have e7 := N7.below
  have d := below_new (below_new (below_new (below_new (below_new (below_new (Below.refl _ _) N2) N3) N4) N5) N6) N7
  refine ⟨blk_below (blk_below (blk_below (blk_below (blk_below N2.blk e3) e4) e5) e6) e7, blk_below (blk_below (blk_below (blk_below N3.blk e4) e5) e6) e7, blk_below (blk_below (blk_below N4.blk e5) e6) e7, blk_below (blk_below N5.blk e6) e7, blk_below N6.blk e7, N7.blk, ?_, d⟩
  have := N2.at_; have := N3.at_; have := N4.at_; have := N5.at_; have := N6.at_; have := N7.at_
  have := N2.size; have := N3.size; have := N4.size; have := N5.size; have := N6.size
  omega
end

theorem none_done {l : Array Bool} (hl : ∀ i, l.getD i false = false) (i : Nat) {p : Prop} : l.getD i false = true → p := fun h => absurd ((hl i).symm.trans h) (by simp)
theorem shl_set0 (m : Nat) (b : Bool) : (bv (m <<< 1)).setIfInBounds 0 (.bool b) = bv (2 * m + b.toNat) := by
  refine bv_set fun i _ => ?_
  cases i with
  | zero => cases b <;> simp [Nat.testBit_zero] <;> omega
  | succ i =>
    rw [if_neg (by omega), Nat.testBit_shiftLeft, Nat.testBit_succ, show (2 * m + b.toNat) / 2 = m by have := bit_le b; omega]
    simp
theorem quo_set (q k : Nat) : (bv (q * 2 ^ (k + 1))).setIfInBounds k (.bool true) = bv ((2 * q + 1) * 2 ^ k) := by
  refine bv_set fun i _ => ?_
  rw [← Nat.shiftLeft_eq, ← Nat.shiftLeft_eq, Nat.testBit_shiftLeft, Nat.testBit_shiftLeft]
  by_cases hki : k = i
  · subst hki
    simp [Nat.testBit_zero]
  · rw [if_neg hki]
    by_cases h1 : k + 1 ≤ i
    · obtain ⟨j, rfl⟩ : ∃ j, i = k + 1 + j := ⟨i - (k + 1), by omega⟩
      rw [show k + 1 + j - (k + 1) = j by omega, show k + 1 + j - k = j + 1 by omega, Nat.testBit_succ, show (2 * q + 1) / 2 = q by omega]
      simp
      omega
    · rw [decide_eq_false (by omega), decide_eq_false (by omega)]
      simp
/-- one step of a division, from the bit above -/
theorem div_step (x y k : Nat) (hy : 0 < y) (L q B : Nat) (hL : (x / 2 ^ (k + 1)) % y = L) (hq : x / 2 ^ (k + 1) / y = q) (hB : 2 * L + (x.testBit k).toNat = B) :
    (y ≤ B → (x / 2 ^ k) % y = B - y ∧ x / 2 ^ k / y = 2 * q + 1) ∧ (B < y → (x / 2 ^ k) % y = B ∧ x / 2 ^ k / y = 2 * q) ∧ B < 2 * y := by
  have e := div_bit x k
  have hb := bit_le (x.testBit k)
  have hLy : L < y := by rw [← hL]; exact Nat.mod_lt _ hy
  have h := Nat.div_add_mod (x / 2 ^ (k + 1)) y
  rw [hL, hq] at h
  have e2 : x / 2 ^ k = y * (2 * q) + B := by rw [e, ← h, ← hB, Nat.mul_add]; rw [show y * (2 * q) = 2 * (y * q) by rw [Nat.mul_left_comm], Nat.add_assoc]
  refine ⟨fun h1 => ?_, fun h1 => ?_, by omega⟩
  · have e3 : x / 2 ^ k = y * (2 * q + 1) + (B - y) := by rw [e2, Nat.mul_add, Nat.mul_one]; omega
    rw [e3]
    exact ⟨by rw [Nat.mul_add_mod, Nat.mod_eq_of_lt (by omega)], by rw [Nat.mul_add_div hy, Nat.div_eq_of_lt (by omega)]⟩
  · rw [e2]
    exact ⟨by rw [Nat.mul_add_mod, Nat.mod_eq_of_lt h1], by rw [Nat.mul_add_div hy, Nat.div_eq_of_lt h1, Nat.add_zero]⟩

set_option maxHeartbeats 4000000 in
set_option maxRecDepth 100000 in
theorem ref_Divided (x y : Nat) (hx : x < 2 ^ 192) (hy : 0 < y) (hy2 : y < 2 ^ 100) (w : World) : Calls Try.prog 67 #[.agg (bv x), .agg (bv y)] w fun e w' => e = .returned (.tuple #[.agg (bv (x / y)), .agg (bv (x % y))]) ∧ Below w.heap.size w w' := by
  have HY := AsideA.mk (show 0 < y ∧ y < 2 ^ 100 from ⟨hy, hy2⟩)
  have S0 : bv 0 = bv (x / 2 ^ 192 % y) ∧ bv 0 = bv (x / 2 ^ 192 / y * 2 ^ 192) := by rw [Nat.div_eq_of_lt hx]; simp
  clear hx hy hy2
  go_enter Try.func67, Try.ntmps67
  go_wp2_with (first | (refine box_new 57 (.tmp 0) rfl rfl _ rfl (bv x) rfl ?_; intro g2 w2 N2) | (refine box_new 57 (.tmp 1) rfl rfl _ rfl (bv y) rfl ?_; intro g3 w3 N3) | ((with_reducible refine gate (N := 4) rfl ?_); refine alloc_new 57 rfl rfl _ zero57 (bv 0) rfl ?_; intro g4 w4 N4) | ((with_reducible refine gate (N := 5) rfl ?_); refine alloc_new 57 rfl rfl _ zero57 (bv 0) rfl ?_; intro g5 w5 N5) | ((with_reducible refine gate (N := 6) rfl ?_); refine alloc_new 57 rfl rfl _ zero57 (bv 0) rfl ?_; intro g6 w6 N6) | ((with_reducible refine gate (N := 7) rfl ?_); refine alloc_new 57 rfl rfl _ zero57 (bv 0) rfl ?_; intro g7 w7 N7))
  have I0 : AsideA (DivInv w w7 g2 g3 g4 g5 g6 g7 (bv x) (bv y) (bv 0) (bv 0) (bv (x / 2 ^ 192 / y * 2 ^ 192)) (bv (x / 2 ^ 192 % y))) := ⟨by have := DivInv.new N2 N3 N4 N5 N6 N7; rw [← S0.1, ← S0.2]; exact this⟩
  clear S0 N2 N3 N4 N5 N6 N7
  go_loopw [8] (fun i wr => ∃ k : Nat, k ≤ 192 ∧ i = .int .i64 ((k : Int) - 1) ∧ AsideA (DivInv w wr g2 g3 g4 g5 g6 g7 (bv x) (bv y) (bv 0) (bv 0) (bv (x / 2 ^ k / y * 2 ^ k)) (bv (x / 2 ^ k % y)))) (fun i _ => (intOf i + 1).toNat)
  case atStart => exact ⟨192, by omega, rfl, I0⟩
  case round =>
    obtain ⟨k, hk, rfl, I⟩ := hrel
    clear I0
    cases k with
    | zero =>
      have I' : AsideA (DivInv w wr g2 g3 g4 g5 g6 g7 (bv x) (bv y) (bv 0) (bv 0) (bv (x / y)) (bv (x % y))) := ⟨by have := I.out; simpa using this⟩
      clear I
      generalize hq : x / y = q at I' ⊢
      generalize hr : x % y = r at I' ⊢
      have HQ := AsideA.mk hq
      have HR := AsideA.mk hr
      clear hq hr
      go_wp2
      refine region_listed follows [28, 29] [(28, .agg (bv q)), (29, .agg (bv r))] rfl _ (by simp only [actPuts]; go_simp; rfl) 30 rfl (by kernel_rfl)
        (fun l wr => ∃ m n, DivInv w wr g2 g3 g4 g5 g6 g7 (bv x) (bv y) (bv m) (bv n) (bv q) (bv r) ∧ (l.getD 2 false = true → m = q) ∧ (l.getD 3 false = true → n = r))
        (fun l hl => ⟨0, 0, I'.out.drew, none_done hl 2, none_done hl 3⟩) ?_ ?_
      · refine ⟨?_, ?_, ?_, ?_, trivial⟩
        · rintro l wr hs h0 hn ⟨m, n, h, h2, h3⟩
          exact op_val (run_load_at 57 _ rfl g6 0 rfl (bv q) _ Try.underlying57 rfl (size57 _) (blk_at0 h.b6)) rfl rfl ⟨m, n, h, by rw [getD_set_ne _ (by omega)]; exact h2, by rw [getD_set_ne _ (by omega)]; exact h3⟩
        · rintro l wr hs h0 hn ⟨m, n, h, h2, h3⟩
          exact op_val (run_load_at 57 _ rfl g7 0 rfl (bv r) _ Try.underlying57 rfl (size57 _) (blk_at0 h.b7)) rfl rfl ⟨m, n, h, by rw [getD_set_ne _ (by omega)]; exact h2, by rw [getD_set_ne _ (by omega)]; exact h3⟩
        · rintro l wr hs h0 hn ⟨m, n, h, h2, h3⟩
          exact op_store 57 (.tmp 4) (.tmp 28) rfl rfl g4 0 rfl (bv q) rfl (bv m) 57 h.b4 (size57 _) (by rw [bv_size, bv_size]; exact Nat.le_refl _) (bv_one _) _ (splice_all _ _ (by rw [bv_size, bv_size]))
            fun w1 hb hu => ⟨q, n, h.upd4 hb hu, fun _ => rfl, by rw [getD_set_ne _ (by omega)]; exact h3⟩
        · rintro l wr hs h0 hn ⟨m, n, h, h2, h3⟩
          exact op_store 57 (.tmp 5) (.tmp 29) rfl rfl g5 0 rfl (bv r) rfl (bv n) 57 h.b5 (size57 _) (by rw [bv_size, bv_size]; exact Nat.le_refl _) (bv_one _) _ (splice_all _ _ (by rw [bv_size, bv_size]))
            fun w1 hb hu => ⟨m, r, h.upd5 hb hu, by rw [getD_set_ne _ (by omega)]; exact h2, fun _ => rfl⟩
      · rintro l wz hl ⟨m, n, h, h2, h3⟩
        obtain rfl := h2 (hl 2 (by decide))
        obtain rfl := h3 (hl 3 (by decide))
        have Z := AsideA.mk h
        clear h I' h2 h3 hl
        go_wp2
        refine bodyPost_ret (v := .tuple #[.agg (bv m), .agg (bv n)]) ?_ rfl ⟨by rw [HQ.out, HR.out], Z.out.below⟩
        exact results_two_at rfl _ _ g4 g5 57 _ _ _ rfl rfl Z.out.b4 Z.out.b5 Try.underlying57 rfl (size57 _) (size57 _)
    | succ k =>
      have hlt : k < 192 := by omega
      have e1 : ((k + 1 : Nat) : Int) - 1 = k := by omega
      rw [e1]
      clear e1
      generalize hL : x / 2 ^ (k + 1) % y = L at I
      generalize hQ : x / 2 ^ (k + 1) / y = q at I
      generalize hB : 2 * L + (x.testBit k).toNat = B
      have D := AsideA.mk (div_step x y k HY.out.1 L q B hL hQ hB)
      have hB' := AsideA.mk hB
      clear hL hQ hB
      have GR := AsideA.mk (ref_Greater y B (by have := HY.out.2; omega) (by have := HY.out.2; have := D.out.2.2; omega))
      by_cases hyB : y ≤ B
      · rw [show decide (B < y) = false from decide_eq_false (by omega)] at GR
        have HLs := AsideA.mk (ref_Less (B - y) y)
        rw [show y + (B - y) = B by omega] at HLs
        have FIN : AsideA (bv (x / 2 ^ k / y * 2 ^ k) = bv ((2 * q + 1) * 2 ^ k) ∧ bv (x / 2 ^ k % y) = bv (B - y)) := ⟨by rw [(D.out.1 hyB).1, (D.out.1 hyB).2]; exact ⟨rfl, rfl⟩⟩
        clear hyB D
        have J := I
        clear I
        go_upto_region 7 with (first | (refine load_at 57 (.tmp 7) rfl rfl g7 0 rfl (bv L) _ Try.underlying57 rfl (size57 _) (blk_at0 J.out.b7) ?_) | (go_at_call 64; refine (ref_Shifted L 1 (by omega) _).mono ?_; rintro e wq ⟨rfl, hbq⟩; have J1 := AsideA.mk (J.out.later hbq); clear hbq J) | (refine store_at 57 (.tmp 7) (.tmp 14) rfl rfl g7 0 rfl (bv (L <<< 1)) rfl (bv L) 57 J1.out.b7 (size57 _) (by rw [bv_size, bv_size]; exact Nat.le_refl _) (bv_one _) _ (splice_all _ _ (by rw [bv_size, bv_size])) ?_; intro wp hbp hup; have J2 := AsideA.mk (J1.out.upd7 hbp hup); clear hbp hup J1; have x2 : wp.cell? ⟨g2, k, none⟩ = some (.bool (x.testBit k)) := (blk_cell J2.out.b2 k).trans (bv_get x hlt); have x7 : wp.cell? ⟨g7, 0, none⟩ = some (.bool ((L <<< 1).testBit 0)) := (blk_cell J2.out.b7 0).trans (bv_get _ (by omega)); have f7 := blk_frozen J2.out.b7 0))
        have J3 := AsideA.mk (J2.out.set7 0 _ (shl_set0 L (x.testBit k)))
        rw [hB'.out] at J3
        clear J2 x2 x7 f7
        generalize wp.setCell ⟨g7, 0, none⟩ (.bool (x.testBit k)) = wp3 at *
        go_wp2_with (first | ((with_reducible refine gate (N := 19) rfl ?_); refine load_at 57 (.tmp 3) rfl rfl g3 0 rfl (bv y) _ Try.underlying57 rfl (size57 _) (blk_at0 J3.out.b3) ?_) | ((with_reducible refine gate (N := 20) rfl ?_); refine load_at 57 (.tmp 7) rfl rfl g7 0 rfl (bv B) _ Try.underlying57 rfl (size57 _) (blk_at0 J3.out.b7) ?_) | (go_at_call 61; refine (GR.out _).mono ?_; rintro e wq ⟨rfl, hbq⟩; have J4 := AsideA.mk (J3.out.later hbq); clear hbq J3) | ((with_reducible refine gate (N := 23) rfl ?_); refine load_at 57 (.tmp 7) rfl rfl g7 0 rfl (bv B) _ Try.underlying57 rfl (size57 _) (blk_at0 J4.out.b7) ?_) | ((with_reducible refine gate (N := 24) rfl ?_); refine load_at 57 (.tmp 3) rfl rfl g3 0 rfl (bv y) _ Try.underlying57 rfl (size57 _) (blk_at0 J4.out.b3) ?_) | (go_at_call 63; refine (HLs.out _).mono ?_; rintro e wr5 ⟨rfl, hbq⟩; have J5 := AsideA.mk (J4.out.later hbq); clear hbq J4) | (refine store_at 57 (.tmp 7) (.tmp 25) rfl rfl g7 0 rfl (bv (B - y)) rfl (bv B) 57 J5.out.b7 (size57 _) (by rw [bv_size, bv_size]; exact Nat.le_refl _) (bv_one _) _ (splice_all _ _ (by rw [bv_size, bv_size])) ?_; intro wp6 hbp hup; have J6 := AsideA.mk (J5.out.upd7 hbp hup); clear hbp hup J5; have x6 : wp6.cell? ⟨g6, k, none⟩ = some (.bool ((q * 2 ^ (k + 1)).testBit k)) := (blk_cell J6.out.b6 k).trans (bv_get _ hlt); have f6 := blk_frozen J6.out.b6 k))
        have J7 := AsideA.mk (J6.out.set6 k _ (quo_set q k))
        clear J6 x6 f6
        exact ⟨⟨k, by omega, rfl, ⟨by rw [FIN.out.1, FIN.out.2]; exact J7.out⟩⟩, by simp [intOf]⟩
      · rw [show decide (B < y) = true from decide_eq_true (by omega)] at GR
        have FIN : AsideA (bv (x / 2 ^ k / y * 2 ^ k) = bv (q * 2 ^ (k + 1)) ∧ bv (x / 2 ^ k % y) = bv B) := ⟨by rw [(D.out.2.1 (by omega)).1, (D.out.2.1 (by omega)).2, Nat.pow_succ, Nat.mul_comm 2 q, Nat.mul_assoc, Nat.mul_comm 2]; exact ⟨rfl, rfl⟩⟩
        clear hyB D
        have J := I
        clear I
        go_upto_region 7 with (first | (refine load_at 57 (.tmp 7) rfl rfl g7 0 rfl (bv L) _ Try.underlying57 rfl (size57 _) (blk_at0 J.out.b7) ?_) | (go_at_call 64; refine (ref_Shifted L 1 (by omega) _).mono ?_; rintro e wq ⟨rfl, hbq⟩; have J1 := AsideA.mk (J.out.later hbq); clear hbq J) | (refine store_at 57 (.tmp 7) (.tmp 14) rfl rfl g7 0 rfl (bv (L <<< 1)) rfl (bv L) 57 J1.out.b7 (size57 _) (by rw [bv_size, bv_size]; exact Nat.le_refl _) (bv_one _) _ (splice_all _ _ (by rw [bv_size, bv_size])) ?_; intro wp hbp hup; have J2 := AsideA.mk (J1.out.upd7 hbp hup); clear hbp hup J1; have x2 : wp.cell? ⟨g2, k, none⟩ = some (.bool (x.testBit k)) := (blk_cell J2.out.b2 k).trans (bv_get x hlt); have x7 : wp.cell? ⟨g7, 0, none⟩ = some (.bool ((L <<< 1).testBit 0)) := (blk_cell J2.out.b7 0).trans (bv_get _ (by omega)); have f7 := blk_frozen J2.out.b7 0))
        have J3 := AsideA.mk (J2.out.set7 0 _ (shl_set0 L (x.testBit k)))
        rw [hB'.out] at J3
        clear J2 x2 x7 f7
        generalize wp.setCell ⟨g7, 0, none⟩ (.bool (x.testBit k)) = wp3 at *
        go_wp2_with (first | ((with_reducible refine gate (N := 19) rfl ?_); refine load_at 57 (.tmp 3) rfl rfl g3 0 rfl (bv y) _ Try.underlying57 rfl (size57 _) (blk_at0 J3.out.b3) ?_) | ((with_reducible refine gate (N := 20) rfl ?_); refine load_at 57 (.tmp 7) rfl rfl g7 0 rfl (bv B) _ Try.underlying57 rfl (size57 _) (blk_at0 J3.out.b7) ?_) | (go_at_call 61; refine (GR.out _).mono ?_; rintro e wq ⟨rfl, hbq⟩; have J4 := AsideA.mk (J3.out.later hbq); clear hbq J3))
        exact ⟨⟨k, by omega, rfl, ⟨by rw [FIN.out.1, FIN.out.2]; exact J4.out⟩⟩, by simp [intOf]⟩
end Go.Proofs.Ytbeiphfmdmccmaa.A

/-
  The reference's Add, Sub and Mul (countinghouseref01): exact, or too great.
-/
namespace Go.Proofs.Ytbeiphfmdmccmaa.A
set_option linter.unusedVariables false
set_option linter.unusedSimpArgs false
open Go.RowKit

def in64 (x : Int) : Prop := -9223372036854775808 ≤ x ∧ x ≤ 9223372036854775807
instance (x : Int) : Decidable (in64 x) := by unfold in64; infer_instance
theorem sval_of (a : Int) : sval (decide (a < 0)) a.natAbs = a := by
  unfold sval
  by_cases h : a < 0 <;> simp [h] <;> omega
theorem sval_neg (a : Int) : sval (!decide (a < 0)) a.natAbs = -a := by
  unfold sval
  by_cases h : a < 0 <;> simp [h] <;> omega
theorem sval_mul (a b : Int) : sval (!(decide (a < 0) == decide (b < 0))) (a.natAbs * b.natAbs) = a * b := by
  unfold sval
  rw [← Int.natAbs_mul]
  by_cases h1 : a < 0 <;> by_cases h2 : b < 0
  · have : 0 ≤ a * b := by have := Int.mul_pos_of_neg_of_neg h1 h2; omega
    simp [h1, h2]; omega
  · have : a * b ≤ 0 := Int.mul_nonpos_of_nonpos_of_nonneg (by omega) (by omega)
    simp [h1, h2]; omega
  · have : a * b ≤ 0 := Int.mul_nonpos_of_nonneg_of_nonpos (by omega) (by omega)
    simp [h1, h2]; omega
  · have : 0 ≤ a * b := Int.mul_nonneg (by omega) (by omega)
    simp [h1, h2]; omega

theorem of_any (a : Int) (h : in64 a) (w : World) : Calls Try.prog 49 #[.int .i64 a] w fun e w' => e = .returned (.agg (wh (decide (a < 0)) a.natAbs)) ∧ Below w.heap.size w w' := ref_Of a h.1 h.2 w
theorem abs64 {a : Int} (h : in64 a) : a.natAbs ≤ 9223372036854775808 := by have := h.1; have := h.2; omega

set_option maxHeartbeats 2000000 in
set_option maxRecDepth 100000 in
theorem add_any (a b : Int) (ha : in64 a) (hb : in64 b) (w : World) : Calls Try.prog 15 #[.int .i64 a, .int .i64 b] w fun e w' => e = .returned (.tuple #[.int .i64 (fit (a + b)).1, .int .i64 (fit (a + b)).2]) ∧ Below w.heap.size w w' := by
  have OA := AsideA.mk (of_any a ha)
  have OB := AsideA.mk (of_any b hb)
  have TG := AsideA.mk (ref_Together (decide (a < 0), a.natAbs) (decide (b < 0), b.natAbs) (by have := abs64 ha; have := abs64 hb; simp only; omega))
  have V : sval (tg (decide (a < 0), a.natAbs) (decide (b < 0), b.natAbs)).1 (tg (decide (a < 0), a.natAbs) (decide (b < 0), b.natAbs)).2 = a + b := by rw [tg_val, sval_of, sval_of]
  have L := tg_le (decide (a < 0), a.natAbs) (decide (b < 0), b.natAbs)
  simp only at L TG
  generalize htg : tg (decide (a < 0), a.natAbs) (decide (b < 0), b.natAbs) = c at *
  have NU := AsideA.mk (ref_Num c.1 c.2 (by have := abs64 ha; have := abs64 hb; omega))
  rw [V] at NU
  clear V L ha hb htg
  generalize decide (a < 0) = sa at *
  generalize decide (b < 0) = sb at *
  generalize a.natAbs = na at *
  generalize b.natAbs = nb at *
  generalize fit (a + b) = r at *
  have BB := AsideA.mk (Below.refl w.heap.size w)
  go_enter Try.func15, Try.ntmps15
  go_wp2_with (first | (go_at_call 49; (first | ((with_reducible refine (OA.out _).mono ?_); clear OA) | (with_reducible refine (OB.out _).mono ?_)); rintro e wq ⟨rfl, hq⟩; have BN := AsideA.mk (below_call BB.out hq); clear hq BB; have BB := BN; clear BN) | (go_at_call 48; refine (TG.out _).mono ?_; rintro e wq ⟨rfl, hq⟩; have BN := AsideA.mk (below_call BB.out hq); clear hq BB; have BB := BN; clear BN) | (go_at_call 47; refine (NU.out _).mono ?_; rintro e wq ⟨rfl, hq⟩; have BN := AsideA.mk (below_call BB.out hq); clear hq BB; have BB := BN; clear BN))
  go_ret2
  exact ⟨rfl, BB.out⟩

theorem natAbs_mul_bound {a b : Int} (ha : in64 a) (hb : in64 b) : a.natAbs * b.natAbs < 2 ^ 192 := by
  have h := Nat.mul_le_mul (abs64 ha) (abs64 hb)
  exact Nat.lt_of_le_of_lt h (by decide)

set_option maxHeartbeats 2000000 in
set_option maxRecDepth 100000 in
theorem mul_any (a b : Int) (ha : in64 a) (hb : in64 b) (w : World) : Calls Try.prog 20 #[.int .i64 a, .int .i64 b] w fun e w' => e = .returned (.tuple #[.int .i64 (fit (a * b)).1, .int .i64 (fit (a * b)).2]) ∧ Below w.heap.size w w' := by
  have OA := AsideA.mk (of_any a ha)
  have OB := AsideA.mk (of_any b hb)
  have TG := AsideA.mk (ref_Times (decide (a < 0)) (decide (b < 0)) a.natAbs b.natAbs)
  rw [Nat.mod_eq_of_lt (show b.natAbs < 2 ^ 64 by have := abs64 hb; omega)] at TG
  have NU := AsideA.mk (ref_Num (!(decide (a < 0) == decide (b < 0))) (a.natAbs * b.natAbs) (natAbs_mul_bound ha hb))
  rw [sval_mul] at NU
  clear ha hb
  generalize decide (a < 0) = sa at *
  generalize decide (b < 0) = sb at *
  generalize a.natAbs * b.natAbs = nc at *
  generalize a.natAbs = na at *
  generalize b.natAbs = nb at *
  generalize fit (a * b) = r at *
  have BB := AsideA.mk (Below.refl w.heap.size w)
  go_enter Try.func20, Try.ntmps20
  go_wp2_with (first | (go_at_call 49; (first | ((with_reducible refine (OA.out _).mono ?_); clear OA) | (with_reducible refine (OB.out _).mono ?_)); rintro e wq ⟨rfl, hq⟩; have BN := AsideA.mk (below_call BB.out hq); clear hq BB; have BB := BN; clear BN) | (go_at_call 51; refine (TG.out _).mono ?_; rintro e wq ⟨rfl, hq⟩; have BN := AsideA.mk (below_call BB.out hq); clear hq BB; have BB := BN; clear BN) | (go_at_call 47; refine (NU.out _).mono ?_; rintro e wq ⟨rfl, hq⟩; have BN := AsideA.mk (below_call BB.out hq); clear hq BB; have BB := BN; clear BN))
  go_ret2
  exact ⟨rfl, BB.out⟩

theorem wh_flip (b s : Bool) (n : Nat) : (wh s n).setIfInBounds 0 (.bool b) = wh b n := by
  unfold wh
  apply Array.ext'
  simp

set_option maxHeartbeats 2000000 in
set_option maxRecDepth 100000 in
theorem sub_any (a b : Int) (ha : in64 a) (hb : in64 b) (w : World) : Calls Try.prog 18 #[.int .i64 a, .int .i64 b] w fun e w' => e = .returned (.tuple #[.int .i64 (fit (a - b)).1, .int .i64 (fit (a - b)).2]) ∧ Below w.heap.size w w' := by
  have OA := AsideA.mk (of_any a ha)
  have OB := AsideA.mk (of_any b hb)
  have TG := AsideA.mk (ref_Together (decide (a < 0), a.natAbs) (!decide (b < 0), b.natAbs) (by have := abs64 ha; have := abs64 hb; simp only; omega))
  have V : sval (tg (decide (a < 0), a.natAbs) (!decide (b < 0), b.natAbs)).1 (tg (decide (a < 0), a.natAbs) (!decide (b < 0), b.natAbs)).2 = a - b := by rw [tg_val, sval_of, sval_neg]; omega
  have L := tg_le (decide (a < 0), a.natAbs) (!decide (b < 0), b.natAbs)
  simp only at L TG
  generalize htg : tg (decide (a < 0), a.natAbs) (!decide (b < 0), b.natAbs) = c at *
  have NU := AsideA.mk (ref_Num c.1 c.2 (by have := abs64 ha; have := abs64 hb; omega))
  rw [V] at NU
  clear V L ha hb htg
  generalize decide (a < 0) = sa at *
  generalize decide (b < 0) = sb at *
  generalize a.natAbs = na at *
  generalize b.natAbs = nb at *
  generalize fit (a - b) = r at *
  go_enter Try.func18, Try.ntmps18
  go_wp2_with (first | (go_at_call 49; refine (OB.out _).mono ?_; rintro e w1 ⟨rfl, hq1⟩) | (refine alloc_new 59 rfl rfl _ zero59 (wh false 0) rfl ?_; intro g6 w6 N6) | (refine store_at 59 (.tmp 6) (.tmp 8) rfl rfl g6 0 rfl (wh sb nb) rfl (wh false 0) 59 N6.blk (size59 _ _) (by rw [wh_size, wh_size]; exact Nat.le_refl _) (wh_one _ _) _ (splice_all _ _ (by rw [wh_size, wh_size])) ?_; intro w7 hb7 u7; have x6 : w7.cell? ⟨g6, 0, none⟩ = some (.bool sb) := (blk_cell hb7 0).trans (wh_zero _ _); have f6 := blk_frozen hb7 0))
  have B6 : AsideA ((w7.setCell ⟨g6, 0, none⟩ (.bool (!sb))).heap[g6]? = some (.cells (wh (!sb) nb) 59 (0, 0)) ∧ Below w.heap.size w (w7.setCell ⟨g6, 0, none⟩ (.bool (!sb)))) := by
    have ge := N6.ge hq1
    exact ⟨(blk_set hb7 0 _).trans (by rw [wh_flip]), below_set (u7.below (below_new hq1 N6) ge) ge⟩
  clear hq1 N6 hb7 u7 x6 f6 OB
  generalize w7.setCell ⟨g6, 0, none⟩ (.bool (!sb)) = w8 at *
  refine region_fin follows [13, 14, 15, 16, 17, 18, 19, 4, 5] [(13, .int .i64 a), (14, .agg (wh sa na)), (15, .agg (wh (!sb) nb)), (16, .agg (wh c.1 c.2)), (17, .tuple #[.int .i64 r.1, .int .i64 r.2]), (18, .int .i64 r.1), (19, .int .i64 r.2), (4, .int .i64 r.1), (5, .int .i64 r.2)] rfl _ (by simp only [actPuts]; go_simp; rfl) 20 rfl (by kernel_rfl)
    (fun wr => wr.heap[g6]? = some (.cells (wh (!sb) nb) 59 (0, 0)) ∧ Below w.heap.size w wr) (fun wr => wr.heap[g6]? = some (.cells (wh (!sb) nb) 59 (0, 0)) ∧ Below w.heap.size w wr) ⟨B6.out.1, B6.out.2.drew⟩ ?_ ?_
  · refine ⟨?_, ?_, ?_, ?_, ?_, ?_, ?_, ?_, ?_⟩
    · intro wr h
      exact op_val (v := .int .i64 a) (w' := wr) (by go_simp) rfl rfl h
    · intro wr h
      exact op_call (f := 49) (args := #[.int .i64 a]) (by go_simp) rfl rfl ((OA.out wr).mono fun e w' ⟨he, hb⟩ => ⟨he, blk_below h.1 hb, below_call h.2 hb⟩)
    · intro wr h
      exact op_val (run_load_at 59 _ rfl g6 0 rfl (wh (!sb) nb) _ Try.underlying59 rfl (size59 _ _) (blk_at0 h.1)) rfl rfl h
    · intro wr h
      exact op_call (f := 48) (args := #[.agg (wh sa na), .agg (wh (!sb) nb)]) (by go_simp) rfl rfl ((TG.out wr).mono fun e w' ⟨he, hb⟩ => ⟨he, blk_below h.1 hb, below_call h.2 hb⟩)
    · intro wr h
      exact op_call (f := 47) (args := #[.agg (wh c.1 c.2)]) (by go_simp) rfl rfl ((NU.out wr).mono fun e w' ⟨he, hb⟩ => ⟨he, blk_below h.1 hb, below_call h.2 hb⟩)
    · intro wr h
      exact op_val (v := .int .i64 r.1) (w' := wr) (by go_simp) rfl rfl h
    · intro wr h
      exact op_val (v := .int .i64 r.2) (w' := wr) (by go_simp) rfl rfl h
    · intro wr h
      exact op_val (v := .int .i64 r.1) (w' := wr) (by go_simp) rfl rfl h
    · intro wr h
      exact op_val (v := .int .i64 r.2) (w' := wr) (by go_simp) rfl rfl h
  · rintro wz ⟨hz, hbz⟩
    have BZ := AsideA.mk hbz
    clear hbz hz B6
    go_wp2
    go_ret2
    exact ⟨rfl, BZ.out⟩
end Go.Proofs.Ytbeiphfmdmccmaa.A

/-
  The reference's by, Down and Up (countinghouseref01): floored, or raised, or too great.
-/
namespace Go.Proofs.Ytbeiphfmdmccmaa.A
set_option linter.unusedVariables false
set_option linter.unusedSimpArgs false
open Go.RowKit

theorem all_bits {m n : Nat} (hm : m < 2 ^ 192) (hn : n < 2 ^ 192) : (List.range 192).all (fun i => m.testBit i == n.testBit i) = decide (m = n) := by
  rw [Bool.eq_iff_iff]
  simp only [List.all_eq_true, List.mem_range, beq_iff_eq, decide_eq_true_eq]
  constructor
  · intro h
    exact bv_inj (bv_congr h) hm hn
  · rintro rfl i _
    rfl
theorem guard57 : Try.prog.eqGuardType Try.prog.depth 57 = false := by kernel_rfl
theorem field59 (cs : Array Value) (w : World) : (Instr.field 59 (.agg cs) 1).run Try.prog w = .ok (.agg (cs.extract 1 193)) w := by kernel_rfl
theorem run_neq57 {ρ : Operand → Value} {o : Oper} {x y : Operand} {k : TypeId} {w : World} (ho : o.op = .binOp .neq 57 x y k) {m n : Nat} (hx : ρ x = .agg (bv m)) (hy : ρ y = .agg (bv n)) (hm : m < 2 ^ 192) (hn : n < 2 ^ 192) :
    (execOp ρ o).run Try.prog w = .ok (.value (.bool (!decide (m = n)))) w := by
  have he := run_equalIn_arr (P := Try.prog) w 9999 57 4 192 (bv m) (bv n) _ Try.underlying57 Try.underlying4 rfl (by kernel_rfl) (fun i => m.testBit i == n.testBit i) (fun i hi => ⟨_, _, bv_get m hi, bv_get n hi, run_equalIn_bool' w 9998 4 _ _ Try.underlying4⟩)
  rw [all_bits hm hn] at he
  have hg := run_eqGuard_agg (P := Try.prog) w .neq 57 x y (bv m) (bv n) guard57
  unfold execOp
  simp only [ho, hx, hy, Sem.run_bind, hg, run_neq_struct, he, Result.andThen_ok]
  rfl
theorem run_field59 {ρ : Operand → Value} {o : Oper} {x : Operand} {w : World} (ho : o.op = .field 59 x 1) {s : Bool} {n : Nat} (hx : ρ x = .agg (wh s n)) : (execOp ρ o).run Try.prog w = .ok (.value (.agg (bv n))) w := by
  have hext : (wh s n).extract 1 193 = bv n := by
    apply Array.ext_getElem?
    intro i
    rw [Array.getElem?_extract]
    by_cases hi : i < 192
    · rw [wh_size]
      simp only [show i < min 193 193 - 1 by omega, if_true]
      rw [wh_get s n hi, bv_get n hi]
    · rw [bv_none n (by omega), wh_size, if_neg (by omega)]
  have hf := field59 (wh s n) w
  rw [hext] at hf
  unfold execOp
  simp only [ho, hx, Sem.run_bind, hf, Result.andThen_ok]
  rfl

theorem of_nat (A : Nat) (h : A ≤ 9223372036854775807) (w : World) : Calls Try.prog 49 #[.int .i64 (A : Int)] w fun e w' => e = .returned (.agg (wh false A)) ∧ Below w.heap.size w w' := by
  have := ref_Of (A : Int) (by omega) (by omega) w
  rw [show decide ((A : Int) < 0) = false from decide_eq_false (by omega), Int.natAbs_natCast] at this
  exact this
theorem built59' (n : Nat) : Try.prog.built 59 [(1, .agg (bv n))] = some (wh false n) := by
  rw [built59_fill, fill_cons _ _ _ (Value.agg (bv n)) _ 1 192 rfl (bv_size n) (by rw [wh_size]; omega)]
  rw [show (Value.agg (bv n)).cells = bv n from rfl, wh_lay]
  rfl
theorem built57 : Try.prog.built 57 [] = some (bv 0) := by kernel_rfl
theorem bv_le (m n : Nat) : 0 + (bv m).size ≤ (bv n).size := by rw [bv_size, bv_size]; exact Nat.le_refl _
theorem bv_splice (m n : Nat) : splice (bv n) 0 (bv m) = bv m := splice_all _ _ (by rw [bv_size, bv_size])

structure ByInv (w wr : World) (g k q r : Nat) : Prop where
  b : wr.heap[g]? = some (.cells (bv q) 57 (0, 0))
  c : wr.heap[k]? = some (.cells (bv r) 57 (0, 0))
  ne : g ≠ k
  ge : w.heap.size ≤ g
  below : Below w.heap.size w wr
theorem ByInv.later {w wr wz : World} {g k q r : Nat} (I : ByInv w wr g k q r) (h : Below wr.heap.size wr wz) : ByInv w wz g k q r := ⟨blk_below I.b h, blk_below I.c h, I.ne, I.ge, below_call I.below h⟩
theorem ByInv.drew {w wr : World} {g k q r : Nat} (I : ByInv w wr g k q r) : ByInv w wr.drew g k q r := ⟨I.b, I.c, I.ne, I.ge, I.below.drew⟩
theorem ByInv.upd {w wr wz : World} {g k q q' r : Nat} (I : ByInv w wr g k q r) (hb : wz.heap[g]? = some (.cells (bv q') 57 (0, 0))) (hu : Upd wr wz g) : ByInv w wz g k q' r :=
  ⟨hb, blk_upd hu I.c (Ne.symm I.ne), I.ne, I.ge, hu.below I.below I.ge⟩

set_option maxHeartbeats 4000000 in
set_option maxRecDepth 100000 in
theorem by_down (A N D : Nat) (hA : A ≤ 9223372036854775807) (hN : N ≤ 9223372036854775807) (hD : D ≤ 9223372036854775807) (h0 : 0 < D) (w : World) :
    Calls Try.prog 55 #[.int .i64 (A : Int), .int .i64 (N : Int), .int .i64 (D : Int), .bool false] w fun e w' => e = .returned (.tuple #[.int .i64 (fit ((A * N / D : Nat) : Int)).1, .int .i64 (fit ((A * N / D : Nat) : Int)).2]) ∧ Below w.heap.size w w' := by
  have OA := AsideA.mk (of_nat A hA)
  have ON := AsideA.mk (of_nat N hN)
  have OD := AsideA.mk (of_nat D hD)
  have TM := AsideA.mk (ref_Times false false A N)
  rw [Nat.mod_eq_of_lt (show N < 2 ^ 64 by omega)] at TM
  have hm : A * N < 2 ^ 192 := Nat.lt_of_le_of_lt (Nat.mul_le_mul hA hN) (by decide)
  have DV := AsideA.mk (ref_Divided (A * N) D hm h0 (by omega))
  have NU := AsideA.mk (ref_Num false (A * N / D) (Nat.lt_of_le_of_lt (Nat.div_le_self _ _) hm))
  rw [show sval false (A * N / D) = ((A * N / D : Nat) : Int) from rfl] at NU
  have d1 : decide ((A : Int) < 0) = false := decide_eq_false (by omega)
  have d2 : decide ((N : Int) < 0) = false := decide_eq_false (by omega)
  have d3 : decide ((D : Int) < 1) = false := decide_eq_false (by omega)
  clear hA hN hD h0 hm
  generalize A * N = M at *
  generalize M / D = Q at *
  generalize M % D = R at *
  generalize fit (Q : Int) = r at *
  generalize (A : Int) = a at *
  generalize (N : Int) = num at *
  generalize (D : Int) = den at *
  have BB := AsideA.mk (Below.refl w.heap.size w)
  go_enter Try.func55, Try.ntmps55
  go_upto_region 4 with (first | (go_at_call 49; (first | ((with_reducible refine (OA.out _).mono ?_); clear OA) | ((with_reducible refine (ON.out _).mono ?_); clear ON) | ((with_reducible refine (OD.out _).mono ?_); clear OD)); rintro e wq ⟨rfl, hq⟩; have BN := AsideA.mk (below_call BB.out hq); clear hq BB; have BB := BN; clear BN) | (go_at_call 51; refine (TM.out _).mono ?_; rintro e wq ⟨rfl, hq⟩; have BN := AsideA.mk (below_call BB.out hq); clear hq BB; have BB := BN; clear BN) | (go_at_call 67; refine (DV.out _).mono ?_; rintro e wq ⟨rfl, hq⟩; have BN := AsideA.mk (below_call BB.out hq); clear hq BB; have BB := BN; clear BN) | (refine ev_val rfl (run_field59 rfl rfl) ?_) | ((with_reducible refine gate (N := 10) rfl ?_); refine alloc_new 57 rfl rfl _ zero57 (bv 0) rfl ?_; intro g w1 N1) | ((with_reducible refine gate (N := 11) rfl ?_); refine alloc_new 57 rfl rfl _ zero57 (bv 0) rfl ?_; intro k w2 N2) | (refine store_at 57 (.tmp 10) (.tmp 33) rfl rfl g 0 rfl (bv Q) rfl (bv 0) 57 (blk_below N1.blk N2.below) (size57 _) (bv_le _ _) (bv_one _) _ (bv_splice _ _) ?_; intro w3 hb3 u3) | (refine store_at 57 (.tmp 11) (.tmp 34) rfl rfl k 0 rfl (bv R) rfl (bv 0) 57 (blk_upd u3 N2.blk (Ne.symm (N2.ne N1.blk))) (size57 _) (bv_le _ _) (bv_one _) _ (bv_splice _ _) ?_; intro w4 hb4 u4))
  have IB := AsideA.mk (ByInv.mk (w := w) (blk_upd u4 hb3 (N2.ne N1.blk)) hb4 (N2.ne N1.blk) (N1.ge BB.out) (u4.below (u3.below (below_new (below_new BB.out N1) N2) (N1.ge BB.out)) (N2.ge (below_new BB.out N1))))
  clear N1 N2 u3 u4 hb3 hb4 BB
  go_wp2_with (first | (refine load_at 57 (.tmp 10) rfl rfl g 0 rfl (bv Q) _ Try.underlying57 rfl (size57 _) (blk_at0 IB.out.b) ?_) | (refine build_ps 59 _ rfl rfl [(1, .agg (bv Q))] _ (built59' Q) ?hps ?_; (case hps => go_simp)) | (go_at_call 47; refine (NU.out _).mono ?_; rintro e wq ⟨rfl, hq⟩; have IC := AsideA.mk (IB.out.later hq); clear hq IB))
  go_ret2
  exact ⟨rfl, IC.out.below⟩
end Go.Proofs.Ytbeiphfmdmccmaa.A

/-
  The reference's by, raised (countinghouseref01).
-/
namespace Go.Proofs.Ytbeiphfmdmccmaa.A
set_option linter.unusedVariables false
set_option linter.unusedSimpArgs false
open Go.RowKit
theorem zc57 : Try.zeroCells57 = bv 0 := by kernel_rfl
theorem run_neq57z {ρ : Operand → Value} {o : Oper} {x y : Operand} {k : TypeId} {w : World} (ho : o.op = .binOp .neq 57 x y k) {m : Nat} (hx : ρ x = .agg (bv m)) (hy : ρ y = .agg Try.zeroCells57) (hm : m < 2 ^ 192) :
    (execOp ρ o).run Try.prog w = .ok (.value (.bool (!decide (m = 0)))) w := run_neq57 ho hx (zc57 ▸ hy) hm (Nat.pos_of_ne_zero (by simp))
set_option maxHeartbeats 4000000 in
set_option maxRecDepth 100000 in
theorem by_up0 (A N D : Nat) (hA : A ≤ 9223372036854775807) (hN : N ≤ 9223372036854775807) (hD : D ≤ 9223372036854775807) (h0 : 0 < D) (hR : A * N % D = 0) (w : World) :
    Calls Try.prog 55 #[.int .i64 (A : Int), .int .i64 (N : Int), .int .i64 (D : Int), .bool true] w fun e w' => e = .returned (.tuple #[.int .i64 (fit ((A * N / D : Nat) : Int)).1, .int .i64 (fit ((A * N / D : Nat) : Int)).2]) ∧ Below w.heap.size w w' := by
  have OA := AsideA.mk (of_nat A hA)
  have ON := AsideA.mk (of_nat N hN)
  have OD := AsideA.mk (of_nat D hD)
  have TM := AsideA.mk (ref_Times false false A N)
  rw [Nat.mod_eq_of_lt (show N < 2 ^ 64 by omega)] at TM
  have hm : A * N < 2 ^ 192 := Nat.lt_of_le_of_lt (Nat.mul_le_mul hA hN) (by decide)
  have DV := AsideA.mk (ref_Divided (A * N) D hm h0 (by omega))
  have NU := AsideA.mk (ref_Num false (A * N / D) (Nat.lt_of_le_of_lt (Nat.div_le_self _ _) hm))
  rw [show sval false (A * N / D) = ((A * N / D : Nat) : Int) from rfl] at NU
  have d1 : decide ((A : Int) < 0) = false := decide_eq_false (by omega)
  have d2 : decide ((N : Int) < 0) = false := decide_eq_false (by omega)
  have d3 : decide ((D : Int) < 1) = false := decide_eq_false (by omega)
  clear hA hN hD h0 hm
  generalize A * N = M at *
  generalize M / D = Q at *
  rw [hR] at DV
  have hR' := hR
  clear hR hR'
  generalize hR0 : (0 : Nat) = R at DV
  have HR := AsideA.mk hR0
  clear hR0
  generalize fit (Q : Int) = r at *
  generalize (A : Int) = a at *
  generalize (N : Int) = num at *
  generalize (D : Int) = den at *
  have HM : AsideA (R < 2 ^ 192) := ⟨by rw [← HR.out]; exact Nat.pos_of_ne_zero (by simp)⟩
  have BB := AsideA.mk (Below.refl w.heap.size w)
  go_enter Try.func55, Try.ntmps55
  go_upto_region 4 with (first | (go_at_call 49; (first | ((with_reducible refine (OA.out _).mono ?_); clear OA) | ((with_reducible refine (ON.out _).mono ?_); clear ON) | ((with_reducible refine (OD.out _).mono ?_); clear OD)); rintro e wq ⟨rfl, hq⟩; have BN := AsideA.mk (below_call BB.out hq); clear hq BB; have BB := BN; clear BN) | (go_at_call 51; refine (TM.out _).mono ?_; rintro e wq ⟨rfl, hq⟩; have BN := AsideA.mk (below_call BB.out hq); clear hq BB; have BB := BN; clear BN) | (go_at_call 67; refine (DV.out _).mono ?_; rintro e wq ⟨rfl, hq⟩; have BN := AsideA.mk (below_call BB.out hq); clear hq BB; have BB := BN; clear BN) | (refine ev_val rfl (run_field59 rfl rfl) ?_) | ((with_reducible refine gate (N := 10) rfl ?_); refine alloc_new 57 rfl rfl _ zero57 (bv 0) rfl ?_; intro g w1 N1) | ((with_reducible refine gate (N := 11) rfl ?_); refine alloc_new 57 rfl rfl _ zero57 (bv 0) rfl ?_; intro k w2 N2) | (refine store_at 57 (.tmp 10) (.tmp 33) rfl rfl g 0 rfl (bv Q) rfl (bv 0) 57 (blk_below N1.blk N2.below) (size57 _) (bv_le _ _) (bv_one _) _ (bv_splice _ _) ?_; intro w3 hb3 u3) | (refine store_at 57 (.tmp 11) (.tmp 34) rfl rfl k 0 rfl (bv R) rfl (bv 0) 57 (blk_upd u3 N2.blk (Ne.symm (N2.ne N1.blk))) (size57 _) (bv_le _ _) (bv_one _) _ (bv_splice _ _) ?_; intro w4 hb4 u4))
  have IB := AsideA.mk (ByInv.mk (w := w) (blk_upd u4 hb3 (N2.ne N1.blk)) hb4 (N2.ne N1.blk) (N1.ge BB.out) (u4.below (u3.below (below_new (below_new BB.out N1) N2) (N1.ge BB.out)) (N2.ge (below_new BB.out N1))))
  clear N1 N2 u3 u4 hb3 hb4 BB
  go_upto_region 6 with (first | ((with_reducible refine gate (N := 37) rfl ?_); refine ev_guarded ?hw (run_load_at 57 _ rfl k 0 rfl (bv R) _ Try.underlying57 rfl (size57 _) (blk_at0 IB.out.c)) ?_; (case hw => go_simp)) | ((with_reducible refine gate (N := 38) rfl ?_); refine ev_guarded ?hw (run_build_to 57 _ rfl (bv 0) ?hb) ?_; (case hw => go_simp); (case hb => exact built57)) | ((with_reducible refine gate (N := 39) rfl ?_); refine ev_guarded ?hw (run_neq57z (m := R) rfl rfl rfl HM.out) ?_; (case hw => go_simp); rw [decide_eq_true HR.out.symm]))
  go_wp2_with (first | (refine load_at 57 (.tmp 10) rfl rfl g 0 rfl (bv Q) _ Try.underlying57 rfl (size57 _) (blk_at0 IB.out.b) ?_) | (refine build_ps 59 _ rfl rfl [(1, .agg (bv Q))] _ (built59' Q) ?hps ?_; (case hps => go_simp)) | (go_at_call 47; refine (NU.out _).mono ?_; rintro e wq ⟨rfl, hq⟩; have IC := AsideA.mk (IB.out.later hq); clear hq IB))
  go_ret2
  exact ⟨rfl, IC.out.below⟩
set_option maxHeartbeats 4000000 in
set_option maxRecDepth 100000 in
theorem by_up1 (A N D : Nat) (hA : A ≤ 9223372036854775807) (hN : N ≤ 9223372036854775807) (hD : D ≤ 9223372036854775807) (h0 : 0 < D) (hR : A * N % D ≠ 0) (w : World) :
    Calls Try.prog 55 #[.int .i64 (A : Int), .int .i64 (N : Int), .int .i64 (D : Int), .bool true] w fun e w' => e = .returned (.tuple #[.int .i64 (fit ((A * N / D + 1 : Nat) : Int)).1, .int .i64 (fit ((A * N / D + 1 : Nat) : Int)).2]) ∧ Below w.heap.size w w' := by
  have OA := AsideA.mk (of_nat A hA)
  have ON := AsideA.mk (of_nat N hN)
  have OD := AsideA.mk (of_nat D hD)
  have TM := AsideA.mk (ref_Times false false A N)
  rw [Nat.mod_eq_of_lt (show N < 2 ^ 64 by omega)] at TM
  have hm : A * N < 2 ^ 192 := Nat.lt_of_le_of_lt (Nat.mul_le_mul hA hN) (by decide)
  have DV := AsideA.mk (ref_Divided (A * N) D hm h0 (by omega))
  have NU := AsideA.mk (ref_Num false (A * N / D + 1) (by have := Nat.div_le_self (A * N) D; have : A * N ≤ 9223372036854775807 * 9223372036854775807 := Nat.mul_le_mul hA hN; omega))
  rw [show sval false (A * N / D + 1) = ((A * N / D + 1 : Nat) : Int) from rfl] at NU
  have d1 : decide ((A : Int) < 0) = false := decide_eq_false (by omega)
  have d2 : decide ((N : Int) < 0) = false := decide_eq_false (by omega)
  have d3 : decide ((D : Int) < 1) = false := decide_eq_false (by omega)
  have HM : AsideA (A * N % D < 2 ^ 192) := ⟨Nat.lt_of_le_of_lt (Nat.mod_le _ _) hm⟩
  clear hA hN hD h0 hm
  generalize A * N = M at *
  generalize M / D = Q at *
  generalize M % D = R at *
  have HR := AsideA.mk hR
  clear hR
  generalize fit ((Q + 1 : Nat) : Int) = r at *
  generalize (A : Int) = a at *
  generalize (N : Int) = num at *
  generalize (D : Int) = den at *
  have BB := AsideA.mk (Below.refl w.heap.size w)
  go_enter Try.func55, Try.ntmps55
  go_upto_region 4 with (first | (go_at_call 49; (first | ((with_reducible refine (OA.out _).mono ?_); clear OA) | ((with_reducible refine (ON.out _).mono ?_); clear ON) | ((with_reducible refine (OD.out _).mono ?_); clear OD)); rintro e wq ⟨rfl, hq⟩; have BN := AsideA.mk (below_call BB.out hq); clear hq BB; have BB := BN; clear BN) | (go_at_call 51; refine (TM.out _).mono ?_; rintro e wq ⟨rfl, hq⟩; have BN := AsideA.mk (below_call BB.out hq); clear hq BB; have BB := BN; clear BN) | (go_at_call 67; refine (DV.out _).mono ?_; rintro e wq ⟨rfl, hq⟩; have BN := AsideA.mk (below_call BB.out hq); clear hq BB; have BB := BN; clear BN) | (refine ev_val rfl (run_field59 rfl rfl) ?_) | ((with_reducible refine gate (N := 10) rfl ?_); refine alloc_new 57 rfl rfl _ zero57 (bv 0) rfl ?_; intro g w1 N1) | ((with_reducible refine gate (N := 11) rfl ?_); refine alloc_new 57 rfl rfl _ zero57 (bv 0) rfl ?_; intro k w2 N2) | (refine store_at 57 (.tmp 10) (.tmp 33) rfl rfl g 0 rfl (bv Q) rfl (bv 0) 57 (blk_below N1.blk N2.below) (size57 _) (bv_le _ _) (bv_one _) _ (bv_splice _ _) ?_; intro w3 hb3 u3) | (refine store_at 57 (.tmp 11) (.tmp 34) rfl rfl k 0 rfl (bv R) rfl (bv 0) 57 (blk_upd u3 N2.blk (Ne.symm (N2.ne N1.blk))) (size57 _) (bv_le _ _) (bv_one _) _ (bv_splice _ _) ?_; intro w4 hb4 u4))
  have IB := AsideA.mk (ByInv.mk (w := w) (blk_upd u4 hb3 (N2.ne N1.blk)) hb4 (N2.ne N1.blk) (N1.ge BB.out) (u4.below (u3.below (below_new (below_new BB.out N1) N2) (N1.ge BB.out)) (N2.ge (below_new BB.out N1))))
  clear N1 N2 u3 u4 hb3 hb4 BB
  go_upto_region 6 with (first | ((with_reducible refine gate (N := 37) rfl ?_); refine ev_guarded ?hw (run_load_at 57 _ rfl k 0 rfl (bv R) _ Try.underlying57 rfl (size57 _) (blk_at0 IB.out.c)) ?_; (case hw => go_simp)) | ((with_reducible refine gate (N := 38) rfl ?_); refine ev_guarded ?hw (run_build_to 57 _ rfl (bv 0) ?hb) ?_; (case hw => go_simp); (case hb => exact built57)) | ((with_reducible refine gate (N := 39) rfl ?_); refine ev_guarded ?hw (run_neq57z (m := R) rfl rfl rfl HM.out) ?_; (case hw => go_simp); rw [decide_eq_false HR.out]))
  refine region_fin follows [41, 42, 43, 44] [(41, .agg (bv Q)), (42, .agg (wh false 1)), (43, .agg (bv 1)), (44, .agg (bv (Q + 1)))] rfl _ (by simp only [actPuts]; go_simp; rfl) 50 rfl (by kernel_rfl)
    (fun wr => ByInv w wr g k Q R) (fun wr => ByInv w wr g k (Q + 1) R) IB.out.drew ?_ ?_
  · refine ⟨?_, ?_, ?_, ?_, ?_⟩
    · intro wr h
      exact op_val (run_load_at 57 _ rfl g 0 rfl (bv Q) _ Try.underlying57 rfl (size57 _) (blk_at0 h.b)) rfl rfl h
    · intro wr h
      exact op_call (f := 49) (args := #[.int .i64 1]) (by go_simp) rfl rfl ((of_nat 1 (by omega) wr).mono fun e w' ⟨he, hb⟩ => ⟨he, h.later hb⟩)
    · intro wr h
      exact op_val (run_field59 rfl rfl) rfl rfl h
    · intro wr h
      exact op_call (f := 62) (args := #[.agg (bv Q), .agg (bv 1)]) (by go_simp) rfl rfl ((ref_Plus Q 1 wr).mono fun e w' ⟨he, hb⟩ => ⟨he, h.later hb⟩)
    · intro wr h
      exact op_store 57 (.tmp 10) (.tmp 44) rfl rfl g 0 rfl (bv (Q + 1)) rfl (bv Q) 57 h.b (size57 _) (bv_le _ _) (bv_one _) _ (bv_splice _ _) fun w1 hb hu => h.upd hb hu
  · intro wz hz
    have IZ := AsideA.mk hz
    clear hz IB
    go_wp2_with (first | (refine load_at 57 (.tmp 10) rfl rfl g 0 rfl (bv (Q + 1)) _ Try.underlying57 rfl (size57 _) (blk_at0 IZ.out.b) ?_) | (refine build_ps 59 _ rfl rfl [(1, .agg (bv (Q + 1)))] _ (built59' (Q + 1)) ?hps ?_; (case hps => go_simp)) | (go_at_call 47; refine (NU.out _).mono ?_; rintro e wq ⟨rfl, hq⟩; have IC := AsideA.mk (IZ.out.later hq); clear hq IZ))
    go_ret2
    exact ⟨rfl, IC.out.below⟩
end Go.Proofs.Ytbeiphfmdmccmaa.A

/-
  The reference's by, whatever numbers, Down and Up (countinghouseref01).
-/
namespace Go.Proofs.Ytbeiphfmdmccmaa.A
set_option linter.unusedVariables false
set_option linter.unusedSimpArgs false
open Go.RowKit

def byf (a num den : Int) (up : Bool) : Int × Int :=
  if a < 0 ∨ num < 0 ∨ den < 1 then (0, 1) else fit ((a.toNat * num.toNat / den.toNat + (if up = true ∧ a.toNat * num.toNat % den.toNat ≠ 0 then 1 else 0) : Nat) : Int)

set_option maxHeartbeats 1000000 in
set_option maxRecDepth 100000 in
theorem by_bad (a num den : Int) (up : Bool) (h : a < 0 ∨ num < 0 ∨ den < 1) (w : World) : Calls Try.prog 55 #[.int .i64 a, .int .i64 num, .int .i64 den, .bool up] w fun e w' => e = .returned (.tuple #[.int .i64 0, .int .i64 1]) ∧ Below w.heap.size w w' := by
  have BB := AsideA.mk (Below.refl w.heap.size w)
  by_cases h1 : a < 0
  · have d1 : decide (a < 0) = true := decide_eq_true h1
    clear h h1
    go_enter Try.func55, Try.ntmps55
    go_wp2
    go_ret2
    exact ⟨rfl, BB.out⟩
  · have d1 : decide (a < 0) = false := decide_eq_false h1
    by_cases h2 : num < 0
    · have d2 : decide (num < 0) = true := decide_eq_true h2
      clear h h1 h2
      go_enter Try.func55, Try.ntmps55
      go_wp2
      go_ret2
      exact ⟨rfl, BB.out⟩
    · have d2 : decide (num < 0) = false := decide_eq_false h2
      have d3 : decide (den < 1) = true := decide_eq_true (by omega)
      clear h h1 h2
      go_enter Try.func55, Try.ntmps55
      go_wp2
      go_ret2
      exact ⟨rfl, BB.out⟩

theorem by_any (a num den : Int) (ha : in64 a) (hn : in64 num) (hd : in64 den) (up : Bool) (w : World) : Calls Try.prog 55 #[.int .i64 a, .int .i64 num, .int .i64 den, .bool up] w fun e w' => e = .returned (.tuple #[.int .i64 (byf a num den up).1, .int .i64 (byf a num den up).2]) ∧ Below w.heap.size w w' := by
  by_cases h : a < 0 ∨ num < 0 ∨ den < 1
  · rw [show byf a num den up = (0, 1) by unfold byf; rw [if_pos h]]
    exact by_bad a num den up h w
  · have ea : ((a.toNat : Nat) : Int) = a := by omega
    have en : ((num.toNat : Nat) : Int) = num := by omega
    have ed : ((den.toNat : Nat) : Int) = den := by omega
    have h1 := ha.2
    have h2 := hn.2
    have h3 := hd.2
    have hf : byf a num den up = fit ((a.toNat * num.toNat / den.toNat + (if up = true ∧ a.toNat * num.toNat % den.toNat ≠ 0 then 1 else 0) : Nat) : Int) := by unfold byf; rw [if_neg h]
    rw [hf]
    generalize a.toNat = A at *
    generalize num.toNat = N at *
    generalize den.toNat = D at *
    subst ea en ed
    cases up with
    | false =>
      rw [if_neg (by simp), Nat.add_zero]
      exact by_down A N D (by omega) (by omega) (by omega) (by omega) w
    | true =>
      by_cases hr : A * N % D = 0
      · rw [if_neg (by simp [hr]), Nat.add_zero]
        exact by_up0 A N D (by omega) (by omega) (by omega) (by omega) hr w
      · rw [if_pos ⟨rfl, hr⟩]
        exact by_up1 A N D (by omega) (by omega) (by omega) (by omega) hr w

set_option maxHeartbeats 1000000 in
set_option maxRecDepth 100000 in
theorem down_any (a num den : Int) (ha : in64 a) (hn : in64 num) (hd : in64 den) (w : World) : Calls Try.prog 27 #[.int .i64 a, .int .i64 num, .int .i64 den] w fun e w' => e = .returned (.tuple #[.int .i64 (byf a num den false).1, .int .i64 (byf a num den false).2]) ∧ Below w.heap.size w w' := by
  have B := AsideA.mk (by_any a num den ha hn hd false)
  clear ha hn hd
  generalize byf a num den false = r at *
  go_enter Try.func27, Try.ntmps27
  go_wp2_with (go_at_call 55; refine (B.out _).mono ?_; rintro e wq ⟨rfl, hq⟩; have BN := AsideA.mk hq; clear hq)
  go_ret2
  exact ⟨rfl, BN.out⟩
set_option maxHeartbeats 1000000 in
set_option maxRecDepth 100000 in
theorem up_any (a num den : Int) (ha : in64 a) (hn : in64 num) (hd : in64 den) (w : World) : Calls Try.prog 29 #[.int .i64 a, .int .i64 num, .int .i64 den] w fun e w' => e = .returned (.tuple #[.int .i64 (byf a num den true).1, .int .i64 (byf a num den true).2]) ∧ Below w.heap.size w w' := by
  have B := AsideA.mk (by_any a num den ha hn hd true)
  clear ha hn hd
  generalize byf a num den true = r at *
  go_enter Try.func29, Try.ntmps29
  go_wp2_with (go_at_call 55; refine (B.out _).mono ?_; rintro e wq ⟨rfl, hq⟩; have BN := AsideA.mk hq; clear hq)
  go_ret2
  exact ⟨rfl, BN.out⟩
end Go.Proofs.Ytbeiphfmdmccmaa.A

