/-
  The reference's numbers: contracts of Less, Greater, Shifted, Of (countinghouseref01).
-/
import Derived.Test.YtbeiphfmdmccmaaR0
import Derived.Test.YtbeiphfmdmccmaaBv2
import Derived.BigQuiet
import Derived.Deep.QuietTactic
namespace Go.Proofs.Ytbeiphfmdmccmaa.A
set_option linter.unusedVariables false
set_option linter.unusedSimpArgs false
open Go.RowKit

/-- four blocks: two arguments, the result's, the variable's -/
structure ArrInv (w wr : World) (g2 g3 g4 g5 : Nat) (c2 c3 c4 c5 : Array Value) : Prop where
  b2 : wr.heap[g2]? = some (.cells c2 57 (0, 0))
  b3 : wr.heap[g3]? = some (.cells c3 57 (0, 0))
  b4 : wr.heap[g4]? = some (.cells c4 57 (0, 0))
  b5 : wr.heap[g5]? = some (.cells c5 57 (0, 0))
  n2 : g2 ≠ g5
  n3 : g3 ≠ g5
  n4 : g4 ≠ g5
  ge4 : w.heap.size ≤ g4
  ge5 : w.heap.size ≤ g5
  below : Below w.heap.size w wr

theorem ArrInv.new {w w2 w3 wa w4 : World} {g2 g3 ga g4 : Nat} {c2 c3 c4 c5 : Array Value} (N2 : New w w2 g2 c2 57) (N3 : New w2 w3 g3 c3 57) (Na : New w3 wa ga c4 57) (N4 : New wa w4 g4 c5 57) : ArrInv w w4 g2 g3 ga g4 c2 c3 c4 c5 := by
  have e2 := blk_below (blk_below N2.blk N3.below) Na.below
  have e3 := blk_below N3.blk Na.below
  have d2 := below_new (Below.refl _ _) N2
  have d3 := below_new d2 N3
  have da := below_new d3 Na
  exact ⟨blk_below e2 N4.below, blk_below e3 N4.below, blk_below Na.blk N4.below, N4.blk, N4.ne e2, N4.ne e3, N4.ne Na.blk, Na.ge d3, N4.ge da, below_new da N4⟩
theorem ArrInv.set {w wr : World} {g2 g3 g4 g5 : Nat} {c2 c3 c4 c5 c5' : Array Value} (I : ArrInv w wr g2 g3 g4 g5 c2 c3 c4 c5) (k : Nat) (v : Value) (h : c5.setIfInBounds k v = c5') : ArrInv w (wr.setCell ⟨g5, k, none⟩ v) g2 g3 g4 g5 c2 c3 c4 c5' :=
  ⟨blk_set_other I.b2 _ _ I.n2, blk_set_other I.b3 _ _ I.n3, blk_set_other I.b4 _ _ I.n4, h ▸ blk_set I.b5 k v, I.n2, I.n3, I.n4, I.ge4, I.ge5, below_set I.below I.ge5⟩

theorem below_drewN' {B : Nat} {w W : World} (h : Below B w W) (n : Nat) : Below B w (W.drewN n) := ⟨h.os, h.tape, h.output, h.size, h.block⟩
set_option maxHeartbeats 1000000 in
set_option maxRecDepth 100000 in
theorem ref_Less (d n : Nat) (w : World) : Calls Try.prog 63 #[.agg (bv (n + d)), .agg (bv n)] w fun e w' => e = .returned (.agg (bv d)) ∧ Below w.heap.size w w' := by
  go_enter Try.func63, Try.ntmps63
  go_wp2_with (first | (refine box_new 57 (.tmp 0) rfl rfl _ rfl (bv (n + d)) rfl ?_; intro g2 w2 N2) | (refine box_new 57 (.tmp 1) rfl rfl _ rfl (bv n) rfl ?_; intro g3 w3 N3) | ((with_reducible refine gate (N := 4) rfl ?_); refine alloc_new 57 rfl rfl _ zero57 (bv 0) rfl ?_; intro ga wa Na) | (refine alloc_new 57 rfl rfl _ zero57 (bv 0) rfl ?_; intro g4 w4 N4))
  have I0 := ArrInv.new N2 N3 Na N4
  clear N2 N3 Na N4
  go_loopw [6, 7] (fun c i wr => ∃ k : Nat, k ≤ 192 ∧ i = .int .i64 k ∧ c = .int .i64 (carry n d k) ∧ ArrInv w wr g2 g3 ga g4 (bv (n + d)) (bv n) (bv 0) (bv (d % 2 ^ k))) (fun _ i _ => 192 - (intOf i).toNat)
  case atStart => exact ⟨0, by omega, rfl, by rw [carry_zero]; rfl, by simpa [Nat.mod_one] using I0⟩
  case round =>
    obtain ⟨k, hk, rfl, rfl, I⟩ := hrel
    clear I0
    by_cases hlt : k < 192
    · have x2 : wr.cell? ⟨g2, k, none⟩ = some (.bool ((n + d).testBit k)) := (blk_cell I.b2 k).trans (bv_get _ hlt)
      have x3 : wr.cell? ⟨g3, k, none⟩ = some (.bool (n.testBit k)) := (blk_cell I.b3 k).trans (bv_get n hlt)
      have x5 : wr.cell? ⟨g4, k, none⟩ = some (.bool ((d % 2 ^ k).testBit k)) := (blk_cell I.b5 k).trans (bv_get _ hlt)
      have f5 := blk_frozen I.b5 k
      have hc := carry_le n d k
      have hc' := carry_le n d (k + 1)
      have hd := bit_le (d.testBit k)
      have hdig := less_digit n d k
      have NX : AsideA (∀ c : Int, c = (d.testBit k).toNat → ArrInv w (wr.setCell ⟨g4, k, none⟩ (.bool (c == 1))) g2 g3 ga g4 (bv (n + d)) (bv n) (bv 0) (bv (d % 2 ^ (k + 1)))) := ⟨fun c hc => I.set k _ (less_set d k c hlt hc)⟩
      clear I
      generalize (n + d).testBit k = p at *
      generalize n.testBit k = q at *
      generalize (d % 2 ^ k).testBit k = o5 at *
      generalize carry n d k = cv at *
      generalize (d.testBit k).toNat = dv at *
      have HC : AsideA (carry n d (k + 1) ≤ 1 ∧ p.toNat + 2 * carry n d (k + 1) = cv + q.toNat + dv) := ⟨hc', hdig⟩
      clear hc' hdig
      cases p <;> cases q <;> go_wp2
      all_goals
        have h1 := HC.out.1
        have h2 := HC.out.2
        simp only [Bool.toNat_true, Bool.toNat_false] at h2
        refine ⟨⟨k + 1, by omega, by go_num, ?_, NX.out _ (by omega)⟩, by simp [intOf]; omega⟩
        first | (have h3 : carry n d (k + 1) = 0 := by omega
                 rw [h3]; rfl) | (have h3 : carry n d (k + 1) = 1 := by omega
                                  rw [h3]; rfl)
    · obtain rfl : k = 192 := by omega
      have x5 : ∀ j, j < (bv (d % 2 ^ 192)).size → wr.cell? ⟨g4, 0 + j, none⟩ = (bv (d % 2 ^ 192))[j]? := fun j _ => by rw [Nat.zero_add]; exact blk_cell I.b5 j
      have X5 := AsideA.mk x5
      clear x5
      go_wp2_with (first | (refine load_at 57 (.tmp 5) rfl rfl g4 0 rfl (bv (d % 2 ^ 192)) _ Try.underlying57 rfl (size57 _) X5.out ?_) | (refine store_at 57 (.tmp 4) (.tmp 33) rfl rfl ga 0 rfl (bv (d % 2 ^ 192)) rfl (bv 0) 57 I.b4 (size57 _) (by simp [bv_size]) (bv_one _) _ (splice_all _ _ (by simp [bv_size])) ?_; intro wz hz uz))
      refine bodyPost_ret (v := .agg (bv d)) ?_ rfl ⟨rfl, uz.below I.below I.ge4⟩
      rw [bv_mod] at hz
      exact results_at rfl _ _ ga 57 _ _ rfl hz Try.underlying57 rfl (size57 _)

set_option maxHeartbeats 1000000 in
set_option maxRecDepth 100000 in
theorem ref_Greater (m n : Nat) (hm : m < 2 ^ 192) (hn : n < 2 ^ 192) (w : World) : Calls Try.prog 61 #[.agg (bv m), .agg (bv n)] w fun e w' => e = .returned (.bool (decide (n < m))) ∧ Below w.heap.size w w' := by
  have T := AsideA.mk (same_top hm hn)
  clear hm hn
  go_enter Try.func61, Try.ntmps61
  go_wp2_with (first | (refine box_new 57 (.tmp 0) rfl rfl _ rfl (bv m) rfl ?_; intro g2 w2 N2) | (refine box_new 57 (.tmp 1) rfl rfl _ rfl (bv n) rfl ?_; intro g3 w3 N3))
  have B2 := AsideA.mk (blk_below N2.blk N3.below)
  have B3 := AsideA.mk N3.blk
  have BB := AsideA.mk (below_new (below_new (Below.refl _ _) N2) N3)
  clear N2 N3
  go_loopw [5] (fun i wr => ∃ k : Nat, k ≤ 192 ∧ i = .int .i64 ((k : Int) - 1) ∧ AsideA (Same m n k) ∧ AsideA (wr.heap = w3.heap) ∧ AsideA (Below w.heap.size w wr)) (fun i _ => (intOf i + 1).toNat)
  case atStart => exact ⟨192, by omega, rfl, T, ⟨rfl⟩, BB⟩
  case round =>
    obtain ⟨k, hk, rfl, S, HH, HB⟩ := hrel
    clear BB
    cases k with
    | zero =>
      go_wp2
      go_ret
      have := same_zero S.out
      subst this
      exact ⟨by simp, HB.out⟩
    | succ k =>
      have hlt : k < 192 := by omega
      have x2 : wr.cell? ⟨g2, k, none⟩ = some (.bool (m.testBit k)) := by
        have := B2.out
        rw [← HH.out] at this
        exact (blk_cell this k).trans (bv_get _ hlt)
      have x3 : wr.cell? ⟨g3, k, none⟩ = some (.bool (n.testBit k)) := by
        have := B3.out
        rw [← HH.out] at this
        exact (blk_cell this k).trans (bv_get _ hlt)
      have e1 : ((k + 1 : Nat) : Int) - 1 = k := by omega
      rw [e1]
      clear e1
      by_cases hb : m.testBit k = n.testBit k
      · have S' := AsideA.mk (same_step S.out hb)
        rw [← hb] at x3
        clear hb S
        generalize m.testBit k = p at *
        go_wp2
        go_quiet (fail)
        go_wp2
        exact ⟨⟨k, by omega, rfl, S', ⟨HH.out⟩, ⟨below_drewN' HB.out _⟩⟩, by simp [intOf]⟩
      · have S' := AsideA.mk (same_gt S.out hb)
        have hq : n.testBit k = !m.testBit k := by cases h1 : m.testBit k <;> cases h2 : n.testBit k <;> simp_all
        rw [hq] at x3
        clear hb hq S
        generalize m.testBit k = p at *
        cases p
        all_goals
          go_wp2
          go_quiet (fail)
          go_wp2
          go_ret
          rw [← S'.out]
          exact ⟨rfl, below_drewN' HB.out _⟩
end Go.Proofs.Ytbeiphfmdmccmaa.A
