/-
  The reference's numbers: contracts of Shifted and Of (countinghouseref01).
-/
import Derived.Test.YtbeiphfmdmccmaaR1
import Derived.Test.YtbeiphfmdmccmaaU64
namespace Go.Proofs.Ytbeiphfmdmccmaa.A
set_option linter.unusedVariables false
set_option linter.unusedSimpArgs false
open Go.RowKit

structure ShInv (w wr : World) (g2 g4 g5 : Nat) (c2 c4 c5 : Array Value) : Prop where
  b2 : wr.heap[g2]? = some (.cells c2 57 (0, 0))
  b4 : wr.heap[g4]? = some (.cells c4 57 (0, 0))
  b5 : wr.heap[g5]? = some (.cells c5 57 (0, 0))
  n2 : g2 ≠ g5
  n4 : g4 ≠ g5
  ge4 : w.heap.size ≤ g4
  ge5 : w.heap.size ≤ g5
  below : Below w.heap.size w wr
theorem ShInv.new {w w2 wa w4 : World} {g2 ga g4 : Nat} {c2 c4 c5 : Array Value} (N2 : New w w2 g2 c2 57) (Na : New w2 wa ga c4 57) (N4 : New wa w4 g4 c5 57) : ShInv w w4 g2 ga g4 c2 c4 c5 := by
  have e2 := blk_below N2.blk Na.below
  have d2 := below_new (Below.refl _ _) N2
  have da := below_new d2 Na
  exact ⟨blk_below e2 N4.below, blk_below Na.blk N4.below, N4.blk, N4.ne e2, N4.ne Na.blk, Na.ge d2, N4.ge da, below_new da N4⟩
theorem ShInv.set {w wr : World} {g2 g4 g5 : Nat} {c2 c4 c5 c5' : Array Value} (I : ShInv w wr g2 g4 g5 c2 c4 c5) (k : Nat) (v : Value) (h : c5.setIfInBounds k v = c5') : ShInv w (wr.setCell ⟨g5, k, none⟩ v) g2 g4 g5 c2 c4 c5' :=
  ⟨blk_set_other I.b2 _ _ I.n2, blk_set_other I.b4 _ _ I.n4, h ▸ blk_set I.b5 k v, I.n2, I.n4, I.ge4, I.ge5, below_set I.below I.ge5⟩

set_option maxHeartbeats 1000000 in
set_option maxRecDepth 100000 in
theorem ref_Shifted (m b : Nat) (hb : b ≤ 192) (w : World) : Calls Try.prog 64 #[.agg (bv m), .int .i64 b] w fun e w' => e = .returned (.agg (bv (m <<< b))) ∧ Below w.heap.size w w' := by
  go_enter Try.func64, Try.ntmps64
  go_wp2_with (first | (refine box_new 57 (.tmp 0) rfl rfl _ rfl (bv m) rfl ?_; intro g2 w2 N2) | ((with_reducible refine gate (N := 4) rfl ?_); refine alloc_new 57 rfl rfl _ zero57 (bv 0) rfl ?_; intro ga wa Na) | (refine alloc_new 57 rfl rfl _ zero57 (bv 0) rfl ?_; intro g4 w4 N4))
  have I0 := ShInv.new N2 Na N4
  rw [← shift_start m b] at I0
  clear N2 Na N4
  go_loopw [6] (fun i wr => ∃ k : Nat, b ≤ k ∧ k ≤ 192 ∧ i = .int .i64 k ∧ ShInv w wr g2 ga g4 (bv m) (bv 0) (bv ((m <<< b) % 2 ^ k))) (fun i _ => 192 - (intOf i).toNat)
  case atStart => exact ⟨b, by omega, by omega, rfl, by have := I0; rw [shift_start] at this ⊢; exact this⟩
  case round =>
    obtain ⟨k, hbk, hk, rfl, I⟩ := hrel
    clear I0
    by_cases hlt : k < 192
    · have x2 : wr.cell? ⟨g2, k - b, none⟩ = some (.bool (m.testBit (k - b))) := (blk_cell I.b2 _).trans (bv_get _ (by omega))
      have x5 : wr.cell? ⟨g4, k, none⟩ = some (.bool (((m <<< b) % 2 ^ k).testBit k)) := (blk_cell I.b5 k).trans (bv_get _ hlt)
      have f5 := blk_frozen I.b5 k
      have NX := AsideA.mk (I.set k _ (shift_set m b k hbk))
      clear I
      generalize m.testBit (k - b) = p at *
      generalize ((m <<< b) % 2 ^ k).testBit k = o5 at *
      go_wp2
      exact ⟨⟨k + 1, by omega, by omega, by go_num, NX.out⟩, by simp [intOf]; omega⟩
    · obtain rfl : k = 192 := by omega
      have x5 : ∀ j, j < (bv ((m <<< b) % 2 ^ 192)).size → wr.cell? ⟨g4, 0 + j, none⟩ = (bv ((m <<< b) % 2 ^ 192))[j]? := fun j _ => by rw [Nat.zero_add]; exact blk_cell I.b5 j
      have X5 := AsideA.mk x5
      clear x5
      go_wp2_with (first | (refine load_at 57 (.tmp 5) rfl rfl g4 0 rfl (bv ((m <<< b) % 2 ^ 192)) _ Try.underlying57 rfl (size57 _) X5.out ?_) | (refine store_at 57 (.tmp 4) (.tmp 19) rfl rfl ga 0 rfl (bv ((m <<< b) % 2 ^ 192)) rfl (bv 0) 57 I.b4 (size57 _) (by simp [bv_size]) (bv_one _) _ (splice_all _ _ (by simp [bv_size])) ?_; intro wz hz uz))
      refine bodyPost_ret (v := .agg (bv (m <<< b))) ?_ rfl ⟨rfl, uz.below I.below I.ge4⟩
      rw [bv_mod] at hz
      exact results_at rfl _ _ ga 57 _ _ rfl hz Try.underlying57 rfl (size57 _)

theorem zc59 (b : Bool) : Try.zeroCells59.setIfInBounds 0 (.bool b) = wh b 0 := by cases b <;> kernel_rfl

theorem zc59_size (b : Bool) : (Try.prog.info? 59).map (·.size) = some (Try.zeroCells59.setIfInBounds 0 (.bool b)).size := (zc59 b) ▸ size59 b 0
theorem zc59_le (b : Bool) (n : Nat) : 0 + (Try.zeroCells59.setIfInBounds 0 (.bool b)).size ≤ (wh false n).size := by rw [zc59, wh_size, wh_size]; exact Nat.le_refl _
theorem zc59_one (b : Bool) : ∀ v ∈ (Try.zeroCells59.setIfInBounds 0 (.bool b)).toList, v.oneCell' = true := (zc59 b) ▸ wh_one b 0
theorem zc59_splice (b : Bool) (n : Nat) : splice (wh false n) 0 (Try.zeroCells59.setIfInBounds 0 (.bool b)) = wh b 0 := by rw [zc59]; exact splice_all _ _ (by rw [wh_size, wh_size])
structure OfInv (w wr : World) (g2 g3 : Nat) (c2 c3 : Array Value) : Prop where
  b2 : wr.heap[g2]? = some (.cells c2 59 (0, 0))
  b3 : wr.heap[g3]? = some (.cells c3 59 (0, 0))
  n2 : g2 ≠ g3
  ge2 : w.heap.size ≤ g2
  ge3 : w.heap.size ≤ g3
  below : Below w.heap.size w wr
theorem OfInv.set {w wr : World} {g2 g3 : Nat} {c2 c3 c3' : Array Value} (I : OfInv w wr g2 g3 c2 c3) (k : Nat) (v : Value) (h : c3.setIfInBounds k v = c3') : OfInv w (wr.setCell ⟨g3, k, none⟩ v) g2 g3 c2 c3' :=
  ⟨blk_set_other I.b2 _ _ I.n2, h ▸ blk_set I.b3 k v, I.n2, I.ge2, I.ge3, below_set I.below I.ge3⟩

set_option maxHeartbeats 1000000 in
set_option maxRecDepth 100000 in
theorem ref_Of (a : Int) (h1 : -9223372036854775808 ≤ a) (h2 : a ≤ 9223372036854775807) (w : World) : Calls Try.prog 49 #[.int .i64 a] w fun e w' => e = .returned (.agg (wh (decide (a < 0)) a.natAbs)) ∧ Below w.heap.size w w' := by
  have key : ∀ b : Bool, decide (a < 0) = b → Calls Try.prog 49 #[.int .i64 a] w fun e w' => e = .returned (.agg (wh b a.natAbs)) ∧ Below w.heap.size w w' := by
    intro b hb
    cases b
    all_goals
      go_enter Try.func49, Try.ntmps49
      go_wp2_with (first | ((with_reducible refine gate (N := 2) rfl ?_); refine alloc_new 59 rfl rfl _ zero59 (wh false 0) rfl ?_; intro g2 w2 N2) | (refine alloc_new 59 rfl rfl _ zero59 (wh false 0) rfl ?_; intro g3 w3 N3) | (refine store_at 59 (.tmp 3) (.tmp 8) rfl rfl g3 0 rfl _ rfl (wh false 0) 59 N3.blk (zc59_size _) (zc59_le _ _) (zc59_one _) _ (zc59_splice _ _) ?_; intro w4 hb4 u4))
      have I0 : OfInv w w4 g2 g3 (wh false 0) (wh _ 0) := ⟨blk_upd u4 (blk_below N2.blk N3.below) (N3.ne N2.blk), hb4, N3.ne N2.blk, N2.ge (Below.refl _ _), N3.ge (below_new (Below.refl _ _) N2), u4.below (below_new (below_new (Below.refl _ _) N2) N3) (N3.ge (below_new (Below.refl _ _) N2))⟩
      clear N2 N3 u4 hb4
      first | rw [abs_u64 a h1 (of_decide_eq_true hb)] | rw [pos_u64 a (Int.not_lt.1 (of_decide_eq_false hb)) h2]
      have hu : a.natAbs < 18446744073709551616 := by omega
      have h63 : a.natAbs ≤ 9223372036854775808 := by omega
      clear hb h1 h2
      generalize HU0 : a.natAbs = u at hu h63 I0 ⊢
      have HU := AsideA.mk HU0
      clear HU0
      go_loopw [5] (fun i wr => ∃ k : Nat, k ≤ 64 ∧ i = .int .i64 k ∧ OfInv w wr g2 g3 (wh false 0) (wh _ (u % 2 ^ k))) (fun i _ => 64 - (intOf i).toNat)
      case atStart => exact ⟨0, by omega, rfl, by rw [Nat.pow_zero, Nat.mod_one]; exact I0⟩
      case round =>
        obtain ⟨k, hk, rfl, I⟩ := hrel
        clear I0
        by_cases hlt : k < 64
        · have x3 := (blk_cell I.b3 (1 + k)).trans (wh_get _ _ (show k < 192 by omega))
          have f3 := blk_frozen I.b3 (1 + k)
          have NX := AsideA.mk (I.set (1 + k) _ (whbits_set _ u k))
          rw [← bit_u64 u k hu] at NX
          clear I
          generalize (u % 2 ^ k).testBit k = o5 at *
          go_wp2
          exact ⟨⟨k + 1, by omega, by go_num, NX.out⟩, by simp [intOf]; omega⟩
        · obtain rfl : k = 64 := by omega
          rw [Nat.mod_eq_of_lt hu] at I
          have X3 := AsideA.mk (blk_at0 I.b3)
          have B2 := AsideA.mk I.b2
          have UB := AsideA.mk (fun (wz : World) (uz : Upd wr wz g2) => uz.below I.below I.ge2)
          clear I
          go_wp2_with (first | (refine load_at 59 (.tmp 3) rfl rfl g3 0 rfl (wh _ u) _ Try.underlying59 rfl (size59 _ _) X3.out ?_) | (refine store_at 59 (.tmp 2) (.tmp 28) rfl rfl g2 0 rfl (wh _ u) rfl (wh false 0) 59 B2.out (size59 _ _) (by rw [wh_size, wh_size]; exact Nat.le_refl _) (wh_one _ _) _ (splice_all _ _ (by rw [wh_size, wh_size])) ?_; intro wz hz uz))
          refine bodyPost_ret (v := .agg (wh _ u)) ?_ rfl ⟨by rw [HU.out], UB.out _ uz⟩
          exact results_at rfl _ _ g2 59 _ _ rfl hz Try.underlying59 rfl (size59 _ _)
  exact key _ rfl
end Go.Proofs.Ytbeiphfmdmccmaa.A
