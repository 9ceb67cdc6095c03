/-
  The reference's Add, Sub and Mul (countinghouseref01): exact, or too great.
-/
import Derived.Test.YtbeiphfmdmccmaaR6
namespace Go.Proofs.Ytbeiphfmdmccmaa.A
set_option linter.unusedVariables false
set_option linter.unusedSimpArgs false
open Go.RowKit

def in64 (x : Int) : Prop := -9223372036854775808 ≤ x ∧ x ≤ 9223372036854775807
instance (x : Int) : Decidable (in64 x) := by unfold in64; infer_instance
theorem sval_of (a : Int) : sval (decide (a < 0)) a.natAbs = a := by
  unfold sval
  by_cases h : a < 0 <;> simp [h] <;> omega
theorem sval_neg (a : Int) : sval (!decide (a < 0)) a.natAbs = -a := by
  unfold sval
  by_cases h : a < 0 <;> simp [h] <;> omega
theorem sval_mul (a b : Int) : sval (!(decide (a < 0) == decide (b < 0))) (a.natAbs * b.natAbs) = a * b := by
  unfold sval
  rw [← Int.natAbs_mul]
  by_cases h1 : a < 0 <;> by_cases h2 : b < 0
  · have : 0 ≤ a * b := by have := Int.mul_pos_of_neg_of_neg h1 h2; omega
    simp [h1, h2]; omega
  · have : a * b ≤ 0 := Int.mul_nonpos_of_nonpos_of_nonneg (by omega) (by omega)
    simp [h1, h2]; omega
  · have : a * b ≤ 0 := Int.mul_nonpos_of_nonneg_of_nonpos (by omega) (by omega)
    simp [h1, h2]; omega
  · have : 0 ≤ a * b := Int.mul_nonneg (by omega) (by omega)
    simp [h1, h2]; omega

theorem of_any (a : Int) (h : in64 a) (w : World) : Calls Try.prog 49 #[.int .i64 a] w fun e w' => e = .returned (.agg (wh (decide (a < 0)) a.natAbs)) ∧ Below w.heap.size w w' := ref_Of a h.1 h.2 w
theorem abs64 {a : Int} (h : in64 a) : a.natAbs ≤ 9223372036854775808 := by have := h.1; have := h.2; omega

set_option maxHeartbeats 2000000 in
set_option maxRecDepth 100000 in
theorem add_any (a b : Int) (ha : in64 a) (hb : in64 b) (w : World) : Calls Try.prog 15 #[.int .i64 a, .int .i64 b] w fun e w' => e = .returned (.tuple #[.int .i64 (fit (a + b)).1, .int .i64 (fit (a + b)).2]) ∧ Below w.heap.size w w' := by
  have OA := AsideA.mk (of_any a ha)
  have OB := AsideA.mk (of_any b hb)
  have TG := AsideA.mk (ref_Together (decide (a < 0), a.natAbs) (decide (b < 0), b.natAbs) (by have := abs64 ha; have := abs64 hb; simp only; omega))
  have V : sval (tg (decide (a < 0), a.natAbs) (decide (b < 0), b.natAbs)).1 (tg (decide (a < 0), a.natAbs) (decide (b < 0), b.natAbs)).2 = a + b := by rw [tg_val, sval_of, sval_of]
  have L := tg_le (decide (a < 0), a.natAbs) (decide (b < 0), b.natAbs)
  simp only at L TG
  generalize htg : tg (decide (a < 0), a.natAbs) (decide (b < 0), b.natAbs) = c at *
  have NU := AsideA.mk (ref_Num c.1 c.2 (by have := abs64 ha; have := abs64 hb; omega))
  rw [V] at NU
  clear V L ha hb htg
  generalize decide (a < 0) = sa at *
  generalize decide (b < 0) = sb at *
  generalize a.natAbs = na at *
  generalize b.natAbs = nb at *
  generalize fit (a + b) = r at *
  have BB := AsideA.mk (Below.refl w.heap.size w)
  go_enter Try.func15, Try.ntmps15
  go_wp2_with (first | (go_at_call 49; (first | ((with_reducible refine (OA.out _).mono ?_); clear OA) | (with_reducible refine (OB.out _).mono ?_)); rintro e wq ⟨rfl, hq⟩; have BN := AsideA.mk (below_call BB.out hq); clear hq BB; have BB := BN; clear BN) | (go_at_call 48; refine (TG.out _).mono ?_; rintro e wq ⟨rfl, hq⟩; have BN := AsideA.mk (below_call BB.out hq); clear hq BB; have BB := BN; clear BN) | (go_at_call 47; refine (NU.out _).mono ?_; rintro e wq ⟨rfl, hq⟩; have BN := AsideA.mk (below_call BB.out hq); clear hq BB; have BB := BN; clear BN))
  go_ret2
  exact ⟨rfl, BB.out⟩

theorem natAbs_mul_bound {a b : Int} (ha : in64 a) (hb : in64 b) : a.natAbs * b.natAbs < 2 ^ 192 := by
  have h := Nat.mul_le_mul (abs64 ha) (abs64 hb)
  exact Nat.lt_of_le_of_lt h (by decide)

set_option maxHeartbeats 2000000 in
set_option maxRecDepth 100000 in
theorem mul_any (a b : Int) (ha : in64 a) (hb : in64 b) (w : World) : Calls Try.prog 20 #[.int .i64 a, .int .i64 b] w fun e w' => e = .returned (.tuple #[.int .i64 (fit (a * b)).1, .int .i64 (fit (a * b)).2]) ∧ Below w.heap.size w w' := by
  have OA := AsideA.mk (of_any a ha)
  have OB := AsideA.mk (of_any b hb)
  have TG := AsideA.mk (ref_Times (decide (a < 0)) (decide (b < 0)) a.natAbs b.natAbs)
  rw [Nat.mod_eq_of_lt (show b.natAbs < 2 ^ 64 by have := abs64 hb; omega)] at TG
  have NU := AsideA.mk (ref_Num (!(decide (a < 0) == decide (b < 0))) (a.natAbs * b.natAbs) (natAbs_mul_bound ha hb))
  rw [sval_mul] at NU
  clear ha hb
  generalize decide (a < 0) = sa at *
  generalize decide (b < 0) = sb at *
  generalize a.natAbs * b.natAbs = nc at *
  generalize a.natAbs = na at *
  generalize b.natAbs = nb at *
  generalize fit (a * b) = r at *
  have BB := AsideA.mk (Below.refl w.heap.size w)
  go_enter Try.func20, Try.ntmps20
  go_wp2_with (first | (go_at_call 49; (first | ((with_reducible refine (OA.out _).mono ?_); clear OA) | (with_reducible refine (OB.out _).mono ?_)); rintro e wq ⟨rfl, hq⟩; have BN := AsideA.mk (below_call BB.out hq); clear hq BB; have BB := BN; clear BN) | (go_at_call 51; refine (TG.out _).mono ?_; rintro e wq ⟨rfl, hq⟩; have BN := AsideA.mk (below_call BB.out hq); clear hq BB; have BB := BN; clear BN) | (go_at_call 47; refine (NU.out _).mono ?_; rintro e wq ⟨rfl, hq⟩; have BN := AsideA.mk (below_call BB.out hq); clear hq BB; have BB := BN; clear BN))
  go_ret2
  exact ⟨rfl, BB.out⟩

theorem wh_flip (b s : Bool) (n : Nat) : (wh s n).setIfInBounds 0 (.bool b) = wh b n := by
  unfold wh
  apply Array.ext'
  simp

set_option maxHeartbeats 2000000 in
set_option maxRecDepth 100000 in
theorem sub_any (a b : Int) (ha : in64 a) (hb : in64 b) (w : World) : Calls Try.prog 18 #[.int .i64 a, .int .i64 b] w fun e w' => e = .returned (.tuple #[.int .i64 (fit (a - b)).1, .int .i64 (fit (a - b)).2]) ∧ Below w.heap.size w w' := by
  have OA := AsideA.mk (of_any a ha)
  have OB := AsideA.mk (of_any b hb)
  have TG := AsideA.mk (ref_Together (decide (a < 0), a.natAbs) (!decide (b < 0), b.natAbs) (by have := abs64 ha; have := abs64 hb; simp only; omega))
  have V : sval (tg (decide (a < 0), a.natAbs) (!decide (b < 0), b.natAbs)).1 (tg (decide (a < 0), a.natAbs) (!decide (b < 0), b.natAbs)).2 = a - b := by rw [tg_val, sval_of, sval_neg]; omega
  have L := tg_le (decide (a < 0), a.natAbs) (!decide (b < 0), b.natAbs)
  simp only at L TG
  generalize htg : tg (decide (a < 0), a.natAbs) (!decide (b < 0), b.natAbs) = c at *
  have NU := AsideA.mk (ref_Num c.1 c.2 (by have := abs64 ha; have := abs64 hb; omega))
  rw [V] at NU
  clear V L ha hb htg
  generalize decide (a < 0) = sa at *
  generalize decide (b < 0) = sb at *
  generalize a.natAbs = na at *
  generalize b.natAbs = nb at *
  generalize fit (a - b) = r at *
  go_enter Try.func18, Try.ntmps18
  go_wp2_with (first | (go_at_call 49; refine (OB.out _).mono ?_; rintro e w1 ⟨rfl, hq1⟩) | (refine alloc_new 59 rfl rfl _ zero59 (wh false 0) rfl ?_; intro g6 w6 N6) | (refine store_at 59 (.tmp 6) (.tmp 8) rfl rfl g6 0 rfl (wh sb nb) rfl (wh false 0) 59 N6.blk (size59 _ _) (by rw [wh_size, wh_size]; exact Nat.le_refl _) (wh_one _ _) _ (splice_all _ _ (by rw [wh_size, wh_size])) ?_; intro w7 hb7 u7; have x6 : w7.cell? ⟨g6, 0, none⟩ = some (.bool sb) := (blk_cell hb7 0).trans (wh_zero _ _); have f6 := blk_frozen hb7 0))
  have B6 : AsideA ((w7.setCell ⟨g6, 0, none⟩ (.bool (!sb))).heap[g6]? = some (.cells (wh (!sb) nb) 59 (0, 0)) ∧ Below w.heap.size w (w7.setCell ⟨g6, 0, none⟩ (.bool (!sb)))) := by
    have ge := N6.ge hq1
    exact ⟨(blk_set hb7 0 _).trans (by rw [wh_flip]), below_set (u7.below (below_new hq1 N6) ge) ge⟩
  clear hq1 N6 hb7 u7 x6 f6 OB
  generalize w7.setCell ⟨g6, 0, none⟩ (.bool (!sb)) = w8 at *
  refine region_fin follows [13, 14, 15, 16, 17, 18, 19, 4, 5] [(13, .int .i64 a), (14, .agg (wh sa na)), (15, .agg (wh (!sb) nb)), (16, .agg (wh c.1 c.2)), (17, .tuple #[.int .i64 r.1, .int .i64 r.2]), (18, .int .i64 r.1), (19, .int .i64 r.2), (4, .int .i64 r.1), (5, .int .i64 r.2)] rfl _ (by simp only [actPuts]; go_simp; rfl) 20 rfl (by kernel_rfl)
    (fun wr => wr.heap[g6]? = some (.cells (wh (!sb) nb) 59 (0, 0)) ∧ Below w.heap.size w wr) (fun wr => wr.heap[g6]? = some (.cells (wh (!sb) nb) 59 (0, 0)) ∧ Below w.heap.size w wr) ⟨B6.out.1, B6.out.2.drew⟩ ?_ ?_
  · refine ⟨?_, ?_, ?_, ?_, ?_, ?_, ?_, ?_, ?_⟩
    · intro wr h
      exact op_val (v := .int .i64 a) (w' := wr) (by go_simp) rfl rfl h
    · intro wr h
      exact op_call (f := 49) (args := #[.int .i64 a]) (by go_simp) rfl rfl ((OA.out wr).mono fun e w' ⟨he, hb⟩ => ⟨he, blk_below h.1 hb, below_call h.2 hb⟩)
    · intro wr h
      exact op_val (run_load_at 59 _ rfl g6 0 rfl (wh (!sb) nb) _ Try.underlying59 rfl (size59 _ _) (blk_at0 h.1)) rfl rfl h
    · intro wr h
      exact op_call (f := 48) (args := #[.agg (wh sa na), .agg (wh (!sb) nb)]) (by go_simp) rfl rfl ((TG.out wr).mono fun e w' ⟨he, hb⟩ => ⟨he, blk_below h.1 hb, below_call h.2 hb⟩)
    · intro wr h
      exact op_call (f := 47) (args := #[.agg (wh c.1 c.2)]) (by go_simp) rfl rfl ((NU.out wr).mono fun e w' ⟨he, hb⟩ => ⟨he, blk_below h.1 hb, below_call h.2 hb⟩)
    · intro wr h
      exact op_val (v := .int .i64 r.1) (w' := wr) (by go_simp) rfl rfl h
    · intro wr h
      exact op_val (v := .int .i64 r.2) (w' := wr) (by go_simp) rfl rfl h
    · intro wr h
      exact op_val (v := .int .i64 r.1) (w' := wr) (by go_simp) rfl rfl h
    · intro wr h
      exact op_val (v := .int .i64 r.2) (w' := wr) (by go_simp) rfl rfl h
  · rintro wz ⟨hz, hbz⟩
    have BZ := AsideA.mk hbz
    clear hbz hz B6
    go_wp2
    go_ret2
    exact ⟨rfl, BZ.out⟩
end Go.Proofs.Ytbeiphfmdmccmaa.A
