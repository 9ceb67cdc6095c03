/-
  The reference's numbers: the contract of Together (countinghouseref01).
-/
import Derived.Test.YtbeiphfmdmccmaaR3
import Derived.Test.YtbeiphfmdmccmaaReg
namespace Go.Proofs.Ytbeiphfmdmccmaa.A
set_option linter.unusedVariables false
set_option linter.unusedSimpArgs false
open Go.RowKit

theorem built59_fill (parts : List (Nat × Value)) : Try.prog.built 59 parts = Instr.fill ((#[(0, 1), (1, 192)] : Array (Nat × Nat))[·]?) (wh false 0) parts := by kernel_rfl
theorem wh_set0 (b s : Bool) (n : Nat) : splice (wh s n) 0 #[Value.bool b] = wh b n := by
  unfold splice
  unfold wh
  simp
theorem wh_lay (b : Bool) (m n : Nat) : splice (wh b m) 1 (bv n) = wh b n := by
  unfold splice
  unfold wh
  have h1 : ((#[Value.bool b] ++ bv m).toList.take 1) = [Value.bool b] := by simp
  have h2 : ((#[Value.bool b] ++ bv m).toList.drop (1 + (bv n).size)) = [] := List.drop_eq_nil_of_le (by simp [bv_size])
  rw [h1, h2]
  simp
theorem built59 (b : Bool) (n : Nat) : Try.prog.built 59 [(0, .bool b), (1, .agg (bv n))] = some (wh b n) := by
  rw [built59_fill, fill_cons _ _ _ _ _ 0 1 rfl rfl (by rw [wh_size]; omega)]
  rw [show (Value.bool b).cells = #[Value.bool b] from rfl, wh_set0]
  rw [fill_cons _ _ _ (Value.agg (bv n)) _ 1 192 rfl (bv_size n) (by rw [wh_size]; omega)]
  rw [show (Value.agg (bv n)).cells = bv n from rfl, wh_lay]
  rfl

/-- the two arguments' blocks and the result's -/
structure TogInv (w wr : World) (g2 g3 g4 : Nat) (c2 c3 c4 : Array Value) : Prop where
  b2 : wr.heap[g2]? = some (.cells c2 59 (0, 0))
  b3 : wr.heap[g3]? = some (.cells c3 59 (0, 0))
  b4 : wr.heap[g4]? = some (.cells c4 59 (0, 0))
  ge4 : w.heap.size ≤ g4
  below : Below w.heap.size w wr
theorem TogInv.later {w wr wz : World} {g2 g3 g4 : Nat} {c2 c3 c4 : Array Value} (I : TogInv w wr g2 g3 g4 c2 c3 c4) (h : Below wr.heap.size wr wz) : TogInv w wz g2 g3 g4 c2 c3 c4 :=
  ⟨blk_below I.b2 h, blk_below I.b3 h, blk_below I.b4 h, I.ge4, below_call I.below h⟩
theorem TogInv.drew {w wr : World} {g2 g3 g4 : Nat} {c2 c3 c4 : Array Value} (I : TogInv w wr g2 g3 g4 c2 c3 c4) : TogInv w wr.drew g2 g3 g4 c2 c3 c4 :=
  ⟨I.b2, I.b3, I.b4, I.ge4, I.below.drew⟩
theorem TogInv.new {w w2 w3 w4 : World} {g2 g3 g4 : Nat} {c2 c3 c4 : Array Value} (N2 : New w w2 g2 c2 59) (N3 : New w2 w3 g3 c3 59) (N4 : New w3 w4 g4 c4 59) : TogInv w w4 g2 g3 g4 c2 c3 c4 := by
  have e2 := blk_below N2.blk N3.below
  have d2 := below_new (Below.refl _ _) N2
  have d3 := below_new d2 N3
  exact ⟨blk_below e2 N4.below, blk_below N3.blk N4.below, N4.blk, N4.ge d3, below_new d3 N4⟩
theorem at1 {wr : World} {g : Nat} {s : Bool} {n : Nat} (h : wr.heap[g]? = some (.cells (wh s n) 59 (0, 0))) : ∀ j, j < (bv n).size → wr.cell? ⟨g, 1 + j, none⟩ = (bv n)[j]? := fun j hj => (blk_cell h _).trans (wh_bv s n j hj)

theorem follows : Try.prog.follows .mixedOrders = true := by kernel_rfl

set_option maxHeartbeats 2000000 in
set_option maxRecDepth 100000 in
theorem tog_same (s : Bool) (m n : Nat) (w : World) : Calls Try.prog 48 #[.agg (wh s m), .agg (wh s n)] w fun e w' => e = .returned (.agg (wh s (m + n))) ∧ Below w.heap.size w w' := by
  go_enter Try.func48, Try.ntmps48
  go_wp2_with (first | (refine box_new 59 (.tmp 0) rfl rfl _ rfl (wh s m) rfl ?_; intro g2 w2 N2) | (refine box_new 59 (.tmp 1) rfl rfl _ rfl (wh s n) rfl ?_; intro g3 w3 N3; have I0 := AsideA.mk N3) | (refine alloc_new 59 rfl rfl _ zero59 (wh false 0) rfl ?_; intro g4 w4 N4; have I := AsideA.mk (TogInv.new N2 N3 N4); have x2 : w4.cell? ⟨g2, 0, none⟩ = some (.bool s) := (blk_cell I.out.b2 0).trans (wh_zero s m); have x3 : w4.cell? ⟨g3, 0, none⟩ = some (.bool s) := (blk_cell I.out.b3 0).trans (wh_zero s n); clear N2 I0 N3 N4))
  refine region_fin follows [10, 11, 12, 13, 14, 15, 16, 17] [(10, .pointer (some ⟨g2, 0, none⟩)), (11, .bool s), (12, .pointer (some ⟨g2, 1, none⟩)), (13, .agg (bv m)), (14, .pointer (some ⟨g3, 1, none⟩)), (15, .agg (bv n)), (16, .agg (bv (m + n))), (17, .agg (wh s (m + n)))] rfl _ (by simp only [actPuts]; go_simp; rfl) 39 rfl (by kernel_rfl)
    (fun wr => TogInv w wr g2 g3 g4 (wh s m) (wh s n) (wh false 0)) (fun wr => wr.heap[g4]? = some (.cells (wh s (m + n)) 59 (0, 0)) ∧ Below w.heap.size w wr) I.out.drew ?_ ?_
  · refine ⟨?_, ?_, ?_, ?_, ?_, ?_, ?_, ?_, ?_⟩
    · intro wr h
      exact op_val (v := .pointer (some ⟨g2, 0, none⟩)) (w' := wr) (by go_simp) rfl rfl h
    · intro wr h
      have hx := (blk_cell h.b2 0).trans (wh_zero s m)
      exact op_val (v := .bool s) (w' := wr) (by go_simp) rfl rfl h
    · intro wr h
      exact op_val (v := .pointer (some ⟨g2, 1, none⟩)) (w' := wr) (by go_simp) rfl rfl h
    · intro wr h
      exact op_val (run_load_at 57 _ rfl g2 1 rfl (bv m) _ Try.underlying57 rfl (size57 _) (at1 h.b2)) rfl rfl h
    · intro wr h
      exact op_val (v := .pointer (some ⟨g3, 1, none⟩)) (w' := wr) (by go_simp) rfl rfl h
    · intro wr h
      exact op_val (run_load_at 57 _ rfl g3 1 rfl (bv n) _ Try.underlying57 rfl (size57 _) (at1 h.b3)) rfl rfl h
    · intro wr h
      exact op_call (f := 62) (args := #[.agg (bv m), .agg (bv n)]) (by go_simp) rfl rfl ((ref_Plus m n wr).mono fun e w' ⟨he, hb⟩ => ⟨he, h.later hb⟩)
    · intro wr h
      exact op_build 59 _ rfl [(0, .bool s), (1, .agg (bv (m + n)))] (by go_simp) _ (built59 s (m + n)) rfl rfl h
    · intro wr h
      exact op_store 59 (.tmp 4) (.tmp 17) rfl rfl g4 0 rfl (wh s (m + n)) rfl (wh false 0) 59 h.b4 (size59 _ _) (by rw [wh_size, wh_size]; exact Nat.le_refl _) (wh_one _ _) _ (splice_all _ _ (by rw [wh_size, wh_size]))
        fun w1 hb hu => ⟨hb, hu.below h.below h.ge4⟩
  · rintro wz ⟨hz, hbz⟩
    go_wp2
    refine bodyPost_ret (v := .agg (wh s (m + n))) ?_ rfl ⟨rfl, hbz⟩
    exact results_at rfl _ _ g4 59 _ _ rfl hz Try.underlying59 rfl (size59 _ _)

set_option maxHeartbeats 2000000 in
set_option maxRecDepth 100000 in
theorem tog_less (s : Bool) (n d : Nat) (h0 : 0 < d) (hd : n + d < 2 ^ 192) (w : World) : Calls Try.prog 48 #[.agg (wh s n), .agg (wh (!s) (n + d))] w fun e w' => e = .returned (.agg (wh (!s) d)) ∧ Below w.heap.size w w' := by
  have GR := AsideA.mk (ref_Greater (n + d) n (by omega) (by omega))
  rw [show decide (n < (n + d)) = true from by simp <;> omega] at GR
  generalize hs2 : (!s) = s2 at *
  have hne : (s == s2) = false := by subst hs2; cases s <;> rfl
  clear hs2
  go_enter Try.func48, Try.ntmps48
  go_wp2_with (first | (refine box_new 59 (.tmp 0) rfl rfl _ rfl (wh s n) rfl ?_; intro g2 w2 N2) | (refine box_new 59 (.tmp 1) rfl rfl _ rfl (wh s2 (n + d)) rfl ?_; intro g3 w3 N3) | (refine alloc_new 59 rfl rfl _ zero59 (wh false 0) rfl ?_; intro g4 w4 N4; have I := AsideA.mk (TogInv.new N2 N3 N4); have x2 : w4.cell? ⟨g2, 0, none⟩ = some (.bool s) := (blk_cell I.out.b2 0).trans (wh_zero s _); have x3 : w4.cell? ⟨g3, 0, none⟩ = some (.bool s2) := (blk_cell I.out.b3 0).trans (wh_zero s2 _); clear N2 N3 N4) | (refine load_at 57 (.tmp 18) rfl rfl g3 1 rfl (bv (n + d)) _ Try.underlying57 rfl (size57 _) (at1 I.out.b3) ?_) | (refine load_at 57 (.tmp 20) rfl rfl g2 1 rfl (bv n) _ Try.underlying57 rfl (size57 _) (at1 I.out.b2) ?_) | (go_at_call 61; refine (GR.out _).mono ?_; rintro e w5 ⟨rfl, hb5⟩; have I5 := AsideA.mk (I.out.later hb5); clear hb5 I x2 x3))
  refine region_fin follows [23, 24, 25, 26, 27, 28, 29, 30] [(23, .pointer (some ⟨g3, 0, none⟩)), (24, .bool s2), (25, .pointer (some ⟨g3, 1, none⟩)), (26, .agg (bv (n + d))), (27, .pointer (some ⟨g2, 1, none⟩)), (28, .agg (bv n)), (29, .agg (bv d)), (30, .agg (wh s2 d))] rfl _ (by simp only [actPuts]; go_simp; rfl) 39 rfl (by kernel_rfl)
    (fun wr => TogInv w wr g2 g3 g4 (wh s n) (wh s2 (n + d)) (wh false 0)) (fun wr => wr.heap[g4]? = some (.cells (wh s2 d) 59 (0, 0)) ∧ Below w.heap.size w wr) I5.out.drew ?_ ?_
  · refine ⟨?_, ?_, ?_, ?_, ?_, ?_, ?_, ?_, ?_⟩
    · intro wr h
      exact op_val (v := .pointer (some ⟨g3, 0, none⟩)) (w' := wr) (by go_simp) rfl rfl h
    · intro wr h
      have hx := (blk_cell h.b3 0).trans (wh_zero s2 _)
      exact op_val (v := .bool s2) (w' := wr) (by go_simp) rfl rfl h
    · intro wr h
      exact op_val (v := .pointer (some ⟨g3, 1, none⟩)) (w' := wr) (by go_simp) rfl rfl h
    · intro wr h
      exact op_val (run_load_at 57 _ rfl g3 1 rfl (bv (n + d)) _ Try.underlying57 rfl (size57 _) (at1 h.b3)) rfl rfl h
    · intro wr h
      exact op_val (v := .pointer (some ⟨g2, 1, none⟩)) (w' := wr) (by go_simp) rfl rfl h
    · intro wr h
      exact op_val (run_load_at 57 _ rfl g2 1 rfl (bv n) _ Try.underlying57 rfl (size57 _) (at1 h.b2)) rfl rfl h
    · intro wr h
      exact op_call (f := 63) (args := #[.agg (bv (n + d)), .agg (bv n)]) (by go_simp) rfl rfl ((ref_Less d n wr).mono fun e w' ⟨he, hb⟩ => ⟨he, h.later hb⟩)
    · intro wr h
      exact op_build 59 _ rfl [(0, .bool s2), (1, .agg (bv d))] (by go_simp) _ (built59 s2 d) rfl rfl h
    · intro wr h
      exact op_store 59 (.tmp 4) (.tmp 30) rfl rfl g4 0 rfl (wh s2 d) rfl (wh false 0) 59 h.b4 (size59 _ _) (by rw [wh_size, wh_size]; exact Nat.le_refl _) (wh_one _ _) _ (splice_all _ _ (by rw [wh_size, wh_size]))
        fun w1 hb hu => ⟨hb, hu.below h.below h.ge4⟩
  · rintro wz ⟨hz, hbz⟩
    go_wp2
    refine bodyPost_ret (v := .agg (wh s2 d)) ?_ rfl ⟨rfl, hbz⟩
    exact results_at rfl _ _ g4 59 _ _ rfl hz Try.underlying59 rfl (size59 _ _)

set_option maxHeartbeats 2000000 in
set_option maxRecDepth 100000 in
theorem tog_more (s : Bool) (n d : Nat) (hd : n + d < 2 ^ 192) (w : World) : Calls Try.prog 48 #[.agg (wh s (n + d)), .agg (wh (!s) n)] w fun e w' => e = .returned (.agg (wh s d)) ∧ Below w.heap.size w w' := by
  have GR := AsideA.mk (ref_Greater n (n + d) (by omega) (by omega))
  rw [show decide ((n + d) < n) = false from by simp <;> omega] at GR
  generalize hs2 : (!s) = s2 at *
  have hne : (s == s2) = false := by subst hs2; cases s <;> rfl
  clear hs2
  go_enter Try.func48, Try.ntmps48
  go_wp2_with (first | (refine box_new 59 (.tmp 0) rfl rfl _ rfl (wh s (n + d)) rfl ?_; intro g2 w2 N2) | (refine box_new 59 (.tmp 1) rfl rfl _ rfl (wh s2 n) rfl ?_; intro g3 w3 N3) | (refine alloc_new 59 rfl rfl _ zero59 (wh false 0) rfl ?_; intro g4 w4 N4; have I := AsideA.mk (TogInv.new N2 N3 N4); have x2 : w4.cell? ⟨g2, 0, none⟩ = some (.bool s) := (blk_cell I.out.b2 0).trans (wh_zero s _); have x3 : w4.cell? ⟨g3, 0, none⟩ = some (.bool s2) := (blk_cell I.out.b3 0).trans (wh_zero s2 _); clear N2 N3 N4) | (refine load_at 57 (.tmp 18) rfl rfl g3 1 rfl (bv n) _ Try.underlying57 rfl (size57 _) (at1 I.out.b3) ?_) | (refine load_at 57 (.tmp 20) rfl rfl g2 1 rfl (bv (n + d)) _ Try.underlying57 rfl (size57 _) (at1 I.out.b2) ?_) | (go_at_call 61; refine (GR.out _).mono ?_; rintro e w5 ⟨rfl, hb5⟩; have I5 := AsideA.mk (I.out.later hb5); clear hb5 I x2 x3))
  refine region_fin follows [31, 32, 33, 34, 35, 36, 37, 38] [(31, .pointer (some ⟨g2, 0, none⟩)), (32, .bool s), (33, .pointer (some ⟨g2, 1, none⟩)), (34, .agg (bv (n + d))), (35, .pointer (some ⟨g3, 1, none⟩)), (36, .agg (bv n)), (37, .agg (bv d)), (38, .agg (wh s d))] rfl _ (by simp only [actPuts]; go_simp; rfl) 39 rfl (by kernel_rfl)
    (fun wr => TogInv w wr g2 g3 g4 (wh s (n + d)) (wh s2 n) (wh false 0)) (fun wr => wr.heap[g4]? = some (.cells (wh s d) 59 (0, 0)) ∧ Below w.heap.size w wr) I5.out.drew ?_ ?_
  · refine ⟨?_, ?_, ?_, ?_, ?_, ?_, ?_, ?_, ?_⟩
    · intro wr h
      exact op_val (v := .pointer (some ⟨g2, 0, none⟩)) (w' := wr) (by go_simp) rfl rfl h
    · intro wr h
      have hx := (blk_cell h.b2 0).trans (wh_zero s _)
      exact op_val (v := .bool s) (w' := wr) (by go_simp) rfl rfl h
    · intro wr h
      exact op_val (v := .pointer (some ⟨g2, 1, none⟩)) (w' := wr) (by go_simp) rfl rfl h
    · intro wr h
      exact op_val (run_load_at 57 _ rfl g2 1 rfl (bv (n + d)) _ Try.underlying57 rfl (size57 _) (at1 h.b2)) rfl rfl h
    · intro wr h
      exact op_val (v := .pointer (some ⟨g3, 1, none⟩)) (w' := wr) (by go_simp) rfl rfl h
    · intro wr h
      exact op_val (run_load_at 57 _ rfl g3 1 rfl (bv n) _ Try.underlying57 rfl (size57 _) (at1 h.b3)) rfl rfl h
    · intro wr h
      exact op_call (f := 63) (args := #[.agg (bv (n + d)), .agg (bv n)]) (by go_simp) rfl rfl ((ref_Less d n wr).mono fun e w' ⟨he, hb⟩ => ⟨he, h.later hb⟩)
    · intro wr h
      exact op_build 59 _ rfl [(0, .bool s), (1, .agg (bv d))] (by go_simp) _ (built59 s d) rfl rfl h
    · intro wr h
      exact op_store 59 (.tmp 4) (.tmp 38) rfl rfl g4 0 rfl (wh s d) rfl (wh false 0) 59 h.b4 (size59 _ _) (by rw [wh_size, wh_size]; exact Nat.le_refl _) (wh_one _ _) _ (splice_all _ _ (by rw [wh_size, wh_size]))
        fun w1 hb hu => ⟨hb, hu.below h.below h.ge4⟩
  · rintro wz ⟨hz, hbz⟩
    go_wp2
    refine bodyPost_ret (v := .agg (wh s d)) ?_ rfl ⟨rfl, hbz⟩
    exact results_at rfl _ _ g4 59 _ _ rfl hz Try.underlying59 rfl (size59 _ _)
end Go.Proofs.Ytbeiphfmdmccmaa.A
