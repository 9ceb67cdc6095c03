/-
  The reference's numbers: the contracts of Together, as one, and of Times (countinghouseref01).
-/
import Derived.Test.YtbeiphfmdmccmaaR4
namespace Go.Proofs.Ytbeiphfmdmccmaa.A
set_option linter.unusedVariables false
set_option linter.unusedSimpArgs false
open Go.RowKit

/-- the sum of two numbers with signs -/
def tg (a b : Bool × Nat) : Bool × Nat := if a.1 = b.1 then (a.1, a.2 + b.2) else if a.2 < b.2 then (b.1, b.2 - a.2) else (a.1, a.2 - b.2)
theorem tg_val (a b : Bool × Nat) : sval (tg a b).1 (tg a b).2 = sval a.1 a.2 + sval b.1 b.2 := by
  obtain ⟨s, m⟩ := a
  obtain ⟨t, n⟩ := b
  unfold tg sval
  cases s <;> cases t <;> simp <;> first | omega | (split <;> simp <;> omega) | (split <;> omega)
theorem tg_le (a b : Bool × Nat) : (tg a b).2 ≤ a.2 + b.2 := by
  unfold tg
  split
  · exact Nat.le_refl _
  · split <;> simp <;> omega

theorem ref_Together (a b : Bool × Nat) (h : a.2 + b.2 < 2 ^ 192) (w : World) : Calls Try.prog 48 #[.agg (wh a.1 a.2), .agg (wh b.1 b.2)] w fun e w' => e = .returned (.agg (wh (tg a b).1 (tg a b).2)) ∧ Below w.heap.size w w' := by
  obtain ⟨s, m⟩ := a
  obtain ⟨t, n⟩ := b
  simp only at h ⊢
  by_cases hst : s = t
  · subst hst
    rw [show tg (s, m) (s, n) = (s, m + n) by simp [tg]]
    exact tog_same s m n w
  · obtain rfl : t = !s := by cases s <;> cases t <;> simp_all
    by_cases hlt : m < n
    · rw [show tg (s, m) (!s, n) = (!s, n - m) by simp [tg, hlt]]
      have := tog_less s m (n - m) (by omega) (by omega) w
      rw [show m + (n - m) = n by omega] at this
      exact this
    · rw [show tg (s, m) (!s, n) = (s, m - n) by simp [tg, hlt]]
      have := tog_more s n (m - n) (by omega) w
      rw [show n + (m - n) = m by omega] at this
      exact this

structure TimInv (w wr : World) (g2 g3 g4 g5 : Nat) (c2 c3 c4 c5 : Array Value) : Prop where
  b2 : wr.heap[g2]? = some (.cells c2 59 (0, 0))
  b3 : wr.heap[g3]? = some (.cells c3 59 (0, 0))
  b4 : wr.heap[g4]? = some (.cells c4 59 (0, 0))
  b5 : wr.heap[g5]? = some (.cells c5 59 (0, 0))
  n2 : g2 ≠ g5
  n3 : g3 ≠ g5
  n4 : g4 ≠ g5
  ge4 : w.heap.size ≤ g4
  ge5 : w.heap.size ≤ g5
  below : Below w.heap.size w wr
theorem TimInv.later {w wr wz : World} {g2 g3 g4 g5 : Nat} {c2 c3 c4 c5 : Array Value} (I : TimInv w wr g2 g3 g4 g5 c2 c3 c4 c5) (h : Below wr.heap.size wr wz) : TimInv w wz g2 g3 g4 g5 c2 c3 c4 c5 :=
  ⟨blk_below I.b2 h, blk_below I.b3 h, blk_below I.b4 h, blk_below I.b5 h, I.n2, I.n3, I.n4, I.ge4, I.ge5, below_call I.below h⟩
theorem TimInv.drew {w wr : World} {g2 g3 g4 g5 : Nat} {c2 c3 c4 c5 : Array Value} (I : TimInv w wr g2 g3 g4 g5 c2 c3 c4 c5) : TimInv w wr.drew g2 g3 g4 g5 c2 c3 c4 c5 :=
  ⟨I.b2, I.b3, I.b4, I.b5, I.n2, I.n3, I.n4, I.ge4, I.ge5, I.below.drew⟩
theorem TimInv.upd {w wr wz : World} {g2 g3 g4 g5 : Nat} {c2 c3 c4 c5 c5' : Array Value} (I : TimInv w wr g2 g3 g4 g5 c2 c3 c4 c5) (hb : wz.heap[g5]? = some (.cells c5' 59 (0, 0))) (hu : Upd wr wz g5) : TimInv w wz g2 g3 g4 g5 c2 c3 c4 c5' :=
  ⟨blk_upd hu I.b2 I.n2, blk_upd hu I.b3 I.n3, blk_upd hu I.b4 I.n4, hb, I.n2, I.n3, I.n4, I.ge4, I.ge5, hu.below I.below I.ge5⟩
theorem TimInv.new {w w2 w3 w4 w5 : World} {g2 g3 g4 g5 : Nat} {c2 c3 c4 c5 : Array Value} (N2 : New w w2 g2 c2 59) (N3 : New w2 w3 g3 c3 59) (N4 : New w3 w4 g4 c4 59) (N5 : New w4 w5 g5 c5 59) : TimInv w w5 g2 g3 g4 g5 c2 c3 c4 c5 := by
  have T := TogInv.new N2 N3 N4
  exact ⟨blk_below T.b2 N5.below, blk_below T.b3 N5.below, blk_below T.b4 N5.below, N5.blk, N5.ne T.b2, N5.ne T.b3, N5.ne T.b4, T.ge4, N5.ge T.below, below_new T.below N5⟩

theorem mul_bit (m n k : Nat) : m * (n % 2 ^ (k + 1)) = m * (n % 2 ^ k) + (if n.testBit k then m <<< k else 0) := by
  rw [mod_pow_succ', Nat.mul_add]
  cases n.testBit k
  · simp
  · simp [Nat.shiftLeft_eq]

set_option maxHeartbeats 2000000 in
set_option maxRecDepth 100000 in
theorem ref_Times (s t : Bool) (m n : Nat) (w : World) : Calls Try.prog 51 #[.agg (wh s m), .agg (wh t n)] w fun e w' => e = .returned (.agg (wh (!(s == t)) (m * (n % 2 ^ 64)))) ∧ Below w.heap.size w w' := by
  go_enter Try.func51, Try.ntmps51
  go_wp2_with (first | (refine box_new 59 (.tmp 0) rfl rfl _ rfl (wh s m) rfl ?_; intro g2 w2 N2) | (refine box_new 59 (.tmp 1) rfl rfl _ rfl (wh t n) rfl ?_; intro g3 w3 N3) | ((with_reducible refine gate (N := 4) rfl ?_); refine alloc_new 59 rfl rfl _ zero59 (wh false 0) rfl ?_; intro g4 w4 N4; have x2 : w4.cell? ⟨g2, 0, none⟩ = some (.bool s) := (blk_cell (TogInv.new N2 N3 N4).b2 0).trans (wh_zero s m); have x3 : w4.cell? ⟨g3, 0, none⟩ = some (.bool t) := (blk_cell (TogInv.new N2 N3 N4).b3 0).trans (wh_zero t n)) | (refine alloc_new 59 rfl rfl _ zero59 (wh false 0) rfl ?_; intro g5 w5 N5) | (refine store_at 59 (.tmp 5) (.tmp 12) rfl rfl g5 0 rfl _ rfl (wh false 0) 59 N5.blk (zc59_size _) (zc59_le _ _) (zc59_one _) _ (zc59_splice _ _) ?_; intro w6 hb6 u6))
  have I0 := (TimInv.new N2 N3 N4 N5).upd hb6 u6
  clear N2 N3 N4 N5 hb6 u6 x2 x3
  generalize hst : (!(s == t)) = st at I0 ⊢
  have HS := AsideA.mk hst
  clear hst
  go_loopw [6] (fun i wr => ∃ k : Nat, k ≤ 64 ∧ i = .int .i64 k ∧ TimInv w wr g2 g3 g4 g5 (wh s m) (wh t n) (wh false 0) (wh st (m * (n % 2 ^ k)))) (fun i _ => 64 - (intOf i).toNat)
  case atStart => exact ⟨0, by omega, rfl, by rw [Nat.pow_zero, Nat.mod_one, Nat.mul_zero]; exact I0⟩
  case round =>
    obtain ⟨k, hk, rfl, I⟩ := hrel
    clear I0
    by_cases hlt : k < 64
    · have x3 : wr.cell? ⟨g3, 1 + k, none⟩ = some (.bool (n.testBit k)) := (blk_cell I.b3 _).trans (wh_get t n (by omega))
      have M := AsideA.mk (mul_bit m n k)
      cases hb : n.testBit k
      · rw [hb] at x3 M
        have I' := AsideA.mk I
        clear I hb
        go_wp2
        exact ⟨⟨k + 1, by omega, by go_num, by have := M.out; simp only [Bool.false_eq_true, if_false, Nat.add_zero] at this; rw [this]; exact I'.out⟩, by simp [intOf]; omega⟩
      · rw [hb] at x3 M
        have I' := AsideA.mk I
        clear I hb
        go_wp2
        generalize hp : m * (n % 2 ^ k) = p at *
        refine region_fin follows [21, 22, 23, 24, 25, 26, 27, 28] [(21, .pointer (some ⟨g5, 1, none⟩)), (22, .agg (bv p)), (23, .pointer (some ⟨g2, 1, none⟩)), (24, .agg (bv m)), (25, .int .i64 k), (26, .agg (bv (m <<< k))), (27, .agg (bv (p + m <<< k))), (28, .pointer (some ⟨g5, 1, none⟩))] rfl _ (by simp only [actPuts]; go_simp; rfl) 30 rfl (by kernel_rfl)
          (fun wr => TimInv w wr g2 g3 g4 g5 (wh s m) (wh t n) (wh false 0) (wh st p)) (fun wr => TimInv w wr g2 g3 g4 g5 (wh s m) (wh t n) (wh false 0) (wh st (p + m <<< k))) I'.out.drew ?_ ?_
        · refine ⟨?_, ?_, ?_, ?_, ?_, ?_, ?_, ?_, ?_⟩
          · intro wr h
            exact op_val (v := .pointer (some ⟨g5, 1, none⟩)) (w' := wr) (by go_simp) rfl rfl h
          · intro wr h
            exact op_val (run_load_at 57 _ rfl g5 1 rfl (bv p) _ Try.underlying57 rfl (size57 _) (at1 h.b5)) rfl rfl h
          · intro wr h
            exact op_val (v := .pointer (some ⟨g2, 1, none⟩)) (w' := wr) (by go_simp) rfl rfl h
          · intro wr h
            exact op_val (run_load_at 57 _ rfl g2 1 rfl (bv m) _ Try.underlying57 rfl (size57 _) (at1 h.b2)) rfl rfl h
          · intro wr h
            exact op_val (v := .int .i64 k) (w' := wr) (by go_simp) rfl rfl h
          · intro wr h
            exact op_call (f := 64) (args := #[.agg (bv m), .int .i64 k]) (by go_simp) rfl rfl ((ref_Shifted m k (by omega) wr).mono fun e w' ⟨he, hb⟩ => ⟨he, h.later hb⟩)
          · intro wr h
            exact op_call (f := 62) (args := #[.agg (bv p), .agg (bv (m <<< k))]) (by go_simp) rfl rfl ((ref_Plus p (m <<< k) wr).mono fun e w' ⟨he, hb⟩ => ⟨he, h.later hb⟩)
          · intro wr h
            exact op_val (v := .pointer (some ⟨g5, 1, none⟩)) (w' := wr) (by go_simp) rfl rfl h
          · intro wr h
            exact op_store 57 (.tmp 28) (.tmp 27) rfl rfl g5 1 rfl (bv (p + m <<< k)) rfl (wh st p) 59 h.b5 (size57 _) (by rw [wh_size, bv_size]; omega) (bv_one _) _ (wh_lay _ _ _)
              fun w1 hb hu => h.upd hb hu
        · intro wz hz
          have Z := AsideA.mk hz
          clear hz I'
          go_wp2
          exact ⟨⟨k + 1, by omega, by go_num, by have := M.out; simp only [if_true] at this; rw [this]; exact Z.out⟩, by simp [intOf]; omega⟩
    · obtain rfl : k = 64 := by omega
      have B5 := AsideA.mk I.b5
      have B4 := AsideA.mk I.b4
      have UB := AsideA.mk (fun (wz : World) (uz : Upd wr wz g4) => uz.below I.below I.ge4)
      clear I
      generalize hp : m * (n % 2 ^ 64) = p at B5
      have HP := AsideA.mk hp
      clear hp
      go_wp2_with (first | (refine load_at 59 (.tmp 5) rfl rfl g5 0 rfl (wh st p) _ Try.underlying59 rfl (size59 _ _) (blk_at0 B5.out) ?_) | (refine store_at 59 (.tmp 4) (.tmp 29) rfl rfl g4 0 rfl (wh st p) rfl (wh false 0) 59 B4.out (size59 _ _) (by rw [wh_size, wh_size]; exact Nat.le_refl _) (wh_one _ _) _ (splice_all _ _ (by rw [wh_size, wh_size])) ?_; intro wz hz uz))
      refine bodyPost_ret (v := .agg (wh st p)) ?_ rfl ⟨by rw [HS.out, HP.out], UB.out _ uz⟩
      exact results_at rfl _ _ g4 59 _ _ rfl hz Try.underlying59 rfl (size59 _ _)
end Go.Proofs.Ytbeiphfmdmccmaa.A
