/-
  The reference's numbers: the contract of Divided (countinghouseref01).
-/
import Derived.Test.YtbeiphfmdmccmaaR5
import Derived.Test.YtbeiphfmdmccmaaReg3
import Derived.Deep.CutBlock
import Derived.Deep.DeepCutAuto
namespace Go.Proofs.Ytbeiphfmdmccmaa.A
set_option linter.unusedVariables false
set_option linter.unusedSimpArgs false
open Go.RowKit

structure DivInv (w wr : World) (g2 g3 g4 g5 g6 g7 : Nat) (c2 c3 c4 c5 c6 c7 : Array Value) : Prop where
  b2 : wr.heap[g2]? = some (.cells c2 57 (0, 0))
  b3 : wr.heap[g3]? = some (.cells c3 57 (0, 0))
  b4 : wr.heap[g4]? = some (.cells c4 57 (0, 0))
  b5 : wr.heap[g5]? = some (.cells c5 57 (0, 0))
  b6 : wr.heap[g6]? = some (.cells c6 57 (0, 0))
  b7 : wr.heap[g7]? = some (.cells c7 57 (0, 0))
  lt : g2 < g3 ∧ g3 < g4 ∧ g4 < g5 ∧ g5 < g6 ∧ g6 < g7 ∧ w.heap.size ≤ g2
  below : Below w.heap.size w wr
section
variable {w wr wz : World} {g2 g3 g4 g5 g6 g7 : Nat} {c2 c3 c4 c5 c6 c7 : Array Value}
theorem DivInv.later (I : DivInv w wr g2 g3 g4 g5 g6 g7 c2 c3 c4 c5 c6 c7) (h : Below wr.heap.size wr wz) : DivInv w wz g2 g3 g4 g5 g6 g7 c2 c3 c4 c5 c6 c7 :=
  ⟨blk_below I.b2 h, blk_below I.b3 h, blk_below I.b4 h, blk_below I.b5 h, blk_below I.b6 h, blk_below I.b7 h, I.lt, below_call I.below h⟩
theorem DivInv.drew (I : DivInv w wr g2 g3 g4 g5 g6 g7 c2 c3 c4 c5 c6 c7) : DivInv w wr.drew g2 g3 g4 g5 g6 g7 c2 c3 c4 c5 c6 c7 :=
  ⟨I.b2, I.b3, I.b4, I.b5, I.b6, I.b7, I.lt, I.below.drew⟩
theorem DivInv.upd7 {c : Array Value} (I : DivInv w wr g2 g3 g4 g5 g6 g7 c2 c3 c4 c5 c6 c7) (hb : wz.heap[g7]? = some (.cells c 57 (0, 0))) (hu : Upd wr wz g7) : DivInv w wz g2 g3 g4 g5 g6 g7 c2 c3 c4 c5 c6 c := by
  have := I.lt
  exact ⟨blk_upd hu I.b2 (by omega), blk_upd hu I.b3 (by omega), blk_upd hu I.b4 (by omega), blk_upd hu I.b5 (by omega), blk_upd hu I.b6 (by omega), hb, I.lt, hu.below I.below (by omega)⟩
theorem DivInv.upd6 {c : Array Value} (I : DivInv w wr g2 g3 g4 g5 g6 g7 c2 c3 c4 c5 c6 c7) (hb : wz.heap[g6]? = some (.cells c 57 (0, 0))) (hu : Upd wr wz g6) : DivInv w wz g2 g3 g4 g5 g6 g7 c2 c3 c4 c5 c c7 := by
  have := I.lt
  exact ⟨blk_upd hu I.b2 (by omega), blk_upd hu I.b3 (by omega), blk_upd hu I.b4 (by omega), blk_upd hu I.b5 (by omega), hb, blk_upd hu I.b7 (by omega), I.lt, hu.below I.below (by omega)⟩
theorem DivInv.upd4 {c : Array Value} (I : DivInv w wr g2 g3 g4 g5 g6 g7 c2 c3 c4 c5 c6 c7) (hb : wz.heap[g4]? = some (.cells c 57 (0, 0))) (hu : Upd wr wz g4) : DivInv w wz g2 g3 g4 g5 g6 g7 c2 c3 c c5 c6 c7 := by
  have := I.lt
  exact ⟨blk_upd hu I.b2 (by omega), blk_upd hu I.b3 (by omega), hb, blk_upd hu I.b5 (by omega), blk_upd hu I.b6 (by omega), blk_upd hu I.b7 (by omega), I.lt, hu.below I.below (by omega)⟩
theorem DivInv.upd5 {c : Array Value} (I : DivInv w wr g2 g3 g4 g5 g6 g7 c2 c3 c4 c5 c6 c7) (hb : wz.heap[g5]? = some (.cells c 57 (0, 0))) (hu : Upd wr wz g5) : DivInv w wz g2 g3 g4 g5 g6 g7 c2 c3 c4 c c6 c7 := by
  have := I.lt
  exact ⟨blk_upd hu I.b2 (by omega), blk_upd hu I.b3 (by omega), blk_upd hu I.b4 (by omega), hb, blk_upd hu I.b6 (by omega), blk_upd hu I.b7 (by omega), I.lt, hu.below I.below (by omega)⟩
theorem DivInv.set7 {c : Array Value} (I : DivInv w wr g2 g3 g4 g5 g6 g7 c2 c3 c4 c5 c6 c7) (k : Nat) (v : Value) (h : c7.setIfInBounds k v = c) : DivInv w (wr.setCell ⟨g7, k, none⟩ v) g2 g3 g4 g5 g6 g7 c2 c3 c4 c5 c6 c :=
  I.upd7 (h ▸ blk_set I.b7 k v) (Upd.setCell _ _ _ _)
theorem DivInv.set6 {c : Array Value} (I : DivInv w wr g2 g3 g4 g5 g6 g7 c2 c3 c4 c5 c6 c7) (k : Nat) (v : Value) (h : c6.setIfInBounds k v = c) : DivInv w (wr.setCell ⟨g6, k, none⟩ v) g2 g3 g4 g5 g6 g7 c2 c3 c4 c5 c c7 :=
  I.upd6 (h ▸ blk_set I.b6 k v) (Upd.setCell _ _ _ _)
theorem DivInv.new {w2 w3 w4 w5 w6 w7 : World} (N2 : New w w2 g2 c2 57) (N3 : New w2 w3 g3 c3 57) (N4 : New w3 w4 g4 c4 57) (N5 : New w4 w5 g5 c5 57) (N6 : New w5 w6 g6 c6 57) (N7 : New w6 w7 g7 c7 57) : DivInv w w7 g2 g3 g4 g5 g6 g7 c2 c3 c4 c5 c6 c7 := by
  have e3 := N3.below
  have e4 := N4.below
  have e5 := N5.below
  have e6 := N6.below
  have e7 := N7.below
  have d := below_new (below_new (below_new (below_new (below_new (below_new (Below.refl _ _) N2) N3) N4) N5) N6) N7
  refine ⟨blk_below (blk_below (blk_below (blk_below (blk_below N2.blk e3) e4) e5) e6) e7, blk_below (blk_below (blk_below (blk_below N3.blk e4) e5) e6) e7, blk_below (blk_below (blk_below N4.blk e5) e6) e7, blk_below (blk_below N5.blk e6) e7, blk_below N6.blk e7, N7.blk, ?_, d⟩
  have := N2.at_; have := N3.at_; have := N4.at_; have := N5.at_; have := N6.at_; have := N7.at_
  have := N2.size; have := N3.size; have := N4.size; have := N5.size; have := N6.size
  omega
end

theorem none_done {l : Array Bool} (hl : ∀ i, l.getD i false = false) (i : Nat) {p : Prop} : l.getD i false = true → p := fun h => absurd ((hl i).symm.trans h) (by simp)
theorem shl_set0 (m : Nat) (b : Bool) : (bv (m <<< 1)).setIfInBounds 0 (.bool b) = bv (2 * m + b.toNat) := by
  refine bv_set fun i _ => ?_
  cases i with
  | zero => cases b <;> simp [Nat.testBit_zero] <;> omega
  | succ i =>
    rw [if_neg (by omega), Nat.testBit_shiftLeft, Nat.testBit_succ, show (2 * m + b.toNat) / 2 = m by have := bit_le b; omega]
    simp
theorem quo_set (q k : Nat) : (bv (q * 2 ^ (k + 1))).setIfInBounds k (.bool true) = bv ((2 * q + 1) * 2 ^ k) := by
  refine bv_set fun i _ => ?_
  rw [← Nat.shiftLeft_eq, ← Nat.shiftLeft_eq, Nat.testBit_shiftLeft, Nat.testBit_shiftLeft]
  by_cases hki : k = i
  · subst hki
    simp [Nat.testBit_zero]
  · rw [if_neg hki]
    by_cases h1 : k + 1 ≤ i
    · obtain ⟨j, rfl⟩ : ∃ j, i = k + 1 + j := ⟨i - (k + 1), by omega⟩
      rw [show k + 1 + j - (k + 1) = j by omega, show k + 1 + j - k = j + 1 by omega, Nat.testBit_succ, show (2 * q + 1) / 2 = q by omega]
      simp
      omega
    · rw [decide_eq_false (by omega), decide_eq_false (by omega)]
      simp
/-- one step of a division, from the bit above -/
theorem div_step (x y k : Nat) (hy : 0 < y) (L q B : Nat) (hL : (x / 2 ^ (k + 1)) % y = L) (hq : x / 2 ^ (k + 1) / y = q) (hB : 2 * L + (x.testBit k).toNat = B) :
    (y ≤ B → (x / 2 ^ k) % y = B - y ∧ x / 2 ^ k / y = 2 * q + 1) ∧ (B < y → (x / 2 ^ k) % y = B ∧ x / 2 ^ k / y = 2 * q) ∧ B < 2 * y := by
  have e := div_bit x k
  have hb := bit_le (x.testBit k)
  have hLy : L < y := by rw [← hL]; exact Nat.mod_lt _ hy
  have h := Nat.div_add_mod (x / 2 ^ (k + 1)) y
  rw [hL, hq] at h
  have e2 : x / 2 ^ k = y * (2 * q) + B := by rw [e, ← h, ← hB, Nat.mul_add]; rw [show y * (2 * q) = 2 * (y * q) by rw [Nat.mul_left_comm], Nat.add_assoc]
  refine ⟨fun h1 => ?_, fun h1 => ?_, by omega⟩
  · have e3 : x / 2 ^ k = y * (2 * q + 1) + (B - y) := by rw [e2, Nat.mul_add, Nat.mul_one]; omega
    rw [e3]
    exact ⟨by rw [Nat.mul_add_mod, Nat.mod_eq_of_lt (by omega)], by rw [Nat.mul_add_div hy, Nat.div_eq_of_lt (by omega)]⟩
  · rw [e2]
    exact ⟨by rw [Nat.mul_add_mod, Nat.mod_eq_of_lt h1], by rw [Nat.mul_add_div hy, Nat.div_eq_of_lt h1, Nat.add_zero]⟩

set_option maxHeartbeats 4000000 in
set_option maxRecDepth 100000 in
theorem ref_Divided (x y : Nat) (hx : x < 2 ^ 192) (hy : 0 < y) (hy2 : y < 2 ^ 100) (w : World) : Calls Try.prog 67 #[.agg (bv x), .agg (bv y)] w fun e w' => e = .returned (.tuple #[.agg (bv (x / y)), .agg (bv (x % y))]) ∧ Below w.heap.size w w' := by
  have HY := AsideA.mk (show 0 < y ∧ y < 2 ^ 100 from ⟨hy, hy2⟩)
  have S0 : bv 0 = bv (x / 2 ^ 192 % y) ∧ bv 0 = bv (x / 2 ^ 192 / y * 2 ^ 192) := by rw [Nat.div_eq_of_lt hx]; simp
  clear hx hy hy2
  go_enter Try.func67, Try.ntmps67
  go_wp2_with (first | (refine box_new 57 (.tmp 0) rfl rfl _ rfl (bv x) rfl ?_; intro g2 w2 N2) | (refine box_new 57 (.tmp 1) rfl rfl _ rfl (bv y) rfl ?_; intro g3 w3 N3) | ((with_reducible refine gate (N := 4) rfl ?_); refine alloc_new 57 rfl rfl _ zero57 (bv 0) rfl ?_; intro g4 w4 N4) | ((with_reducible refine gate (N := 5) rfl ?_); refine alloc_new 57 rfl rfl _ zero57 (bv 0) rfl ?_; intro g5 w5 N5) | ((with_reducible refine gate (N := 6) rfl ?_); refine alloc_new 57 rfl rfl _ zero57 (bv 0) rfl ?_; intro g6 w6 N6) | ((with_reducible refine gate (N := 7) rfl ?_); refine alloc_new 57 rfl rfl _ zero57 (bv 0) rfl ?_; intro g7 w7 N7))
  have I0 : AsideA (DivInv w w7 g2 g3 g4 g5 g6 g7 (bv x) (bv y) (bv 0) (bv 0) (bv (x / 2 ^ 192 / y * 2 ^ 192)) (bv (x / 2 ^ 192 % y))) := ⟨by have := DivInv.new N2 N3 N4 N5 N6 N7; rw [← S0.1, ← S0.2]; exact this⟩
  clear S0 N2 N3 N4 N5 N6 N7
  go_loopw [8] (fun i wr => ∃ k : Nat, k ≤ 192 ∧ i = .int .i64 ((k : Int) - 1) ∧ AsideA (DivInv w wr g2 g3 g4 g5 g6 g7 (bv x) (bv y) (bv 0) (bv 0) (bv (x / 2 ^ k / y * 2 ^ k)) (bv (x / 2 ^ k % y)))) (fun i _ => (intOf i + 1).toNat)
  case atStart => exact ⟨192, by omega, rfl, I0⟩
  case round =>
    obtain ⟨k, hk, rfl, I⟩ := hrel
    clear I0
    cases k with
    | zero =>
      have I' : AsideA (DivInv w wr g2 g3 g4 g5 g6 g7 (bv x) (bv y) (bv 0) (bv 0) (bv (x / y)) (bv (x % y))) := ⟨by have := I.out; simpa using this⟩
      clear I
      generalize hq : x / y = q at I' ⊢
      generalize hr : x % y = r at I' ⊢
      have HQ := AsideA.mk hq
      have HR := AsideA.mk hr
      clear hq hr
      go_wp2
      refine region_listed follows [28, 29] [(28, .agg (bv q)), (29, .agg (bv r))] rfl _ (by simp only [actPuts]; go_simp; rfl) 30 rfl (by kernel_rfl)
        (fun l wr => ∃ m n, DivInv w wr g2 g3 g4 g5 g6 g7 (bv x) (bv y) (bv m) (bv n) (bv q) (bv r) ∧ (l.getD 2 false = true → m = q) ∧ (l.getD 3 false = true → n = r))
        (fun l hl => ⟨0, 0, I'.out.drew, none_done hl 2, none_done hl 3⟩) ?_ ?_
      · refine ⟨?_, ?_, ?_, ?_, trivial⟩
        · rintro l wr hs h0 hn ⟨m, n, h, h2, h3⟩
          exact op_val (run_load_at 57 _ rfl g6 0 rfl (bv q) _ Try.underlying57 rfl (size57 _) (blk_at0 h.b6)) rfl rfl ⟨m, n, h, by rw [getD_set_ne _ (by omega)]; exact h2, by rw [getD_set_ne _ (by omega)]; exact h3⟩
        · rintro l wr hs h0 hn ⟨m, n, h, h2, h3⟩
          exact op_val (run_load_at 57 _ rfl g7 0 rfl (bv r) _ Try.underlying57 rfl (size57 _) (blk_at0 h.b7)) rfl rfl ⟨m, n, h, by rw [getD_set_ne _ (by omega)]; exact h2, by rw [getD_set_ne _ (by omega)]; exact h3⟩
        · rintro l wr hs h0 hn ⟨m, n, h, h2, h3⟩
          exact op_store 57 (.tmp 4) (.tmp 28) rfl rfl g4 0 rfl (bv q) rfl (bv m) 57 h.b4 (size57 _) (by rw [bv_size, bv_size]; exact Nat.le_refl _) (bv_one _) _ (splice_all _ _ (by rw [bv_size, bv_size]))
            fun w1 hb hu => ⟨q, n, h.upd4 hb hu, fun _ => rfl, by rw [getD_set_ne _ (by omega)]; exact h3⟩
        · rintro l wr hs h0 hn ⟨m, n, h, h2, h3⟩
          exact op_store 57 (.tmp 5) (.tmp 29) rfl rfl g5 0 rfl (bv r) rfl (bv n) 57 h.b5 (size57 _) (by rw [bv_size, bv_size]; exact Nat.le_refl _) (bv_one _) _ (splice_all _ _ (by rw [bv_size, bv_size]))
            fun w1 hb hu => ⟨m, r, h.upd5 hb hu, by rw [getD_set_ne _ (by omega)]; exact h2, fun _ => rfl⟩
      · rintro l wz hl ⟨m, n, h, h2, h3⟩
        obtain rfl := h2 (hl 2 (by decide))
        obtain rfl := h3 (hl 3 (by decide))
        have Z := AsideA.mk h
        clear h I' h2 h3 hl
        go_wp2
        refine bodyPost_ret (v := .tuple #[.agg (bv m), .agg (bv n)]) ?_ rfl ⟨by rw [HQ.out, HR.out], Z.out.below⟩
        exact results_two_at rfl _ _ g4 g5 57 _ _ _ rfl rfl Z.out.b4 Z.out.b5 Try.underlying57 rfl (size57 _) (size57 _)
    | succ k =>
      have hlt : k < 192 := by omega
      have e1 : ((k + 1 : Nat) : Int) - 1 = k := by omega
      rw [e1]
      clear e1
      generalize hL : x / 2 ^ (k + 1) % y = L at I
      generalize hQ : x / 2 ^ (k + 1) / y = q at I
      generalize hB : 2 * L + (x.testBit k).toNat = B
      have D := AsideA.mk (div_step x y k HY.out.1 L q B hL hQ hB)
      have hB' := AsideA.mk hB
      clear hL hQ hB
      have GR := AsideA.mk (ref_Greater y B (by have := HY.out.2; omega) (by have := HY.out.2; have := D.out.2.2; omega))
      by_cases hyB : y ≤ B
      · rw [show decide (B < y) = false from decide_eq_false (by omega)] at GR
        have HLs := AsideA.mk (ref_Less (B - y) y)
        rw [show y + (B - y) = B by omega] at HLs
        have FIN : AsideA (bv (x / 2 ^ k / y * 2 ^ k) = bv ((2 * q + 1) * 2 ^ k) ∧ bv (x / 2 ^ k % y) = bv (B - y)) := ⟨by rw [(D.out.1 hyB).1, (D.out.1 hyB).2]; exact ⟨rfl, rfl⟩⟩
        clear hyB D
        have J := I
        clear I
        go_upto_region 7 with (first | (refine load_at 57 (.tmp 7) rfl rfl g7 0 rfl (bv L) _ Try.underlying57 rfl (size57 _) (blk_at0 J.out.b7) ?_) | (go_at_call 64; refine (ref_Shifted L 1 (by omega) _).mono ?_; rintro e wq ⟨rfl, hbq⟩; have J1 := AsideA.mk (J.out.later hbq); clear hbq J) | (refine store_at 57 (.tmp 7) (.tmp 14) rfl rfl g7 0 rfl (bv (L <<< 1)) rfl (bv L) 57 J1.out.b7 (size57 _) (by rw [bv_size, bv_size]; exact Nat.le_refl _) (bv_one _) _ (splice_all _ _ (by rw [bv_size, bv_size])) ?_; intro wp hbp hup; have J2 := AsideA.mk (J1.out.upd7 hbp hup); clear hbp hup J1; have x2 : wp.cell? ⟨g2, k, none⟩ = some (.bool (x.testBit k)) := (blk_cell J2.out.b2 k).trans (bv_get x hlt); have x7 : wp.cell? ⟨g7, 0, none⟩ = some (.bool ((L <<< 1).testBit 0)) := (blk_cell J2.out.b7 0).trans (bv_get _ (by omega)); have f7 := blk_frozen J2.out.b7 0))
        have J3 := AsideA.mk (J2.out.set7 0 _ (shl_set0 L (x.testBit k)))
        rw [hB'.out] at J3
        clear J2 x2 x7 f7
        generalize wp.setCell ⟨g7, 0, none⟩ (.bool (x.testBit k)) = wp3 at *
        go_wp2_with (first | ((with_reducible refine gate (N := 19) rfl ?_); refine load_at 57 (.tmp 3) rfl rfl g3 0 rfl (bv y) _ Try.underlying57 rfl (size57 _) (blk_at0 J3.out.b3) ?_) | ((with_reducible refine gate (N := 20) rfl ?_); refine load_at 57 (.tmp 7) rfl rfl g7 0 rfl (bv B) _ Try.underlying57 rfl (size57 _) (blk_at0 J3.out.b7) ?_) | (go_at_call 61; refine (GR.out _).mono ?_; rintro e wq ⟨rfl, hbq⟩; have J4 := AsideA.mk (J3.out.later hbq); clear hbq J3) | ((with_reducible refine gate (N := 23) rfl ?_); refine load_at 57 (.tmp 7) rfl rfl g7 0 rfl (bv B) _ Try.underlying57 rfl (size57 _) (blk_at0 J4.out.b7) ?_) | ((with_reducible refine gate (N := 24) rfl ?_); refine load_at 57 (.tmp 3) rfl rfl g3 0 rfl (bv y) _ Try.underlying57 rfl (size57 _) (blk_at0 J4.out.b3) ?_) | (go_at_call 63; refine (HLs.out _).mono ?_; rintro e wr5 ⟨rfl, hbq⟩; have J5 := AsideA.mk (J4.out.later hbq); clear hbq J4) | (refine store_at 57 (.tmp 7) (.tmp 25) rfl rfl g7 0 rfl (bv (B - y)) rfl (bv B) 57 J5.out.b7 (size57 _) (by rw [bv_size, bv_size]; exact Nat.le_refl _) (bv_one _) _ (splice_all _ _ (by rw [bv_size, bv_size])) ?_; intro wp6 hbp hup; have J6 := AsideA.mk (J5.out.upd7 hbp hup); clear hbp hup J5; have x6 : wp6.cell? ⟨g6, k, none⟩ = some (.bool ((q * 2 ^ (k + 1)).testBit k)) := (blk_cell J6.out.b6 k).trans (bv_get _ hlt); have f6 := blk_frozen J6.out.b6 k))
        have J7 := AsideA.mk (J6.out.set6 k _ (quo_set q k))
        clear J6 x6 f6
        exact ⟨⟨k, by omega, rfl, ⟨by rw [FIN.out.1, FIN.out.2]; exact J7.out⟩⟩, by simp [intOf]⟩
      · rw [show decide (B < y) = true from decide_eq_true (by omega)] at GR
        have FIN : AsideA (bv (x / 2 ^ k / y * 2 ^ k) = bv (q * 2 ^ (k + 1)) ∧ bv (x / 2 ^ k % y) = bv B) := ⟨by rw [(D.out.2.1 (by omega)).1, (D.out.2.1 (by omega)).2, Nat.pow_succ, Nat.mul_comm 2 q, Nat.mul_assoc, Nat.mul_comm 2]; exact ⟨rfl, rfl⟩⟩
        clear hyB D
        have J := I
        clear I
        go_upto_region 7 with (first | (refine load_at 57 (.tmp 7) rfl rfl g7 0 rfl (bv L) _ Try.underlying57 rfl (size57 _) (blk_at0 J.out.b7) ?_) | (go_at_call 64; refine (ref_Shifted L 1 (by omega) _).mono ?_; rintro e wq ⟨rfl, hbq⟩; have J1 := AsideA.mk (J.out.later hbq); clear hbq J) | (refine store_at 57 (.tmp 7) (.tmp 14) rfl rfl g7 0 rfl (bv (L <<< 1)) rfl (bv L) 57 J1.out.b7 (size57 _) (by rw [bv_size, bv_size]; exact Nat.le_refl _) (bv_one _) _ (splice_all _ _ (by rw [bv_size, bv_size])) ?_; intro wp hbp hup; have J2 := AsideA.mk (J1.out.upd7 hbp hup); clear hbp hup J1; have x2 : wp.cell? ⟨g2, k, none⟩ = some (.bool (x.testBit k)) := (blk_cell J2.out.b2 k).trans (bv_get x hlt); have x7 : wp.cell? ⟨g7, 0, none⟩ = some (.bool ((L <<< 1).testBit 0)) := (blk_cell J2.out.b7 0).trans (bv_get _ (by omega)); have f7 := blk_frozen J2.out.b7 0))
        have J3 := AsideA.mk (J2.out.set7 0 _ (shl_set0 L (x.testBit k)))
        rw [hB'.out] at J3
        clear J2 x2 x7 f7
        generalize wp.setCell ⟨g7, 0, none⟩ (.bool (x.testBit k)) = wp3 at *
        go_wp2_with (first | ((with_reducible refine gate (N := 19) rfl ?_); refine load_at 57 (.tmp 3) rfl rfl g3 0 rfl (bv y) _ Try.underlying57 rfl (size57 _) (blk_at0 J3.out.b3) ?_) | ((with_reducible refine gate (N := 20) rfl ?_); refine load_at 57 (.tmp 7) rfl rfl g7 0 rfl (bv B) _ Try.underlying57 rfl (size57 _) (blk_at0 J3.out.b7) ?_) | (go_at_call 61; refine (GR.out _).mono ?_; rintro e wq ⟨rfl, hbq⟩; have J4 := AsideA.mk (J3.out.later hbq); clear hbq J3))
        exact ⟨⟨k, by omega, rfl, ⟨by rw [FIN.out.1, FIN.out.2]; exact J4.out⟩⟩, by simp [intOf]⟩
end Go.Proofs.Ytbeiphfmdmccmaa.A
