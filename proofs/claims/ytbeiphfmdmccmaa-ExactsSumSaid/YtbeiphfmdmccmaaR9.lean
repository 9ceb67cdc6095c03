/-
  The reference's by, raised (countinghouseref01).
-/
import Derived.Test.YtbeiphfmdmccmaaR8
namespace Go.Proofs.Ytbeiphfmdmccmaa.A
set_option linter.unusedVariables false
set_option linter.unusedSimpArgs false
open Go.RowKit
theorem zc57 : Try.zeroCells57 = bv 0 := by kernel_rfl
theorem run_neq57z {ρ : Operand → Value} {o : Oper} {x y : Operand} {k : TypeId} {w : World} (ho : o.op = .binOp .neq 57 x y k) {m : Nat} (hx : ρ x = .agg (bv m)) (hy : ρ y = .agg Try.zeroCells57) (hm : m < 2 ^ 192) :
    (execOp ρ o).run Try.prog w = .ok (.value (.bool (!decide (m = 0)))) w := run_neq57 ho hx (zc57 ▸ hy) hm (Nat.pos_of_ne_zero (by simp))
set_option maxHeartbeats 4000000 in
set_option maxRecDepth 100000 in
theorem by_up0 (A N D : Nat) (hA : A ≤ 9223372036854775807) (hN : N ≤ 9223372036854775807) (hD : D ≤ 9223372036854775807) (h0 : 0 < D) (hR : A * N % D = 0) (w : World) :
    Calls Try.prog 55 #[.int .i64 (A : Int), .int .i64 (N : Int), .int .i64 (D : Int), .bool true] w fun e w' => e = .returned (.tuple #[.int .i64 (fit ((A * N / D : Nat) : Int)).1, .int .i64 (fit ((A * N / D : Nat) : Int)).2]) ∧ Below w.heap.size w w' := by
  have OA := AsideA.mk (of_nat A hA)
  have ON := AsideA.mk (of_nat N hN)
  have OD := AsideA.mk (of_nat D hD)
  have TM := AsideA.mk (ref_Times false false A N)
  rw [Nat.mod_eq_of_lt (show N < 2 ^ 64 by omega)] at TM
  have hm : A * N < 2 ^ 192 := Nat.lt_of_le_of_lt (Nat.mul_le_mul hA hN) (by decide)
  have DV := AsideA.mk (ref_Divided (A * N) D hm h0 (by omega))
  have NU := AsideA.mk (ref_Num false (A * N / D) (Nat.lt_of_le_of_lt (Nat.div_le_self _ _) hm))
  rw [show sval false (A * N / D) = ((A * N / D : Nat) : Int) from rfl] at NU
  have d1 : decide ((A : Int) < 0) = false := decide_eq_false (by omega)
  have d2 : decide ((N : Int) < 0) = false := decide_eq_false (by omega)
  have d3 : decide ((D : Int) < 1) = false := decide_eq_false (by omega)
  clear hA hN hD h0 hm
  generalize A * N = M at *
  generalize M / D = Q at *
  rw [hR] at DV
  have hR' := hR
  clear hR hR'
  generalize hR0 : (0 : Nat) = R at DV
  have HR := AsideA.mk hR0
  clear hR0
  generalize fit (Q : Int) = r at *
  generalize (A : Int) = a at *
  generalize (N : Int) = num at *
  generalize (D : Int) = den at *
  have HM : AsideA (R < 2 ^ 192) := ⟨by rw [← HR.out]; exact Nat.pos_of_ne_zero (by simp)⟩
  have BB := AsideA.mk (Below.refl w.heap.size w)
  go_enter Try.func55, Try.ntmps55
  go_upto_region 4 with (first | (go_at_call 49; (first | ((with_reducible refine (OA.out _).mono ?_); clear OA) | ((with_reducible refine (ON.out _).mono ?_); clear ON) | ((with_reducible refine (OD.out _).mono ?_); clear OD)); rintro e wq ⟨rfl, hq⟩; have BN := AsideA.mk (below_call BB.out hq); clear hq BB; have BB := BN; clear BN) | (go_at_call 51; refine (TM.out _).mono ?_; rintro e wq ⟨rfl, hq⟩; have BN := AsideA.mk (below_call BB.out hq); clear hq BB; have BB := BN; clear BN) | (go_at_call 67; refine (DV.out _).mono ?_; rintro e wq ⟨rfl, hq⟩; have BN := AsideA.mk (below_call BB.out hq); clear hq BB; have BB := BN; clear BN) | (refine ev_val rfl (run_field59 rfl rfl) ?_) | ((with_reducible refine gate (N := 10) rfl ?_); refine alloc_new 57 rfl rfl _ zero57 (bv 0) rfl ?_; intro g w1 N1) | ((with_reducible refine gate (N := 11) rfl ?_); refine alloc_new 57 rfl rfl _ zero57 (bv 0) rfl ?_; intro k w2 N2) | (refine store_at 57 (.tmp 10) (.tmp 33) rfl rfl g 0 rfl (bv Q) rfl (bv 0) 57 (blk_below N1.blk N2.below) (size57 _) (bv_le _ _) (bv_one _) _ (bv_splice _ _) ?_; intro w3 hb3 u3) | (refine store_at 57 (.tmp 11) (.tmp 34) rfl rfl k 0 rfl (bv R) rfl (bv 0) 57 (blk_upd u3 N2.blk (Ne.symm (N2.ne N1.blk))) (size57 _) (bv_le _ _) (bv_one _) _ (bv_splice _ _) ?_; intro w4 hb4 u4))
  have IB := AsideA.mk (ByInv.mk (w := w) (blk_upd u4 hb3 (N2.ne N1.blk)) hb4 (N2.ne N1.blk) (N1.ge BB.out) (u4.below (u3.below (below_new (below_new BB.out N1) N2) (N1.ge BB.out)) (N2.ge (below_new BB.out N1))))
  clear N1 N2 u3 u4 hb3 hb4 BB
  go_upto_region 6 with (first | ((with_reducible refine gate (N := 37) rfl ?_); refine ev_guarded ?hw (run_load_at 57 _ rfl k 0 rfl (bv R) _ Try.underlying57 rfl (size57 _) (blk_at0 IB.out.c)) ?_; (case hw => go_simp)) | ((with_reducible refine gate (N := 38) rfl ?_); refine ev_guarded ?hw (run_build_to 57 _ rfl (bv 0) ?hb) ?_; (case hw => go_simp); (case hb => exact built57)) | ((with_reducible refine gate (N := 39) rfl ?_); refine ev_guarded ?hw (run_neq57z (m := R) rfl rfl rfl HM.out) ?_; (case hw => go_simp); rw [decide_eq_true HR.out.symm]))
  go_wp2_with (first | (refine load_at 57 (.tmp 10) rfl rfl g 0 rfl (bv Q) _ Try.underlying57 rfl (size57 _) (blk_at0 IB.out.b) ?_) | (refine build_ps 59 _ rfl rfl [(1, .agg (bv Q))] _ (built59' Q) ?hps ?_; (case hps => go_simp)) | (go_at_call 47; refine (NU.out _).mono ?_; rintro e wq ⟨rfl, hq⟩; have IC := AsideA.mk (IB.out.later hq); clear hq IB))
  go_ret2
  exact ⟨rfl, IC.out.below⟩
set_option maxHeartbeats 4000000 in
set_option maxRecDepth 100000 in
theorem by_up1 (A N D : Nat) (hA : A ≤ 9223372036854775807) (hN : N ≤ 9223372036854775807) (hD : D ≤ 9223372036854775807) (h0 : 0 < D) (hR : A * N % D ≠ 0) (w : World) :
    Calls Try.prog 55 #[.int .i64 (A : Int), .int .i64 (N : Int), .int .i64 (D : Int), .bool true] w fun e w' => e = .returned (.tuple #[.int .i64 (fit ((A * N / D + 1 : Nat) : Int)).1, .int .i64 (fit ((A * N / D + 1 : Nat) : Int)).2]) ∧ Below w.heap.size w w' := by
  have OA := AsideA.mk (of_nat A hA)
  have ON := AsideA.mk (of_nat N hN)
  have OD := AsideA.mk (of_nat D hD)
  have TM := AsideA.mk (ref_Times false false A N)
  rw [Nat.mod_eq_of_lt (show N < 2 ^ 64 by omega)] at TM
  have hm : A * N < 2 ^ 192 := Nat.lt_of_le_of_lt (Nat.mul_le_mul hA hN) (by decide)
  have DV := AsideA.mk (ref_Divided (A * N) D hm h0 (by omega))
  have NU := AsideA.mk (ref_Num false (A * N / D + 1) (by have := Nat.div_le_self (A * N) D; have : A * N ≤ 9223372036854775807 * 9223372036854775807 := Nat.mul_le_mul hA hN; omega))
  rw [show sval false (A * N / D + 1) = ((A * N / D + 1 : Nat) : Int) from rfl] at NU
  have d1 : decide ((A : Int) < 0) = false := decide_eq_false (by omega)
  have d2 : decide ((N : Int) < 0) = false := decide_eq_false (by omega)
  have d3 : decide ((D : Int) < 1) = false := decide_eq_false (by omega)
  have HM : AsideA (A * N % D < 2 ^ 192) := ⟨Nat.lt_of_le_of_lt (Nat.mod_le _ _) hm⟩
  clear hA hN hD h0 hm
  generalize A * N = M at *
  generalize M / D = Q at *
  generalize M % D = R at *
  have HR := AsideA.mk hR
  clear hR
  generalize fit ((Q + 1 : Nat) : Int) = r at *
  generalize (A : Int) = a at *
  generalize (N : Int) = num at *
  generalize (D : Int) = den at *
  have BB := AsideA.mk (Below.refl w.heap.size w)
  go_enter Try.func55, Try.ntmps55
  go_upto_region 4 with (first | (go_at_call 49; (first | ((with_reducible refine (OA.out _).mono ?_); clear OA) | ((with_reducible refine (ON.out _).mono ?_); clear ON) | ((with_reducible refine (OD.out _).mono ?_); clear OD)); rintro e wq ⟨rfl, hq⟩; have BN := AsideA.mk (below_call BB.out hq); clear hq BB; have BB := BN; clear BN) | (go_at_call 51; refine (TM.out _).mono ?_; rintro e wq ⟨rfl, hq⟩; have BN := AsideA.mk (below_call BB.out hq); clear hq BB; have BB := BN; clear BN) | (go_at_call 67; refine (DV.out _).mono ?_; rintro e wq ⟨rfl, hq⟩; have BN := AsideA.mk (below_call BB.out hq); clear hq BB; have BB := BN; clear BN) | (refine ev_val rfl (run_field59 rfl rfl) ?_) | ((with_reducible refine gate (N := 10) rfl ?_); refine alloc_new 57 rfl rfl _ zero57 (bv 0) rfl ?_; intro g w1 N1) | ((with_reducible refine gate (N := 11) rfl ?_); refine alloc_new 57 rfl rfl _ zero57 (bv 0) rfl ?_; intro k w2 N2) | (refine store_at 57 (.tmp 10) (.tmp 33) rfl rfl g 0 rfl (bv Q) rfl (bv 0) 57 (blk_below N1.blk N2.below) (size57 _) (bv_le _ _) (bv_one _) _ (bv_splice _ _) ?_; intro w3 hb3 u3) | (refine store_at 57 (.tmp 11) (.tmp 34) rfl rfl k 0 rfl (bv R) rfl (bv 0) 57 (blk_upd u3 N2.blk (Ne.symm (N2.ne N1.blk))) (size57 _) (bv_le _ _) (bv_one _) _ (bv_splice _ _) ?_; intro w4 hb4 u4))
  have IB := AsideA.mk (ByInv.mk (w := w) (blk_upd u4 hb3 (N2.ne N1.blk)) hb4 (N2.ne N1.blk) (N1.ge BB.out) (u4.below (u3.below (below_new (below_new BB.out N1) N2) (N1.ge BB.out)) (N2.ge (below_new BB.out N1))))
  clear N1 N2 u3 u4 hb3 hb4 BB
  go_upto_region 6 with (first | ((with_reducible refine gate (N := 37) rfl ?_); refine ev_guarded ?hw (run_load_at 57 _ rfl k 0 rfl (bv R) _ Try.underlying57 rfl (size57 _) (blk_at0 IB.out.c)) ?_; (case hw => go_simp)) | ((with_reducible refine gate (N := 38) rfl ?_); refine ev_guarded ?hw (run_build_to 57 _ rfl (bv 0) ?hb) ?_; (case hw => go_simp); (case hb => exact built57)) | ((with_reducible refine gate (N := 39) rfl ?_); refine ev_guarded ?hw (run_neq57z (m := R) rfl rfl rfl HM.out) ?_; (case hw => go_simp); rw [decide_eq_false HR.out]))
  refine region_fin follows [41, 42, 43, 44] [(41, .agg (bv Q)), (42, .agg (wh false 1)), (43, .agg (bv 1)), (44, .agg (bv (Q + 1)))] rfl _ (by simp only [actPuts]; go_simp; rfl) 50 rfl (by kernel_rfl)
    (fun wr => ByInv w wr g k Q R) (fun wr => ByInv w wr g k (Q + 1) R) IB.out.drew ?_ ?_
  · refine ⟨?_, ?_, ?_, ?_, ?_⟩
    · intro wr h
      exact op_val (run_load_at 57 _ rfl g 0 rfl (bv Q) _ Try.underlying57 rfl (size57 _) (blk_at0 h.b)) rfl rfl h
    · intro wr h
      exact op_call (f := 49) (args := #[.int .i64 1]) (by go_simp) rfl rfl ((of_nat 1 (by omega) wr).mono fun e w' ⟨he, hb⟩ => ⟨he, h.later hb⟩)
    · intro wr h
      exact op_val (run_field59 rfl rfl) rfl rfl h
    · intro wr h
      exact op_call (f := 62) (args := #[.agg (bv Q), .agg (bv 1)]) (by go_simp) rfl rfl ((ref_Plus Q 1 wr).mono fun e w' ⟨he, hb⟩ => ⟨he, h.later hb⟩)
    · intro wr h
      exact op_store 57 (.tmp 10) (.tmp 44) rfl rfl g 0 rfl (bv (Q + 1)) rfl (bv Q) 57 h.b (size57 _) (bv_le _ _) (bv_one _) _ (bv_splice _ _) fun w1 hb hu => h.upd hb hu
  · intro wz hz
    have IZ := AsideA.mk hz
    clear hz IB
    go_wp2_with (first | (refine load_at 57 (.tmp 10) rfl rfl g 0 rfl (bv (Q + 1)) _ Try.underlying57 rfl (size57 _) (blk_at0 IZ.out.b) ?_) | (refine build_ps 59 _ rfl rfl [(1, .agg (bv (Q + 1)))] _ (built59' (Q + 1)) ?hps ?_; (case hps => go_simp)) | (go_at_call 47; refine (NU.out _).mono ?_; rintro e wq ⟨rfl, hq⟩; have IC := AsideA.mk (IZ.out.later hq); clear hq IZ))
    go_ret2
    exact ⟨rfl, IC.out.below⟩
end Go.Proofs.Ytbeiphfmdmccmaa.A
