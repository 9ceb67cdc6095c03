/-
  The reference's by, Down and Up (countinghouseref01): floored, or raised, or too great.
-/
import Derived.Test.YtbeiphfmdmccmaaR7
import Derived.Test.YtbeiphfmdmccmaaEqArr
namespace Go.Proofs.Ytbeiphfmdmccmaa.A
set_option linter.unusedVariables false
set_option linter.unusedSimpArgs false
open Go.RowKit

theorem all_bits {m n : Nat} (hm : m < 2 ^ 192) (hn : n < 2 ^ 192) : (List.range 192).all (fun i => m.testBit i == n.testBit i) = decide (m = n) := by
  rw [Bool.eq_iff_iff]
  simp only [List.all_eq_true, List.mem_range, beq_iff_eq, decide_eq_true_eq]
  constructor
  · intro h
    exact bv_inj (bv_congr h) hm hn
  · rintro rfl i _
    rfl
theorem guard57 : Try.prog.eqGuardType Try.prog.depth 57 = false := by kernel_rfl
theorem field59 (cs : Array Value) (w : World) : (Instr.field 59 (.agg cs) 1).run Try.prog w = .ok (.agg (cs.extract 1 193)) w := by kernel_rfl
theorem run_neq57 {ρ : Operand → Value} {o : Oper} {x y : Operand} {k : TypeId} {w : World} (ho : o.op = .binOp .neq 57 x y k) {m n : Nat} (hx : ρ x = .agg (bv m)) (hy : ρ y = .agg (bv n)) (hm : m < 2 ^ 192) (hn : n < 2 ^ 192) :
    (execOp ρ o).run Try.prog w = .ok (.value (.bool (!decide (m = n)))) w := by
  have he := run_equalIn_arr (P := Try.prog) w 9999 57 4 192 (bv m) (bv n) _ Try.underlying57 Try.underlying4 rfl (by kernel_rfl) (fun i => m.testBit i == n.testBit i) (fun i hi => ⟨_, _, bv_get m hi, bv_get n hi, run_equalIn_bool' w 9998 4 _ _ Try.underlying4⟩)
  rw [all_bits hm hn] at he
  have hg := run_eqGuard_agg (P := Try.prog) w .neq 57 x y (bv m) (bv n) guard57
  unfold execOp
  simp only [ho, hx, hy, Sem.run_bind, hg, run_neq_struct, he, Result.andThen_ok]
  rfl
theorem run_field59 {ρ : Operand → Value} {o : Oper} {x : Operand} {w : World} (ho : o.op = .field 59 x 1) {s : Bool} {n : Nat} (hx : ρ x = .agg (wh s n)) : (execOp ρ o).run Try.prog w = .ok (.value (.agg (bv n))) w := by
  have hext : (wh s n).extract 1 193 = bv n := by
    apply Array.ext_getElem?
    intro i
    rw [Array.getElem?_extract]
    by_cases hi : i < 192
    · rw [wh_size]
      simp only [show i < min 193 193 - 1 by omega, if_true]
      rw [wh_get s n hi, bv_get n hi]
    · rw [bv_none n (by omega), wh_size, if_neg (by omega)]
  have hf := field59 (wh s n) w
  rw [hext] at hf
  unfold execOp
  simp only [ho, hx, Sem.run_bind, hf, Result.andThen_ok]
  rfl

theorem of_nat (A : Nat) (h : A ≤ 9223372036854775807) (w : World) : Calls Try.prog 49 #[.int .i64 (A : Int)] w fun e w' => e = .returned (.agg (wh false A)) ∧ Below w.heap.size w w' := by
  have := ref_Of (A : Int) (by omega) (by omega) w
  rw [show decide ((A : Int) < 0) = false from decide_eq_false (by omega), Int.natAbs_natCast] at this
  exact this
theorem built59' (n : Nat) : Try.prog.built 59 [(1, .agg (bv n))] = some (wh false n) := by
  rw [built59_fill, fill_cons _ _ _ (Value.agg (bv n)) _ 1 192 rfl (bv_size n) (by rw [wh_size]; omega)]
  rw [show (Value.agg (bv n)).cells = bv n from rfl, wh_lay]
  rfl
theorem built57 : Try.prog.built 57 [] = some (bv 0) := by kernel_rfl
theorem bv_le (m n : Nat) : 0 + (bv m).size ≤ (bv n).size := by rw [bv_size, bv_size]; exact Nat.le_refl _
theorem bv_splice (m n : Nat) : splice (bv n) 0 (bv m) = bv m := splice_all _ _ (by rw [bv_size, bv_size])

structure ByInv (w wr : World) (g k q r : Nat) : Prop where
  b : wr.heap[g]? = some (.cells (bv q) 57 (0, 0))
  c : wr.heap[k]? = some (.cells (bv r) 57 (0, 0))
  ne : g ≠ k
  ge : w.heap.size ≤ g
  below : Below w.heap.size w wr
theorem ByInv.later {w wr wz : World} {g k q r : Nat} (I : ByInv w wr g k q r) (h : Below wr.heap.size wr wz) : ByInv w wz g k q r := ⟨blk_below I.b h, blk_below I.c h, I.ne, I.ge, below_call I.below h⟩
theorem ByInv.drew {w wr : World} {g k q r : Nat} (I : ByInv w wr g k q r) : ByInv w wr.drew g k q r := ⟨I.b, I.c, I.ne, I.ge, I.below.drew⟩
theorem ByInv.upd {w wr wz : World} {g k q q' r : Nat} (I : ByInv w wr g k q r) (hb : wz.heap[g]? = some (.cells (bv q') 57 (0, 0))) (hu : Upd wr wz g) : ByInv w wz g k q' r :=
  ⟨hb, blk_upd hu I.c (Ne.symm I.ne), I.ne, I.ge, hu.below I.below I.ge⟩

set_option maxHeartbeats 4000000 in
set_option maxRecDepth 100000 in
theorem by_down (A N D : Nat) (hA : A ≤ 9223372036854775807) (hN : N ≤ 9223372036854775807) (hD : D ≤ 9223372036854775807) (h0 : 0 < D) (w : World) :
    Calls Try.prog 55 #[.int .i64 (A : Int), .int .i64 (N : Int), .int .i64 (D : Int), .bool false] w fun e w' => e = .returned (.tuple #[.int .i64 (fit ((A * N / D : Nat) : Int)).1, .int .i64 (fit ((A * N / D : Nat) : Int)).2]) ∧ Below w.heap.size w w' := by
  have OA := AsideA.mk (of_nat A hA)
  have ON := AsideA.mk (of_nat N hN)
  have OD := AsideA.mk (of_nat D hD)
  have TM := AsideA.mk (ref_Times false false A N)
  rw [Nat.mod_eq_of_lt (show N < 2 ^ 64 by omega)] at TM
  have hm : A * N < 2 ^ 192 := Nat.lt_of_le_of_lt (Nat.mul_le_mul hA hN) (by decide)
  have DV := AsideA.mk (ref_Divided (A * N) D hm h0 (by omega))
  have NU := AsideA.mk (ref_Num false (A * N / D) (Nat.lt_of_le_of_lt (Nat.div_le_self _ _) hm))
  rw [show sval false (A * N / D) = ((A * N / D : Nat) : Int) from rfl] at NU
  have d1 : decide ((A : Int) < 0) = false := decide_eq_false (by omega)
  have d2 : decide ((N : Int) < 0) = false := decide_eq_false (by omega)
  have d3 : decide ((D : Int) < 1) = false := decide_eq_false (by omega)
  clear hA hN hD h0 hm
  generalize A * N = M at *
  generalize M / D = Q at *
  generalize M % D = R at *
  generalize fit (Q : Int) = r at *
  generalize (A : Int) = a at *
  generalize (N : Int) = num at *
  generalize (D : Int) = den at *
  have BB := AsideA.mk (Below.refl w.heap.size w)
  go_enter Try.func55, Try.ntmps55
  go_upto_region 4 with (first | (go_at_call 49; (first | ((with_reducible refine (OA.out _).mono ?_); clear OA) | ((with_reducible refine (ON.out _).mono ?_); clear ON) | ((with_reducible refine (OD.out _).mono ?_); clear OD)); rintro e wq ⟨rfl, hq⟩; have BN := AsideA.mk (below_call BB.out hq); clear hq BB; have BB := BN; clear BN) | (go_at_call 51; refine (TM.out _).mono ?_; rintro e wq ⟨rfl, hq⟩; have BN := AsideA.mk (below_call BB.out hq); clear hq BB; have BB := BN; clear BN) | (go_at_call 67; refine (DV.out _).mono ?_; rintro e wq ⟨rfl, hq⟩; have BN := AsideA.mk (below_call BB.out hq); clear hq BB; have BB := BN; clear BN) | (refine ev_val rfl (run_field59 rfl rfl) ?_) | ((with_reducible refine gate (N := 10) rfl ?_); refine alloc_new 57 rfl rfl _ zero57 (bv 0) rfl ?_; intro g w1 N1) | ((with_reducible refine gate (N := 11) rfl ?_); refine alloc_new 57 rfl rfl _ zero57 (bv 0) rfl ?_; intro k w2 N2) | (refine store_at 57 (.tmp 10) (.tmp 33) rfl rfl g 0 rfl (bv Q) rfl (bv 0) 57 (blk_below N1.blk N2.below) (size57 _) (bv_le _ _) (bv_one _) _ (bv_splice _ _) ?_; intro w3 hb3 u3) | (refine store_at 57 (.tmp 11) (.tmp 34) rfl rfl k 0 rfl (bv R) rfl (bv 0) 57 (blk_upd u3 N2.blk (Ne.symm (N2.ne N1.blk))) (size57 _) (bv_le _ _) (bv_one _) _ (bv_splice _ _) ?_; intro w4 hb4 u4))
  have IB := AsideA.mk (ByInv.mk (w := w) (blk_upd u4 hb3 (N2.ne N1.blk)) hb4 (N2.ne N1.blk) (N1.ge BB.out) (u4.below (u3.below (below_new (below_new BB.out N1) N2) (N1.ge BB.out)) (N2.ge (below_new BB.out N1))))
  clear N1 N2 u3 u4 hb3 hb4 BB
  go_wp2_with (first | (refine load_at 57 (.tmp 10) rfl rfl g 0 rfl (bv Q) _ Try.underlying57 rfl (size57 _) (blk_at0 IB.out.b) ?_) | (refine build_ps 59 _ rfl rfl [(1, .agg (bv Q))] _ (built59' Q) ?hps ?_; (case hps => go_simp)) | (go_at_call 47; refine (NU.out _).mono ?_; rintro e wq ⟨rfl, hq⟩; have IC := AsideA.mk (IB.out.later hq); clear hq IB))
  go_ret2
  exact ⟨rfl, IC.out.below⟩
end Go.Proofs.Ytbeiphfmdmccmaa.A
