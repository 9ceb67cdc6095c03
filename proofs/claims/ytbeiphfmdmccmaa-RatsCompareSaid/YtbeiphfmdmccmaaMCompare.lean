/-
  The law RatsCompare, its walk.
-/
import Derived.Test.YtbeiphfmdmccmaaJ1
import Derived.Test.YtbeiphfmdmccmaaM0
namespace Go.Proofs.Ytbeiphfmdmccmaa.L
set_option linter.unusedVariables false
set_option linter.unusedSimpArgs false
open Go.RowKit Go.Proofs.Ytbeiphfmdmccmaa.A Go.Proofs.Ytbeiphfmdmccmaa.P

set_option maxHeartbeats 4000000 in
set_option maxRecDepth 100000 in
theorem law_compare (a b c d : Int) (ia : in64 a) (ib : in64 b) (ic : in64 c) (id : in64 d) (w : World) :
    Calls Try.prog 9 #[.agg (rat2 a b), .agg (rat2 c d)] w fun e w' => e = .returned (.bool true) ∧ Below w.heap.size w w' := by
  have C1 := AsideA.mk (fun w => rats_Compare.calls a b c d _ w (g_cmp ia ib ic id))
  have C2 := AsideA.mk (ref_cmp a b c d ia ib ic id)
  have LV := AsideA.mk (fun w => countinghouselaw02_lives.calls 2 true w lives_two)
  clear ia ib ic id
  generalize cmpr a b c d = v at *
  go_enter Try.func9, Try.ntmps9
  go_upto_region 1 with (first | (refine box_new 42 (.tmp 0) rfl rfl _ rfl (rat2 a b) rfl ?_; intro g2 w2 N2) | (refine box_new 42 (.tmp 1) rfl rfl _ rfl (rat2 c d) rfl ?_; intro g3 w3 N3; have I0 := AsideA.mk (Bs.more (Bs.more (L := []) ⟨below_new (below_new (Below.refl _ _) N2) N3, by simp, by simp⟩ (blk_below N2.blk N3.below) (N2.ge (Below.refl _ _))) N3.blk (N3.ge (below_new (Below.refl _ _) N2)))))
  clear N2 N3
  refine region_picked follows [5, 6, 7, 8, 9, 10, 11, 12, 13, 14, 4] (fun y => [(5, .agg (rat2 a b)), (6, .agg (rat2 c d)), (7, .int .i64 v), (8, .agg (rat2 a b)), (9, .agg (rat2 c d)), (10, .int .i64 v), (11, .bool true), (12, .bool true), (13, .bool true), (14, .bool true), (4, .bool true)]) (fun _ => rfl) _ (fun y => by simp only [actPuts]; go_simp; rfl) 15 rfl (by kernel_rfl)
    (fun c' l wz => Bs w [(g3, rat2 c d, 42), (g2, rat2 a b, 42)] wz) (fun _ _ => I0.out.drew) ?_ ?_
  · refine ⟨?_, ?_, ?_, ?_, ?_, ?_, ?_, ?_, ?_, ?_, ?_, trivial⟩
    · intro c' l wz x hs hl hn h hx
      exact opc_val rfl (run_load_at 42 (.tmp 2) rfl g2 0 rfl (rat2 a b) _ Try.underlying42 rfl (size42 _ _) (blk_at0 (h.blk (g2, rat2 a b, 42) (by simp)))) rfl (fun _ => rfl) h
    · intro c' l wz x hs hl hn h hx
      exact opc_val rfl (run_load_at 42 (.tmp 3) rfl g3 0 rfl (rat2 c d) _ Try.underlying42 rfl (size42 _ _) (blk_at0 (h.blk (g3, rat2 c d, 42) (by simp)))) rfl (fun _ => rfl) h
    · intro c' l wz x hs hl hn h hx
      exact opc_call rfl (f := 39) (args := #[.agg (rat2 a b), .agg (rat2 c d)]) (by go_simp) rfl (fun _ => rfl) ((C1.out wz).mono fun e w' ⟨he, hb⟩ => ⟨he, h.later hb⟩)
    · intro c' l wz x hs hl hn h hx
      exact opc_val rfl (run_load_at 42 (.tmp 2) rfl g2 0 rfl (rat2 a b) _ Try.underlying42 rfl (size42 _ _) (blk_at0 (h.blk (g2, rat2 a b, 42) (by simp)))) rfl (fun _ => rfl) h
    · intro c' l wz x hs hl hn h hx
      exact opc_val rfl (run_load_at 42 (.tmp 3) rfl g3 0 rfl (rat2 c d) _ Try.underlying42 rfl (size42 _ _) (blk_at0 (h.blk (g3, rat2 c d, 42) (by simp)))) rfl (fun _ => rfl) h
    · intro c' l wz x hs hl hn h hx
      exact opc_call rfl (f := 40) (args := #[.agg (rat2 a b), .agg (rat2 c d)]) (by go_simp) rfl (fun _ => rfl) ((C2.out wz).mono fun e w' ⟨he, hb⟩ => ⟨he, h.later hb⟩)
    · intro c' l wz x hs hl hn h hx
      exact opc_val rfl (v := .bool true) (w' := wz) (by go_simp) rfl (fun _ => rfl) h
    · intro c' l wz x hs hl hn h hx
      exact opc_val rfl (v := .bool true) (w' := wz) (by go_simp) rfl (fun _ => rfl) h
    · intro c' l wz x hs hl hn h hx
      exact opc_call rfl (f := 38) (args := #[]) (by go_simp) rfl (fun _ => rfl) ((LV.out wz).mono fun e w' ⟨he, hb⟩ => ⟨he, h.later hb⟩)
    · intro c' l wz x hs hl hn h hx
      exact opc_val rfl (v := .bool true) (w' := wz) (by go_simp) rfl (fun _ => rfl) h
    · intro c' l wz x hs hl hn h hx
      exact opc_val rfl (v := .bool true) (w' := wz) (by go_simp) rfl (fun _ => rfl) h
  · intro c' l w4 x hd h hx
    have I1 := AsideA.mk h
    clear hd h hx I0
    go_wp2
    go_ret
    exact ⟨rfl, I1.out.below⟩
theorem law_compare_walk (a b c d : Int) (ia : (Lit.int .i64 a).wf = true) (ib : (Lit.int .i64 b).wf = true) (ic : (Lit.int .i64 c).wf = true) (id : (Lit.int .i64 d).wf = true) (w : World) :
    Calls Try.prog 9 #[.agg #[.int .i64 a, .int .i64 b], .agg #[.int .i64 c, .int .i64 d]] w fun e w' => e = .returned (.bool true) ∧ Below w.heap.size w w' :=
  law_compare a b c d (in64_of ia) (in64_of ib) (in64_of ic) (in64_of id) w
end Go.Proofs.Ytbeiphfmdmccmaa.L
