/-
  The chapter's answers (countinghouselaw01.lives) and alike.
-/
import Derived.Test.YtbeiphfmdmccmaaE6
namespace Go.Proofs.Ytbeiphfmdmccmaa.A
set_option linter.unusedVariables false
set_option linter.unusedSimpArgs false
open Go.RowKit

theorem Rd.lit (W : World) (t : TypeId) (xs : List Int) (hwf : ∀ x ∈ xs, in64 x) (hlen : xs.length ≤ 1099511627776) : Rd (W.alloc (.cells (xs.map (Value.int .i64)).toArray t (0, 0))) (some ⟨W.heap.size, 0, none⟩) xs := by
  refine ⟨fun j hj => ⟨W.heap.size, 0, rfl, ?_⟩, hwf, hlen⟩
  rw [blk_cell (heap_alloc_new W _), Nat.zero_add]
  simp [List.getD_eq_getElem?_getD, hj]

/-- a call that answers two numbers -/
abbrev Gives2 (f : FuncId) (args : Array Value) (r : Int × Int) : Prop := ∀ w : World, Calls Try.prog f args w fun e w' => e = .returned (.tuple #[.int .i64 r.1, .int .i64 r.2]) ∧ Below w.heap.size w w'

theorem l1 : Gives2 14 #[.int .i64 1, .int .i64 2] (3, 0) := fun w => xadd 1 2 (by decide) (by decide) w
theorem l2 : Gives2 14 #[.int .i64 9223372036854775807, .int .i64 1] (0, 10) := fun w => xadd 9223372036854775807 1 (by decide) (by decide) w
theorem l3 : Gives2 17 #[.int .i64 (-9223372036854775808), .int .i64 1] (0, 10) := fun w => xsub (-9223372036854775808) 1 (by decide) (by decide) w
theorem l4 : Gives2 19 #[.int .i64 (-4294967296), .int .i64 2147483648] (-9223372036854775808, 0) := fun w => xmul (-4294967296) 2147483648 (by decide) (by decide) w
theorem l5 : Gives2 19 #[.int .i64 4294967296, .int .i64 2147483648] (0, 10) := fun w => xmul 4294967296 2147483648 (by decide) (by decide) w
theorem l6 : Gives2 26 #[.int .i64 7, .int .i64 3, .int .i64 2] (10, 0) := fun w => xdown 7 3 2 (by decide) (by decide) (by decide) w
theorem l7 : Gives2 28 #[.int .i64 7, .int .i64 3, .int .i64 2] (11, 0) := fun w => xup 7 3 2 (by decide) (by decide) (by decide) w
theorem l8 : Gives2 28 #[.int .i64 9223372036854775807, .int .i64 2, .int .i64 1] (0, 10) := fun w => xup 9223372036854775807 2 1 (by decide) (by decide) (by decide) w
theorem l9 : Gives2 26 #[.int .i64 1, .int .i64 1, .int .i64 0] (0, 1) := fun w => xdown 1 1 0 (by decide) (by decide) (by decide) w
theorem l10 (c : Nat) (A : Option Addr) (w : World) (h : Rd w A [9223372036854775807, 9, -9]) : Calls Try.prog 23 #[.slice A 3 c] w fun e w' => e = .returned (.tuple #[.int .i64 9223372036854775807, .int .i64 0]) ∧ Below w.heap.size w w' := xsum A c _ w h

set_option maxHeartbeats 2000000 in
set_option maxRecDepth 100000 in
theorem lives01 (w : World) : Calls Try.prog 21 #[] w fun e w' => e = .returned (.bool true) ∧ Below w.heap.size w w' := by
  have BB := AsideA.mk (Below.refl w.heap.size w)
  go_enter Try.func21, Try.ntmps21
  go_wp2_with (first | (go_at_call 14; (first | (with_reducible refine (l1 _).mono ?_) | (with_reducible refine (l2 _).mono ?_)); rintro e wq ⟨rfl, hq⟩; have BN := AsideA.mk (below_call BB.out hq); clear hq BB; have BB := BN; clear BN) | (go_at_call 17; refine (l3 _).mono ?_; rintro e wq ⟨rfl, hq⟩; have BN := AsideA.mk (below_call BB.out hq); clear hq BB; have BB := BN; clear BN) | (go_at_call 19; (first | (with_reducible refine (l4 _).mono ?_) | (with_reducible refine (l5 _).mono ?_)); rintro e wq ⟨rfl, hq⟩; have BN := AsideA.mk (below_call BB.out hq); clear hq BB; have BB := BN; clear BN) | (go_at_call 26; (first | (with_reducible refine (l6 _).mono ?_) | (with_reducible refine (l9 _).mono ?_)); rintro e wq ⟨rfl, hq⟩; have BN := AsideA.mk (below_call BB.out hq); clear hq BB; have BB := BN; clear BN) | (go_at_call 28; (first | (with_reducible refine (l7 _).mono ?_) | (with_reducible refine (l8 _).mono ?_)); rintro e wq ⟨rfl, hq⟩; have BN := AsideA.mk (below_call BB.out hq); clear hq BB; have BB := BN; clear BN) | (go_at_call 23; refine (l10 _ _ _ (Rd.lit _ _ [9223372036854775807, 9, -9] (by decide) (by decide))).mono ?_; rintro e wq ⟨rfl, hq⟩; have BN := AsideA.mk (below_call (BB.out.alloc BB.out.size _) hq); clear hq BB; have BB := BN; clear BN))
  go_ret
  exact ⟨rfl, BB.out⟩

set_option maxHeartbeats 1000000 in
set_option maxRecDepth 100000 in
theorem alike_same (a e : Int) (w : World) : Calls Try.prog 16 #[.int .i64 a, .int .i64 e, .int .i64 a, .int .i64 e] w fun e' w' => e' = .returned (.bool true) ∧ Below w.heap.size w w' := by
  have BB := AsideA.mk (Below.refl w.heap.size w)
  go_enter Try.func16, Try.ntmps16
  go_wp2
  go_ret
  exact ⟨rfl, BB.out⟩

set_option maxHeartbeats 2000000 in
set_option maxRecDepth 100000 in
theorem law_two (a b : Int) (ha : in64 a) (hb : in64 b) (w : World) : Calls Try.prog 3 #[.int .i64 a, .int .i64 b] w fun e w' => e = .returned (.bool true) ∧ Below w.heap.size w w' := by
  have A1 : AsideA (Gives2 14 #[.int .i64 a, .int .i64 b] (fit (a + b))) := ⟨xadd a b ha hb⟩
  have A2 : AsideA (Gives2 15 #[.int .i64 a, .int .i64 b] (fit (a + b))) := ⟨add_any a b ha hb⟩
  have A3 : AsideA (Gives2 17 #[.int .i64 a, .int .i64 b] (fit (a - b))) := ⟨xsub a b ha hb⟩
  have A4 : AsideA (Gives2 18 #[.int .i64 a, .int .i64 b] (fit (a - b))) := ⟨sub_any a b ha hb⟩
  have A5 : AsideA (Gives2 19 #[.int .i64 a, .int .i64 b] (fit (a * b))) := ⟨xmul a b ha hb⟩
  have A6 : AsideA (Gives2 20 #[.int .i64 a, .int .i64 b] (fit (a * b))) := ⟨mul_any a b ha hb⟩
  clear ha hb
  generalize fit (a + b) = r1 at *
  generalize fit (a - b) = r2 at *
  generalize fit (a * b) = r3 at *
  have BB := AsideA.mk (Below.refl w.heap.size w)
  go_enter Try.func3, Try.ntmps3
  go_wp2_with (first | (go_at_call 14; refine (A1.out _).mono ?_; rintro e wq ⟨rfl, hq⟩; have BN := AsideA.mk (below_call BB.out hq); clear hq BB; have BB := BN; clear BN) | (go_at_call 15; refine (A2.out _).mono ?_; rintro e wq ⟨rfl, hq⟩; have BN := AsideA.mk (below_call BB.out hq); clear hq BB; have BB := BN; clear BN) | (go_at_call 17; refine (A3.out _).mono ?_; rintro e wq ⟨rfl, hq⟩; have BN := AsideA.mk (below_call BB.out hq); clear hq BB; have BB := BN; clear BN) | (go_at_call 18; refine (A4.out _).mono ?_; rintro e wq ⟨rfl, hq⟩; have BN := AsideA.mk (below_call BB.out hq); clear hq BB; have BB := BN; clear BN) | (go_at_call 19; refine (A5.out _).mono ?_; rintro e wq ⟨rfl, hq⟩; have BN := AsideA.mk (below_call BB.out hq); clear hq BB; have BB := BN; clear BN) | (go_at_call 20; refine (A6.out _).mono ?_; rintro e wq ⟨rfl, hq⟩; have BN := AsideA.mk (below_call BB.out hq); clear hq BB; have BB := BN; clear BN) | (go_at_call 16; refine (alike_same _ _ _).mono ?_; rintro e wq ⟨rfl, hq⟩; have BN := AsideA.mk (below_call BB.out hq); clear hq BB; have BB := BN; clear BN) | (go_at_call 21; refine (lives01 _).mono ?_; rintro e wq ⟨rfl, hq⟩; have BN := AsideA.mk (below_call BB.out hq); clear hq BB; have BB := BN; clear BN))
  go_ret
  exact ⟨rfl, BB.out⟩

theorem in64_of {a : Int} (h : (Lit.int .i64 a).wf = true) : in64 a := by
  simp [Lit.wf, IntKind.min, IntKind.max, IntKind.bits, IntKind.signed] at h
  exact ⟨by omega, by omega⟩
theorem law_two_wf (a b : Int) (ha : (Lit.int .i64 a).wf = true) (hb : (Lit.int .i64 b).wf = true) (w : World) : Calls Try.prog 3 #[.int .i64 a, .int .i64 b] w fun e w' => e = .returned (.bool true) ∧ Below w.heap.size w w' :=
  law_two a b (in64_of ha) (in64_of hb) w
end Go.Proofs.Ytbeiphfmdmccmaa.A
