/-
  A copy with room behind that has a mark (countinghouselaw01.twin), for numbers.
-/
import Derived.Test.YtbeiphfmdmccmaaF1
import Derived.Test.YtbeiphfmdmccmaaTw
namespace Go.Proofs.Ytbeiphfmdmccmaa.A
set_option linter.unusedVariables false
set_option linter.unusedSimpArgs false
open Go.RowKit

def enc64 (xs : List Int) : List Value := xs.map (Value.int .i64)
theorem enc64_len (xs : List Int) : (enc64 xs).length = xs.length := List.length_map _
theorem enc64_one (xs : List Int) : ∀ u ∈ enc64 xs, u.oneCell' = true := by
  intro u hu
  obtain ⟨x, _, rfl⟩ := List.mem_map.1 hu
  rfl
theorem info2 : (Try.prog.info? 2).map (fun i => (i.zero, i.size, i.bytes)) = some (some (.int .i64 0), 1, 8) := by kernel_rfl
theorem info2s : (Try.prog.info? 2).map (·.size) = some 1 := by kernel_rfl

theorem twin_first (xs : List Value) (n : Nat) (zs : Array Value) (hz : zs.size = n + 2) (hn : xs.length = n) : ((zs.toList.take (0 * 1)) ++ xs ++ zs.toList.drop (0 * 1 + xs.length)).toArray = (xs ++ zs.toList.drop n).toArray := by
  simp [hn]
theorem twin_second (xs : List Value) (n : Nat) (zs : Array Value) (m1 m2 : Value) (hz : zs.size = n + 2) (hn : xs.length = n) : (((xs ++ zs.toList.drop n).toArray.toList.take (n * 1)) ++ [m1, m2] ++ (xs ++ zs.toList.drop n).toArray.toList.drop (n * 1 + [m1, m2].length)).toArray = (xs ++ [m1, m2]).toArray := by
  subst hn
  simp only [Nat.mul_one, List.take_left', List.length_cons, List.length_nil]
  rw [List.drop_eq_nil_of_le (by simp; omega), List.append_nil]

set_option maxHeartbeats 2000000 in
set_option maxRecDepth 100000 in
theorem twin64 (A : Option Addr) (c : Nat) (xs : List Int) (mark : Int) (w : World) (R : Reads w A (enc64 xs)) (hlen : (xs.length : Int) ≤ 1099511627776) : Calls Try.prog 22 #[.slice A xs.length c, .int .i64 mark] w fun e w' => ∃ g, e = .returned (.slice (some ⟨g, 0, none⟩) xs.length (xs.length + 2)) ∧ w'.heap[g]? = some (.cells (enc64 xs ++ [Value.int .i64 mark, Value.int .i64 mark]).toArray 2 (0, 0)) ∧ w.heap.size ≤ g ∧ Below w.heap.size w w' := by
  have HR := AsideA.mk R
  clear R
  obtain ⟨len, hl⟩ : ∃ len, len = xs.length := ⟨_, rfl⟩
  rw [← hl] at hlen ⊢
  have HE : AsideA ((enc64 xs).length = len) := ⟨by rw [enc64_len, hl]⟩
  clear hl
  go_enter Try.func22, Try.ntmps22
  have hz1 : (madeCells (Value.int .i64 0).cells ((len + 2) * 1)).size = len + 2 := by rw [size_madeCells, Nat.mul_one]
  have HZ := AsideA.mk hz1
  have HF := AsideA.mk (show 0 * 1 + (enc64 xs).length ≤ (madeCells (Value.int .i64 0).cells ((len + 2) * 1)).size by rw [hz1, HE.out]; omega)
  have HZ2 := AsideA.mk (show len * 1 + 2 ≤ (enc64 xs ++ (madeCells (Value.int .i64 0).cells ((len + 2) * 1)).toList.drop len).toArray.size by
    have e1 := HE.out
    have e2 : (madeCells (Value.int .i64 0).cells ((len + 2) * 1)).toList.length = len + 2 := hz1
    rw [List.size_toArray, List.length_append, List.length_drop, e2, e1]
    omega)
  have HL := AsideA.mk (show (enc64 xs).length = len * 1 by rw [Nat.mul_one]; exact HE.out)
  clear hz1
  go_wp2_with (first | ((with_reducible refine gate (N := 9) rfl ?_); refine make_new 28 2 _ _ rfl rfl Try.underlying28 (.int .i64 0) 1 8 info2 _ _ (len + 2) rfl _ rfl (by omega) (by omega) (by omega) ?_; intro g1 w1 N1) | ((with_reducible refine gate (N := 12) rfl ?_); refine append_put 28 2 (.tmp 10) (.tmp 11) rfl rfl 1 Try.underlying28 info2s g1 0 (len + 2) rfl _ N1.blk A len c rfl (enc64 xs) HL.out (by decide) (HR.out.below N1.below) (enc64_one xs) (by omega) HF.out _ (twin_first _ len _ HZ.out HE.out) ?_; intro w2 b2 u2; rw [Nat.zero_add]) | ((with_reducible refine gate (N := 17) rfl ?_); go_loud (refine append_put 28 2 (.tmp 13) (.tmp 16) rfl rfl 1 Try.underlying28 info2s g1 len (len + 2) rfl _ (blk_below b2 ((Below.refl w2.heap.size w2).alloc (Nat.le_refl _) _)) _ 2 _ rfl [.int .i64 mark, .int .i64 mark] rfl (by decide) (Reads.of_block (heap_alloc_new _ _) _ (fun j u h => by rw [Nat.zero_add, ← h]; simp)) (by simp [Value.oneCell']) (by omega) HZ2.out _ (twin_second _ len _ _ _ HZ.out HE.out) ?_); intro w3 b3 u3))
  go_ret
  exact ⟨g1, rfl, b3, N1.ge (Below.refl _ _), u3.below (below_call (u2.below (below_new (Below.refl _ _) N1) (N1.ge (Below.refl _ _))) ((Below.refl w2.heap.size w2).alloc (Nat.le_refl _) _)) (N1.ge (Below.refl _ _))⟩
end Go.Proofs.Ytbeiphfmdmccmaa.A
