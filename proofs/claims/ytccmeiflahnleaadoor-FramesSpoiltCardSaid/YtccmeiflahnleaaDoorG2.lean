/-
  The reference's number (countinghouseref16.Num); frames.Put, countinghouseref18.Put.
-/
import Derived.Test.YtccmeiflahnleaaDoorG1
namespace Go.Proofs.YtccmeiflahnleaaDoor.A
set_option linter.unusedVariables false
set_option linter.unusedSimpArgs false
open Go.RowKit

set_option maxHeartbeats 2000000 in
set_option maxRecDepth 100000 in
theorem ref_num (n : Nat) (hn : n ≤ 8192) (w : World) : Calls Tryd.prog 42 #[.slice none 0 0, .int .u64 (n : Int)] w fun e w' => ∃ A k c, e = .returned (.slice A k c) ∧ k = (numL n).length ∧ w'.ownsRow w.heap.size 5 1 (.slice A k c) k (enc8 (numL n)) ∧ Below w.heap.size w w' := by
  have HL := AsideA.mk (show (numL n).length ≤ 10 from numL_len 9 n (Nat.lt_of_le_of_lt hn (by decide)))
  have HN := AsideA.mk hn
  have hn' : (n : Int) ≤ 8192 := by omega
  go_enter Tryd.func42, Tryd.ntmps42
  go_wp2_with ((with_reducible refine gate (N := 7) rfl ?_); go_loud (refine append_own w 22 _ _ rfl rfl w.heap.size 5 _ 1 1 Tryd.underlying22 info5z rfl (by decide) (.slice none 0 0) 0 [] rfl (own_nil _ _ _ _) none 0 0 [] rfl rfl Reads.nil (by simp) (by decide) (by decide) (Nat.le_refl _) ?_; intro v1 w1 o1 g1 p1; obtain ⟨A1, c1, e1⟩ := own_form o1; subst e1; have Z1 := AsideA.mk (And.intro o1 (below_grown (Below.refl w.heap.size w) (Nat.le_refl _) (own_nil _ _ 5 1) g1)); clear o1 g1 p1))
  have I0 : AsideA (Below w.heap.size w w1 ∧ w1.ownsRow w.heap.size 5 1 (.slice A1 (0 + 0) c1) (0 + 0) (enc8 []) ∧ numL n = [] ++ numL n ∧ n ≤ 8192) := ⟨Z1.out.2, Z1.out.1, rfl, hn⟩
  clear Z1 hn
  go_loopw [1, 5] (fun m v wr => ∃ q k c : Nat, ∃ A : Option Addr, ∃ done : List Nat, m = .int .u64 (q : Int) ∧ v = .slice A k c ∧ (k : Int) < 1000 ∧ (q : Int) ≤ 8192 ∧ AsideA (Below w.heap.size w wr ∧ wr.ownsRow w.heap.size 5 1 (.slice A k c) k (enc8 done) ∧ numL n = done ++ numL q ∧ q ≤ 8192)) (fun m _ _ => (intOf m).toNat)
  case atStart => exact ⟨n, 0 + 0, c1, A1, [], rfl, rfl, by omega, hn', I0⟩
  case round =>
    obtain ⟨q, k, c, A, done, rfl, rfl, hk, hq, I⟩ := hrel
    clear I0
    have hlen : AsideA (k = done.length ∧ k ≤ 10 ∧ k + (numL q).length ≤ 10) := ⟨by
      have h1 := I.out.2.1.1
      have h2 := HL.out
      rw [enc8_len] at h1
      rw [I.out.2.2.1, List.length_append] at h2
      omega⟩
    by_cases hb : 128 ≤ q
    · have S := AsideA.mk (numL_big hb)
      have H1 := AsideA.mk (numL_pos (q / 128))
      obtain ⟨x, hx⟩ : ∃ x, x = 128 + q % 128 := ⟨_, rfl⟩
      have e9 : (128 : Int) + (q : Int) % 128 = (x : Int) := by omega
      have e10 : (x : Int) % 256 = (x : Int) := by omega
      obtain ⟨z, hz⟩ : ∃ z, z = q / 128 := ⟨_, rfl⟩
      have e7 : (q : Int) / 128 = (z : Int) := by omega
      rw [← hz] at S H1
      rw [← hx] at S
      have HZ := AsideA.mk (And.intro hz hx)
      clear hz hx
      go_wp2_with ((with_reducible refine gate (N := 16) rfl ?_); go_loud (refine append_own _ 22 _ _ rfl rfl w.heap.size 5 _ 1 1 Tryd.underlying22 info5z rfl (by decide) (.slice A k c) k (enc8 done) rfl (own_alloc I.out.2.1 _) (some ⟨wr.heap.size, 0, none⟩) 1 1 (enc8 [x]) rfl rfl (reads_built wr 5 (enc8 [x])) (enc8_one _) (by simp only [maxLen]; omega) (by omega) (by have := I.out.1.size; simp; omega) ?_; intro v2 w2 o2 g2 p2; obtain ⟨A2, c2, e2⟩ := own_form o2; subst e2; have Z := AsideA.mk (And.intro o2 (below_grown (I.out.1.alloc I.out.1.size _) (by have := I.out.1.size; simp; omega) (own_alloc I.out.2.1 _) g2)); clear o2 g2 p2))
      refine ⟨⟨z, k + 1, c2, A2, done ++ [x], ?_, rfl, by have := hlen.out; omega, by have := HZ.out; omega, ⟨Z.out.2, by rw [enc8_append]; exact Z.out.1, ?_, by have := I.out.2.2.2; have := HZ.out; omega⟩⟩, ?_⟩
      · first | rfl | rw [e7]
      · rw [I.out.2.2.1, S.out, List.append_assoc]
        rfl
      · simp [intOf]
        have := HZ.out
        omega
    · have S := AsideA.mk (numL_small (show q < 128 by omega))
      have eq1 : (q : Int) % 256 = (q : Int) := by omega
      go_wp2_with ((with_reducible refine gate (N := 23) rfl ?_); go_loud (refine append_own _ 22 _ _ rfl rfl w.heap.size 5 _ 1 1 Tryd.underlying22 info5z rfl (by decide) (.slice A k c) k (enc8 done) rfl (own_alloc I.out.2.1 _) (some ⟨wr.heap.size, 0, none⟩) 1 1 (enc8 [q]) rfl rfl (reads_built wr 5 (enc8 [q])) (enc8_one _) (by simp only [maxLen]; omega) (by omega) (by have := I.out.1.size; simp; omega) ?_; intro v2 w2 o2 g2 p2; rw [← enc8_append] at o2; obtain ⟨A2, c2, e2⟩ := own_form o2; subst e2; have Z := AsideA.mk (And.intro o2 (below_grown (I.out.1.alloc I.out.1.size _) (by have := I.out.1.size; simp; omega) (own_alloc I.out.2.1 _) g2)); clear o2 g2 p2))
      go_ret
      have e1 : numL n = done ++ [q] := by rw [I.out.2.2.1, S.out]
      have hl := hlen.out.1
      exact ⟨A2, k + 1, c2, rfl, by rw [e1, List.length_append, hl]; rfl, by rw [e1]; exact Z.out.1, Z.out.2⟩
end Go.Proofs.YtccmeiflahnleaaDoor.A

