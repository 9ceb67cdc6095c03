/-
  Lists of parties that are the same.
-/
import Derived.Test.YtjopmkfpghdlpaaQ0
namespace Go.Proofs.Ytjopmkfpghdlpaa.A
set_option linter.unusedVariables false
set_option linter.unusedSimpArgs false
open Go.RowKit

theorem take_eq_step {a b : List Nat} {k : Nat} {x y : Nat} (h : a.take k = b.take k) (hx : a[k]? = some x) (hy : b[k]? = some y) : (a.take (k + 1) = b.take (k + 1)) ↔ x = y := by
  rw [List.take_add_one, List.take_add_one, hx, hy, h]
  simp

theorem same_ne (A B : Option Addr) (n m c d : Nat) (h : n ≠ m) (w : World) : Calls Try.prog 49 #[.slice A n c, .slice B m d] w fun e w' => e = .returned (.bool false) ∧ Below w.heap.size w w' := by
  have BB := AsideA.mk (Below.refl w.heap.size w)
  have h1 : ((n : Int) == (m : Int)) = false := beq_eq_false_iff_ne.mpr (by omega)
  have h2 : ((n : Int) != (m : Int)) = true := by rw [bne, h1]; rfl
  clear h
  go_enter Try.func49, Try.ntmps49
  go_wp2
  go_ret
  exact ⟨rfl, BB.out⟩
set_option maxHeartbeats 2000000 in
set_option maxRecDepth 100000 in
theorem same_len (A B : Option Addr) (c d : Nat) (a b : List Nat) (hl : a.length = b.length) (w : World) (RA : Bytes w A a) (RB : Bytes w B b) : Calls Try.prog 49 #[.slice A a.length c, .slice B a.length d] w fun e w' => e = .returned (.bool (decide (a = b))) ∧ Below w.heap.size w w' := by
  have HA := AsideA.mk RA
  have HB := AsideA.mk RB
  have hlen := RA.len
  clear RA RB
  obtain ⟨len, hn⟩ : ∃ len, len = a.length := ⟨_, rfl⟩
  rw [← hn] at hlen ⊢
  have HL := AsideA.mk hn
  have HL2 := AsideA.mk (hn.trans hl)
  clear hn hl
  go_enter Try.func49, Try.ntmps49
  go_wp2
  go_loopw [5] (fun i wr => ∃ k : Nat, k ≤ len ∧ i = .int .i64 k ∧ AsideA (Below w.heap.size w wr ∧ a.take k = b.take k)) (fun i _ => len - (intOf i).toNat)
  case atStart => exact ⟨0, by omega, rfl, ⟨Below.refl _ _, by simp⟩⟩
  case round =>
    obtain ⟨k, hk, rfl, I⟩ := hrel
    by_cases hlt : k < len
    · obtain ⟨g, off, x, hA, hc, hx, hxa⟩ := (HA.out.below I.out.1).get k (by have := HL.out; omega)
      obtain ⟨g', off', y, hB, hd, hy, hyb⟩ := (HB.out.below I.out.1).get k (by have := HL2.out; omega)
      have ST := AsideA.mk (take_eq_step I.out.2 hxa hyb)
      subst hA hB
      clear hxa hyb hx hy
      by_cases hxy : x = y
      · subst hxy
        go_wp2
        go_quiet (fail)
        go_wp2
        exact ⟨⟨k + 1, by omega, by go_num, ⟨⟨I.out.1.os, I.out.1.tape, I.out.1.output, I.out.1.size, I.out.1.block⟩, ST.out.mpr trivial⟩⟩, by simp [intOf]; omega⟩
      · have hxb : ((x : Int) == (y : Int)) = false := beq_eq_false_iff_ne.mpr (by omega)
        have hxc : ((x : Int) != (y : Int)) = true := by rw [bne, hxb]; rfl
        have NE : AsideA (decide (a = b) = false) := ⟨decide_eq_false fun h => hxy (ST.out.mp (by rw [h]))⟩
        go_wp2
        go_quiet (fail)
        go_wp2
        go_ret
        exact ⟨by rw [NE.out]; rfl, ⟨I.out.1.os, I.out.1.tape, I.out.1.output, I.out.1.size, I.out.1.block⟩⟩
    · have e1 : a.take k = a := List.take_of_length_le (by have := HL.out; omega)
      have e2 : b.take k = b := List.take_of_length_le (by have := HL2.out; omega)
      have EQ : AsideA (decide (a = b) = true) := ⟨decide_eq_true (by rw [← e1, ← e2]; exact I.out.2)⟩
      clear e1 e2
      go_wp2
      go_ret
      exact ⟨by rw [EQ.out]; rfl, I.out.1⟩
theorem same8 (A B : Option Addr) (c d : Nat) (a b : List Nat) (w : World) (RA : Bytes w A a) (RB : Bytes w B b) : Calls Try.prog 49 #[.slice A a.length c, .slice B b.length d] w fun e w' => e = .returned (.bool (decide (a = b))) ∧ Below w.heap.size w w' := by
  by_cases hl : a.length = b.length
  · rw [← hl]
    exact same_len A B c d a b hl w RA RB
  · rw [decide_eq_false (fun h => hl (by rw [h]))]
    exact same_ne A B _ _ c d hl w
set_option maxHeartbeats 1000000 in
set_option maxRecDepth 100000 in
theorem same_bytes (A B : Option Addr) (c d : Nat) (a b : List Nat) (w : World) (RA : Bytes w A a) (RB : Bytes w B b) : Calls Try.prog 19 #[.slice A a.length c, .slice B b.length d] w fun e w' => e = .returned (.bool (decide (a = b))) ∧ Below w.heap.size w w' := by
  have S := AsideA.mk (same8 A B c d a b w RA RB)
  clear RA RB
  generalize a.length = n at *
  generalize b.length = m at *
  generalize decide (a = b) = r at *
  go_enter Try.func19, Try.ntmps19
  go_wp2_with (go_at_call 49; refine S.out.mono ?_; rintro e wq ⟨rfl, hq⟩; have BN := AsideA.mk hq; clear hq)
  go_ret
  exact ⟨rfl, BN.out⟩

end Go.Proofs.Ytjopmkfpghdlpaa.A

