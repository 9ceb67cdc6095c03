/-
  slices.Equal, for bytes.
-/
import Derived.Test.YtccmeiflahnleaaDoorS5
namespace Go.Proofs.YtccmeiflahnleaaDoor.A
set_option linter.unusedVariables false
set_option linter.unusedSimpArgs false
open Go.RowKit

theorem Bytes.get {w : World} {A : Option Addr} {bs : List Nat} (h : Bytes w A bs) (k : Nat) (hk : k < bs.length) : ∃ g off, ∃ x : Nat, A = some ⟨g, off, none⟩ ∧ w.cell? ⟨g, off + k, none⟩ = some (.int .u8 (x : Int)) ∧ x < 256 ∧ bs[k]? = some x := h.reads.get8 h.small k hk
theorem take_eq_step {a b : List Nat} {k : Nat} {x y : Nat} (h : a.take k = b.take k) (hx : a[k]? = some x) (hy : b[k]? = some y) : (a.take (k + 1) = b.take (k + 1)) ↔ x = y := by
  rw [List.take_add_one, List.take_add_one, hx, hy, h]
  simp

set_option maxHeartbeats 1000000 in
set_option maxRecDepth 100000 in
theorem equal_ne (A B : Option Addr) (n m c d : Nat) (h : n ≠ m) (w : World) : Calls Tryd.prog 38 #[.slice A n c, .slice B m d] w fun e w' => e = .returned (.bool false) ∧ Below w.heap.size w w' := by
  have BB := AsideA.mk (Below.refl w.heap.size w)
  have h1 : ((n : Int) == (m : Int)) = false := beq_eq_false_iff_ne.mpr (by omega)
  clear h
  go_enter Tryd.func38, Tryd.ntmps38
  go_wp2
  go_ret
  exact ⟨rfl, BB.out⟩

set_option maxHeartbeats 2000000 in
set_option maxRecDepth 100000 in
theorem equal_len (A B : Option Addr) (c d : Nat) (a b : List Nat) (hl : a.length = b.length) (w : World) (RA : Bytes w A a) (RB : Bytes w B b) : Calls Tryd.prog 38 #[.slice A a.length c, .slice B a.length d] w fun e w' => e = .returned (.bool (decide (a = b))) ∧ Below w.heap.size w w' := by
  have HA := AsideA.mk RA
  have HB := AsideA.mk RB
  have hlen := RA.len
  clear RA RB
  obtain ⟨len, hn⟩ : ∃ len, len = a.length := ⟨_, rfl⟩
  rw [← hn] at hlen ⊢
  have HL := AsideA.mk hn
  have HL2 := AsideA.mk (hn.trans hl)
  clear hn hl
  go_enter Tryd.func38, Tryd.ntmps38
  go_wp2
  go_loopw [13] (fun i wr => ∃ k : Nat, k ≤ len ∧ i = .int .i64 k ∧ AsideA (Below w.heap.size w wr ∧ a.take k = b.take k)) (fun i _ => len - (intOf i).toNat)
  case atStart => exact ⟨0, by omega, rfl, ⟨Below.refl _ _, by simp⟩⟩
  case round =>
    obtain ⟨k, hk, rfl, I⟩ := hrel
    by_cases hlt : k < len
    · obtain ⟨g, off, x, hA, hc, hx, hxa⟩ := (HA.out.below I.out.1).get k (by have := HL.out; omega)
      obtain ⟨g', off', y, hB, hd, hy, hyb⟩ := (HB.out.below I.out.1).get k (by have := HL2.out; omega)
      have ST := AsideA.mk (take_eq_step I.out.2 hxa hyb)
      subst hA hB
      clear hxa hyb hx hy
      by_cases hxy : x = y
      · subst hxy
        go_wp2
        go_quiet (fail)
        go_wp2
        exact ⟨⟨k + 1, by omega, rfl, ⟨⟨I.out.1.os, I.out.1.tape, I.out.1.output, I.out.1.size, I.out.1.block⟩, ST.out.mpr trivial⟩⟩, by simp [intOf]; omega⟩
      · have hxb : ((x : Int) == (y : Int)) = false := beq_eq_false_iff_ne.mpr (by omega)
        have NE : AsideA (decide (a = b) = false) := ⟨decide_eq_false fun h => hxy (ST.out.mp (by rw [h]))⟩
        go_wp2
        go_quiet (fail)
        go_wp2
        go_ret
        exact ⟨by rw [NE.out]; rfl, ⟨I.out.1.os, I.out.1.tape, I.out.1.output, I.out.1.size, I.out.1.block⟩⟩
    · have e1 : a.take k = a := List.take_of_length_le (by have := HL.out; omega)
      have e2 : b.take k = b := List.take_of_length_le (by have := HL2.out; omega)
      have EQ : AsideA (decide (a = b) = true) := ⟨decide_eq_true (by rw [← e1, ← e2]; exact I.out.2)⟩
      clear e1 e2
      go_wp2
      go_ret
      exact ⟨by rw [EQ.out]; rfl, I.out.1⟩

theorem xequal (A B : Option Addr) (c d : Nat) (a b : List Nat) (w : World) (RA : Bytes w A a) (RB : Bytes w B b) : Calls Tryd.prog 38 #[.slice A a.length c, .slice B b.length d] w fun e w' => e = .returned (.bool (decide (a = b))) ∧ Below w.heap.size w w' := by
  by_cases hl : a.length = b.length
  · rw [← hl]
    exact equal_len A B c d a b hl w RA RB
  · rw [decide_eq_false (fun h => hl (by rw [h]))]
    exact equal_ne A B _ _ c d hl w
end Go.Proofs.YtccmeiflahnleaaDoor.A
