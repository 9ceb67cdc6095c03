/-
  packs.Take; is there a last byte of a number; frames.size.
-/
import Derived.Test.YtccmeiflahnleaaDoorG5
namespace Go.Proofs.YtccmeiflahnleaaDoor.A
set_option linter.unusedVariables false
set_option linter.unusedSimpArgs false
open Go.RowKit

set_option maxHeartbeats 1000000 in
set_option maxRecDepth 100000 in
theorem xTake (A : Option Addr) (c : Nat) (bs : List Nat) (w : World) (B : Bytes w A bs) : Calls Tryd.prog 49 #[.slice A bs.length c] w fun e w' => e = .returned (.tuple #[.int .u64 ((takeP bs).1 : Int), .int .i64 ((takeP bs).2.1 : Int)]) ∧ Below w.heap.size w w' := by
  have M := AsideA.mk (xtake A c bs w B)
  clear B
  generalize bs.length = len at *
  generalize (takeP bs).1 = a1 at *
  generalize (takeP bs).2.1 = a2 at *
  generalize (takeP bs).2.2 = a3 at *
  go_enter Tryd.func49, Tryd.ntmps49
  go_wp2_with (go_at_call 54; go_loud (refine M.out.mono ?_; rintro e wq ⟨rfl, hq⟩; have BN := AsideA.mk hq; clear hq))
  go_ret2
  exact ⟨rfl, BN.out⟩

set_option maxHeartbeats 1000000 in
set_option maxRecDepth 100000 in
theorem xlow (x : Nat) (w : World) : Calls Tryd.prog 51 #[.int .u8 (x : Int)] w fun e w' => e = .returned (.bool (decide (x < 128))) ∧ w = w' := by
  have hd : decide ((x : Int) < 128) = decide (x < 128) := by
    congr 1
    apply propext
    omega
  go_enter Tryd.func51, Tryd.ntmps51
  go_wp2
  go_ret
  exact ⟨by rw [← hd]; rfl, rfl⟩

set_option maxHeartbeats 2000000 in
set_option maxRecDepth 100000 in
theorem index_none (A : Option Addr) (c : Nat) (bs : List Nat) (w : World) (B : Bytes w A bs) (h : ∀ x ∈ bs, 128 ≤ x) : Calls Tryd.prog 55 #[.slice A bs.length c, .func (.func 51) #[] #[]] w fun e w' => e = .returned (.int .i64 (-1)) ∧ Below w.heap.size w w' := by
  have HB := AsideA.mk B
  have HH := AsideA.mk h
  have hlen := B.len
  obtain ⟨len, hl⟩ : ∃ len, len = bs.length := ⟨_, rfl⟩
  rw [← hl] at hlen ⊢
  have HL := AsideA.mk hl
  clear hl B h
  go_enter Tryd.func55, Tryd.ntmps55
  go_wp2
  go_loopw [8] (fun i wr => ∃ k : Nat, k ≤ len ∧ i = .int .i64 k ∧ AsideA (Below w.heap.size w wr)) (fun i _ => len - (intOf i).toNat)
  case atStart => exact ⟨0, by omega, rfl, ⟨Below.refl _ _⟩⟩
  case round =>
    obtain ⟨k, hk, rfl, I⟩ := hrel
    by_cases hlt : k < len
    · obtain ⟨g, off, x, rfl, hc, hx, hxx⟩ := (HB.out.below I.out).get k (by have := HL.out; omega)
      have hb : decide (x < 128) = false := decide_eq_false (by have := HH.out x (List.mem_of_getElem? hxx); omega)
      have C := AsideA.mk (xlow x wr)
      rw [hb] at C
      clear hxx hb
      go_wp2_with (go_at_call 51; go_loud (refine C.out.mono ?_; rintro e w' ⟨rfl, rfl⟩))
      exact ⟨⟨k + 1, by omega, by go_num, I⟩, by simp [intOf]; omega⟩
    · go_wp2
      go_ret
      exact ⟨rfl, I.out⟩
set_option maxHeartbeats 2000000 in
set_option maxRecDepth 100000 in
theorem index_some (A : Option Addr) (c : Nat) (bs : List Nat) (w : World) (B : Bytes w A bs) (h : ∃ x ∈ bs, x < 128) : Calls Tryd.prog 55 #[.slice A bs.length c, .func (.func 51) #[] #[]] w fun e w' => (∃ j : Nat, j < bs.length ∧ e = .returned (.int .i64 (j : Int))) ∧ Below w.heap.size w w' := by
  have HB := AsideA.mk B
  have HH := AsideA.mk h
  have hlen := B.len
  obtain ⟨len, hl⟩ : ∃ len, len = bs.length := ⟨_, rfl⟩
  rw [← hl] at hlen ⊢
  have HL := AsideA.mk hl
  clear hl B h
  go_enter Tryd.func55, Tryd.ntmps55
  go_wp2
  go_loopw [8] (fun i wr => ∃ k : Nat, k ≤ len ∧ i = .int .i64 k ∧ AsideA (Below w.heap.size w wr ∧ ∀ j x, j < k → bs[j]? = some x → 128 ≤ x)) (fun i _ => len - (intOf i).toNat)
  case atStart => exact ⟨0, by omega, rfl, ⟨Below.refl _ _, fun j x h => by omega⟩⟩
  case round =>
    obtain ⟨k, hk, rfl, I⟩ := hrel
    by_cases hlt : k < len
    · obtain ⟨g, off, x, rfl, hc, hx, hxx⟩ := (HB.out.below I.out.1).get k (by have := HL.out; omega)
      have C := AsideA.mk (xlow x wr)
      have HX := AsideA.mk hxx
      clear hxx
      by_cases hxl : x < 128
      · rw [decide_eq_true hxl] at C
        go_wp2_with (go_at_call 51; go_loud (refine C.out.mono ?_; rintro e w' ⟨rfl, rfl⟩))
        go_ret
        exact ⟨⟨k, hlt, rfl⟩, I.out.1⟩
      · rw [decide_eq_false hxl] at C
        go_wp2_with (go_at_call 51; go_loud (refine C.out.mono ?_; rintro e w' ⟨rfl, rfl⟩))
        refine ⟨⟨k + 1, by omega, by go_num, ⟨I.out.1, fun j y hj hy => ?_⟩⟩, by simp [intOf]; omega⟩
        by_cases e : j = k
        · subst e
          rw [HX.out] at hy
          cases hy
          omega
        · exact I.out.2 j y (by omega) hy
    · exfalso
      obtain ⟨x, hx, hlo⟩ := HH.out
      obtain ⟨j, hj⟩ := List.getElem?_of_mem hx
      have h1 := (List.getElem?_eq_some_iff.1 hj).1
      have := I.out.2 j x (by have := HL.out; omega) hj
      omega
theorem contains (A : Option Addr) (c : Nat) (bs : List Nat) (b : Bool) (w : World) (B : Bytes w A bs) (h : (b = false ∧ ∀ x ∈ bs, 128 ≤ x) ∨ (b = true ∧ ∃ x ∈ bs, x < 128)) : Calls Tryd.prog 50 #[.slice A bs.length c, .func (.func 51) #[] #[]] w fun e w' => e = .returned (.bool b) ∧ Below w.heap.size w w' := by
  rcases h with ⟨rfl, h⟩ | ⟨rfl, h⟩
  · have M := AsideA.mk (index_none A c bs w B h)
    clear B h
    generalize bs.length = len at *
    go_enter Tryd.func50, Tryd.ntmps50
    go_wp2_with (go_at_call 55; go_loud (refine M.out.mono ?_; rintro e wq ⟨rfl, hq⟩; have BN := AsideA.mk hq; clear hq))
    go_ret
    exact ⟨rfl, BN.out⟩
  · have M := AsideA.mk (index_some A c bs w B h)
    clear B h
    generalize bs.length = len at *
    go_enter Tryd.func50, Tryd.ntmps50
    go_wp2_with (go_at_call 55; go_loud (refine M.out.mono ?_; rintro e wq ⟨⟨j, hj, rfl⟩, hq⟩; have BN := AsideA.mk hq; clear hq))
    go_ret
    exact ⟨rfl, BN.out⟩
end Go.Proofs.YtccmeiflahnleaaDoor.A

