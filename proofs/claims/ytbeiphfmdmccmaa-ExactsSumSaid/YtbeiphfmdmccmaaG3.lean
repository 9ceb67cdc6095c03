/-
  Lists of numbers that are the same; a copy that was left as it was (countinghouselaw01.same, left).
-/
import Derived.Test.YtbeiphfmdmccmaaG2
namespace Go.Proofs.Ytbeiphfmdmccmaa.A
set_option linter.unusedVariables false
set_option linter.unusedSimpArgs false
open Go.RowKit

theorem enc64_get (xs : List Int) (k : Nat) (h : k < xs.length) : (enc64 xs)[k]? = some (.int .i64 (xs.getD k 0)) := by
  unfold enc64
  simp [List.getElem?_map, List.getD_eq_getElem?_getD, h]
theorem Reads.get64 {w : World} {A : Option Addr} {xs : List Int} (h : Reads w A (enc64 xs)) (k : Nat) (hk : k < xs.length) : ∃ g off, A = some ⟨g, off, none⟩ ∧ w.cell? ⟨g, off + k, none⟩ = some (.int .i64 (xs.getD k 0)) := by
  rcases h with h | ⟨ad, rfl, h⟩
  · have := enc64_len xs
    rw [h, List.length_nil] at this
    omega
  · have hh := h k _ (enc64_get xs k hk)
    obtain ⟨g, off, sp⟩ := ad
    cases sp with
    | none => exact ⟨g, off, rfl, by rw [← add_none]; exact hh⟩
    | some s =>
      exfalso
      have h0 := h 0 _ (enc64_get xs 0 (by omega))
      unfold World.cell? at h0
      split at h0 <;> simp_all [Addr.add]
theorem Reads.rd {w : World} {A : Option Addr} {xs : List Int} (h : Reads w A (enc64 xs)) (hw : ∀ x ∈ xs, in64 x) (hl : xs.length ≤ 1099511627776) : Rd w A xs :=
  ⟨fun j hj => h.get64 j hj, hw, hl⟩

set_option maxHeartbeats 2000000 in
set_option maxRecDepth 100000 in
theorem same64 (A B : Option Addr) (c d : Nat) (xs : List Int) (w : World) (RA : Reads w A (enc64 xs)) (RB : Reads w B (enc64 xs)) (hlen : (xs.length : Int) ≤ 1099511627776) : Calls Try.prog 53 #[.slice A xs.length c, .slice B xs.length d] w fun e w' => e = .returned (.bool true) ∧ Below w.heap.size w w' := by
  have HA := AsideA.mk RA
  have HB := AsideA.mk RB
  clear RA RB
  obtain ⟨len, hl⟩ : ∃ len, len = xs.length := ⟨_, rfl⟩
  rw [← hl] at hlen ⊢
  have HL := AsideA.mk hl
  clear hl
  go_enter Try.func53, Try.ntmps53
  go_wp2
  go_loopw [5] (fun i wr => ∃ k : Nat, k ≤ len ∧ i = .int .i64 k ∧ AsideA (Below w.heap.size w wr)) (fun i _ => len - (intOf i).toNat)
  case atStart => exact ⟨0, by omega, rfl, ⟨Below.refl _ _⟩⟩
  case round =>
    obtain ⟨k, hk, rfl, I⟩ := hrel
    by_cases hlt : k < len
    · obtain ⟨g, off, hA, hc⟩ := (HA.out.below I.out).get64 k (by have := HL.out; omega)
      obtain ⟨g', off', hB, hd⟩ := (HB.out.below I.out).get64 k (by have := HL.out; omega)
      generalize xs.getD k 0 = x at hc hd
      subst hA hB
      go_wp2
      go_quiet (fail)
      go_wp2
      exact ⟨⟨k + 1, by omega, by go_num, ⟨(⟨I.out.os, I.out.tape, I.out.output, I.out.size, I.out.block⟩ : Below w.heap.size w (wr.drewN _))⟩⟩, by simp [intOf]; omega⟩
    · go_wp2
      go_ret
      exact ⟨rfl, I.out⟩

set_option maxHeartbeats 2000000 in
set_option maxRecDepth 100000 in
theorem left64 (A : Option Addr) (c g : Nat) (xs : List Int) (mark : Int) (w : World) (RA : Reads w A (enc64 xs)) (hg : w.heap[g]? = some (.cells (enc64 xs ++ [Value.int .i64 mark, Value.int .i64 mark]).toArray 2 (0, 0))) (hlen : (xs.length : Int) ≤ 1099511627776) :
    Calls Try.prog 25 #[.slice (some ⟨g, 0, none⟩) xs.length (xs.length + 2), .slice A xs.length c, .int .i64 mark] w fun e w' => e = .returned (.bool true) ∧ Below w.heap.size w w' := by
  have RT : Reads w (some ⟨g, 0, none⟩) (enc64 xs) := Reads.of_block hg _ (fun j u h => by
    rw [Nat.zero_add, List.getElem?_toArray, List.getElem?_append_left (List.getElem?_eq_some_iff.1 h).1]
    exact h)
  have S := AsideA.mk (same64 (some ⟨g, 0, none⟩) A (xs.length + 2) c xs w RT RA hlen)
  have hc0 : ∀ wz, Below w.heap.size w wz → wz.cell? ⟨g, xs.length, none⟩ = some (.int .i64 mark) ∧ wz.cell? ⟨g, xs.length + 1, none⟩ = some (.int .i64 mark) := fun wz hb => by
    have h2 := blk_below hg hb
    rw [blk_cell h2, blk_cell h2]
    simp only [List.getElem?_toArray]
    rw [List.getElem?_append_right (by rw [enc64_len]; omega), List.getElem?_append_right (by rw [enc64_len]; omega), enc64_len]
    simp
  have HC := AsideA.mk hc0
  clear RA RT hg hc0
  obtain ⟨len, hl⟩ : ∃ len, len = xs.length := ⟨_, rfl⟩
  rw [← hl] at hlen HC S ⊢
  clear hl
  go_enter Try.func25, Try.ntmps25
  go_wp2_with (go_at_call 53; refine S.out.mono ?_; rintro e wq ⟨rfl, hq⟩; obtain ⟨x0, x1⟩ := HC.out wq hq; have BN := AsideA.mk hq; clear hq)
  go_ret
  exact ⟨rfl, BN.out⟩
end Go.Proofs.Ytbeiphfmdmccmaa.A
