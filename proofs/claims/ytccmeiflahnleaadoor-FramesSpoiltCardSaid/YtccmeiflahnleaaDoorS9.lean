/-
  The chapter's examples (countinghouselaw15.lives).
-/
import Derived.Test.YtccmeiflahnleaaDoorS8
import Derived.Lib.SlBytesConst
namespace Go.Proofs.YtccmeiflahnleaaDoor.A
set_option linter.unusedVariables false
set_option linter.unusedSimpArgs false
open Go.RowKit

theorem Bytes.of_block {w : World} {g : Nat} {bs : List Nat} {tail : List Value} (h : w.heap[g]? = some (.cells (enc8 bs ++ tail).toArray 5 (0, 0))) (hs : ∀ b ∈ bs, b < 256) (hl : (bs.length : Int) ≤ 1099511627776) : Bytes w (some ⟨g, 0, none⟩) bs :=
  ⟨Reads.of_block h _ (fun j u hu => by
    rw [Nat.zero_add, List.getElem?_toArray, List.getElem?_append_left (List.getElem?_eq_some_iff.1 hu).1]
    exact hu), hs, hl⟩
/-- of a row with whatever mark behind it -/
theorem Bytes.of_marked {w : World} {g : Nat} {bs : List Nat} {mk : Nat × Nat} (h : w.heap[g]? = some (.cells (enc8 bs).toArray 5 mk)) (hs : ∀ b ∈ bs, b < 256) (hl : (bs.length : Int) ≤ 1099511627776) : Bytes w (some ⟨g, 0, none⟩) bs :=
  ⟨.inr ⟨_, rfl, fun j u hu => by
    rw [add_none, Nat.zero_add, cell_of_row w g j _ 5 mk h, List.getElem?_toArray]
    exact hu⟩, hs, hl⟩
theorem Fill.bytes {w wr : World} {g cap : Nat} {bs : List Nat} (h : Fill w wr g cap bs) (hs : ∀ b ∈ bs, b < 256) (hl : (bs.length : Int) ≤ 1099511627776) : Bytes wr (some ⟨g, 0, none⟩) bs := by
  obtain ⟨t, h1, h2⟩ := h.blk
  exact Bytes.of_block h1 hs hl

theorem str5 (w : World) (g : Nat) (B : Bytes w (some ⟨g, 0, none⟩) [0, 141, 239, 2, 210]) : (convert 22 9 (.slice (some ⟨g, 0, none⟩) 5 5)).run Tryd.prog w = .ok (.string ⟨#[0, 141, 239, 2, 210]⟩) w := by
  have h := run_convert_bytes_back (P := Tryd.prog) w 22 9 5 ⟨g, 0, none⟩ 5 [0, 141, 239, 2, 210] Tryd.underlying22 Tryd.underlying5 (by kernel_rfl) (fun j hj => by
    rcases B.reads with h0 | ⟨ad, e, h⟩
    · cases h0
    · cases e
      have : j = 0 ∨ j = 1 ∨ j = 2 ∨ j = 3 ∨ j = 4 := by simp at hj; omega
      rcases this with rfl | rfl | rfl | rfl | rfl <;> exact h _ _ rfl)
  exact h

set_option maxHeartbeats 2000000 in
set_option maxRecDepth 100000 in
theorem lives15 (w : World) (T : TabAt w) : Calls Tryd.prog 10 #[] w fun e w' => e = .returned (.bool true) ∧ Below w.heap.size w w' := by
  have HT := AsideA.mk T
  have BB := AsideA.mk (Below.refl w.heap.size w)
  have P1 := AsideA.mk (fun (wz : World) (g : Nat) (hb : Below w.heap.size w wz) (hg : wz.heap[g]? = some (.cells #[.int .u8 0] 5 (0, 0))) => xput (some ⟨g, 0, none⟩) 1 [0] wz (Bytes.of_block (tail := []) hg (by decide) (by decide)) (by decide) (HT.out.below hb))
  simp only [fact2] at P1
  have P2 := AsideA.mk (fun (wz : World) (g : Nat) (hb : Below w.heap.size w wz) (hg : wz.heap[g]? = some (.cells #[.int .u8 49, .int .u8 50, .int .u8 51, .int .u8 52, .int .u8 53, .int .u8 54, .int .u8 55, .int .u8 56, .int .u8 57] 5 (9, 10))) => xof (some ⟨g, 0, none⟩) 9 [49, 50, 51, 52, 53, 54, 55, 56, 57] wz (Bytes.of_marked hg (by decide) (by decide)) (HT.out.below hb))
  rw [fact1] at P2
  have P3 := AsideA.mk (fun (wz : World) (hb : Below w.heap.size w wz) => xof none 0 [] wz ⟨Reads.nil, by simp, by decide⟩ (HT.out.below hb))
  rw [fact5] at P3
  simp only [List.length_nil] at P3
  have P4 := AsideA.mk (fun (wz : World) (g : Nat) (hb : Below w.heap.size w wz) (hB : Bytes wz (some ⟨g, 0, none⟩) [0, 141, 239, 2, 210]) => xends (some ⟨g, 0, none⟩) 5 [0, 141, 239, 2, 210] wz hB (HT.out.below hb) (by decide))
  rw [fact3] at P4
  have P5 := AsideA.mk (fun (wz : World) (g : Nat) (hb : Below w.heap.size w wz) (hg : wz.heap[g]? = some (.cells #[.int .u8 1, .int .u8 2, .int .u8 3] 5 (0, 0))) => xends (some ⟨g, 0, none⟩) 3 [1, 2, 3] wz (Bytes.of_block (tail := []) hg (by decide) (by decide)) (HT.out.below hb) (by decide))
  rw [fact4] at P5
  clear T HT
  have hcv := fun w => Lib.run_convert_bytes_const (P := Tryd.prog) w 22 5 #[.int .u8 49, .int .u8 50, .int .u8 51, .int .u8 52, .int .u8 53, .int .u8 54, .int .u8 55, .int .u8 56, .int .u8 57] 9 9 Tryd.underlying22 Tryd.underlying5
  go_enter Tryd.func10, Tryd.ntmps10
  go_wp2_with (first | (go_at_call 12; go_loud (refine (P1.out _ w.heap.size (BB.out.alloc BB.out.size _) (heap_alloc_new _ _)).mono ?_); rintro e w1 ⟨g, cap, rfl, F⟩; have B1 := AsideA.mk (below_call (BB.out.alloc BB.out.size _) F.below); have BY := AsideA.mk (F.bytes (by decide) (by decide)); clear F BB; have BB := B1; clear B1) | (go_at_call 13; (first | ((with_reducible refine (P3.out _ BB.out).mono ?_); rintro e w3 ⟨rfl, hq⟩; have B1 := AsideA.mk (below_call BB.out hq); have BY1 := AsideA.mk (BY.out.below hq); clear BB hq BY; have BB := B1; have BY := BY1; clear B1 BY1; have hst := str5 _ _ BY.out) | (refine (P2.out _ _ (BB.out.alloc BB.out.size _) (heap_alloc_new _ _)).mono ?_; rintro e w2 ⟨rfl, hq⟩; have B1 := AsideA.mk (below_call (BB.out.alloc BB.out.size _) hq); have BY1 := AsideA.mk ((BY.out.below ((Below.refl _ _).alloc (Nat.le_refl _) _)).below hq); clear BB hq BY; have BB := B1; have BY := BY1; clear B1 BY1))) | (go_at_call 18; (first | (refine (P4.out _ g BB.out BY.out).mono ?_; rintro e w3 ⟨rfl, hq⟩; have B1 := AsideA.mk (below_call BB.out hq); clear BB hq; have BB := B1; clear B1) | (refine (P5.out _ _ (BB.out.alloc BB.out.size _) (heap_alloc_new _ _)).mono ?_; rintro e w3 ⟨rfl, hq⟩; have B1 := AsideA.mk (below_call (BB.out.alloc BB.out.size _) hq); clear BB hq; have BB := B1; clear B1))))
  go_ret
  exact ⟨rfl, BB.out⟩
end Go.Proofs.YtccmeiflahnleaaDoor.A
