/-
  slices.Clip; sums.Put.
-/
import Derived.Test.YtccmeiflahnleaaDoorS4
namespace Go.Proofs.YtccmeiflahnleaaDoor.A
set_option linter.unusedVariables false
set_option linter.unusedSimpArgs false
open Go.RowKit

set_option maxHeartbeats 1000000 in
set_option maxRecDepth 100000 in
theorem xclip (g n cap : Nat) (h : n ≤ cap) (w : World) : Calls Tryd.prog 34 #[.slice (some ⟨g, 0, none⟩) n cap] w fun e w' => e = .returned (.slice (some ⟨g, 0, none⟩) n n) ∧ Below w.heap.size w w' := by
  have BB := AsideA.mk (Below.refl w.heap.size w)
  go_enter Tryd.func34, Tryd.ntmps34
  go_wp2
  go_ret
  exact ⟨by simp, BB.out⟩

theorem Fill.later {w wr wz : World} {g cap : Nat} {bs : List Nat} (h : Fill w wr g cap bs) (k : Below wr.heap.size wr wz) : Fill w wz g cap bs :=
  ⟨by obtain ⟨t, h1, h2⟩ := h.blk; exact ⟨t, blk_below h1 k, h2⟩, h.ge, below_call h.below k⟩
theorem Fill.start {w W wr : World} {g cap : Nat} {bs : List Nat} (h : Fill W wr g cap bs) (k : Below w.heap.size w W) : Fill w wr g cap bs :=
  ⟨h.blk, Nat.le_trans k.size h.ge, below_call k h.below⟩
theorem Fill.room {w wr : World} {g cap : Nat} {bs : List Nat} (h : Fill w wr g cap bs) : bs.length ≤ cap := by
  obtain ⟨t, h1, h2⟩ := h.blk
  omega

/-- what Put hands back: the bytes, their sum behind them -/
def withSum (bs : List Nat) : List Nat := bs ++ four (crc 0 bs)
theorem withSum_len (bs : List Nat) : (withSum bs).length = bs.length + 4 := by unfold withSum four; simp

set_option maxHeartbeats 2000000 in
set_option maxRecDepth 100000 in
theorem xput (A : Option Addr) (c : Nat) (bs : List Nat) (w : World) (B : Bytes w A bs) (hlen : (bs.length : Int) ≤ 1099511627700) (T : TabAt w) : Calls Tryd.prog 12 #[.slice A bs.length c] w fun e w' => ∃ g cap, e = .returned (.slice (some ⟨g, 0, none⟩) (bs.length + 4) (bs.length + 4)) ∧ Fill w w' g cap (withSum bs) := by
  have HO := AsideA.mk (xof A c bs w B T)
  have HF := AsideA.mk (xfour (crc 0 bs))
  have HB := AsideA.mk B
  have eall : all [⟨A, c, bs⟩, ⟨none, 4, four (crc 0 bs)⟩] = withSum bs := by simp [all, withSum]
  have HC := AsideA.mk (fun (g g5 : Nat) (wz : World) (R : Reads wz (some ⟨g, 0, none⟩) (enc22 [⟨A, c, bs⟩, ⟨some ⟨g5, 0, none⟩, 4, four (crc 0 bs)⟩])) (h1 : Bytes wz A bs) (h2 : Bytes wz (some ⟨g5, 0, none⟩) (four (crc 0 bs))) =>
    xconcat [⟨A, c, bs⟩, ⟨some ⟨g5, 0, none⟩, 4, four (crc 0 bs)⟩] g 0 2 wz R (by simp; exact ⟨h1, h2⟩) (by simp [all, four]) (by simp [all, four]; omega) (by simp))
  have eall2 : ∀ g5 : Nat, all [⟨A, c, bs⟩, ⟨some ⟨g5, 0, none⟩, 4, four (crc 0 bs)⟩] = withSum bs := fun g5 => by simp [all, withSum]
  simp only [eall2, withSum_len] at HC
  clear B T eall eall2
  obtain ⟨n, hn⟩ : ∃ n, n = bs.length := ⟨_, rfl⟩
  have HN := AsideA.mk hn
  rw [← hn] at HO HC ⊢
  clear hn hlen
  go_enter Tryd.func12, Tryd.ntmps12
  go_wp2_with (first | (go_at_call 13; refine HO.out.mono ?_; rintro e w1 ⟨rfl, h1⟩) | (go_at_call 36; refine (HF.out _).mono ?_; rintro e w2 ⟨g5, rfl, h2, h3, h4⟩) | (go_at_call 35; (refine (HC.out w2.heap.size g5 _ (Reads.of_block (heap_alloc_new _ _) _ ?r1) ((HB.out.below (below_call h1 h4)).below ((Below.refl w2.heap.size w2).alloc (Nat.le_refl _) _)) ⟨Reads.of_block (blk_below h2 ((Below.refl w2.heap.size w2).alloc (Nat.le_refl _) _)) _ ?r2, four_small _, by show (4 : Int) ≤ _; decide⟩).mono ?_); (case r1 => intro j u hj; rw [Nat.zero_add, ← hj]; simp [enc22, four, HN.out]); (case r2 => intro j u hj; rw [Nat.zero_add, List.getElem?_toArray]; exact hj); rintro e w3 ⟨g, cap, rfl, F⟩) | (go_at_call 34; refine (xclip g (n + 4) cap ?hcap _).mono ?_; (case hcap => have := F.room; rw [withSum_len] at this; have := HN.out; omega); rintro e w4 ⟨rfl, h5⟩))
  go_ret
  exact ⟨g, cap, rfl, (F.start ((below_call h1 h4).alloc (below_call h1 h4).size _)).later h5⟩
end Go.Proofs.YtccmeiflahnleaaDoor.A
