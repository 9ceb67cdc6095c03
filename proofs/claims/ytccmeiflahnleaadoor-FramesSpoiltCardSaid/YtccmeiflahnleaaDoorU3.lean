/-
  Copies of bytes with room behind (countinghouselaw01.twin), lists that are the same, a copy that was left as it was: for bytes.
-/
import Derived.Test.YtccmeiflahnleaaDoorU2
namespace Go.Proofs.YtccmeiflahnleaaDoor.A
set_option linter.unusedVariables false
set_option linter.unusedSimpArgs false
open Go.RowKit

theorem twin_first (xs : List Value) (n : Nat) (zs : Array Value) (hz : zs.size = n + 2) (hn : xs.length = n) : ((zs.toList.take (0 * 1)) ++ xs ++ zs.toList.drop (0 * 1 + xs.length)).toArray = (xs ++ zs.toList.drop n).toArray := by
  simp [hn]
theorem twin_second (xs : List Value) (n : Nat) (zs : Array Value) (m1 m2 : Value) (hz : zs.size = n + 2) (hn : xs.length = n) : (((xs ++ zs.toList.drop n).toArray.toList.take (n * 1)) ++ [m1, m2] ++ (xs ++ zs.toList.drop n).toArray.toList.drop (n * 1 + [m1, m2].length)).toArray = (xs ++ [m1, m2]).toArray := by
  subst hn
  simp only [Nat.mul_one, List.take_left', List.length_cons, List.length_nil]
  rw [List.drop_eq_nil_of_le (by simp; omega), List.append_nil]

set_option maxHeartbeats 2000000 in
set_option maxRecDepth 100000 in
theorem twin8 (A : Option Addr) (c : Nat) (xs : List Nat) (mark : Int) (w : World) (R : Reads w A (enc8 xs)) (hlen : (xs.length : Int) ≤ 1099511627700) : Calls Tryd.prog 33 #[.slice A xs.length c, .int .u8 mark] w fun e w' => ∃ g, e = .returned (.slice (some ⟨g, 0, none⟩) xs.length (xs.length + 2)) ∧ w'.heap[g]? = some (.cells (enc8 xs ++ [Value.int .u8 mark, Value.int .u8 mark]).toArray 5 (0, 0)) ∧ w.heap.size ≤ g ∧ Below w.heap.size w w' := by
  have HR := AsideA.mk R
  clear R
  obtain ⟨len, hl⟩ : ∃ len, len = xs.length := ⟨_, rfl⟩
  rw [← hl] at hlen ⊢
  have HE : AsideA ((enc8 xs).length = len) := ⟨by rw [enc8_len, hl]⟩
  clear hl
  go_enter Tryd.func33, Tryd.ntmps33
  have hz1 : (madeCells (Value.int .u8 0).cells ((len + 2) * 1)).size = len + 2 := by rw [size_madeCells, Nat.mul_one]
  have HZ := AsideA.mk hz1
  have HF := AsideA.mk (show 0 * 1 + (enc8 xs).length ≤ (madeCells (Value.int .u8 0).cells ((len + 2) * 1)).size by rw [hz1, HE.out]; omega)
  have HZ2 := AsideA.mk (show len * 1 + 2 ≤ (enc8 xs ++ (madeCells (Value.int .u8 0).cells ((len + 2) * 1)).toList.drop len).toArray.size by
    have e1 := HE.out
    have e2 : (madeCells (Value.int .u8 0).cells ((len + 2) * 1)).toList.length = len + 2 := hz1
    rw [List.size_toArray, List.length_append, List.length_drop, e2, e1]
    omega)
  have HL := AsideA.mk (show (enc8 xs).length = len * 1 by rw [Nat.mul_one]; exact HE.out)
  clear hz1
  go_wp2_with (first | ((with_reducible refine gate (N := 9) rfl ?_); refine make_new 22 5 _ _ rfl rfl Tryd.underlying22 (.int .u8 0) 1 1 info5z _ _ (len + 2) rfl _ rfl (by omega) (by omega) (by omega) ?_; intro g1 w1 N1) | ((with_reducible refine gate (N := 12) rfl ?_); refine append_put 22 5 (.tmp 10) (.tmp 11) rfl rfl 1 Tryd.underlying22 info5s g1 0 (len + 2) rfl _ N1.blk A len c rfl (enc8 xs) HL.out (by decide) (HR.out.below N1.below) (enc8_one xs) (by omega) HF.out _ (twin_first _ len _ HZ.out HE.out) ?_; intro w2 b2 u2; rw [Nat.zero_add]) | ((with_reducible refine gate (N := 17) rfl ?_); go_loud (refine append_put 22 5 (.tmp 13) (.tmp 16) rfl rfl 1 Tryd.underlying22 info5s g1 len (len + 2) rfl _ (blk_below b2 ((Below.refl w2.heap.size w2).alloc (Nat.le_refl _) _)) _ 2 _ rfl [.int .u8 mark, .int .u8 mark] rfl (by decide) (Reads.of_block (heap_alloc_new _ _) _ (fun j u h => by rw [Nat.zero_add, ← h]; simp)) (by simp [Value.oneCell']) (by omega) HZ2.out _ (twin_second _ len _ _ _ HZ.out HE.out) ?_); intro w3 b3 u3))
  go_ret
  exact ⟨g1, rfl, b3, N1.ge (Below.refl _ _), u3.below (below_call (u2.below (below_new (Below.refl _ _) N1) (N1.ge (Below.refl _ _))) ((Below.refl w2.heap.size w2).alloc (Nat.le_refl _) _)) (N1.ge (Below.refl _ _))⟩

/-- a copy of bytes, with its room -/
structure Twin8 (w wr : World) (g : Nat) (xs : List Nat) : Prop where
  blk : wr.heap[g]? = some (.cells (enc8 xs ++ [Value.int .u8 195, Value.int .u8 195]).toArray 5 (0, 0))
  ge : w.heap.size ≤ g
  below : Below w.heap.size w wr
theorem Twin8.later {w wr wz : World} {g : Nat} {xs : List Nat} (h : Twin8 w wr g xs) (hb : Below wr.heap.size wr wz) : Twin8 w wz g xs :=
  ⟨blk_below h.blk hb, h.ge, below_call h.below hb⟩
theorem Twin8.bytes {w wr : World} {g : Nat} {xs : List Nat} (h : Twin8 w wr g xs) (hs : ∀ b ∈ xs, b < 256) (hl : (xs.length : Int) ≤ 1099511627776) : Bytes wr (some ⟨g, 0, none⟩) xs := Bytes.of_block h.blk hs hl

set_option maxHeartbeats 2000000 in
set_option maxRecDepth 100000 in
theorem twin_bytes (A : Option Addr) (c : Nat) (xs : List Nat) (w : World) (R : Reads w A (enc8 xs)) (hlen : (xs.length : Int) ≤ 1099511627700) : Calls Tryd.prog 11 #[.slice A xs.length c] w fun e w' => ∃ g, e = .returned (.slice (some ⟨g, 0, none⟩) xs.length (xs.length + 2)) ∧ Twin8 w w' g xs := by
  have T := AsideA.mk (twin8 A c xs 195 w R hlen)
  clear R
  generalize xs.length = len at *
  go_enter Tryd.func11, Tryd.ntmps11
  go_wp2_with (go_at_call 33; refine T.out.mono ?_; rintro e wq ⟨g, rfl, h1, h2, h3⟩; have CC := AsideA.mk (Twin8.mk h1 h2 h3); clear h1 h2 h3)
  go_ret
  exact ⟨g, rfl, CC.out⟩

theorem same_ne (A B : Option Addr) (n m c d : Nat) (h : n ≠ m) (w : World) : Calls Tryd.prog 37 #[.slice A n c, .slice B m d] w fun e w' => e = .returned (.bool false) ∧ Below w.heap.size w w' := by
  have BB := AsideA.mk (Below.refl w.heap.size w)
  have h1 : ((n : Int) == (m : Int)) = false := beq_eq_false_iff_ne.mpr (by omega)
  have h2 : ((n : Int) != (m : Int)) = true := by rw [bne, h1]; rfl
  clear h
  go_enter Tryd.func37, Tryd.ntmps37
  go_wp2
  go_ret
  exact ⟨rfl, BB.out⟩
set_option maxHeartbeats 2000000 in
set_option maxRecDepth 100000 in
theorem same_len (A B : Option Addr) (c d : Nat) (a b : List Nat) (hl : a.length = b.length) (w : World) (RA : Bytes w A a) (RB : Bytes w B b) : Calls Tryd.prog 37 #[.slice A a.length c, .slice B a.length d] w fun e w' => e = .returned (.bool (decide (a = b))) ∧ Below w.heap.size w w' := by
  have HA := AsideA.mk RA
  have HB := AsideA.mk RB
  have hlen := RA.len
  clear RA RB
  obtain ⟨len, hn⟩ : ∃ len, len = a.length := ⟨_, rfl⟩
  rw [← hn] at hlen ⊢
  have HL := AsideA.mk hn
  have HL2 := AsideA.mk (hn.trans hl)
  clear hn hl
  go_enter Tryd.func37, Tryd.ntmps37
  go_wp2
  go_loopw [5] (fun i wr => ∃ k : Nat, k ≤ len ∧ i = .int .i64 k ∧ AsideA (Below w.heap.size w wr ∧ a.take k = b.take k)) (fun i _ => len - (intOf i).toNat)
  case atStart => exact ⟨0, by omega, rfl, ⟨Below.refl _ _, by simp⟩⟩
  case round =>
    obtain ⟨k, hk, rfl, I⟩ := hrel
    by_cases hlt : k < len
    · obtain ⟨g, off, x, hA, hc, hx, hxa⟩ := (HA.out.below I.out.1).get k (by have := HL.out; omega)
      obtain ⟨g', off', y, hB, hd, hy, hyb⟩ := (HB.out.below I.out.1).get k (by have := HL2.out; omega)
      have ST := AsideA.mk (take_eq_step I.out.2 hxa hyb)
      subst hA hB
      clear hxa hyb hx hy
      by_cases hxy : x = y
      · subst hxy
        go_wp2
        go_quiet (fail)
        go_wp2
        exact ⟨⟨k + 1, by omega, by go_num, ⟨⟨I.out.1.os, I.out.1.tape, I.out.1.output, I.out.1.size, I.out.1.block⟩, ST.out.mpr trivial⟩⟩, by simp [intOf]; omega⟩
      · have hxb : ((x : Int) == (y : Int)) = false := beq_eq_false_iff_ne.mpr (by omega)
        have hxc : ((x : Int) != (y : Int)) = true := by rw [bne, hxb]; rfl
        have NE : AsideA (decide (a = b) = false) := ⟨decide_eq_false fun h => hxy (ST.out.mp (by rw [h]))⟩
        go_wp2
        go_quiet (fail)
        go_wp2
        go_ret
        exact ⟨by rw [NE.out]; rfl, ⟨I.out.1.os, I.out.1.tape, I.out.1.output, I.out.1.size, I.out.1.block⟩⟩
    · have e1 : a.take k = a := List.take_of_length_le (by have := HL.out; omega)
      have e2 : b.take k = b := List.take_of_length_le (by have := HL2.out; omega)
      have EQ : AsideA (decide (a = b) = true) := ⟨decide_eq_true (by rw [← e1, ← e2]; exact I.out.2)⟩
      clear e1 e2
      go_wp2
      go_ret
      exact ⟨by rw [EQ.out]; rfl, I.out.1⟩
theorem same8 (A B : Option Addr) (c d : Nat) (a b : List Nat) (w : World) (RA : Bytes w A a) (RB : Bytes w B b) : Calls Tryd.prog 37 #[.slice A a.length c, .slice B b.length d] w fun e w' => e = .returned (.bool (decide (a = b))) ∧ Below w.heap.size w w' := by
  by_cases hl : a.length = b.length
  · rw [← hl]
    exact same_len A B c d a b hl w RA RB
  · rw [decide_eq_false (fun h => hl (by rw [h]))]
    exact same_ne A B _ _ c d hl w
set_option maxHeartbeats 1000000 in
set_option maxRecDepth 100000 in
theorem same_bytes (A B : Option Addr) (c d : Nat) (a b : List Nat) (w : World) (RA : Bytes w A a) (RB : Bytes w B b) : Calls Tryd.prog 16 #[.slice A a.length c, .slice B b.length d] w fun e w' => e = .returned (.bool (decide (a = b))) ∧ Below w.heap.size w w' := by
  have S := AsideA.mk (same8 A B c d a b w RA RB)
  clear RA RB
  generalize a.length = n at *
  generalize b.length = m at *
  generalize decide (a = b) = r at *
  go_enter Tryd.func16, Tryd.ntmps16
  go_wp2_with (go_at_call 37; refine S.out.mono ?_; rintro e wq ⟨rfl, hq⟩; have BN := AsideA.mk hq; clear hq)
  go_ret
  exact ⟨rfl, BN.out⟩

set_option maxHeartbeats 2000000 in
set_option maxRecDepth 100000 in
theorem left8 (A : Option Addr) (c g : Nat) (xs : List Nat) (w : World) (RA : Bytes w A xs) (hg : w.heap[g]? = some (.cells (enc8 xs ++ [Value.int .u8 195, Value.int .u8 195]).toArray 5 (0, 0))) :
    Calls Tryd.prog 39 #[.slice (some ⟨g, 0, none⟩) xs.length (xs.length + 2), .slice A xs.length c, .int .u8 195] w fun e w' => e = .returned (.bool true) ∧ Below w.heap.size w w' := by
  have hlen := RA.len
  have S := AsideA.mk (same8 (some ⟨g, 0, none⟩) A (xs.length + 2) c xs xs w (Bytes.of_block hg RA.small RA.len) RA)
  rw [decide_eq_true rfl] at S
  have hc0 : ∀ wz, Below w.heap.size w wz → wz.cell? ⟨g, xs.length, none⟩ = some (.int .u8 195) ∧ wz.cell? ⟨g, xs.length + 1, none⟩ = some (.int .u8 195) := fun wz hb => by
    have h2 := blk_below hg hb
    rw [blk_cell h2, blk_cell h2]
    simp only [List.getElem?_toArray]
    rw [List.getElem?_append_right (by rw [enc8_len]; omega), List.getElem?_append_right (by rw [enc8_len]; omega), enc8_len]
    simp
  have HC := AsideA.mk hc0
  clear RA hg hc0
  generalize xs.length = len at *
  go_enter Tryd.func39, Tryd.ntmps39
  go_wp2_with (go_at_call 37; refine S.out.mono ?_; rintro e wq ⟨rfl, hq⟩; obtain ⟨x0, x1⟩ := HC.out wq hq; have BN := AsideA.mk hq; clear hq)
  go_ret
  exact ⟨rfl, BN.out⟩
set_option maxHeartbeats 1000000 in
set_option maxRecDepth 100000 in
theorem left_bytes (A : Option Addr) (c g : Nat) (xs : List Nat) (w : World) (RA : Bytes w A xs) (hg : w.heap[g]? = some (.cells (enc8 xs ++ [Value.int .u8 195, Value.int .u8 195]).toArray 5 (0, 0))) :
    Calls Tryd.prog 20 #[.slice (some ⟨g, 0, none⟩) xs.length (xs.length + 2), .slice A xs.length c] w fun e w' => e = .returned (.bool true) ∧ Below w.heap.size w w' := by
  have S := AsideA.mk (left8 A c g xs w RA hg)
  clear RA hg
  generalize xs.length = len at *
  go_enter Tryd.func20, Tryd.ntmps20
  go_wp2_with (go_at_call 39; refine S.out.mono ?_; rintro e wq ⟨rfl, hq⟩; have BN := AsideA.mk hq; clear hq)
  go_ret
  exact ⟨rfl, BN.out⟩
end Go.Proofs.YtccmeiflahnleaaDoor.A

