/-
  The reference's graph: set (countinghouseref05.Graph.set).
-/
import Derived.Test.YtjopmkfpghdlpaaN1
import Derived.Test.YtjopmkfpghdlpaaX1
import Derived.Test.YtjopmkfpghdlpaaQ8
namespace Go.Proofs.Ytjopmkfpghdlpaa.A
set_option linter.unusedVariables false
set_option linter.unusedSimpArgs false
open Go.RowKit

theorem fl1_pos {cp : List Int} {a b : Nat} {v : Int} (h : gi cp (a * 17 + b) = v) (hv : 0 < v) : fl1 cp (a, b) = [⟨a, b, v⟩] := by
  subst h
  unfold fl1
  exact if_pos hv
theorem fl1_not {cp : List Int} {a b : Nat} {v : Int} (h : gi cp (a * 17 + b) = v) (hv : ¬ 0 < v) : fl1 cp (a, b) = [] := by
  subst h
  unfold fl1
  exact if_neg hv
theorem own_step {w : World} {base n a b : Nat} {e : TypeId} {v : Value} {cp : List Int} {x : Int} (h : w.ownsRow base e 3 v n (encF (flo cp (ps16.take ((a - 1) * 16 + (b - 1)))) ++ encF [⟨a, b, x⟩])) (ha : 1 ≤ a) (ha2 : a ≤ 16) (hb : 1 ≤ b) (hb2 : b ≤ 16) (hx : gi cp (a * 17 + b) = x) (h0 : 0 < x) : w.ownsRow base e 3 v n (encF (flo cp (ps16.take ((a - 1) * 16 + (b + 1 - 1))))) := by
  rw [show (a - 1) * 16 + (b + 1 - 1) = (a - 1) * 16 + (b - 1) + 1 by omega, flo_step16 cp a b ha ha2 hb hb2, fl1_pos hx h0, encF_append]
  exact h
theorem own_keep {w : World} {base n a b : Nat} {e : TypeId} {v : Value} {cp : List Int} {x : Int} (h : w.ownsRow base e 3 v n (encF (flo cp (ps16.take ((a - 1) * 16 + (b - 1)))))) (ha : 1 ≤ a) (ha2 : a ≤ 16) (hb : 1 ≤ b) (hb2 : b ≤ 16) (hx : gi cp (a * 17 + b) = x) (h0 : ¬ 0 < x) : w.ownsRow base e 3 v n (encF (flo cp (ps16.take ((a - 1) * 16 + (b + 1 - 1))))) := by
  rw [show (a - 1) * 16 + (b + 1 - 1) = (a - 1) * 16 + (b - 1) + 1 by omega, flo_step16 cp a b ha ha2 hb hb2, fl1_not hx h0, List.append_nil]
  exact h
/-- how the new row stands -/
structure StAt (w wr : World) (v : Value) (n : Nat) (xs : List Fl) : Prop where
  own : wr.ownsRow w.heap.size 32 3 v n (encF xs)
  below : Below w.heap.size w wr
theorem StAt.later {w wr w1 : World} {n : Nat} {xs : List Fl} {v : Value} (h : StAt w wr v n xs) (k : Below wr.heap.size wr w1) : StAt w w1 v n xs := ⟨own_below h.own k, below_call h.below k⟩
theorem StAt.push {w wr W w6 : World} {n k : Nat} {xs : List Fl} {x : Fl} {v v2 : Value} (h : StAt w wr v n xs) (b : Below wr.heap.size wr W) (o : w6.ownsRow w.heap.size 32 3 v2 k (encF xs ++ encF [x])) (g6 : W.grownBy w6 v.ownBlock) : StAt w w6 v2 k (xs ++ [x]) := by
  have h' := h.later b
  exact ⟨by rw [encF_append]; exact o, below_grown h'.below h'.below.size h'.own g6⟩
theorem StAt.few {w wr : World} {n k : Nat} {cp : List Int} {v : Value} (h : StAt w wr v n (flo cp (ps16.take k))) : n ≤ 256 := by
  have h1 := h.own.1
  rw [encF_len] at h1
  have := flo_len16 cp k
  omega
theorem StAt.next {w wr : World} {n a b : Nat} {cp : List Int} {v : Value} {x : Int} (h : StAt w wr v n (flo cp (ps16.take ((a - 1) * 16 + (b - 1))) ++ [⟨a, b, x⟩])) (ha : 1 ≤ a ∧ a ≤ 16) (hb : 1 ≤ b ∧ b ≤ 16) (hx : gi cp (a * 17 + b) = x) (h0 : 0 < x) : StAt w wr v n (flo cp (ps16.take ((a - 1) * 16 + (b + 1 - 1)))) := by
  rw [show (a - 1) * 16 + (b + 1 - 1) = (a - 1) * 16 + (b - 1) + 1 by omega, flo_step16 cp a b ha.1 ha.2 hb.1 hb.2, fl1_pos hx h0]
  exact h
theorem StAt.skip {w wr : World} {n a b : Nat} {cp : List Int} {v : Value} {x : Int} (h : StAt w wr v n (flo cp (ps16.take ((a - 1) * 16 + (b - 1))))) (ha : 1 ≤ a ∧ a ≤ 16) (hb : 1 ≤ b ∧ b ≤ 16) (hx : gi cp (a * 17 + b) = x) (h0 : x ≤ 0) : StAt w wr v n (flo cp (ps16.take ((a - 1) * 16 + (b + 1 - 1)))) := by
  rw [show (a - 1) * 16 + (b + 1 - 1) = (a - 1) * 16 + (b - 1) + 1 by omega, flo_step16 cp a b ha.1 ha.2 hb.1 hb.2, fl1_not hx (by omega), List.append_nil]
  exact h

theorem sz_set (w : World) (a : Addr) (v : Value) : (w.setCell a v).heap.size = w.heap.size := by simp
theorem reads_built_at {w : World} {n : Nat} (t : TypeId) (cs : List Value) (h : w.heap.size = n) : Reads (w.alloc (.cells cs.toArray t (0, 0))) (some ⟨n, 0, none⟩) cs := h ▸ reads_built w t cs
theorem set_n {w : World} {ge a b : Nat} {v : Int} (h : w.heap[ge]? = some (.cells (encW ⟨a, b, v⟩) 32 (0, 0))) (n : Int) : (w.setCell ⟨ge, 2, none⟩ (.int .i64 n)).heap[ge]? = some (.cells (encW ⟨a, b, n⟩) 32 (0, 0)) := by
  rw [blk_set h]
  rfl
theorem StAt.cell {w wr : World} {g n : Nat} {es xs : List Fl} {v : Value} (h : StAt w wr v n xs) (H : RgAt w g es) : wr.frozen? ⟨g, 0, none⟩ = false ∧ ∃ u, wr.cell? ⟨g, 0, none⟩ = some u := by
  obtain ⟨A, c, h1, h2⟩ := H.blk
  have hb := blk_below h1 h.below
  exact ⟨blk_frozen hb 0, _, (blk_cell hb 0).trans rfl⟩
theorem StAt.put {w wr : World} {g n c : Nat} {A : Option Addr} {es : List Fl} {cq : List Int} (h : StAt w wr (.slice A n c) n (flo cq ps16)) (H : RgAt w g es) (hq : ∀ i, 0 ≤ gi cq i ∧ gi cq i ≤ 2199023255552) : RgAt (wr.setCell ⟨g, 0, none⟩ (.slice A n c)) g (flo cq ps16) ∧ w.grownBy (wr.setCell ⟨g, 0, none⟩ (.slice A n c)) (some g) := by
  obtain ⟨A0, c0, h1, h2⟩ := H.blk
  have hb := blk_below h1 h.below
  have hlen := h.own.1
  rw [encF_len] at hlen
  have hn : n = (flo cq ps16).length := by omega
  have hne := own_ne h.own hb (by decide)
  refine ⟨⟨A, c, by rw [blk_set hb, ← hn]; rfl, own_reads (own_set h.own hne), fun x hx => ?_, ?_⟩, ?_⟩
  · obtain ⟨p, hp, e1, e2, e3, e4⟩ := mem_flo hx
    obtain ⟨i, hi, rfl⟩ := List.mem_map.1 hp
    have hi' := List.mem_range.1 hi
    have := hq (x.f * 17 + x.t)
    unfold Fl.wf
    simp only at e1 e2
    omega
  · have := flo_len cq ps16
    rw [ps16_len] at this
    omega
  · exact grown_upd (grown_below (World.grownBy.refl w _) h.below) (Upd.setCell wr g 0 _)

set_option maxHeartbeats 16000000 in
set_option maxRecDepth 100000 in
theorem ref_set (g : Nat) (cp : List Int) (f t : Nat) (n : Int) (w : World) (H : RgAt w g (flo cp ps16)) (hl : cp.length = 289) (hp : ∀ i, 0 ≤ gi cp i ∧ gi cp i ≤ 2199023255552) (hf1 : 1 ≤ f) (hf2 : f ≤ 16) (ht1 : 1 ≤ t) (ht2 : t ≤ 16) (hn0 : 0 ≤ n) (hn : n ≤ 2199023255552) :
    Calls Try.prog 54 #[.pointer (some ⟨g, 0, none⟩), .int .u8 (f : Int), .int .u8 (t : Int), .int .i64 n] w fun e w' => e = .returned (.tuple #[]) ∧ RgAt w' g (flo (cp.set (f * 17 + t) n) ps16) ∧ w.grownBy w' (some g) := by
  obtain ⟨cq, hcq⟩ : ∃ cq, cq = cp.set (f * 17 + t) n := ⟨_, rfl⟩
  have HQ := AsideA.mk (fun (a b : Nat) (ha : 1 ≤ a ∧ a ≤ 16) (hb : 1 ≤ b ∧ b ≤ 16) => show gi cq (a * 17 + b) = if a = f ∧ b = t then n else findF (flo cp ps16) a b from by
    rw [hcq, gi_set _ _ _ _ (by omega), find_flo ha.1 ha.2 hb.1 hb.2 (hp _).1]
    by_cases h : a = f ∧ b = t
    · rw [if_pos h, if_pos (by rw [h.1, h.2])]
    · rw [if_neg h, if_neg (fun e => h (by omega))])
  have HQB : AsideA (∀ i, 0 ≤ gi cq i ∧ gi cq i ≤ 2199023255552) := ⟨fun i => by rw [hcq, gi_set _ _ _ _ (by omega)]; split; exact ⟨hn0, hn⟩; exact hp i⟩
  rw [← hcq]
  have HG := AsideA.mk H
  have I0 : AsideA (StAt w w (.slice none 0 0) 0 (flo cq (ps16.take 0))) := ⟨⟨own_nil _ _ _ _, Below.refl _ _⟩⟩
  have CC := AsideA.mk (fun (wz : World) (a b : Nat) (h : Below w.heap.size w wz) => ref_cap g (flo cp ps16) a b wz (H.below h))
  have HBX := AsideA.mk (fun (W : World) (ge a b : Nat) (m : Int) (h : W.heap[ge]? = some (.cells (encW ⟨a, b, m⟩) 32 (0, 0))) => show (W.cell? ⟨ge, 0, none⟩ = some (.int .u8 (a : Int)) ∧ W.cell? ⟨ge, 1, none⟩ = some (.int .u8 (b : Int)) ∧ W.cell? ⟨ge, 2, none⟩ = some (.int .i64 m)) ∧ W.frozen? ⟨ge, 2, none⟩ = false from ⟨⟨(blk_cell h 0).trans rfl, (blk_cell h 1).trans rfl, (blk_cell h 2).trans rfl⟩, blk_frozen h 2⟩)
  clear H hcq hp hl
  go_enter Try.func54, Try.ntmps54
  go_wp2_with fail
  go_loopw [8, 9] (fun ov av wr => ∃ (a m c : Nat) (A : Option Addr), 1 ≤ a ∧ a ≤ 17 ∧ av = .int .u8 (a : Int) ∧ ov = .slice A m c ∧ AsideA (StAt w wr ov m (flo cq (ps16.take ((a - 1) * 16))))) (fun _ av _ => 17 - (intOf av).toNat)
  case atStart => exact ⟨1, 0, 0, none, by omega, by omega, rfl, rfl, I0⟩
  case round =>
    clear I0
    obtain ⟨a, m, c, A, ha1, ha2, rfl, rfl, I⟩ := hrel
    by_cases hlt : a ≤ 16
    · have dl : decide ((a : Int) ≤ 16) = true := decide_eq_true (by omega)
      go_wp2
      go_loopw [8, 10] (fun ov bv wr => ∃ (b m c : Nat) (A : Option Addr), 1 ≤ b ∧ b ≤ 17 ∧ bv = .int .u8 (b : Int) ∧ ov = .slice A m c ∧ AsideA (StAt w wr ov m (flo cq (ps16.take ((a - 1) * 16 + (b - 1)))))) (fun _ bv _ => 17 - (intOf bv).toNat)
      case atStart => exact ⟨1, m, c, A, by omega, by omega, rfl, rfl, I⟩
      case round =>
        clear I
        obtain ⟨b, m, c, A, hb1, hb2, rfl, rfl, I⟩ := hrel
        by_cases hlt2 : b ≤ 16
        · have dl2 : decide ((b : Int) ≤ 16) = true := decide_eq_true (by omega)
          have hm := I.out.few
          have QX := AsideA.mk (HQ.out a b ⟨ha1, hlt⟩ ⟨hb1, hlt2⟩)
          have C56 := AsideA.mk (CC.out _ a b I.out.below)
          have RA := AsideA.mk (And.intro ha1 hlt)
          have RB := AsideA.mk (And.intro hb1 hlt2)
          generalize findF (flo cp ps16) a b = v at *
          by_cases he : a = f ∧ b = t
          · have QN : AsideA (gi cq (a * 17 + b) = n) := ⟨by rw [QX.out, if_pos he]⟩
            obtain ⟨rfl, rfl⟩ := he
            clear QX
            by_cases hv : 0 < n
            · have dv : decide (0 < n) = true := decide_eq_true hv
              have HV := AsideA.mk hv
              clear hv
              go_wp2_with (first
                | (go_at_call 56; refine C56.out.mono ?_; rintro e w' ⟨rfl, rfl⟩)
                | ((with_reducible refine gate (N := 11) rfl ?_); refine alloc_new 32 rfl rfl _ zero32 _ rfl ?_; intro ge w4 N4)
                | (refine store_at 32 (.tmp 11) (.tmp 26) rfl rfl ge 0 rfl (encW ⟨a, b, v⟩) rfl _ _ N4.blk info32s (Nat.le_refl 3) (encW_one _) (encW ⟨a, b, v⟩) (splice_all _ _ rfl) ?_; intro w5 b5 u5; have B5 := AsideA.mk (below_setb (j := 2) (v := .int .i64 n) (u5.below N4.below (Nat.le_of_eq N4.at_.symm)) (Nat.le_of_eq N4.at_.symm)); obtain ⟨⟨e0, e1, e2⟩, e3⟩ := HBX.out w5 ge a b v b5; have HB5 := AsideA.mk (set_n b5 n); clear b5 u5 N4)
                | ((with_reducible refine gate (N := 41) rfl ?_); refine load_at 32 (.tmp 11) rfl rfl ge 0 rfl #[.int .u8 (a : Int), .int .u8 (b : Int), .int .i64 n] _ Try.underlying32 rfl info32s (fun j hj => by rw [Nat.zero_add]; exact blk_cell HB5.out j) ?_)
                | ((with_reducible refine gate (N := 43) rfl ?_); go_loud (refine append_own _ 22 _ _ rfl rfl w.heap.size 32 _ 3 16 Try.underlying22 info32 rfl (by decide) (.slice A m c) m (encF (flo cq (ps16.take ((a - 1) * 16 + (b - 1))))) rfl (own_alloc (own_below I.out.own B5.out) _) (some ⟨w5.heap.size, 0, none⟩) 1 1 (encF [⟨a, b, n⟩]) rfl rfl (reads_built_at (w := w5.setCell ⟨ge, 2, none⟩ (.int .i64 n)) 32 (encF [⟨a, b, n⟩]) (sz_set _ _ _)) (encF_one _) (by simp only [maxLen]; omega) (by omega) (Nat.le_trans (below_call I.out.below B5.out).size ((Below.refl _ (w5.setCell ⟨ge, 2, none⟩ (.int .i64 n))).alloc (Nat.le_refl _) _).size) ?_); intro v6 w6 o6 g6 p6; obtain ⟨A6, c6, e6⟩ := own_form o6; subst e6; have S6 := AsideA.mk (StAt.next (I.out.push (B5.out.alloc B5.out.size _) o6 g6) RA.out RB.out QN.out HV.out); clear o6 g6 p6))
              exact ⟨⟨b + 1, _, _, _, by omega, by omega, by go_num, rfl, S6⟩, by simp [intOf]; omega⟩
            · have dv : decide (0 < n) = false := decide_eq_false hv
              have HV := AsideA.mk (show n ≤ 0 by omega)
              clear hv
              go_wp2_with (first
                | (go_at_call 56; refine C56.out.mono ?_; rintro e w' ⟨rfl, rfl⟩)
                | ((with_reducible refine gate (N := 11) rfl ?_); refine alloc_new 32 rfl rfl _ zero32 _ rfl ?_; intro ge w4 N4)
                | (refine store_at 32 (.tmp 11) (.tmp 26) rfl rfl ge 0 rfl (encW ⟨a, b, v⟩) rfl _ _ N4.blk info32s (Nat.le_refl 3) (encW_one _) (encW ⟨a, b, v⟩) (splice_all _ _ rfl) ?_; intro w5 b5 u5; have B5 := AsideA.mk (below_setb (j := 2) (v := .int .i64 n) (u5.below N4.below (Nat.le_of_eq N4.at_.symm)) (Nat.le_of_eq N4.at_.symm)); obtain ⟨⟨e0, e1, e2⟩, e3⟩ := HBX.out w5 ge a b v b5; have S5 := AsideA.mk (StAt.skip (I.out.later B5.out) RA.out RB.out QN.out HV.out); clear b5 u5 N4))
              exact ⟨⟨b + 1, _, _, _, by omega, by omega, by go_num, rfl, S5⟩, by simp [intOf]; omega⟩
          · have QN : AsideA (gi cq (a * 17 + b) = v) := ⟨by rw [QX.out, if_neg he]⟩
            have HNE : ((a : Int) == (f : Int)) = false ∨ (((a : Int) == (f : Int)) = true ∧ ((b : Int) == (t : Int)) = false) := by
              by_cases h1 : a = f
              · exact .inr ⟨beq_iff_eq.mpr (by omega), beq_eq_false_iff_ne.mpr (fun h => he ⟨h1, by omega⟩)⟩
              · exact .inl (beq_eq_false_iff_ne.mpr (by omega))
            clear he QX
            by_cases hv : 0 < v
            · have dv : decide (0 < v) = true := decide_eq_true hv
              have HV := AsideA.mk hv
              clear hv
              rcases HNE with q1 | ⟨q1, q2⟩
              all_goals
                go_wp2_with (first
                  | (go_at_call 56; refine C56.out.mono ?_; rintro e w' ⟨rfl, rfl⟩)
                  | ((with_reducible refine gate (N := 11) rfl ?_); refine alloc_new 32 rfl rfl _ zero32 _ rfl ?_; intro ge w4 N4)
                  | (refine store_at 32 (.tmp 11) (.tmp 26) rfl rfl ge 0 rfl (encW ⟨a, b, v⟩) rfl _ _ N4.blk info32s (Nat.le_refl 3) (encW_one _) (encW ⟨a, b, v⟩) (splice_all _ _ rfl) ?_; intro w5 b5 u5; have B5 := AsideA.mk (u5.below N4.below (Nat.le_of_eq N4.at_.symm)); obtain ⟨⟨e0, e1, e2⟩, e3⟩ := HBX.out w5 ge a b v b5; have HB5 := AsideA.mk b5; clear b5 u5 N4)
                  | ((with_reducible refine gate (N := 41) rfl ?_); refine load_at 32 (.tmp 11) rfl rfl ge 0 rfl #[.int .u8 (a : Int), .int .u8 (b : Int), .int .i64 v] _ Try.underlying32 rfl info32s (fun j hj => by rw [Nat.zero_add]; exact blk_cell HB5.out j) ?_)
                  | ((with_reducible refine gate (N := 43) rfl ?_); go_loud (refine append_own _ 22 _ _ rfl rfl w.heap.size 32 _ 3 16 Try.underlying22 info32 rfl (by decide) (.slice A m c) m (encF (flo cq (ps16.take ((a - 1) * 16 + (b - 1))))) rfl (own_alloc (own_below I.out.own B5.out) _) (some ⟨w5.heap.size, 0, none⟩) 1 1 (encF [⟨a, b, v⟩]) rfl rfl (reads_built w5 32 (encF [⟨a, b, v⟩])) (encF_one _) (by simp only [maxLen]; omega) (by omega) (Nat.le_trans (below_call I.out.below B5.out).size ((Below.refl w5.heap.size w5).alloc (Nat.le_refl _) _).size) ?_); intro v6 w6 o6 g6 p6; obtain ⟨A6, c6, e6⟩ := own_form o6; subst e6; have S6 := AsideA.mk (StAt.next (I.out.push (B5.out.alloc B5.out.size _) o6 g6) RA.out RB.out QN.out HV.out); clear o6 g6 p6))
                exact ⟨⟨b + 1, _, _, _, by omega, by omega, by go_num, rfl, S6⟩, by simp [intOf]; omega⟩
            · have dv : decide (0 < v) = false := decide_eq_false hv
              have HV := AsideA.mk (show v ≤ 0 by omega)
              clear hv
              rcases HNE with q1 | ⟨q1, q2⟩
              all_goals
                go_wp2_with (first
                  | (go_at_call 56; refine C56.out.mono ?_; rintro e w' ⟨rfl, rfl⟩)
                  | ((with_reducible refine gate (N := 11) rfl ?_); refine alloc_new 32 rfl rfl _ zero32 _ rfl ?_; intro ge w4 N4)
                  | (refine store_at 32 (.tmp 11) (.tmp 26) rfl rfl ge 0 rfl (encW ⟨a, b, v⟩) rfl _ _ N4.blk info32s (Nat.le_refl 3) (encW_one _) (encW ⟨a, b, v⟩) (splice_all _ _ rfl) ?_; intro w5 b5 u5; have B5 := AsideA.mk (u5.below N4.below (Nat.le_of_eq N4.at_.symm)); obtain ⟨⟨e0, e1, e2⟩, e3⟩ := HBX.out w5 ge a b v b5; have S5 := AsideA.mk (StAt.skip (I.out.later B5.out) RA.out RB.out QN.out HV.out); clear b5 u5 N4))
                exact ⟨⟨b + 1, _, _, _, by omega, by omega, by go_num, rfl, S5⟩, by simp [intOf]; omega⟩
        · have hb : b = 17 := by omega
          subst hb
          have IE : AsideA (StAt w wr (.slice A m c) m (flo cq (ps16.take ((a + 1 - 1) * 16)))) := ⟨by rw [show (a + 1 - 1) * 16 = (a - 1) * 16 + (17 - 1) by omega]; exact I.out⟩
          clear I hlt2
          rw [show ((17 : Nat) : Int) = 17 from rfl]
          go_wp2
          exact ⟨⟨a + 1, m, c, A, by omega, by omega, by go_num, rfl, IE⟩, by simp [intOf]; omega⟩
    · have ha : a = 17 := by omega
      subst ha
      have E : AsideA (RgAt w g (flo cp ps16)) := HG
      have hk : ps16.take ((17 - 1) * 16) = ps16 := List.take_of_length_le (by rw [ps16_len]; omega)
      rw [hk] at I
      clear hlt hk
      rw [show ((17 : Nat) : Int) = 17 from rfl]
      have FIN := AsideA.mk (I.out.put HG.out HQB.out)
      obtain ⟨fz, u0, cz⟩ := I.out.cell HG.out
      go_wp2
      go_end0
      exact ⟨rfl, FIN.out⟩
end Go.Proofs.Ytjopmkfpghdlpaa.A

