/-
  frames.Read, as a plain call; the chapter's example (countinghouselaw18.lives).
-/
import Derived.Test.YtccmeiflahnleaaDoorG11
import Derived.Test.YtccmeiflahnleaaDoorG4
import Derived.Test.YtccmeiflahnleaaDoorFl
namespace Go.Proofs.YtccmeiflahnleaaDoor.A
set_option linter.unusedVariables false
set_option linter.unusedSimpArgs false
open Go.RowKit

theorem xread (A : Option Addr) (c : Nat) (bs : List Nat) (w : World) (B : Bytes w A bs) (T : TabAt w) (hc : bs.length ≤ c) (hA : c = 0 ∨ ∃ g0 off0, A = some ⟨g0, off0, none⟩) :
    Calls Tryd.prog 28 #[.slice A bs.length c] w fun e w' => ∃ L xs, e = .returned (.tuple #[.slice L xs.length xs.length, .int .i64 (lastTo xs : Nat)]) ∧ Reads w' L (xs.map Fm.val) ∧ AllAt w.heap.size bs xs w' ∧ Below w.heap.size w w' :=
  callsIn_wide.1 (read_in A c bs w B T hc hA)
theorem Reads.at_cell {w : World} {A : Option Addr} {vs : List Value} (h : Reads w A vs) (k : Nat) (v : Value) (hk : vs[k]? = some v) : ∃ g off, A = some ⟨g, off, none⟩ ∧ w.cell? ⟨g, off + k, none⟩ = some v := by
  rcases h with h | ⟨ad, rfl, h⟩
  · rw [h] at hk
    simp at hk
  · have hh := h k v hk
    obtain ⟨g, off, sp⟩ := ad
    cases sp with
    | none => exact ⟨g, off, rfl, by rw [← add_none]; exact hh⟩
    | some s =>
      exfalso
      obtain ⟨u, hu⟩ : ∃ u, vs[0]? = some u := ⟨_, List.getElem?_eq_getElem (by have := (List.getElem?_eq_some_iff.1 hk).1; omega)⟩
      have h0 := h 0 u hu
      unfold World.cell? at h0
      split at h0 <;> simp_all [Addr.add]

theorem frame7 : frameP [7] = withSum [1, 7] := by
  unfold frameP
  rw [show [7].length = 1 from rfl, numL_small (by decide)]
  rfl
theorem frame7_len : (frameP [7]).length = 6 := by rw [frame7]; decide +kernel
theorem frame7_at : (frameP [7])[0]? = some 1 ∧ (frameP [7])[1]? = some 7 := by rw [frame7]; decide +kernel
theorem read7 : readP (frameP [7] ++ [1]) = [([7], 6)] := by rw [frame7]; decide +kernel

set_option maxHeartbeats 8000000 in
set_option maxRecDepth 100000 in
theorem lives18 (w : World) (T : TabAt w) : Calls Tryd.prog 23 #[] w fun e w' => e = .returned (.bool true) ∧ Below w.heap.size w w' := by
  have HT := AsideA.mk T
  have C24 := AsideA.mk (xframe none (some ⟨w.heap.size, 0, none⟩) 0 1 [] [7] (w.alloc (.cells #[.int .u8 7] 5 (0, 0))) ⟨Reads.nil, by simp, by decide⟩ (Bytes.of_block (tail := []) (heap_alloc_new w _) (by decide) (by decide)) (T.below ((Below.refl _ _).alloc (Nat.le_refl _) _)) (by decide) (by decide))
  simp only [List.nil_append, frame7_len, List.length_cons, List.length_nil] at C24
  have FB := AsideA.mk (show ∀ b ∈ frameP [7], b < 256 by rw [frame7]; decide +kernel)
  have FL := AsideA.mk (show (enc8 (frameP [7])).length = 6 * 1 by rw [enc8_len, frame7_len])
  have FA := AsideA.mk frame7_at
  have C28 := AsideA.mk (fun (wz : World) (A : Option Addr) (c : Nat) (h : Reads wz A (enc8 (frameP [7] ++ [1]))) (hb : Below w.heap.size w wz) (hc : 7 ≤ c) (hA : c = 0 ∨ ∃ g0 off0, A = some ⟨g0, off0, none⟩) => xread A c (frameP [7] ++ [1]) wz ⟨h, by intro b hb; rcases List.mem_append.1 hb with h | h; exact FB.out b h; simp at h; omega, by rw [List.length_append, frame7_len]; decide⟩ (T.below hb) (by rw [List.length_append, frame7_len]; exact hc) hA)
  simp only [List.length_append, frame7_len, List.length_cons, List.length_nil] at C28
  have R7 := AsideA.mk read7
  clear T
  generalize frameP [7] = fr at *
  have B0 := AsideA.mk ((Below.refl w.heap.size w).alloc (Nat.le_refl _) (.cells #[.int .u8 7] 5 (0, 0)))
  go_enter Tryd.func23, Tryd.ntmps23
  go_wp2_with (first
    | (go_at_call 24; go_loud (refine C24.out.mono ?_; rintro e w1 ⟨g1, k1, rfl, F⟩; have F1 := AsideA.mk F; have c0 := F.at_ 0 1 FA.out.1; have c1 := F.at_ 1 7 FA.out.2; have B1 := AsideA.mk (below_call B0.out F.below); clear F))
    | ((with_reducible refine gate (N := 12) rfl ?_); go_loud (refine append_own w1 22 _ _ rfl rfl w1.heap.size 5 _ 1 1 Tryd.underlying22 info5z rfl (by decide) (.slice none 0 0) 0 [] rfl (own_nil _ _ _ _) (some ⟨g1, 0, none⟩) 6 6 (enc8 fr) rfl FL.out (F1.out.bytes FB.out (by have := FL.out; rw [enc8_len] at this; omega)).reads (enc8_one fr) (by decide) (by decide) (Nat.le_refl _) ?_; intro v2 w2 o2 g2 p2; rw [Nat.zero_add] at o2; have O2 := AsideA.mk o2; have B2 := AsideA.mk (below_grown (Below.refl w1.heap.size w1) (Nat.le_refl _) (own_nil _ _ 5 1) g2); clear o2 g2 p2))
    | ((with_reducible refine gate (N := 14) rfl ?_); go_loud (refine append_own _ 22 _ _ rfl rfl w1.heap.size 5 _ 1 1 Tryd.underlying22 info5z rfl (by decide) v2 6 ([] ++ enc8 fr) rfl (own_alloc O2.out _) (some ⟨w2.heap.size, 0, none⟩) 1 1 (enc8 [1]) rfl rfl (reads_built w2 5 (enc8 [1])) (enc8_one _) (by decide) (by decide) (by have := B2.out.size; simp; omega) ?_; intro v3 w3 o3 g3 p3; rw [List.nil_append, ← enc8_append] at o3; obtain ⟨A3, c3, e3⟩ := own_form o3; subst e3; have O3 := AsideA.mk o3; have B3 := AsideA.mk (below_grown (B2.out.alloc B2.out.size _) (by have := B2.out.size; simp; omega) (own_alloc O2.out _) g3); clear o3 g3 p3)))
  have B4 := AsideA.mk (below_call B1.out B3.out)
  have R4 := AsideA.mk (own_reads O3.out)
  obtain ⟨g3, hA3, hc3⟩ : ∃ g3, A3 = some ⟨g3, 0, none⟩ ∧ 7 ≤ c3 := by
    rcases O3.out.2 with ⟨h0, _⟩ | ⟨g', cap', cur, e1, _, _, h3, _⟩
    · cases h0
    · cases e1
      exact ⟨g', rfl, h3⟩
  refine (C28.out w3 A3 c3 R4.out B4.out hc3 (.inr ⟨g3, 0, hA3⟩)).mono ?_
  rintro e w4 ⟨L, xs, rfl, hr, ⟨ha, hb1, _⟩, hb⟩
  rw [R7.out] at ha
  obtain ⟨x9, hx9, hx1, hx2⟩ : ∃ x, xs = [x] ∧ x.body = [7] ∧ x.to = 6 := by
    unfold pairs at ha
    rcases xs with _ | ⟨x, _ | ⟨y, t⟩⟩
    · simp at ha
    · simp at ha
      exact ⟨x, rfl, ha.1, ha.2⟩
    · simp at ha
  subst hx9
  obtain ⟨g9, body9, to9⟩ := x9
  simp only at hx1 hx2
  subst hx1 hx2
  obtain ⟨gL, oL, rfl, hcl⟩ := hr.at_cell 0 _ rfl
  obtain ⟨_, _, _, _, t9, ht9⟩ := hb1 _ (List.mem_singleton.2 rfl)
  have c9 : w4.cell? ⟨g9, 0, none⟩ = some (.int .u8 7) := (blk_cell ht9 0).trans (by simp [enc8])
  have F4 := (F1.out.later B3.out).later hb
  have d0 := F4.at_ 0 1 FA.out.1
  have d1 := F4.at_ 1 7 FA.out.2
  have BZ := AsideA.mk (below_call B4.out hb)
  unfold Fm.val at hcl
  simp only [List.length_cons, List.length_nil, Nat.add_zero, Nat.zero_add] at hcl
  clear ha hb1 hr ht9 F4 hb c0 c1 hA3 hc3
  simp only [List.length_cons, List.length_nil, lastTo, List.foldl_cons, List.foldl_nil]
  go_wp2
  go_ret
  exact ⟨rfl, BZ.out⟩
end Go.Proofs.YtccmeiflahnleaaDoor.A

