/-
  frames.Get, as one.
-/
import Derived.Test.YtccmeiflahnleaaDoorG8
namespace Go.Proofs.YtccmeiflahnleaaDoor.A
set_option linter.unusedVariables false
set_option linter.unusedSimpArgs false
open Go.RowKit

theorem xget_bad (A : Option Addr) (c : Nat) (bs : List Nat) (w : World) (B : Bytes w A bs) (T : TabAt w) (hc : bs.length ≤ c) (h : (getP bs).2.2 ≠ 0) : Calls Tryd.prog 26 #[.slice A bs.length c] w fun e w' => e = .returned (.tuple #[.slice none 0 0, .int .i64 0, .int .i64 ((getP bs).2.2 : Int)]) ∧ Below w.heap.size w w' := by
  have S := xsize A c bs w B
  rcases sizeP_cases bs with ⟨n, hd, e, h1, h2, h3, h4, h5⟩ | e | e
  · rw [e] at S
    unfold getP at h ⊢
    rw [e] at h ⊢
    simp only [ne_eq, not_true_eq_false, if_false] at h ⊢
    by_cases c1 : bs.length < hd + n + 4
    · rw [if_pos c1]
      exact get_short A _ c n hd w (by omega) (by omega) (by omega) ⟨S⟩
    · rw [if_neg c1] at h ⊢
      by_cases c2 : endsB (bs.take (hd + n + 4)) = false
      · rw [if_pos c2]
        obtain ⟨g, off, x, rfl, _⟩ := B.get 0 (by omega)
        refine get_sum g off _ c n hd w (by omega) (by omega) h1 (by omega) hc ⟨S⟩ ⟨fun wz hb q hq => ?_⟩
        have := xends (some ⟨g, off, none⟩) c (bs.take (hd + n + 4)) wz ((B.below hb).take _) (T.below hb) (by rw [List.length_take]; omega)
        rw [c2, List.length_take, Nat.min_eq_left (by omega)] at this
        subst hq
        exact this
      · rw [if_neg c2] at h
        simp at h
  · rw [e] at S
    have e2 : (getP bs).2.2 = 4 := by
      unfold getP
      rw [e]
      rfl
    rw [e2]
    exact get_bad A _ c 4 w (by decide) (by decide) ⟨S⟩
  · rw [e] at S
    have e2 : (getP bs).2.2 = 5 := by
      unfold getP
      rw [e]
      rfl
    rw [e2]
    exact get_bad A _ c 5 w (by decide) (by decide) ⟨S⟩
theorem xget_ok (A : Option Addr) (c : Nat) (bs : List Nat) (w : World) (B : Bytes w A bs) (T : TabAt w) (hc : bs.length ≤ c) (h : (getP bs).2.2 = 0) : Calls Tryd.prog 26 #[.slice A bs.length c] w fun e w' => ∃ g' cap, e = .returned (.tuple #[.slice (some ⟨g', 0, none⟩) (getP bs).1.length (getP bs).1.length, .int .i64 ((getP bs).2.1 : Int), .int .i64 0]) ∧ w'.ownsRow w.heap.size 5 1 (.slice (some ⟨g', 0, none⟩) (getP bs).1.length cap) (getP bs).1.length (enc8 (getP bs).1) ∧ Below w.heap.size w w' := by
  obtain ⟨n, hd, e, h1, h2, h3, h4, h5, h6⟩ := getP_ok h
  have S := xsize A c bs w B
  rw [e] at S
  rw [h6]
  simp only []
  have hn : ((bs.drop hd).take n).length = n := by rw [List.length_take, List.length_drop]; omega
  rw [hn]
  obtain ⟨g, off, x, rfl, _⟩ := B.get 0 (by omega)
  refine get_good g off _ c n hd _ w (by omega) (by omega) h1 (by omega) hc ⟨S⟩ ⟨fun wz hb q hq => ?_⟩ ⟨fun wz hb q hq => ?_⟩
  · have := xends (some ⟨g, off, none⟩) c (bs.take (hd + n + 4)) wz ((B.below hb).take _) (T.below hb) (by rw [List.length_take]; omega)
    rw [h5, List.length_take, Nat.min_eq_left (by omega)] at this
    subst hq
    exact this
  · have := xclone g (off + hd) (c - hd) ((bs.drop hd).take n) wz (((B.below hb).drop hd).take n)
    rw [hn] at this
    subst hq
    exact this
end Go.Proofs.YtccmeiflahnleaaDoor.A

