/-
  The reference's Get, as one; the reference's Read.
-/
import Derived.Test.YtccmeiflahnleaaDoorH3
namespace Go.Proofs.YtccmeiflahnleaaDoor.A
set_option linter.unusedVariables false
set_option linter.unusedSimpArgs false
open Go.RowKit

theorem getP_eq {bs : List Nat} {m s : Nat} (h : takeP bs = (m, s, 0)) : getP bs = if 8192 < m then ([], 0, 4) else if bs.length < s + m + 4 then ([], 0, 5) else if endsB (bs.take (s + m + 4)) = false then ([], 0, 6) else ((bs.drop s).take m, s + m + 4, 0) := by
  unfold getP sizeP
  rw [h]
  by_cases h1 : 8192 < m
  · simp [h1]
  · simp [h1]
theorem getP_eq_bad {bs : List Nat} {e : Nat} (h : takeP bs = (0, 0, e)) (he : e ≠ 0) : getP bs = ([], 0, e) := by
  unfold getP sizeP
  rw [h]
  simp [he]
theorem nil_bytes (w : World) : Bytes w none [] := ⟨Reads.nil, by simp, by decide⟩

def GetRet (w : World) (bs : List Nat) (e : Ending) (w' : World) : Prop := ∃ A9 k c9, e = .returned (.tuple #[.slice A9 k c9, .int .i64 ((getP bs).2.1 : Int), .int .i64 ((getP bs).2.2 : Int)]) ∧ k = (getP bs).1.length ∧ w'.ownsRow w.heap.size 5 1 (.slice A9 k c9) k (enc8 (getP bs).1) ∧ (∀ b ∈ (getP bs).1, b < 256) ∧ Below w.heap.size w w'
theorem get_ret_bad {w w' : World} {bs : List Nat} {e : Ending} {n : Nat} (h : getP bs = ([], 0, n)) (k : e = .returned (.tuple #[.slice none 0 0, .int .i64 0, .int .i64 (n : Int)]) ∧ Below w.heap.size w w') : GetRet w bs e w' := by
  refine ⟨none, 0, 0, ?_, by rw [h]; rfl, by rw [h]; exact own_nil _ _ _ _, by rw [h]; simp, k.2⟩
  rw [h]
  exact k.1

theorem xref_get (A : Option Addr) (c : Nat) (bs : List Nat) (w : World) (B : Bytes w A bs) (hc : bs.length ≤ c) : Calls Tryd.prog 27 #[.slice A bs.length c] w (GetRet w bs) := by
  have tk := tk_num w (w.alloc (.cells #[.slice A bs.length c, .int .i64 0] 70 (0, 0))) w.heap.size A bs.length c bs (tk_start w A c bs B hc)
  have bad : ∀ n, n ≠ 0 → n < 100 → takeP bs = (0, 0, n) → Calls Tryd.prog 27 #[.slice A bs.length c] w (GetRet w bs) := fun n hn hn2 h => by
    refine (rget_take A bs.length c n 0 w hn hn2 ⟨tk.mono fun e w' hh => ?_⟩).mono fun e w' hh => get_ret_bad (getP_eq_bad h hn) hh
    obtain ⟨he, hd⟩ := hh
    rw [h] at he
    rcases hd with ⟨m', s', e1, _⟩ | ⟨e', he', e1, hb, v, hv⟩
    · rw [h] at e1
      cases e1
      exact absurd rfl hn
    · rw [h] at e1
      cases e1
      exact ⟨he, hb, v, hv⟩
  rcases takeP_cases bs with ⟨m, s, h, h1, h2, h3⟩ | ⟨h, _⟩ | ⟨h, _⟩
  · have N : NumRet w bs.length c A m (bs.length - s) := tk.mono fun e w' hh => by
      obtain ⟨he, hd⟩ := hh
      rw [h] at he
      rcases hd with ⟨m', s', e1, A', K⟩ | ⟨e', he', e1, _⟩
      · rw [h] at e1
        cases e1
        exact ⟨he, K.below, A', _, K.blk⟩
      · rw [h] at e1
        cases e1
        exact absurd rfl he'
    have G := getP_eq h
    by_cases c1 : 8192 < m
    · rw [if_pos c1] at G
      exact (rget_big A bs.length c m _ w (by omega) ⟨N⟩).mono fun e w' hh => get_ret_bad G hh
    · rw [if_neg c1] at G
      by_cases c2 : bs.length < s + m + 4
      · rw [if_pos c2] at G
        exact (rget_short A bs.length c m s _ w (by omega) (by omega) (by omega) c2 B.len ⟨N⟩).mono fun e w' hh => get_ret_bad G hh
      · rw [if_neg c2] at G
        obtain ⟨g, off, x, rfl, _⟩ := B.get 0 (by omega)
        have E : ∀ b, endsB (bs.take (s + m + 4)) = b → EndRef w g off (s + m + 4) c b := fun b hb wz hz q hq => by
          have := ref_ends (some ⟨g, off, none⟩) c (bs.take (s + m + 4)) wz ((B.below hz).take _) (by rw [List.length_take]; omega) (by rw [List.length_take]; omega)
          rw [hb, List.length_take, Nat.min_eq_left (by omega)] at this
          subst hq
          exact this
        by_cases c3 : endsB (bs.take (s + m + 4)) = false
        · rw [if_pos c3] at G
          exact (rget_sum g off bs.length c m s _ w (by omega) (by omega) (by omega) (by omega) hc B.len ⟨N⟩ ⟨E _ c3⟩).mono fun e w' hh => get_ret_bad G hh
        · rw [if_neg c3] at G
          have hn : ((bs.drop s).take m).length = m := by rw [List.length_take, List.length_drop]; omega
          refine (rget_good g off bs.length c m s _ ((bs.drop s).take m) w (by omega) (by omega) (by omega) (by omega) hc B.len ⟨N⟩ ⟨E _ (by simpa using c3)⟩ ⟨((B.drop s).take m).reads, by rw [enc8_len, hn, Nat.mul_one]⟩).mono ?_
          rintro e w' ⟨A9, c9, he, hr, hb⟩
          refine ⟨A9, m, c9, ?_, by rw [G]; exact hn.symm, ?_, ?_, hb⟩
          · rw [he, G]
            rfl
          · rw [G]
            exact hr
          · rw [G]
            exact ((B.drop s).take m).small
  · exact bad 5 (by decide) (by decide) h
  · exact bad 4 (by decide) (by decide) h
end Go.Proofs.YtccmeiflahnleaaDoor.A

