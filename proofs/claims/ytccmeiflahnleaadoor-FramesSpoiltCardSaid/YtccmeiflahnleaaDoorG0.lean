/-
  Frames: numbers' bytes, what is taken, what is got, what is read: plain.
-/
import Derived.Test.YtccmeiflahnleaaDoorT1
namespace Go.Proofs.YtccmeiflahnleaaDoor.A
set_option linter.unusedVariables false
set_option linter.unusedSimpArgs false

/-- a number's bytes -/
def numL (n : Nat) : List Nat := if n < 128 then [n] else (128 + n % 128) :: numL (n / 128)
termination_by n
decreasing_by omega
theorem numL_small {n : Nat} (h : n < 128) : numL n = [n] := by rw [numL, if_pos h]
theorem numL_big {n : Nat} (h : 128 ≤ n) : numL n = (128 + n % 128) :: numL (n / 128) := by rw [numL, if_neg (by omega)]
theorem numL_pos (n : Nat) : 0 < (numL n).length := by
  rw [numL]
  split <;> simp
theorem numL_bytes (n : Nat) : ∀ b ∈ numL n, b < 256 := by
  induction n using Nat.strongRecOn with
  | ind n ih =>
    by_cases h : n < 128
    · rw [numL_small h]
      simp
      omega
    · rw [numL_big (by omega)]
      intro b hb
      rcases List.mem_cons.1 hb with rfl | hb
      · omega
      · exact ih _ (by omega) b hb
/-- how long -/
theorem numL_len : ∀ (k n : Nat), n < 128 ^ (k + 1) → (numL n).length ≤ k + 1 := by
  intro k
  induction k with
  | zero => intro n h; rw [numL_small (by simpa using h)]; simp
  | succ k ih =>
    intro n h
    by_cases hs : n < 128
    · rw [numL_small hs]
      simp
    · rw [numL_big (by omega), List.length_cons]
      have := ih (n / 128) (by rw [Nat.pow_succ] at h; exact Nat.div_lt_of_lt_mul (by rw [Nat.mul_comm]; exact h))
      omega

/-- a number that is taken: the number, its size, what is wrong (0, 4 or 5) -/
def takeGo : Nat → Nat → Nat → List Nat → Nat × Nat × Nat
  | 0, _, _, _ => (0, 0, 4)
  | _ + 1, _, _, [] => (0, 0, 5)
  | f + 1, i, n, c :: r => if i = 9 ∧ 1 < c then (0, 0, 4) else if c < 128 then (if c = 0 ∧ 0 < i then (0, 0, 4) else (n + c % 128 * 128 ^ i, i + 1, 0)) else takeGo f (i + 1) (n + c % 128 * 128 ^ i) r
def takeP (bs : List Nat) : Nat × Nat × Nat := takeGo 10 0 0 bs

/-- what comes of taking: either all is fine, the size within the bytes; or something is wrong -/
theorem takeGo_cases (f : Nat) : ∀ (i n : Nat) (r : List Nat), i + f = 10 → (∃ m s, takeGo f i n r = (m, s, 0) ∧ i < s ∧ s ≤ i + r.length ∧ s ≤ 10) ∨ (takeGo f i n r = (0, 0, 5) ∧ r.length < f ∧ ∀ c ∈ r, 128 ≤ c) ∨ (takeGo f i n r = (0, 0, 4) ∧ (f ≤ r.length ∨ ∃ c ∈ r, c < 128)) := by
  induction f with
  | zero => intro i n r _; exact .inr (.inr ⟨rfl, .inl (by omega)⟩)
  | succ f ih =>
    intro i n r hf
    cases r with
    | nil => exact .inr (.inl ⟨rfl, by simp, by simp⟩)
    | cons c r =>
      unfold takeGo
      by_cases h9 : i = 9 ∧ 1 < c
      · rw [if_pos h9]
        refine .inr (.inr ⟨rfl, .inl ?_⟩)
        simp
        omega
      · rw [if_neg h9]
        by_cases hc : c < 128
        · rw [if_pos hc]
          by_cases h0 : c = 0 ∧ 0 < i
          · rw [if_pos h0]
            exact .inr (.inr ⟨rfl, .inr ⟨c, by simp, hc⟩⟩)
          · rw [if_neg h0]
            exact .inl ⟨_, _, rfl, by omega, by simp, by omega⟩
        · rw [if_neg hc]
          rcases ih (i + 1) (n + c % 128 * 128 ^ i) r (by omega) with ⟨m, s, e, h1, h2, h3⟩ | ⟨e, h1, h2⟩ | ⟨e, h1⟩
          · exact .inl ⟨m, s, e, by omega, by simp; omega, h3⟩
          · refine .inr (.inl ⟨e, by simp; omega, ?_⟩)
            intro x hx
            rcases List.mem_cons.1 hx with rfl | hx
            · omega
            · exact h2 x hx
          · refine .inr (.inr ⟨e, ?_⟩)
            rcases h1 with h1 | ⟨x, hx, hl⟩
            · exact .inl (by simp; omega)
            · exact .inr ⟨x, by simp [hx], hl⟩
theorem takeP_cases (bs : List Nat) : (∃ m s, takeP bs = (m, s, 0) ∧ 0 < s ∧ s ≤ bs.length ∧ s ≤ 10) ∨ (takeP bs = (0, 0, 5) ∧ bs.length < 10 ∧ ∀ c ∈ bs, 128 ≤ c) ∨ (takeP bs = (0, 0, 4) ∧ (10 ≤ bs.length ∨ ∃ c ∈ bs, c < 128)) := by
  have := takeGo_cases 10 0 0 bs rfl
  simpa [takeP] using this

/-- size of a body, and of its number -/
def sizeP (bs : List Nat) : Nat × Nat × Nat := if (takeP bs).2.2 ≠ 0 then (0, 0, (takeP bs).2.2) else if 8192 < (takeP bs).1 then (0, 0, 4) else ((takeP bs).1, (takeP bs).2.1, 0)
/-- the first frame: the body, all its bytes, what is wrong -/
def getP (bs : List Nat) : List Nat × Nat × Nat :=
  if (sizeP bs).2.2 ≠ 0 then ([], 0, (sizeP bs).2.2) else
  if bs.length < (sizeP bs).2.1 + (sizeP bs).1 + 4 then ([], 0, 5) else
  if endsB (bs.take ((sizeP bs).2.1 + (sizeP bs).1 + 4)) = false then ([], 0, 6) else
  ((bs.drop (sizeP bs).2.1).take (sizeP bs).1, (sizeP bs).2.1 + (sizeP bs).1 + 4, 0)
theorem sizeP_cases (bs : List Nat) : (∃ n h, sizeP bs = (n, h, 0) ∧ 0 < h ∧ h ≤ bs.length ∧ h ≤ 10 ∧ n ≤ 8192 ∧ takeP bs = (n, h, 0)) ∨ sizeP bs = (0, 0, 4) ∨ sizeP bs = (0, 0, 5) := by
  unfold sizeP
  rcases takeP_cases bs with ⟨m, s, e, h1, h2, h3⟩ | ⟨e, _⟩ | ⟨e, _⟩
  · rw [e]
    by_cases h : 8192 < m
    · simp [h]
    · left
      exact ⟨m, s, by simp [h], h1, h2, h3, by omega, rfl⟩
  · rw [e]
    simp
  · rw [e]
    simp
theorem getP_ok {bs : List Nat} (h : (getP bs).2.2 = 0) : ∃ n hd, sizeP bs = (n, hd, 0) ∧ 0 < hd ∧ hd ≤ 10 ∧ n ≤ 8192 ∧ hd + n + 4 ≤ bs.length ∧ endsB (bs.take (hd + n + 4)) = true ∧ getP bs = ((bs.drop hd).take n, hd + n + 4, 0) := by
  rcases sizeP_cases bs with ⟨n, hd, e, h1, h2, h3, h4, h5⟩ | e | e
  · unfold getP at h ⊢
    rw [e] at h ⊢
    simp only [ne_eq, not_true_eq_false, if_false] at h ⊢
    by_cases c1 : bs.length < hd + n + 4
    · rw [if_pos c1] at h
      simp at h
    · rw [if_neg c1] at h ⊢
      by_cases c2 : endsB (bs.take (hd + n + 4)) = false
      · rw [if_pos c2] at h
        simp at h
      · rw [if_neg c2] at h ⊢
        exact ⟨n, hd, rfl, h1, h3, h4, by omega, by simpa using c2, rfl⟩
  · unfold getP at h
    rw [e] at h
    simp at h
  · unfold getP at h
    rw [e] at h
    simp at h
theorem getP_bad {bs : List Nat} (h : (getP bs).2.2 ≠ 0) : ∃ e, getP bs = ([], 0, e) := by
  unfold getP at h ⊢
  split
  · exact ⟨_, rfl⟩
  · rename_i c1
    rw [if_neg c1] at h
    split
    · exact ⟨_, rfl⟩
    · rename_i c2
      rw [if_neg c2] at h
      split
      · exact ⟨_, rfl⟩
      · rename_i c3
        rw [if_neg c3] at h
        simp at h
/-- all frames: each body, and how many bytes there are up to its end -/
def framesP : Nat → Nat → List Nat → List (List Nat × Nat)
  | 0, _, _ => []
  | f + 1, to, bs => if (getP bs).2.2 ≠ 0 then [] else ((getP bs).1, to + (getP bs).2.1) :: framesP f (to + (getP bs).2.1) (bs.drop (getP bs).2.1)
/-- more turns change nothing -/
theorem framesP_more (f : Nat) : ∀ (g to : Nat) (bs : List Nat), bs.length < f → bs.length < g → framesP f to bs = framesP g to bs := by
  induction f with
  | zero => intro g to bs h; omega
  | succ f ih =>
    intro g to bs hf hg
    cases g with
    | zero => omega
    | succ g =>
      unfold framesP
      by_cases h : (getP bs).2.2 ≠ 0
      · rw [if_pos h, if_pos h]
      · rw [if_neg h, if_neg h]
        obtain ⟨n, hd, _, h1, _, _, h2, _, e⟩ := getP_ok (by simpa using h)
        rw [e]
        simp only []
        rw [ih g _ _ (by rw [List.length_drop]; omega) (by rw [List.length_drop]; omega)]
def readP (bs : List Nat) : List (List Nat × Nat) := framesP (bs.length + 1) 0 bs
theorem framesP_step (to : Nat) (bs : List Nat) (f : Nat) (hf : bs.length < f) (h : (getP bs).2.2 = 0) : framesP f to bs = ((getP bs).1, to + (getP bs).2.1) :: framesP f (to + (getP bs).2.1) (bs.drop (getP bs).2.1) := by
  obtain ⟨n, hd, _, h1, _, _, h2, _, e⟩ := getP_ok h
  cases f with
  | zero => omega
  | succ f =>
    have e1 : framesP (f + 1) to bs = ((getP bs).1, to + (getP bs).2.1) :: framesP f (to + (getP bs).2.1) (bs.drop (getP bs).2.1) := by
      conv => lhs; unfold framesP
      rw [if_neg (by simpa using h)]
    rw [e1]
    congr 1
    refine framesP_more _ _ _ _ ?_ ?_ <;> rw [e] <;> simp only [] <;> rw [List.length_drop] <;> omega
theorem framesP_stop (to : Nat) (bs : List Nat) (f : Nat) (h : (getP bs).2.2 ≠ 0) : framesP f to bs = [] := by
  cases f with
  | zero => rfl
  | succ f => unfold framesP; rw [if_pos h]
/-- what Read hands back -/
def bodies (bs : List Nat) : List (List Nat) := (readP bs).map (·.1)
def good (bs : List Nat) : Nat := (readP bs).foldl (fun _ x => x.2) 0

/-- a body's frame -/
def frameP (body : List Nat) : List Nat := withSum (numL body.length ++ body)
end Go.Proofs.YtccmeiflahnleaaDoor.A

