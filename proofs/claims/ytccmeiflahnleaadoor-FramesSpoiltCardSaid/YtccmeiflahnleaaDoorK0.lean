/-
  Frames that are put, read again: all, cut anywhere, one spoilt (plain).
-/
import Derived.Test.YtccmeiflahnleaaDoorG12
import Derived.Test.YtccmeiflahnleaaDoorT1
namespace Go.Proofs.YtccmeiflahnleaaDoor.A
set_option linter.unusedVariables false
set_option linter.unusedSimpArgs false

theorem takeGo_high : ∀ (f i m : Nat) (r : List Nat), (∀ c ∈ r, 128 ≤ c) → (takeGo f i m r).2.2 ≠ 0 := by
  intro f
  induction f with
  | zero => intro i m r _; simp [takeGo]
  | succ f ih =>
    intro i m r h
    cases r with
    | nil => simp [takeGo]
    | cons c r =>
      have hc := h c (List.mem_cons_self ..)
      unfold takeGo
      by_cases h9 : i = 9 ∧ 1 < c
      · rw [if_pos h9]; simp
      · rw [if_neg h9, if_neg (by omega)]
        exact ih _ _ _ (fun c hc => h c (List.mem_cons_of_mem _ hc))
theorem takeGo_num : ∀ (k f i m n : Nat) (r : List Nat), n < 128 ^ (k + 1) → k < f → i + k ≤ 8 → (i = 0 ∨ 0 < n) → takeGo f i m (numL n ++ r) = (m + n * 128 ^ i, i + (numL n).length, 0) := by
  intro k
  induction k with
  | zero =>
    intro f i m n r hn hf hi h0
    have hs : n < 128 := by simpa using hn
    obtain ⟨f, rfl⟩ : ∃ f', f = f' + 1 := ⟨f - 1, by omega⟩
    rw [numL_small hs]
    simp only [List.cons_append, List.nil_append, List.length_cons, List.length_nil]
    unfold takeGo
    rw [if_neg (by omega), if_pos hs, if_neg (by omega), Nat.mod_eq_of_lt hs]
  | succ k ih =>
    intro f i m n r hn hf hi h0
    obtain ⟨f, rfl⟩ : ∃ f', f = f' + 1 := ⟨f - 1, by omega⟩
    by_cases hs : n < 128
    · rw [numL_small hs]
      simp only [List.cons_append, List.nil_append, List.length_cons, List.length_nil]
      unfold takeGo
      rw [if_neg (by omega), if_pos hs, if_neg (by omega), Nat.mod_eq_of_lt hs]
    · rw [numL_big (by omega)]
      simp only [List.cons_append, List.length_cons]
      unfold takeGo
      rw [if_neg (by omega), if_neg (by omega), ih f (i + 1) _ (n / 128) r (by rw [Nat.pow_succ] at hn; exact Nat.div_lt_of_lt_mul (by rw [Nat.mul_comm]; exact hn)) (by omega) (by omega) (.inr (by omega))]
      have e1 : (128 + n % 128) % 128 = n % 128 := by omega
      have e2 : n % 128 * 128 ^ i + n / 128 * 128 ^ (i + 1) = n * 128 ^ i := by
        rw [Nat.pow_succ, Nat.mul_comm (128 ^ i) 128, ← Nat.mul_assoc, ← Nat.add_mul]
        congr 1
        omega
      rw [e1, Nat.add_assoc m, e2, show i + 1 + (numL (n / 128)).length = i + ((numL (n / 128)).length + 1) by omega]
theorem takeP_num (n : Nat) (r : List Nat) (hn : n ≤ 8192) : takeP (numL n ++ r) = (n, (numL n).length, 0) := by
  have := takeGo_num 1 10 0 0 n r (by omega) (by omega) (by omega) (.inl rfl)
  unfold takeP
  rw [this]
  simp
theorem numL_cut : ∀ (k n j : Nat), n < 128 ^ (k + 1) → j < (numL n).length → ∀ c ∈ (numL n).take j, 128 ≤ c := by
  intro k
  induction k with
  | zero =>
    intro n j hn hj c hc
    rw [numL_small (by simpa using hn)] at hj hc
    simp at hj
    subst hj
    simp at hc
  | succ k ih =>
    intro n j hn hj c hc
    by_cases hs : n < 128
    · rw [numL_small hs] at hj hc
      simp at hj
      subst hj
      simp at hc
    · rw [numL_big (by omega)] at hj hc
      cases j with
      | zero => simp at hc
      | succ j =>
        rw [List.take_succ_cons] at hc
        rcases List.mem_cons.1 hc with rfl | hc
        · omega
        · exact ih (n / 128) j (by rw [Nat.pow_succ] at hn; exact Nat.div_lt_of_lt_mul (by rw [Nat.mul_comm]; exact hn)) (by simpa using hj) c hc

def Body (b : List Nat) : Prop := b.length ≤ 8192 ∧ ∀ x ∈ b, x < 256
theorem body_num {b : List Nat} (h : Body b) : ∀ x ∈ numL b.length ++ b, x < 256 := by
  intro x hx
  rcases List.mem_append.1 hx with hx | hx
  · exact numL_bytes _ x hx
  · exact h.2 x hx
theorem frameP_split (b : List Nat) : ∃ s, frameP b = numL b.length ++ (b ++ s) ∧ s.length = 4 := by
  have h : (frameP b).length = (numL b.length ++ b).length + 4 := by rw [frameP_len, List.length_append]
  unfold frameP withSum at *
  refine ⟨_, List.append_assoc .., ?_⟩
  rw [List.length_append] at h
  omega

theorem getP_of {bs : List Nat} {m s : Nat} (h : takeP bs = (m, s, 0)) : getP bs = if 8192 < m then ([], 0, 4) else if bs.length < s + m + 4 then ([], 0, 5) else if endsB (bs.take (s + m + 4)) = false then ([], 0, 6) else ((bs.drop s).take m, s + m + 4, 0) := by
  unfold getP sizeP
  rw [h]
  by_cases h1 : 8192 < m
  · simp [h1]
  · simp [h1]
/-- a whole frame whose head stands: what Get says of it -/
theorem getP_head {b F : List Nat} (hb : Body b) (hF : F.length = b.length + 4) (rest : List Nat) :
    getP (numL b.length ++ F ++ rest) = if endsB (numL b.length ++ F) = false then ([], 0, 6) else (F.take b.length, (numL b.length ++ F).length, 0) := by
  have ht : takeP (numL b.length ++ F ++ rest) = (b.length, (numL b.length).length, 0) := by
    rw [List.append_assoc]
    exact takeP_num _ _ hb.1
  have hl : (numL b.length ++ F).length = (numL b.length).length + b.length + 4 := by rw [List.length_append, hF]; omega
  rw [getP_of ht, if_neg (by have := hb.1; omega), if_neg (by rw [List.length_append, hl]; omega), ← hl, List.take_left' rfl]
  by_cases h : endsB (numL b.length ++ F) = false
  · rw [if_pos h, if_pos h]
  · rw [if_neg h, if_neg h, List.append_assoc, List.drop_left' rfl, List.take_append_of_le_length (by omega)]
theorem ends_frame {b : List Nat} (hb : Body b) : endsB (frameP b) = true := ends_withSum _ (body_num hb)
theorem getP_frame {b : List Nat} (hb : Body b) (rest : List Nat) : getP (frameP b ++ rest) = (b, (frameP b).length, 0) := by
  obtain ⟨s, e, hs⟩ := frameP_split b
  have h1 := getP_head (F := b ++ s) hb (by rw [List.length_append, hs]) rest
  rw [← e, ends_frame hb, if_neg (by decide), List.take_left' rfl] at h1
  exact h1
theorem getP_cut {b : List Nat} (hb : Body b) (j : Nat) (hj : j < (frameP b).length) : (getP ((frameP b).take j)).2.2 ≠ 0 := by
  obtain ⟨s, e, hs⟩ := frameP_split b
  intro h
  obtain ⟨n, hd, e1, h1, h2, h3, h4, _⟩ := getP_ok h
  have ht : takeP ((frameP b).take j) = (n, hd, 0) := by
    rcases sizeP_cases ((frameP b).take j) with ⟨n', h', e2, _, _, _, _, e3⟩ | e2 | e2
    · rw [e1] at e2
      cases e2
      exact e3
    · rw [e1] at e2
      cases e2
    · rw [e1] at e2
      cases e2
  have hlen : ((frameP b).take j).length = j := by rw [List.length_take]; omega
  by_cases hc : j < (numL b.length).length
  · have : (frameP b).take j = (numL b.length).take j := by rw [e, List.take_append_of_le_length (by omega)]
    have hh := takeGo_high 10 0 0 ((numL b.length).take j) (numL_cut 1 b.length j (by have := hb.1; omega) hc)
    rw [this] at ht
    unfold takeP at ht
    rw [ht] at hh
    exact hh rfl
  · have : (frameP b).take j = numL b.length ++ (b ++ s).take (j - (numL b.length).length) := by
      rw [e, List.take_append, List.take_of_length_le (by omega)]
    have h5 := takeP_num b.length ((b ++ s).take (j - (numL b.length).length)) hb.1
    rw [← this, ht] at h5
    have e6 : n = b.length := by injection h5
    have e7 : hd = (numL b.length).length := by injection h5 with _ h5; injection h5
    rw [hlen] at h4
    rw [frameP_len] at hj
    omega
theorem getP_none : (getP []).2.2 ≠ 0 := by rw [getP_nil]; decide

/-- all the frames -/
def cat (ls : List (List Nat)) : List Nat := (ls.map frameP).flatten
theorem cat_cons (b : List Nat) (ls : List (List Nat)) : cat (b :: ls) = frameP b ++ cat ls := rfl
theorem cat_snoc (b : List Nat) (ls : List (List Nat)) : cat (ls ++ [b]) = cat ls ++ frameP b := by
  unfold cat
  rw [List.map_append, List.flatten_append]
  simp
/-- the bodies, and where each ends -/
def frs : Nat → List (List Nat) → List (List Nat × Nat)
  | _, [] => []
  | s, b :: t => (b, s + (frameP b).length) :: frs (s + (frameP b).length) t
theorem frs_len : ∀ (s : Nat) (ls : List (List Nat)), (frs s ls).length = ls.length
  | _, [] => rfl
  | s, b :: t => by unfold frs; rw [List.length_cons, List.length_cons, frs_len]
theorem frs_fst : ∀ (s : Nat) (ls : List (List Nat)), (frs s ls).map (·.1) = ls
  | _, [] => rfl
  | s, b :: t => by unfold frs; rw [List.map_cons, frs_fst]
theorem frs_snoc : ∀ (s : Nat) (ls : List (List Nat)) (b : List Nat), frs s (ls ++ [b]) = frs s ls ++ [(b, s + (cat ls).length + (frameP b).length)]
  | s, [], b => by unfold frs; simp [cat, frs]
  | s, a :: t, b => by
    rw [List.cons_append]
    unfold frs
    rw [frs_snoc, cat_cons, List.length_append, List.cons_append, Nat.add_assoc s, Nat.add_assoc s]
theorem frs_ge : ∀ (s : Nat) (ls : List (List Nat)), ∀ x ∈ frs s ls, s < x.2 ∧ x.2 ≤ s + (cat ls).length
  | _, [], x, h => by unfold frs at h; exact absurd h (by simp)
  | s, b :: t, x, h => by
    unfold frs at h
    have h1 : 0 < (frameP b).length := by rw [frameP_len]; omega
    rw [cat_cons, List.length_append]
    rcases List.mem_cons.1 h with rfl | h
    · simp only []
      omega
    · have := frs_ge _ t x h
      omega

/-- the theorem of the stage -/
theorem read_cut : ∀ (ls : List (List Nat)) (s q f : Nat), (∀ b ∈ ls, Body b) → (cat ls).length < f → framesP f s ((cat ls).take q) = (frs s ls).takeWhile (fun x => decide (x.2 ≤ s + q))
  | [], s, q, f, _, _ => by
    have : (cat []).take q = [] := by simp [cat]
    rw [this, framesP_stop _ _ _ getP_none]
    rfl
  | b :: t, s, q, f, h, hf => by
    have hb := h b (List.mem_cons_self ..)
    have hpos : 0 < (frameP b).length := by rw [frameP_len]; omega
    rw [cat_cons] at hf ⊢
    rw [List.length_append] at hf
    unfold frs
    by_cases hq : q < (frameP b).length
    · rw [List.take_append_of_le_length (by omega), framesP_stop _ _ _ (getP_cut hb q hq), List.takeWhile_cons_of_neg (by simp; omega)]
    · have e : (frameP b ++ cat t).take q = frameP b ++ (cat t).take (q - (frameP b).length) := by rw [List.take_append, List.take_of_length_le (by omega)]
      have hg := getP_frame hb ((cat t).take (q - (frameP b).length))
      rw [e, framesP_step _ _ _ (by rw [List.length_append, List.length_take]; omega) (by rw [hg]), hg, List.takeWhile_cons_of_pos (by simp; omega)]
      simp only []
      rw [List.drop_left' rfl, read_cut t (s + (frameP b).length) (q - (frameP b).length) f (fun c hc => h c (List.mem_cons_of_mem _ hc)) (by omega)]
      congr 1
      congr 1
      funext x
      congr 1
      apply propext
      constructor <;> intro h <;> omega
/-- a frame that Get refuses, behind whole ones -/
theorem read_bad : ∀ (ls : List (List Nat)) (s f : Nat) (r : List Nat), (∀ b ∈ ls, Body b) → (cat ls).length + r.length < f → (getP r).2.2 ≠ 0 → framesP f s (cat ls ++ r) = frs s ls
  | [], s, f, r, _, _, hr => by
    have : cat [] ++ r = r := rfl
    rw [this, framesP_stop _ _ _ hr]
    rfl
  | b :: t, s, f, r, h, hf, hr => by
    have hb := h b (List.mem_cons_self ..)
    have hpos : 0 < (frameP b).length := by rw [frameP_len]; omega
    rw [cat_cons] at hf ⊢
    rw [List.length_append] at hf
    have hg := getP_frame hb (cat t ++ r)
    unfold frs
    rw [List.append_assoc, framesP_step _ _ _ (by rw [List.length_append, List.length_append]; omega) (by rw [hg]), hg]
    simp only []
    rw [List.drop_left' rfl, read_bad t _ f r (fun c hc => h c (List.mem_cons_of_mem _ hc)) (by omega) hr]
end Go.Proofs.YtccmeiflahnleaaDoor.A

