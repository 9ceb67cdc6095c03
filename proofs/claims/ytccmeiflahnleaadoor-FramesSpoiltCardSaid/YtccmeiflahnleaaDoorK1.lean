/-
  A frame that is spoilt (plain).
-/
import Derived.Test.YtccmeiflahnleaaDoorK0
namespace Go.Proofs.YtccmeiflahnleaaDoor.A
set_option linter.unusedVariables false
set_option linter.unusedSimpArgs false

theorem flip1_mid (a F r : List Nat) (q : Nat) (h : q < 8 * F.length) : flip1 (a ++ F ++ r) (8 * a.length + q) = a ++ flip1 F q ++ r := by
  unfold flip1
  have e1 : (8 * a.length + q) / 8 = a.length + q / 8 := by omega
  have e2 : (8 * a.length + q) % 8 = q % 8 := by omega
  have hq : q / 8 < F.length := by omega
  rw [e1, e2]
  have hg : (a ++ F ++ r).getD (a.length + q / 8) 0 = F.getD (q / 8) 0 := by
    simp only [List.getD_eq_getElem?_getD]
    rw [List.append_assoc, List.getElem?_append_right (by omega), Nat.add_sub_cancel_left, List.getElem?_append_left hq]
  rw [hg, List.append_assoc, List.set_append_right _ _ (by omega), Nat.add_sub_cancel_left, List.set_append_left _ _ hq, List.append_assoc]
theorem turned_mid (a F r : List Nat) (f v : Nat) : ∀ i, f + i ≤ 8 * F.length → turned (a ++ F ++ r) (8 * a.length + f) v i = a ++ turned F f v i ++ r
  | 0, _ => rfl
  | i + 1, h => by
    unfold turned
    rw [turned_mid a F r f v i (by omega)]
    by_cases hb : v.testBit i
    · rw [if_pos hb, if_pos hb, Nat.add_assoc, flip1_mid a (turned F f v i) r (f + i) (by rw [turned_len]; omega)]
    · rw [if_neg hb, if_neg hb]
theorem cat_append (a b : List (List Nat)) : cat (a ++ b) = cat a ++ cat b := by
  unfold cat
  rw [List.map_append, List.flatten_append]
theorem read_spoilt (pre post : List (List Nat)) (b : List Nat) (hpre : ∀ x ∈ pre, Body x) (hb : Body b) (f v : Nat) (hv : v < 2 ^ 32) (hv0 : v ≠ 0) (hf : f + 32 ≤ 8 * (b.length + 4)) :
    readP (turned (cat (pre ++ b :: post)) (8 * ((cat pre).length + (numL b.length).length) + f) v 32) = frs 0 pre := by
  obtain ⟨s, e, hs⟩ := frameP_split b
  have hF : (b ++ s).length = b.length + 4 := by rw [List.length_append, hs]
  have e1 : cat (pre ++ b :: post) = (cat pre ++ numL b.length) ++ (b ++ s) ++ cat post := by
    rw [cat_append, cat_cons, e]
    simp only [List.append_assoc]
  have e2 : (cat pre).length + (numL b.length).length = (cat pre ++ numL b.length).length := by rw [List.length_append]
  rw [e1, e2, turned_mid _ _ _ f v 32 (by rw [hF]; omega)]
  have hT : (turned (b ++ s) f v 32).length = b.length + 4 := by rw [turned_len, hF]
  have hE : endsB (numL b.length ++ turned (b ++ s) f v 32) = false := by
    have h1 := turned_mid (numL b.length) (b ++ s) [] f v 32 (by rw [hF]; omega)
    rw [List.append_nil, List.append_nil, ← e] at h1
    rw [← h1, burst (frameP b) _ v (withSum_small (body_num hb)) (by rw [frameP_len]; omega) (by rw [frameP_len]; omega) hv (ends_frame hb)]
    exact decide_eq_false hv0
  have hG := getP_head (F := turned (b ++ s) f v 32) hb hT (cat post)
  rw [hE, if_pos rfl] at hG
  unfold readP
  rw [List.append_assoc (cat pre), List.append_assoc (cat pre)]
  exact read_bad pre 0 _ _ hpre (by simp only [List.length_append]; omega) (by rw [hG]; simp)
theorem read_cut0 (ls : List (List Nat)) (q : Nat) (h : ∀ b ∈ ls, Body b) : readP ((cat ls).take q) = (frs 0 ls).takeWhile (fun x => decide (x.2 ≤ q)) := by
  unfold readP
  have h1 := framesP_more (((cat ls).take q).length + 1) ((cat ls).length + 1) 0 ((cat ls).take q) (by omega) (by rw [List.length_take]; omega)
  rw [h1, read_cut ls 0 q _ h (by omega), Nat.zero_add]
theorem read_all (ls : List (List Nat)) (h : ∀ b ∈ ls, Body b) : readP (cat ls) = frs 0 ls := by
  have := read_bad ls 0 ((cat ls).length + 1) [] h (by simp) getP_none
  rw [List.append_nil] at this
  exact this
theorem good_all : ∀ (ls : List (List Nat)) (s : Nat), (frs s ls).foldl (fun _ x => x.2) s = s + (cat ls).length
  | [], s => rfl
  | b :: t, s => by
    unfold frs
    rw [List.foldl_cons, good_all t, cat_cons, List.length_append, Nat.add_assoc]
end Go.Proofs.YtccmeiflahnleaaDoor.A

