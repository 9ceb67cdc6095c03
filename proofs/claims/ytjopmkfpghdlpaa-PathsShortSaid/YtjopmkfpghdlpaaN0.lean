/-
  The flows of a graph, in order (plain).
-/
import Derived.Test.YtjopmkfpghdlpaaX5
import Derived.Test.YtjopmkfpghdlpaaX1
namespace Go.Proofs.Ytjopmkfpghdlpaa.A
set_option linter.unusedVariables false
set_option linter.unusedSimpArgs false
open Go.RowKit

def fl1 (cp : List Int) (p : Nat × Nat) : List Fl := if 0 < gi cp (p.1 * 17 + p.2) then [⟨p.1, p.2, gi cp (p.1 * 17 + p.2)⟩] else []
def flo (cp : List Int) (ps : List (Nat × Nat)) : List Fl := ps.flatMap (fl1 cp)
/-- the pair of row a + 1 and place b + 1 -/
def ps16 : List (Nat × Nat) := (List.range 256).map fun i => (i / 16 + 1, i % 16 + 1)
def ps17 : List (Nat × Nat) := (List.range 289).map fun i => (i / 17, i % 17)
theorem ps16_at (k : Nat) (h : k < 256) : ps16[k]? = some (k / 16 + 1, k % 16 + 1) := by
  unfold ps16
  rw [List.getElem?_map, List.getElem?_range h]
  rfl
theorem ps17_at (k : Nat) (h : k < 289) : ps17[k]? = some (k / 17, k % 17) := by
  unfold ps17
  rw [List.getElem?_map, List.getElem?_range h]
  rfl
theorem ps16_len : ps16.length = 256 := by simp [ps16]
theorem ps17_len : ps17.length = 289 := by simp [ps17]
theorem flo_append (cp : List Int) (a b : List (Nat × Nat)) : flo cp (a ++ b) = flo cp a ++ flo cp b := List.flatMap_append
theorem flo_step16 (cp : List Int) (a b : Nat) (ha : 1 ≤ a) (ha2 : a ≤ 16) (hb : 1 ≤ b) (hb2 : b ≤ 16) : flo cp (ps16.take ((a - 1) * 16 + (b - 1) + 1)) = flo cp (ps16.take ((a - 1) * 16 + (b - 1))) ++ fl1 cp (a, b) := by
  rw [List.take_add_one, ps16_at _ (by omega), flo_append, show ((a - 1) * 16 + (b - 1)) / 16 + 1 = a by omega, show ((a - 1) * 16 + (b - 1)) % 16 + 1 = b by omega]
  simp [flo]
theorem flo_step17 (cp : List Int) (a b : Nat) (ha : a ≤ 16) (hb : b ≤ 16) : flo cp (ps17.take (a * 17 + b + 1)) = flo cp (ps17.take (a * 17 + b)) ++ fl1 cp (a, b) := by
  rw [List.take_add_one, ps17_at _ (by omega), flo_append, show (a * 17 + b) / 17 = a by omega, show (a * 17 + b) % 17 = b by omega]
  simp [flo]
theorem flo_len (cp : List Int) (ps : List (Nat × Nat)) : (flo cp ps).length ≤ ps.length := by
  induction ps with
  | nil => simp [flo]
  | cons p ps ih =>
    rw [show p :: ps = [p] ++ ps from rfl, flo_append, List.length_append, List.length_append]
    have : (flo cp [p]).length ≤ 1 := by
      simp only [flo, List.flatMap_cons, List.flatMap_nil, List.append_nil, fl1]
      split <;> simp
    simp only [List.length_cons, List.length_nil]
    omega
theorem flo_len16 (cp : List Int) (k : Nat) : (flo cp (ps16.take k)).length ≤ 256 := by
  have h1 := flo_len cp (ps16.take k)
  have h2 := List.length_take_le' k ps16
  rw [ps16_len] at h2
  omega
theorem flo_len17 (cp : List Int) (k : Nat) : (flo cp (ps17.take k)).length ≤ 289 := by
  have h1 := flo_len cp (ps17.take k)
  have h2 := List.length_take_le' k ps17
  rw [ps17_len] at h2
  omega
theorem mem_fl1 {cp : List Int} {p : Nat × Nat} {x : Fl} (h : x ∈ fl1 cp p) : x.f = p.1 ∧ x.t = p.2 ∧ x.n = gi cp (x.f * 17 + x.t) ∧ 0 < x.n := by
  unfold fl1 at h
  split at h
  · simp at h
    subst h
    exact ⟨rfl, rfl, rfl, by assumption⟩
  · simp at h
theorem mem_flo {cp : List Int} {ps : List (Nat × Nat)} {x : Fl} (h : x ∈ flo cp ps) : ∃ p ∈ ps, x.f = p.1 ∧ x.t = p.2 ∧ x.n = gi cp (x.f * 17 + x.t) ∧ 0 < x.n := by
  unfold flo at h
  obtain ⟨p, hp, hx⟩ := List.mem_flatMap.1 h
  exact ⟨p, hp, mem_fl1 hx⟩
/-- what the reference's linear search finds -/
def findF (es : List Fl) (f t : Nat) : Int := match es.find? fun x => x.f == f && x.t == t with
  | some x => x.n
  | none => 0
theorem mem_ps16 {f t : Nat} (hf : 1 ≤ f) (hf2 : f ≤ 16) (ht : 1 ≤ t) (ht2 : t ≤ 16) : (f, t) ∈ ps16 :=
  List.mem_map.2 ⟨(f - 1) * 16 + (t - 1), List.mem_range.2 (by omega), by rw [show ((f - 1) * 16 + (t - 1)) / 16 + 1 = f by omega, show ((f - 1) * 16 + (t - 1)) % 16 + 1 = t by omega]⟩
theorem find_flo {cp : List Int} {f t : Nat} (hf : 1 ≤ f) (hf2 : f ≤ 16) (ht : 1 ≤ t) (ht2 : t ≤ 16) (h0 : 0 ≤ gi cp (f * 17 + t)) : findF (flo cp ps16) f t = gi cp (f * 17 + t) := by
  unfold findF
  cases h : (flo cp ps16).find? fun x => x.f == f && x.t == t with
  | some x =>
    have hm := List.mem_of_find?_eq_some h
    have hp := List.find?_some h
    simp only [Bool.and_eq_true, beq_iff_eq] at hp
    obtain ⟨p, _, e1, e2, e3, _⟩ := mem_flo hm
    show x.n = _
    rw [e3, hp.1, hp.2]
  | none =>
    show 0 = _
    apply Decidable.byContradiction
    intro hne
    have hpos : 0 < gi cp (f * 17 + t) := by omega
    have hx : (⟨f, t, gi cp (f * 17 + t)⟩ : Fl) ∈ flo cp ps16 := by
      unfold flo
      refine List.mem_flatMap.2 ⟨(f, t), mem_ps16 hf hf2 ht ht2, ?_⟩
      unfold fl1
      rw [if_pos hpos]
      exact List.mem_singleton.2 rfl
    have := List.find?_eq_none.1 h _ hx
    simp at this
/-- where nothing lies outside 1 .. 16, both orders tell the same -/
def Inner (cp : List Int) : Prop := ∀ a b, a ≤ 16 → b ≤ 16 → (a = 0 ∨ b = 0) → gi cp (a * 17 + b) = 0
theorem ps16_of : ps16 = ps17.filter fun p => 1 ≤ p.1 && 1 ≤ p.2 := by decide +kernel
theorem flo_filter (cp : List Int) (q : Nat × Nat → Bool) : ∀ ps : List (Nat × Nat), (∀ p ∈ ps, q p = false → fl1 cp p = []) → flo cp (ps.filter q) = flo cp ps
  | [], _ => rfl
  | p :: ps, h => by
    have ih := flo_filter cp q ps fun p hp => h p (List.mem_cons_of_mem _ hp)
    cases hq : q p with
    | true => rw [List.filter_cons_of_pos hq, show p :: ps.filter q = [p] ++ ps.filter q from rfl, show p :: ps = [p] ++ ps from rfl, flo_append, flo_append, ih]
    | false =>
      rw [List.filter_cons_of_neg (by rw [hq]; exact Bool.false_ne_true), ih, show p :: ps = [p] ++ ps from rfl, flo_append]
      have : flo cp [p] = [] := by simp [flo, h p List.mem_cons_self hq]
      rw [this, List.nil_append]
theorem flo_same {cp : List Int} (h : Inner cp) : flo cp ps17 = flo cp ps16 := by
  rw [ps16_of]
  refine (flo_filter cp _ ps17 fun p hp hq => ?_).symm
  obtain ⟨i, hi, rfl⟩ := List.mem_map.1 hp
  have hi' := List.mem_range.1 hi
  unfold fl1
  have h0 := h (i / 17) (i % 17) (by omega) (by omega) (by simp at hq; omega)
  simp only [h0]
  rfl
theorem Inner.zero : Inner (List.replicate 289 0) := fun a b ha hb _ => by
  unfold gi
  rw [List.getD_eq_getElem?_getD, List.getElem?_replicate]
  split <;> rfl
theorem Inner.set {cp : List Int} (h : Inner cp) {f t : Nat} {n : Int} (hf : 1 ≤ f) (hf2 : f ≤ 16) (ht : 1 ≤ t) (ht2 : t ≤ 16) (hl : cp.length = 289) : Inner (cp.set (f * 17 + t) n) := fun a b ha hb h0 => by
  rw [gi_set _ _ _ _ (by omega), if_neg (by omega)]
  exact h a b ha hb h0
theorem inner_cpF (fs : List Fl) (h : ∀ x ∈ fs, okF x = true) : Inner (cpF fs) ∧ ∀ i, 0 ≤ gi (cpF fs) i := by
  unfold cpF
  have gen : ∀ (l : List Fl) (cp : List Int), (∀ x ∈ l, okF x = true) → cp.length = 289 → Inner cp → (∀ i, 0 ≤ gi cp i) → Inner (l.foldl (fun cp x => cp.set (x.f * 17 + x.t) x.n) cp) ∧ ∀ i, 0 ≤ gi (l.foldl (fun cp x => cp.set (x.f * 17 + x.t) x.n) cp) i := by
    intro l
    induction l with
    | nil => intro cp _ _ h1 h2; exact ⟨h1, h2⟩
    | cons x l ih =>
      intro cp hx hl h1 h2
      have hk := (okF_iff x).1 (hx x List.mem_cons_self)
      rw [List.foldl_cons]
      refine ih _ (fun y hy => hx y (List.mem_cons_of_mem _ hy)) (by rw [List.length_set]; exact hl) (h1.set hk.1 hk.2.1 hk.2.2.1 hk.2.2.2.1 hl) fun i => ?_
      rw [gi_set _ _ _ _ (by omega)]
      split
      · exact hk.2.2.2.2.2.1
      · exact h2 i
  exact gen fs _ h List.length_replicate Inner.zero fun i => by
    unfold gi
    rw [List.getD_eq_getElem?_getD, List.getElem?_replicate]
    split <;> exact Int.le_refl 0
end Go.Proofs.Ytjopmkfpghdlpaa.A

