/-
  Who is reached in so many steps (plain), and the distances.
-/
import Derived.Test.YtjopmkfpghdlpaaN0
namespace Go.Proofs.Ytjopmkfpghdlpaa.A
set_option linter.unusedVariables false
set_option linter.unusedSimpArgs false
open Go.RowKit

/-- one round over the edges: who was reached before tells who is reached now -/
def mark1 (before : List Bool) (now : List Bool) (x : Fl) : List Bool := if gb before x.f then now.set x.t true else now
def markF (es : List Fl) (b : List Bool) : List Bool := es.foldl (mark1 b) b
def reachF (es : List Fl) (x : Nat) : Nat → List Bool
  | 0 => (List.replicate 17 false).set x true
  | n + 1 => markF es (reachF es x n)
theorem mark_len (b : List Bool) (es : List Fl) : ∀ now : List Bool, (es.foldl (mark1 b) now).length = now.length := by
  induction es with
  | nil => intro now; rfl
  | cons x es ih =>
    intro now
    rw [List.foldl_cons, ih]
    unfold mark1
    split
    · rw [List.length_set]
    · rfl
theorem reach_len (es : List Fl) (x n : Nat) : (reachF es x n).length = 17 := by
  induction n with
  | zero => simp [reachF]
  | succ n ih => show (markF es _).length = 17; unfold markF; rw [mark_len, ih]
theorem gb_len {l : List Bool} {i : Nat} (h : gb l i = true) : i < l.length := by
  apply Decidable.byContradiction
  intro hn
  unfold gb at h
  rw [List.getD_eq_getElem?_getD, List.getElem?_eq_none (by omega)] at h
  simp at h
theorem mark_iff (b : List Bool) (v : Nat) : ∀ (es : List Fl) (now : List Bool), (∀ e ∈ es, e.t < now.length) → (gb (es.foldl (mark1 b) now) v = true ↔ gb now v = true ∨ ∃ e ∈ es, gb b e.f = true ∧ e.t = v) := by
  intro es
  induction es with
  | nil => intro now _; simp
  | cons x es ih =>
    intro now h
    rw [List.foldl_cons]
    have hl : (mark1 b now x).length = now.length := mark_len b [x] now
    rw [ih _ (fun e he => by rw [hl]; exact h e (List.mem_cons_of_mem _ he))]
    have h1 : gb (mark1 b now x) v = true ↔ gb now v = true ∨ (gb b x.f = true ∧ x.t = v) := by
      unfold mark1
      by_cases hb : gb b x.f = true
      · rw [if_pos hb, gb_set _ _ _ _ (h x List.mem_cons_self)]
        by_cases e : v = x.t
        · simp [e, hb]
        · rw [if_neg e]
          constructor
          · exact .inl
          · rintro (h | ⟨_, h⟩)
            · exact h
            · exact absurd h.symm e
      · rw [if_neg hb]
        constructor
        · exact .inl
        · rintro (h | ⟨h, _⟩)
          · exact h
          · exact absurd h hb
    rw [h1]
    constructor
    · rintro ((h | h) | ⟨e, he, h⟩)
      · exact .inl h
      · exact .inr ⟨x, List.mem_cons_self, h⟩
      · exact .inr ⟨e, List.mem_cons_of_mem _ he, h⟩
    · rintro (h' | ⟨e, he, h'⟩)
      · exact .inl (.inl h')
      · rcases List.mem_cons.1 he with rfl | he
        · exact .inl (.inr h')
        · exact .inr ⟨e, he, h'⟩
theorem reach_zero (es : List Fl) (x v : Nat) (hx : x < 17) : gb (reachF es x 0) v = true ↔ v = x := by
  show gb ((List.replicate 17 false).set x true) v = true ↔ _
  rw [gb_set _ _ _ _ (by simpa using hx)]
  by_cases e : v = x
  · simp [e]
  · rw [if_neg e]
    unfold gb
    rw [List.getD_eq_getElem?_getD, List.getElem?_replicate]
    split <;> simp [e]
theorem reach_succ (es : List Fl) (h : ∀ e ∈ es, e.t < 17) (x n v : Nat) : gb (reachF es x (n + 1)) v = true ↔ gb (reachF es x n) v = true ∨ ∃ e ∈ es, gb (reachF es x n) e.f = true ∧ e.t = v :=
  mark_iff _ v es _ fun e he => by rw [reach_len]; exact h e he
theorem reach_mono (es : List Fl) (h : ∀ e ∈ es, e.t < 17) (x n v : Nat) (hv : gb (reachF es x n) v = true) : gb (reachF es x (n + 1)) v = true := (reach_succ es h x n v).2 (.inl hv)
/-- the first step may be taken first -/
theorem reach_first (es : List Fl) (h : ∀ e ∈ es, e.t < 17 ∧ e.f < 17) (x : Nat) (hx : x < 17) : ∀ n v, gb (reachF es x (n + 1)) v = true ↔ v = x ∨ ∃ e ∈ es, e.f = x ∧ gb (reachF es e.t n) v = true := by
  have ht : ∀ e ∈ es, e.t < 17 := fun e he => (h e he).1
  intro n
  induction n with
  | zero =>
    intro v
    rw [reach_succ es ht, reach_zero es x v hx]
    constructor
    · rintro (h1 | ⟨e, he, h1, h2⟩)
      · exact .inl h1
      · exact .inr ⟨e, he, (reach_zero es x e.f hx).1 h1, (reach_zero es e.t v (ht e he)).2 h2.symm⟩
    · rintro (h1 | ⟨e, he, h1, h2⟩)
      · exact .inl h1
      · exact .inr ⟨e, he, (reach_zero es x e.f hx).2 h1, ((reach_zero es e.t v (ht e he)).1 h2).symm⟩
  | succ n ih =>
    intro v
    rw [reach_succ es ht x (n + 1) v, ih v]
    constructor
    · rintro ((h1 | ⟨e, he, h1, h2⟩) | ⟨e, he, h1, h2⟩)
      · exact .inl h1
      · exact .inr ⟨e, he, h1, reach_mono es ht _ _ _ h2⟩
      · rcases (ih e.f).1 h1 with h3 | ⟨e', he', h3, h4⟩
        · refine .inr ⟨e, he, h3, ?_⟩
          have : ∀ m, gb (reachF es e.t m) e.t = true := fun m => by
            induction m with
            | zero => exact (reach_zero es _ _ (ht e he)).2 rfl
            | succ m ihm => exact reach_mono es ht _ _ _ ihm
          rw [← h2]
          exact this _
        · exact .inr ⟨e', he', h3, (reach_succ es ht _ _ _).2 (.inr ⟨e, he, h4, h2⟩)⟩
    · rintro (h1 | ⟨e, he, h1, h2⟩)
      · exact .inl (.inl h1)
      · rcases (reach_succ es ht e.t n v).1 h2 with h3 | ⟨e', he', h3, h4⟩
        · exact .inl (.inr ⟨e, he, h1, h3⟩)
        · exact .inr ⟨e', he', (ih e'.f).2 (.inr ⟨e, he, h1, h3⟩), h4⟩

/-- the edges of a graph whose flows lie in this row -/
def Tells (E : Nat → Nat → Prop) (es : List Fl) : Prop := (∀ e ∈ es, 1 ≤ e.f ∧ e.f ≤ 16 ∧ 1 ≤ e.t ∧ e.t ≤ 16 ∧ E e.f e.t) ∧ ∀ p q, 1 ≤ p → p ≤ 16 → 1 ≤ q → q ≤ 16 → E p q → ∃ e ∈ es, e.f = p ∧ e.t = q
theorem reach_hops {E : Nat → Nat → Prop} {es : List Fl} {to : Nat} {D : List Int} (T : Tells E es) (H : Hops E to D) (t1 : 1 ≤ to) (t2 : to ≤ 16) : ∀ n p, 1 ≤ p → p ≤ 16 → n ≤ 16 → (gb (reachF es p n) to = true ↔ gi D p ≤ n) := by
  have hb : ∀ e ∈ es, e.t < 17 ∧ e.f < 17 := fun e he => by have := T.1 e he; omega
  intro n
  induction n with
  | zero =>
    intro p p1 p2 _
    rw [reach_zero es p to (by omega)]
    have hr := H.rng p p1 p2
    constructor
    · intro e
      subst e
      rw [H.zero]
      exact Int.le_refl 0
    · intro e
      exact (H.pos p1 p2 (by omega)).symm
  | succ n ih =>
    intro p p1 p2 hn
    rw [reach_first es hb p (by omega)]
    have hr := H.rng p p1 p2
    constructor
    · rintro (e | ⟨e, he, e1, e2⟩)
      · subst e
        rw [H.zero]
        omega
      · have hE := T.1 e he
        have h1 := (ih e.t hE.2.2.1 hE.2.2.2.1 (by omega)).1 e2
        subst e1
        have := H.step e.f e.t p1 p2 hE.2.2.1 hE.2.2.2.1 hE.2.2.2.2 (by omega)
        omega
    · intro hle
      by_cases e : p = to
      · exact .inl e.symm
      · obtain ⟨q, q1, q2, hE, hq, hd⟩ := H.back p p1 p2 e (by omega)
        obtain ⟨x, hx, e1, e2⟩ := T.2 p q p1 p2 q1 q2 hE
        subst e1 e2
        exact .inr ⟨x, hx, rfl, (ih x.t q1 q2 (by omega)).2 (by omega)⟩
theorem tells_flo (cp : List Int) : Tells (Edg cp) (flo cp ps16) := by
  refine ⟨fun e he => ?_, fun p q p1 p2 q1 q2 hE => ?_⟩
  · obtain ⟨x, hx, e1, e2, e3, e4⟩ := mem_flo he
    obtain ⟨i, hi, rfl⟩ := List.mem_map.1 hx
    have hi' := List.mem_range.1 hi
    simp only at e1 e2
    refine ⟨by omega, by omega, by omega, by omega, ?_⟩
    unfold Edg capF okp
    rw [if_pos (by simp; omega), ← e3]
    exact e4
  · unfold Edg capF okp at hE
    rw [if_pos (by simp; omega)] at hE
    refine ⟨⟨p, q, gi cp (p * 17 + q)⟩, List.mem_flatMap.2 ⟨(p, q), mem_ps16 p1 p2 q1 q2, ?_⟩, rfl, rfl⟩
    unfold fl1
    rw [if_pos hE]
    exact List.mem_singleton.2 rfl
end Go.Proofs.Ytjopmkfpghdlpaa.A

