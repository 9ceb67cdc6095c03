/-
  Plain words for the law PathsLeast: that there is one way of telling how far each party is; relaxed round by round it comes out.
-/
import Derived.Test.YtjopmkfpghdlpaaX5
namespace Go.Proofs.Ytjopmkfpghdlpaa.A
set_option linter.unusedVariables false
set_option linter.unusedSimpArgs false

theorem bfs_exists {E : Nat → Nat → Prop} {to : Nat} : ∀ (m : Nat) (D : List Int) (seq : List Nat) (k : Nat), Bfs E to D seq k → 40 - (seq.length + k) ≤ m → ∃ D', Hops E to D'
  | 0, D, seq, k, h, hm => by
    have := h.size
    have := h.kle
    omega
  | m + 1, D, seq, k, h, hm => by
    have hs := h.size
    have hk := h.kle
    by_cases hlt : k < seq.length
    · by_cases hx : ∃ p, 1 ≤ p ∧ p ≤ 16 ∧ gi D p = 17 ∧ E p (gn seq k)
      · obtain ⟨p, h1, h2, h3, h4⟩ := hx
        exact bfs_exists m _ _ _ (h.push hlt h1 h2 h3 h4) (by rw [List.length_append, List.length_singleton]; omega)
      · refine bfs_exists m _ _ _ (h.next hlt fun p h1 h2 hE => ?_) (by omega)
        refine (h.vis p h2).2 fun h17 => hx ⟨p, h1, h2, h17, hE⟩
    · exact ⟨D, h.hops (by omega)⟩
theorem hops_exists (E : Nat → Nat → Prop) (to : Nat) (h1 : 1 ≤ to) (h2 : to ≤ 16) : ∃ D, Hops E to D := bfs_exists 40 _ _ _ (Bfs.start E to h1 h2) (by omega)

/-- how the law's own distances stand: n rounds are through, of the next one the pairs ahead of (a, b) -/
structure LeftAt (E : Nat → Nat → Prop) (D L : List Int) (n a b : Nat) : Prop where
  len : L.length = 17
  bd : ∀ p, p ≤ 16 → 0 ≤ gi L p ∧ gi L p ≤ 99
  low : ∀ p, p ≤ 16 → gi L p < 99 → gi D p ≠ 17 ∧ gi D p ≤ gi L p
  up : ∀ p, 1 ≤ p → p ≤ 16 → gi D p ≤ n → gi L p ≤ gi D p
  pair : ∀ p q, 1 ≤ p → p ≤ 16 → 1 ≤ q → q ≤ 16 → (p < a ∨ (p = a ∧ q < b)) → E p q → gi D q ≤ n → gi L p ≤ gi D q + 1
theorem LeftAt.start {E : Nat → Nat → Prop} {to : Nat} {D : List Int} (h : Hops E to D) (h1 : 1 ≤ to) (h2 : to ≤ 16) : LeftAt E D ((List.replicate 17 (99 : Int)).set to 0) 0 1 1 := by
  have g0 : ∀ i, i ≤ 16 → gi (List.replicate 17 (99 : Int)) i = 99 := fun i hi => by
    unfold gi
    rw [List.getD_eq_getElem?_getD, List.getElem?_replicate, if_pos (by omega)]
    rfl
  have hg := fun j => gi_set (List.replicate 17 (99 : Int)) to j 0 (by simp; omega)
  refine ⟨by simp, fun p hp => ?_, fun p hp hl => ?_, fun p p1 p2 hd => ?_, fun p q p1 _ q1 _ hpq => by omega⟩
  · rw [hg]; split
    · omega
    · rw [g0 p hp]; omega
  · rw [hg] at hl ⊢
    by_cases e : p = to
    · subst e; rw [if_pos rfl, h.zero]; omega
    · rw [if_neg e, g0 p hp] at hl; omega
  · have hr := h.rng p p1 p2
    have := h.pos p1 p2 (by omega)
    subst this
    rw [hg, if_pos rfl]
    omega
theorem LeftAt.keep {E : Nat → Nat → Prop} {D L : List Int} {n a b : Nat} (h : LeftAt E D L n a b) (hd : E a b → gi D b ≤ n → gi L a ≤ gi D b + 1) : LeftAt E D L n a (b + 1) :=
  ⟨h.len, h.bd, h.low, h.up, fun p q p1 p2 q1 q2 hpq hE hq => by
    by_cases e : p = a ∧ q = b
    · obtain ⟨rfl, rfl⟩ := e
      exact hd hE hq
    · exact h.pair p q p1 p2 q1 q2 (by omega) hE hq⟩
theorem LeftAt.relax {E : Nat → Nat → Prop} {to : Nat} {D L : List Int} {n a b : Nat} (h : LeftAt E D L n a b) (hD : Hops E to D) (a1 : 1 ≤ a) (a2 : a ≤ 16) (b1 : 1 ≤ b) (b2 : b ≤ 16) (hE : E a b) (hlt : gi L b + 1 < gi L a) : LeftAt E D (L.set a (gi L b + 1)) n a (b + 1) := by
  have hg := fun j => gi_set L a j (gi L b + 1) (by rw [h.len]; omega)
  have hb := h.bd b b2
  have ha := h.bd a a2
  have hlow := h.low b b2 (by omega)
  have hst := hD.step a b a1 a2 b1 b2 hE hlow.1
  have hra := hD.rng a a1 a2
  have hrb := hD.rng b b1 b2
  have hle : ∀ p, gi (L.set a (gi L b + 1)) p ≤ gi L p := fun p => by
    rw [hg]
    split
    · rename_i e; rw [e]; omega
    · exact Int.le_refl _
  refine ⟨by simp [h.len], fun p hp => ?_, fun p hp hl => ?_, fun p p1 p2 hd => ?_, fun p q p1 p2 q1 q2 hpq hE2 hq => ?_⟩
  · rw [hg]; split
    · omega
    · exact h.bd p hp
  · rw [hg] at hl ⊢
    by_cases e : p = a
    · subst e; rw [if_pos rfl]; omega
    · rw [if_neg e] at hl ⊢; exact h.low p hp hl
  · have := h.up p p1 p2 hd
    have := hle p
    omega
  · by_cases e : p = a ∧ q = b
    · obtain ⟨rfl, rfl⟩ := e
      rw [hg, if_pos rfl]
      have := h.up q q1 q2 hq
      omega
    · have := h.pair p q p1 p2 q1 q2 (by omega) hE2 hq
      have := hle p
      omega
theorem LeftAt.row {E : Nat → Nat → Prop} {D L : List Int} {n a : Nat} (h : LeftAt E D L n a 17) : LeftAt E D L n (a + 1) 1 :=
  ⟨h.len, h.bd, h.low, h.up, fun p q p1 p2 q1 q2 hpq hE hq => h.pair p q p1 p2 q1 q2 (by omega) hE hq⟩
theorem LeftAt.round {E : Nat → Nat → Prop} {to : Nat} {D L : List Int} {n : Nat} (h : LeftAt E D L n 17 1) (hD : Hops E to D) (hn : n ≤ 15) : LeftAt E D L (n + 1) 1 1 := by
  refine ⟨h.len, h.bd, h.low, fun p p1 p2 hd => ?_, fun p q p1 _ q1 _ hpq => by omega⟩
  by_cases e : gi D p ≤ n
  · exact h.up p p1 p2 e
  · have hr := hD.rng p p1 p2
    by_cases et : p = to
    · subst et; have := hD.zero; omega
    · obtain ⟨q, q1, q2, hE, _, he⟩ := hD.back p p1 p2 et (by omega)
      have := h.pair p q p1 p2 q1 q2 (by omega) hE (by omega)
      omega
theorem LeftAt.fin {E : Nat → Nat → Prop} {to : Nat} {D L : List Int} (h : LeftAt E D L 16 1 1) (hD : Hops E to D) (p : Nat) (p1 : 1 ≤ p) (p2 : p ≤ 16) : gi L p = if gi D p = 17 then 99 else gi D p := by
  have hr := hD.rng p p1 p2
  have hb := h.bd p p2
  have hl := h.low p p2
  by_cases e : gi D p = 17
  · rw [if_pos e]
    apply Decidable.byContradiction
    intro hne
    exact (hl (by omega)).1 e
  · rw [if_neg e]
    have := h.up p p1 p2 (by omega)
    have := hl (by omega)
    omega
end Go.Proofs.Ytjopmkfpghdlpaa.A

