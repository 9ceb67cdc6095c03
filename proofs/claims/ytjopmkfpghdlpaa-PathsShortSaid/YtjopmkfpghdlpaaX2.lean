/-
  Plain words for the shortest way: how far each party is, by what stands beside it; the search that goes out from the end.
-/
import Derived.Test.YtjopmkfpghdlpaaP1
namespace Go.Proofs.Ytjopmkfpghdlpaa.A
set_option linter.unusedVariables false
set_option linter.unusedSimpArgs false

/-- how far each party is from the end (17: there is no way), told by its neighbours -/
structure Hops (E : Nat → Nat → Prop) (to : Nat) (D : List Int) : Prop where
  len : D.length = 17
  zero : gi D to = 0
  none_ : gi D 0 = 17
  rng : ∀ p, 1 ≤ p → p ≤ 16 → 0 ≤ gi D p ∧ (gi D p ≤ 15 ∨ gi D p = 17)
  step : ∀ p q, 1 ≤ p → p ≤ 16 → 1 ≤ q → q ≤ 16 → E p q → gi D q ≠ 17 → gi D p ≤ gi D q + 1
  back : ∀ p, 1 ≤ p → p ≤ 16 → p ≠ to → gi D p ≠ 17 → ∃ q, 1 ≤ q ∧ q ≤ 16 ∧ E p q ∧ gi D q ≠ 17 ∧ gi D p = gi D q + 1
theorem Hops.pos {E : Nat → Nat → Prop} {to : Nat} {D : List Int} (h : Hops E to D) {p : Nat} (h1 : 1 ≤ p) (h2 : p ≤ 16) (h0 : gi D p = 0) : p = to := by
  apply Decidable.byContradiction
  intro hne
  obtain ⟨q, q1, q2, _, hq, he⟩ := h.back p h1 h2 hne (by omega)
  have := h.rng q q1 q2
  omega
/-- there is one answer -/
theorem Hops.le {E : Nat → Nat → Prop} {to : Nat} {D D' : List Int} (h : Hops E to D) (h' : Hops E to D') : ∀ (n : Nat) (p : Nat), 1 ≤ p → p ≤ 16 → gi D p = n → gi D p ≠ 17 → gi D' p ≤ n ∧ gi D' p ≠ 17
  | 0, p, h1, h2, hn, _ => by
    have := h.pos h1 h2 (by omega)
    subst this
    rw [h'.zero]
    omega
  | n + 1, p, h1, h2, hn, h17 => by
    by_cases e : p = to
    · subst e; have := h.zero; omega
    · obtain ⟨q, q1, q2, hE, hq, he⟩ := h.back p h1 h2 e h17
      obtain ⟨i1, i2⟩ := Hops.le h h' n q q1 q2 (by omega) hq
      have := h'.step p q h1 h2 q1 q2 hE i2
      have := h'.rng p h1 h2
      have := h'.rng q q1 q2
      have := h.rng q q1 q2
      omega
theorem Hops.unique {E : Nat → Nat → Prop} {to : Nat} {D D' : List Int} (h : Hops E to D) (h' : Hops E to D') : D = D' := by
  have key : ∀ p, 1 ≤ p → p ≤ 16 → gi D p = gi D' p := by
    intro p h1 h2
    have r1 := h.rng p h1 h2
    have r2 := h'.rng p h1 h2
    have a1 := fun hne => Hops.le h h' (gi D p).toNat p h1 h2 (by omega) hne
    have a2 := fun hne => Hops.le h' h (gi D' p).toNat p h1 h2 (by omega) hne
    by_cases c1 : gi D p = 17
    · by_cases c2 : gi D' p = 17
      · omega
      · have := a2 c2; omega
    · have := a1 c1
      have := a2 this.2
      omega
  apply List.ext_getElem (by rw [h.len, h'.len])
  intro i hi1 hi2
  have e : gi D i = gi D' i := by
    by_cases h0 : i = 0
    · subst h0; rw [h.none_, h'.none_]
    · exact key i (by omega) (by have := h.len; omega)
  unfold gi at e
  simpa [List.getD_eq_getElem?_getD, hi1, hi2] using e

/-! ### the search -/
structure Bfs (E : Nat → Nat → Prop) (to : Nat) (D : List Int) (seq : List Nat) (k : Nat) : Prop where
  len : D.length = 17
  kle : k ≤ seq.length
  nodup : seq.Nodup
  rng : ∀ x ∈ seq, 1 ≤ x ∧ x ≤ 16
  first : gn seq 0 = to ∧ 1 ≤ seq.length
  zero : gi D to = 0
  vis : ∀ p, p ≤ 16 → (p ∈ seq ↔ gi D p ≠ 17)
  idx : ∀ i, i < seq.length → 0 ≤ gi D (gn seq i) ∧ gi D (gn seq i) ≤ i
  sorted : ∀ i j, i ≤ j → j < seq.length → gi D (gn seq i) ≤ gi D (gn seq j)
  top : ∀ i, i < seq.length → k < seq.length → gi D (gn seq i) ≤ gi D (gn seq k) + 1
  back : ∀ i, 1 ≤ i → i < seq.length → ∃ j, j < i ∧ E (gn seq i) (gn seq j) ∧ gi D (gn seq i) = gi D (gn seq j) + 1
  done : ∀ j, j < k → ∀ p, 1 ≤ p → p ≤ 16 → E p (gn seq j) → p ∈ seq ∧ gi D p ≤ gi D (gn seq j) + 1
theorem gn_mem {l : List Nat} {i : Nat} (h : i < l.length) : gn l i ∈ l := by
  unfold gn
  rw [List.getD_eq_getElem?_getD, List.getElem?_eq_getElem h]
  exact List.getElem_mem h
theorem mem_gn {l : List Nat} {x : Nat} (h : x ∈ l) : ∃ i, i < l.length ∧ gn l i = x := by
  obtain ⟨i, hi, he⟩ := List.getElem_of_mem h
  exact ⟨i, hi, by unfold gn; rw [List.getD_eq_getElem?_getD, List.getElem?_eq_getElem hi]; exact he⟩
theorem gn_append_left {l m : List Nat} {i : Nat} (h : i < l.length) : gn (l ++ m) i = gn l i := by
  unfold gn
  rw [List.getD_eq_getElem?_getD, List.getD_eq_getElem?_getD, List.getElem?_append_left h]
theorem gn_append_last (l : List Nat) (x : Nat) : gn (l ++ [x]) l.length = x := by
  unfold gn
  rw [List.getD_eq_getElem?_getD, List.getElem?_append_right (Nat.le_refl _), Nat.sub_self]
  rfl
theorem Bfs.size {E : Nat → Nat → Prop} {to : Nat} {D : List Int} {seq : List Nat} {k : Nat} (h : Bfs E to D seq k) : seq.length ≤ 16 := by
  have hm : (seq.map (· - 1)).Nodup := List.pairwise_map.2 (h.nodup.imp_of_mem fun {a b} ha hb hne => by
    have := h.rng a ha
    have := h.rng b hb
    omega)
  have := pig 16 _ hm fun x hx => by
    obtain ⟨y, hy, rfl⟩ := List.mem_map.1 hx
    have := h.rng y hy
    omega
  simpa using this
theorem Bfs.start (E : Nat → Nat → Prop) (to : Nat) (h1 : 1 ≤ to) (h2 : to ≤ 16) : Bfs E to ((List.replicate 17 (17 : Int)).set to 0) [to] 0 := by
  have g0 : ∀ i, i ≤ 16 → gi (List.replicate 17 (17 : Int)) i = 17 := fun i hi => by
    unfold gi
    rw [List.getD_eq_getElem?_getD, List.getElem?_replicate, if_pos (by omega)]
    rfl
  have hg := fun j => gi_set (List.replicate 17 (17 : Int)) to j 0 (by simp; omega)
  have hgt : gn [to] 0 = to := rfl
  refine ⟨by simp, Nat.zero_le _, by simp, by simp; omega, ⟨rfl, by simp⟩, by rw [hg, if_pos rfl], fun p hp => ?_, fun i hi => ?_, fun i j hij hj => ?_, fun i hi _ => ?_, fun i h1 hi => ?_, fun j hj => by omega⟩
  · rw [hg]
    by_cases e : p = to
    · rw [if_pos e]; simp [e]
    · rw [if_neg e, g0 p hp]; simp [e]
  · have : i = 0 := by simp at hi; omega
    subst this
    rw [hgt, hg, if_pos rfl]
    omega
  · have : j = 0 := by simp at hj; omega
    have : i = 0 := by omega
    subst_vars
    exact Int.le_refl _
  · have : i = 0 := by simp at hi; omega
    subst this
    omega
  · simp at hi; omega
/-- a party that is new -/
theorem Bfs.push {E : Nat → Nat → Prop} {to : Nat} {D : List Int} {seq : List Nat} {k : Nat} (h : Bfs E to D seq k) (hk : k < seq.length) {p : Nat} (h1 : 1 ≤ p) (h2 : p ≤ 16) (hn : gi D p = 17) (hE : E p (gn seq k)) :
    Bfs E to (D.set p (gi D (gn seq k) + 1)) (seq ++ [p]) k := by
  have hp : p ∉ seq := fun hm => (h.vis p h2).1 hm hn
  have hg := fun j => gi_set D p j (gi D (gn seq k) + 1) (by rw [h.len]; omega)
  have hold : ∀ i, i < seq.length → gi (D.set p (gi D (gn seq k) + 1)) (gn seq i) = gi D (gn seq i) := fun i hi => by
    have hne : gn seq i ≠ p := fun e => hp (by rw [← e]; exact gn_mem hi)
    rw [hg, if_neg hne]
  have hl : (seq ++ [p]).length = seq.length + 1 := by simp
  have hgl : ∀ i, i < seq.length → gn (seq ++ [p]) i = gn seq i := fun i hi => gn_append_left hi
  have hgp : gn (seq ++ [p]) seq.length = p := gn_append_last seq p
  have hnew : gi (D.set p (gi D (gn seq k) + 1)) p = gi D (gn seq k) + 1 := by rw [hg, if_pos rfl]
  have hto : to ∈ seq := by rw [← h.first.1]; exact gn_mem h.first.2
  have hki := h.idx k hk
  refine ⟨by simp [h.len], by rw [hl]; have := h.kle; omega, ?_, ?_, ⟨by rw [hgl 0 h.first.2]; exact h.first.1, by rw [hl]; omega⟩, ?_, ?_, ?_, ?_, ?_, ?_, ?_⟩
  · rw [List.nodup_append]
    refine ⟨h.nodup, by simp, ?_⟩
    intro a ha b hb
    simp at hb
    subst hb
    exact fun e => hp (e ▸ ha)
  · intro x hx
    rcases List.mem_append.1 hx with hx | hx
    · exact h.rng x hx
    · simp at hx; omega
  · have hne : to ≠ p := fun e => hp (by rw [← e]; exact hto)
    rw [hg, if_neg hne]; exact h.zero
  · intro x hx
    rw [hg]
    by_cases e : x = p
    · rw [if_pos e]; subst e; simp only [List.mem_append, List.mem_singleton, or_true, true_iff]; have := h.size; omega
    · rw [if_neg e]; rw [← h.vis x hx]; simp [e]
  · intro i hi
    rw [hl] at hi
    by_cases e : i = seq.length
    · subst e
      rw [hgp, hnew]
      omega
    · rw [hgl i (by omega), hold i (by omega)]; exact h.idx i (by omega)
  · intro i j hij hj
    rw [hl] at hj
    by_cases e : j = seq.length
    · subst e
      rw [hgp, hnew]
      by_cases e2 : i = seq.length
      · subst e2; rw [hgp, hnew]; exact Int.le_refl _
      · rw [hgl i (by omega), hold i (by omega)]; exact h.top i (by omega) hk
    · rw [hgl i (by omega), hgl j (by omega), hold i (by omega), hold j (by omega)]
      exact h.sorted i j hij (by omega)
  · intro i hi _
    rw [hl] at hi
    rw [hgl k hk, hold k hk]
    by_cases e : i = seq.length
    · subst e; rw [hgp, hnew]; exact Int.le_refl _
    · rw [hgl i (by omega), hold i (by omega)]; exact h.top i (by omega) hk
  · intro i hi1 hi
    rw [hl] at hi
    by_cases e : i = seq.length
    · subst e
      refine ⟨k, hk, by rw [hgp, hgl k hk]; exact hE, by rw [hgp, hgl k hk, hold k hk, hnew]⟩
    · obtain ⟨j, hj, h3, h4⟩ := h.back i hi1 (by omega)
      exact ⟨j, hj, by rw [hgl i (by omega), hgl j (by omega)]; exact h3, by rw [hgl i (by omega), hgl j (by omega), hold i (by omega), hold j (by omega)]; exact h4⟩
  · intro j hj x hx1 hx2 hxE
    rw [hgl j (by omega)] at hxE ⊢
    obtain ⟨h3, h4⟩ := h.done j hj x hx1 hx2 hxE
    refine ⟨List.mem_append.2 (.inl h3), ?_⟩
    have hne : x ≠ p := fun e => hp (by rw [← e]; exact h3)
    rw [hold j (by omega), hg, if_neg hne]
    exact h4
/-- all beside the party at hand are there: on to the next one -/
theorem Bfs.next {E : Nat → Nat → Prop} {to : Nat} {D : List Int} {seq : List Nat} {k : Nat} (h : Bfs E to D seq k) (hk : k < seq.length) (ha : ∀ p, 1 ≤ p → p ≤ 16 → E p (gn seq k) → p ∈ seq) : Bfs E to D seq (k + 1) := by
  refine ⟨h.len, by omega, h.nodup, h.rng, h.first, h.zero, h.vis, h.idx, h.sorted, fun i hi hk1 => ?_, h.back, fun j hj p h1 h2 hE => ?_⟩
  · have := h.top i hi hk
    have := h.sorted k (k + 1) (by omega) hk1
    omega
  · by_cases e : j = k
    · subst e
      have hm := ha p h1 h2 hE
      refine ⟨hm, ?_⟩
      obtain ⟨i, hi, he⟩ := mem_gn hm
      rw [← he]
      exact h.top i hi hk
    · exact h.done j (by omega) p h1 h2 hE
theorem Bfs.hops {E : Nat → Nat → Prop} {to : Nat} {D : List Int} {seq : List Nat} {k : Nat} (h : Bfs E to D seq k) (hk : k = seq.length) : Hops E to D := by
  have hs := h.size
  have hbd : ∀ p, p ∈ seq → 0 ≤ gi D p ∧ gi D p ≤ 15 := fun p hp => by
    obtain ⟨i, hi, he⟩ := mem_gn hp
    have := h.idx i hi
    rw [he] at this
    omega
  refine ⟨h.len, h.zero, ?_, fun p h1 h2 => ?_, fun p q p1 p2 q1 q2 hE hq => ?_, fun p h1 h2 hne hp => ?_⟩
  · apply Decidable.byContradiction
    intro hne
    have := h.rng 0 ((h.vis 0 (by omega)).2 hne)
    omega
  · by_cases hm : p ∈ seq
    · have := hbd p hm
      omega
    · have : gi D p = 17 := by
        apply Decidable.byContradiction
        intro hne
        exact hm ((h.vis p h2).2 hne)
      omega
  · obtain ⟨j, hj, he⟩ := mem_gn ((h.vis q q2).2 hq)
    rw [← he] at hE ⊢
    exact (h.done j (by omega) p p1 p2 hE).2
  · obtain ⟨i, hi, he⟩ := mem_gn ((h.vis p h2).2 hp)
    have hi0 : i ≠ 0 := fun e => by
      rw [e, h.first.1] at he
      exact hne he.symm
    obtain ⟨j, hj, h3, h4⟩ := h.back i (by omega) hi
    have hmj := gn_mem (l := seq) (i := j) (by omega)
    have hr := h.rng _ hmj
    rw [he] at h3 h4
    exact ⟨gn seq j, hr.1, hr.2, h3, (h.vis _ hr.2).1 hmj, h4⟩
end Go.Proofs.Ytjopmkfpghdlpaa.A

