/-
  Plain words for a round that costs less than nothing: how it is looked for, that it is one, and that none is overlooked. No program in sight.
-/
import Init
namespace Go.Proofs.Ytjopmkfpghdlpaa.A
set_option linter.unusedVariables false
set_option linter.unusedSimpArgs false

/-- an edge with a cost -/
structure Ed where
  f : Nat
  t : Nat
  c : Int
def Ed.ok (e : Ed) : Prop := 1 ≤ e.f ∧ e.f ≤ 16 ∧ 1 ≤ e.t ∧ e.t ≤ 16
def gi (l : List Int) (i : Nat) : Int := l.getD i 0
def gn (l : List Nat) (i : Nat) : Nat := l.getD i 0
theorem gi_set (l : List Int) (i j : Nat) (x : Int) (h : i < l.length) : gi (l.set i x) j = if j = i then x else gi l j := by
  unfold gi
  simp only [List.getD_eq_getElem?_getD, List.getElem?_set]
  by_cases e : i = j
  · subst e; simp [h]
  · rw [if_neg e, if_neg (Ne.symm e)]
theorem gn_set (l : List Nat) (i j : Nat) (x : Nat) (h : i < l.length) : gn (l.set i x) j = if j = i then x else gn l j := by
  unfold gn
  simp only [List.getD_eq_getElem?_getD, List.getElem?_set]
  by_cases e : i = j
  · subst e; simp [h]
  · rw [if_neg e, if_neg (Ne.symm e)]

/-- the search's state: distances, who is ahead, whose distance changed last -/
structure St where
  d : List Int
  a : List Nat
  l : Nat
def relax (s : St) (e : Ed) : St :=
  if gi s.d e.f + e.c < gi s.d e.t then ⟨s.d.set e.t (gi s.d e.f + e.c), s.a.set e.t e.f, e.t⟩ else s
def once (es : List Ed) (s : St) : St := es.foldl relax { s with l := 0 }
def s0 : St := ⟨List.replicate 17 0, List.replicate 17 0, 0⟩
def itr (es : List Ed) : Nat → St
  | 0 => s0
  | n + 1 => once es (itr es n)
def iter (f : Nat → Nat) : Nat → Nat → Nat
  | 0, x => x
  | n + 1, x => f (iter f n x)
/-- the parties that come, one ahead of the other, till one comes that came already -/
def orb (f : Nat → Nat) : Nat → Nat → List Nat → List Nat
  | 0, _, out => out
  | n + 1, z, out => if z ∈ out then out else orb f n (f z) (out ++ [z])
def leastOf (l : List Nat) : Nat := l.tail.foldl Nat.min (l.headD 0)
/-- turned so that it begins with the least one -/
def turned (l : List Nat) : List Nat := l.drop (l.idxOf (leastOf l)) ++ l.take (l.idxOf (leastOf l))
/-- the round that is found -/
def roundF (es : List Ed) : List Nat :=
  if (itr es 16).l = 0 then [] else turned (orb (gn (itr es 16).a) 18 (iter (gn (itr es 16).a) 16 (itr es 16).l) []).reverse

theorem iter_add (f : Nat → Nat) (m n x : Nat) : iter f (m + n) x = iter f m (iter f n x) := by
  induction m with
  | zero => simp [iter]
  | succ m ih => rw [show m + 1 + n = (m + n) + 1 by omega, iter, iter, ih]
theorem iter_succ' (f : Nat → Nat) (n x : Nat) : iter f (n + 1) x = iter f n (f x) := iter_add f n 1 x

theorem relax_len (s : St) (e : Ed) (hd : s.d.length = 17) (ha : s.a.length = 17) : (relax s e).d.length = 17 ∧ (relax s e).a.length = 17 := by
  unfold relax
  split <;> simp [hd, ha]
theorem fold_len (es : List Ed) : ∀ s : St, s.d.length = 17 → s.a.length = 17 → (es.foldl relax s).d.length = 17 ∧ (es.foldl relax s).a.length = 17 := by
  induction es with
  | nil => intro s h1 h2; exact ⟨h1, h2⟩
  | cons e es ih => intro s h1 h2; exact ih _ (relax_len s e h1 h2).1 (relax_len s e h1 h2).2
theorem itr_len (es : List Ed) (n : Nat) : (itr es n).d.length = 17 ∧ (itr es n).a.length = 17 := by
  induction n with
  | zero => exact ⟨by simp [itr, s0], by simp [itr, s0]⟩
  | succ n ih => exact fold_len es _ ih.1 ih.2

/-- nothing changed: nothing is to be changed -/
theorem fold_still (es : List Ed) : ∀ s : St, (∀ e ∈ es, e.t ≠ 0) → (es.foldl relax s).l = 0 → es.foldl relax s = s ∧ ∀ e ∈ es, gi s.d e.t ≤ gi s.d e.f + e.c := by
  induction es with
  | nil => intro s _ _; exact ⟨rfl, fun e h => by simp at h⟩
  | cons e es ih =>
    intro s ht h
    rw [List.foldl_cons] at h ⊢
    have ih' := ih (relax s e) (fun x hx => ht x (List.mem_cons_of_mem _ hx)) h
    have hl : (relax s e).l = 0 := by rw [← ih'.1]; exact h
    by_cases hc : gi s.d e.f + e.c < gi s.d e.t
    · unfold relax at hl
      rw [if_pos hc] at hl
      exact absurd hl (ht e List.mem_cons_self)
    · have e1 : relax s e = s := by unfold relax; rw [if_neg hc]
      rw [e1] at ih' ⊢
      refine ⟨ih'.1, fun x hx => ?_⟩
      rcases List.mem_cons.1 hx with rfl | hx
      · omega
      · exact ih'.2 x hx
theorem once_still {es : List Ed} (ht : ∀ e ∈ es, e.t ≠ 0) {s : St} (h : (once es s).l = 0) : once es s = { s with l := 0 } ∧ ∀ e ∈ es, gi s.d e.t ≤ gi s.d e.f + e.c :=
  fold_still es _ ht h
theorem once_again {es : List Ed} (s : St) (h : s.l = 0) : { s with l := 0 } = s := by cases s; simp at h; subst h; rfl
theorem itr_still {es : List Ed} (ht : ∀ e ∈ es, e.t ≠ 0) {n : Nat} (h1 : 1 ≤ n) (h : (itr es n).l = 0) : ∀ m, itr es (n + m) = itr es n := by
  intro m
  induction m with
  | zero => rfl
  | succ m ih =>
    rw [show n + (m + 1) = (n + m) + 1 by omega, itr, ih]
    obtain ⟨k, rfl⟩ : ∃ k, n = k + 1 := ⟨n - 1, by omega⟩
    have h2 := once_still (es := es) ht (s := itr es k) h
    have hx : itr es (k + 1) = once es (itr es k) := rfl
    rw [hx, h2.1]
    unfold once
    have e1 := h2.1
    unfold once at e1
    exact e1
theorem itr_still_l {es : List Ed} (ht : ∀ e ∈ es, e.t ≠ 0) {n : Nat} (h1 : 1 ≤ n) (h16 : n ≤ 16) (h : (itr es n).l = 0) : (itr es 16).l = 0 := by
  have := itr_still ht h1 h (16 - n)
  rw [show n + (16 - n) = 16 by omega] at this
  rw [this]; exact h
theorem still_pot {es : List Ed} (ht : ∀ e ∈ es, e.t ≠ 0) (h : (itr es 16).l = 0) : ∀ e ∈ es, gi (itr es 16).d e.t ≤ gi (itr es 16).d e.f + e.c := by
  have hx : itr es 16 = once es (itr es 15) := rfl
  have h2 := once_still (es := es) ht (s := itr es 15) h
  rw [hx, h2.1]
  exact h2.2

/-- how far a distance can fall -/
theorem relax_bd (s : St) (e : Ed) (B : Int) (hc : -128 ≤ e.c) (hc' : e.c ≤ 127) (hlen : s.d.length = 17) (h : ∀ i, -B ≤ gi s.d i ∧ gi s.d i ≤ 0) : ∀ i, -(B + 128) ≤ gi (relax s e).d i ∧ gi (relax s e).d i ≤ 0 := by
  intro i
  have hi := h i
  unfold relax
  split
  · rename_i hlt
    have h1 := h e.f
    have h2 := h e.t
    by_cases ht : e.t < s.d.length
    · show _ ≤ gi (s.d.set e.t (gi s.d e.f + e.c)) i ∧ gi (s.d.set e.t (gi s.d e.f + e.c)) i ≤ 0
      rw [gi_set _ _ _ _ ht]
      split <;> omega
    · have : s.d.set e.t (gi s.d e.f + e.c) = s.d := List.set_eq_of_length_le (by omega)
      refine ⟨?_, ?_⟩
      · show -(B + 128) ≤ gi (s.d.set e.t (gi s.d e.f + e.c)) i
        rw [this]; omega
      · show gi (s.d.set e.t (gi s.d e.f + e.c)) i ≤ 0
        rw [this]; omega
  · exact ⟨by omega, hi.2⟩
theorem fold_bd (es : List Ed) : ∀ (s : St) (B : Int), 0 ≤ B → (∀ e ∈ es, -128 ≤ e.c ∧ e.c ≤ 127) → s.d.length = 17 → s.a.length = 17 → (∀ i, -B ≤ gi s.d i ∧ gi s.d i ≤ 0) → ∀ i, -(B + 128 * es.length) ≤ gi (es.foldl relax s).d i ∧ gi (es.foldl relax s).d i ≤ 0 := by
  induction es with
  | nil => intro s B _ _ _ _ h i; have := h i; simpa using this
  | cons e es ih =>
    intro s B hB hc h1 h2 h i
    have hl := relax_len s e h1 h2
    have hb := relax_bd s e B (hc e List.mem_cons_self).1 (hc e List.mem_cons_self).2 h1 h
    have := ih (relax s e) (B + 128) (by omega) (fun x hx => hc x (List.mem_cons_of_mem _ hx)) hl.1 hl.2 hb i
    rw [List.foldl_cons, List.length_cons]
    omega
theorem itr_bd (es : List Ed) (hc : ∀ e ∈ es, -128 ≤ e.c ∧ e.c ≤ 127) (n : Nat) : ∀ i, -(128 * es.length * n : Int) ≤ gi (itr es n).d i ∧ gi (itr es n).d i ≤ 0 := by
  induction n with
  | zero =>
    intro i
    have : gi (itr es 0).d i = 0 := by
      unfold gi itr s0
      simp only [List.getD_eq_getElem?_getD, List.getElem?_replicate]
      split <;> rfl
    rw [this]; simp
  | succ n ih =>
    intro i
    have hl := itr_len es n
    have h0 : (0 : Int) ≤ 128 * es.length * n := Int.mul_nonneg (by omega) (by omega)
    have := fold_bd es { itr es n with l := 0 } (128 * es.length * n) h0 hc hl.1 hl.2 ih i
    have e1 : (128 * (es.length : Int) * ((n + 1 : Nat) : Int)) = 128 * es.length * n + 128 * es.length := by
      rw [Int.natCast_add, Int.mul_add]; simp
    rw [e1]
    exact this

/-! ### the search with what was told of each party besides: when it changed, by which cost, in which pass -/
structure G where
  s : St
  tm : Nat → Nat
  w : Nat → Int
  L : Nat → Nat
  ck : Nat
def upd {α : Type} (f : Nat → α) (i : Nat) (x : α) : Nat → α := fun j => if j = i then x else f j
def grelax (p : Nat) (g : G) (e : Ed) : G :=
  if gi g.s.d e.f + e.c < gi g.s.d e.t then ⟨relax g.s e, upd g.tm e.t (g.ck + 1), upd g.w e.t e.c, upd g.L e.t p, g.ck + 1⟩ else g
theorem grelax_s (p : Nat) (g : G) (e : Ed) : (grelax p g e).s = relax g.s e := by
  unfold grelax
  split
  · rfl
  · rename_i h
    unfold relax
    rw [if_neg h]
structure GInv (es : List Ed) (g : G) : Prop where
  ld : g.s.d.length = 17
  la : g.s.a.length = 17
  edge : ∀ v, gn g.s.a v ≠ 0 → ∃ e ∈ es, e.f = gn g.s.a v ∧ e.t = v ∧ e.c = g.w v
  ge : ∀ v, gn g.s.a v ≠ 0 → gi g.s.d (gn g.s.a v) + g.w v ≤ gi g.s.d v
  gt : ∀ v, gn g.s.a v ≠ 0 → g.tm v ≤ g.tm (gn g.s.a v) → gi g.s.d (gn g.s.a v) + g.w v < gi g.s.d v
  ck : ∀ v, g.tm v ≤ g.ck
theorem GInv.relax {es : List Ed} {g : G} (I : GInv es g) {p : Nat} {e : Ed} (he : e ∈ es) (hok : e.ok) : GInv es (grelax p g e) := by
  unfold grelax
  by_cases hlt : gi g.s.d e.f + e.c < gi g.s.d e.t
  case neg => rw [if_neg hlt]; exact I
  rw [if_pos hlt]
  have htl : e.t < g.s.d.length := by rw [I.ld]; unfold Ed.ok at hok; omega
  have htl' : e.t < g.s.a.length := by rw [I.la]; unfold Ed.ok at hok; omega
  have hs : Go.Proofs.Ytjopmkfpghdlpaa.A.relax g.s e = ⟨g.s.d.set e.t (gi g.s.d e.f + e.c), g.s.a.set e.t e.f, e.t⟩ := by unfold Go.Proofs.Ytjopmkfpghdlpaa.A.relax; rw [if_pos hlt]
  have hl := relax_len g.s e I.ld I.la
  have ea : ∀ v, gn (Go.Proofs.Ytjopmkfpghdlpaa.A.relax g.s e).a v = if v = e.t then e.f else gn g.s.a v := fun v => by rw [hs]; exact gn_set _ _ _ _ htl'
  have ed : ∀ v, gi (Go.Proofs.Ytjopmkfpghdlpaa.A.relax g.s e).d v = if v = e.t then gi g.s.d e.f + e.c else gi g.s.d v := fun v => by rw [hs]; exact gi_set _ _ _ _ htl
  refine ⟨hl.1, hl.2, fun v hv => ?_, fun v hv => ?_, fun v hv ht => ?_, fun v => ?_⟩
  · simp only [ea] at hv ⊢
    by_cases hve : v = e.t
    · subst hve
      simp only [↓reduceIte] at hv ⊢
      exact ⟨e, he, rfl, rfl, by simp [upd]⟩
    · rw [if_neg hve] at hv ⊢
      obtain ⟨x, hx, h1, h2, h3⟩ := I.edge v hv
      exact ⟨x, hx, h1, h2, by rw [h3]; simp [upd, hve]⟩
  · simp only [ea] at hv ⊢
    by_cases hve : v = e.t
    · subst hve
      simp only [↓reduceIte, ed, upd] at hv ⊢
      by_cases h2 : e.f = e.t
      · rw [if_pos h2]; rw [h2] at hlt ⊢; omega
      · rw [if_neg h2]; exact Int.le_refl _
    · simp only [if_neg hve, ed, upd] at hv ⊢
      have := I.ge v hv
      by_cases h2 : gn g.s.a v = e.t
      · rw [if_pos h2]; rw [h2] at this; omega
      · rw [if_neg h2]; exact this
  · simp only [ea] at hv ht ⊢
    by_cases hve : v = e.t
    · subst hve
      simp only [↓reduceIte, ed, upd] at hv ht ⊢
      by_cases h2 : e.f = e.t
      · rw [if_pos h2]; rw [h2] at hlt ⊢; omega
      · rw [if_neg h2] at ht
        have := I.ck e.f
        omega
    · simp only [if_neg hve, ed, upd] at hv ht ⊢
      have h3 := I.ge v hv
      by_cases h2 : gn g.s.a v = e.t
      · rw [if_pos h2]; rw [h2] at h3; omega
      · rw [if_neg h2] at ht ⊢
        exact I.gt v hv ht
  · simp only [upd]
    split
    · omega
    · have := I.ck v; omega

/-- within pass p: pre: the edges that are gone through, post: the others -/
structure PInv (es : List Ed) (p : Nat) (pre post : List Ed) (g : G) : Prop where
  inv : GInv es g
  one : ∀ v, 1 ≤ g.L v ↔ gn g.s.a v ≠ 0
  up : ∀ v, g.L v ≤ p
  chain : ∀ v, gn g.s.a v ≠ 0 → g.L v ≤ g.L (gn g.s.a v) + 1
  done : ∀ e ∈ pre, g.L e.f < p → gi g.s.d e.t ≤ gi g.s.d e.f + e.c
  open_ : ∀ e ∈ post, g.L e.f + 1 < p → gi g.s.d e.t ≤ gi g.s.d e.f + e.c
  last : g.s.l ≠ 0 → g.L g.s.l = p
theorem PInv.relax {es : List Ed} {p : Nat} {pre post : List Ed} {e : Ed} {g : G} (I : PInv es p pre (e :: post) g) (hp : 1 ≤ p) (he : e ∈ es) (hok : ∀ x ∈ es, x.ok) : PInv es p (pre ++ [e]) post (grelax p g e) := by
  have hoke := hok e he
  have hG := I.inv.relax (p := p) he hoke
  unfold grelax at hG ⊢
  by_cases hlt : gi g.s.d e.f + e.c < gi g.s.d e.t
  case neg =>
    rw [if_neg hlt]
    refine ⟨I.inv, I.one, I.up, I.chain, fun x hx hL => ?_, fun x hx hL => I.open_ x (List.mem_cons_of_mem _ hx) hL, I.last⟩
    rcases List.mem_append.1 hx with hx | hx
    · exact I.done x hx hL
    · simp at hx
      subst hx
      omega
  rw [if_pos hlt] at hG ⊢
  have htl : e.t < g.s.d.length := by rw [I.inv.ld]; unfold Ed.ok at hoke; omega
  have htl' : e.t < g.s.a.length := by rw [I.inv.la]; unfold Ed.ok at hoke; omega
  have hs : Go.Proofs.Ytjopmkfpghdlpaa.A.relax g.s e = ⟨g.s.d.set e.t (gi g.s.d e.f + e.c), g.s.a.set e.t e.f, e.t⟩ := by unfold Go.Proofs.Ytjopmkfpghdlpaa.A.relax; rw [if_pos hlt]
  have ea : ∀ v, gn (Go.Proofs.Ytjopmkfpghdlpaa.A.relax g.s e).a v = if v = e.t then e.f else gn g.s.a v := fun v => by rw [hs]; exact gn_set _ _ _ _ htl'
  have ed : ∀ v, gi (Go.Proofs.Ytjopmkfpghdlpaa.A.relax g.s e).d v = if v = e.t then gi g.s.d e.f + e.c else gi g.s.d v := fun v => by rw [hs]; exact gi_set _ _ _ _ htl
  have el : (Go.Proofs.Ytjopmkfpghdlpaa.A.relax g.s e).l = e.t := by rw [hs]
  have hge : p ≤ g.L e.f + 1 := by
    apply Decidable.byContradiction
    intro hn
    have := I.open_ e List.mem_cons_self (by omega)
    omega
  have hf0 : e.f ≠ 0 := by unfold Ed.ok at hoke; omega
  refine ⟨hG, fun v => ?_, fun v => ?_, fun v hv => ?_, fun x hx hL => ?_, fun x hx hL => ?_, fun hl => ?_⟩
  · simp only [ea, upd]
    by_cases hve : v = e.t
    · rw [if_pos hve, if_pos hve]; exact ⟨fun _ => hf0, fun _ => hp⟩
    · rw [if_neg hve, if_neg hve]; exact I.one v
  · simp only [upd]
    split
    · exact Nat.le_refl _
    · exact I.up v
  · simp only [ea, upd] at hv ⊢
    by_cases hve : v = e.t
    · rw [if_pos hve, if_pos hve]
      by_cases h2 : e.f = e.t
      · rw [if_pos h2]; omega
      · rw [if_neg h2]; exact hge
    · rw [if_neg hve] at hv ⊢
      rw [if_neg hve]
      have h3 := I.chain v hv
      have h4 := I.up v
      split <;> omega
  · simp only [upd] at hL
    rw [ed, ed]
    by_cases h1 : x.f = e.t
    · rw [if_pos h1] at hL; omega
    · rw [if_neg h1] at hL ⊢
      rcases List.mem_append.1 hx with hx | hx
      · have := I.done x hx hL
        split
        · rename_i h2; rw [h2] at this; omega
        · exact this
      · simp at hx
        subst hx
        rw [if_pos rfl]
        exact Int.le_refl _
  · simp only [upd] at hL
    rw [ed, ed]
    by_cases h1 : x.f = e.t
    · rw [if_pos h1] at hL; omega
    · rw [if_neg h1] at hL ⊢
      have := I.open_ x (List.mem_cons_of_mem _ hx) hL
      split
      · rename_i h2; rw [h2] at this; omega
      · exact this
  · simp only [el, upd, ↓reduceIte]
theorem PInv.fold {es : List Ed} {p : Nat} (hp : 1 ≤ p) (hok : ∀ x ∈ es, x.ok) : ∀ (post pre : List Ed) (g : G), (∀ x ∈ post, x ∈ es) → PInv es p pre post g → PInv es p (pre ++ post) [] (post.foldl (grelax p) g)
  | [], pre, g, _, I => by simpa using I
  | e :: post, pre, g, hm, I => by
    have := PInv.fold hp hok post (pre ++ [e]) _ (fun x hx => hm x (List.mem_cons_of_mem _ hx)) (I.relax hp (hm e List.mem_cons_self) hok)
    simpa using this
theorem fold_s (p : Nat) (es : List Ed) : ∀ g : G, (es.foldl (grelax p) g).s = es.foldl Go.Proofs.Ytjopmkfpghdlpaa.A.relax g.s := by
  induction es with
  | nil => intro g; rfl
  | cons e es ih => intro g; rw [List.foldl_cons, ih, grelax_s, List.foldl_cons]
def gitr (es : List Ed) : Nat → G
  | 0 => ⟨s0, fun _ => 0, fun _ => 0, fun _ => 0, 0⟩
  | n + 1 => es.foldl (grelax (n + 1)) { gitr es n with s := { (gitr es n).s with l := 0 } }
theorem gitr_s (es : List Ed) (n : Nat) : (gitr es n).s = itr es n := by
  induction n with
  | zero => rfl
  | succ n ih => rw [gitr, fold_s, itr, once, ← ih]
theorem gn_zero (v : Nat) : gn (List.replicate 17 0) v = 0 := by
  unfold gn
  simp only [List.getD_eq_getElem?_getD, List.getElem?_replicate]
  split <;> rfl
theorem gitr_inv (es : List Ed) (hok : ∀ x ∈ es, x.ok) (n : Nat) : PInv es n es [] (gitr es n) := by
  induction n with
  | zero =>
    refine ⟨⟨by simp [gitr, s0], by simp [gitr, s0], ?_, ?_, ?_, ?_⟩, ?_, ?_, ?_, ?_, ?_, ?_⟩
    · intro v hv; exact absurd (gn_zero v) hv
    · intro v hv; exact absurd (gn_zero v) hv
    · intro v hv; exact absurd (gn_zero v) hv
    · intro v; simp [gitr]
    · intro v
      have : gn (gitr es 0).s.a v = 0 := gn_zero v
      simp only [this]; simp [gitr]
    · intro v; simp [gitr]
    · intro v hv; exact absurd (gn_zero v) hv
    · intro e he hL; exact absurd hL (by simp)
    · intro e he; simp at he
    · intro h; exact absurd rfl h
  | succ n ih =>
    have hst : PInv es (n + 1) [] es { gitr es n with s := { (gitr es n).s with l := 0 } } := by
      refine ⟨⟨ih.inv.ld, ih.inv.la, ih.inv.edge, ih.inv.ge, ih.inv.gt, ih.inv.ck⟩, ih.one, fun v => Nat.le_succ_of_le (ih.up v), ih.chain, fun e he => by simp at he, fun e he hL => ih.done e he (by have : (gitr es n).L e.f + 1 < n + 1 := hL; omega), fun h => absurd rfl h⟩
    have := PInv.fold (Nat.succ_pos n) hok es [] _ (fun x hx => hx) hst
    simpa [gitr] using this
end Go.Proofs.Ytjopmkfpghdlpaa.A
