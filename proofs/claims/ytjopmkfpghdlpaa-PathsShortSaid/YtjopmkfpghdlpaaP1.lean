/-
  Plain words for a round that is found: where the search goes back, the parties come again; they are a round that costs less than nothing; where there is a height for each party that no edge undercuts, none is found.
-/
import Derived.Test.YtjopmkfpghdlpaaP0
namespace Go.Proofs.Ytjopmkfpghdlpaa.A
set_option linter.unusedVariables false
set_option linter.unusedSimpArgs false

/-! ### sums -/
def sm (g : Nat → Int) : Nat → Int
  | 0 => 0
  | n + 1 => sm g n + g n
theorem sm_le {g k : Nat → Int} : ∀ {n : Nat}, (∀ i, i < n → g i ≤ k i) → sm g n ≤ sm k n
  | 0, _ => Int.le_refl _
  | n + 1, h => by
    have h1 := sm_le (n := n) fun i hi => h i (by omega)
    have h2 := h n (by omega)
    simp only [sm]; omega
theorem sm_lt {g k : Nat → Int} : ∀ {n : Nat}, (∀ i, i < n → g i ≤ k i) → ∀ j, j < n → g j < k j → sm g n < sm k n
  | 0, _, j, hj, _ => by omega
  | n + 1, h, j, hj, hlt => by
    simp only [sm]
    have h2 := h n (by omega)
    by_cases e : j = n
    · subst e
      have h1 := sm_le (n := j) fun i hi => h i (by omega)
      omega
    · have h1 := sm_lt (n := n) (fun i hi => h i (by omega)) j (by omega) hlt
      omega
theorem sm_congr {g k : Nat → Int} {n : Nat} (h : ∀ i, i < n → g i = k i) : sm g n = sm k n := by
  have h1 := sm_le (g := g) (k := k) (n := n) fun i hi => Int.le_of_eq (h i hi)
  have h2 := sm_le (g := k) (k := g) (n := n) fun i hi => Int.le_of_eq (h i hi).symm
  omega
theorem sm_add (g k : Nat → Int) : ∀ n, sm (fun i => g i + k i) n = sm g n + sm k n
  | 0 => rfl
  | n + 1 => by simp only [sm, sm_add g k n]; omega
theorem sm_neg (g : Nat → Int) : ∀ n, sm (fun i => - g i) n = - sm g n
  | 0 => rfl
  | n + 1 => by simp only [sm, sm_neg g n]; omega
theorem sm_head (g : Nat → Int) : ∀ n, sm g (n + 1) = g 0 + sm (fun i => g (i + 1)) n
  | 0 => by simp [sm]
  | n + 1 => by
    have := sm_head g n
    simp only [sm] at this ⊢
    omega
theorem sm_shift (g : Nat → Int) (n : Nat) (h : 1 ≤ n) : sm (fun i => g ((i + 1) % n)) n = sm g n := by
  obtain ⟨m, rfl⟩ : ∃ m, n = m + 1 := ⟨n - 1, by omega⟩
  rw [sm_head g m]
  show sm (fun i => g ((i + 1) % (m + 1))) m + g ((m + 1) % (m + 1)) = _
  rw [Nat.mod_self, sm_congr (k := fun i => g (i + 1)) (n := m) fun i hi => by rw [Nat.mod_eq_of_lt (by omega)]]
  omega

/-! ### what comes again -/
structure Per (f : Nat → Nat) (z L : Nat) : Prop where
  pos : 1 ≤ L
  back : iter f L z = z
  inj : ∀ i, i < L → ∀ j, j < L → iter f i z = iter f j z → i = j
def cyc (f : Nat → Nat) (z L : Nat) : List Nat := (List.range L).map fun i => iter f i z
def ringF (f : Nat → Nat) (y L : Nat) : List Nat := (List.range L).map fun i => iter f (L - i) y
theorem cyc_len (f : Nat → Nat) (z L : Nat) : (cyc f z L).length = L := by simp [cyc]
theorem ringF_len (f : Nat → Nat) (z L : Nat) : (ringF f z L).length = L := by simp [ringF]
theorem cyc_succ (f : Nat → Nat) (z L : Nat) : cyc f z (L + 1) = cyc f z L ++ [iter f L z] := by simp [cyc, List.range_succ]
theorem mem_cyc {f : Nat → Nat} {z L x : Nat} : x ∈ cyc f z L ↔ ∃ i, i < L ∧ iter f i z = x := by simp [cyc]
theorem gn_map (g : Nat → Nat) (L i : Nat) (h : i < L) : gn ((List.range L).map g) i = g i := by
  simp [gn, List.getD_eq_getElem?_getD, h]
theorem gn_ring {f : Nat → Nat} {y L i : Nat} (h : i < L) : gn (ringF f y L) i = iter f (L - i) y := gn_map _ _ _ h
theorem gn_cyc {f : Nat → Nat} {y L i : Nat} (h : i < L) : gn (cyc f y L) i = iter f i y := gn_map _ _ _ h

theorem orb_cyc {f : Nat → Nat} {z L : Nat} (h : Per f z L) : ∀ (fuel k : Nat), k ≤ L → L - k + 1 ≤ fuel → orb f fuel (iter f k z) (cyc f z k) = cyc f z L
  | 0, k, _, hf => by omega
  | n + 1, k, hk, hf => by
    rw [orb]
    by_cases e : k = L
    · subst e
      rw [h.back, if_pos (show z ∈ cyc f z k from mem_cyc.2 ⟨0, h.pos, rfl⟩)]
    · rw [if_neg (fun hm => by obtain ⟨i, hi, he⟩ := mem_cyc.1 hm; have := h.inj i (by omega) k (by omega) he; omega)]
      rw [← cyc_succ]
      exact orb_cyc h n (k + 1) (by omega) (by omega)
/-- a walk that stops where a party comes again -/
theorem per_stop {f : Nat → Nat} {z L k : Nat} (h : Per f z L) (hinj : ∀ i, i < k → ∀ j, j < k → iter f i z = iter f j z → i = j) (hm : iter f k z ∈ cyc f z k) : k = L := by
  obtain ⟨i, hi, he⟩ := mem_cyc.1 hm
  apply Decidable.byContradiction
  intro hne
  rcases Nat.lt_or_ge k L with hlt | hge
  · have := h.inj i (by omega) k hlt he; omega
  · have := hinj 0 (by omega) L (by omega) (by rw [h.back]; rfl)
    have := h.pos
    omega
theorem per_exists {f : Nat → Nat} {z : Nat} : ∀ (P : Nat), 1 ≤ P → iter f P z = z → ∃ L, L ≤ P ∧ Per f z L := by
  intro P
  induction P using Nat.strongRecOn with
  | _ P ih =>
    intro h1 hb
    by_cases hs : ∃ Q, Q < P ∧ 1 ≤ Q ∧ iter f Q z = z
    · obtain ⟨Q, hq, hq1, hqb⟩ := hs
      obtain ⟨L, hl, hp⟩ := ih Q hq hq1 hqb
      exact ⟨L, by omega, hp⟩
    · have key : ∀ i j, i < j → j < P → iter f i z = iter f j z → False := by
        intro i j hij hj he
        refine hs ⟨(P - j) + i, by omega, by omega, ?_⟩
        rw [iter_add, he, ← iter_add, show P - j + j = P by omega, hb]
      refine ⟨P, Nat.le_refl _, h1, hb, fun i hi j hj he => ?_⟩
      rcases Nat.lt_trichotomy i j with h | h | h
      · exact (key i j h hj he).elim
      · exact h
      · exact (key j i h hi he.symm).elim
theorem Per.add {f : Nat → Nat} {z L : Nat} (h : Per f z L) (k : Nat) : iter f (k + L) z = iter f k z := by rw [iter_add, h.back]
theorem Per.mul {f : Nat → Nat} {z L : Nat} (h : Per f z L) (k m : Nat) : iter f (k + m * L) z = iter f k z := by
  induction m with
  | zero => simp
  | succ m ih => rw [Nat.succ_mul, ← Nat.add_assoc, h.add, ih]
theorem Per.mod {f : Nat → Nat} {z L : Nat} (h : Per f z L) (k : Nat) : iter f (k % L) z = iter f k z := by
  have := h.mul (k % L) (k / L)
  rw [show k % L + k / L * L = k by rw [Nat.mul_comm]; exact Nat.mod_add_div k L] at this
  exact this.symm
theorem Per.move {f : Nat → Nat} {z L : Nat} (h : Per f z L) (m : Nat) (hm : m ≤ L) : Per f (iter f m z) L := by
  refine ⟨h.pos, ?_, fun i hi j hj he => ?_⟩
  · rw [← iter_add, Nat.add_comm, h.add]
  · rw [← iter_add, ← iter_add] at he
    have h2 := congrArg (iter f (L - m)) he
    rw [← iter_add, ← iter_add, show L - m + (i + m) = i + L by omega, show L - m + (j + m) = j + L by omega, h.add, h.add] at h2
    exact h.inj i hi j hj h2

/-! ### pigeons -/
theorem pig : ∀ (n : Nat) (l : List Nat), l.Nodup → (∀ x ∈ l, x < n) → l.length ≤ n
  | 0, l, _, h => by
    cases l with
    | nil => simp
    | cons a l => exact absurd (h a List.mem_cons_self) (by omega)
  | n + 1, l, hn, h => by
    have h1 := pig n (l.erase n) (hn.erase n) fun x hx => by
      have h2 := (hn.mem_erase_iff).1 hx
      have := h x h2.2
      have := h2.1
      omega
    have h3 : l.length ≤ (l.erase n).length + 1 := by
      rw [List.length_erase]
      split <;> omega
    omega
theorem pig_iter (g : Nat → Nat) (n : Nat) (h : ∀ i, i ≤ n → 1 ≤ g i ∧ g i ≤ n) : ∃ i j, i < j ∧ j ≤ n ∧ g i = g j := by
  apply Classical.byContradiction
  intro hno
  have hinj : ∀ i j, i < j → j ≤ n → g i ≠ g j := fun i j h1 h2 h3 => hno ⟨i, j, h1, h2, h3⟩
  have hnd : ((List.range (n + 1)).map fun i => g i - 1).Nodup := by
    refine List.pairwise_map.2 (List.pairwise_lt_range.imp_of_mem ?_)
    intro i j hi hj hij
    simp at hi hj
    have := hinj i j hij (by omega)
    have := h i (by omega)
    have := h j (by omega)
    omega
  have := pig n _ hnd fun x hx => by
    obtain ⟨i, hi, rfl⟩ := List.mem_map.1 hx
    have := h i (by simp at hi; omega)
    omega
  simp at this
  omega

/-! ### the least of a list, and the turn -/
theorem fold_min (l : List Nat) : ∀ a, (l.foldl Nat.min a = a ∨ l.foldl Nat.min a ∈ l) ∧ l.foldl Nat.min a ≤ a ∧ ∀ x ∈ l, l.foldl Nat.min a ≤ x := by
  induction l with
  | nil => intro a; exact ⟨.inl rfl, Nat.le_refl _, fun x h => by simp at h⟩
  | cons b l ih =>
    intro a
    rw [List.foldl_cons]
    obtain ⟨h1, h2, h3⟩ := ih (Nat.min a b)
    have hm : Nat.min a b ≤ a := Nat.min_le_left a b
    have hm2 : Nat.min a b ≤ b := Nat.min_le_right a b
    refine ⟨?_, by omega, fun x hx => ?_⟩
    · rcases h1 with h1 | h1
      · rcases Nat.le_total a b with hab | hab
        · left; rw [h1]; exact Nat.min_eq_left hab
        · right; rw [h1]; rw [show Nat.min a b = b from Nat.min_eq_right hab]; exact List.mem_cons_self
      · exact .inr (List.mem_cons_of_mem _ h1)
    · rcases List.mem_cons.1 hx with rfl | hx
      · omega
      · exact h3 x hx
theorem leastOf_spec {l : List Nat} (h : l ≠ []) : leastOf l ∈ l ∧ ∀ x ∈ l, leastOf l ≤ x := by
  obtain ⟨a, r, rfl⟩ : ∃ a r, l = a :: r := by cases l with | nil => exact absurd rfl h | cons a r => exact ⟨a, r, rfl⟩
  obtain ⟨h1, h2, h3⟩ := fold_min r a
  unfold leastOf
  simp only [List.tail_cons, List.headD_cons]
  refine ⟨?_, fun x hx => ?_⟩
  · rcases h1 with h1 | h1
    · rw [h1]; exact List.mem_cons_self
    · exact List.mem_cons_of_mem _ h1
  · rcases List.mem_cons.1 hx with rfl | hx
    · exact h2
    · exact h3 x hx
theorem least_eq {l m : List Nat} (h : l ≠ []) (hm : ∀ x, x ∈ l ↔ x ∈ m) : leastOf l = leastOf m := by
  have hm0 : m ≠ [] := by
    obtain ⟨h1, h2⟩ := leastOf_spec h
    exact fun e => by rw [hm, e] at h1; simp at h1
  obtain ⟨h1, h2⟩ := leastOf_spec h
  obtain ⟨h3, h4⟩ := leastOf_spec hm0
  have := h2 _ ((hm _).2 h3)
  have := h4 _ ((hm _).1 h1)
  omega
theorem turned_len (l : List Nat) : (turned l).length = l.length := by
  unfold turned
  simp only [List.length_append, List.length_drop, List.length_take]
  omega
theorem gn_turned {l : List Nat} {i : Nat} (hi : i < l.length) (hq : l.idxOf (leastOf l) < l.length) : gn (turned l) i = gn l ((i + l.idxOf (leastOf l)) % l.length) := by
  unfold turned gn
  generalize l.idxOf (leastOf l) = q at *
  simp only [List.getD_eq_getElem?_getD, List.getElem?_append, List.length_drop, List.getElem?_drop, List.getElem?_take]
  by_cases h : i < l.length - q
  · rw [if_pos h, Nat.mod_eq_of_lt (by omega), Nat.add_comm]
  · rw [if_neg h, if_pos (by omega)]
    congr 2
    rw [Nat.mod_eq_sub_mod (by omega), Nat.mod_eq_of_lt (by omega)]
    omega
theorem ext_gn {l m : List Nat} (hl : l.length = m.length) (h : ∀ i, i < l.length → gn l i = gn m i) : l = m := by
  apply List.ext_getElem hl
  intro i h1 h2
  have := h i h1
  unfold gn at this
  simpa [List.getD_eq_getElem?_getD, h1, h2] using this
theorem idxOf_gn {l : List Nat} {x : Nat} (h : x ∈ l) : l.idxOf x < l.length ∧ gn l (l.idxOf x) = x := by
  have h1 := List.idxOf_lt_length_of_mem h
  refine ⟨h1, ?_⟩
  unfold gn
  simp [List.getD_eq_getElem?_getD, h1]
/-- the program's way of writing a ring, and the plain one -/
theorem turned_ring {f : Nat → Nat} {z L : Nat} (h : Per f z L) : ∃ m, m < L ∧ (∀ k, iter f m z ≤ iter f k z) ∧ leastOf (cyc f z L) = iter f m z ∧ turned (cyc f z L).reverse = ringF f (iter f m z) L := by
  have hne : (cyc f z L).reverse ≠ [] := by
    intro e
    have := congrArg List.length e
    simp [cyc] at this
    have := h.pos
    omega
  obtain ⟨h1, h2⟩ := leastOf_spec hne
  obtain ⟨hq, hg⟩ := idxOf_gn h1
  have hlen : (cyc f z L).reverse.length = L := by simp [cyc]
  have hgr : ∀ i, i < L → gn (cyc f z L).reverse i = iter f (L - 1 - i) z := by
    intro i hi
    unfold gn
    rw [List.getD_eq_getElem?_getD, List.getElem?_reverse (by rw [cyc_len]; exact hi), cyc_len]
    have := gn_cyc (f := f) (y := z) (L := L) (i := L - 1 - i) (by omega)
    unfold gn at this
    rw [List.getD_eq_getElem?_getD] at this
    exact this
  have hle : leastOf (cyc f z L) = leastOf (cyc f z L).reverse := (least_eq hne fun x => by simp).symm
  have hx := fun i (hi : i < (cyc f z L).reverse.length) => gn_turned (l := (cyc f z L).reverse) (i := i) hi hq
  generalize hqe : (cyc f z L).reverse.idxOf (leastOf (cyc f z L).reverse) = q at *
  rw [hlen] at hq
  rw [hgr q hq] at hg
  refine ⟨L - 1 - q, by omega, fun k => ?_, by rw [hle, hg], ?_⟩
  · rw [hg, ← h.mod k]
    exact h2 _ (by simp only [List.mem_reverse]; exact mem_cyc.2 ⟨k % L, Nat.mod_lt _ h.pos, rfl⟩)
  · apply ext_gn
    · rw [turned_len, hlen, ringF_len]
    · intro i hi
      rw [turned_len, hlen] at hi
      rw [hx i (by rw [hlen]; exact hi), gn_ring hi, hlen, hgr _ (Nat.mod_lt _ h.pos), ← iter_add]
      by_cases hc : i + q < L
      · rw [Nat.mod_eq_of_lt hc, show L - i + (L - 1 - q) = (L - 1 - (i + q)) + L by omega, h.add]
      · rw [Nat.mod_eq_sub_mod (by omega), Nat.mod_eq_of_lt (by omega), show L - i + (L - 1 - q) = L - 1 - (i + q - L) by omega]

/-! ### the round -/
theorem chain_L {es : List Ed} {p : Nat} {pre : List Ed} {g : G} (I : PInv es p pre [] g) (v : Nat) : ∀ i, i < g.L v → g.L v ≤ g.L (iter (gn g.s.a) i v) + i ∧ gn g.s.a (iter (gn g.s.a) i v) ≠ 0
  | 0, h => ⟨Nat.le_refl _, (I.one v).1 (by omega)⟩
  | i + 1, h => by
    obtain ⟨h1, h2⟩ := chain_L I v i (by omega)
    have h3 := I.chain _ h2
    have h4 : iter (gn g.s.a) (i + 1) v = gn g.s.a (iter (gn g.s.a) i v) := rfl
    rw [← h4] at h3
    refine ⟨by omega, (I.one _).1 (by omega)⟩

/-- what the search leaves behind: from the last one, sixteen ahead, is a party that comes again -/
theorem round_per {es : List Ed} (hok : ∀ x ∈ es, x.ok) (hl : (itr es 16).l ≠ 0) :
    ∃ L, L ≤ 16 ∧ Per (gn (itr es 16).a) (iter (gn (itr es 16).a) 16 (itr es 16).l) L ∧
      ∀ k, 1 ≤ iter (gn (itr es 16).a) k (iter (gn (itr es 16).a) 16 (itr es 16).l) ∧ iter (gn (itr es 16).a) k (iter (gn (itr es 16).a) 16 (itr es 16).l) ≤ 16 := by
  have I := gitr_inv es hok 16
  have hs := gitr_s es 16
  rw [← hs] at hl ⊢
  generalize gitr es 16 = g at *
  obtain ⟨l, hle⟩ : ∃ l, l = g.s.l := ⟨_, rfl⟩
  rw [← hle] at hl ⊢
  have hL : g.L l = 16 := by rw [hle]; exact I.last (by rw [← hle]; exact hl)
  have hc := fun i (hi : i < 16) => (chain_L I l i (by rw [hL]; exact hi)).2
  have hin : ∀ v, gn g.s.a v ≠ 0 → 1 ≤ gn g.s.a v ∧ gn g.s.a v ≤ 16 ∧ 1 ≤ v ∧ v ≤ 16 := by
    intro v hv
    obtain ⟨e, he, h1, h2, _⟩ := I.inv.edge v hv
    have := hok e he
    unfold Ed.ok at this
    omega
  have hrng : ∀ i, i ≤ 16 → 1 ≤ iter (gn g.s.a) i l ∧ iter (gn g.s.a) i l ≤ 16 := by
    intro i hi
    cases i with
    | zero => have := hin l (hc 0 (by omega)); exact ⟨this.2.2.1, this.2.2.2⟩
    | succ i => have := hin _ (hc i (by omega)); exact ⟨this.1, this.2.1⟩
  obtain ⟨i, j, hij, hj, he⟩ := pig_iter (fun i => iter (gn g.s.a) i l) 16 hrng
  have hclo : ∀ m, ∃ r, i ≤ r ∧ r < j ∧ iter (gn g.s.a) (i + m) l = iter (gn g.s.a) r l := by
    intro m
    induction m with
    | zero => exact ⟨i, Nat.le_refl _, hij, rfl⟩
    | succ m ih =>
      obtain ⟨r, h1, h2, h3⟩ := ih
      by_cases hr : r + 1 = j
      · refine ⟨i, Nat.le_refl _, hij, ?_⟩
        rw [show i + (m + 1) = (i + m) + 1 by omega, iter, h3, he, ← hr, iter]
      · refine ⟨r + 1, by omega, by omega, ?_⟩
        rw [show i + (m + 1) = (i + m) + 1 by omega, iter, h3, iter]
  have hb : iter (gn g.s.a) (j - i) (iter (gn g.s.a) 16 l) = iter (gn g.s.a) 16 l := by
    rw [← iter_add, show j - i + 16 = (16 - i) + j by omega, iter_add, ← he, ← iter_add, show 16 - i + i = 16 by omega]
  obtain ⟨L, h1, h2⟩ := per_exists (j - i) (by omega) hb
  refine ⟨L, by omega, h2, fun k => ?_⟩
  rw [← iter_add]
  obtain ⟨r, h3, h4, h5⟩ := hclo (k + 16 - i)
  rw [show i + (k + 16 - i) = k + 16 by omega] at h5
  rw [h5]
  exact hrng r (by omega)

/-- a round of edges: parties, each once, with an edge from each to the next; its costs -/
structure IsRound (es : List Ed) (R : List Nat) (w : Nat → Int) : Prop where
  pos : 1 ≤ R.length
  top : R.length ≤ 16
  rng : ∀ i, i < R.length → 1 ≤ gn R i ∧ gn R i ≤ 16
  inj : ∀ i, i < R.length → ∀ j, j < R.length → gn R i = gn R j → i = j
  least : ∀ i, i < R.length → gn R 0 ≤ gn R i
  edges : ∀ i, i < R.length → ∃ e ∈ es, e.f = gn R i ∧ e.t = gn R ((i + 1) % R.length) ∧ e.c = w i
  neg : sm w R.length < 0

theorem ring_step {f : Nat → Nat} {y L : Nat} (h : Per f y L) {i : Nat} (hi : i < L) : f (gn (ringF f y L) ((i + 1) % L)) = gn (ringF f y L) i := by
  rw [gn_ring (Nat.mod_lt _ h.pos), gn_ring hi]
  by_cases e : i + 1 = L
  · rw [e, Nat.mod_self, Nat.sub_zero, h.back, show L - i = 0 + 1 by omega]; rfl
  · rw [Nat.mod_eq_of_lt (by omega), show L - i = (L - (i + 1)) + 1 by omega]; rfl
theorem round_is {es : List Ed} (hok : ∀ x ∈ es, x.ok) (hl : (itr es 16).l ≠ 0) :
    ∃ L m w, Per (gn (itr es 16).a) (iter (gn (itr es 16).a) 16 (itr es 16).l) L ∧ m < L ∧ leastOf (cyc (gn (itr es 16).a) (iter (gn (itr es 16).a) 16 (itr es 16).l) L) = iter (gn (itr es 16).a) m (iter (gn (itr es 16).a) 16 (itr es 16).l) ∧
      roundF es = turned (cyc (gn (itr es 16).a) (iter (gn (itr es 16).a) 16 (itr es 16).l) L).reverse ∧
      roundF es = ringF (gn (itr es 16).a) (iter (gn (itr es 16).a) m (iter (gn (itr es 16).a) 16 (itr es 16).l)) L ∧ IsRound es (roundF es) w := by
  obtain ⟨L, hL, hp, hr⟩ := round_per hok hl
  obtain ⟨m, hm, hmin, hlm, hturn⟩ := turned_ring hp
  have hform : roundF es = turned (cyc (gn (itr es 16).a) (iter (gn (itr es 16).a) 16 (itr es 16).l) L).reverse := by
    unfold roundF
    rw [if_neg hl]
    congr 2
    exact orb_cyc hp 18 0 (by omega) (by omega)
  have I := gitr_inv es hok 16
  have hs := gitr_s es 16
  have hform2 := hform.trans hturn
  refine ⟨L, m, fun i => (gitr es 16).w (gn (roundF es) ((i + 1) % L)), hp, hm, hlm, hform, hform2, ?_⟩
  have hpm := hp.move m (by omega)
  rw [← hs] at hp hr hmin hturn hform hform2 hpm
  generalize hf : gn (gitr es 16).s.a = f at *
  generalize hz : iter f 16 (gitr es 16).s.l = z at *
  generalize gitr es 16 = g at *
  generalize hR : roundF es = R at *
  have hlen : R.length = L := by rw [hform2, ringF_len]
  have hrg : ∀ i, i < L → gn R i = iter f (L - i) (iter f m z) := fun i hi => by rw [hform2, gn_ring hi]
  have hrng : ∀ i, i < L → 1 ≤ gn R i ∧ gn R i ≤ 16 := fun i hi => by rw [hrg i hi, ← iter_add]; exact hr _
  have hstep : ∀ i, i < L → f (gn R ((i + 1) % L)) = gn R i := fun i hi => by rw [hform2]; exact ring_step hpm hi
  have hne : ∀ i, i < L → f (gn R ((i + 1) % L)) ≠ 0 := fun i hi => by rw [hstep i hi]; have := hrng i hi; omega
  refine ⟨by rw [hlen]; exact hp.pos, by omega, by rw [hlen]; exact hrng, ?_, ?_, ?_, ?_⟩
  · rw [hlen]
    intro i hi j hj he
    rw [hrg i hi, hrg j hj] at he
    by_cases h0 : i = 0
    · by_cases h1 : j = 0
      · omega
      · subst h0
        rw [Nat.sub_zero, hpm.back] at he
        have := hpm.inj 0 (by omega) (L - j) (by omega) he
        omega
    · by_cases h1 : j = 0
      · subst h1
        rw [Nat.sub_zero, hpm.back] at he
        have := hpm.inj (L - i) (by omega) 0 (by omega) he
        omega
      · have := hpm.inj (L - i) (by omega) (L - j) (by omega) he
        omega
  · rw [hlen]
    intro i hi
    rw [hrg i hi, hrg 0 hp.pos, Nat.sub_zero, hpm.back, ← iter_add]
    exact hmin _
  · rw [hlen]
    intro i hi
    have h1 := hne i hi
    rw [← hf] at h1
    obtain ⟨e, he, h2, h3, h4⟩ := I.inv.edge _ h1
    rw [hf, hstep i hi] at h2
    exact ⟨e, he, h2, h3, h4⟩
  · rw [hlen]
    have hge : ∀ i, i < L → gi g.s.d (gn R i) + g.w (gn R ((i + 1) % L)) ≤ gi g.s.d (gn R ((i + 1) % L)) := by
      intro i hi
      have h1 := hne i hi
      rw [← hf] at h1
      have h2 := I.inv.ge _ h1
      rw [hf, hstep i hi] at h2
      exact h2
    have hex : ∃ i, i < L ∧ g.tm (gn R ((i + 1) % L)) ≤ g.tm (gn R i) := by
      apply Classical.byContradiction
      intro hno
      have h1 : ∀ i, i < L → (g.tm (gn R i) : Int) < g.tm (gn R ((i + 1) % L)) := by
        intro i hi
        apply Decidable.byContradiction
        intro h2
        exact hno ⟨i, hi, by omega⟩
      have h2 := sm_lt (g := fun i => (g.tm (gn R i) : Int)) (k := fun i => (g.tm (gn R ((i + 1) % L)) : Int)) (n := L) (fun i hi => Int.le_of_lt (h1 i hi)) 0 hp.pos (h1 0 hp.pos)
      rw [sm_shift (fun i => (g.tm (gn R i) : Int)) L hp.pos] at h2
      omega
    obtain ⟨j, hj, ht⟩ := hex
    have hgt : gi g.s.d (gn R j) + g.w (gn R ((j + 1) % L)) < gi g.s.d (gn R ((j + 1) % L)) := by
      have h1 := hne j hj
      rw [← hf] at h1
      have h2 := I.inv.gt _ h1 (by rw [hf, hstep j hj]; exact ht)
      rw [hf, hstep j hj] at h2
      exact h2
    have h1 := sm_lt (g := fun i => gi g.s.d (gn R i) + g.w (gn R ((i + 1) % L))) (k := fun i => gi g.s.d (gn R ((i + 1) % L))) (n := L) hge j hj hgt
    rw [sm_add, sm_shift (fun i => gi g.s.d (gn R i)) L hp.pos] at h1
    omega
theorem roundF_nil {es : List Ed} (h : (itr es 16).l = 0) : roundF es = [] := by unfold roundF; rw [if_pos h]
/-- each round that is found is one -/
theorem roundF_sound {es : List Ed} (hok : ∀ x ∈ es, x.ok) (h : roundF es ≠ []) : ∃ w, IsRound es (roundF es) w := by
  have hl : (itr es 16).l ≠ 0 := fun h0 => h (roundF_nil h0)
  obtain ⟨_, _, w, _, _, _, _, _, hw⟩ := round_is hok hl
  exact ⟨w, hw⟩
theorem IsRound.ne {es : List Ed} {R : List Nat} {w : Nat → Int} (h : IsRound es R w) : R ≠ [] := fun e => by have := h.pos; rw [e] at this; simp at this
/-- where each party has a height that no edge undercuts, no round costs less than nothing -/
theorem IsRound.pot {es : List Ed} {R : List Nat} {w : Nat → Int} (h : IsRound es R w) (π : Nat → Int) (hp : ∀ e ∈ es, π e.t ≤ π e.f + e.c) : False := by
  have h1 := sm_le (g := fun i => π (gn R ((i + 1) % R.length))) (k := fun i => π (gn R i) + w i) (n := R.length) fun i hi => by
    obtain ⟨e, he, h1, h2, h3⟩ := h.edges i hi
    have := hp e he
    rw [h1, h2, h3] at this
    exact this
  rw [sm_add, sm_shift (fun i => π (gn R i)) R.length h.pos] at h1
  have := h.neg
  omega
theorem roundF_none {es : List Ed} (hok : ∀ x ∈ es, x.ok) (π : Nat → Int) (hp : ∀ e ∈ es, π e.t ≤ π e.f + e.c) : roundF es = [] := by
  apply Decidable.byContradiction
  intro h
  obtain ⟨w, hw⟩ := roundF_sound hok h
  exact hw.pot π hp
/-- where none is found there are such heights -/
theorem roundF_heights {es : List Ed} (hok : ∀ x ∈ es, x.ok) (hc : ∀ e ∈ es, -128 ≤ e.c ∧ e.c ≤ 127) (h : roundF es = []) : ∃ π : Nat → Int, (∀ e ∈ es, π e.t ≤ π e.f + e.c) ∧ ∀ i, -(2048 * es.length : Int) ≤ π i ∧ π i ≤ 0 := by
  by_cases hl : (itr es 16).l = 0
  · refine ⟨gi (itr es 16).d, still_pot (fun e he => by have := hok e he; unfold Ed.ok at this; omega) hl, fun i => ?_⟩
    have := itr_bd es hc 16 i
    omega
  · obtain ⟨_, _, w, _, _, _, _, _, hw⟩ := round_is hok hl
    exact absurd h hw.ne
end Go.Proofs.Ytjopmkfpghdlpaa.A
