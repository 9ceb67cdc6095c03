/-
  Plain words for the law PathsCheap: the least edges between any two; ways that are put together.
-/
import Derived.Test.YtjopmkfpghdlpaaP1
import Derived.Test.YtjopmkfpghdlpaaQ2
namespace Go.Proofs.Ytjopmkfpghdlpaa.A
set_option linter.unusedVariables false
set_option linter.unusedSimpArgs false

/-- no way as yet -/
def far20 : Int := 1048576
/-- what the least edges between any two cost -/
structure CostIs (fine : List Ed) (C : List Int) : Prop where
  len : C.length = 289
  val : ∀ a b, a ≤ 16 → b ≤ 16 → gi C (a * 17 + b) = 1048576 ∨ ∃ e ∈ fine, e.f = a ∧ e.t = b ∧ gi C (a * 17 + b) = e.c
  le : ∀ e ∈ fine, gi C (e.f * 17 + e.t) ≤ e.c
theorem CostIs.start : CostIs [] (List.replicate 289 1048576) := by
  refine ⟨List.length_replicate, fun a b ha hb => .inl ?_, fun e he => by simp at he⟩
  unfold gi
  rw [List.getD_eq_getElem?_getD, List.getElem?_replicate, if_pos (by omega)]
  rfl
theorem CostIs.step {fine : List Ed} {C : List Int} (h : CostIs fine C) (e : Ed) (hok : e.ok) (hf : ∀ x ∈ fine, x.ok) (x : Int) (hx : x = if e.c < gi C (e.f * 17 + e.t) then e.c else gi C (e.f * 17 + e.t)) : CostIs (fine ++ [e]) (C.set (e.f * 17 + e.t) x) := by
  unfold Ed.ok at hok
  have hg := fun j => gi_set C (e.f * 17 + e.t) j x (by rw [h.len]; omega)
  refine ⟨by simp [h.len], fun a b ha hb => ?_, fun y hy => ?_⟩
  · rw [hg]
    by_cases i : a * 17 + b = e.f * 17 + e.t
    · rw [if_pos i]
      have ia : a = e.f := by omega
      have ib : b = e.t := by omega
      rw [hx]
      split
      · exact .inr ⟨e, by simp, ia.symm, ib.symm, rfl⟩
      · rw [← i]
        rcases h.val a b ha hb with h | ⟨y, h1, h2⟩
        · exact .inl h
        · exact .inr ⟨y, List.mem_append.2 (.inl h1), h2⟩
    · rw [if_neg i]
      rcases h.val a b ha hb with h | ⟨y, h1, h2⟩
      · exact .inl h
      · exact .inr ⟨y, List.mem_append.2 (.inl h1), h2⟩
  · rw [hg]
    rcases List.mem_append.1 hy with hy | hy
    · have := h.le y hy
      split
      · rename_i i
        rw [i] at this
        rw [hx]
        split <;> omega
      · exact this
    · simp at hy
      subst hy
      rw [if_pos rfl, hx]
      split <;> omega
theorem CostIs.bd {fine : List Ed} {C : List Int} (h : CostIs fine C) (hw : ∀ e ∈ fine, -128 ≤ e.c ∧ e.c ≤ 127) (a b : Nat) (ha : a ≤ 16) (hb : b ≤ 16) : -128 ≤ gi C (a * 17 + b) ∧ gi C (a * 17 + b) ≤ 1048576 := by
  rcases h.val a b ha hb with h | ⟨e, h1, _, _, h2⟩
  · omega
  · have := hw e h1
    omega
theorem filter_step {es : List Ed} {k : Nat} {e : Ed} (hk : es[k]? = some e) : (es.take (k + 1)).filter okb = (es.take k).filter okb ++ (if okb e then [e] else []) := by
  rw [List.take_add_one, hk, List.filter_append]
  congr 1
  simp only [Option.toList, List.filter_cons, List.filter_nil]

/-- heights that no way undercuts -/
def PotC (π : Nat → Int) (C : List Int) : Prop := C.length = 289 ∧ ∀ a b, a ≤ 16 → b ≤ 16 → π b - π a ≤ gi C (a * 17 + b) ∧ gi C (a * 17 + b) ≤ 1048576
theorem CostIs.pot {fine : List Ed} {C : List Int} (h : CostIs fine C) (hw : ∀ e ∈ fine, -128 ≤ e.c ∧ e.c ≤ 127) (π : Nat → Int) (hp : ∀ e ∈ fine, π e.t ≤ π e.f + e.c) (hb : ∀ i, -614400 ≤ π i ∧ π i ≤ 0) : PotC π C := by
  refine ⟨h.len, fun a b ha hbb => ?_⟩
  rcases h.val a b ha hbb with h | ⟨e, h1, h2, h3, h4⟩
  · have := hb a; have := hb b; omega
  · have := hw e h1
    have := hp e h1
    rw [h2, h3] at this
    omega
theorem PotC.step {π : Nat → Int} {C : List Int} (h : PotC π C) (a m b : Nat) (ha : a ≤ 16) (hm : m ≤ 16) (hb : b ≤ 16) (x : Int) (hx : x = if gi C (a * 17 + m) + gi C (m * 17 + b) < gi C (a * 17 + b) then gi C (a * 17 + m) + gi C (m * 17 + b) else gi C (a * 17 + b)) : PotC π (C.set (a * 17 + b) x) := by
  have hg := fun j => gi_set C (a * 17 + b) j x (by rw [h.1]; omega)
  refine ⟨by simp [h.1], fun c d hc hd => ?_⟩
  rw [hg]
  by_cases i : c * 17 + d = a * 17 + b
  · rw [if_pos i]
    have e1 : c = a := by omega
    have e2 : d = b := by omega
    subst e1 e2
    have h1 := h.2 c m hc hm
    have h2 := h.2 m d hm hd
    have h3 := h.2 c d hc hd
    rw [hx]
    split <;> omega
  · rw [if_neg i]; exact h.2 c d hc hd

/-- what a round costs by the least edges -/
theorem ring_cost {fine : List Ed} {C : List Int} {R : List Nat} {w : Nat → Int} (h : CostIs fine C) (hR : IsRound fine R w) (hw : ∀ e ∈ fine, -128 ≤ e.c ∧ e.c ≤ 127) :
    (∀ i, i < R.length → -128 ≤ gi C (gn R i * 17 + gn R ((i + 1) % R.length)) ∧ gi C (gn R i * 17 + gn R ((i + 1) % R.length)) ≤ 127) ∧ sm (fun i => gi C (gn R i * 17 + gn R ((i + 1) % R.length))) R.length < 0 := by
  have key : ∀ i, i < R.length → gi C (gn R i * 17 + gn R ((i + 1) % R.length)) ≤ w i ∧ w i ≤ 127 := fun i hi => by
    obtain ⟨e, he, h1, h2, h3⟩ := hR.edges i hi
    have := h.le e he
    rw [h1, h2, h3] at this
    have := hw e he
    omega
  refine ⟨fun i hi => ?_, ?_⟩
  · have hp := hR.pos
    have r1 := hR.rng i hi
    have r2 := hR.rng ((i + 1) % R.length) (Nat.mod_lt _ hp)
    have := h.bd hw (gn R i) (gn R ((i + 1) % R.length)) r1.2 r2.2
    have := key i hi
    omega
  · have h1 := sm_le (n := R.length) fun i hi => (key i hi).1
    have := hR.neg
    omega
theorem sm_bd (g : Nat → Int) (B : Int) (h0 : 0 ≤ B) : ∀ n, (∀ i, i < n → -B ≤ g i ∧ g i ≤ B) → -(B * n) ≤ sm g n ∧ sm g n ≤ B * n
  | 0, _ => by simp [sm]
  | n + 1, h => by
    have h1 := sm_bd g B h0 n fun i hi => h i (by omega)
    have h2 := h n (by omega)
    have e : B * ((n + 1 : Nat) : Int) = B * n + B := by rw [Int.natCast_add, Int.mul_add]; simp
    rw [e]
    simp only [sm]
    omega
end Go.Proofs.Ytjopmkfpghdlpaa.A

