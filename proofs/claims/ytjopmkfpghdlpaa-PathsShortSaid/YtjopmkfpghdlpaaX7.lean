/-
  The chapter's examples (countinghouselaw06.lives).
-/
import Derived.Test.YtjopmkfpghdlpaaX1
import Derived.Test.YtjopmkfpghdlpaaX5
import Derived.Test.YtjopmkfpghdlpaaX6
import Derived.Test.YtjopmkfpghdlpaaQ8
namespace Go.Proofs.Ytjopmkfpghdlpaa.A
set_option linter.unusedVariables false
set_option linter.unusedSimpArgs false
open Go.RowKit

def exE : List Fl := [⟨1, 2, 1⟩, ⟨2, 4, 1⟩, ⟨1, 3, 1⟩, ⟨3, 4, 1⟩, ⟨2, 3, 1⟩]
theorem ex_ok : newOk exE = true := by decide
def exB : List Ed := [⟨1, 2, 1⟩, ⟨2, 3, 1⟩, ⟨3, 1, -3⟩]
def exC : List Ed := [⟨1, 2, 1⟩, ⟨2, 1, -1⟩]
def exD : List Ed := [⟨3, 3, -1⟩]
set_option maxRecDepth 100000 in
theorem ex_b : roundF (exB.filter okb) = [1, 2, 3] := by decide
set_option maxRecDepth 100000 in
theorem ex_c : roundF (exC.filter okb) = [] := by decide
set_option maxRecDepth 100000 in
theorem ex_d : roundF (exD.filter okb) = [3] := by decide
set_option maxRecDepth 100000 in
theorem ex_cap : (0 < capF (cpF exE) 1 2 ∧ 0 < capF (cpF exE) 2 4 ∧ ¬ 0 < capF (cpF exE) 1 4) ∧ ∀ q, q < 17 → ¬ 0 < capF (cpF exE) 4 q := by decide
theorem ex_short14 {P : List Nat} (h : ShortIs (cpF exE) 1 4 P) : P = [1, 2, 4] := by
  rcases h with ⟨_, _, _, D, hD, h⟩ | ⟨h, _⟩
  · obtain ⟨⟨e12, e24, e14⟩, e4⟩ := ex_cap
    have d4 := hD.zero
    have r1 := hD.rng 1 (by omega) (by omega)
    have r2 := hD.rng 2 (by omega) (by omega)
    have s2 := hD.step 2 4 (by omega) (by omega) (by omega) (by omega) e24 (by omega)
    have p2 : gi D 2 ≠ 0 := fun e => by have := hD.pos (p := 2) (by omega) (by omega) e; omega
    have s1 := hD.step 1 2 (by omega) (by omega) (by omega) (by omega) e12 (by omega)
    have p1 : gi D 1 ≠ 0 := fun e => by have := hD.pos (p := 1) (by omega) (by omega) e; omega
    have d1 : gi D 1 = 2 := by
      apply Decidable.byContradiction
      intro hne
      obtain ⟨q, q1, q2, hE, _, he⟩ := hD.back 1 (by omega) (by omega) (by omega) (by omega)
      have hq := hD.pos q1 q2 (by omega)
      subst hq
      exact e14 hE
    rcases h with ⟨h, _⟩ | ⟨_, hW, hl, hlast⟩
    · omega
    · have h3 : P.length = 3 := by omega
      have g0 := hW.first
      have g2 : gn P 2 = 4 := by rw [h3] at hlast; exact hlast
      have r := hW.rng 1 (by omega)
      have hd := hW.dist 1 (by omega)
      have hE := hW.edge 0 (by omega)
      rw [g0] at hE
      have g1 : gn P 1 = 2 := by
        rcases Nat.lt_trichotomy (gn P 1) 2 with h | h | h
        · have e1 : gn P 1 = 1 := by omega
          rw [e1, d1] at hd
          omega
        · exact h
        · exact absurd e12 (by have := hW.least 0 (by omega) 2 (by omega) h (by rw [g0]; omega); rw [g0] at this; exact this)
      apply ext_gn (by rw [h3]; rfl)
      intro i hi
      have : i = 0 ∨ i = 1 ∨ i = 2 := by omega
      rcases this with rfl | rfl | rfl
      · rw [g0]; rfl
      · rw [g1]; rfl
      · rw [g2]; rfl
  · exact absurd ⟨by decide, by decide, by decide⟩ h
theorem ex_short41 {P : List Nat} (h : ShortIs (cpF exE) 4 1 P) : P = [] := by
  rcases h with ⟨_, _, _, D, hD, h⟩ | ⟨_, h⟩
  · rcases h with ⟨_, h⟩ | ⟨h, _⟩
    · exact h
    · obtain ⟨q, q1, q2, hE, _, _⟩ := hD.back 4 (by omega) (by omega) (by omega) h
      exact absurd hE (ex_cap.2 q (by omega))
  · exact h

theorem Edges.of_block {w : World} {g : Nat} {es : List Ed} (h : w.heap[g]? = some (.cells (encE es).toArray 35 (0, 0))) (hwf : ∀ e ∈ es, e.wf) (hl : (es.length : Int) ≤ 1099511627776) : Edges w (some ⟨g, 0, none⟩) es :=
  ⟨Reads.of_block h _ (fun j u hu => by rw [Nat.zero_add, List.getElem?_toArray]; exact hu), hwf, hl⟩
theorem Flows.of_block {w : World} {g : Nat} {es : List Fl} (h : w.heap[g]? = some (.cells (encF es).toArray 32 (0, 0))) (hwf : ∀ e ∈ es, e.wf) (hl : (es.length : Int) ≤ 1099511627776) : Flows w (some ⟨g, 0, none⟩) es :=
  ⟨Reads.of_block h _ (fun j u hu => by rw [Nat.zero_add, List.getElem?_toArray]; exact hu), hwf, hl⟩

theorem ex_new (g : Nat) (wz : World) (h : wz.heap[g]? = some (.cells (encF exE).toArray 32 (0, 0))) : Calls Try.prog 23 #[.slice (some ⟨g, 0, none⟩) 5 5] wz fun e w' => ∃ g', e = .returned (.tuple #[.pointer (some ⟨g', 0, none⟩), .int .i64 0]) ∧ Below wz.heap.size wz w' ∧ GrAt w' (some ⟨g', 0, none⟩) (cpF exE) := by
  refine (xnew (some ⟨g, 0, none⟩) 5 exE wz (Flows.of_block h (by unfold Fl.wf; decide) (by decide))).mono ?_
  rintro e w' ⟨G, r, rfl, hb, h⟩
  rcases h with ⟨_, rfl, g', rfl, _, h2⟩ | ⟨h, _⟩
  · exact ⟨g', rfl, hb, cpF_len _, .inr ⟨g', rfl, h2⟩⟩
  · rw [ex_ok] at h; cases h
theorem ex_round (es : List Ed) (n : Nat) (hn : n = es.length) (hw : ∀ e ∈ es, e.wf) (hl : (es.length : Int) ≤ 1099511627776) (R : List Nat) (hR : roundF (es.filter okb) = R) (g : Nat) (wz : World) (h : wz.heap[g]? = some (.cells (encE es).toArray 35 (0, 0))) : Calls Try.prog 15 #[.slice (some ⟨g, 0, none⟩) n n] wz fun e w' => ∃ B m cap, e = .returned (.slice B m cap) ∧ PRet wz w' B m cap R := by
  subst hn hR
  exact xround (some ⟨g, 0, none⟩) es.length es wz (Edges.of_block h hw hl)
theorem ex_same (R : List Nat) (hs : ∀ b ∈ R, b < 256) (hl : (R.length : Int) ≤ 1000) (k : Nat) (hk : k = R.length) (B : Option Addr) (n cap : Nat) (hn : n = R.length) (g : Nat) (wz : World) (RB : Bytes wz B R) (h : wz.heap[g]? = some (.cells (enc8 R).toArray 30 (0, 0))) : Calls Try.prog 19 #[.slice B n cap, .slice (some ⟨g, 0, none⟩) k k] wz fun e w' => e = .returned (.bool true) ∧ Below wz.heap.size wz w' := by
  subst hn hk
  have := same_bytes B (some ⟨g, 0, none⟩) cap R.length R R wz RB (Bytes.of_block (tail := []) (by rw [List.append_nil]; exact h) hs (by omega))
  rwa [decide_eq_true rfl] at this

set_option maxHeartbeats 8000000 in
set_option maxRecDepth 100000 in
theorem lives06 (w : World) : Calls Try.prog 18 #[] w fun e w' => e = .returned (.bool true) ∧ Below w.heap.size w w' := by
  have BB := AsideA.mk (Below.refl w.heap.size w)
  go_enter Try.func18, Try.ntmps18
  go_wp2_with fail
  refine (ex_new _ _ (heap_alloc_new w _)).mono ?_
  rintro e w1 ⟨g, rfl, hb, hg⟩
  have Z1 := AsideA.mk (And.intro (below_call (BB.out.alloc (Nat.le_refl _) _) hb) hg)
  clear hb hg BB
  go_wp2_with fail
  refine (xshort _ _ 1 4 _ Z1.out.2).mono ?_
  rintro e w2 ⟨B2, n2, c2, P2, rfl, hp, hs⟩
  have e2 := ex_short14 hs
  subst e2
  have Z2 := AsideA.mk (And.intro (below_call Z1.out.1 hp.below) (And.intro (Z1.out.2.below hp.below) (And.intro hp.num (hp.bytes (by decide) (by decide)))))
  clear hp hs Z1
  go_wp2_with fail
  refine (ex_round exB 3 rfl (by unfold Ed.wf; decide) (by decide) _ ex_b _ _ (heap_alloc_new w2 _)).mono ?_
  rintro e w3 ⟨B3, n3, c3, rfl, hp⟩
  have D3 := AsideA.mk (below_call ((Below.refl _ _).alloc (Nat.le_refl _) _) hp.below)
  have Z3 := AsideA.mk (And.intro (below_call Z2.out.1 D3.out) (And.intro (Z2.out.2.1.below D3.out) (And.intro (Z2.out.2.2.2.below D3.out) (And.intro hp.num (hp.bytes (by decide) (by decide))))))
  have N2 := AsideA.mk Z2.out.2.2.1
  clear hp D3 Z2
  go_wp2_with fail
  refine (ex_round exC 2 rfl (by unfold Ed.wf; decide) (by decide) _ ex_c _ _ (heap_alloc_new w3 _)).mono ?_
  rintro e w4 ⟨B4, n4, c4, rfl, hp⟩
  have D4 := AsideA.mk (below_call ((Below.refl _ _).alloc (Nat.le_refl _) _) hp.below)
  have Z4 := AsideA.mk (And.intro (below_call Z3.out.1 D4.out) (And.intro (Z3.out.2.1.below D4.out) (And.intro (Z3.out.2.2.1.below D4.out) (Z3.out.2.2.2.2.below D4.out))))
  have N3 := AsideA.mk Z3.out.2.2.2.1
  have hn4 : n4 = 0 := hp.num
  subst hn4
  clear hp D4 Z3
  go_wp2_with fail
  refine (ex_round exD 1 rfl (by unfold Ed.wf; decide) (by decide) _ ex_d _ _ (heap_alloc_new w4 _)).mono ?_
  rintro e w5 ⟨B5, n5, c5, rfl, hp⟩
  have D5 := AsideA.mk (below_call ((Below.refl _ _).alloc (Nat.le_refl _) _) hp.below)
  have Z5 := AsideA.mk (And.intro (below_call Z4.out.1 D5.out) (And.intro (Z4.out.2.1.below D5.out) (And.intro (Z4.out.2.2.1.below D5.out) (And.intro (Z4.out.2.2.2.below D5.out) (hp.bytes (by decide) (by decide))))))
  have N5 := AsideA.mk hp.num
  clear hp D5 Z4
  go_wp2_with fail
  refine (ex_same [1, 2, 4] (by decide) (by decide) 3 rfl B2 n2 c2 N2.out _ _ (Z5.out.2.2.1.below ((Below.refl _ _).alloc (Nat.le_refl _) _)) (heap_alloc_new w5 _)).mono ?_
  rintro e w6 ⟨rfl, hb⟩
  have D6 := AsideA.mk (below_call ((Below.refl _ _).alloc (Nat.le_refl _) _) hb)
  have Z6 := AsideA.mk (And.intro (below_call Z5.out.1 D6.out) (And.intro (Z5.out.2.1.below D6.out) (And.intro (Z5.out.2.2.2.1.below D6.out) (Z5.out.2.2.2.2.below D6.out))))
  clear hb D6 Z5
  go_wp2_with fail
  refine (xshort _ _ 4 1 _ Z6.out.2.1).mono ?_
  rintro e w7 ⟨B7, n7, c7, P7, rfl, hp, hs⟩
  have e7 := ex_short41 hs
  subst e7
  have hn7 : n7 = 0 := hp.num
  subst hn7
  have Z7 := AsideA.mk (And.intro (below_call Z6.out.1 hp.below) (And.intro (Z6.out.2.2.1.below hp.below) (Z6.out.2.2.2.below hp.below)))
  clear hp hs Z6
  go_wp2_with fail
  refine (ex_same [1, 2, 3] (by decide) (by decide) 3 rfl B3 n3 c3 N3.out _ _ (Z7.out.2.1.below ((Below.refl _ _).alloc (Nat.le_refl _) _)) (heap_alloc_new w7 _)).mono ?_
  rintro e w8 ⟨rfl, hb⟩
  have D8 := AsideA.mk (below_call ((Below.refl _ _).alloc (Nat.le_refl _) _) hb)
  have Z8 := AsideA.mk (And.intro (below_call Z7.out.1 D8.out) (Z7.out.2.2.below D8.out))
  clear hb D8 Z7
  go_wp2_with fail
  refine (ex_same [3] (by decide) (by decide) 1 rfl B5 n5 c5 N5.out _ _ (Z8.out.2.below ((Below.refl _ _).alloc (Nat.le_refl _) _)) (heap_alloc_new w8 _)).mono ?_
  rintro e w9 ⟨rfl, hb⟩
  have Z9 := AsideA.mk (below_call Z8.out.1 (below_call ((Below.refl _ _).alloc (Nat.le_refl _) _) hb))
  clear hb Z8
  go_wp2
  go_ret
  exact ⟨rfl, Z9.out⟩
end Go.Proofs.Ytjopmkfpghdlpaa.A

