/-
  The law PathsRound: what stands behind the copy, and the book's two pages.
-/
import Derived.Test.YtjopmkfpghdlpaaZ0
import Derived.Test.YtjopmkfpghdlpaaX7
import Derived.Test.YtjopmkfpghdlpaaV2
namespace Go.Proofs.Ytjopmkfpghdlpaa.A
set_option linter.unusedVariables false
set_option linter.unusedSimpArgs false
open Go.RowKit

set_option maxRecDepth 100000 in
theorem rnd_many (A : Option Addr) (n c : Nat) (w : World) (hn : 300 < n) : Calls Try.prog 5 #[.slice A n c] w fun e w' => e = .returned (.bool true) ∧ Below w.heap.size w w' := by
  have L := AsideA.mk (lives06 w)
  have d : decide ((300 : Int) < (n : Int)) = true := decide_eq_true (by omega)
  clear hn
  go_enter Try.func5, Try.ntmps5
  go_wp2_with (go_at_call 18; refine L.out.mono ?_; rintro e w' ⟨rfl, hb⟩; have BN := AsideA.mk hb; clear hb)
  go_ret
  exact ⟨rfl, BN.out⟩

def marks : List Ed := [⟨0, 0, 77⟩, ⟨0, 0, 78⟩]
theorem info43 : (Try.prog.info? 43).map (fun i => (i.zero, i.size, i.bytes)) = some (some (.agg #[.int .u8 0, .int .u8 0, .int .i8 0]), 3, 3) := by kernel_rfl

/-- the copy, with the marks behind it -/
structure TwAt (w wr : World) (g : Nat) (es : List Ed) : Prop where
  blk : ∃ cs : Array Value, wr.heap[g]? = some (.cells cs 35 (0, 0)) ∧ cs.toList.take ((es.length + 2) * 3) = encE (es ++ marks)
  below : Below w.heap.size w wr
theorem TwAt.later {w wr w1 : World} {g : Nat} {es : List Ed} (h : TwAt w wr g es) (k : Below wr.heap.size wr w1) : TwAt w w1 g es := by
  obtain ⟨cs, h1, h2⟩ := h.blk
  exact ⟨⟨cs, blk_below h1 k, h2⟩, below_call h.below k⟩
theorem TwAt.grown {w wr w1 : World} {g n : Nat} {es : List Ed} {v : Value} {xs : List Value} (h : TwAt w wr g es) (own : wr.ownsRow w.heap.size 43 3 v n xs) (hg : wr.grownBy w1 v.ownBlock) : TwAt w w1 g es := by
  obtain ⟨cs, h1, h2⟩ := h.blk
  exact ⟨⟨cs, (hg.block g (blk_lt h1) (own_ne own h1 (by decide))).trans h1, h2⟩, below_grown h.below h.below.size own hg⟩
theorem TwAt.reads {w wr : World} {g : Nat} {es : List Ed} (h : TwAt w wr g es) : Reads wr (some ⟨g, 0, none⟩) (encE (es ++ marks)) := by
  obtain ⟨cs, h1, h2⟩ := h.blk
  refine Reads.of_block h1 _ fun j u hu => ?_
  rw [← h2, List.getElem?_take] at hu
  rw [Nat.zero_add]
  split at hu
  · simpa using hu
  · cases hu
theorem TwAt.edges {w wr : World} {g : Nat} {es : List Ed} (h : TwAt w wr g es) (hw : ∀ e ∈ es, e.wf) (hl : (es.length : Int) ≤ 1099511627776) : Edges wr (some ⟨g, 0, none⟩) es := by
  obtain ⟨cs, h1, h2⟩ := h.blk
  refine ⟨Reads.of_block h1 _ fun j u hu => ?_, hw, hl⟩
  have hj := (List.getElem?_eq_some_iff.1 hu).1
  rw [encE_len] at hj
  have e : (encE (es ++ marks))[j]? = some u := by rw [encE_append, List.getElem?_append_left (by rw [encE_len]; exact hj)]; exact hu
  rw [← h2, List.getElem?_take, if_pos (by omega)] at e
  rw [Nat.zero_add]
  simpa using e
theorem TwAt.room {w wr : World} {g : Nat} {es : List Ed} (h : TwAt w wr g es) : wr.cell? ⟨g, es.length * 3 + 2, none⟩ = some (.int .i8 77) ∧ wr.cell? ⟨g, (es.length + 1) * 3 + 2, none⟩ = some (.int .i8 78) := by
  have a := h.reads.at_cell (es.length * 3 + 2) (.int .i8 77) (by rw [encE_at (es ++ marks) es.length ⟨0, 0, 77⟩ (by simp [marks]) 2 (by omega)]; rfl)
  have b := h.reads.at_cell ((es.length + 1) * 3 + 2) (.int .i8 78) (by rw [encE_at (es ++ marks) (es.length + 1) ⟨0, 0, 78⟩ (by simp [marks]) 2 (by omega)]; rfl)
  obtain ⟨g1, o1, e1, h1⟩ := a
  obtain ⟨g2, o2, e2, h2⟩ := b
  cases e1
  cases e2
  rw [Nat.zero_add] at h1 h2
  exact ⟨h1, h2⟩
theorem TwAt.at_ {w wr : World} {g k f t : Nat} {c : Int} {es : List Ed} (h : TwAt w wr g es) (hk : es[k]? = some ⟨f, t, c⟩) : wr.cell? ⟨g, k * 3, none⟩ = some (.int .u8 (f : Int)) ∧ wr.cell? ⟨g, k * 3 + 1, none⟩ = some (.int .u8 (t : Int)) ∧ wr.cell? ⟨g, k * 3 + 2, none⟩ = some (.int .i8 c) := by
  have hk2 : (es ++ marks)[k]? = some ⟨f, t, c⟩ := by rw [List.getElem?_append_left (List.getElem?_eq_some_iff.1 hk).1]; exact hk
  have one : ∀ j, j < 3 → ∀ v, (encV ⟨f, t, c⟩)[j]? = some v → wr.cell? ⟨g, k * 3 + j, none⟩ = some v := fun j hj v hv => by
    obtain ⟨g1, o1, e1, h1⟩ := h.reads.at_cell (k * 3 + j) v (by rw [encE_at (es ++ marks) k _ hk2 j hj]; exact hv)
    cases e1
    rw [Nat.zero_add] at h1
    exact h1
  exact ⟨one 0 (by omega) _ rfl, one 1 (by omega) _ rfl, one 2 (by omega) _ rfl⟩
theorem tw_of {w wr : World} {es : List Ed} {len n : Nat} {v : Value} (o : wr.ownsRow w.heap.size 35 3 v n ([] ++ encE es ++ encE marks)) (hn : n = len + 2) (hl : len = es.length) (hb : Below w.heap.size w wr) :
    ∃ g c, v = .slice (some ⟨g, 0, none⟩) n c ∧ len + 2 ≤ c ∧ (c : Int) ≤ 9223372036854775807 ∧ TwAt w wr g es := by
  subst hl hn
  rcases o.2 with ⟨_, h2⟩ | ⟨g, cap, cur, h1, h2, h3, h4, h5, h6, h7⟩
  · omega
  · refine ⟨g, cap, h1, h4, by have : cap ≤ 9223372036854775807 := h5; omega, ⟨cur, h3, ?_⟩, hb⟩
    rw [h7, List.nil_append, encE_append]

/-- a row of the call's own, read as edges -/
theorem edges_own {wr : World} {base n c : Nat} {A : Option Addr} {t : TypeId} {es : List Ed} (o : wr.ownsRow base t 3 (.slice A n c) n (encE es)) (hw : ∀ e ∈ es, e.wf) (hl : (es.length : Int) ≤ 1099511627776) : Edges wr A es := ⟨own_reads o, hw, hl⟩

/-- a round's parties are small, and few -/
theorem roundF_few (es : List Ed) (hok : ∀ x ∈ es, x.ok) : (∀ b ∈ roundF es, b < 256) ∧ ((roundF es).length : Int) ≤ 1099511627776 := by
  by_cases h : roundF es = []
  · rw [h]
    exact ⟨by simp, by simp⟩
  · obtain ⟨w, hR⟩ := roundF_sound hok h
    exact ⟨fun b hb => by obtain ⟨i, hi, he⟩ := mem_gn hb; have := hR.rng i hi; omega, by have := hR.top; omega⟩

/-- a page of the book: what a call handed back -/
theorem pg_of {w wr : World} {B : Option Addr} {n c : Nat} {R : List Nat} {m b : Int} {b1 b2 : Prop} (h : PRet w wr B n c R) (h1 : ¬ b1) (h2 : ¬ b2) : PgSt wr w.heap.size ⟨B, n, c, m, b⟩ b1 b2 := by
  rcases h with ⟨_, _, hn, hc, _⟩ | ⟨h0, hn, g, hA, F⟩
  · exact .inl ⟨hn, hc⟩
  · obtain ⟨tl, e1, e2⟩ := F.blk
    have hp : 0 < R.length := List.length_pos_iff.2 h0
    have ht : c ≤ 9223372036854775807 := F.top
    refine .inr ⟨g, _, hA, e1, F.ge, ?_, ?_, ?_, ?_, fun h => absurd h h1, fun h => absurd h h2⟩
    · show n ≤ c
      omega
    · show c ≤ _
      rw [List.size_toArray, List.length_append, enc8_len]
      omega
    · show (c : Int) ≤ _
      omega
    · show 0 < c
      omega
theorem PRet.lies {w wr : World} {B : Option Addr} {n c : Nat} {R : List Nat} (h : PRet w wr B n c R) : c = 0 ∨ ∃ g, B = some ⟨g, 0, none⟩ ∧ w.heap.size ≤ g ∧ g < wr.heap.size := by
  rcases h with ⟨_, _, _, hc, _⟩ | ⟨_, _, g, hA, F⟩
  · exact .inl hc
  · exact .inr ⟨g, hA, F.ge, F.lt⟩
/-- two pages that two calls handed back, one behind the other -/
theorem two_pages {w wa wq wr : World} {B1 B2 : Option Addr} {n1 c1 n2 c2 : Nat} {R1 R2 : List Nat} {m1 b1 m2 b2 : Int} {v : Value} {base gb : Nat} (P1 : PRet w wa B1 n1 c1 R1) (k : Below wa.heap.size wa wq) (P2 : PRet wa wq B2 n2 c2 R2)
    (h : Below wq.heap.size wq wr) (K : BookAt wr base gb v ([] ++ [⟨B1, n1, c1, m1, b1⟩] ++ [⟨B2, n2, c2, m2, b2⟩])) :
    ApSt w wr base gb v ([] ++ [⟨B1, n1, c1, m1, b1⟩] ++ [⟨B2, n2, c2, m2, b2⟩]) 0 0 ∧ Distinct ([] ++ [⟨B1, n1, c1, m1, b1⟩] ++ [⟨B2, n2, c2, m2, b2⟩]) := by
  have Q1 := (P1.later k).later h
  have Q2 := (P2.start P1.below).later h
  refine ⟨⟨Q1.below, K.blk, K.own, fun j p hj => ?_⟩, fun i j p q hi hj hne hp hq => ?_⟩
  · have hj' : j = 0 ∨ j = 1 := by
      have := (List.getElem?_eq_some_iff.1 hj).1
      simp at this
      omega
    rcases hj' with rfl | rfl
    · cases hj
      exact pg_of Q1 (Nat.not_lt_zero _) (Nat.not_lt_zero _)
    · cases hj
      exact pg_of Q2 (Nat.not_lt_zero _) (Nat.not_lt_zero _)
  · have hi' : i = 0 ∨ i = 1 := by
      have := (List.getElem?_eq_some_iff.1 hi).1
      simp at this
      omega
    have hj' : j = 0 ∨ j = 1 := by
      have := (List.getElem?_eq_some_iff.1 hj).1
      simp at this
      omega
    have hB : 0 < c1 → 0 < c2 → B1 ≠ B2 := by
      intro h1 h2
      rcases P1.lies with e | ⟨g, e1, _, e3⟩
      · omega
      rcases P2.lies with e | ⟨g', e4, e5, _⟩
      · omega
      rw [e1, e4]
      intro e
      injection e with e
      injection e with e
      omega
    rcases hi' with rfl | rfl <;> rcases hj' with rfl | rfl
    · exact absurd rfl hne
    · cases hi
      cases hj
      exact hB hp hq
    · cases hi
      cases hj
      exact (hB hq hp).symm
    · exact absurd rfl hne
end Go.Proofs.Ytjopmkfpghdlpaa.A

