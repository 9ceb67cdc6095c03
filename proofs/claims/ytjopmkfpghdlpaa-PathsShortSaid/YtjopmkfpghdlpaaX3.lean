/-
  A queue of parties: a slice whose head is cut off and that is appended to.
-/
import Derived.Test.YtjopmkfpghdlpaaX2
import Derived.Test.YtjopmkfpghdlpaaX0
import Derived.ArgAppend
namespace Go.Proofs.Ytjopmkfpghdlpaa.A
set_option linter.unusedVariables false
set_option linter.unusedSimpArgs false
open Go.RowKit

/-- a slice of parties somewhere in a block of the call's own -/
structure QAt (w : World) (base g off cap : Nat) (xs : List Nat) : Prop where
  ge : base ≤ g
  room : xs.length ≤ cap
  cmax : cap ≤ maxLen
  blk : ∃ cur, w.heap[g]? = some (.cells cur 30 (0, 0)) ∧ off + cap ≤ cur.size ∧ ∀ (j x : Nat), xs[j]? = some x → cur[off + j]? = some (.int .u8 (x : Int))
theorem QAt.below {w w1 : World} {base g off cap : Nat} {xs : List Nat} (h : QAt w base g off cap xs) (k : Below w.heap.size w w1) : QAt w1 base g off cap xs := by
  obtain ⟨cur, h1, h2⟩ := h.blk
  exact ⟨h.ge, h.room, h.cmax, cur, blk_below h1 k, h2⟩
theorem QAt.set_other {w : World} {base g off cap go j : Nat} {xs : List Nat} {u : Value} (h : QAt w base g off cap xs) (hne : g ≠ go) : QAt (w.setCell ⟨go, j, none⟩ u) base g off cap xs := by
  obtain ⟨cur, h1, h2⟩ := h.blk
  exact ⟨h.ge, h.room, h.cmax, cur, blk_set_other h1 _ _ hne, h2⟩
theorem QAt.head {w : World} {base g off cap x : Nat} {xs : List Nat} (h : QAt w base g off cap (x :: xs)) : w.cell? ⟨g, off, none⟩ = some (.int .u8 (x : Int)) := by
  obtain ⟨cur, h1, _, h3⟩ := h.blk
  rw [blk_cell h1]
  exact h3 0 x rfl
theorem QAt.tail {w : World} {base g off cap x : Nat} {xs : List Nat} (h : QAt w base g off cap (x :: xs)) : QAt w base g (if cap = 1 then off else off + 1) (cap - 1) xs := by
  obtain ⟨cur, h1, h2, h3⟩ := h.blk
  have hr := h.room
  rw [List.length_cons] at hr
  refine ⟨h.ge, by omega, by have := h.cmax; omega, cur, h1, ?_, fun j y hj => ?_⟩
  · split <;> omega
  · have hl := (List.getElem?_eq_some_iff.1 hj).1
    rw [if_neg (by omega), show off + 1 + j = off + (j + 1) by omega]
    exact h3 (j + 1) y (by rw [List.getElem?_cons_succ]; exact hj)
theorem QAt.ne {w : World} {base g off cap k : Nat} {xs : List Nat} {t : TypeId} {cs : Array Value} (h : QAt w base g off cap xs) (hk : w.heap[k]? = some (.cells cs t (0, 0))) (ht : t ≠ 30) : g ≠ k := by
  rintro rfl
  obtain ⟨cur, h1, _⟩ := h.blk
  rw [h1] at hk
  injection hk with hk
  injection hk with _ hk
  exact ht hk.symm
theorem QAt.lt {w : World} {base g off cap : Nat} {xs : List Nat} (h : QAt w base g off cap xs) : g < w.heap.size := by
  obtain ⟨cur, h1, _⟩ := h.blk
  exact blk_lt h1

section
variable {ops : Array Oper} {Q : Exit → Act → World → Prop} {rest : List Oper} {o : Oper} {a : Act}
theorem run_q_append {W : World} (ty : TypeId) (base g off cap : Nat) (xs : List Nat) (hq : QAt W base g off cap xs) (gx y : Nat) (hgx : W.heap[gx]? = some (.cells #[.int .u8 (y : Int)] 30 (0, 0))) (hl : xs.length ≤ 1000000000) (hb : base ≤ W.heap.size) :
    ∃ g' off' cap' w', (Builtin.append_ #[36, 36] ty #[.slice (some ⟨g, off, none⟩) xs.length cap, .slice (some ⟨gx, 0, none⟩) 1 1]).run Try.prog W = .ok (.slice (some ⟨g', off', none⟩) (xs.length + 1) cap') w' ∧ QAt w' base g' off' cap' (xs ++ [y]) ∧ W.grownBy w' (some g) := by
  obtain ⟨i, hi, hz, hs, hby⟩ := info_parts info30
  obtain ⟨cur, h1, h2, h3⟩ := hq.blk
  have hcell : ∀ j u, [Value.int .u8 (y : Int)][j]? = some u → W.cell? ((⟨gx, 0, none⟩ : Addr).add j) = some u := by
    intro j u hj
    rw [add_none, blk_cell hgx, Nat.zero_add, ← hj]
    simp
  by_cases hroom : xs.length + 1 ≤ cap
  · have hfc := run_firstCells_some (P := Try.prog) W i.size 1 ⟨gx, 0, none⟩ 1 1 [Value.int .u8 (y : Int)] (by rw [hs]; rfl) hcell
    obtain ⟨w1, hr, hu, hbk⟩ := run_storeCells_at (P := Try.prog) g 30 [Value.int .u8 (y : Int)] (off + xs.length) 0 cur W h1 (by simp; omega) (by simp [Value.oneCell'])
    refine ⟨g, off, cap, w1, ?_, ⟨hq.ge, by simpa using hroom, hq.cmax, _, hbk, ?_, ?_⟩, grown_upd (World.grownBy.refl W _) hu⟩
    · rw [hs] at hfc
      simp [Builtin.append_, run_underlying Try.underlying36, sizeOf, typeInfo, hi, hs, Builtin.lenOf, hroom, hfc, Addr.add_lit, hr]
    · simp only [List.size_toArray, List.length_append, List.length_take, List.length_drop, Array.length_toList, List.length_singleton]
      omega
    · intro j x hj
      simp only [List.getElem?_toArray, Nat.add_zero, List.length_singleton]
      by_cases e : j < xs.length
      · rw [List.getElem?_append_left e] at hj
        rw [List.getElem?_append_left (by simp; omega), List.getElem?_append_left (by simp; omega), List.getElem?_take, if_pos (by omega), Array.getElem?_toList]
        exact h3 j x hj
      · have hj2 := (List.getElem?_eq_some_iff.1 hj).1
        simp at hj2
        have : j = xs.length := by omega
        subst this
        rw [List.getElem?_append_right (Nat.le_refl _), Nat.sub_self] at hj
        simp at hj
        subst hj
        rw [List.getElem?_append_left (by simp; omega), List.getElem?_append_right (by simp; omega)]
        simp only [List.length_take, Array.length_toList]
        rw [Nat.min_eq_left (by omega), Nat.sub_self]
        rfl
  · obtain ⟨v', w', hr, ho, hg⟩ := run_append_arg_grows (P := Try.prog) W 36 ty 30 i (.int .u8 0) 1 1 Try.underlying36 hi hz hs hby rfl (by decide) ⟨g, off, none⟩ xs.length cap (enc8 xs) (by rw [enc8_len, Nat.mul_one]) (by
      intro j u hj
      rw [add_none, blk_cell h1]
      have hjl := (List.getElem?_eq_some_iff.1 hj).1
      rw [enc8_len] at hjl
      rw [enc8_at xs j xs[j] (List.getElem?_eq_getElem hjl)] at hj
      rw [← hj]
      exact h3 j _ (List.getElem?_eq_getElem hjl)) ⟨gx, 0, none⟩ 1 1 [Value.int .u8 (y : Int)] rfl hcell (by omega) (by simp only [maxLen]; omega) (by omega)
    rcases ho.2 with ⟨e1, e2⟩ | ⟨g', cap', cur', e1, e2, e3, e4, e5, e6, e7⟩
    · omega
    · subst e1
      refine ⟨g', 0, cap', w', hr, ⟨by omega, by simpa using e4, e5, cur', e3, by rw [e6]; omega, ?_⟩, ⟨hg.1, hg.2, hg.3, hg.4, fun k hk _ => hg.5 k hk (by simp)⟩⟩
      intro j x hj
      have hjl := (List.getElem?_eq_some_iff.1 hj).1
      have h7 : (enc8 xs ++ [Value.int .u8 (y : Int)]) = enc8 (xs ++ [y]) := by rw [enc8_append]; rfl
      rw [h7] at e7
      have h8 := enc8_at (xs ++ [y]) j x hj
      rw [← e7, List.getElem?_take] at h8
      split at h8
      · rw [Nat.zero_add]; simpa using h8
      · cases h8
theorem q_append {W : World} (s x : Operand) (ho : o.op = .call { callee := .builtin .append, args := #[s, x], argTypes := #[36, 36] }) (hgd : o.guard = none) (base g off cap n : Nat) (xs : List Nat) (hq : QAt W base g off cap xs) (hn : n = xs.length) (hs : a.eval s = .slice (some ⟨g, off, none⟩) n cap)
    (gx y : Nat) (hx : a.eval x = .slice (some ⟨gx, 0, none⟩) 1 1) (hgx : W.heap[gx]? = some (.cells #[.int .u8 (y : Int)] 30 (0, 0))) (hl : xs.length ≤ 1000000000) (hb : base ≤ W.heap.size)
    (h : ∀ g' off' cap' w', QAt w' base g' off' cap' (xs ++ [y]) → W.grownBy w' (some g) → wpList Try.prog ops Q rest (a.put o.dst (.slice (some ⟨g', off', none⟩) (n + 1) cap')) w') : wpList Try.prog ops Q (o :: rest) a W := by
  subst hn
  obtain ⟨g', off', cap', w', hr, h1, h2⟩ := run_q_append o.type base g off cap xs hq gx y hgx hl hb
  exact ev_val hgd (exec_append s x 36 ho hs hx hr) (h g' off' cap' w' h1 h2)
end
end Go.Proofs.Ytjopmkfpghdlpaa.A

