/-
  The reference's graph: Cap (countinghouseref05.Graph.Cap).
-/
import Derived.Test.YtjopmkfpghdlpaaN0
namespace Go.Proofs.Ytjopmkfpghdlpaa.A
set_option linter.unusedVariables false
set_option linter.unusedSimpArgs false
open Go.RowKit

/-- the reference's graph -/
structure RgAt (w : World) (g : Nat) (es : List Fl) : Prop where
  blk : ∃ A c, w.heap[g]? = some (.cells #[.slice A es.length c] 65 (0, 0)) ∧ Flows w A es
theorem RgAt.below {w w1 : World} {g : Nat} {es : List Fl} (h : RgAt w g es) (k : Below w.heap.size w w1) : RgAt w1 g es := by
  obtain ⟨A, c, h1, h2⟩ := h.blk
  exact ⟨A, c, blk_below h1 k, h2.below k⟩
theorem find_here {es : List Fl} {k : Nat} {x : Fl} {f t : Nat} (h : (es.take k).find? (fun x => x.f == f && x.t == t) = none) (hk : es[k]? = some x) (hx : (x.f == f && x.t == t) = true) : findF es f t = x.n := by
  have e : es = es.take k ++ x :: es.drop (k + 1) := by
    obtain ⟨hl, he⟩ := List.getElem?_eq_some_iff.1 hk
    rw [← he, List.getElem_cons_drop, List.take_append_drop]
  unfold findF
  rw [e, List.find?_append, h, List.find?_cons, hx]
  rfl
theorem find_step {es : List Fl} {k : Nat} {x : Fl} {f t : Nat} (h : (es.take k).find? (fun x => x.f == f && x.t == t) = none) (hk : es[k]? = some x) (hx : (x.f == f && x.t == t) = false) : (es.take (k + 1)).find? (fun x => x.f == f && x.t == t) = none := by
  rw [List.take_add_one, hk, List.find?_append, h]
  show none.or ([x].find? fun x => x.f == f && x.t == t) = none
  rw [List.find?_cons, hx]
  rfl

set_option maxHeartbeats 4000000 in
set_option maxRecDepth 100000 in
theorem ref_cap (g : Nat) (es : List Fl) (a b : Nat) (w : World) (H : RgAt w g es) : Calls Try.prog 56 #[.pointer (some ⟨g, 0, none⟩), .int .u8 (a : Int), .int .u8 (b : Int)] w fun e w' => e = .returned (.int .i64 (findF es a b)) ∧ w = w' := by
  obtain ⟨A, c, h1, h2⟩ := H.blk
  have c0 : w.cell? ⟨g, 0, none⟩ = some (.slice A es.length c) := (blk_cell h1 0).trans rfl
  have HF := AsideA.mk h2
  have hlen := h2.len
  obtain ⟨len, hl⟩ : ∃ len, len = es.length := ⟨_, rfl⟩
  rw [← hl] at hlen c0
  have HL := AsideA.mk hl
  clear hl H h1 h2
  go_enter Try.func56, Try.ntmps56
  go_wp2_with fail
  go_loopw [7] (fun i wr => ∃ k : Nat, k ≤ len ∧ i = .int .i64 k ∧ w = wr ∧ AsideA ((es.take k).find? (fun x => x.f == a && x.t == b) = none)) (fun i _ => len - (intOf i).toNat)
  case atStart => exact ⟨0, by omega, rfl, rfl, ⟨rfl⟩⟩
  case round =>
    obtain ⟨k, hk, rfl, rfl, I⟩ := hrel
    by_cases hlt : k < len
    · obtain ⟨ge, off, ⟨f, t, n⟩, rfl, hek, hwf, hc⟩ := HF.out.get k (by have := HL.out; omega)
      have e0 : w.cell? ⟨ge, off + k * 3, none⟩ = some (.int .u8 (f : Int)) := hc 0 (Nat.succ_pos 2)
      have e1 : w.cell? ⟨ge, off + k * 3 + 1, none⟩ = some (.int .u8 (t : Int)) := hc 1 (Nat.succ_lt_succ (Nat.succ_pos 1))
      have e2 : w.cell? ⟨ge, off + k * 3 + 2, none⟩ = some (.int .i64 n) := hc 2 (Nat.lt_succ_self 2)
      have HEK := AsideA.mk hek
      clear hek hwf hc
      by_cases hfa : f = a
      · by_cases htb : t = b
        · subst hfa htb
          have R := AsideA.mk (find_here I.out HEK.out (by simp))
          clear I
          go_wp2
          go_ret
          exact ⟨by rw [R.out]; rfl, rfl⟩
        · subst hfa
          have S := AsideA.mk (find_step I.out HEK.out (by simp [htb]))
          have d : ((t : Int) == (b : Int)) = false := beq_eq_false_iff_ne.mpr (by omega)
          clear htb
          go_wp2
          exact ⟨⟨k + 1, by omega, by go_num, trivial, S⟩, by simp [intOf]; omega⟩
      · have S := AsideA.mk (find_step I.out HEK.out (by simp [hfa]))
        have d : ((f : Int) == (a : Int)) = false := beq_eq_false_iff_ne.mpr (by omega)
        clear hfa
        go_wp2
        exact ⟨⟨k + 1, by omega, by go_num, trivial, S⟩, by simp [intOf]; omega⟩
    · have R : AsideA (findF es a b = 0) := ⟨by
        have h := I.out
        rw [List.take_of_length_le (by have := HL.out; omega)] at h
        unfold findF
        rw [h]⟩
      go_wp2
      go_ret
      exact ⟨by rw [R.out]; rfl, rfl⟩
end Go.Proofs.Ytjopmkfpghdlpaa.A

