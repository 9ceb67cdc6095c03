/-
  The laws' great (31) and put (32).
-/
import Derived.Test.YtccmeiflahnleaaDoorK1
namespace Go.Proofs.YtccmeiflahnleaaDoor.A
set_option linter.unusedVariables false
set_option linter.unusedSimpArgs false
open Go.RowKit

theorem part_cell {w : World} {A : Option Addr} {ps : List Part} (h : Reads w A (enc22 ps)) (k : Nat) (p : Part) (hp : ps[k]? = some p) : ∃ g off, A = some ⟨g, off, none⟩ ∧ ∀ wz, Below w.heap.size w wz → wz.cell? ⟨g, off + k, none⟩ = some (.slice p.A p.bs.length p.c) := by
  have e : (enc22 ps)[k]? = some (.slice p.A p.bs.length p.c) := by
    unfold enc22
    rw [List.getElem?_map, hp]
    rfl
  obtain ⟨g, off, rfl, _⟩ := h.at_cell k _ e
  refine ⟨g, off, rfl, fun wz hz => ?_⟩
  obtain ⟨g', off', e1, hc⟩ := (h.below hz).at_cell k _ e
  cases e1
  exact hc

/-- what great adds up -/
def tot (ls : List (List Nat)) : Nat := (ls.map fun b => 10 + b.length).sum
theorem tot_snoc (ls : List (List Nat)) (b : List Nat) : tot (ls ++ [b]) = tot ls + 10 + b.length := by
  unfold tot
  rw [List.map_append, List.sum_append]
  simp
  omega
theorem tot_append (a b : List (List Nat)) : tot (a ++ b) = tot a + tot b := by
  unfold tot
  rw [List.map_append, List.sum_append]
theorem tot_count : ∀ (ls : List (List Nat)), 10 * ls.length ≤ tot ls
  | [] => by simp [tot]
  | b :: t => by
    have := tot_count t
    have e : tot (b :: t) = 10 + b.length + tot t := by simp [tot]
    rw [e, List.length_cons]
    omega
theorem cat_len : ∀ (ls : List (List Nat)), (∀ b ∈ ls, b.length ≤ 8192) → (cat ls).length ≤ tot ls
  | [], _ => by simp [cat]
  | b :: t, h => by
    have := cat_len t (fun c hc => h c (List.mem_cons_of_mem _ hc))
    have e : tot (b :: t) = 10 + b.length + tot t := by simp [tot]
    have h2 := numL_len 1 b.length (by have := h b (List.mem_cons_self ..); omega)
    rw [e, cat_cons, List.length_append, frameP_len]
    omega
/-- not great -/
def Small (ls : List (List Nat)) : Prop := (∀ b ∈ ls, b.length ≤ 8192) ∧ tot ls ≤ 20000

def GreatRet (w : World) (ps : List Part) (e : Ending) (w' : World) : Prop := ∃ r, e = .returned (.bool r) ∧ (r = false → Small (ps.map (·.bs))) ∧ Below w.heap.size w w'
theorem great_yes {w w' : World} {ps : List Part} (h : Below w.heap.size w w') : GreatRet w ps (.returned (.bool true)) w' := ⟨true, rfl, (fun h => by cases h), h⟩

set_option maxHeartbeats 4000000 in
set_option maxRecDepth 100000 in
theorem xgreat (A : Option Addr) (n c : Nat) (ps : List Part) (w : World) (RA : Reads w A (enc22 ps)) (hn : n = ps.length) : Calls Tryd.prog 31 #[.slice A n c] w (GreatRet w ps) := by
  have HA := AsideA.mk RA
  have HN := AsideA.mk hn
  have I0 : AsideA (Below w.heap.size w w ∧ 0 = tot ((ps.map (·.bs)).take 0) ∧ ∀ b ∈ (ps.map (·.bs)).take 0, b.length ≤ 8192) := ⟨Below.refl _ _, rfl, by simp⟩
  clear RA hn
  go_enter Tryd.func31, Tryd.ntmps31
  go_wp2
  go_loopw [3, 4] (fun s i wr => ∃ k t : Nat, k ≤ n ∧ (k : Int) ≤ 3000 ∧ (t : Int) ≤ 40000 ∧ i = .int .i64 k ∧ s = .int .i64 t ∧ AsideA (Below w.heap.size w wr ∧ t = tot ((ps.map (·.bs)).take k) ∧ ∀ b ∈ (ps.map (·.bs)).take k, b.length ≤ 8192)) (fun _ i _ => n - (intOf i).toNat)
  case atStart => exact ⟨0, 0, by omega, by omega, by omega, rfl, rfl, I0⟩
  case round =>
    obtain ⟨k, t, hk, hk3, ht4, rfl, rfl, I⟩ := hrel
    clear I0
    by_cases hlt : (k : Int) < n
    · by_cases hs : (t : Int) ≤ 20000
      · obtain ⟨p, hp⟩ : ∃ p, ps[k]? = some p := ⟨ps[k]'(by have := HN.out; omega), List.getElem?_eq_getElem _⟩
        obtain ⟨g, off, rfl, hc⟩ := part_cell HA.out k p hp
        have c0 := hc wr I.out.1
        have hps : (ps.map (·.bs)).take (k + 1) = (ps.map (·.bs)).take k ++ [p.bs] := by
          rw [List.take_add_one, List.getElem?_map, hp]
          rfl
        have ST : AsideA (t + 10 + p.bs.length = tot ((ps.map (·.bs)).take (k + 1)) ∧ 10 * (k + 1) ≤ tot ((ps.map (·.bs)).take (k + 1)) ∧ (p.bs.length ≤ 8192 → ∀ b ∈ (ps.map (·.bs)).take (k + 1), b.length ≤ 8192)) := ⟨by
          have e1 : ((ps.map (·.bs)).take (k + 1)).length = k + 1 := by
            have := HN.out
            rw [List.length_take, List.length_map]
            omega
          refine ⟨by rw [hps, tot_snoc, ← I.out.2.1], by have := tot_count ((ps.map (·.bs)).take (k + 1)); rw [e1] at this; exact this, fun h b hb => ?_⟩
          rw [hps] at hb
          rcases List.mem_append.1 hb with hb | hb
          · exact I.out.2.2 b hb
          · rw [List.mem_singleton] at hb
            rw [hb]
            exact h⟩
        generalize p.bs.length = pl at *
        generalize p.A = pA at *
        generalize p.c = pc at *
        clear hc hp hps
        by_cases hb : (pl : Int) ≤ 8192
        · have hk4 : (k : Int) + 1 ≤ 3000 := by have := ST.out; omega
          go_wp2
          exact ⟨⟨k + 1, t + 10 + pl, by omega, by omega, by omega, by go_num, by first | rfl | (congr 1; omega), ⟨I.out.1, ST.out.1, ST.out.2.2 (by omega)⟩⟩, by simp [intOf]; omega⟩
        · go_wp2
          go_ret
          exact great_yes I.out.1
      · go_wp2
        go_ret
        exact great_yes I.out.1
    · go_wp2
      go_ret
      refine ⟨_, rfl, fun h => ?_, I.out.1⟩
      have h1 : ¬ (20000 : Int) < t := by simpa using h
      have e1 : (ps.map (·.bs)).take k = ps.map (·.bs) := List.take_of_length_le (by rw [List.length_map]; have := HN.out; omega)
      have h2 := I.out.2
      rw [e1] at h2
      exact ⟨h2.2, by omega⟩
end Go.Proofs.YtccmeiflahnleaaDoor.A

