/-
  Lists of bytes that are the same (countinghouselaw18.lists).
-/
import Derived.Test.YtccmeiflahnleaaDoorH5
import Derived.Test.YtccmeiflahnleaaDoorS12
namespace Go.Proofs.YtccmeiflahnleaaDoor.A
set_option linter.unusedVariables false
set_option linter.unusedSimpArgs false
open Go.RowKit

theorem part_cell {w : World} {A : Option Addr} {ps : List Part} (h : Reads w A (enc22 ps)) (k : Nat) (p : Part) (hp : ps[k]? = some p) : ∃ g off, A = some ⟨g, off, none⟩ ∧ ∀ wz, Below w.heap.size w wz → wz.cell? ⟨g, off + k, none⟩ = some (.slice p.A p.bs.length p.c) := by
  have e : (enc22 ps)[k]? = some (.slice p.A p.bs.length p.c) := by
    unfold enc22
    rw [List.getElem?_map, hp]
    rfl
  obtain ⟨g, off, rfl, _⟩ := h.at_cell k _ e
  refine ⟨g, off, rfl, fun wz hz => ?_⟩
  obtain ⟨g', off', e1, hc⟩ := (h.below hz).at_cell k _ e
  cases e1
  exact hc

set_option maxHeartbeats 4000000 in
set_option maxRecDepth 100000 in
theorem xlists (A B : Option Addr) (n ca cb : Nat) (ps qs : List Part) (w : World) (RA : Reads w A (enc22 ps)) (RB : Reads w B (enc22 qs)) (PA : ∀ p ∈ ps, Bytes w p.A p.bs) (QB : ∀ p ∈ qs, Bytes w p.A p.bs) (hl : (ps.length : Int) ≤ 1099511627776) (hn : n = ps.length) (h : ps.map (·.bs) = qs.map (·.bs)) :
    Calls Tryd.prog 30 #[.slice A n ca, .slice B n cb] w fun e w' => e = .returned (.bool true) ∧ Below w.heap.size w w' := by
  have HA := AsideA.mk RA
  have HB := AsideA.mk RB
  have HP := AsideA.mk PA
  have HQ := AsideA.mk QB
  have HE := AsideA.mk h
  rw [← hn] at hl
  have HN := AsideA.mk hn
  have I0 : AsideA (Below w.heap.size w w) := ⟨Below.refl _ _⟩
  clear RA RB PA QB h hn
  go_enter Tryd.func30, Tryd.ntmps30
  go_wp2
  go_loopw [5] (fun i wr => ∃ k : Nat, k ≤ n ∧ i = .int .i64 k ∧ AsideA (Below w.heap.size w wr)) (fun i _ => n - (intOf i).toNat)
  case atStart => exact ⟨0, by omega, rfl, I0⟩
  case round =>
    obtain ⟨k, hk, rfl, I⟩ := hrel
    clear I0
    by_cases hlt : k < n
    · obtain ⟨p, hp⟩ : ∃ p, ps[k]? = some p := ⟨ps[k]'(by have := HN.out; omega), List.getElem?_eq_getElem _⟩
      have hq1 : (qs.map (·.bs))[k]? = some p.bs := by rw [← HE.out, List.getElem?_map, hp]; rfl
      obtain ⟨q, hq, hqb⟩ : ∃ q, qs[k]? = some q ∧ q.bs = p.bs := by
        rw [List.getElem?_map] at hq1
        cases hq : qs[k]? with
        | none => rw [hq] at hq1; cases hq1
        | some q => rw [hq] at hq1; exact ⟨q, rfl, Option.some.inj hq1⟩
      obtain ⟨g, off, rfl, hc1⟩ := part_cell HA.out k p hp
      obtain ⟨g2, off2, rfl, hc2⟩ := part_cell HB.out k q hq
      have C16 := AsideA.mk (fun (wz : World) (h : Below w.heap.size w wz) => (same_bytes p.A q.A p.c q.c p.bs q.bs wz ((HP.out p (List.mem_of_getElem? hp)).below h) ((HQ.out q (List.mem_of_getElem? hq)).below h)).mono (R' := fun e w' => e = .returned (.bool true) ∧ Below w.heap.size w w') fun e w' hh => ⟨by rw [hh.1, hqb, decide_eq_true rfl], below_call h hh.2⟩)
      have HC1 := AsideA.mk hc1
      have HC2 := AsideA.mk hc2
      rw [hqb] at C16 HC2
      clear hc1 hc2 hp hq hq1 hqb
      obtain ⟨pA, pc, pb⟩ := p
      obtain ⟨qA, qc, qb⟩ := q
      simp only [] at C16 HC1 HC2
      obtain ⟨pl, hpl⟩ : ∃ pl, pl = pb.length := ⟨_, rfl⟩
      rw [← hpl] at C16 HC1 HC2
      clear hpl
      go_wp2_with fail
      refine region_picked follows [17, 18, 19, 20, 21, 22, 23, 24, 25, 26] (fun (_y : Unit) => [(17, .slice (some ⟨g, off, none⟩) n ca), (18, .int .i64 k), (19, .pointer (some ⟨g, off + k, none⟩)), (20, .slice pA pl pc), (21, .slice (some ⟨g2, off2, none⟩) n cb), (22, .int .i64 k), (23, .pointer (some ⟨g2, off2 + k, none⟩)), (24, .slice qA pl qc), (25, .bool true), (26, .bool false)]) (by intro _; rfl) _ (by intro _; simp only [actPuts]; go_simp; rfl) 27 rfl (by kernel_rfl)
        (fun (pk : Option (Unit)) (ls : Array Bool) (wz : World) => Below w.heap.size w wz) ?_ ?_ ?_
      · intro ls hl
        exact I.out.drew
      · refine ⟨?_, ?_, ?_, ?_, ?_, ?_, ?_, ?_, ?_, ?_, trivial⟩
        · intro pk ls wz x hs hl hn h hx
          exact opc_val rfl (v := .slice (some ⟨g, off, none⟩) n ca) (w' := wz) (by go_simp) rfl (fun _ => rfl) (h)
        · intro pk ls wz x hs hl hn h hx
          exact opc_val rfl (v := .int .i64 k) (w' := wz) (by go_simp) rfl (fun _ => rfl) (h)
        · intro pk ls wz x hs hl hn h hx
          exact opc_val rfl (v := .pointer (some ⟨g, off + k, none⟩)) (w' := wz) (by go_simp) rfl (fun _ => rfl) (h)
        · intro pk ls wz x hs hl hn h hx
          have hc := HC1.out wz h
          exact opc_val rfl (v := .slice pA pl pc) (w' := wz) (by go_simp) rfl (fun _ => rfl) (h)
        · intro pk ls wz x hs hl hn h hx
          exact opc_val rfl (v := .slice (some ⟨g2, off2, none⟩) n cb) (w' := wz) (by go_simp) rfl (fun _ => rfl) (h)
        · intro pk ls wz x hs hl hn h hx
          exact opc_val rfl (v := .int .i64 k) (w' := wz) (by go_simp) rfl (fun _ => rfl) (h)
        · intro pk ls wz x hs hl hn h hx
          exact opc_val rfl (v := .pointer (some ⟨g2, off2 + k, none⟩)) (w' := wz) (by go_simp) rfl (fun _ => rfl) (h)
        · intro pk ls wz x hs hl hn h hx
          have hc := HC2.out wz h
          exact opc_val rfl (v := .slice qA pl qc) (w' := wz) (by go_simp) rfl (fun _ => rfl) (h)
        · intro pk ls wz x hs hl hn h hx
          exact opc_call rfl (f := 16) (args := #[.slice pA pl pc, .slice qA pl qc]) (by go_simp) rfl (fun _ => rfl) (C16.out wz h)
        · intro pk ls wz x hs hl hn h hx
          exact opc_val rfl (v := .bool false) (w' := wz) (by go_simp) rfl (fun _ => rfl) (h)
      · intro c' l w4 x hd h hx
        have Z := AsideA.mk h
        clear hd h hx I
        go_wp2
        exact ⟨⟨k + 1, by omega, by go_num, Z⟩, by simp [intOf]; omega⟩
    · go_wp2
      go_ret
      exact ⟨rfl, I.out⟩
end Go.Proofs.YtccmeiflahnleaaDoor.A

