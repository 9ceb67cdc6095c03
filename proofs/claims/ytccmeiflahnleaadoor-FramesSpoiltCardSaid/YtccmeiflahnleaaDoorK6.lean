/-
  A row of rows of bytes, as the row's reading opens it.
-/
import Derived.Test.YtccmeiflahnleaaDoorK5
import Derived.Test.YtccmeiflahnleaaDoorS10
import Derived.Deep.Matrix
namespace Go.Proofs.YtccmeiflahnleaaDoor.A
set_option linter.unusedVariables false
set_option linter.unusedSimpArgs false
open Go.RowKit

structure Rw where
  A : Option Addr
  L : Nat
  C : Nat
  Z : List Int
def Rw.part (r : Rw) : Part := ⟨r.A, r.C, rowBytes r.L r.Z⟩
def IsRow22 (w : World) (a : Option Addr) (len cap : Nat) (R : Nat → Rw) : Prop :=
  (a = none ∧ len = 0 ∧ cap = 0) ∨
  ∃ x, a = some x ∧ len ≤ cap ∧ ∀ r, r < cap → w.cell? (x.add r) = some (.slice (R r).A (R r).L (R r).C) ∧ IsRow8 w (R r).A (R r).L (R r).C (R r).Z

theorem row22_of_trod {H : Type} {enc : TypeId × Value → H} {W : World} {a : Option Addr} {len cap : Nat} {d : DataW H} {p : List MemPlace} (h : DataW.Trod enc Tryd.prog W 0 (fun _ => true) true 40 (.slice a len cap) d p) : ∃ R, IsRow22 W a len cap R := by
  obtain ⟨fuel, hf⟩ := h
  rcases Go.Deep.open_int_rows Tryd.underlying40 Tryd.underlying22 Tryd.underlying5 (by kernel_rfl) (by kernel_rfl) hf with ⟨hcs, _⟩ | ⟨x, l, c, A, L, C, Z, hcs, _, hl, hm, _, hall⟩
  · simp [Value.cells] at hcs
    obtain ⟨rfl, rfl, rfl⟩ := hcs
    exact ⟨fun _ => ⟨none, 0, 0, []⟩, .inl ⟨rfl, rfl, rfl⟩⟩
  · simp [Value.cells] at hcs
    obtain ⟨rfl, rfl, rfl⟩ := hcs
    refine ⟨fun r => ⟨A r, L r, C r, Z r⟩, .inr ⟨x, rfl, hl, fun r hr => ?_⟩⟩
    obtain ⟨h1, h2, h3, h4, h5, h6, h7⟩ := hall r hr
    refine ⟨h1, ?_⟩
    show IsRow8 W (A r) (L r) (C r) (Z r)
    cases hA : A r with
    | none =>
      have hc := h6 hA
      exact .inl ⟨rfl, by omega, hc, List.eq_nil_of_length_eq_zero (by omega)⟩
    | some a' =>
      exact .inr ⟨a', rfl, h2, h3, h4, fun i hi => (h7 a' hA).2 i (by omega), h5⟩

/-- the parts of such a row -/
def rowParts (len : Nat) (R : Nat → Rw) : List Part := (List.range len).map fun r => (R r).part
theorem rowParts_len (len : Nat) (R : Nat → Rw) : len = (rowParts len R).length := by
  unfold rowParts
  rw [List.length_map, List.length_range]
theorem rowParts_mem {len : Nat} {R : Nat → Rw} {p : Part} (h : p ∈ rowParts len R) : ∃ r, r < len ∧ p = (R r).part := by
  obtain ⟨r, hr, rfl⟩ := List.mem_map.1 h
  exact ⟨r, List.mem_range.1 hr, rfl⟩
theorem IsRow22.reads {w : World} {a : Option Addr} {len cap : Nat} {R : Nat → Rw} (h : IsRow22 w a len cap R) : Reads w a (enc22 (rowParts len R)) := by
  rcases h with ⟨rfl, rfl, rfl⟩ | ⟨x, rfl, hl, hall⟩
  · exact Reads.nil
  · refine .inr ⟨x, rfl, fun k v hv => ?_⟩
    unfold enc22 rowParts at hv
    rw [List.map_map, List.getElem?_map] at hv
    cases hr : (List.range len)[k]? with
    | none => rw [hr] at hv; cases hv
    | some r =>
      rw [hr] at hv
      obtain ⟨h1, h2⟩ := List.getElem?_eq_some_iff.1 hr
      rw [List.getElem_range] at h2
      subst h2
      rw [List.length_range] at h1
      obtain ⟨h3, h4⟩ := hall k (by omega)
      rw [h3, ← hv]
      show some (Value.slice (R k).A (R k).L (R k).C) = some (.slice (R k).A (rowBytes (R k).L (R k).Z).length (R k).C)
      rw [h4.len]
theorem IsRow22.bytes {w : World} {a : Option Addr} {len cap : Nat} {R : Nat → Rw} (h : IsRow22 w a len cap R) (hs : ∀ p ∈ rowParts len R, p.bs.length ≤ 8192) : ∀ p ∈ rowParts len R, Bytes w p.A p.bs := by
  intro p hp
  have hl := hs p hp
  obtain ⟨r, hr, rfl⟩ := rowParts_mem hp
  rcases h with ⟨_, rfl, _⟩ | ⟨x, _, hlc, hall⟩
  · omega
  · have h4 := (hall r (by omega)).2
    have h5 := h4.len
    refine h4.bytes ?_
    have hl : (rowBytes (R r).L (R r).Z).length ≤ 8192 := hl
    omega

theorem cut_of_row (A : Option Addr) (n c : Nat) (R : Nat → Rw) (z : Int) (w : World) (T : TabAt w) (hA : IsRow22 w A n c R) (hz : (Lit.int .u16 z).wf = true) : Calls Tryd.prog 8 #[.slice A n c, .int .u16 z] w fun e w' => e = .returned (.bool true) ∧ Below w.heap.size w w' := by
  have hz' : 0 ≤ z ∧ z < 65536 := by
    simp [Lit.wf, IntKind.min, IntKind.max, IntKind.bits, IntKind.signed] at hz
    omega
  obtain ⟨m, rfl⟩ : ∃ m : Nat, z = (m : Int) := ⟨z.toNat, by omega⟩
  exact xcut A n c m (rowParts n R) w T hA.reads (fun h => hA.bytes h) (rowParts_len n R) hz'.2
end Go.Proofs.YtccmeiflahnleaaDoor.A

