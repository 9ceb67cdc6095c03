/-
  FramesSpoilt: the row's words.
-/
import Derived.Test.YtccmeiflahnleaaDoorK6
import Derived.Test.YtccmeiflahnleaaDoorK7
import Derived.OpenShut
namespace Go.Proofs.YtccmeiflahnleaaDoor.A
set_option linter.unusedVariables false
set_option linter.unusedSimpArgs false
open Go.RowKit

theorem arr_of_trod {H : Type} {enc : TypeId × Value → H} {W : World} {r : Reach} {b0 : Nat} {v : Value} {d : DataW H} {p : List MemPlace} (hv : Value.okWide Tryd.prog W r b0 50 v) (h : DataW.Trod enc Tryd.prog W 0 (fun _ => true) true 50 v d p) :
    ∃ x y : Int, v = .agg #[.int .u16 x, .int .u16 y] ∧ (Lit.int .u16 x).wf = true ∧ (Lit.int .u16 y).wf = true := by
  simp only [Value.okWide, Tryd.underlying50] at hv
  obtain ⟨cs, rfl, hsz, _⟩ := hv
  have hc : Tryd.prog.cellsOf 50 = 2 := by kernel_rfl
  have h44 : Tryd.prog.cellsOf 44 = 1 := by kernel_rfl
  rw [hc] at hsz
  obtain ⟨c0, c1, rfl⟩ : ∃ c0 c1, cs = #[c0, c1] := by
    obtain ⟨l⟩ := cs
    rcases l with _ | ⟨a, _ | ⟨b, _ | ⟨e, t⟩⟩⟩
    · simp at hsz
    · simp at hsz
    · exact ⟨a, b, rfl⟩
    · simp at hsz
  obtain ⟨fuel, hf⟩ := h
  obtain ⟨xs, m, rfl, _, hlen, hn, hel⟩ := DataW.trod_array Tryd.underlying50 hf
  have e0 := (hel 0 (by omega)).trans (List.getElem?_eq_getElem (by omega : 0 < xs.length))
  have e1 := (hel 1 (by omega)).trans (List.getElem?_eq_getElem (by omega : 1 < xs.length))
  rw [h44] at e0 e1
  obtain ⟨x, hx, _, wx⟩ := DataW.trod_int Tryd.underlying44 e0
  obtain ⟨y, hy, _, wy⟩ := DataW.trod_int Tryd.underlying44 e1
  simp [Value.cells] at hx hy
  exact ⟨x, y, by rw [hx, hy], wx, wy⟩

theorem spoilt_of_row (A : Option Addr) (n c : Nat) (R : Nat → Rw) (v x y : Int) (w : World) (T : TabAt w) (hA : IsRow22 w A n c R) (hv : (Lit.int .u32 v).wf = true) (hx : (Lit.int .u16 x).wf = true) (hy : (Lit.int .u16 y).wf = true) : Calls Tryd.prog 9 #[.slice A n c, .int .u32 v, .agg #[.int .u16 x, .int .u16 y]] w fun e w' => e = .returned (.bool true) ∧ Below w.heap.size w w' := by
  have wf16 : ∀ z : Int, (Lit.int .u16 z).wf = true → 0 ≤ z ∧ z < 65536 := fun z hz => by
    simp [Lit.wf, IntKind.min, IntKind.max, IntKind.bits, IntKind.signed] at hz
    omega
  have hv' : 0 ≤ v ∧ v < 2 ^ 32 := by
    simp [Lit.wf, IntKind.min, IntKind.max, IntKind.bits, IntKind.signed] at hv
    omega
  have hx' := wf16 x hx
  have hy' := wf16 y hy
  obtain ⟨a, rfl⟩ : ∃ m : Nat, x = (m : Int) := ⟨x.toNat, by omega⟩
  obtain ⟨b, rfl⟩ : ∃ m : Nat, y = (m : Int) := ⟨y.toNat, by omega⟩
  obtain ⟨u, rfl⟩ : ∃ m : Nat, v = (m : Int) := ⟨v.toNat, by omega⟩
  exact xspoilt A n c u a b (rowParts n R) w T hA.reads (fun h => hA.bytes h) (rowParts_len n R) (by omega) hx'.2 hy'.2
end Go.Proofs.YtccmeiflahnleaaDoor.A

