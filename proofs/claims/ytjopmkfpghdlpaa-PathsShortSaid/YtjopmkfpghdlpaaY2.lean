/-
  Rows of edges and of flows, as the given row's reading opens them.
-/
import Derived.Test.YtjopmkfpghdlpaaX0
import Derived.Deep.Slices
import Derived.Deep.Fields
import Derived.ChangeSame
import Derived.ProofKit
namespace Go.Proofs.Ytjopmkfpghdlpaa.A
set_option linter.unusedVariables false
set_option linter.unusedSimpArgs false
open Go.RowKit Go.ChangeShapes Go.WideShapes

theorem listed {α : Type} (Q : Nat → α → Prop) : ∀ n, (∀ i, i < n → ∃ x, Q i x) → ∃ l : List α, l.length = n ∧ ∀ i x, l[i]? = some x → Q i x
  | 0, _ => ⟨[], rfl, fun i x h => by simp at h⟩
  | n + 1, h => by
    obtain ⟨l, h1, h2⟩ := listed Q n fun i hi => h i (by omega)
    obtain ⟨x, hx⟩ := h n (by omega)
    refine ⟨l ++ [x], by simp [h1], fun i y hy => ?_⟩
    by_cases e : i < l.length
    · rw [List.getElem?_append_left e] at hy; exact h2 i y hy
    · have hl := (List.getElem?_eq_some_iff.1 hy).1
      rw [List.length_append, List.length_singleton] at hl
      have : i = l.length := by omega
      subst this
      rw [List.getElem?_append_right (Nat.le_refl _), Nat.sub_self] at hy
      simp at hy
      rw [← hy, h1]
      exact hx

section
variable {H : Type} {enc : TypeId × Value → H} {P : Program} {w : World} {spare : Nat → Bool} {held : Bool}
theorem one_at {t : TypeId} {k : IntKind} {n j : Nat} {cs : List Value} {y : DataW H × List MemPlace} (ht : P.underlying t = some (.int k)) (h : DataW.trod enc P w 0 spare held n t ((cs.drop j).take 1) = some y) : ∃ x : Int, cs[j]? = some (.int k x) ∧ (Lit.int k x).wf = true := by
  obtain ⟨x, h1, _, h2⟩ := DataW.trod_int ht h
  refine ⟨x, ?_, h2⟩
  have : ((cs.drop j).take 1)[0]? = some (.int k x) := by rw [h1]; rfl
  rw [List.getElem?_take, if_pos (by omega), List.getElem?_drop, Nat.add_zero] at this
  exact this
/-- the rows of a slice whose elements are three whole numbers each -/
theorem row3_of_trod {t e : TypeId} {k0 k1 k2 : IntKind} {f0 f1 f2 : Field} (ht : P.underlying t = some (.slice e)) (he : P.underlying e = some (.struct #[f0, f1, f2])) (hC : P.cellsOf e = 3)
    (t0 : P.underlying f0.type = some (.int k0)) (t1 : P.underlying f1.type = some (.int k1)) (t2 : P.underlying f2.type = some (.int k2)) (c0 : P.cellsOf f0.type = 1) (c1 : P.cellsOf f1.type = 1) (c2 : P.cellsOf f2.type = 1) (o0 : f0.offset = 0) (o1 : f1.offset = 1) (o2 : f2.offset = 2)
    {a : Option Addr} {len cap : Nat} {d : DataW H} {p : List MemPlace} (h : DataW.Trod enc P w 0 spare held t (.slice a len cap) d p) :
    ∃ l : List (Int × Int × Int), l.length = len ∧ len ≤ cap ∧ cap ≤ maxLen ∧ ((a = none ∧ len = 0) ∨ ∃ x, a = some x ∧ ∀ i y, l[i]? = some y → (w.cell? (x.add (i * 3 + 0)) = some (.int k0 y.1) ∧ w.cell? (x.add (i * 3 + 1)) = some (.int k1 y.2.1) ∧ w.cell? (x.add (i * 3 + 2)) = some (.int k2 y.2.2)) ∧ (Lit.int k0 y.1).wf = true ∧ (Lit.int k1 y.2.1).wf = true ∧ (Lit.int k2 y.2.2).wf = true) := by
  obtain ⟨fuel, hf⟩ := h
  rcases Go.Deep.open_slice ht hf with ⟨hcs, _⟩ | ⟨x, l, c, m, n, D, Pl, hcs, _, hl, hm, hmm, _, hall⟩
  · simp [Value.cells] at hcs
    obtain ⟨rfl, rfl, rfl⟩ := hcs
    exact ⟨[], rfl, Nat.le_refl _, by simp [maxLen], .inl ⟨rfl, rfl⟩⟩
  · simp [Value.cells] at hcs
    obtain ⟨rfl, rfl, rfl⟩ := hcs
    obtain ⟨L, h1, h2⟩ := listed (fun i (y : Int × Int × Int) => (w.cell? (x.add (i * 3 + 0)) = some (.int k0 y.1) ∧ w.cell? (x.add (i * 3 + 1)) = some (.int k1 y.2.1) ∧ w.cell? (x.add (i * 3 + 2)) = some (.int k2 y.2.2)) ∧ (Lit.int k0 y.1).wf = true ∧ (Lit.int k1 y.2.1).wf = true ∧ (Lit.int k2 y.2.2).wf = true) len fun i hi => by
      obtain ⟨cs', hc, hd⟩ := hall i (by rw [hmm]; split <;> omega)
      rw [hC] at hc
      obtain ⟨_, _, hcell⟩ := World.cells?_some hc
      obtain ⟨xs, n', _, _, _, hxl, hfs⟩ := DataW.trod_struct he hd
      have hs3 : (#[f0, f1, f2] : Array Field).size = 3 := rfl
      rw [hs3] at hxl
      have r0 := hfs 0 f0 rfl
      have r1 := hfs 1 f1 rfl
      have r2 := hfs 2 f2 rfl
      rw [c0, o0, List.getElem?_eq_getElem (show 0 < xs.length by omega)] at r0
      rw [c1, o1, List.getElem?_eq_getElem (show 1 < xs.length by omega)] at r1
      rw [c2, o2, List.getElem?_eq_getElem (show 2 < xs.length by omega)] at r2
      obtain ⟨y0, g0, w0⟩ := one_at t0 r0
      obtain ⟨y1, g1, w1⟩ := one_at t1 r1
      obtain ⟨y2, g2, w2⟩ := one_at t2 r2
      have cc := fun j hj => hcell j hj
      refine ⟨⟨y0, y1, y2⟩, ⟨?_, ?_, ?_⟩, w0, w1, w2⟩
      · rw [← Go.Deep.add_add, hcell 0 (by omega), g0]
      · rw [← Go.Deep.add_add, hcell 1 (by omega), g1]
      · rw [← Go.Deep.add_add, hcell 2 (by omega), g2]
    exact ⟨L, h1, hl, hm, .inr ⟨x, rfl, h2⟩⟩
end
theorem wf_u8 {n : Int} (h : (Lit.int .u8 n).wf = true) : 0 ≤ n ∧ n < 256 := by
  unfold Lit.wf at h
  simp only [Bool.and_eq_true, decide_eq_true_eq] at h
  have h1 : IntKind.u8.min = 0 := by decide
  have h2 : IntKind.u8.max = 255 := by decide
  omega
theorem wf_i8 {n : Int} (h : (Lit.int .i8 n).wf = true) : -128 ≤ n ∧ n ≤ 127 := by
  unfold Lit.wf at h
  simp only [Bool.and_eq_true, decide_eq_true_eq] at h
  have h1 : IntKind.i8.min = -128 := by decide
  have h2 : IntKind.i8.max = 127 := by decide
  omega
theorem wf_i64 {n : Int} (h : (Lit.int .i64 n).wf = true) : -9223372036854775808 ≤ n ∧ n ≤ 9223372036854775807 := by
  unfold Lit.wf at h
  simp only [Bool.and_eq_true, decide_eq_true_eq] at h
  have h1 : IntKind.i64.min = -9223372036854775808 := by decide
  have h2 : IntKind.i64.max = 9223372036854775807 := by decide
  omega
theorem wf_u16 {n : Int} (h : (Lit.int .u16 n).wf = true) : 0 ≤ n ∧ n < 65536 := by
  unfold Lit.wf at h
  simp only [Bool.and_eq_true, decide_eq_true_eq] at h
  have h1 : IntKind.u16.min = 0 := by decide
  have h2 : IntKind.u16.max = 65535 := by decide
  omega
theorem reads3 {w : World} {x : Addr} (vs : List Value) (n : Nat) (hl : vs.length = n * 3) (h : ∀ i, i < n → ∀ j, j < 3 → w.cell? (x.add (i * 3 + j)) = vs[i * 3 + j]?) : Reads w (some x) vs :=
  .inr ⟨x, rfl, fun k u hk => by
    have hlt := (List.getElem?_eq_some_iff.1 hk).1
    have := h (k / 3) (by omega) (k % 3) (by omega)
    rw [show k / 3 * 3 + k % 3 = k by omega] at this
    rw [this, hk]⟩
/-- a row of edges that came in -/
structure RowE (w : World) (a : Option Addr) (len cap : Nat) (es : List Ed) : Prop where
  num : es.length = len
  room : len ≤ cap
  wf : ∀ e ∈ es, e.wf
  reads : Reads w a (encE es)
theorem edges_of_trod {H : Type} {enc : TypeId × Value → H} {W : World} {a : Option Addr} {len cap : Nat} {d : DataW H} {p : List MemPlace} (h : DataW.Trod enc Try.prog W 0 (fun _ => true) true 29 (.slice a len cap) d p) : ∃ es, RowE W a len cap es := by
  obtain ⟨l, h1, h2, h3, h4⟩ := row3_of_trod (k0 := .u8) (k1 := .u8) (k2 := .i8) Try.underlying29 Try.underlying35 (by kernel_rfl) Try.underlying30 Try.underlying30 Try.underlying33 (by kernel_rfl) (by kernel_rfl) (by kernel_rfl) rfl rfl rfl h
  have hle : (l.map fun y => (⟨y.1.toNat, y.2.1.toNat, y.2.2⟩ : Ed)).length = len := by rw [List.length_map, h1]
  rcases h4 with ⟨rfl, h0⟩ | ⟨x, rfl, hall⟩
  · subst h0
    have : l = [] := List.eq_nil_of_length_eq_zero h1
    subst this
    exact ⟨[], rfl, h2, by simp, Reads.nil⟩
  · have hwf : ∀ e ∈ (l.map fun y => (⟨y.1.toNat, y.2.1.toNat, y.2.2⟩ : Ed)), e.wf := by
      intro e he
      obtain ⟨y, hy, rfl⟩ := List.mem_map.1 he
      obtain ⟨i, hi⟩ := List.getElem?_of_mem hy
      obtain ⟨_, w0, w1, w2⟩ := hall i y hi
      have := wf_u8 w0; have := wf_u8 w1; have := wf_i8 w2
      unfold Ed.wf
      simp only
      omega
    refine ⟨_, hle, h2, hwf, reads3 _ len (by rw [encE_len, hle]) fun i hi j hj => ?_⟩
    have hy : l[i]? = some (l[i]'(by omega)) := List.getElem?_eq_getElem (by omega)
    obtain ⟨⟨e0, e1, e2⟩, w0, w1, _⟩ := hall i _ hy
    have b0 := wf_u8 w0
    have b1 := wf_u8 w1
    rw [encE_at _ i ⟨(l[i]'(by omega)).1.toNat, (l[i]'(by omega)).2.1.toNat, (l[i]'(by omega)).2.2⟩ (by rw [List.getElem?_map, hy]; rfl) j hj]
    have : j = 0 ∨ j = 1 ∨ j = 2 := by omega
    rcases this with rfl | rfl | rfl
    · rw [e0]; show _ = some (Value.int .u8 (((l[i]'(by omega)).1.toNat : Nat) : Int)); rw [Int.toNat_of_nonneg b0.1]
    · rw [e1]; show _ = some (Value.int .u8 (((l[i]'(by omega)).2.1.toNat : Nat) : Int)); rw [Int.toNat_of_nonneg b1.1]
    · rw [e2]; rfl
/-- a row of flows that came in -/
structure RowF (w : World) (a : Option Addr) (len cap : Nat) (es : List Fl) : Prop where
  num : es.length = len
  room : len ≤ cap
  wf : ∀ e ∈ es, e.wf
  reads : Reads w a (encF es)
theorem flows_of_trod {H : Type} {enc : TypeId × Value → H} {W : World} {a : Option Addr} {len cap : Nat} {d : DataW H} {p : List MemPlace} (h : DataW.Trod enc Try.prog W 0 (fun _ => true) true 22 (.slice a len cap) d p) : ∃ es, RowF W a len cap es := by
  obtain ⟨l, h1, h2, h3, h4⟩ := row3_of_trod (k0 := .u8) (k1 := .u8) (k2 := .i64) Try.underlying22 Try.underlying32 (by kernel_rfl) Try.underlying30 Try.underlying30 Try.underlying2 (by kernel_rfl) (by kernel_rfl) (by kernel_rfl) rfl rfl rfl h
  have hle : (l.map fun y => (⟨y.1.toNat, y.2.1.toNat, y.2.2⟩ : Fl)).length = len := by rw [List.length_map, h1]
  rcases h4 with ⟨rfl, h0⟩ | ⟨x, rfl, hall⟩
  · subst h0
    have : l = [] := List.eq_nil_of_length_eq_zero h1
    subst this
    exact ⟨[], rfl, h2, by simp, Reads.nil⟩
  · have hwf : ∀ e ∈ (l.map fun y => (⟨y.1.toNat, y.2.1.toNat, y.2.2⟩ : Fl)), e.wf := by
      intro e he
      obtain ⟨y, hy, rfl⟩ := List.mem_map.1 he
      obtain ⟨i, hi⟩ := List.getElem?_of_mem hy
      obtain ⟨_, w0, w1, w2⟩ := hall i y hi
      have := wf_u8 w0; have := wf_u8 w1; have := wf_i64 w2
      unfold Fl.wf
      simp only
      omega
    refine ⟨_, hle, h2, hwf, reads3 _ len (by rw [encF_len, hle]) fun i hi j hj => ?_⟩
    have hy : l[i]? = some (l[i]'(by omega)) := List.getElem?_eq_getElem (by omega)
    obtain ⟨⟨e0, e1, e2⟩, w0, w1, _⟩ := hall i _ hy
    have b0 := wf_u8 w0
    have b1 := wf_u8 w1
    rw [encF_at _ i ⟨(l[i]'(by omega)).1.toNat, (l[i]'(by omega)).2.1.toNat, (l[i]'(by omega)).2.2⟩ (by rw [List.getElem?_map, hy]; rfl) j hj]
    have : j = 0 ∨ j = 1 ∨ j = 2 := by omega
    rcases this with rfl | rfl | rfl
    · rw [e0]; show _ = some (Value.int .u8 (((l[i]'(by omega)).1.toNat : Nat) : Int)); rw [Int.toNat_of_nonneg b0.1]
    · rw [e1]; show _ = some (Value.int .u8 (((l[i]'(by omega)).2.1.toNat : Nat) : Int)); rw [Int.toNat_of_nonneg b1.1]
    · rw [e2]; rfl
end Go.Proofs.Ytjopmkfpghdlpaa.A

