/-
  Flows and graphs, as they lie in memory; graphs.may, there, Cap.
-/
import Derived.Test.YtjopmkfpghdlpaaQ2
import Derived.IntWalk
namespace Go.Proofs.Ytjopmkfpghdlpaa.A
set_option linter.unusedVariables false
set_option linter.unusedSimpArgs false
open Go.RowKit

/-- so much from one to another -/
structure Fl where
  f : Nat
  t : Nat
  n : Int
def encW (x : Fl) : Array Value := #[.int .u8 (x.f : Int), .int .u8 (x.t : Int), .int .i64 x.n]
def encF (fs : List Fl) : List Value := fs.flatMap fun x => [.int .u8 (x.f : Int), .int .u8 (x.t : Int), .int .i64 x.n]
theorem encF_cons (e : Fl) (es : List Fl) : encF (e :: es) = .int .u8 (e.f : Int) :: .int .u8 (e.t : Int) :: .int .i64 e.n :: encF es := rfl
theorem encF_len (es : List Fl) : (encF es).length = es.length * 3 := by
  induction es with
  | nil => rfl
  | cons e es ih => rw [encF_cons, List.length_cons, List.length_cons, List.length_cons, ih, List.length_cons]; omega
theorem encF_append (a b : List Fl) : encF (a ++ b) = encF a ++ encF b := List.flatMap_append
theorem encF_one (es : List Fl) : ∀ u ∈ encF es, u.oneCell' = true := by
  induction es with
  | nil => simp [encF]
  | cons e es ih =>
    intro u hu
    rw [encF_cons] at hu
    simp only [List.mem_cons] at hu
    rcases hu with rfl | rfl | rfl | hu
    · rfl
    · rfl
    · rfl
    · exact ih u hu
theorem encF_at (es : List Fl) : ∀ (k : Nat) (e : Fl), es[k]? = some e → ∀ j, j < 3 → (encF es)[k * 3 + j]? = (encW e)[j]? := by
  induction es with
  | nil => intro k e h; simp at h
  | cons x es ih =>
    intro k e h j hj
    rw [encF_cons]
    cases k with
    | zero =>
      simp at h
      subst h
      have : j = 0 ∨ j = 1 ∨ j = 2 := by omega
      rcases this with rfl | rfl | rfl <;> rfl
    | succ k =>
      simp at h
      rw [show (k + 1) * 3 + j = (k * 3 + j) + 1 + 1 + 1 by omega]
      simp only [List.getElem?_cons_succ]
      exact ih k e h j hj
def Fl.wf (e : Fl) : Prop := e.f < 256 ∧ e.t < 256 ∧ -9223372036854775808 ≤ e.n ∧ e.n ≤ 9223372036854775807
/-- flows that are read behind an address -/
structure Flows (w : World) (A : Option Addr) (es : List Fl) : Prop where
  reads : Reads w A (encF es)
  wf : ∀ e ∈ es, e.wf
  len : (es.length : Int) ≤ 1099511627776
theorem Flows.below {w w1 : World} {A : Option Addr} {es : List Fl} (h : Flows w A es) (hb : Below w.heap.size w w1) : Flows w1 A es := ⟨h.reads.below hb, h.wf, h.len⟩
theorem Flows.get {w : World} {A : Option Addr} {es : List Fl} (h : Flows w A es) (k : Nat) (hk : k < es.length) : ∃ g off e, A = some ⟨g, off, none⟩ ∧ es[k]? = some e ∧ e.wf ∧ ∀ j, j < (encW e).size → w.cell? ⟨g, off + k * 3 + j, none⟩ = (encW e)[j]? := by
  have hx : es[k]? = some es[k] := List.getElem?_eq_getElem hk
  obtain ⟨g, off, e, _⟩ := h.reads.at_cell (k * 3 + 0) (.int .u8 (es[k].f : Int)) (by rw [encF_at es k es[k] hx 0 (by omega)]; rfl)
  refine ⟨g, off, es[k], e, hx, h.wf _ (List.getElem_mem hk), fun j hj => ?_⟩
  have hj3 : j < 3 := hj
  have h1 : (encW es[k])[j]? = some (encW es[k])[j] := Array.getElem?_eq_getElem hj
  obtain ⟨g', off', e', hc⟩ := h.reads.at_cell (k * 3 + j) (encW es[k])[j] (by rw [encF_at es k es[k] hx j hj3]; exact h1)
  rw [e] at e'
  cases e'
  rw [h1, Nat.add_assoc]
  exact hc
theorem info32s : (Try.prog.info? 32).map (·.size) = some 3 := by kernel_rfl
theorem info32 : (Try.prog.info? 32).map (fun i => (i.zero, i.size, i.bytes)) = some (some (.agg #[.int .u8 0, .int .u8 0, .int .i64 0]), 3, 16) := by kernel_rfl
theorem zero32 : (Try.prog.info? 32).bind (·.zero) = some (.agg #[.int .u8 0, .int .u8 0, .int .i64 0]) := by kernel_rfl
theorem encW_one (e : Fl) : ∀ v ∈ (encW e).toList, v.oneCell' = true := by
  intro v hv
  simp [encW] at hv
  rcases hv with rfl | rfl | rfl <;> rfl

/-- a graph, as it lies in memory: a row of capacities for each party, and that it is there -/
def grV (cp : List Int) : Array Value := ((cp.map fun (d : Int) => Value.int .i64 d) ++ [Value.bool true]).toArray
theorem grV_at (cp : List Int) (i : Nat) (h : i < cp.length) : (grV cp)[i]? = some (.int .i64 (gi cp i)) := by
  unfold grV gi
  rw [List.getElem?_toArray, List.getElem?_append_left (by simpa using h), List.getElem?_map]
  simp [List.getD_eq_getElem?_getD, h]
theorem grV_made (cp : List Int) (hl : cp.length = 289) : (grV cp)[289]? = some (.bool true) := by
  unfold grV
  rw [List.getElem?_toArray, List.getElem?_append_right (by simp; omega)]
  simp [hl]
theorem grV_set (cp : List Int) (i : Nat) (x : Int) (h : i < cp.length) : (grV cp).setIfInBounds i (.int .i64 x) = grV (cp.set i x) := by
  unfold grV
  rw [List.setIfInBounds_toArray, List.set_append_left _ _ (by simpa using h), List.map_set]
/-- how much may go -/
def capF (cp : List Int) (a b : Nat) : Int := if okp a && okp b then gi cp (a * 17 + b) else 0
/-- a graph, or none -/
def GrAt (w : World) (G : Option Addr) (cp : List Int) : Prop := cp.length = 289 ∧ ((G = none ∧ cp = List.replicate 289 0) ∨ ∃ g, G = some ⟨g, 0, none⟩ ∧ w.heap[g]? = some (.cells (grV cp) 98 (0, 0)))
theorem GrAt.below {w w1 : World} {G : Option Addr} {cp : List Int} (h : GrAt w G cp) (hb : Below w.heap.size w w1) : GrAt w1 G cp := by
  refine ⟨h.1, ?_⟩
  rcases h.2 with h | ⟨g, h1, h2⟩
  · exact .inl h
  · exact .inr ⟨g, h1, blk_below h2 hb⟩

set_option maxHeartbeats 1000000 in
theorem gmay (p : Nat) (w : World) : Calls Try.prog 51 #[.int .u8 (p : Int)] w fun e w' => e = .returned (.bool (okp p)) ∧ w = w' := by
  have H := AsideA.mk (show okp p = decide (1 ≤ p ∧ p ≤ 16) from rfl)
  by_cases h1 : 1 ≤ p
  · by_cases h2 : p < 17
    · have d1 : decide ((1 : Int) ≤ (p : Int)) = true := decide_eq_true (by omega)
      have d2 : decide ((p : Int) ≤ 16) = true := decide_eq_true (by omega)
      have R : AsideA (okp p = true) := ⟨by rw [H.out]; exact decide_eq_true (by omega)⟩
      go_enter Try.func51, Try.ntmps51
      go_wp2
      go_ret
      exact ⟨by rw [R.out]; rfl, rfl⟩
    · have d1 : decide ((1 : Int) ≤ (p : Int)) = true := decide_eq_true (by omega)
      have d2 : decide ((p : Int) ≤ 16) = false := decide_eq_false (by omega)
      have R : AsideA (okp p = false) := ⟨by rw [H.out]; exact decide_eq_false (by omega)⟩
      go_enter Try.func51, Try.ntmps51
      go_wp2
      go_ret
      exact ⟨by rw [R.out]; rfl, rfl⟩
  · have d1 : decide ((1 : Int) ≤ (p : Int)) = false := decide_eq_false (by omega)
    have R : AsideA (okp p = false) := ⟨by rw [H.out]; exact decide_eq_false (by omega)⟩
    go_enter Try.func51, Try.ntmps51
    go_wp2
    go_ret
    exact ⟨by rw [R.out]; rfl, rfl⟩
theorem there_none (w : World) : Calls Try.prog 53 #[.pointer none] w fun e w' => e = .returned (.bool false) ∧ w = w' := by
  go_enter Try.func53, Try.ntmps53
  go_wp2
  go_ret
  exact ⟨rfl, rfl⟩
theorem there_some (g : Nat) (w : World) (hc : w.cell? ⟨g, 289, none⟩ = some (.bool true)) : Calls Try.prog 53 #[.pointer (some ⟨g, 0, none⟩)] w fun e w' => e = .returned (.bool true) ∧ w = w' := by
  go_enter Try.func53, Try.ntmps53
  go_wp2
  go_ret
  exact ⟨rfl, rfl⟩

set_option maxHeartbeats 2000000 in
set_option maxRecDepth 100000 in
theorem xcap (G : Option Addr) (cp : List Int) (a b : Nat) (w : World) (H : GrAt w G cp) : Calls Try.prog 25 #[.pointer G, .int .u8 (a : Int), .int .u8 (b : Int)] w fun e w' => e = .returned (.int .i64 (capF cp a b)) ∧ w = w' := by
  have HC := AsideA.mk (show capF cp a b = if okp a && okp b then gi cp (a * 17 + b) else 0 from rfl)
  rcases H.2 with ⟨rfl, h0⟩ | ⟨g, rfl, hb⟩
  · have R : AsideA (capF cp a b = 0) := ⟨by
      rw [HC.out, h0]
      have : gi (List.replicate 289 0) (a * 17 + b) = 0 := by
        unfold gi
        simp only [List.getD_eq_getElem?_getD, List.getElem?_replicate]
        split <;> rfl
      rw [this]; split <;> rfl⟩
    have CT := AsideA.mk (there_none w)
    clear H h0
    go_enter Try.func25, Try.ntmps25
    go_wp2_with (go_at_call 53; refine CT.out.mono ?_; rintro e w' ⟨rfl, rfl⟩)
    go_ret
    exact ⟨by rw [R.out]; rfl, rfl⟩
  · have CT := AsideA.mk (there_some g w ((blk_cell hb 289).trans (grV_made cp H.1)))
    have CA := AsideA.mk (gmay a w)
    have CB := AsideA.mk (gmay b w)
    cases ha : okp a with
    | false =>
      have R : AsideA (capF cp a b = 0) := ⟨by rw [HC.out, ha]; rfl⟩
      rw [ha] at CA
      clear hb H ha
      go_enter Try.func25, Try.ntmps25
      go_wp2_with (first | (go_at_call 53; refine CT.out.mono ?_; rintro e w' ⟨rfl, rfl⟩) | (go_at_call 51; refine CA.out.mono ?_; rintro e w' ⟨rfl, rfl⟩))
      go_ret
      exact ⟨by rw [R.out]; rfl, rfl⟩
    | true =>
      cases hbb : okp b with
      | false =>
        have R : AsideA (capF cp a b = 0) := ⟨by rw [HC.out, ha, hbb]; rfl⟩
        rw [ha] at CA
        rw [hbb] at CB
        clear hb H ha hbb
        go_enter Try.func25, Try.ntmps25
        go_wp2_with (first | (go_at_call 53; refine CT.out.mono ?_; rintro e w' ⟨rfl, rfl⟩) | (go_at_call 51; (with_reducible refine CA.out.mono ?_); rintro e w' ⟨rfl, rfl⟩) | (go_at_call 51; (with_reducible refine CB.out.mono ?_); rintro e w' ⟨rfl, rfl⟩))
        go_ret
        exact ⟨by rw [R.out]; rfl, rfl⟩
      | true =>
        have R : AsideA (capF cp a b = gi cp (a * 17 + b)) := ⟨by rw [HC.out, ha, hbb]; rfl⟩
        have ka : 1 ≤ a ∧ a ≤ 16 := of_decide_eq_true ha
        have kb : 1 ≤ b ∧ b ≤ 16 := of_decide_eq_true hbb
        have hc := (blk_cell hb (a * 17 + b)).trans (grV_at cp (a * 17 + b) (by rw [H.1]; omega))
        have a0 : (0 : Int) ≤ (a : Int) := by omega
        have a1 : (a : Int) < 17 := by omega
        have b0 : (0 : Int) ≤ (b : Int) := by omega
        have b1 : (b : Int) < 17 := by omega
        rw [ha] at CA
        rw [hbb] at CB
        generalize gi cp (a * 17 + b) = v at *
        clear hb H ha hbb ka kb
        go_enter Try.func25, Try.ntmps25
        go_wp2_with (first | (go_at_call 53; refine CT.out.mono ?_; rintro e w' ⟨rfl, rfl⟩) | (go_at_call 51; (with_reducible refine CA.out.mono ?_); rintro e w' ⟨rfl, rfl⟩) | (go_at_call 51; (with_reducible refine CB.out.mono ?_); rintro e w' ⟨rfl, rfl⟩))
        go_ret
        exact ⟨by rw [R.out]; rfl, rfl⟩
end Go.Proofs.Ytjopmkfpghdlpaa.A

