/-
  Words for the lists of this program: parties, edges; blocks that are read.
-/
import Derived.Test.YtjopmkfpghdlpaaProg
import Derived.Test.YtjopmkfpghdlpaaOw
import Derived.Test.YtjopmkfpghdlpaaReg4
import Derived.Test.YtjopmkfpghdlpaaP0
import Derived.KernelRfl
import Derived.Outline
import Derived.BigQuiet
import Derived.Deep.QuietTactic
namespace Go.Proofs.Ytjopmkfpghdlpaa.A
set_option linter.unusedVariables false
set_option linter.unusedSimpArgs false
open Go.RowKit

theorem follows : Try.prog.follows .mixedOrders = true := by kernel_rfl

def enc8 (bs : List Nat) : List Value := bs.map fun (b : Nat) => Value.int .u8 (b : Int)
theorem Reads.at_cell {w : World} {A : Option Addr} {vs : List Value} (h : Reads w A vs) (k : Nat) (v : Value) (hk : vs[k]? = some v) : ∃ g off, A = some ⟨g, off, none⟩ ∧ w.cell? ⟨g, off + k, none⟩ = some v := by
  rcases h with h | ⟨ad, rfl, h⟩
  · rw [h] at hk; simp at hk
  · have hh := h k _ hk
    obtain ⟨g, off, sp⟩ := ad
    cases sp with
    | none => exact ⟨g, off, rfl, by rw [← add_none]; exact hh⟩
    | some s =>
      exfalso
      have hlt := (List.getElem?_eq_some_iff.1 hk).1
      obtain ⟨u, hu⟩ : ∃ u, vs[0]? = some u := ⟨vs[0], List.getElem?_eq_getElem (by omega)⟩
      have h0 := h 0 _ hu
      unfold World.cell? at h0
      split at h0 <;> simp_all [Addr.add]
/-- all cells behind one address -/
theorem Reads.split {w : World} {A : Option Addr} {vs : List Value} (h : Reads w A vs) (h0 : vs ≠ []) : ∃ g off, A = some ⟨g, off, none⟩ ∧ ∀ k v, vs[k]? = some v → w.cell? ⟨g, off + k, none⟩ = some v := by
  obtain ⟨v, r, rfl⟩ : ∃ v r, vs = v :: r := by cases vs with | nil => exact absurd rfl h0 | cons v r => exact ⟨v, r, rfl⟩
  obtain ⟨g, off, rfl, _⟩ := h.at_cell 0 v rfl
  refine ⟨g, off, rfl, fun k v hk => ?_⟩
  obtain ⟨g', off', e, hc⟩ := h.at_cell k v hk
  cases e
  exact hc
theorem enc8_len (bs : List Nat) : (enc8 bs).length = bs.length := List.length_map _
theorem enc8_one (bs : List Nat) : ∀ u ∈ enc8 bs, u.oneCell' = true := by
  intro u hu
  obtain ⟨x, _, rfl⟩ := List.mem_map.1 hu
  rfl
theorem enc8_append (a b : List Nat) : enc8 (a ++ b) = enc8 a ++ enc8 b := List.map_append
theorem enc8_at (bs : List Nat) (k x : Nat) (h : bs[k]? = some x) : (enc8 bs)[k]? = some (.int .u8 (x : Int)) := by
  unfold enc8
  rw [List.getElem?_map, h]
  rfl

/-- parties that are read behind an address -/
structure Bytes (w : World) (A : Option Addr) (bs : List Nat) : Prop where
  reads : Reads w A (enc8 bs)
  small : ∀ b ∈ bs, b < 256
  len : (bs.length : Int) ≤ 1099511627776
theorem Bytes.below {w w1 : World} {A : Option Addr} {bs : List Nat} (h : Bytes w A bs) (hb : Below w.heap.size w w1) : Bytes w1 A bs := ⟨h.reads.below hb, h.small, h.len⟩
theorem Bytes.get {w : World} {A : Option Addr} {bs : List Nat} (h : Bytes w A bs) (k : Nat) (hk : k < bs.length) : ∃ g off, ∃ x : Nat, A = some ⟨g, off, none⟩ ∧ w.cell? ⟨g, off + k, none⟩ = some (.int .u8 (x : Int)) ∧ x < 256 ∧ bs[k]? = some x := by
  obtain ⟨g, off, e, hc⟩ := h.reads.at_cell k _ (enc8_at bs k bs[k] (List.getElem?_eq_getElem hk))
  exact ⟨g, off, bs[k], e, hc, h.small _ (List.getElem_mem hk), List.getElem?_eq_getElem hk⟩
theorem Bytes.of_block {w : World} {g : Nat} {bs : List Nat} {tail : List Value} (h : w.heap[g]? = some (.cells (enc8 bs ++ tail).toArray 30 (0, 0))) (hs : ∀ b ∈ bs, b < 256) (hl : (bs.length : Int) ≤ 1099511627776) : Bytes w (some ⟨g, 0, none⟩) bs :=
  ⟨Reads.of_block h _ (fun j u hu => by
    rw [Nat.zero_add, List.getElem?_toArray, List.getElem?_append_left (List.getElem?_eq_some_iff.1 hu).1]
    exact hu), hs, hl⟩
theorem Bytes.nil (w : World) (A : Option Addr) : Bytes w A [] := ⟨Reads.nil, by simp, by simp⟩
theorem info30 : (Try.prog.info? 30).map (fun i => (i.zero, i.size, i.bytes)) = some (some (.int .u8 0), 1, 1) := by kernel_rfl
theorem info30s : (Try.prog.info? 30).map (·.size) = some 1 := by kernel_rfl

/-- an edge, as it lies in memory -/
def encV (e : Ed) : Array Value := #[.int .u8 (e.f : Int), .int .u8 (e.t : Int), .int .i8 e.c]
def encE (es : List Ed) : List Value := es.flatMap fun e => [.int .u8 (e.f : Int), .int .u8 (e.t : Int), .int .i8 e.c]
theorem encE_cons (e : Ed) (es : List Ed) : encE (e :: es) = .int .u8 (e.f : Int) :: .int .u8 (e.t : Int) :: .int .i8 e.c :: encE es := rfl
theorem encE_len (es : List Ed) : (encE es).length = es.length * 3 := by
  induction es with
  | nil => rfl
  | cons e es ih => rw [encE_cons, List.length_cons, List.length_cons, List.length_cons, ih, List.length_cons]; omega
theorem encE_append (a b : List Ed) : encE (a ++ b) = encE a ++ encE b := List.flatMap_append
theorem encE_one (es : List Ed) : ∀ u ∈ encE es, u.oneCell' = true := by
  induction es with
  | nil => simp [encE]
  | cons e es ih =>
    intro u hu
    rw [encE_cons] at hu
    simp only [List.mem_cons] at hu
    rcases hu with rfl | rfl | rfl | hu
    · rfl
    · rfl
    · rfl
    · exact ih u hu
theorem encE_at (es : List Ed) : ∀ (k : Nat) (e : Ed), es[k]? = some e → ∀ j, j < 3 → (encE es)[k * 3 + j]? = (encV e)[j]? := by
  induction es with
  | nil => intro k e h; simp at h
  | cons x es ih =>
    intro k e h j hj
    rw [encE_cons]
    cases k with
    | zero =>
      simp at h
      subst h
      have : j = 0 ∨ j = 1 ∨ j = 2 := by omega
      rcases this with rfl | rfl | rfl <;> rfl
    | succ k =>
      simp at h
      rw [show (k + 1) * 3 + j = (k * 3 + j) + 1 + 1 + 1 by omega]
      simp only [List.getElem?_cons_succ]
      exact ih k e h j hj
def Ed.wf (e : Ed) : Prop := e.f < 256 ∧ e.t < 256 ∧ -128 ≤ e.c ∧ e.c ≤ 127
/-- edges that are read behind an address -/
structure Edges (w : World) (A : Option Addr) (es : List Ed) : Prop where
  reads : Reads w A (encE es)
  wf : ∀ e ∈ es, e.wf
  len : (es.length : Int) ≤ 1099511627776
theorem Edges.below {w w1 : World} {A : Option Addr} {es : List Ed} (h : Edges w A es) (hb : Below w.heap.size w w1) : Edges w1 A es := ⟨h.reads.below hb, h.wf, h.len⟩
theorem Edges.get {w : World} {A : Option Addr} {es : List Ed} (h : Edges w A es) (k : Nat) (hk : k < es.length) : ∃ g off e, A = some ⟨g, off, none⟩ ∧ es[k]? = some e ∧ e.wf ∧ ∀ j, j < (encV e).size → w.cell? ⟨g, off + k * 3 + j, none⟩ = (encV e)[j]? := by
  have hx : es[k]? = some es[k] := List.getElem?_eq_getElem hk
  obtain ⟨g, off, e, _⟩ := h.reads.at_cell (k * 3 + 0) (.int .u8 (es[k].f : Int)) (by rw [encE_at es k es[k] hx 0 (by omega)]; rfl)
  refine ⟨g, off, es[k], e, hx, h.wf _ (List.getElem_mem hk), fun j hj => ?_⟩
  have hj3 : j < 3 := hj
  have h1 : (encV es[k])[j]? = some (encV es[k])[j] := Array.getElem?_eq_getElem hj
  obtain ⟨g', off', e', hc⟩ := h.reads.at_cell (k * 3 + j) (encV es[k])[j] (by rw [encE_at es k es[k] hx j hj3]; exact h1)
  rw [e] at e'
  cases e'
  rw [h1, Nat.add_assoc]
  exact hc
theorem info35s : (Try.prog.info? 35).map (·.size) = some 3 := by kernel_rfl
theorem zero35 : (Try.prog.info? 35).bind (·.zero) = some (.agg #[.int .u8 0, .int .u8 0, .int .i8 0]) := by kernel_rfl
theorem encV_one (e : Ed) : ∀ v ∈ (encV e).toList, v.oneCell' = true := by
  intro v hv
  simp [encV] at hv
  rcases hv with rfl | rfl | rfl <;> rfl

/-- the search, as it lies in memory -/
def srch (s : St) : Array Value := ((s.d.map fun (d : Int) => Value.int .i64 d) ++ enc8 s.a).toArray
theorem srch_d (s : St) (i : Nat) (hl : s.d.length = 17) (hi : i < 17) : (srch s)[i]? = some (.int .i64 (gi s.d i)) := by
  unfold srch gi
  rw [List.getElem?_toArray, List.getElem?_append_left (by simp; omega), List.getElem?_map]
  simp [List.getD_eq_getElem?_getD, List.getElem?_eq_getElem (show i < s.d.length by omega)]
theorem srch_a (s : St) (i : Nat) (hl : s.d.length = 17) (ha : s.a.length = 17) (hi : i < 17) : (srch s)[17 + i]? = some (.int .u8 (gn s.a i : Int)) := by
  unfold srch gn
  rw [List.getElem?_toArray, List.getElem?_append_right (by simp; omega)]
  simp only [List.length_map, hl, Nat.add_sub_cancel_left]
  rw [enc8_at s.a i s.a[i] (List.getElem?_eq_getElem (by omega))]
  simp [List.getD_eq_getElem?_getD, List.getElem?_eq_getElem (show i < s.a.length by omega)]
theorem srch_set_d (s : St) (i : Nat) (x : Int) (hl : s.d.length = 17) (hi : i < 17) : (srch s).setIfInBounds i (.int .i64 x) = srch { s with d := s.d.set i x } := by
  unfold srch
  rw [List.setIfInBounds_toArray, List.set_append_left _ _ (by simp; omega), List.map_set]
theorem srch_set_a (s : St) (i x : Nat) (hl : s.d.length = 17) (hi : i < 17) : (srch s).setIfInBounds (17 + i) (.int .u8 (x : Int)) = srch { s with a := s.a.set i x } := by
  unfold srch enc8
  rw [List.setIfInBounds_toArray, List.set_append_right _ _ (by simp; omega)]
  simp only [List.length_map, hl, Nat.add_sub_cancel_left, List.map_set]

theorem own_form {w : World} {base n size : Nat} {e : TypeId} {v : Value} {xs : List Value} (h : w.ownsRow base e size v n xs) : ∃ A c, v = .slice A n c := by
  rcases h.2 with ⟨rfl, rfl⟩ | ⟨g, cap, cur, rfl, _⟩
  · exact ⟨none, 0, rfl⟩
  · exact ⟨_, _, rfl⟩
theorem below_drewN (w : World) (m : Nat) : Below w.heap.size w (w.drewN m) := ⟨rfl, rfl, rfl, Nat.le_refl _, fun _ _ => rfl⟩
/-- one block may be written; all others are as they were, some are new -/
theorem grown_below {W w w1 : World} {g : Nat} (h : W.grownBy w (some g)) (hb : Below w.heap.size w w1) : W.grownBy w1 (some g) := by
  have hs : W.heap.size ≤ w.heap.size := h.size
  refine ⟨hb.os.trans h.os, hb.tape.trans h.tape, hb.output.trans h.output, Nat.le_trans hs hb.size, fun k hk hne => ?_⟩
  rw [hb.block k (by omega)]
  exact h.block k hk hne
theorem grown_upd {W w w1 : World} {g : Nat} (h : W.grownBy w (some g)) (hu : Upd w w1 g) : W.grownBy w1 (some g) := by
  refine ⟨hu.os.trans h.os, hu.tape.trans h.tape, hu.output.trans h.output, by rw [hu.size]; exact h.size, fun k hk hne => ?_⟩
  rw [hu.other k (by rintro rfl; exact hne rfl)]
  exact h.block k hk hne
theorem grown_trans {W w w1 : World} {g : Nat} (h : W.grownBy w (some g)) (k : w.grownBy w1 (some g)) : W.grownBy w1 (some g) :=
  ⟨k.os.trans h.os, k.tape.trans h.tape, k.output.trans h.output, Nat.le_trans h.size k.size, fun j hj hne => (k.block j (Nat.lt_of_lt_of_le hj h.size) hne).trans (h.block j hj hne)⟩
theorem grown_reads {W w : World} {g : Nat} (h : W.grownBy w (some g)) {t : TypeId} {cs : Array Value} {A : Option Addr} {vs : List Value} (hr : Reads W A vs) (hne : ∀ a, A = some a → vs ≠ [] → a.block ≠ g) : Reads w A vs := by
  rcases hr with h0 | ⟨ad, rfl, hr⟩
  · exact .inl h0
  · refine .inr ⟨ad, rfl, fun j u hu => ?_⟩
    have h1 := hr j u hu
    have hk : (ad.add j).block < W.heap.size := by
      unfold World.cell? at h1
      split at h1
      · rename_i hh
        exact blk_lt hh
      · cases h1
    have hb : (ad.add j).block = ad.block := by unfold Addr.add; split <;> rfl
    have hn : (ad.add j).block ≠ g := by rw [hb]; exact hne ad rfl (fun e => by rw [e] at hu; simp at hu)
    rw [← h1]
    unfold World.cell?
    rw [h.block _ hk (fun e => hn (Option.some.inj e))]
end Go.Proofs.Ytjopmkfpghdlpaa.A

