/-
  Laws of my own for a walk: a new block by 'box' or 'alloc', a whole array read or written inside a block. Over any program.
-/
import Derived.Below
import Derived.WalkKit
import Derived.Laws.Rows
import Derived.Laws.Tables
namespace Go.Proofs.Ytjopmkfpghdlpaa.A
set_option linter.unusedVariables false
set_option linter.unusedSimpArgs false
open Go.RowKit

/-- a fact that the walk's simp doesn't look into -/
structure AsideA (p : Prop) : Prop where mk :: (out : p)

/-- a new block g behind W -/
structure New (W w1 : World) (g : Nat) (cs : Array Value) (t : TypeId) : Prop where
  at_ : g = W.heap.size
  size : w1.heap.size = W.heap.size + 1
  blk : w1.heap[g]? = some (.cells cs t (0, 0))
  below : Below W.heap.size W w1

theorem New.alloc (W : World) (cs : Array Value) (t : TypeId) : New W (W.alloc (.cells cs t (0, 0))) W.heap.size cs t :=
  ⟨rfl, by simp, heap_alloc_new W _, (Below.refl _ _).alloc (Nat.le_refl _) _⟩

/-- only block g was written -/
structure Upd (W w1 : World) (g : Nat) : Prop where
  os : w1.os = W.os
  tape : w1.tape = W.tape
  output : w1.output = W.output
  size : w1.heap.size = W.heap.size
  other : ∀ k, k ≠ g → w1.heap[k]? = W.heap[k]?

theorem Upd.below {W w1 : World} {g : Nat} (h : Upd W w1 g) {w : World} {B : Nat} (hb : Below B w W) (hg : B ≤ g) : Below B w w1 :=
  hb.trans ⟨h.os, h.tape, h.output, by rw [h.size]; exact Nat.le_refl _, fun k hk => h.other k (by omega)⟩

theorem Upd.setRow (W : World) (g : Nat) (cs : Array Value) : Upd W (W.setRow g cs) g :=
  ⟨rfl, rfl, rfl, by simp [World.setRow], fun k hk => by simp only [World.setRow, Array.getElem?_modify]; rw [if_neg (by omega)]⟩
theorem Upd.setCell (W : World) (g j : Nat) (v : Value) : Upd W (W.setCell ⟨g, j, none⟩ v) g :=
  ⟨rfl, rfl, rfl, by simp [World.setCell], fun k hk => Below.heap_setCell W _ _ k hk⟩

theorem blk_upd {W w1 : World} {g k : Nat} (h : Upd W w1 g) {o : Obj} (hk : W.heap[k]? = some o) (hne : k ≠ g) : w1.heap[k]? = some o := (h.other k hne).trans hk
theorem blk_lt {w : World} {g : Nat} {o : Obj} (h : w.heap[g]? = some o) : g < w.heap.size := (Array.getElem?_eq_some_iff.1 h).1
theorem blk_below {w w1 : World} {g : Nat} {o : Obj} (h : w.heap[g]? = some o) (hb : Below w.heap.size w w1) : w1.heap[g]? = some o := (hb.block g (blk_lt h)).trans h
theorem blk_cell {w : World} {g : Nat} {t : TypeId} {cs : Array Value} (h : w.heap[g]? = some (.cells cs t (0, 0))) (i : Nat) : w.cell? ⟨g, i, none⟩ = cs[i]? := cell_of_row w g i cs t (0, 0) h
theorem blk_at0 {w : World} {g : Nat} {t : TypeId} {cs : Array Value} (h : w.heap[g]? = some (.cells cs t (0, 0))) : ∀ j, j < cs.size → w.cell? ⟨g, 0 + j, none⟩ = cs[j]? := fun j _ => by rw [Nat.zero_add]; exact blk_cell h j
theorem blk_frozen {w : World} {g : Nat} {t : TypeId} {cs : Array Value} (h : w.heap[g]? = some (.cells cs t (0, 0))) (i : Nat) : w.frozen? ⟨g, i, none⟩ = false := by simp [World.frozen?, h]
theorem blk_set {w : World} {g : Nat} {t : TypeId} {cs : Array Value} (h : w.heap[g]? = some (.cells cs t (0, 0))) (i : Nat) (u : Value) : (w.setCell ⟨g, i, none⟩ u).heap[g]? = some (.cells (cs.setIfInBounds i u) t (0, 0)) := by
  simp [World.setCell, Array.getElem?_modify, h]
theorem blk_set_other {w : World} {g k : Nat} {o : Obj} (h : w.heap[k]? = some o) (i : Nat) (u : Value) (hne : k ≠ g) : (w.setCell ⟨g, i, none⟩ u).heap[k]? = some o := (Below.heap_setCell w _ _ k hne).trans h
theorem below_call {w W w1 : World} (h : Below w.heap.size w W) (k : Below W.heap.size W w1) : Below w.heap.size w w1 :=
  h.trans (k.mono h.size)
theorem below_new {w W w1 : World} {g : Nat} {cs : Array Value} {t : TypeId} (h : Below w.heap.size w W) (k : New W w1 g cs t) : Below w.heap.size w w1 := below_call h k.below
theorem below_set {w W : World} {g j : Nat} {v : Value} (h : Below w.heap.size w W) (hg : w.heap.size ≤ g) : Below w.heap.size w (W.setCell ⟨g, j, none⟩ v) := h.setCell hg _
theorem New.ge {w W w1 : World} {g : Nat} {cs : Array Value} {t : TypeId} (k : New W w1 g cs t) (h : Below w.heap.size w W) : w.heap.size ≤ g := k.at_ ▸ h.size
theorem New.ne {W w1 : World} {g k : Nat} {cs : Array Value} {t : TypeId} (h : New W w1 g cs t) {o : Obj} (hk : W.heap[k]? = some o) : k ≠ g := by
  have := blk_lt hk; have := h.at_; omega
theorem add_none (g i j : Nat) : (⟨g, i, none⟩ : Addr).add j = ⟨g, i + j, none⟩ := by unfold Addr.add; split <;> simp_all

section
variable {P : Program} {ops : Array Oper} {rest : List Oper} {o : Oper} {a : Act} {Q : Exit → Act → World → Prop}

theorem ev_val {W w1 : World} {v : Value} (hgd : o.guard = none) (hrun : (execOp a.eval o).run P W = .ok (.value v) w1) (h : wpList P ops Q rest (a.put o.dst v) w1) : wpList P ops Q (o :: rest) a W := by
  refine wpList_plain hgd fun K hK => ?_
  unfold Oper.wp
  rw [hrun]
  exact hK _ _ h
theorem ev_skip {W w1 : World} (hgd : o.guard = none) (hrun : (execOp a.eval o).run P W = .ok .skip w1) (h : wpList P ops Q rest (a.put o.dst undef) w1) : wpList P ops Q (o :: rest) a W := by
  refine wpList_plain hgd fun K hK => ?_
  unfold Oper.wp
  rw [hrun]
  exact hK _ _ h

theorem ev_guarded {W w1 : World} {v : Value} (hw : Region.wanted o (yielded ops a.tmps) = true) (hrun : (execOp a.eval o).run P W = .ok (.value v) w1) (h : wpList P ops Q rest (a.put o.dst v) w1) : wpList P ops Q (o :: rest) a W := by
  refine wpList_step fun K hK => ?_
  rw [if_pos hw]
  unfold Oper.wp
  rw [hrun]
  exact hK _ _ h
/-- picks the operation that writes slot N -/
theorem gate {W : World} {N : Tmp} (_hN : o.dst = some N) (h : wpList P ops Q (o :: rest) a W) : wpList P ops Q (o :: rest) a W := h
theorem box_new {W : World} (t : TypeId) (x : Operand) (ho : o.op = .box t x) (hgd : o.guard = none) (v : Value) (hx : a.eval x = v) (cs : Array Value) (hv : v.cells = cs)
    (h : ∀ g w1, New W w1 g cs t → wpList P ops Q rest (a.put o.dst (.pointer (some ⟨g, 0, none⟩))) w1) : wpList P ops Q (o :: rest) a W := by
  refine ev_val hgd ?_ (h _ _ (New.alloc W cs t))
  unfold execOp
  simp only [ho, hx, Instr.box, newVar, newRow, hv]
  simp [Sem.run_bind]

theorem build_to {W : World} (t : TypeId) (parts : Array (Nat × Operand)) (ho : o.op = .build t parts) (hgd : o.guard = none) (cs : Array Value) (hb : P.built t (parts.map fun (i, x) => (i, a.eval x)).toList = some cs)
    (h : wpList P ops Q rest (a.put o.dst (.agg cs)) W) : wpList P ops Q (o :: rest) a W :=
  wpList_build hgd t parts ho (by rw [hb]; rfl) (by rw [hb]; exact h)
theorem build_ps {W : World} (t : TypeId) (parts : Array (Nat × Operand)) (ho : o.op = .build t parts) (hgd : o.guard = none) (ps : List (Nat × Value)) (cs : Array Value) (hb : P.built t ps = some cs)
    (hps : (parts.map fun (i, x) => (i, a.eval x)).toList = ps) (h : wpList P ops Q rest (a.put o.dst (.agg cs)) W) : wpList P ops Q (o :: rest) a W :=
  build_to t parts ho hgd cs (hps ▸ hb) h
theorem alloc_new {W : World} (t : TypeId) (ho : o.op = .alloc t) (hgd : o.guard = none) (z : Value) (hz : (P.info? t).bind (·.zero) = some z) (cs : Array Value) (hv : z.cells = cs)
    (h : ∀ g w1, New W w1 g cs t → wpList P ops Q rest (a.put o.dst (.pointer (some ⟨g, 0, none⟩))) w1) : wpList P ops Q (o :: rest) a W := by
  refine ev_val hgd ?_ (h _ _ (New.alloc W cs t))
  unfold execOp
  cases hq : P.info? t with
  | none => simp [hq] at hz
  | some i =>
    have hzz : i.zero = some z := by simpa [hq] using hz
    simp only [ho, Instr.alloc, zeroValue, typeInfo, newVar, newRow]
    simp [Sem.run_bind, hq, hzz, newVar, newRow, hv]

theorem load_at {W : World} (t : TypeId) (x : Operand) (ho : o.op = .load t x) (hgd : o.guard = none) (g off : Nat) (hx : a.eval x = .pointer (some ⟨g, off, none⟩)) (vs : Array Value) (d : TypeDesc)
    (hu : P.underlying t = some d) (hd : (match d with | .struct _ | .array _ _ => true | _ => false) = true) (hi : (P.info? t).map (·.size) = some vs.size)
    (hc : ∀ j, j < vs.size → W.cell? ⟨g, off + j, none⟩ = vs[j]?)
    (h : wpList P ops Q rest (a.put o.dst (.agg vs)) W) : wpList P ops Q (o :: rest) a W := by
  refine ev_val hgd ?_ h
  have hl : (loadCells ⟨g, off, none⟩ vs.toList.length).run P W = .ok vs.toList.toArray W :=
    run_loadCells_list (P := P) W ⟨g, off, none⟩ vs.toList (fun j v hv => by
      have hj : j < vs.size := by
        have := (List.getElem?_eq_some_iff.1 hv).1
        simpa using this
      rw [add_none, hc j hj]
      simpa using hv)
  cases hq : P.info? t with
  | none => simp [hq] at hi
  | some i =>
    have hs : i.size = vs.size := by simpa [hq] using hi
    have hagg : (isAgg t).run P W = .ok true W := by
      unfold isAgg
      rw [Sem.run_bind, run_underlying hu W]
      cases d <;> simp_all
    simp only [Array.length_toList, Array.toArray_toList] at hl
    unfold execOp
    simp only [ho, hx, Instr.loadAt, Instr.sureAddr, loadVar]
    simp [Sem.run_bind, hagg, sizeOf, typeInfo, hq, hs, hl]

/-- vs laid over cs from off on -/
def splice (cs : Array Value) (off : Nat) (vs : Array Value) : Array Value := (cs.toList.take off ++ vs.toList ++ cs.toList.drop (off + vs.size)).toArray

theorem run_storeCells_at (g : Nat) (t : TypeId) (vs : List Value) : ∀ (off i : Nat) (cur : Array Value) (w : World), w.heap[g]? = some (.cells cur t (0, 0)) → off + i + vs.length ≤ cur.size → (∀ v ∈ vs, v.oneCell' = true) →
    ∃ w1, (storeCells ⟨g, off, none⟩ vs i).run P w = .ok () w1 ∧ Upd w w1 g ∧ w1.heap[g]? = some (.cells (cur.toList.take (off + i) ++ vs ++ cur.toList.drop (off + i + vs.length)).toArray t (0, 0)) := by
  induction vs with
  | nil =>
    intro off i cur w hg _ _
    refine ⟨w, by simp [storeCells], ⟨rfl, rfl, rfl, rfl, fun _ _ => rfl⟩, ?_⟩
    rw [hg]
    simp
  | cons v vs ih =>
    intro off i cur w hg hl h1
    have hv := h1 v (by simp)
    have hlt : off + i < cur.size := by simp at hl; omega
    have hc : w.cell? ⟨g, off + i, none⟩ = some cur[off + i] := by rw [blk_cell hg]; simp [hlt]
    have hf : w.frozen? ⟨g, off + i, none⟩ = false := blk_frozen hg _
    obtain ⟨w1, hr, hu, hb⟩ := ih off (i + 1) (cur.setIfInBounds (off + i) v) (w.setCell ⟨g, off + i, none⟩ v) (blk_set hg _ _) (by simp at hl ⊢; omega) (fun x hx => h1 x (by simp [hx]))
    refine ⟨w1, ?_, ?_, ?_⟩
    · simp only [storeCells, Sem.run_bind, add_none]
      rw [run_store P w ⟨g, off + i, none⟩ v .plain hv]
      simp [hc, hf, hr]
    · have hs := Upd.setCell w g (off + i) v
      exact ⟨hu.os.trans hs.os, hu.tape.trans hs.tape, hu.output.trans hs.output, hu.size.trans hs.size, fun k hk => (hu.other k hk).trans (hs.other k hk)⟩
    · rw [hb]
      congr 2
      apply congrArg List.toArray
      apply List.ext_getElem?
      intro k
      simp only [Array.toList_setIfInBounds, List.getElem?_append, List.length_append, List.length_take, List.length_drop, List.length_set, Array.length_toList, List.length_cons, List.getElem?_take, List.getElem?_drop, List.getElem?_set, List.getElem?_cons]
      have e1 : min (off + (i + 1)) cur.size = off + i + 1 := by omega
      have e2 : min (off + i) cur.size = off + i := by omega
      rw [e1, e2]
      by_cases c1 : k < off + i
      · rw [if_pos (by omega), if_pos (by omega), if_pos (by omega), if_neg (by omega), if_pos (by omega), if_pos (by omega), if_pos (by omega)]
      · by_cases c2 : k = off + i
        · subst c2
          rw [if_pos (by omega), if_pos (by omega), if_pos (by omega), if_pos rfl, if_pos (by simpa using hlt), if_pos (by omega), if_neg (by omega), if_pos (by omega)]
        · by_cases c3 : k < off + i + 1 + vs.length
          · rw [if_pos (by omega), if_neg (by omega), if_pos (by omega), if_neg (by omega), if_neg (by omega)]
            rw [show k - (off + i) - 1 = k - (off + i + 1) by omega]
          · rw [if_neg (by omega), if_neg (by omega), if_neg (by omega)]
            rw [show off + (i + 1) + vs.length + (k - (off + i + 1 + vs.length)) = off + i + (vs.length + 1) + (k - (off + i + (vs.length + 1))) by omega]

theorem set_step {α : Type} (l : List α) (v : α) (vs : List α) (n : Nat) (h : n < l.length) : (l.set n v).take (n + 1) ++ vs ++ (l.set n v).drop (n + 1 + vs.length) = l.take n ++ (v :: vs) ++ l.drop (n + (vs.length + 1)) := by
  have e1 : (l.set n v).take (n + 1) = l.take n ++ [v] := by
    rw [List.set_eq_take_append_cons_drop, if_pos h]
    rw [List.take_append, List.length_take, Nat.min_eq_left (by omega), List.take_of_length_le (by rw [List.length_take]; omega)]
    simp [show n + 1 - n = 1 by omega]
  have e2 : (l.set n v).drop (n + 1 + vs.length) = l.drop (n + (vs.length + 1)) := by
    rw [List.drop_set_of_lt (by omega)]
    congr 1; omega
  rw [e1, e2]
  simp
theorem fill_fold (off : Nat) : ∀ (vs : List Value) (i : Nat) (cs : Array Value), off + i + vs.length ≤ cs.size →
    (vs.zipIdx i).foldl (fun (cs : Array Value) (x : Value × Nat) => cs.setIfInBounds (off + x.2) x.1) cs = (cs.toList.take (off + i) ++ vs ++ cs.toList.drop (off + i + vs.length)).toArray
  | [], i, cs, _ => by simp
  | v :: vs, i, cs, h => by
    simp only [List.length_cons] at h
    rw [List.zipIdx_cons, List.foldl_cons, fill_fold off vs (i + 1) _ (by simp; omega), Array.toList_setIfInBounds]
    rw [show off + (i + 1) = (off + i) + 1 by omega, set_step _ _ _ _ (by simp; omega)]
    rfl
theorem fill_cons (place : Nat → Option (Nat × Nat)) (cells : Array Value) (i : Nat) (v : Value) (rest : List (Nat × Value)) (off size : Nat) (hp : place i = some (off, size)) (hs : v.cells.size = size) (hle : off + size ≤ cells.size) :
    Instr.fill place cells ((i, v) :: rest) = Instr.fill place (splice cells off v.cells) rest := by
  rw [Instr.fill, hp]
  simp only
  rw [if_neg (by subst hs; simp; omega)]
  congr 1
  unfold splice
  have h := fill_fold off v.cells.toList 0 cells (by simp; omega)
  simp only [Nat.add_zero, Array.length_toList] at h
  rw [← h, ← Array.foldl_toList, Array.toList_zipIdx]
theorem run_build_to {ρ : Operand → Value} {W : World} (t : TypeId) (parts : Array (Nat × Operand)) (ho : o.op = .build t parts) (cs : Array Value) (hb : P.built t (parts.map fun (i, x) => (i, ρ x)).toList = some cs) :
    (execOp ρ o).run P W = .ok (.value (.agg cs)) W := by
  unfold execOp
  simp only [ho, Sem.run_bind, run_build W t _ cs hb, Result.andThen_ok]
  rfl
theorem run_load_at {ρ : Operand → Value} {W : World} (t : TypeId) (x : Operand) (ho : o.op = .load t x) (g off : Nat) (hx : ρ x = .pointer (some ⟨g, off, none⟩)) (vs : Array Value) (d : TypeDesc)
    (hu : P.underlying t = some d) (hd : (match d with | .struct _ | .array _ _ => true | _ => false) = true) (hi : (P.info? t).map (·.size) = some vs.size)
    (hc : ∀ j, j < vs.size → W.cell? ⟨g, off + j, none⟩ = vs[j]?) : (execOp ρ o).run P W = .ok (.value (.agg vs)) W := by
  have hl : (loadCells ⟨g, off, none⟩ vs.toList.length).run P W = .ok vs.toList.toArray W :=
    run_loadCells_list (P := P) W ⟨g, off, none⟩ vs.toList (fun j v hv => by
      have hj : j < vs.size := by
        have := (List.getElem?_eq_some_iff.1 hv).1
        simpa using this
      rw [add_none, hc j hj]
      simpa using hv)
  cases hq : P.info? t with
  | none => simp [hq] at hi
  | some i =>
    have hs : i.size = vs.size := by simpa [hq] using hi
    have hagg : (isAgg t).run P W = .ok true W := by
      unfold isAgg
      rw [Sem.run_bind, run_underlying hu W]
      cases d <;> simp_all
    simp only [Array.length_toList, Array.toArray_toList] at hl
    unfold execOp
    simp only [ho, hx, Instr.loadAt, Instr.sureAddr, loadVar]
    simp [Sem.run_bind, hagg, sizeOf, typeInfo, hq, hs, hl]
theorem run_store_at {ρ : Operand → Value} {W : World} (t : TypeId) (x y : Operand) (ho : o.op = .store t x y) (g off : Nat) (hx : ρ x = .pointer (some ⟨g, off, none⟩)) (vs : Array Value) (hy : ρ y = .agg vs)
    (cs : Array Value) (tt : TypeId) (hg : W.heap[g]? = some (.cells cs tt (0, 0))) (hi : (P.info? t).map (·.size) = some vs.size) (hle : off + vs.size ≤ cs.size) (h1 : ∀ v ∈ vs.toList, v.oneCell' = true) :
    ∃ w1, (execOp ρ o).run P W = .ok .skip w1 ∧ w1.heap[g]? = some (.cells (splice cs off vs) tt (0, 0)) ∧ Upd W w1 g := by
  obtain ⟨w1, hr, hu, hb⟩ := run_storeCells_at (P := P) g tt vs.toList off 0 cs W hg (by simpa using hle) h1
  refine ⟨w1, ?_, by rw [hb]; simp [splice], hu⟩
  cases hq : P.info? t with
  | none => simp [hq] at hi
  | some i =>
    have hs : i.size = vs.size := by simpa [hq] using hi
    unfold execOp
    simp only [ho, hx, hy, Instr.storeAt, Instr.sureAddr, storeVar]
    simp [Sem.run_bind, sizeOf, typeInfo, hq, hs, hr, Value.cells]
theorem run_move {ρ : Operand → Value} {W : World} (x : Operand) (ho : o.op = .move x) (v : Value) (hx : ρ x = v) : (execOp ρ o).run P W = .ok (.value v) W := by
  unfold execOp
  simp only [ho, hx]
  rfl
theorem store_at {W : World} (t : TypeId) (x y : Operand) (ho : o.op = .store t x y) (hgd : o.guard = none) (g off : Nat) (hx : a.eval x = .pointer (some ⟨g, off, none⟩)) (vs : Array Value) (hy : a.eval y = .agg vs)
    (cs : Array Value) (tt : TypeId) (hg : W.heap[g]? = some (.cells cs tt (0, 0))) (hi : (P.info? t).map (·.size) = some vs.size) (hle : off + vs.size ≤ cs.size) (h1 : ∀ v ∈ vs.toList, v.oneCell' = true)
    (cs' : Array Value) (hcs : splice cs off vs = cs')
    (h : ∀ w1, w1.heap[g]? = some (.cells cs' tt (0, 0)) → Upd W w1 g → wpList P ops Q rest (a.put o.dst undef) w1) : wpList P ops Q (o :: rest) a W := by
  obtain ⟨w1, hr, hu, hb⟩ := run_storeCells_at (P := P) g tt vs.toList off 0 cs W hg (by simpa using hle) h1
  have hb' : w1.heap[g]? = some (.cells cs' tt (0, 0)) := by
    rw [hb, ← hcs]
    simp [splice]
  refine ev_skip hgd ?_ (h w1 hb' hu)
  cases hq : P.info? t with
  | none => simp [hq] at hi
  | some i =>
    have hs : i.size = vs.size := by simpa [hq] using hi
    unfold execOp
    simp only [ho, hx, hy, Instr.storeAt, Instr.sureAddr, storeVar]
    simp [Sem.run_bind, sizeOf, typeInfo, hq, hs, hr, Value.cells]

theorem splice_all (cs vs : Array Value) (h : cs.size = vs.size) : splice cs 0 vs = vs := by
  unfold splice
  rw [List.drop_eq_nil_of_le (by simp [h])]
  simp

/-- a result that lies in block g from off on -/
theorem results_at {fn : Func} {p : Tmp} {ty : TypeId} (h : fn.results = #[.cell p ty]) (tmps : Array Value) (w : World) (g : Nat) (t : TypeId) (cs : Array Value) (d : TypeDesc)
    (hp : tmps.getD p undef = .pointer (some ⟨g, 0, none⟩)) (hg : w.heap[g]? = some (.cells cs t (0, 0)))
    (hu : P.underlying ty = some d) (hd : (match d with | .struct _ | .array _ _ => true | _ => false) = true) (hi : (P.info? ty).map (·.size) = some cs.size) :
    (results fn tmps).run P w = .ok (.agg cs) w := results_cell_row h tmps w g t cs (0, 0) d hp hg hu hd hi
/-- two results, each in a block of its own -/
theorem results_two_at {fn : Func} {p q : Tmp} {ty : TypeId} (h : fn.results = #[.cell p ty, .cell q ty]) (tmps : Array Value) (w : World) (g k : Nat) (t : TypeId) (cs ds : Array Value) (d : TypeDesc)
    (hp : tmps.getD p undef = .pointer (some ⟨g, 0, none⟩)) (hq : tmps.getD q undef = .pointer (some ⟨k, 0, none⟩)) (hg : w.heap[g]? = some (.cells cs t (0, 0))) (hk : w.heap[k]? = some (.cells ds t (0, 0)))
    (hu : P.underlying ty = some d) (hd : (match d with | .struct _ | .array _ _ => true | _ => false) = true) (hi : (P.info? ty).map (·.size) = some cs.size) (hj : (P.info? ty).map (·.size) = some ds.size) :
    (results fn tmps).run P w = .ok (.tuple #[.agg cs, .agg ds]) w := by
  have hp' : tmps[p]?.getD undef = .pointer (some ⟨g, 0, none⟩) := by simpa using hp
  have hq' : tmps[q]?.getD undef = .pointer (some ⟨k, 0, none⟩) := by simpa using hq
  simp [results, h, hp', hq', asAddr, run_loadVar_row w g t ty cs (0, 0) d hg hu hd hi, run_loadVar_row w k t ty ds (0, 0) d hk hu hd hj]
end
end Go.Proofs.Ytjopmkfpghdlpaa.A
