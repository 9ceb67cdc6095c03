/-
  frames.Read.
-/
import Derived.Test.YtccmeiflahnleaaDoorG10
import Derived.RangeFuncBox
import Derived.Maps.AppendAt
namespace Go.Proofs.YtccmeiflahnleaaDoor.A
set_option linter.unusedVariables false
set_option linter.unusedSimpArgs false
open Go.RowKit Go.Shelf
attribute [local go_sem] Oper.semAt_some

theorem info22 : (Tryd.prog.info? 22).map (fun i => (i.zero, i.size, i.bytes)) = some (some (.slice none 0 0), 1, 24) := by kernel_rfl
set_option maxHeartbeats 1000000 in
set_option maxRecDepth 100000 in
theorem xframes (A : Option Addr) (n c : Nat) (w : World) : Calls Tryd.prog 46 #[.slice A n c] w fun e w' => e = .returned (.func (.func 53) #[] #[.pointer (some ⟨w.heap.size, 0, none⟩)]) ∧ w' = w.alloc (.cells #[.slice A n c] 22 (0, 0)) := by
  go_enter Tryd.func46, Tryd.ntmps46
  go_wp2
  go_ret
  exact ⟨rfl, rfl⟩
set_option maxHeartbeats 1000000 in
set_option maxRecDepth 100000 in
theorem clip22 (A : Option Addr) (n c : Nat) (h : n ≤ c) (w : World) : Calls Tryd.prog 47 #[.slice A n c] w fun e w' => e = .returned (.slice A n n) ∧ Below w.heap.size w w' := by
  have BB := AsideA.mk (Below.refl w.heap.size w)
  go_enter Tryd.func47, Tryd.ntmps47
  go_wp2
  go_ret
  exact ⟨by simp, BB.out⟩

def Fm.val (x : Fm) : Value := .slice (some ⟨x.g, 0, none⟩) x.body.length x.body.length
def lastTo (xs : List Fm) : Nat := xs.foldl (fun _ x => x.to) 0
theorem lastTo_snoc (xs : List Fm) (x : Fm) : lastTo (xs ++ [x]) = x.to := by unfold lastTo; rw [List.foldl_append]; rfl
theorem bodyAt_own (n₀ B : Nat) (x : Fm) : OwnFrom B (fun (_ : Unit) W => BodyAt n₀ x W) := by
  rintro s W W' row ⟨h1, h2, h3, h4, t, ht⟩ hg hr
  exact ⟨h1, h2, h3, h4, t, (grownBy_keeps_cells hg (fun r e => (hr r e).2) ht rfl).trans ht⟩
theorem allAt_own (n₀ B : Nat) (bs : List Nat) : OwnFrom B (AllAt n₀ bs) := by
  rintro xs W W' row ⟨h1, h2, h3⟩ hg hr
  exact ⟨h1, fun x hx => bodyAt_own n₀ B x () W W' row (h2 x hx) hg hr, h3⟩

/-- what the body's own variables hold between two rounds -/
def Got (w : World) (xs : List Fm) (W : World) : Prop :=
  ((∃ v, Boxed W w.heap.size 40 v ∧ W.ownsRow (w.heap.size + 3) 22 1 v xs.length (xs.map Fm.val) ∧ True) ∧ Boxed W (w.heap.size + 1) 3 (.int .i64 (lastTo xs : Nat))) ∧ Below w.heap.size w W ∧ w.heap.size + 3 ≤ W.heap.size
theorem size_own {β : Type} (B k : Nat) : OwnFrom B (fun (_ : β) W => k ≤ W.heap.size) := fun _ _ _ _ hs hg _ => Nat.le_trans hs hg.size

/-- a round's end: the two boxes are written, the row has grown -/
theorem round_end {w W w1 : World} {pre : List Fm} {x : Fm} {v : Value} {g' cap' B : Nat} (hZ : w.heap.size + 3 ≤ W.heap.size) (hB : Below w.heap.size w W) (hrow : W.ownsRow (w.heap.size + 3) 22 1 v pre.length (pre.map Fm.val)) (hv : Boxed W w.heap.size 40 v)
    (hown' : w1.ownsRow (w.heap.size + 3) 22 1 (.slice (some ⟨g', 0, none⟩) (pre.length + 1) cap') (pre.length + 1) (pre.map Fm.val ++ [x.val])) (hgrow : (W.alloc (.cells #[x.val] 22)).grownBy w1 v.ownBlock)
    (hk2 : KeepsOthers W (w1.setCell ⟨w.heap.size, 0, none⟩ (.slice (some ⟨g', 0, none⟩) (pre.length + 1) cap'))) (hb2 : Below w.heap.size W (w1.setCell ⟨w.heap.size, 0, none⟩ (.slice (some ⟨g', 0, none⟩) (pre.length + 1) cap')))
    (hv2 : Boxed (w1.setCell ⟨w.heap.size, 0, none⟩ (.slice (some ⟨g', 0, none⟩) (pre.length + 1) cap')) w.heap.size 40 (.slice (some ⟨g', 0, none⟩) (pre.length + 1) cap')) {u : Value} (hg2 : Boxed (w1.setCell ⟨w.heap.size, 0, none⟩ (.slice (some ⟨g', 0, none⟩) (pre.length + 1) cap')) (w.heap.size + 1) 3 u) (hv1 : Boxed w1 w.heap.size 40 v) (hg : Boxed W (w.heap.size + 1) 3 u) :
    KeepsFrom B W ((w1.setCell ⟨w.heap.size, 0, none⟩ (.slice (some ⟨g', 0, none⟩) (pre.length + 1) cap')).setCell ⟨w.heap.size + 1, 0, none⟩ (.int .i64 (x.to : Int))) ∧
    KpF w.heap.size (w.heap.size + 2) W ((w1.setCell ⟨w.heap.size, 0, none⟩ (.slice (some ⟨g', 0, none⟩) (pre.length + 1) cap')).setCell ⟨w.heap.size + 1, 0, none⟩ (.int .i64 (x.to : Int))) ∧
    Got w (pre ++ [x]) ((w1.setCell ⟨w.heap.size, 0, none⟩ (.slice (some ⟨g', 0, none⟩) (pre.length + 1) cap')).setCell ⟨w.heap.size + 1, 0, none⟩ (.int .i64 (x.to : Int))) := by
  have other : ∀ k, k < W.heap.size → some k ≠ v.ownBlock → k ≠ w.heap.size → k ≠ w.heap.size + 1 → ((w1.setCell ⟨w.heap.size, 0, none⟩ (.slice (some ⟨g', 0, none⟩) (pre.length + 1) cap')).setCell ⟨w.heap.size + 1, 0, none⟩ (.int .i64 (x.to : Int))).heap[k]? = W.heap[k]? := fun k hk h1 h2 h3 => by
    rw [Below.heap_setCell _ _ _ k h3, Below.heap_setCell _ _ _ k h2, hgrow.block k (by simp; omega) h1]
    exact Below.heap_alloc W _ k hk
  have hB' : Below w.heap.size W ((w1.setCell ⟨w.heap.size, 0, none⟩ (.slice (some ⟨g', 0, none⟩) (pre.length + 1) cap')).setCell ⟨w.heap.size + 1, 0, none⟩ (.int .i64 (x.to : Int))) := below_setb hb2 (by omega)
  have o1 := own_set (g := w.heap.size) (j := 0) (u := .slice (some ⟨g', 0, none⟩) (pre.length + 1) cap') hown' (hv1.not_row (by decide) hown')
  have o2 := own_set (g := w.heap.size + 1) (j := 0) (u := .int .i64 (x.to : Int)) o1 (hg2.not_row (by decide) o1)
  refine ⟨(hk2.trans (KeepsOthers.setCell _ _ _)).from _, ⟨hB', fun b cs hb => ?_, fun cs t hb => ?_⟩, ⟨⟨_, hv2.other (by omega) _, ?_, trivial⟩, ?_⟩, hB.trans hB', ?_⟩
  · refine (other b (blk_lt hb) (own_ne hrow hb (by decide)) (fun e => ?_) (fun e => ?_)).trans hb
    · exact ne_blocks hb hv (by decide) e
    · exact ne_blocks hb hg (by decide) e
  · refine (other _ (blk_lt hb) (fun e => ?_) (by omega) (by omega)).trans hb
    have := (hrow.lt _ e.symm).1
    omega
  · rw [List.length_append, List.map_append]
    exact o2
  · rw [lastTo_snoc]
    exact hg2.set _
  · exact Nat.le_trans hZ hB'.size

/-- behind the loop: is the clipped list laid back? -/
structure Fin_ (w : World) (bs : List Nat) (D n c2 : Nat) (L : Option Addr) (xs : List Fm) (b : Bool) (wz : World) : Prop where
  box : Boxed wz w.heap.size 40 (.slice L n (if b then n else c2))
  own : wz.ownsRow (w.heap.size + 3) 22 1 (.slice L n c2) n (xs.map Fm.val)
  gd : Boxed wz (w.heap.size + 1) 3 (.int .i64 (lastTo xs : Nat))
  below : Below w.heap.size w wz
  defd : wz.heap[D]? = some (.deferred (some []))
  all_ : AllAt w.heap.size bs xs wz
theorem Fin_.later {w wz w1 : World} {bs : List Nat} {D n c2 : Nat} {L : Option Addr} {xs : List Fm} {b : Bool} (h : Fin_ w bs D n c2 L xs b wz) (k : Below wz.heap.size wz w1) : Fin_ w bs D n c2 L xs b w1 :=
  ⟨blk_below h.box k, own_below h.own k, blk_below h.gd k, below_call h.below k, blk_below h.defd k, h.all_.1, h.all_.2.kept (Bx := w.heap.size + 2) (KpF.of_below k h.below.size)⟩
theorem all_set {n₀ B : Nat} {bs : List Nat} {xs : List Fm} {W : World} {t : TypeId} {u v : Value} (h : AllAt n₀ bs xs W) (hb : Boxed W B t u) (ht : t ≠ 5) : AllAt n₀ bs xs (W.setCell ⟨B, 0, none⟩ v) := by
  refine ⟨h.1, fun x hx => ?_, h.2.2⟩
  obtain ⟨h1, h2, h3, h4, c, hc⟩ := h.2.1 x hx
  exact ⟨h1, h2, h3, h4, c, blk_set_other hc 0 v (fun e => ne_blocks hb hc ht e.symm)⟩
theorem def_set {W : World} {D B : Nat} {t : TypeId} {u v : Value} (h : W.heap[D]? = some (.deferred (some []))) (hb : Boxed W B t u) : (W.setCell ⟨B, 0, none⟩ v).heap[D]? = some (.deferred (some [])) := by
  refine (Below.heap_setCell W _ _ D (fun e => ?_)).trans h
  have e : D = B := e
  subst e
  rw [show W.heap[D]? = _ from hb] at h
  cases h
theorem Fin_.setL {w wz : World} {bs : List Nat} {D n c2 : Nat} {L : Option Addr} {xs : List Fm} {b : Bool} (h : Fin_ w bs D n c2 L xs b wz) : Fin_ w bs D n c2 L xs true (wz.setCell ⟨w.heap.size, 0, none⟩ (.slice L n n)) :=
  ⟨h.box.set _, own_set h.own (h.box.not_row (by decide) h.own), h.gd.other (by omega) _, below_setb h.below (Nat.le_refl _), def_set h.defd h.box, all_set h.all_ h.box (by decide)⟩
theorem Fin_.setG {w wz : World} {bs : List Nat} {D n c2 : Nat} {L : Option Addr} {xs : List Fm} {b : Bool} (h : Fin_ w bs D n c2 L xs b wz) : Fin_ w bs D n c2 L xs b (wz.setCell ⟨w.heap.size + 1, 0, none⟩ (.int .i64 (lastTo xs : Nat))) :=
  ⟨h.box.other (by omega) _, own_set h.own (h.gd.not_row (by decide) h.own), h.gd.set _, below_setb h.below (by omega), def_set h.defd h.gd, all_set h.all_ h.gd (by decide)⟩
def FinAt (w : World) (bs : List Nat) (D n c2 : Nat) (L : Option Addr) (xs : List Fm) (ls : Array Bool) (wz : World) : Prop := Fin_ w bs D n c2 L xs (ls.getD 3 false) wz ∧ (ls.getD 3 false = true → ls.getD 0 false = true)
theorem FinAt.other {w wz w1 : World} {bs : List Nat} {D n c2 : Nat} {L : Option Addr} {xs : List Fm} {ls : Array Bool} (h : FinAt w bs D n c2 L xs ls wz) (hs : ls.size = 5) (i : Nat) (hi : i ≠ 3) (k : Fin_ w bs D n c2 L xs (ls.getD 3 false) w1) : FinAt w bs D n c2 L xs (ls.setIfInBounds i true) w1 := by
  unfold FinAt
  rw [getD_set_ne false hi]
  refine ⟨k, fun h3 => ?_⟩
  have := h.2 h3
  by_cases e : i = 0
  · subst e
    exact getD_set_self (by omega)
  · rw [getD_set_ne false (by omega)]
    exact this
theorem FinAt.stored {w wz w1 : World} {bs : List Nat} {D n c2 : Nat} {L : Option Addr} {xs : List Fm} {ls : Array Bool} (h : FinAt w bs D n c2 L xs ls wz) (hs : ls.size = 5) (h0 : ls.getD 0 false = true) (k : Fin_ w bs D n c2 L xs true w1) : FinAt w bs D n c2 L xs (ls.setIfInBounds 3 true) w1 := by
  unfold FinAt
  have e : (ls.setIfInBounds 3 true).getD 3 false = true := getD_set_self (by omega)
  rw [e]
  refine ⟨k, fun _ => ?_⟩
  rw [getD_set_ne false (by decide)]
  exact h0

set_option maxHeartbeats 4000000 in
set_option maxRecDepth 100000 in
theorem read_in (A : Option Addr) (c : Nat) (bs : List Nat) (w : World) (B : Bytes w A bs) (T : TabAt w) (hc : bs.length ≤ c) (hA : c = 0 ∨ ∃ g0 off0, A = some ⟨g0, off0, none⟩) :
    CallsIn Fence.wide 5 Tryd.prog 28 #[.slice A bs.length c] w fun e w' => ∃ L xs, e = .returned (.tuple #[.slice L xs.length xs.length, .int .i64 (lastTo xs : Nat)]) ∧ Reads w' L (xs.map Fm.val) ∧ AllAt w.heap.size bs xs w' ∧ Below w.heap.size w w' := by
  obtain ⟨i0, hi, hz0, hz1, hz2⟩ := info_parts info22
  have SQ := AsideA.mk (fun (wz : World) (hb : wz.heap[w.heap.size + 2]? = some (.cells #[.slice A bs.length c] 22 (0, 0))) (h0 : Below w.heap.size w wz) => frames_seq A c 4 (w.heap.size + 2) (by decide) bs w wz B T hc hA hb h0)
  have hlen := B.len
  have HL := AsideA.mk hlen
  clear B T hA
  generalize hnn : bs.length = len at *
  have HN := AsideA.mk hnn
  clear hnn
  refine callsIn_of_wp_marks Tryd.func28 rfl trivial ?_ rfl
  simp only [Tryd.ntmps28, List.size_toArray, List.length_cons, List.length_nil, Nat.reduceAdd, Nat.reduceSub, Array.replicate_succ, Array.replicate_zero, List.push_toArray, List.append_toArray, List.nil_append, List.cons_append]
  gi_wp2_with (refine ⟨trivial, ?_⟩; gi_at_call 46; go_loud (refine (callsIn_wide.2 (xframes A len c _)).mono ?_; rintro e w' ⟨rfl, rfl⟩))
  have b1 := Boxed.new w 40 (.slice none 0 0)
  have b2 := Boxed.new (w.alloc (.cells #[.slice none 0 0] 40)) 3 (.int .i64 0)
  have b3 := heap_alloc_new ((w.alloc (.cells #[.slice none 0 0] 40)).alloc (.cells #[.int .i64 0] 3)) (.cells #[.slice A len c] 22 (0, 0))
  rw [World.size_alloc] at b2
  rw [World.size_alloc, World.size_alloc] at b3
  have B0 := AsideA.mk ((((Below.refl w.heap.size w).alloc (Nat.le_refl _) (.cells #[.slice none 0 0] 40)).alloc (by simp) (.cells #[.int .i64 0] 3)).alloc (by simp; omega) (.cells #[.slice A len c] 22 (0, 0)))
  have G0 : AsideA (Got w [] (((w.alloc (.cells #[.slice none 0 0] 40)).alloc (.cells #[.int .i64 0] 3)).alloc (.cells #[.slice A len c] 22 (0, 0)))) := ⟨⟨⟨_, (b1.alloc _).alloc _, World.ownsRow_nil _ _ _ _, trivial⟩, b2.alloc _⟩, B0.out, by simp⟩
  have S0 := AsideA.mk (SQ.out _ b3 B0.out)
  have Z0 : AsideA ((((w.alloc (.cells #[.slice none 0 0] 40)).alloc (.cells #[.int .i64 0] 3)).alloc (.cells #[.slice A len c] 22 (0, 0))).heap.size = w.heap.size + 3) := ⟨by simp⟩
  clear b1 b2 b3 SQ
  refine range_told (F := Fence.wide) rfl (by decide) (gf := 53) (lb := #[.pointer (some ⟨w.heap.size + 2, 0, none⟩)]) rfl trivial (enters_of Tryd.func53 (by kernel_rfl) rfl) S0.out
    (fun h k => h.trans k) ?hKb (Below.refl _ _) (fun _ => rfl) (Got w) ?hI (fun x => bodyAt_own _ _ x) (allAt_own _ _ _) G0.out
    (fun x => { tmps := #[.slice A len c, undef, .pointer (some ⟨w.heap.size, 0, none⟩), .pointer (some ⟨w.heap.size + 1, 0, none⟩), Value.slice (some ⟨x.g, 0, none⟩) x.body.length x.body.length, .int .i64 (x.to : Int), .slice A len c, .func (.func 53) #[] #[.pointer (some ⟨w.heap.size + 2, 0, none⟩)], Value.slice (some ⟨x.g, 0, none⟩) x.body.length x.body.length, .int .i64 (x.to : Int), undef, undef, undef, undef, undef, undef, undef, undef], defers := [] }) ?assign ?body ?done
  case hKb =>
    intro W l o o' hl ho hoc how
    have hg := grownBy_putObj' W l o'
    refine ⟨belowK_b (w := w) (Nat.le_refl _) W l o o' (by have := Z0.out; omega) ho hoc how, fun b cs hb => ?_, fun cs t hb => ?_⟩
    · refine (hg.block b (blk_lt hb) (fun e => ?_)).trans hb
      cases e
      rw [hb] at ho
      cases ho
      cases hoc
    · refine (hg.block _ (blk_lt hb) (fun e => ?_)).trans hb
      have e := Option.some.inj e
      have := Z0.out
      omega
  case hI =>
    exact OwnFrom.and (OwnFrom.and (Own.from (holdsRow_own (w.heap.size + 3) w.heap.size 40 22 1 (fun (xs : List Fm) => xs.length) (fun (xs : List Fm) => xs.map Fm.val) (fun _ _ => True)) _) (Own.from (boxed_own (w.heap.size + 1) 3 (fun (xs : List Fm) => .int .i64 (lastTo xs : Nat))) _)) (OwnFrom.and (ownFrom_below (Nat.le_refl _) (by have := Z0.out; omega)) (size_own _ _))
  case assign =>
    intro l x W K hK
    simp only [Fm.encs]
    gi_wp2
    exact hK
  case body =>
    rintro l pre x W ⟨⟨⟨v, hv, hrow, _⟩, hg⟩, hB, hZ⟩ hlt hx
    have hc := hv.cell
    have R1 := AsideA.mk (And.intro hB hZ)
    have R2 := AsideA.mk (And.intro hv hg)
    have hpl : pre.length + 1 ≤ 1099511627777 := by have := HN.out; have := HL.out; omega
    clear hB hZ hv hg hlt
    gi_wp2_with (gi_at_builtin; go_loud (refine wpListIn_append_own _ rfl _ _ 40 rfl (w.heap.size + 3) 22 i0 (.slice none 0 0) 1 24 Tryd.underlying40 hi hz0 hz1 hz2 rfl (by decide) _ _ _ rfl (hrow.alloc _) ⟨W.heap.size, 0, none⟩ 1 1 [Value.slice (some ⟨x.g, 0, none⟩) x.body.length x.body.length] rfl rfl (cell_one_new _ _ _) (by simp [Value.oneCell', Fm.val]) (by simp only [maxLen]; omega) (by omega) (by have := R1.out.2; simp; omega) ?_; intro v' w1 hown' hgrow _; obtain ⟨g', cap', rfl⟩ := ownsRow_succ hown'; obtain ⟨hv1, hv2, hr2, hk2, hb2⟩ := R2.out.1.appended (n₀ := w.heap.size) (by decide) (own_lower hrow (by omega)) (by have := R1.out.2; omega) (Nat.le_refl _) (own_lower hown' (by omega)) hgrow; have hg1 := (R2.out.2.alloc (.cells #[Value.slice (some ⟨x.g, 0, none⟩) x.body.length x.body.length] 22)).kept hgrow (R2.out.2.not_row (by decide) hrow); have hg2 := hg1.other (B' := w.heap.size) (by omega) (.slice (some ⟨g', 0, none⟩) (pre.length + 1) cap'); have hc1 := hv1.cell; have hf1 := hv1.frozen; have hc2 := hg2.cell; have hf2 := hg2.frozen; have Y := AsideA.mk (And.intro hown' (And.intro hgrow (And.intro hv2 (And.intro hr2 (And.intro hk2 (And.intro hb2 (And.intro hg2 hv1))))))); clear hown' hgrow hv1 hv2 hr2 hk2 hb2 hg1 hg2))
    all_goals exact round_end R1.out.2 R1.out.1 hrow R2.out.1 Y.out.1 Y.out.2.1 Y.out.2.2.2.2.1 Y.out.2.2.2.2.2.1 Y.out.2.2.1 Y.out.2.2.2.2.2.2.1 Y.out.2.2.2.2.2.2.2 R2.out.2
  case done =>
    rintro D xs W hD hall ⟨⟨⟨v, hv, hrow, _⟩, hg⟩, hB, hZ⟩ hK
    obtain ⟨L, c2, rfl⟩ := own_form hrow
    have hroom : xs.length ≤ c2 := by
      rcases hrow.2 with ⟨e, h0⟩ | ⟨g', cap', cur, e1, _, _, h3, _⟩
      · omega
      · cases e1
        exact h3
    obtain ⟨nx, hnx⟩ : ∃ nx, xs.length = nx := ⟨_, rfl⟩
    simp only [hnx] at hv hrow hroom
    have Y : AsideA (Fin_ w bs D nx c2 L xs false W) := ⟨⟨hv, hrow, hg, hB, hK, hall⟩⟩
    have hD2 := AsideA.mk (And.intro hD hnx)
    have C47 := AsideA.mk (clip22 L nx c2 hroom)
    clear hv hrow hg hB hZ hK hall hD hnx
    gi_wp2
    refine wpIn_wide.2 ?_
    refine region_picked follows [15, 16, 17] (fun (_y : Nat) => [(15, .slice L nx c2), (16, .slice L nx nx), (17, .int .i64 (lastTo xs : Nat))]) (by intro _; rfl) _ (by intro _; simp only [actPuts]; go_simp; rfl) 18 rfl (by kernel_rfl)
      (fun (pk : Option (Nat)) (ls : Array Bool) (wz : World) => FinAt w bs D nx c2 L xs ls wz) ?_ ?_ ?_
    · intro ls hl
      exact (by unfold FinAt; rw [hl 3]; exact ⟨Y.out.later (Below.refl _ _).drew, (fun h => by cases h)⟩)
    · refine ⟨?_, ?_, ?_, ?_, ?_, trivial⟩
      · intro pk ls wz x hs hl hn h hx
        have h3 : ls.getD 3 false = false := (by cases e : ls.getD 3 false; rfl; exact absurd (h.2 e) (by rw [hl]; decide)); have hc := h.1.box.cell; rw [h3] at hc; exact opc_val rfl (v := .slice L nx c2) (w' := wz) (by go_simp) rfl (fun _ => rfl) (h.other hs 0 (by decide) h.1)
      · intro pk ls wz x hs hl hn h hx
        exact opc_call rfl (f := 47) (args := #[.slice L nx c2]) (by go_simp) rfl (fun _ => rfl) ((C47.out wz).mono fun e w' ⟨he, hb⟩ => ⟨he, h.other hs 1 (by decide) (h.1.later hb)⟩)
      · intro pk ls wz x hs hl hn h hx
        have hc := h.1.gd.cell; exact opc_val rfl (v := .int .i64 (lastTo xs : Nat)) (w' := wz) (by go_simp) rfl (fun _ => rfl) (h.other hs 2 (by decide) h.1)
      · intro pk ls wz x hs hl hn h hx
        have hc := h.1.box.cell; have hf := h.1.box.frozen; exact opc_skip rfl (w' := wz.setCell ⟨w.heap.size, 0, none⟩ (.slice L nx nx)) (by go_simp) rfl (h.stored hs (hn 0 (by decide)) h.1.setL)
      · intro pk ls wz x hs hl hn h hx
        have hc := h.1.gd.cell; have hf := h.1.gd.frozen; exact opc_skip rfl (w' := wz.setCell ⟨w.heap.size + 1, 0, none⟩ (.int .i64 (lastTo xs : Nat))) (by go_simp) rfl (h.other hs 4 (by decide) h.1.setG)
    · intro pk ls wz x hd h hx
      have h3 := hd 3 (by decide)
      have Z := AsideA.mk h.1
      rw [h3] at Z
      clear hd h hx h3
      gi_wp2
      refine ⟨by simp, .inl ⟨_, _, rfl, run_takeDeferred Z.out.defd, ?_⟩⟩
      have r1 := cell_kept Z.out.box.cell (grownBy_putObj' _ D (.deferred none)) (fun r e => by cases e; exact ⟨_, Z.out.defd, rfl⟩)
      have r2 := cell_kept Z.out.gd.cell (grownBy_putObj' _ D (.deferred none)) (fun r e => by cases e; exact ⟨_, Z.out.defd, rfl⟩)
      have r3 := ownsRow_putObj Z.out.own (.deferred none) Z.out.defd rfl
      have r4 : Below w.heap.size w (wz.putObj D (.deferred none)) := Z.out.below.trans (belowK_b (w := w) (Nat.le_refl _) wz D _ _ (by have := hD2.out.1; have := Z0.out; omega) Z.out.defd rfl rfl)
      have r5 := (allAt_own w.heap.size 0 bs).putObj (.deferred none) Z.out.all_ (Nat.zero_le _) Z.out.defd rfl
      refine ⟨.tuple #[.slice L nx nx, .int .i64 (lastTo xs : Nat)], ?_, L, xs, by rw [hD2.out.2], own_reads r3, r5, r4⟩
      simp [results, Tryd.f28, go_sem, r1, r2]
end Go.Proofs.YtccmeiflahnleaaDoor.A

