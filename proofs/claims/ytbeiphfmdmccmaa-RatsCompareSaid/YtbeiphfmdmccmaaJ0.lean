/-
  The reference's Compare (countinghouseref02): its two products, in regions that draw their order and pick a block.
-/
import Derived.Test.YtbeiphfmdmccmaaH5
import Derived.Test.YtbeiphfmdmccmaaReg4
namespace Go.Proofs.Ytbeiphfmdmccmaa.L
set_option linter.unusedVariables false
set_option linter.unusedSimpArgs false
open Go.RowKit Go.Proofs.Ytbeiphfmdmccmaa.A Go.Proofs.Ytbeiphfmdmccmaa.P

/-- blocks of the call's own, known whole -/
structure Bs (w0 : World) (L : List (Nat × Array Value × TypeId)) (w : World) : Prop where
  below : Below w0.heap.size w0 w
  blk : ∀ p ∈ L, w.heap[p.1]? = some (.cells p.2.1 p.2.2 (0, 0))
  ge : ∀ p ∈ L, w0.heap.size ≤ p.1
theorem Bs.later {w0 w w1 : World} {L : List (Nat × Array Value × TypeId)} (h : Bs w0 L w) (k : Below w.heap.size w w1) : Bs w0 L w1 :=
  ⟨below_call h.below k, fun p hp => blk_below (h.blk p hp) k, h.ge⟩
theorem Bs.drew {w0 w : World} {L : List (Nat × Array Value × TypeId)} (h : Bs w0 L w) : Bs w0 L w.drew :=
  ⟨h.below.drew, h.blk, h.ge⟩
theorem Bs.upd {w0 w w1 : World} {L : List (Nat × Array Value × TypeId)} {g : Nat} (h : Bs w0 L w) (hu : Upd w w1 g) (hg : ∀ p ∈ L, p.1 ≠ g) (h0 : w0.heap.size ≤ g) : Bs w0 L w1 :=
  ⟨hu.below h.below h0, fun p hp => blk_upd hu (h.blk p hp) (hg p hp), h.ge⟩
theorem Bs.more {w0 w : World} {L : List (Nat × Array Value × TypeId)} {g : Nat} {cs : Array Value} {t : TypeId} (h : Bs w0 L w) (hb : w.heap[g]? = some (.cells cs t (0, 0))) (h0 : w0.heap.size ≤ g) : Bs w0 ((g, cs, t) :: L) w :=
  ⟨h.below, (fun p hp => by
    rcases List.mem_cons.1 hp with rfl | hp
    · exact hb
    · exact h.blk p hp), (fun p hp => by
    rcases List.mem_cons.1 hp with rfl | hp
    · exact h0
    · exact h.ge p hp)⟩
theorem Bs.new {w0 w w1 : World} {L : List (Nat × Array Value × TypeId)} {g : Nat} {cs : Array Value} {t : TypeId} (h : Bs w0 L w) (N : New w w1 g cs t) : Bs w0 L w1 := h.later N.below
theorem Bs.ne {w0 w w1 : World} {L : List (Nat × Array Value × TypeId)} {g : Nat} {cs : Array Value} {t : TypeId} (h : Bs w0 L w) (N : New w w1 g cs t) : ∀ p ∈ L, p.1 ≠ g := fun p hp => N.ne (h.blk p hp)

/-- how far a region is that makes a block and fills it -/
structure St (w0 : World) (L : List (Nat × Array Value × TypeId)) (X : Nat) (c : Option Nat) (b8 b9 : Bool) (w : World) : Prop where
  bs : Bs w0 L w
  no : b8 = false → c = none
  yes : b8 = true → ∃ g, c = some g ∧ w.heap[g]? = some (.cells (bv (if b9 then X else 0)) 57 (0, 0)) ∧ w0.heap.size ≤ g ∧ ∀ p ∈ L, p.1 ≠ g
theorem St.later {w0 w w1 : World} {L : List (Nat × Array Value × TypeId)} {X : Nat} {c : Option Nat} {b8 b9 : Bool} (h : St w0 L X c b8 b9 w) (k : Below w.heap.size w w1) : St w0 L X c b8 b9 w1 :=
  ⟨h.bs.later k, h.no, fun hb => by obtain ⟨g, e, hg, h1, h2⟩ := h.yes hb; exact ⟨g, e, blk_below hg k, h1, h2⟩⟩
theorem St.start {w0 w : World} {L : List (Nat × Array Value × TypeId)} {X : Nat} (h : Bs w0 L w) : St w0 L X none false false w := ⟨h, fun _ => rfl, (fun hb => by cases hb)⟩
theorem St.made {w0 w w1 : World} {L : List (Nat × Array Value × TypeId)} {X g : Nat} {c : Option Nat} {b8 : Bool} (h : St w0 L X c b8 false w) (N : New w w1 g (bv 0) 57) : St w0 L X (some g) true false w1 :=
  ⟨h.bs.new N, (fun hb => by cases hb), fun _ => ⟨g, rfl, N.blk, N.ge h.bs.below, h.bs.ne N⟩⟩
theorem getD_set_self {l : Array Bool} {i : Nat} (h : i < l.size) : (l.setIfInBounds i true).getD i false = true := by
  simp [h]
/-- the state of the region, out of what is listed -/
def Sl (w0 : World) (L : List (Nat × Array Value × TypeId)) (X : Nat) (c : Option Nat) (l : Array Bool) (w : World) : Prop := St w0 L X c (l.getD 8 false) (l.getD 9 false) w ∧ (l.getD 8 false = false → l.getD 9 false = false)
theorem Sl.other {w0 w w1 : World} {L : List (Nat × Array Value × TypeId)} {X : Nat} {c : Option Nat} {l : Array Bool} (h : Sl w0 L X c l w) (i : Nat) (h8 : i ≠ 8) (h9 : i ≠ 9) (k : Below w.heap.size w w1) : Sl w0 L X c (l.setIfInBounds i true) w1 := by
  unfold Sl
  rw [getD_set_ne false h8, getD_set_ne false h9]
  exact ⟨h.1.later k, h.2⟩
theorem Sl.made {w0 w w1 : World} {L : List (Nat × Array Value × TypeId)} {X g : Nat} {c : Option Nat} {l : Array Bool} (h : Sl w0 L X c l w) (hl : l.size = 10) (h8 : l.getD 8 false = false) (N : New w w1 g (bv 0) 57) : Sl w0 L X (some g) (l.setIfInBounds 8 true) w1 := by
  unfold Sl
  rw [getD_set_self (by omega), getD_set_ne false (by decide), h.2 h8]
  have := h.1
  rw [h.2 h8] at this
  exact ⟨this.made N, (fun hb => by cases hb)⟩
theorem Sl.stored {w0 w w1 : World} {L : List (Nat × Array Value × TypeId)} {X g : Nat} {l : Array Bool} (h : Sl w0 L X (some g) l w) (hl : l.size = 10) (h8 : l.getD 8 false = true) (hb : w1.heap[g]? = some (.cells (bv X) 57 (0, 0))) (hu : Upd w w1 g) : Sl w0 L X (some g) (l.setIfInBounds 9 true) w1 := by
  obtain ⟨g', e, _, h1, h2⟩ := h.1.yes h8
  cases e
  unfold Sl
  rw [getD_set_ne false (by decide), getD_set_self (by omega), h8]
  exact ⟨⟨h.1.bs.upd hu h2 h1, (fun hb => by cases hb), fun _ => ⟨g, rfl, hb, h1, h2⟩⟩, (fun hb => by cases hb)⟩

theorem ref_may_is (a b : Int) (ha : in64 a) (hb : in64 b) (w : World) : Calls Try.prog 35 #[.agg #[.int .i64 a, .int .i64 b]] w fun e w' => e = .returned (.bool (may a b)) ∧ Below w.heap.size w w' :=
  ref02_May.calls a b _ w (if_pos ⟨ha, hb⟩)
abbrev rat2 (a b : Int) : Array Value := #[.int .i64 a, .int .i64 b]
theorem size42 (a b : Int) : (Try.prog.info? 42).map (·.size) = some (rat2 a b).size := by kernel_rfl

set_option maxHeartbeats 2000000 in
set_option maxRecDepth 100000 in
theorem ref_cmp_not (a b c d : Int) (ia : in64 a) (ib : in64 b) (ic : in64 c) (id : in64 d) (h : ¬ (may a b = true ∧ may c d = true)) (w : World) : Calls Try.prog 40 #[.agg (rat2 a b), .agg (rat2 c d)] w fun e w' => e = .returned (.int .i64 0) ∧ Below w.heap.size w w' := by
  have M1 := AsideA.mk (ref_may_is a b ia ib)
  have M2 := AsideA.mk (ref_may_is c d ic id)
  clear ia ib ic id
  cases h1 : may a b
  · rw [h1] at M1
    clear h h1
    go_enter Try.func40, Try.ntmps40
    go_wp2_with (first | (refine box_new 42 (.tmp 0) rfl rfl _ rfl (rat2 a b) rfl ?_; intro g2 w2 N2) | (refine box_new 42 (.tmp 1) rfl rfl _ rfl (rat2 c d) rfl ?_; intro g3 w3 N3; have BB := AsideA.mk (below_new (below_new (Below.refl _ _) N2) N3); have X2 := AsideA.mk (blk_below N2.blk N3.below)) | ((with_reducible refine gate (N := 7) rfl ?_); refine load_at 42 (.tmp 2) rfl rfl g2 0 rfl (rat2 a b) _ Try.underlying42 rfl (size42 _ _) (blk_at0 X2.out) ?_) | (go_at_call 35; refine (M1.out _).mono ?_; rintro e wq ⟨rfl, hq⟩; have BN := AsideA.mk (below_call BB.out hq); clear hq BB; have BB := BN; clear BN))
    go_ret
    exact ⟨rfl, BB.out⟩
  · have h2 : may c d = false := by
      cases h2 : may c d
      · rfl
      · exact absurd ⟨h1, h2⟩ h
    rw [h1] at M1
    rw [h2] at M2
    clear h h1 h2
    go_enter Try.func40, Try.ntmps40
    go_wp2_with (first | (refine box_new 42 (.tmp 0) rfl rfl _ rfl (rat2 a b) rfl ?_; intro g2 w2 N2) | (refine box_new 42 (.tmp 1) rfl rfl _ rfl (rat2 c d) rfl ?_; intro g3 w3 N3; have BB := AsideA.mk (below_new (below_new (Below.refl _ _) N2) N3); have X2 := AsideA.mk (blk_below N2.blk N3.below); have X3 := AsideA.mk N3.blk) | ((with_reducible refine gate (N := 7) rfl ?_); refine load_at 42 (.tmp 2) rfl rfl g2 0 rfl (rat2 a b) _ Try.underlying42 rfl (size42 _ _) (blk_at0 X2.out) ?_) | (go_at_call 35; (first | (with_reducible refine (M1.out _).mono ?_) | (with_reducible refine (M2.out _).mono ?_)); rintro e wq ⟨rfl, hq⟩; have BN := AsideA.mk (below_call BB.out hq); have Y3 := AsideA.mk (blk_below X3.out hq); clear hq BB X3; have BB := BN; have X3 := Y3; clear BN Y3; have x30 : wq.cell? ⟨g3, 0, none⟩ = some (.int .i64 c) := blk_cell X3.out 0; have x31 : wq.cell? ⟨g3, 1, none⟩ = some (.int .i64 d) := blk_cell X3.out 1))
    go_ret
    exact ⟨rfl, BB.out⟩
end Go.Proofs.Ytbeiphfmdmccmaa.L
