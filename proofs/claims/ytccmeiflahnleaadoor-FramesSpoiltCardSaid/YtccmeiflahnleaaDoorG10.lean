/-
  All frames of bytes (frames.frames): the iterator, by what comes of it.
-/
import Derived.Test.YtccmeiflahnleaaDoorG9
import Derived.Test.YtccmeiflahnleaaDoorRng
import Derived.RangeFuncBound
import Derived.RangeFuncLeaves
import Derived.Shelf.Abstract
import Derived.Shelf.RegionOpen
import Derived.OwnWalkIn
import Derived.TacticsInMore
import Derived.LoopNIn
import Derived.LoopIn
namespace Go.Proofs.YtccmeiflahnleaaDoor.A
set_option linter.unusedVariables false
set_option linter.unusedSimpArgs false
open Go.RowKit Go.Shelf
attribute [local go_sem] Oper.semAt_some

/-- a frame's body, in a block of its own, and how many bytes there are up to its end -/
structure Fm where
  g : Nat
  body : List Nat
  to : Nat
def Fm.encs (x : Fm) : Array Value := #[.slice (some ⟨x.g, 0, none⟩) x.body.length x.body.length, .int .i64 (x.to : Int)]
def BodyAt (n₀ : Nat) (x : Fm) (W : World) : Prop := n₀ ≤ x.g ∧ (∀ b ∈ x.body, b < 256) ∧ x.to ≤ 1099511627776 ∧ x.body.length ≤ 8192 ∧ ∃ t : List Value, W.heap[x.g]? = some (.cells (enc8 x.body ++ t).toArray 5 (0, 0))
/-- what a round keeps: what lay below, and every row of bytes -/
def KpF (n₀ Bx : Nat) (W W' : World) : Prop := Below n₀ W W' ∧ (∀ (b : Nat) cs, W.heap[b]? = some (.cells cs 5 (0, 0)) → W'.heap[b]? = some (.cells cs 5 (0, 0))) ∧ ∀ cs t, W.heap[Bx]? = some (.cells cs t (0, 0)) → W'.heap[Bx]? = some (.cells cs t (0, 0))
theorem KpF.trans {n₀ Bx : Nat} {A B C : World} (h : KpF n₀ Bx A B) (k : KpF n₀ Bx B C) : KpF n₀ Bx A C := ⟨h.1.trans k.1, fun b cs hb => k.2.1 b cs (h.2.1 b cs hb), fun cs t hb => k.2.2 cs t (h.2.2 cs t hb)⟩
theorem BodyAt.kept {n₀ Bx : Nat} {x : Fm} {W W' : World} (h : BodyAt n₀ x W) (k : KpF n₀ Bx W W') : BodyAt n₀ x W' := by
  obtain ⟨h1, h2, h3, h4, t, ht⟩ := h
  exact ⟨h1, h2, h3, h4, t, k.2.1 _ _ ht⟩
theorem KpF.of_below {n₀ Bx : Nat} {W W' : World} (h : Below W.heap.size W W') (hn : n₀ ≤ W.heap.size) : KpF n₀ Bx W W' := ⟨h.mono hn, fun b cs hb => blk_below hb h, fun cs t hb => blk_below hb h⟩
theorem grown_none {W W' : World} (h : Below W.heap.size W W') : W.grownBy W' none := ⟨h.os, h.tape, h.output, h.size, fun k hk _ => h.block k hk⟩
/-- the bodies that have come: each stands, no two in one block -/
def BodiesAt (n₀ : Nat) (xs : List Fm) (W : World) : Prop := (∀ x ∈ xs, BodyAt n₀ x W) ∧ xs.Pairwise fun x y => x.g ≠ y.g
theorem BodiesAt.kept {n₀ Bx : Nat} {xs : List Fm} {W W' : World} (h : BodiesAt n₀ xs W) (k : KpF n₀ Bx W W') : BodiesAt n₀ xs W' := ⟨fun x hx => (h.1 x hx).kept k, h.2⟩
theorem BodiesAt.more {n₀ : Nat} {xs : List Fm} {x : Fm} {W : World} (h : BodiesAt n₀ xs W) (hx : BodyAt n₀ x W) (hne : ∀ y ∈ xs, y.g ≠ x.g) : BodiesAt n₀ (xs ++ [x]) W := by
  refine ⟨fun y hy => ?_, ?_⟩
  · rcases List.mem_append.1 hy with h1 | h1
    · exact h.1 y h1
    · simp at h1
      subst h1
      exact hx
  · rw [List.pairwise_append]
    exact ⟨h.2, by simp, fun y hy z hz => by simp at hz; subst hz; exact hne y hy⟩
def pairs (xs : List Fm) : List (List Nat × Nat) := xs.map fun x => (x.body, x.to)
/-- all has come -/
def AllAt (n₀ : Nat) (bs : List Nat) (xs : List Fm) (W : World) : Prop := pairs xs = readP bs ∧ BodiesAt n₀ xs W

theorem own_block {w : World} {base n g cap : Nat} {xs : List Nat} (h : w.ownsRow base 5 1 (.slice (some ⟨g, 0, none⟩) n cap) n (enc8 xs)) (hn : n = xs.length) : ∃ t : List Value, w.heap[g]? = some (.cells (enc8 xs ++ t).toArray 5 (0, 0)) := by
  rcases h.2 with ⟨h0, _⟩ | ⟨g', cap', cur, e1, _, hh, _, _, _, ht⟩
  · cases h0
  · cases e1
    refine ⟨cur.toList.drop (n * 1), ?_⟩
    rw [hh, ← ht, List.take_append_drop]
theorem own_ge {w : World} {base n g cap : Nat} {xs : List Value} (h : w.ownsRow base 5 1 (.slice (some ⟨g, 0, none⟩) n cap) n xs) : base ≤ g := by
  rcases h.2 with ⟨h0, _⟩ | ⟨g', cap', cur, e1, hb, _⟩
  · cases h0
  · cases e1
    exact hb
theorem getP_nil : (getP []).2.2 = 5 := rfl
/-- what holds between two rounds -/
structure Rd (w0 : World) (bs : List Nat) (Bx : Nat) (cs : Array Value) (pre : List Fm) (to : Nat) (wr : World) : Prop where
  read : readP bs = pairs pre ++ framesP (bs.length + 1) to (bs.drop to)
  bodies : BodiesAt w0.heap.size pre wr
  below : Below w0.heap.size w0 wr
  box : wr.heap[Bx]? = some (.cells cs 22 (0, 0))
  to_le : to ≤ bs.length
  cnt : pre.length ≤ to
theorem Rd.kept {w0 : World} {bs : List Nat} {Bx to : Nat} {cs : Array Value} {pre : List Fm} {W W' : World} (h : Rd w0 bs Bx cs pre to W) (k : KpF w0.heap.size Bx W W') : Rd w0 bs Bx cs pre to W' :=
  ⟨h.read, h.bodies.kept k, h.below.trans k.1, k.2.2 _ _ h.box, h.to_le, h.cnt⟩
theorem Rd.step {w0 : World} {bs : List Nat} {Bx to g : Nat} {cs : Array Value} {pre : List Fm} {W W' : World} (h : Rd w0 bs Bx cs pre to W) (hW : Below W.heap.size W W') (hl : (bs.length : Int) ≤ 1099511627776) (e : (getP (bs.drop to)).2.2 = 0)
    (hg : ∃ t : List Value, W'.heap[g]? = some (.cells (enc8 (getP (bs.drop to)).1 ++ t).toArray 5 (0, 0))) (hge : W.heap.size ≤ g) (hs : ∀ b ∈ bs, b < 256) :
    BodyAt w0.heap.size ⟨g, (getP (bs.drop to)).1, to + (getP (bs.drop to)).2.1⟩ W' ∧ Rd w0 bs Bx cs (pre ++ [⟨g, (getP (bs.drop to)).1, to + (getP (bs.drop to)).2.1⟩]) (to + (getP (bs.drop to)).2.1) W' ∧ 0 < (getP (bs.drop to)).2.1 := by
  obtain ⟨n, hd, h1, h2, h3, h4, h5, h6, h7⟩ := getP_ok e
  have hlen : (bs.drop to).length = bs.length - to := List.length_drop
  have hto : to + (getP (bs.drop to)).2.1 ≤ bs.length := by rw [h7]; simp only []; omega
  have hb : BodyAt w0.heap.size ⟨g, (getP (bs.drop to)).1, to + (getP (bs.drop to)).2.1⟩ W' := by
    refine ⟨Nat.le_trans h.below.size hge, fun b hb => ?_, by show to + (getP (bs.drop to)).2.1 ≤ _; omega, ?_, hg⟩
    · have hb : b ∈ (getP (bs.drop to)).1 := hb
      rw [h7] at hb
      exact hs b (List.mem_of_mem_drop (List.mem_of_mem_drop (List.mem_of_mem_take hb)))
    · show (getP (bs.drop to)).1.length ≤ 8192
      rw [h7]
      simp only []
      rw [List.length_take]
      omega
  refine ⟨hb, ⟨?_, ?_, below_call h.below hW, blk_below h.box hW, hto, by have := h.cnt; rw [List.length_append, h7]; simp only [List.length_cons, List.length_nil]; omega⟩, by rw [h7]; simp only []; omega⟩
  · rw [h.read, framesP_step to (bs.drop to) _ (by omega) e]
    unfold pairs
    rw [List.map_append, List.append_assoc, List.drop_drop]
    rfl
  · refine (h.bodies.kept (KpF.of_below (Bx := Bx) hW h.below.size)).more hb fun y hy e => ?_
    obtain ⟨_, _, _, _, t, ht⟩ := h.bodies.1 y hy
    have := blk_lt ht
    have e : y.g = g := e
    omega

set_option maxHeartbeats 4000000 in
set_option maxRecDepth 100000 in
theorem frames_seq (A : Option Addr) (c n Bx : Nat) (hn1 : 1 ≤ n) (bs : List Nat) (w0 w : World) (B : Bytes w0 A bs) (T : TabAt w0) (hc : bs.length ≤ c) (hA : c = 0 ∨ ∃ g0 off0, A = some ⟨g0, off0, none⟩) (hb : w.heap[Bx]? = some (.cells #[.slice A bs.length c] 22 (0, 0))) (h0w : Below w0.heap.size w0 w) :
    SeqTold Fence.wide n Tryd.prog 53 #[.pointer (some ⟨Bx, 0, none⟩)] Fm.encs (KpF w0.heap.size Bx) (BodyAt w0.heap.size) (AllAt w0.heap.size bs) (bs.length + 1) w := fun l J W hW hJ hY h0 => by
  have R0 : AsideA (J [] W ∧ Rd w0 bs Bx #[.slice A bs.length c] [] 0 W) := ⟨h0, ⟨rfl, ⟨by simp, List.Pairwise.nil⟩, below_call h0w hW, blk_below hb hW, by omega, by simp⟩⟩
  have HY := AsideA.mk hY
  have HJ := AsideA.mk hJ
  have HB := AsideA.mk B
  have HT := AsideA.mk T
  have HA := AsideA.mk hA
  have hlen := B.len
  have hW0 := AsideA.mk (show W.heap.size ≤ W.heap.size from Nat.le_refl _)
  obtain ⟨len, hl⟩ : ∃ len, len = bs.length := ⟨_, rfl⟩
  rw [← hl] at hc hlen R0
  have HL := AsideA.mk hl
  clear hl hY hJ B T hA h0 hb h0w hW
  refine callsIn_of_wp Tryd.func53 rfl trivial ?_ rfl
  simp only [Tryd.ntmps53, List.size_toArray, List.length_cons, List.length_nil, Nat.reduceAdd, Nat.reduceSub, Array.replicate_succ, Array.replicate_zero, List.push_toArray, List.append_toArray, List.nil_append, List.cons_append]
  gi_wp2
  gi_loopw [3] (fun t wr => ∃ (to : Nat) (pre : List Fm), t = .int .i64 (to : Int) ∧ to ≤ len ∧ AsideA (J pre wr ∧ Rd w0 bs Bx #[.slice A len c] pre to wr)) (fun t _ => len - (intOf t).toNat)
  case atStart => exact ⟨0, [], rfl, by omega, R0⟩
  case round =>
    obtain ⟨to, pre, rfl, hto, I⟩ := hrel
    clear R0
    have c0 := (blk_cell I.out.2.box 0).trans (show _ = some (Value.slice A len c) from rfl)
    by_cases hct : c = to
    · obtain rfl : len = to := by omega
      subst hct
      have hd : bs.drop c = [] := List.drop_eq_nil_of_le (by have := HL.out; omega)
      have he : (getP (bs.drop c)).2.2 ≠ 0 := by rw [hd, getP_nil]; decide
      have C26 := AsideA.mk (xget_bad A 0 [] wr ⟨Reads.nil, by simp, by decide⟩ (HT.out.below I.out.2.below) (Nat.le_refl _) (by rw [getP_nil]; decide))
      rw [← hd] at C26
      have hl0 : (bs.drop c).length = 0 := by rw [hd]; rfl
      rw [hl0] at C26
      clear hl0 hd
      have HE := AsideA.mk (show pairs pre = readP bs by rw [I.out.2.read, framesP_stop c (bs.drop c) _ he, List.append_nil])
      have SZ := AsideA.mk I.out.1
      generalize (getP (bs.drop c)).2.2 = e0 at *
      have d1 : ((e0 : Int) == 0) = false := beq_eq_false_iff_ne.mpr (by omega)
      have d2 : ((e0 : Int) != 0) = true := by rw [bne, d1]; rfl
      gi_wp2_with (refine ⟨trivial, ?_⟩; gi_at_call 26; go_loud (refine (callsIn_wide.2 C26.out).mono ?_; rintro e w1 ⟨rfl, hq⟩; have S : AsideA (AllAt w0.heap.size bs pre w1 ∧ J pre w1) := ⟨⟨HE.out, I.out.2.bodies.kept (KpF.of_below (Bx := Bx) hq I.out.2.below.size)⟩, HJ.out pre wr w1 none I.out.1 (grown_none hq) (fun r hr => by cases hr)⟩; clear hq))
      refine ⟨fun _ h => (by cases h), ?_⟩
      gi_wp2
      refine bodyPost_ret (results_none rfl _ _ _) rfl ?_
      exact ⟨⟨_, rfl⟩, pre, S.out⟩
    · obtain ⟨g0, off0, rfl⟩ : ∃ g0 off0, A = some ⟨g0, off0, none⟩ := HA.out.resolve_left (by omega)
      by_cases he : (getP (bs.drop to)).2.2 = 0
      · have C26 := AsideA.mk (xget_ok (some ⟨g0, off0 + to, none⟩) (c - to) (bs.drop to) wr ((HB.out.below I.out.2.below).drop to) (HT.out.below I.out.2.below) (by rw [List.length_drop]; have := HL.out; omega) he)
        have ST := AsideA.mk (fun (g : Nat) (w1 : World) (h1 : Below wr.heap.size wr w1) (h2 : ∃ t : List Value, w1.heap[g]? = some (.cells (enc8 (getP (bs.drop to)).1 ++ t).toArray 5 (0, 0))) (h3 : wr.heap.size ≤ g) => I.out.2.step (W' := w1) (g := g) h1 HB.out.len he h2 h3 HB.out.small)
        rw [List.length_drop, ← HL.out] at C26
        generalize hgp : getP (bs.drop to) = r at *
        obtain ⟨body, sz, e0⟩ := r
        simp only [] at C26 ST he
        have HG := AsideA.mk hgp
        clear hgp he
        obtain ⟨nb, hnb⟩ : ∃ nb, nb = body.length := ⟨_, rfl⟩
        rw [← hnb] at C26
        have HNB := AsideA.mk hnb
        clear hnb
        gi_wp2_with (refine ⟨trivial, ?_⟩; gi_at_call 26; go_loud (refine (callsIn_wide.2 C26.out).mono ?_; rintro e w1 ⟨g', cap, rfl, o, hq⟩; obtain ⟨st1, st2, st3⟩ := ST.out g' w1 hq (own_block o (by rw [← HNB.out])) (own_ge o); obtain ⟨fn, tmps, assign, body1, hy, hR⟩ := HY.out pre ⟨g', body, to + sz⟩ w1 (HJ.out pre wr w1 none I.out.1 (grown_none hq) (fun r hr => by cases hr)) (by have h1 := I.out.2.cnt; have h2 := I.out.2.to_le; omega) st1; simp only [Fm.encs, Int.natCast_add, ← HNB.out] at hy; have hsz : to + sz ≤ len := (by have h1 := st2.to_le; have h2 := HL.out; omega); have S := AsideA.mk (And.intro st2 st3); clear st1 st2 st3 o hq))
        refine hR.mono ?_
        rintro e W3 ⟨rfl, hJ3, hk3⟩
        have I3 : AsideA (J (pre ++ [⟨g', body, to + sz⟩]) W3 ∧ Rd w0 bs Bx #[.slice (some ⟨g0, off0, none⟩) len c] (pre ++ [⟨g', body, to + sz⟩]) (to + sz) W3) := ⟨hJ3, S.out.1.kept hk3⟩
        clear hJ3 hk3 hy hR
        gi_wp2
        refine ⟨⟨to + sz, pre ++ [⟨g', body, to + sz⟩], by go_num, by omega, I3⟩, ?_⟩
        have := S.out.2
        simp [intOf]
        omega
      · have C26 := AsideA.mk (xget_bad (some ⟨g0, off0 + to, none⟩) (c - to) (bs.drop to) wr ((HB.out.below I.out.2.below).drop to) (HT.out.below I.out.2.below) (by rw [List.length_drop]; have := HL.out; omega) he)
        rw [List.length_drop, ← HL.out] at C26
        have HE := AsideA.mk (show pairs pre = readP bs by rw [I.out.2.read, framesP_stop to (bs.drop to) _ he, List.append_nil])
        have SZ := AsideA.mk I.out.1
        generalize (getP (bs.drop to)).2.2 = e0 at *
        have d1 : ((e0 : Int) == 0) = false := beq_eq_false_iff_ne.mpr (by omega)
        have d2 : ((e0 : Int) != 0) = true := by rw [bne, d1]; rfl
        gi_wp2_with (refine ⟨trivial, ?_⟩; gi_at_call 26; go_loud (refine (callsIn_wide.2 C26.out).mono ?_; rintro e w1 ⟨rfl, hq⟩; have S : AsideA (AllAt w0.heap.size bs pre w1 ∧ J pre w1) := ⟨⟨HE.out, I.out.2.bodies.kept (KpF.of_below (Bx := Bx) hq I.out.2.below.size)⟩, HJ.out pre wr w1 none I.out.1 (grown_none hq) (fun r hr => by cases hr)⟩; clear hq))
        refine ⟨fun _ h => (by cases h), ?_⟩
        gi_wp2
        refine bodyPost_ret (results_none rfl _ _ _) rfl ?_
        exact ⟨⟨_, rfl⟩, pre, S.out⟩
end Go.Proofs.YtccmeiflahnleaaDoor.A

