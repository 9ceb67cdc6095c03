/-
  paths.Round: the round that is found.
-/
import Derived.Test.YtjopmkfpghdlpaaQ1
import Derived.Test.YtjopmkfpghdlpaaQ4
import Derived.Test.YtjopmkfpghdlpaaQ5
import Derived.Test.YtjopmkfpghdlpaaQ6
namespace Go.Proofs.Ytjopmkfpghdlpaa.A
set_option linter.unusedVariables false
set_option linter.unusedSimpArgs false
open Go.RowKit

theorem xdelete_nil (w : World) : Calls Try.prog 39 #[.slice none 0 0, .func (.func 41) #[] #[]] w fun e w' => e = .returned (.slice none 0 0) ∧ Below w.heap.size w w' := by
  have CI := AsideA.mk (xindex none 0 [] w ⟨Reads.nil, by simp, by simp⟩)
  rw [List.length_nil] at CI
  go_enter Try.func39, Try.ntmps39
  go_wp2_with fail
  refine CI.out.mono ?_
  rintro e w1 ⟨⟨r, rfl, hr⟩, hb1⟩
  have B1 := AsideA.mk hb1
  have hr1 : r = -1 := by
    rcases hr with ⟨h, _⟩ | ⟨j, _, h, _⟩
    · exact h
    · exact absurd h (Nat.not_lt_zero _)
  subst hr1
  clear hb1 hr
  go_wp2
  go_ret
  exact ⟨rfl, B1.out⟩

/-- how the search stands -/
structure RdAt (w wr : World) (gs : Nat) (A : Option Addr) (fine : List Ed) (s : St) : Prop where
  blk : wr.heap[gs]? = some (.cells (srch s) 81 (0, 0))
  below : Below w.heap.size w wr
  ge : w.heap.size ≤ gs
  ed : Edges wr A fine
  ne : ∀ a, A = some a → a.block ≠ gs
theorem RdAt.later {w wr w1 : World} {gs : Nat} {A : Option Addr} {fine : List Ed} {s : St} (h : RdAt w wr gs A fine s) (k : Below wr.heap.size wr w1) : RdAt w w1 gs A fine s :=
  ⟨blk_below h.blk k, below_call h.below k, h.ge, h.ed.below k, h.ne⟩
theorem below_grownBy {w W w1 : World} {B g : Nat} (h : Below B w W) (hb : B ≤ W.heap.size) (hg : W.grownBy w1 (some g)) (hB : B ≤ g) : Below B w w1 :=
  h.grown hg hb fun k hk => by cases hk; exact hB
theorem RdAt.once {w wr w1 : World} {gs : Nat} {A : Option Addr} {fine : List Ed} {s s' : St} (h : RdAt w wr gs A fine s) (k : OnceAt wr w1 gs s') : RdAt w w1 gs A fine s' :=
  ⟨k.blk, below_grownBy h.below h.below.size k.grown h.ge, h.ge, ⟨grown_reads (t := 35) (cs := #[]) k.grown h.ed.reads (fun a ha _ => h.ne a ha), h.ed.wf, h.ed.len⟩, h.ne⟩

theorem zero81 : (Try.prog.info? 81).bind (·.zero) = some (.agg (srch s0)) := by kernel_rfl
def cameV (l : List Nat) : Array Value := ((List.range 17).map fun i => Value.bool (decide (i ∈ l))).toArray
theorem zero83 : (Try.prog.info? 83).bind (·.zero) = some (.agg (cameV [])) := by kernel_rfl

/-- DeleteFunc of a row of the call's own -/
theorem xdel_own (w w1 : World) (A1 : Option Addr) (c1 : Nat) (es : List Ed) (O : w1.ownsRow w.heap.size 35 3 (.slice A1 es.length c1) es.length (encE es)) (hb : Below w.heap.size w w1) (hwf : ∀ e ∈ es, e.wf) (hl : (es.length : Int) ≤ 1099511627776) :
    Calls Try.prog 39 #[.slice A1 es.length c1, .func (.func 41) #[] #[]] w1 fun e w' => ∃ A3 c3, e = .returned (.slice A3 (es.filter okb).length c3) ∧ Edges w' A3 (es.filter okb) ∧ Below w.heap.size w w' ∧ ∀ a, A3 = some a → a.block < w'.heap.size := by
  rcases O.2 with ⟨h1, h2⟩ | ⟨g, cap, cur, h1, h2, h3, h4, h5, h6, h7⟩
  · have h0 : es = [] := List.eq_nil_of_length_eq_zero h2
    subst h0
    simp only [Value.slice.injEq] at h1
    obtain ⟨rfl, _, rfl⟩ := h1
    refine (xdelete_nil w1).mono ?_
    rintro e w' ⟨rfl, hq⟩
    exact ⟨none, 0, rfl, ⟨Reads.nil, by simp, by simp⟩, below_call hb hq, fun a h => by cases h⟩
  · simp only [Value.slice.injEq] at h1
    obtain ⟨rfl, _, rfl⟩ := h1
    have hcur : cur = (encE es ++ cur.toList.drop (es.length * 3)).toArray := by
      rw [← h7, List.take_append_drop]
    have hE : EdBlk w1 g es (cur.toList.drop (es.length * 3)) := by
      unfold EdBlk
      rw [← hcur]
      exact h3
    refine (xdelete g c1 es _ w1 hE (by rw [List.length_drop, show cur.toList.length = c1 * 3 from h6]; omega) hwf hl (by unfold maxLen at h5; omega)).mono ?_
    rintro e w' ⟨rfl, hr, hg⟩
    refine ⟨_, _, rfl, hr, below_grownBy hb hb.size hg h2, fun a h => ?_⟩
    cases h
    exact Nat.lt_of_lt_of_le (blk_lt h3) hg.size

theorem RdAt.start {w w2 w3 : World} {gs : Nat} {A : Option Addr} {fine : List Ed} {cs : Array Value} (hb : Below w.heap.size w w2) (hE : Edges w2 A fine) (hA : ∀ a, A = some a → a.block < w2.heap.size) (N : New w2 w3 gs cs 81) (hcs : cs = srch s0) : RdAt w w3 gs A fine s0 := by
  subst hcs
  refine ⟨N.blk, below_new hb N, N.ge hb, hE.below N.below, fun a h => ?_⟩
  have := hA a h
  have := N.at_
  omega

set_option maxHeartbeats 4000000 in
set_option maxRecDepth 100000 in
theorem round_none (A : Option Addr) (c : Nat) (es : List Ed) (w : World) (E : Edges w A es) (hl0 : (itr (es.filter okb) 16).l = 0) : Calls Try.prog 15 #[.slice A es.length c] w fun e w' => e = .returned (.slice none 0 0) ∧ Below w.heap.size w w' := by
  have CC := AsideA.mk (xclone A c es w E)
  have CD := AsideA.mk (fun (w1 : World) (A1 : Option Addr) (c1 : Nat) (O : w1.ownsRow w.heap.size 35 3 (.slice A1 es.length c1) es.length (encE es)) (hb : Below w.heap.size w w1) => xdel_own w w1 A1 c1 es O hb E.wf E.len)
  have hfl : ((es.filter okb).length : Int) ≤ 1099511627776 := by have := List.length_filter_le okb es; have := E.len; omega
  have HF := AsideA.mk (And.intro hl0 hfl)
  have HO : AsideA (∀ e ∈ es.filter okb, e.ok) := ⟨fun e he => (okb_iff e).1 (List.mem_filter.1 he).2⟩
  have HW : AsideA (∀ e ∈ es.filter okb, e.wf) := ⟨fun e he => E.wf e (List.mem_filter.1 he).1⟩
  generalize es.filter okb = fine at *
  clear E hl0 hfl
  generalize es.length = len at *
  obtain ⟨nf, hnf⟩ : ∃ nf, nf = fine.length := ⟨_, rfl⟩
  rw [← hnf] at CD
  have HN := AsideA.mk hnf
  clear hnf
  go_enter Try.func15, Try.ntmps15
  go_wp2_with fail
  go_step3
  go_wp2_with fail
  refine CC.out.mono ?_
  rintro e w1 ⟨A1, c1, rfl, ho, hb⟩
  have O := AsideA.mk (And.intro ho hb)
  clear ho hb CC
  go_wp2_with fail
  refine (CD.out _ _ _ O.out.1 O.out.2).mono ?_
  rintro e w2 ⟨A3, c3, rfl, he, hb, ha⟩
  have D := AsideA.mk (And.intro hb (And.intro he ha))
  clear he hb ha CD O
  go_wp2_with ((with_reducible refine gate (N := 4) rfl ?_); refine alloc_new 81 rfl rfl _ zero81 _ rfl ?_; intro gs w3 N3; have R0 := AsideA.mk (RdAt.start (fine := fine) D.out.1 D.out.2.1 D.out.2.2 N3 rfl); clear N3)
  go_step3
  go_wp2
  have HS := AsideA.mk (fun (n : Nat) (h1 : 1 ≤ n) (h16 : n ≤ 16) (h : (itr fine n).l = 0) => (itr_still_l (es := fine) (fun e he => by have := HO.out e he; unfold Ed.ok at this; omega) h1 h16 h))
  have HB := AsideA.mk (fun (n : Nat) (hn : n ≤ 16) (wz : World) (R : RdAt w wz gs A3 fine (itr fine n)) => xonce gs A3 c3 fine (itr fine n) wz R.blk R.ed R.ne HO.out (itr_len fine n).1 (itr_len fine n).2 (128 * fine.length * n) (Int.mul_nonneg (by omega) (by omega)) (by
    have h1 := HF.out.2
    have h2 : (128 * fine.length * n : Int) ≤ 128 * fine.length * 16 := Int.mul_le_mul_of_nonneg_left (by omega) (by omega)
    omega) (itr_bd fine (fun e he => by have := HW.out e he; unfold Ed.wf at this; omega) n))
  rw [← HN.out] at HB
  go_loopw [5, 12] (fun v i wr => ∃ k : Nat, k ≤ 16 ∧ i = .int .i64 k ∧ v = .int .u8 ((itr fine k).l : Int) ∧ AsideA (RdAt w wr gs A3 fine (itr fine k))) (fun _ i _ => 16 - (intOf i).toNat)
  case atStart => exact ⟨0, by omega, rfl, rfl, R0⟩
  case round =>
    obtain ⟨k, hk, rfl, rfl, I⟩ := hrel
    clear R0
    by_cases hlt : k < 16
    · have CK := AsideA.mk (HB.out k hk _ I.out)
      go_wp2_with fail
      refine CK.out.mono ?_
      rintro e w4 ⟨rfl, h4⟩
      have I4 := AsideA.mk (I.out.once h4)
      clear h4 CK
      by_cases hz : (itr fine (k + 1)).l = 0
      · have e1 : itr fine (k + 1) = once fine (itr fine k) := rfl
        rw [← e1] at I4 ⊢
        clear e1
        rw [hz]
        have HZ := AsideA.mk hz
        clear hz
        go_wp2
        rw [Exit.noGoto_ret]
        go_ret
        exact ⟨rfl, I4.out.below⟩
      · have e1 : itr fine (k + 1) = once fine (itr fine k) := rfl
        rw [← e1] at I4 ⊢
        clear e1
        have dz : (((itr fine (k + 1)).l : Int) == 0) = false := beq_eq_false_iff_ne.mpr (by omega)
        have HZ := AsideA.mk hz
        clear hz
        go_wp2
        exact ⟨⟨k + 1, by omega, by go_num, rfl, I4⟩, by simp [intOf]; omega⟩
    · have hk16 : k = 16 := by omega
      subst hk16
      rw [HF.out.1]
      go_wp2
      rw [Exit.noGoto_ret]
      go_ret
      exact ⟨rfl, I.out.below⟩
end Go.Proofs.Ytjopmkfpghdlpaa.A

