/-
  The reference's graph: New (countinghouseref05.New).
-/
import Derived.Test.YtjopmkfpghdlpaaN2
namespace Go.Proofs.Ytjopmkfpghdlpaa.A
set_option linter.unusedVariables false
set_option linter.unusedSimpArgs false
open Go.RowKit

theorem cpF_top (fs : List Fl) (h : ∀ x ∈ fs, okF x = true) : ∀ i, 0 ≤ gi (cpF fs) i ∧ gi (cpF fs) i ≤ 2199023255552 := by
  unfold cpF
  have gen : ∀ (l : List Fl) (cp : List Int), (∀ x ∈ l, okF x = true) → cp.length = 289 → (∀ i, 0 ≤ gi cp i ∧ gi cp i ≤ 2199023255552) → ∀ i, 0 ≤ gi (l.foldl (fun cp x => cp.set (x.f * 17 + x.t) x.n) cp) i ∧ gi (l.foldl (fun cp x => cp.set (x.f * 17 + x.t) x.n) cp) i ≤ 2199023255552 := by
    intro l
    induction l with
    | nil => intro cp _ _ h2; exact h2
    | cons x l ih =>
      intro cp hx hl h2
      have hk := (okF_iff x).1 (hx x List.mem_cons_self)
      rw [List.foldl_cons]
      refine ih _ (fun y hy => hx y (List.mem_cons_of_mem _ hy)) (by rw [List.length_set]; exact hl) fun i => ?_
      rw [gi_set _ _ _ _ (by omega)]
      split
      · exact hk.2.2.2.2.2
      · exact h2 i
  exact gen fs _ h List.length_replicate fun i => by
    unfold gi
    rw [List.getD_eq_getElem?_getD, List.getElem?_replicate]
    split <;> exact ⟨Int.le_refl 0, by decide⟩
theorem built65 : Try.prog.built 65 [] = some #[.slice none 0 0] := by kernel_rfl
theorem pairIn_take {fs : List Fl} {k : Nat} {x : Fl} (h : fs[k]? = some x) (a b : Nat) : pairIn (fs.take (k + 1)) a b = (pairIn (fs.take k) a b || (x.f == a && x.t == b)) := by
  rw [take_step fs k x h, pairIn_step]
theorem pairIn_has {fs : List Fl} {j k a b : Nat} {x : Fl} (h : fs[j]? = some x) (hj : j < k) (ha : x.f = a) (hb : x.t = b) : pairIn (fs.take k) a b = true := by
  subst ha hb
  unfold pairIn
  refine List.any_eq_true.2 ⟨x, ?_, by simp⟩
  refine List.mem_of_getElem? (i := j) ?_
  rw [List.getElem?_take, if_pos hj]
  exact h

theorem flo_zero (w : World) : Flows w none (flo (cpF []) ps16) := by
  have e : flo (cpF []) ps16 = [] := by
    refine List.eq_nil_iff_forall_not_mem.2 fun x hx => ?_
    obtain ⟨_, _, _, _, h1, h2⟩ := mem_flo hx
    have h3 : gi (cpF []) (x.f * 17 + x.t) = 0 := by
      show gi (List.replicate 289 0) _ = 0
      unfold gi
      rw [List.getD_eq_getElem?_getD, List.getElem?_replicate]
      split <;> rfl
    omega
  rw [e]
  exact ⟨.inl rfl, by simp, by simp⟩

/-- how the reference's graph stands -/
structure NgAt (w wr : World) (gg : Nat) (fs : List Fl) : Prop where
  gr : RgAt wr gg (flo (cpF fs) ps16)
  ge : w.heap.size ≤ gg
  below : Below w.heap.size w wr
  ok : ∀ x ∈ fs, okF x = true
theorem NgAt.later {w wr w1 : World} {gg : Nat} {fs : List Fl} (h : NgAt w wr gg fs) (k : Below wr.heap.size wr w1) : NgAt w w1 gg fs := ⟨h.gr.below k, h.ge, below_call h.below k, h.ok⟩
theorem NgAt.lt {w wr : World} {gg : Nat} {fs : List Fl} (h : NgAt w wr gg fs) : gg < wr.heap.size := by
  obtain ⟨A, c, h1, _⟩ := h.gr.blk
  exact blk_lt h1
theorem NgAt.step {w wr w1 : World} {gg : Nat} {fs : List Fl} {x : Fl} (h : NgAt w wr gg fs) (hx : okF x = true) (hr : RgAt w1 gg (flo ((cpF fs).set (x.f * 17 + x.t) x.n) ps16)) (hg : wr.grownBy w1 (some gg)) : NgAt w w1 gg (fs ++ [x]) := by
  refine ⟨by rw [cpF_step]; exact hr, h.ge, h.below.grown hg h.below.size (fun k hk => by cases hk; exact h.ge), fun y hy => ?_⟩
  rcases List.mem_append.1 hy with hy | hy
  · exact h.ok y hy
  · simp at hy
    subst hy
    exact hx

/-- what the reference's New hands back -/
def RefRet (w w' : World) (fs : List Fl) (G : Option Addr) (r : Int) : Prop :=
  Below w.heap.size w w' ∧ ((newOk fs = true ∧ r = 0 ∧ (∀ x ∈ fs, okF x = true) ∧ ∃ g, G = some ⟨g, 0, none⟩ ∧ RgAt w' g (flo (cpF fs) ps16)) ∨ (newOk fs = false ∧ G = none ∧ r = 1))

set_option maxHeartbeats 16000000 in
set_option maxRecDepth 100000 in
theorem ref_new (A : Option Addr) (c : Nat) (fs : List Fl) (w : World) (F : Flows w A fs) : Calls Try.prog 26 #[.slice A fs.length c] w fun e w' => ∃ G r, e = .returned (.tuple #[.pointer G, .int .i64 r]) ∧ RefRet w w' fs G r := by
  have HF := AsideA.mk F
  have hlen := F.len
  obtain ⟨len, hl⟩ : ∃ len, len = fs.length := ⟨_, rfl⟩
  rw [← hl] at hlen ⊢
  have HL := AsideA.mk hl
  clear hl F
  go_enter Try.func26, Try.ntmps26
  go_wp2_with (first
    | ((with_reducible refine gate (N := 8) rfl ?_); refine build_to 65 _ rfl rfl _ built65 ?_)
    | ((with_reducible refine gate (N := 9) rfl ?_); refine box_new 65 _ rfl rfl _ rfl _ rfl ?_; intro gg w1 N1; have I0 : AsideA (NgAt w w1 gg (fs.take 0)) := ⟨⟨⟨none, 0, N1.blk, flo_zero w1⟩, N1.ge (Below.refl _ _), below_new (Below.refl _ _) N1, by simp⟩⟩; clear N1))
  go_loopw [5] (fun i wr => ∃ k : Nat, k ≤ len ∧ i = .int .i64 k ∧ AsideA (NgAt w wr gg (fs.take k) ∧ ∀ j x, j < k → fs[j]? = some x → okF x = true ∧ pairIn (fs.take j) x.f x.t = false)) (fun i _ => len - (intOf i).toNat)
  case atStart => exact ⟨0, by omega, rfl, ⟨I0.out, fun j x h => by omega⟩⟩
  case round =>
    clear I0
    obtain ⟨k, hk, rfl, I⟩ := hrel
    by_cases hlt : k < len
    · obtain ⟨g, off, ⟨f, t, n⟩, rfl, hek, hwf, hc⟩ := (HF.out.below I.out.1.below).get k (by have := HL.out; omega)
      have HEK := AsideA.mk hek
      have HCC := AsideA.mk hc
      unfold Fl.wf at hwf
      simp only at hwf
      have HBX := AsideA.mk (fun (W : World) (ge : Nat) (h : W.heap[ge]? = some (.cells (encW ⟨f, t, n⟩) 32 (0, 0))) => show W.cell? ⟨ge, 0, none⟩ = some (.int .u8 (f : Int)) ∧ W.cell? ⟨ge, 1, none⟩ = some (.int .u8 (t : Int)) ∧ W.cell? ⟨ge, 2, none⟩ = some (.int .i64 n) from ⟨(blk_cell h 0).trans rfl, (blk_cell h 1).trans rfl, (blk_cell h 2).trans rfl⟩)
      clear hek hc
      have HBAD := AsideA.mk (fun (h : okF ⟨f, t, n⟩ = false ∨ pairIn (fs.take k) f t = true) => newOk_false fs k ⟨f, t, n⟩ HEK.out h)
      have HNO := AsideA.mk (fun (h : ¬ (1 ≤ f ∧ f ≤ 16 ∧ 1 ≤ t ∧ t ≤ 16 ∧ f ≠ t ∧ 0 ≤ n ∧ n ≤ 2199023255552)) => show okF ⟨f, t, n⟩ = false from Bool.eq_false_iff.2 (fun e => h ((okF_iff _).1 e)))
      by_cases q0 : f < 1
      · have d0 : decide ((f : Int) < 1) = true := decide_eq_true (by omega)
        have HB := AsideA.mk (HBAD.out (.inl (HNO.out (by omega))))
        go_wp2_with (first
          | ((with_reducible refine gate (N := 19) rfl ?_); refine load_at 32 (.tmp 18) rfl rfl g (off + k * 3) rfl (encW ⟨f, t, n⟩) _ Try.underlying32 rfl info32s HCC.out ?_)
          | ((with_reducible refine gate (N := 6) rfl ?_); refine alloc_new 32 rfl rfl _ zero32 _ rfl ?_; intro ge w4 N4)
          | (refine store_at 32 (.tmp 6) (.tmp 19) rfl rfl ge 0 rfl (encW ⟨f, t, n⟩) rfl _ _ N4.blk info32s (Nat.le_refl 3) (encW_one _) (encW ⟨f, t, n⟩) (splice_all _ _ rfl) ?_; intro w5 b5 u5; have Z5 := AsideA.mk (And.intro b5 (I.out.1.later (u5.below N4.below (Nat.le_of_eq N4.at_.symm)))); have B5 := AsideA.mk (And.intro N4.at_ I.out.1.lt); obtain ⟨e0, e1, e2⟩ := HBX.out w5 ge b5; clear b5 u5)
          | fail)
        go_ret2
        exact ⟨_, _, rfl, Z5.out.2.below, .inr ⟨HB.out, rfl, rfl⟩⟩
      have d0 : decide ((f : Int) < 1) = false := decide_eq_false (by omega)
      by_cases q1 : 16 < f
      · have d1 : decide ((16 : Int) < (f : Int)) = true := decide_eq_true (by omega)
        have HB := AsideA.mk (HBAD.out (.inl (HNO.out (by omega))))
        go_wp2_with (first
          | ((with_reducible refine gate (N := 19) rfl ?_); refine load_at 32 (.tmp 18) rfl rfl g (off + k * 3) rfl (encW ⟨f, t, n⟩) _ Try.underlying32 rfl info32s HCC.out ?_)
          | ((with_reducible refine gate (N := 6) rfl ?_); refine alloc_new 32 rfl rfl _ zero32 _ rfl ?_; intro ge w4 N4)
          | (refine store_at 32 (.tmp 6) (.tmp 19) rfl rfl ge 0 rfl (encW ⟨f, t, n⟩) rfl _ _ N4.blk info32s (Nat.le_refl 3) (encW_one _) (encW ⟨f, t, n⟩) (splice_all _ _ rfl) ?_; intro w5 b5 u5; have Z5 := AsideA.mk (And.intro b5 (I.out.1.later (u5.below N4.below (Nat.le_of_eq N4.at_.symm)))); have B5 := AsideA.mk (And.intro N4.at_ I.out.1.lt); obtain ⟨e0, e1, e2⟩ := HBX.out w5 ge b5; clear b5 u5)
          | fail)
        go_ret2
        exact ⟨_, _, rfl, Z5.out.2.below, .inr ⟨HB.out, rfl, rfl⟩⟩
      have d1 : decide ((16 : Int) < (f : Int)) = false := decide_eq_false (by omega)
      by_cases q2 : t < 1
      · have d2 : decide ((t : Int) < 1) = true := decide_eq_true (by omega)
        have HB := AsideA.mk (HBAD.out (.inl (HNO.out (by omega))))
        go_wp2_with (first
          | ((with_reducible refine gate (N := 19) rfl ?_); refine load_at 32 (.tmp 18) rfl rfl g (off + k * 3) rfl (encW ⟨f, t, n⟩) _ Try.underlying32 rfl info32s HCC.out ?_)
          | ((with_reducible refine gate (N := 6) rfl ?_); refine alloc_new 32 rfl rfl _ zero32 _ rfl ?_; intro ge w4 N4)
          | (refine store_at 32 (.tmp 6) (.tmp 19) rfl rfl ge 0 rfl (encW ⟨f, t, n⟩) rfl _ _ N4.blk info32s (Nat.le_refl 3) (encW_one _) (encW ⟨f, t, n⟩) (splice_all _ _ rfl) ?_; intro w5 b5 u5; have Z5 := AsideA.mk (And.intro b5 (I.out.1.later (u5.below N4.below (Nat.le_of_eq N4.at_.symm)))); have B5 := AsideA.mk (And.intro N4.at_ I.out.1.lt); obtain ⟨e0, e1, e2⟩ := HBX.out w5 ge b5; clear b5 u5)
          | fail)
        go_ret2
        exact ⟨_, _, rfl, Z5.out.2.below, .inr ⟨HB.out, rfl, rfl⟩⟩
      have d2 : decide ((t : Int) < 1) = false := decide_eq_false (by omega)
      by_cases q3 : 16 < t
      · have d3 : decide ((16 : Int) < (t : Int)) = true := decide_eq_true (by omega)
        have HB := AsideA.mk (HBAD.out (.inl (HNO.out (by omega))))
        go_wp2_with (first
          | ((with_reducible refine gate (N := 19) rfl ?_); refine load_at 32 (.tmp 18) rfl rfl g (off + k * 3) rfl (encW ⟨f, t, n⟩) _ Try.underlying32 rfl info32s HCC.out ?_)
          | ((with_reducible refine gate (N := 6) rfl ?_); refine alloc_new 32 rfl rfl _ zero32 _ rfl ?_; intro ge w4 N4)
          | (refine store_at 32 (.tmp 6) (.tmp 19) rfl rfl ge 0 rfl (encW ⟨f, t, n⟩) rfl _ _ N4.blk info32s (Nat.le_refl 3) (encW_one _) (encW ⟨f, t, n⟩) (splice_all _ _ rfl) ?_; intro w5 b5 u5; have Z5 := AsideA.mk (And.intro b5 (I.out.1.later (u5.below N4.below (Nat.le_of_eq N4.at_.symm)))); have B5 := AsideA.mk (And.intro N4.at_ I.out.1.lt); obtain ⟨e0, e1, e2⟩ := HBX.out w5 ge b5; clear b5 u5)
          | fail)
        go_ret2
        exact ⟨_, _, rfl, Z5.out.2.below, .inr ⟨HB.out, rfl, rfl⟩⟩
      have d3 : decide ((16 : Int) < (t : Int)) = false := decide_eq_false (by omega)
      by_cases q4 : f = t
      · have d4 : ((f : Int) == (t : Int)) = true := beq_iff_eq.mpr (by omega)
        have HB := AsideA.mk (HBAD.out (.inl (HNO.out (by omega))))
        go_wp2_with (first
          | ((with_reducible refine gate (N := 19) rfl ?_); refine load_at 32 (.tmp 18) rfl rfl g (off + k * 3) rfl (encW ⟨f, t, n⟩) _ Try.underlying32 rfl info32s HCC.out ?_)
          | ((with_reducible refine gate (N := 6) rfl ?_); refine alloc_new 32 rfl rfl _ zero32 _ rfl ?_; intro ge w4 N4)
          | (refine store_at 32 (.tmp 6) (.tmp 19) rfl rfl ge 0 rfl (encW ⟨f, t, n⟩) rfl _ _ N4.blk info32s (Nat.le_refl 3) (encW_one _) (encW ⟨f, t, n⟩) (splice_all _ _ rfl) ?_; intro w5 b5 u5; have Z5 := AsideA.mk (And.intro b5 (I.out.1.later (u5.below N4.below (Nat.le_of_eq N4.at_.symm)))); have B5 := AsideA.mk (And.intro N4.at_ I.out.1.lt); obtain ⟨e0, e1, e2⟩ := HBX.out w5 ge b5; clear b5 u5)
          | fail)
        go_ret2
        exact ⟨_, _, rfl, Z5.out.2.below, .inr ⟨HB.out, rfl, rfl⟩⟩
      have d4 : ((f : Int) == (t : Int)) = false := beq_eq_false_iff_ne.mpr (by omega)
      by_cases q5 : n < 0
      · have d5 : decide (n < 0) = true := decide_eq_true (by omega)
        have HB := AsideA.mk (HBAD.out (.inl (HNO.out (by omega))))
        go_wp2_with (first
          | ((with_reducible refine gate (N := 19) rfl ?_); refine load_at 32 (.tmp 18) rfl rfl g (off + k * 3) rfl (encW ⟨f, t, n⟩) _ Try.underlying32 rfl info32s HCC.out ?_)
          | ((with_reducible refine gate (N := 6) rfl ?_); refine alloc_new 32 rfl rfl _ zero32 _ rfl ?_; intro ge w4 N4)
          | (refine store_at 32 (.tmp 6) (.tmp 19) rfl rfl ge 0 rfl (encW ⟨f, t, n⟩) rfl _ _ N4.blk info32s (Nat.le_refl 3) (encW_one _) (encW ⟨f, t, n⟩) (splice_all _ _ rfl) ?_; intro w5 b5 u5; have Z5 := AsideA.mk (And.intro b5 (I.out.1.later (u5.below N4.below (Nat.le_of_eq N4.at_.symm)))); have B5 := AsideA.mk (And.intro N4.at_ I.out.1.lt); obtain ⟨e0, e1, e2⟩ := HBX.out w5 ge b5; clear b5 u5)
          | fail)
        go_ret2
        exact ⟨_, _, rfl, Z5.out.2.below, .inr ⟨HB.out, rfl, rfl⟩⟩
      have d5 : decide (n < 0) = false := decide_eq_false (by omega)
      by_cases q6 : 2199023255552 < n
      · have d6 : decide (2199023255552 < n) = true := decide_eq_true (by omega)
        have HB := AsideA.mk (HBAD.out (.inl (HNO.out (by omega))))
        go_wp2_with (first
          | ((with_reducible refine gate (N := 19) rfl ?_); refine load_at 32 (.tmp 18) rfl rfl g (off + k * 3) rfl (encW ⟨f, t, n⟩) _ Try.underlying32 rfl info32s HCC.out ?_)
          | ((with_reducible refine gate (N := 6) rfl ?_); refine alloc_new 32 rfl rfl _ zero32 _ rfl ?_; intro ge w4 N4)
          | (refine store_at 32 (.tmp 6) (.tmp 19) rfl rfl ge 0 rfl (encW ⟨f, t, n⟩) rfl _ _ N4.blk info32s (Nat.le_refl 3) (encW_one _) (encW ⟨f, t, n⟩) (splice_all _ _ rfl) ?_; intro w5 b5 u5; have Z5 := AsideA.mk (And.intro b5 (I.out.1.later (u5.below N4.below (Nat.le_of_eq N4.at_.symm)))); have B5 := AsideA.mk (And.intro N4.at_ I.out.1.lt); obtain ⟨e0, e1, e2⟩ := HBX.out w5 ge b5; clear b5 u5)
          | fail)
        go_ret2
        exact ⟨_, _, rfl, Z5.out.2.below, .inr ⟨HB.out, rfl, rfl⟩⟩
      have d6 : decide (2199023255552 < n) = false := decide_eq_false (by omega)
      have OK : AsideA (okF ⟨f, t, n⟩ = true) := ⟨(okF_iff _).2 (show 1 ≤ f ∧ f ≤ 16 ∧ 1 ≤ t ∧ t ≤ 16 ∧ f ≠ t ∧ 0 ≤ n ∧ n ≤ 2199023255552 by omega)⟩
      have KR := AsideA.mk (show 1 ≤ f ∧ f ≤ 16 ∧ 1 ≤ t ∧ t ≤ 16 ∧ 0 ≤ n ∧ n ≤ 2199023255552 by omega)
      have BIG := AsideA.mk (cpF_top _ I.out.1.ok)
      clear q0 q1 q2 q3 q4 q5 q6
      go_wp2_with (first
        | ((with_reducible refine gate (N := 19) rfl ?_); refine load_at 32 (.tmp 18) rfl rfl g (off + k * 3) rfl (encW ⟨f, t, n⟩) _ Try.underlying32 rfl info32s HCC.out ?_)
        | ((with_reducible refine gate (N := 6) rfl ?_); refine alloc_new 32 rfl rfl _ zero32 _ rfl ?_; intro ge w4 N4)
        | (refine store_at 32 (.tmp 6) (.tmp 19) rfl rfl ge 0 rfl (encW ⟨f, t, n⟩) rfl _ _ N4.blk info32s (Nat.le_refl 3) (encW_one _) (encW ⟨f, t, n⟩) (splice_all _ _ rfl) ?_; intro w5 b5 u5; have Z5 := AsideA.mk (And.intro b5 (I.out.1.later (u5.below N4.below (Nat.le_of_eq N4.at_.symm)))); have B5 := AsideA.mk (And.intro N4.at_ I.out.1.lt); obtain ⟨e0, e1, e2⟩ := HBX.out w5 ge b5; clear b5 u5)
        | fail)
      go_loopw [7] (fun j wz => ∃ i : Nat, i ≤ k ∧ j = .int .i64 i ∧ AsideA (wz.heap[ge]? = some (.cells (encW ⟨f, t, n⟩) 32 (0, 0)) ∧ NgAt w wz gg (fs.take k) ∧ pairIn (fs.take i) f t = false)) (fun j _ => k - (intOf j).toNat)
      case atStart => exact ⟨0, by omega, rfl, ⟨Z5.out.1, Z5.out.2, rfl⟩⟩
      case round =>
        clear e0 e1 e2 Z5
        obtain ⟨i, hi, rfl, J⟩ := hrel
        obtain ⟨e0, e1, e2⟩ := HBX.out _ ge J.out.1
        by_cases hik : i < k
        · obtain ⟨g', off', ⟨f', t', n'⟩, h1, hek, hwf', hc⟩ := (HF.out.below J.out.2.1.below).get i (by have := HL.out; omega)
          cases h1
          have c0 : wr.cell? ⟨g, off + i * 3, none⟩ = some (.int .u8 (f' : Int)) := hc 0 (Nat.succ_pos 2)
          have c1 : wr.cell? ⟨g, off + i * 3 + 1, none⟩ = some (.int .u8 (t' : Int)) := hc 1 (Nat.succ_lt_succ (Nat.succ_pos 1))
          have HEI := AsideA.mk hek
          clear hek hwf' hc
          have hi0 : (0 : Int) ≤ (i : Int) := Int.natCast_nonneg _
          have hi1 : (i : Int) < (len : Int) := by omega
          have PT := AsideA.mk (pairIn_take HEI.out f t)
          have HIK := AsideA.mk hik
          have DN := AsideA.mk (fun (m : Nat) => And.intro (blk_below J.out.1 (below_drewN wr m)) (J.out.2.1.later (below_drewN wr m)))
          by_cases hf : f' = f
          · by_cases ht : t' = t
            · have HB := AsideA.mk (HBAD.out (.inr (pairIn_has HEI.out hik hf ht)))
              have r1 : ((f' : Int) == (f : Int)) = true := beq_iff_eq.mpr (by omega)
              have r2 : ((t' : Int) == (t : Int)) = true := beq_iff_eq.mpr (by omega)
              clear hf ht
              go_wp2
              go_quiet (fail)
              go_wp2
              go_ret2
              exact ⟨_, _, rfl, (DN.out _).2.below, .inr ⟨HB.out, rfl, rfl⟩⟩
            · have r1 : ((f' : Int) == (f : Int)) = true := beq_iff_eq.mpr (by omega)
              have r2 : ((t' : Int) == (t : Int)) = false := beq_eq_false_iff_ne.mpr (by omega)
              have PN : AsideA (pairIn (fs.take (i + 1)) f t = false) := ⟨by rw [PT.out, J.out.2.2]; simp [ht]⟩
              clear hf ht
              go_wp2
              go_quiet (fail)
              go_wp2
              exact ⟨⟨i + 1, by omega, by go_num, ⟨(DN.out _).1, (DN.out _).2, PN.out⟩⟩, by simp [intOf]; omega⟩
          · have r1 : ((f' : Int) == (f : Int)) = false := beq_eq_false_iff_ne.mpr (by omega)
            have PN : AsideA (pairIn (fs.take (i + 1)) f t = false) := ⟨by rw [PT.out, J.out.2.2]; simp [hf]⟩
            clear hf
            go_wp2
            go_quiet (fail)
            go_wp2
            exact ⟨⟨i + 1, by omega, by go_num, ⟨(DN.out _).1, (DN.out _).2, PN.out⟩⟩, by simp [intOf]; omega⟩
        · have hik2 : i = k := by omega
          subst hik2
          have NX : AsideA (∀ (j : Nat) (x : Fl), j < i + 1 → fs[j]? = some x → okF x = true ∧ pairIn (List.take j fs) x.f x.t = false) := ⟨fun j x hj hx => by
            by_cases ej : j = i
            · subst ej
              rw [HEK.out] at hx
              cases hx
              exact ⟨OK.out, J.out.2.2⟩
            · exact I.out.2 j x (by omega) hx⟩
          have C54 := AsideA.mk (ref_set gg (cpF (fs.take i)) f t n _ J.out.2.1.gr (cpF_len _) BIG.out KR.out.1 KR.out.2.1 KR.out.2.2.1 KR.out.2.2.2.1 KR.out.2.2.2.2.1 KR.out.2.2.2.2.2)
          have TK := AsideA.mk (take_step fs i _ HEK.out)
          clear hik
          go_wp2_with fail
          refine C54.out.mono ?_
          rintro e w7 ⟨rfl, h7, g7⟩
          have S7 : AsideA (NgAt w w7 gg (fs.take (i + 1))) := ⟨by rw [TK.out]; exact NgAt.step (x := ⟨f, t, n⟩) J.out.2.1 OK.out h7 g7⟩
          clear h7 g7
          go_wp2
          exact ⟨⟨i + 1, by omega, by go_num, ⟨S7.out, NX.out⟩⟩, by simp [intOf]; omega⟩
    · have e : fs.take k = fs := List.take_of_length_le (by have := HL.out; omega)
      rw [e] at I
      have NK : AsideA (newOk fs = true) := ⟨newOk_true fs fun j x hx => I.out.2 j x (by have := (List.getElem?_eq_some_iff.1 hx).1; have := HL.out; omega) hx⟩
      clear e
      go_wp2
      go_ret2
      exact ⟨_, _, rfl, I.out.1.below, .inl ⟨NK.out, rfl, I.out.1.ok, gg, rfl, I.out.1.gr⟩⟩
end Go.Proofs.Ytjopmkfpghdlpaa.A

