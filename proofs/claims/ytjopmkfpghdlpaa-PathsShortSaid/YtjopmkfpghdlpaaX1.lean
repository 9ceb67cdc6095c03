/-
  graphs.New: a graph of edges.
-/
import Derived.Test.YtjopmkfpghdlpaaX0
import Derived.RegionTactic
import Derived.ChangeAlike
import Derived.BigRegion
namespace Go.Proofs.Ytjopmkfpghdlpaa.A
set_option linter.unusedVariables false
set_option linter.unusedSimpArgs false
open Go.RowKit

def gb (l : List Bool) (i : Nat) : Bool := l.getD i false
theorem gb_set (l : List Bool) (i j : Nat) (x : Bool) (h : i < l.length) : gb (l.set i x) j = if j = i then x else gb l j := by
  unfold gb
  simp only [List.getD_eq_getElem?_getD, List.getElem?_set]
  by_cases e : i = j
  · subst e; simp [h]
  · rw [if_neg e, if_neg (Ne.symm e)]
def okF (x : Fl) : Bool := okp x.f && okp x.t && !(x.f == x.t) && decide (0 ≤ x.n) && decide (x.n ≤ 2199023255552)
theorem okF_iff (x : Fl) : okF x = true ↔ (1 ≤ x.f ∧ x.f ≤ 16 ∧ 1 ≤ x.t ∧ x.t ≤ 16 ∧ x.f ≠ x.t ∧ 0 ≤ x.n ∧ x.n ≤ 2199023255552) := by
  unfold okF okp
  simp only [Bool.and_eq_true, decide_eq_true_eq, Bool.not_eq_true', beq_eq_false_iff_ne, ne_eq]
  omega
def pairIn (fs : List Fl) (a b : Nat) : Bool := fs.any fun x => x.f == a && x.t == b
def newOk (fs : List Fl) : Bool := (List.range fs.length).all fun k => match fs[k]? with
  | some x => okF x && !pairIn (fs.take k) x.f x.t
  | none => true
def cpF (fs : List Fl) : List Int := fs.foldl (fun cp x => cp.set (x.f * 17 + x.t) x.n) (List.replicate 289 0)
def toldF (fs : List Fl) : List Bool := fs.foldl (fun cp x => cp.set (x.f * 17 + x.t) true) (List.replicate 289 false)
def toldV (l : List Bool) : Array Value := (l.map Value.bool).toArray
theorem cpF_len (fs : List Fl) : (cpF fs).length = 289 := by
  unfold cpF
  have gen : ∀ (l : List Fl) (cp : List Int), cp.length = 289 → (l.foldl (fun cp x => cp.set (x.f * 17 + x.t) x.n) cp).length = 289 := by
    intro l
    induction l with
    | nil => intro cp h; exact h
    | cons x l ih => intro cp h; exact ih _ (by simpa using h)
  exact gen fs _ List.length_replicate
theorem toldF_len (fs : List Fl) : (toldF fs).length = 289 := by
  unfold toldF
  have gen : ∀ (l : List Fl) (cp : List Bool), cp.length = 289 → (l.foldl (fun cp x => cp.set (x.f * 17 + x.t) true) cp).length = 289 := by
    intro l
    induction l with
    | nil => intro cp h; exact h
    | cons x l ih => intro cp h; exact ih _ (by simpa using h)
  exact gen fs _ List.length_replicate
theorem take_step {α : Type} (fs : List α) (k : Nat) (x : α) (h : fs[k]? = some x) : fs.take (k + 1) = fs.take k ++ [x] := by
  rw [List.take_add_one, h]
  rfl
theorem cpF_step (fs : List Fl) (x : Fl) : cpF (fs ++ [x]) = (cpF fs).set (x.f * 17 + x.t) x.n := by unfold cpF; rw [List.foldl_append]; rfl
theorem toldF_step (fs : List Fl) (x : Fl) : toldF (fs ++ [x]) = (toldF fs).set (x.f * 17 + x.t) true := by unfold toldF; rw [List.foldl_append]; rfl
theorem pairIn_step (fs : List Fl) (x : Fl) (a b : Nat) : pairIn (fs ++ [x]) a b = (pairIn fs a b || (x.f == a && x.t == b)) := by unfold pairIn; rw [List.any_append]; simp
theorem idx_inj {a b c d : Nat} (hb : b ≤ 16) (hd : d ≤ 16) (h : a * 17 + b = c * 17 + d) : a = c ∧ b = d := by omega
theorem told_pair (n : Nat) : ∀ (fs : List Fl), fs.length = n → (∀ x ∈ fs, x.f ≤ 16 ∧ x.t ≤ 16) → ∀ a b, a ≤ 16 → b ≤ 16 → gb (toldF fs) (a * 17 + b) = pairIn fs a b := by
  induction n with
  | zero =>
    intro fs h _ a b _ _
    have : fs = [] := List.eq_nil_of_length_eq_zero h
    subst this
    unfold gb toldF pairIn
    simp only [List.foldl_nil, List.getD_eq_getElem?_getD, List.getElem?_replicate, List.any_nil]
    split <;> rfl
  | succ n ih =>
    intro fs h hx a b ha hb
    obtain ⟨r, x, rfl⟩ : ∃ r x, fs = r ++ [x] := ⟨fs.dropLast, fs.getLast (by intro e; rw [e] at h; simp at h), (List.dropLast_concat_getLast _).symm⟩
    have hxx := hx x (by simp)
    rw [toldF_step, pairIn_step, gb_set _ _ _ _ (by rw [toldF_len]; omega), ih r (by simpa using h) (fun y hy => hx y (by simp [hy])) a b ha hb]
    by_cases e : a * 17 + b = x.f * 17 + x.t
    · obtain ⟨e1, e2⟩ := idx_inj hb hxx.2 e
      rw [if_pos e, e1, e2]; simp
    · rw [if_neg e]
      have : (x.f == a && x.t == b) = false := by
        rw [Bool.eq_false_iff]
        intro h2
        simp only [Bool.and_eq_true, beq_iff_eq] at h2
        exact e (by rw [h2.1, h2.2])
      rw [this, Bool.or_false]
theorem toldV_at (l : List Bool) (i : Nat) (h : i < l.length) : (toldV l)[i]? = some (.bool (gb l i)) := by
  unfold toldV gb
  rw [List.getElem?_toArray, List.getElem?_map]
  simp [List.getD_eq_getElem?_getD, h]
theorem toldV_set (l : List Bool) (i : Nat) (x : Bool) (h : i < l.length) : (toldV l).setIfInBounds i (.bool x) = toldV (l.set i x) := by
  unfold toldV
  rw [List.setIfInBounds_toArray, List.map_set]

theorem newOk_false (fs : List Fl) (k : Nat) (x : Fl) (hk : fs[k]? = some x) (h : okF x = false ∨ pairIn (fs.take k) x.f x.t = true) : newOk fs = false := by
  unfold newOk
  rw [List.all_eq_false]
  refine ⟨k, List.mem_range.2 (List.getElem?_eq_some_iff.1 hk).1, ?_⟩
  simp only [hk]
  rcases h with h | h
  · simp [h]
  · simp [h]
theorem newOk_true (fs : List Fl) (h : ∀ k x, fs[k]? = some x → okF x = true ∧ pairIn (fs.take k) x.f x.t = false) : newOk fs = true := by
  unfold newOk
  rw [List.all_eq_true]
  intro k hk
  cases hx : fs[k]? with
  | none => rfl
  | some x =>
    obtain ⟨h1, h2⟩ := h k x hx
    simp [h1, h2]

theorem built98 : Try.prog.built 98 [(1, .bool true)] = some (grV (List.replicate 289 0)) := by kernel_rfl
theorem zero99 : (Try.prog.info? 99).bind (·.zero) = some (.agg (toldV (toldF []))) := by kernel_rfl

/-- how the graph and what was told stand -/
structure NewAt (w wr : World) (gg gt : Nat) (fs : List Fl) : Prop where
  gr : wr.heap[gg]? = some (.cells (grV (cpF fs)) 98 (0, 0))
  td : wr.heap[gt]? = some (.cells (toldV (toldF fs)) 99 (0, 0))
  ge : w.heap.size ≤ gg
  ge2 : w.heap.size ≤ gt
  below : Below w.heap.size w wr
  ok : ∀ x ∈ fs, okF x = true
theorem NewAt.later {w wr w1 : World} {gg gt : Nat} {fs : List Fl} (h : NewAt w wr gg gt fs) (k : Below wr.heap.size wr w1) : NewAt w w1 gg gt fs :=
  ⟨blk_below h.gr k, blk_below h.td k, h.ge, h.ge2, below_call h.below k, h.ok⟩
theorem NewAt.ne {w wr : World} {gg gt : Nat} {fs : List Fl} (h : NewAt w wr gg gt fs) : gg ≠ gt := by
  rintro rfl
  have h1 := h.gr
  rw [h.td] at h1
  injection h1 with h1
  injection h1 with _ h1
  exact absurd h1 (by decide)
theorem NewAt.step {w wr : World} {gg gt : Nat} {fs : List Fl} {x : Fl} (h : NewAt w wr gg gt fs) (hx : okF x = true) : NewAt w ((wr.setCell ⟨gt, x.f * 17 + x.t, none⟩ (.bool true)).setCell ⟨gg, x.f * 17 + x.t, none⟩ (.int .i64 x.n)) gg gt (fs ++ [x]) := by
  have hk := (okF_iff x).1 hx
  refine ⟨?_, ?_, h.ge, h.ge2, below_set (below_set h.below h.ge2) h.ge, ?_⟩
  · rw [blk_set (blk_set_other h.gr _ _ h.ne), grV_set _ _ _ (by rw [cpF_len]; omega), cpF_step]
  · refine blk_set_other ?_ _ _ h.ne.symm
    rw [blk_set h.td, toldV_set _ _ _ (by rw [toldF_len]; omega), toldF_step]
  · intro y hy
    rcases List.mem_append.1 hy with hy | hy
    · exact h.ok y hy
    · simp at hy; subst hy; exact hx

/-- what New hands back -/
def NewRet (w w' : World) (fs : List Fl) (G : Option Addr) (r : Int) : Prop :=
  Below w.heap.size w w' ∧ ((newOk fs = true ∧ r = 0 ∧ ∃ g, G = some ⟨g, 0, none⟩ ∧ w.heap.size ≤ g ∧ w'.heap[g]? = some (.cells (grV (cpF fs)) 98 (0, 0))) ∨ (newOk fs = false ∧ G = none ∧ r = 1))

set_option maxHeartbeats 8000000 in
set_option maxRecDepth 100000 in
theorem xnew (A : Option Addr) (c : Nat) (fs : List Fl) (w : World) (F : Flows w A fs) : Calls Try.prog 23 #[.slice A fs.length c] w fun e w' => ∃ G r, e = .returned (.tuple #[.pointer G, .int .i64 r]) ∧ NewRet w w' fs G r := by
  have HF := AsideA.mk F
  have hlen := F.len
  obtain ⟨len, hl⟩ : ∃ len, len = fs.length := ⟨_, rfl⟩
  rw [← hl] at hlen ⊢
  have HL := AsideA.mk hl
  clear hl F
  go_enter Try.func23, Try.ntmps23
  go_wp2_with (first
    | ((with_reducible refine gate (N := 8) rfl ?_); refine build_to 98 _ rfl rfl _ built98 ?_)
    | ((with_reducible refine gate (N := 9) rfl ?_); refine box_new 98 _ rfl rfl _ rfl _ rfl ?_; intro gg w1 N1)
    | ((with_reducible refine gate (N := 5) rfl ?_); refine alloc_new 99 rfl rfl _ zero99 _ rfl ?_; intro gt w2 N2; have I0 : AsideA (NewAt w w2 gg gt (fs.take 0)) := ⟨⟨blk_below N1.blk N2.below, N2.blk, N1.ge (Below.refl _ _), N2.ge (below_new (Below.refl _ _) N1), below_new (below_new (Below.refl _ _) N1) N2, by simp⟩⟩; clear N1 N2))
  go_loopw [12] (fun i wr => ∃ k : Nat, k ≤ len ∧ i = .int .i64 k ∧ AsideA (NewAt w wr gg gt (fs.take k) ∧ ∀ j x, j < k → fs[j]? = some x → okF x = true ∧ pairIn (fs.take j) x.f x.t = false)) (fun i _ => len - (intOf i).toNat)
  case atStart => exact ⟨0, by omega, rfl, ⟨I0.out, fun j x h => by omega⟩⟩
  case round =>
    clear I0
    obtain ⟨k, hk, rfl, I⟩ := hrel
    by_cases hlt : k < len
    · obtain ⟨g, off, ⟨f, t, n⟩, rfl, hek, hwf, hc⟩ := (HF.out.below I.out.1.below).get k (by have := HL.out; omega)
      have HEK := AsideA.mk hek
      have HCC := AsideA.mk hc
      have HWF := AsideA.mk hwf
      have HBX := AsideA.mk (fun (W : World) (ge : Nat) (h : W.heap[ge]? = some (.cells (encW ⟨f, t, n⟩) 32 (0, 0))) => show W.cell? ⟨ge, 0, none⟩ = some (.int .u8 (f : Int)) ∧ W.cell? ⟨ge, 1, none⟩ = some (.int .u8 (t : Int)) ∧ W.cell? ⟨ge, 2, none⟩ = some (.int .i64 n) from ⟨(blk_cell h 0).trans rfl, (blk_cell h 1).trans rfl, (blk_cell h 2).trans rfl⟩)
      clear hek hc hwf
      have CF := AsideA.mk (gmay f)
      have CT := AsideA.mk (gmay t)
      have HBAD := AsideA.mk (fun (h : okF ⟨f, t, n⟩ = false ∨ pairIn (fs.take k) f t = true) => newOk_false fs k ⟨f, t, n⟩ HEK.out h)
      have HOKF := AsideA.mk (show okF ⟨f, t, n⟩ = (okp f && okp t && !(f == t) && decide (0 ≤ n) && decide (n ≤ 2199023255552)) from rfl)
      go_wp2_with (first
        | ((with_reducible refine gate (N := 15) rfl ?_); refine load_at 32 (.tmp 14) rfl rfl g (off + k * 3) rfl (encW ⟨f, t, n⟩) _ Try.underlying32 rfl info32s HCC.out ?_)
        | ((with_reducible refine gate (N := 7) rfl ?_); refine alloc_new 32 rfl rfl _ zero32 _ rfl ?_; intro ge w4 N4)
        | (refine store_at 32 (.tmp 7) (.tmp 15) rfl rfl ge 0 rfl (encW ⟨f, t, n⟩) rfl _ _ N4.blk info32s (Nat.le_refl 3) (encW_one _) (encW ⟨f, t, n⟩) (splice_all _ _ rfl) ?_; intro w5 b5 u5; have Z5 := AsideA.mk (And.intro b5 (I.out.1.later (u5.below N4.below (Nat.le_of_eq N4.at_.symm)))); have B5 := AsideA.mk (And.intro N4.at_ (blk_lt I.out.1.gr)); obtain ⟨e0, e1, e2⟩ := HBX.out w5 ge b5; clear b5 u5)
        | fail)
      cases hf : okp f with
      | false =>
        have HB := AsideA.mk (HBAD.out (.inl (by rw [HOKF.out, hf]; rfl)))
        rw [hf] at CF
        clear hf
        refine CF.out _ |>.mono ?_
        rintro e w' ⟨rfl, rfl⟩
        go_wp2
        go_ret2
        exact ⟨_, _, rfl, Z5.out.2.below, .inr ⟨HB.out, rfl, rfl⟩⟩
      | true =>
      cases ht : okp t with
      | false =>
        have HB := AsideA.mk (HBAD.out (.inl (by rw [HOKF.out, hf, ht]; rfl)))
        rw [hf] at CF
        rw [ht] at CT
        clear hf ht
        refine CF.out _ |>.mono ?_
        rintro e w' ⟨rfl, rfl⟩
        go_wp2_with fail
        refine CT.out _ |>.mono ?_
        rintro e w' ⟨rfl, rfl⟩
        go_wp2
        go_ret2
        exact ⟨_, _, rfl, Z5.out.2.below, .inr ⟨HB.out, rfl, rfl⟩⟩
      | true =>
      rw [hf] at CF HOKF
      rw [ht] at CT HOKF
      have kf : 1 ≤ f ∧ f ≤ 16 := of_decide_eq_true hf
      have kt : 1 ≤ t ∧ t ≤ 16 := of_decide_eq_true ht
      clear hf ht
      refine CF.out _ |>.mono ?_
      rintro e w' ⟨rfl, rfl⟩
      go_wp2_with fail
      refine CT.out _ |>.mono ?_
      rintro e w' ⟨rfl, rfl⟩
      by_cases hft : f = t
      · subst hft
        have HB := AsideA.mk (HBAD.out (.inl (by rw [HOKF.out]; simp)))
        go_wp2
        go_ret2
        exact ⟨_, _, rfl, Z5.out.2.below, .inr ⟨HB.out, rfl, rfl⟩⟩
      have d1 : ((f : Int) == (t : Int)) = false := beq_eq_false_iff_ne.mpr (by omega)
      by_cases hn0 : n < 0
      · have d2 : decide (n < 0) = true := decide_eq_true hn0
        have HB := AsideA.mk (HBAD.out (.inl (by rw [HOKF.out]; simp; omega)))
        go_wp2
        go_ret2
        exact ⟨_, _, rfl, Z5.out.2.below, .inr ⟨HB.out, rfl, rfl⟩⟩
      have d2 : decide (n < 0) = false := decide_eq_false hn0
      by_cases hn1 : 2199023255552 < n
      · have d3 : decide (2199023255552 < n) = true := decide_eq_true hn1
        have HB := AsideA.mk (HBAD.out (.inl (by rw [HOKF.out]; simp; omega)))
        go_wp2
        go_ret2
        exact ⟨_, _, rfl, Z5.out.2.below, .inr ⟨HB.out, rfl, rfl⟩⟩
      have d3 : decide (2199023255552 < n) = false := decide_eq_false hn1
      have OK : AsideA (okF ⟨f, t, n⟩ = true) := ⟨by rw [HOKF.out]; simp; omega⟩
      have TP := told_pair _ (fs.take k) rfl (fun x hx => by have := (okF_iff x).1 (I.out.1.ok x hx); omega) f t kf.2 kt.2
      have ct := (blk_cell Z5.out.2.td (f * 17 + t)).trans (toldV_at _ _ (by rw [toldF_len]; omega))
      rw [TP] at ct
      clear TP
      have f0 : (0 : Int) ≤ (f : Int) := by omega
      have f1 : (f : Int) < 17 := by omega
      have t0 : (0 : Int) ≤ (t : Int) := by omega
      have t1 : (t : Int) < 17 := by omega
      cases hp : pairIn (fs.take k) f t with
      | true =>
        have HB := AsideA.mk (HBAD.out (.inr hp))
        rw [hp] at ct
        clear hp
        go_wp2
        go_quiet (fail)
        go_wp2
        go_ret2
        exact ⟨_, _, rfl, Z5.out.2.below.trans (below_drewN _ _ |>.mono Z5.out.2.below.size), .inr ⟨HB.out, rfl, rfl⟩⟩
      | false =>
        have HP := AsideA.mk hp
        rw [hp] at ct
        clear hp
        have cc := (blk_cell Z5.out.2.gr (f * 17 + t)).trans (grV_at _ _ (by rw [cpF_len]; omega))
        have ft := blk_frozen Z5.out.2.td (f * 17 + t)
        have fg := blk_frozen Z5.out.2.gr (f * 17 + t)
        have TK := AsideA.mk (take_step fs k _ HEK.out)
        have ST : AsideA (∀ m, NewAt w (((w5.drewN m).setCell ⟨gt, f * 17 + t, none⟩ (.bool true)).setCell ⟨gg, f * 17 + t, none⟩ (.int .i64 n)) gg gt (fs.take (k + 1))) := ⟨fun m => by
          rw [TK.out]
          exact NewAt.step (x := ⟨f, t, n⟩) (Z5.out.2.later (below_drewN w5 m)) OK.out⟩
        have NX : AsideA (∀ (j : Nat) (x : Fl), j < k + 1 → fs[j]? = some x → okF x = true ∧ pairIn (List.take j fs) x.f x.t = false) := ⟨fun j x hj hx => by
          by_cases ej : j = k
          · subst ej
            rw [HEK.out] at hx
            cases hx
            exact ⟨OK.out, HP.out⟩
          · exact I.out.2 j x (by omega) hx⟩
        have hne : ¬ gg = gt := Z5.out.2.ne
        have hne2 : ¬ gt = gg := Ne.symm hne
        go_wp2
        go_quiet (fail)
        go_wp2
        go_region
        clear ct cc ft fg e0 e1 e2
        go_wp2
        exact ⟨⟨k + 1, by omega, by go_num, ⟨ST.out _, NX.out⟩⟩, by simp [intOf]; omega⟩
    · have e : fs.take k = fs := List.take_of_length_le (by have := HL.out; omega)
      rw [e] at I
      have NK : AsideA (newOk fs = true) := ⟨newOk_true fs fun j x hx => I.out.2 j x (by have := (List.getElem?_eq_some_iff.1 hx).1; have := HL.out; omega) hx⟩
      clear e
      go_wp2
      go_ret2
      exact ⟨_, _, rfl, I.out.1.below, .inl ⟨NK.out, rfl, gg, rfl, I.out.1.ge, I.out.1.gr⟩⟩
end Go.Proofs.Ytjopmkfpghdlpaa.A

