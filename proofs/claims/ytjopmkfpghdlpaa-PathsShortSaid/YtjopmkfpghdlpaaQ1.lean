/-
  paths.search.once: once through all edges.
-/
import Derived.Test.YtjopmkfpghdlpaaQ0
import Derived.IntWalk
namespace Go.Proofs.Ytjopmkfpghdlpaa.A
set_option linter.unusedVariables false
set_option linter.unusedSimpArgs false
open Go.RowKit

/-- what stands while the search goes -/
structure OnceAt (W w : World) (gs : Nat) (s : St) : Prop where
  blk : w.heap[gs]? = some (.cells (srch s) 81 (0, 0))
  grown : W.grownBy w (some gs)
theorem OnceAt.later {W w w1 : World} {gs : Nat} {s : St} (h : OnceAt W w gs s) (k : Below w.heap.size w w1) : OnceAt W w1 gs s := ⟨blk_below h.blk k, grown_below h.grown k⟩
theorem OnceAt.upd {W w w1 : World} {gs : Nat} {s s' : St} (h : OnceAt W w gs s) (hb : w1.heap[gs]? = some (.cells (srch s') 81 (0, 0))) (k : Upd w w1 gs) : OnceAt W w1 gs s' := ⟨hb, grown_upd h.grown k⟩

/-- the two stores of a step, in whatever order -/
def halfSt (st : St) (f t : Nat) (n : Int) (b1 b2 : Bool) : St := ⟨if b1 then st.d.set t n else st.d, if b2 then st.a.set t f else st.a, st.l⟩
structure RxAt (W : World) (gs ge : Nat) (e : Ed) (st : St) (n : Int) (ls : Array Bool) (w : World) : Prop where
  box : w.heap[ge]? = some (.cells (encV e) 35 (0, 0))
  blk : w.heap[gs]? = some (.cells (srch (halfSt st e.f e.t n (ls.getD 14 false) (ls.getD 18 false))) 81 (0, 0))
  grown : W.grownBy w (some gs)
  ne : ge ≠ gs
theorem RxAt.other {W w : World} {gs ge : Nat} {e : Ed} {st : St} {n : Int} {ls : Array Bool} (h : RxAt W gs ge e st n ls w) (i : Nat) (h1 : i ≠ 14) (h2 : i ≠ 18) : RxAt W gs ge e st n (ls.setIfInBounds i true) w :=
  ⟨h.box, by rw [getD_set_ne false h1, getD_set_ne false h2]; exact h.blk, h.grown, h.ne⟩
theorem getD_set_eq (ls : Array Bool) (i : Nat) (h : i < ls.size) : (ls.setIfInBounds i true).getD i false = true := by simp [h]
theorem half_len (st : St) (f t : Nat) (n : Int) (b1 b2 : Bool) (hl : st.d.length = 17) : (halfSt st f t n b1 b2).d.length = 17 := by
  unfold halfSt
  cases b1 <;> simp [hl]
theorem RxAt.putD {W w : World} {gs ge : Nat} {e : Ed} {st : St} {n : Int} {ls : Array Bool} (h : RxAt W gs ge e st n ls w) (hl : st.d.length = 17) (ht : e.t < 17) (hs : 14 < ls.size) : RxAt W gs ge e st n (ls.setIfInBounds 14 true) (w.setCell ⟨gs, e.t, none⟩ (.int .i64 n)) := by
  refine ⟨blk_set_other h.box _ _ h.ne, ?_, grown_upd h.grown (Upd.setCell w gs e.t _), h.ne⟩
  rw [blk_set h.blk, srch_set_d _ _ _ (half_len _ _ _ _ _ _ hl) ht, getD_set_eq ls 14 hs, getD_set_ne false (show 14 ≠ 18 by decide)]
  unfold halfSt
  cases ls.getD 14 false <;> simp
theorem RxAt.putA {W w : World} {gs ge : Nat} {e : Ed} {st : St} {n : Int} {ls : Array Bool} (h : RxAt W gs ge e st n ls w) (hl : st.d.length = 17) (ht : e.t < 17) (hs : 18 < ls.size) : RxAt W gs ge e st n (ls.setIfInBounds 18 true) (w.setCell ⟨gs, 17 + e.t, none⟩ (.int .u8 (e.f : Int))) := by
  refine ⟨blk_set_other h.box _ _ h.ne, ?_, grown_upd h.grown (Upd.setCell w gs (17 + e.t) _), h.ne⟩
  rw [blk_set h.blk, srch_set_a _ _ _ (half_len _ _ _ _ _ _ hl) ht, getD_set_eq ls 18 hs, getD_set_ne false (show 18 ≠ 14 by decide)]
  unfold halfSt
  cases ls.getD 18 false <;> simp
theorem RxAt.start {W w : World} {gs ge : Nat} {e : Ed} {st : St} {n : Int} (h1 : RxAt W gs ge e st n (Array.replicate 20 false) w) {ls : Array Bool} (hl : ∀ i, ls.getD i false = false) : RxAt W gs ge e st n ls w.drew := by
  have D : Below w.heap.size w w.drew := (Below.refl _ _).drew
  refine ⟨blk_below h1.box D, ?_, grown_below h1.grown D, h1.ne⟩
  rw [hl, hl]
  exact blk_below h1.blk D
theorem RxAt.c0 {W w : World} {gs ge : Nat} {e : Ed} {st : St} {n : Int} {ls : Array Bool} (h : RxAt W gs ge e st n ls w) : w.cell? ⟨ge, 0, none⟩ = some (.int .u8 (e.f : Int)) := (blk_cell h.box 0).trans rfl
theorem RxAt.c1 {W w : World} {gs ge : Nat} {e : Ed} {st : St} {n : Int} {ls : Array Bool} (h : RxAt W gs ge e st n ls w) : w.cell? ⟨ge, 1, none⟩ = some (.int .u8 (e.t : Int)) := (blk_cell h.box 1).trans rfl
theorem RxAt.cd {W w : World} {gs ge : Nat} {e : Ed} {st : St} {n : Int} {ls : Array Bool} (h : RxAt W gs ge e st n ls w) (hl : st.d.length = 17) (i : Nat) (hi : i < 17) : ∃ x, w.cell? ⟨gs, i, none⟩ = some x :=
  ⟨_, by rw [blk_cell h.blk, srch_d _ _ (half_len _ _ _ _ _ _ hl) hi]⟩
theorem half_lena (st : St) (f t : Nat) (n : Int) (b1 b2 : Bool) (hl : st.a.length = 17) : (halfSt st f t n b1 b2).a.length = 17 := by
  unfold halfSt
  cases b2 <;> simp [hl]
theorem RxAt.ca {W w : World} {gs ge : Nat} {e : Ed} {st : St} {n : Int} {ls : Array Bool} (h : RxAt W gs ge e st n ls w) (hl : st.d.length = 17) (hla : st.a.length = 17) (i : Nat) (hi : i < 17) : ∃ x, w.cell? ⟨gs, 17 + i, none⟩ = some x :=
  ⟨_, by rw [blk_cell h.blk, srch_a _ _ (half_len _ _ _ _ _ _ hl) (half_lena _ _ _ _ _ _ hla) hi]⟩

theorem foldl_step (es : List Ed) (s : St) (k : Nat) (e : Ed) (h : es[k]? = some e) : (es.take (k + 1)).foldl relax s = relax ((es.take k).foldl relax s) e := by
  rw [List.take_add_one, h, List.foldl_append]
  rfl

set_option maxHeartbeats 4000000 in
set_option maxRecDepth 100000 in
theorem xonce (gs : Nat) (A : Option Addr) (c : Nat) (es : List Ed) (s : St) (w : World) (K : w.heap[gs]? = some (.cells (srch s) 81 (0, 0))) (E : Edges w A es) (hA : ∀ a, A = some a → a.block ≠ gs) (ok : ∀ e ∈ es, e.ok) (ld : s.d.length = 17) (la : s.a.length = 17)
    (B : Int) (hB0 : 0 ≤ B) (hB : B + 128 * es.length ≤ 1000000000000000000) (hd : ∀ i, -B ≤ gi s.d i ∧ gi s.d i ≤ 0) :
    Calls Try.prog 43 #[.pointer (some ⟨gs, 0, none⟩), .slice A es.length c] w fun e w' => e = .returned (.int .u8 ((once es s).l : Int)) ∧ OnceAt w w' gs (once es s) := by
  have HE := AsideA.mk E
  have HK := AsideA.mk (show OnceAt w w gs { s with l := 0 } from ⟨K, World.grownBy.refl w _⟩)
  have hlen := E.len
  have HX := AsideA.mk (And.intro ok (And.intro ld (And.intro la (And.intro hd hA))))
  have HBD := AsideA.mk (fun (k : Nat) => fold_bd (es.take k) { s with l := 0 } B hB0 (fun e he => by have := E.wf e (List.mem_of_mem_take he); unfold Ed.wf at this; omega) ld la hd)
  have HLN := AsideA.mk (fun (k : Nat) => fold_len (es.take k) { s with l := 0 } ld la)
  have HBB := AsideA.mk hB
  obtain ⟨len, hl⟩ : ∃ len, len = es.length := ⟨_, rfl⟩
  rw [← hl] at hlen ⊢
  have HL := AsideA.mk hl
  clear hl E K ok ld la hd hB hA hB0
  unfold once
  go_enter Try.func43, Try.ntmps43
  go_wp2
  go_loopw [5, 11] (fun v i wr => ∃ k : Nat, k ≤ len ∧ i = .int .i64 k ∧ v = .int .u8 (((es.take k).foldl relax { s with l := 0 }).l : Int) ∧ AsideA (OnceAt w wr gs ((es.take k).foldl relax { s with l := 0 }))) (fun _ i _ => len - (intOf i).toNat)
  case atStart => exact ⟨0, by omega, rfl, rfl, HK⟩
  case round =>
    obtain ⟨k, hk, rfl, rfl, I⟩ := hrel
    clear HK
    by_cases hlt : k < len
    · have hk' : k < es.length := by have := HL.out; omega
      have HE2 : AsideA (Edges wr A es) := ⟨⟨by
        exact grown_reads (t := 35) (cs := #[]) I.out.grown HE.out.reads (fun a ha _ => HX.out.2.2.2.2 a ha), HE.out.wf, HE.out.len⟩⟩
      obtain ⟨g, off, e, rfl, hek, hwf, hc⟩ := HE2.out.get k hk'
      have HEK := AsideA.mk hek
      have HCC := AsideA.mk hc
      have hoke := HX.out.1 e (List.mem_of_getElem? hek)
      have ST := AsideA.mk (foldl_step es { s with l := 0 } k e hek)
      have bd1 := HBD.out k e.f
      have bd2 := HBD.out k e.t
      have hln := HLN.out k
      have hbb := HBB.out
      have hlk : (es.take k).length = k := by rw [List.length_take]; omega
      rw [hlk] at bd1 bd2
      have hlI : (k : Int) ≤ es.length := by omega
      generalize hst : (es.take k).foldl relax { s with l := 0 } = st at *
      obtain ⟨f, t, cst⟩ := e
      unfold Ed.wf at hwf
      unfold Ed.ok at hoke
      simp only at hwf hoke bd1 bd2
      obtain ⟨dx, hx⟩ : ∃ dx, dx = gi st.d f := ⟨_, rfl⟩
      obtain ⟨dy, hy⟩ : ∃ dy, dy = gi st.d t := ⟨_, rfl⟩
      rw [← hx] at bd1
      rw [← hy] at bd2
      have hx1 : -1000000000000000000 ≤ dx := by omega
      have hx2 : dx ≤ 0 := by omega
      have hy1 : -1000000000000000000 ≤ dy := by omega
      have hy2 : dy ≤ 0 := by omega
      have hc1 := hwf.2.2.1
      have hc2 := hwf.2.2.2
      have hf : f < 17 := by omega
      have ht : t < 17 := by omega
      have HO := AsideA.mk hoke
      have HXY := AsideA.mk (And.intro hx hy)
      have HLL := AsideA.mk hln
      have HST := AsideA.mk hst
      clear bd1 bd2 hbb hlk hlI hx hy hwf hoke hek hc hst hln
      go_wp2_with (first
        | ((with_reducible refine gate (N := 14) rfl ?_); refine load_at 35 (.tmp 13) rfl rfl g (off + k * 3) rfl (encV ⟨f, t, cst⟩) _ Try.underlying35 rfl info35s HCC.out ?_)
        | ((with_reducible refine gate (N := 7) rfl ?_); refine alloc_new 35 rfl rfl _ zero35 _ rfl ?_; intro ge w4 N4)
        | (go_loud (refine store_at 35 (.tmp 7) (.tmp 14) rfl rfl ge 0 rfl (encV ⟨f, t, cst⟩) rfl _ _ N4.blk info35s (Nat.le_refl 3) (encV_one _) (encV ⟨f, t, cst⟩) (splice_all _ _ rfl) ?_); intro w5 b5 u5))
      have B5 : Below wr.heap.size wr w5 := u5.below N4.below (Nat.le_of_eq N4.at_.symm)
      have I5 := I.out.later B5
      have e0 : w5.cell? ⟨ge, 0, none⟩ = some (.int .u8 (f : Int)) := (blk_cell b5 0).trans rfl
      have e1 : w5.cell? ⟨ge, 1, none⟩ = some (.int .u8 (t : Int)) := (blk_cell b5 1).trans rfl
      have e2 : w5.cell? ⟨ge, 2, none⟩ = some (.int .i8 cst) := (blk_cell b5 2).trans rfl
      have sx : w5.cell? ⟨gs, f, none⟩ = some (.int .i64 dx) := by rw [blk_cell I5.blk, srch_d _ _ HLL.out.1 hf, HXY.out.1]
      have sy : w5.cell? ⟨gs, t, none⟩ = some (.int .i64 dy) := by rw [blk_cell I5.blk, srch_d _ _ HLL.out.1 ht, HXY.out.2]
      have IS := AsideA.mk I5
      have NG : AsideA (ge ≠ gs) := ⟨by have := blk_lt I.out.blk; have := N4.at_; omega⟩
      have b5 := AsideA.mk b5
      clear I5 N4 u5 B5
      have hf0 : (0 : Int) ≤ (f : Int) := by omega
      have hf17 : (f : Int) < 17 := by omega
      have ht0 : (0 : Int) ≤ (t : Int) := by omega
      have ht17 : (t : Int) < 17 := by omega
      have hw0 : IntKind.i64.wrap cst = cst := by rw [IntWalk.i64_in _ (by omega)]
      have hw : IntKind.i64.wrap (dx + cst) = dx + cst := by rw [IntWalk.i64_in _ (by omega)]
      by_cases hc : dx + cst < dy
      · have hcd : decide (dx + cst < dy) = true := decide_eq_true hc
        go_wp2
        go_quiet (fail)
        go_wp2
        go_quiet (fail)
        clear e0 e1 e2 sx sy
        go_wp2
        have HW6 : AsideA (∀ m m2, RxAt w gs ge ⟨f, t, cst⟩ st (dx + cst) (Array.replicate 20 false) ((w5.drewN m).drewN m2)) := ⟨fun m m2 => by
          have D := (below_drewN w5 m).trans (below_drewN (w5.drewN m) m2)
          exact ⟨blk_below b5.out D, (IS.out.later D).blk, (IS.out.later D).grown, NG.out⟩⟩
        refine region_picked follows [35, 36, 37, 38, 39, 40, 41, 42, 43, 44, 45, 46, 47, 48, 49, 50, 51, 5] (fun (_y : Unit) => [(35, .pointer (some ⟨gs, 0, none⟩)), (36, .pointer (some ⟨ge, 1, none⟩)), (37, .int .u8 (t : Int)), (38, .pointer (some ⟨gs, 0, none⟩)), (39, .pointer (some ⟨ge, 1, none⟩)), (40, .int .u8 (t : Int)), (41, .int .i64 (dx + cst)), (42, .pointer (some ⟨ge, 0, none⟩)), (43, .int .u8 (f : Int)), (44, .pointer (some ⟨ge, 1, none⟩)), (45, .int .u8 (t : Int)), (46, .pointer (some ⟨gs, 0, none⟩)), (47, .pointer (some ⟨gs, 0, none⟩)), (48, .pointer (some ⟨gs, t, none⟩)), (49, .pointer (some ⟨gs, 0, none⟩)), (50, .pointer (some ⟨gs, 17, none⟩)), (51, .pointer (some ⟨gs, 17 + t, none⟩)), (5, .int .u8 (t : Int))]) (by intro _; rfl) _ (by intro _; simp only [actPuts]; go_simp; rfl) 54 rfl (by kernel_rfl)
          (fun (pk : Option (Unit)) (ls : Array Bool) (wz : World) => RxAt w gs ge ⟨f, t, cst⟩ st (dx + cst) ls wz) ?_ ?_ ?_
        · intro ls hl
          exact RxAt.start (HW6.out _ _) hl
        · refine ⟨?_, ?_, ?_, ?_, ?_, ?_, ?_, ?_, ?_, ?_, ?_, ?_, ?_, ?_, ?_, ?_, ?_, ?_, ?_, ?_, trivial⟩
          · intro pk ls wz x hs hl hn h hx
            exact opc_val rfl (v := .pointer (some ⟨gs, 0, none⟩)) (w' := wz) (by go_simp) rfl (fun _ => rfl) (h.other 0 (by decide) (by decide))
          · intro pk ls wz x hs hl hn h hx
            exact opc_val rfl (v := .pointer (some ⟨ge, 1, none⟩)) (w' := wz) (by go_simp) rfl (fun _ => rfl) (h.other 1 (by decide) (by decide))
          · intro pk ls wz x hs hl hn h hx
            have hc := h.c1
            exact opc_val rfl (v := .int .u8 (t : Int)) (w' := wz) (by go_simp) rfl (fun _ => rfl) (h.other 2 (by decide) (by decide))
          · intro pk ls wz x hs hl hn h hx
            exact opc_val rfl (v := .pointer (some ⟨gs, 0, none⟩)) (w' := wz) (by go_simp) rfl (fun _ => rfl) (h.other 3 (by decide) (by decide))
          · intro pk ls wz x hs hl hn h hx
            exact opc_val rfl (v := .pointer (some ⟨ge, 1, none⟩)) (w' := wz) (by go_simp) rfl (fun _ => rfl) (h.other 4 (by decide) (by decide))
          · intro pk ls wz x hs hl hn h hx
            have hc := h.c1
            exact opc_val rfl (v := .int .u8 (t : Int)) (w' := wz) (by go_simp) rfl (fun _ => rfl) (h.other 5 (by decide) (by decide))
          · intro pk ls wz x hs hl hn h hx
            exact opc_val rfl (v := .int .i64 (dx + cst)) (w' := wz) (by go_simp) rfl (fun _ => rfl) (h.other 6 (by decide) (by decide))
          · intro pk ls wz x hs hl hn h hx
            exact opc_val rfl (v := .pointer (some ⟨ge, 0, none⟩)) (w' := wz) (by go_simp) rfl (fun _ => rfl) (h.other 7 (by decide) (by decide))
          · intro pk ls wz x hs hl hn h hx
            have hc := h.c0
            exact opc_val rfl (v := .int .u8 (f : Int)) (w' := wz) (by go_simp) rfl (fun _ => rfl) (h.other 8 (by decide) (by decide))
          · intro pk ls wz x hs hl hn h hx
            exact opc_val rfl (v := .pointer (some ⟨ge, 1, none⟩)) (w' := wz) (by go_simp) rfl (fun _ => rfl) (h.other 9 (by decide) (by decide))
          · intro pk ls wz x hs hl hn h hx
            have hc := h.c1
            exact opc_val rfl (v := .int .u8 (t : Int)) (w' := wz) (by go_simp) rfl (fun _ => rfl) (h.other 10 (by decide) (by decide))
          · intro pk ls wz x hs hl hn h hx
            exact opc_val rfl (v := .pointer (some ⟨gs, 0, none⟩)) (w' := wz) (by go_simp) rfl (fun _ => rfl) (h.other 11 (by decide) (by decide))
          · intro pk ls wz x hs hl hn h hx
            exact opc_val rfl (v := .pointer (some ⟨gs, 0, none⟩)) (w' := wz) (by go_simp) rfl (fun _ => rfl) (h.other 12 (by decide) (by decide))
          · intro pk ls wz x hs hl hn h hx
            exact opc_val rfl (v := .pointer (some ⟨gs, t, none⟩)) (w' := wz) (by go_simp) rfl (fun _ => rfl) (h.other 13 (by decide) (by decide))
          · intro pk ls wz x hs hl hn h hx
            obtain ⟨y0, hc⟩ := h.cd HLL.out.1 t ht; have hz := blk_frozen h.blk t; exact opc_skip rfl (w' := wz.setCell ⟨gs, t, none⟩ (.int .i64 (dx + cst))) (by go_simp) rfl (h.putD HLL.out.1 ht (by rw [hs]; decide))
          · intro pk ls wz x hs hl hn h hx
            exact opc_val rfl (v := .pointer (some ⟨gs, 0, none⟩)) (w' := wz) (by go_simp) rfl (fun _ => rfl) (h.other 15 (by decide) (by decide))
          · intro pk ls wz x hs hl hn h hx
            exact opc_val rfl (v := .pointer (some ⟨gs, 17, none⟩)) (w' := wz) (by go_simp) rfl (fun _ => rfl) (h.other 16 (by decide) (by decide))
          · intro pk ls wz x hs hl hn h hx
            exact opc_val rfl (v := .pointer (some ⟨gs, 17 + t, none⟩)) (w' := wz) (by go_simp) rfl (fun _ => rfl) (h.other 17 (by decide) (by decide))
          · intro pk ls wz x hs hl hn h hx
            obtain ⟨y0, hc⟩ := h.ca HLL.out.1 HLL.out.2 t ht; have hz := blk_frozen h.blk (17 + t); exact opc_skip rfl (w' := wz.setCell ⟨gs, 17 + t, none⟩ (.int .u8 (f : Int))) (by go_simp) rfl (h.putA HLL.out.1 ht (by rw [hs]; decide))
          · intro pk ls wz x hs hl hn h hx
            exact opc_val rfl (v := .int .u8 (t : Int)) (w' := wz) (by go_simp) rfl (fun _ => rfl) (h.other 19 (by decide) (by decide))
        · intro pk ls wz x0 hd h hx
          have Z := AsideA.mk h
          have Z1 := AsideA.mk (And.intro (hd 14 (by decide)) (hd 18 (by decide)))
          clear hd h hx
          go_wp2
          have e2 : relax st ⟨f, t, cst⟩ = { halfSt st f t (dx + cst) true true with l := t } := by
            unfold relax halfSt
            rw [← HXY.out.1, ← HXY.out.2, if_pos (show dx + cst < dy from hc)]
            rfl
          refine ⟨⟨k + 1, by omega, by go_num, ?_, ⟨?_⟩⟩, by simp [intOf]; omega⟩
          · rw [ST.out, e2]
          · rw [ST.out, e2]
            have h2 := Z.out.blk
            rw [Z1.out.1, Z1.out.2] at h2
            exact ⟨h2, Z.out.grown⟩
      · have hcd : decide (dx + cst < dy) = false := decide_eq_false hc
        go_wp2
        go_quiet (fail)
        go_wp2
        go_quiet (fail)
        clear e0 e1 e2 sx sy
        go_wp2
        refine ⟨⟨k + 1, by omega, by go_num, ?_, ⟨?_⟩⟩, by simp [intOf]; omega⟩
        · rw [ST.out]; unfold relax; rw [← HXY.out.1, ← HXY.out.2, if_neg (show ¬ (dx + cst < dy) by omega)]
        · rw [ST.out]; unfold relax; rw [← HXY.out.1, ← HXY.out.2, if_neg (show ¬ (dx + cst < dy) by omega)]; exact IS.out.later (below_drewN _ _)
    · have e : es.take k = es := List.take_of_length_le (by have := HL.out; omega)
      rw [e] at I
      rw [e]
      clear e
      go_wp2
      go_ret
      exact ⟨rfl, I.out⟩
end Go.Proofs.Ytjopmkfpghdlpaa.A

