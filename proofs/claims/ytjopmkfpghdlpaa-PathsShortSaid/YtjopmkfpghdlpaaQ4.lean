/-
  slices.DeleteFunc, for edges.
-/
import Derived.Test.YtjopmkfpghdlpaaQ3
namespace Go.Proofs.Ytjopmkfpghdlpaa.A
set_option linter.unusedVariables false
set_option linter.unusedSimpArgs false
open Go.RowKit

theorem EdBlk.edges {w : World} {g : Nat} {L : List Ed} {tl : List Value} (h : EdBlk w g L tl) (hwf : ∀ e ∈ L, e.wf) (hl : (L.length : Int) ≤ 1099511627776) : Edges w (some ⟨g, 0, none⟩) L :=
  ⟨Reads.of_block h _ (fun j u hu => by
    rw [Nat.zero_add, List.getElem?_toArray, List.getElem?_append_left (List.getElem?_eq_some_iff.1 hu).1]
    exact hu), hwf, hl⟩
theorem EdBlk.below {w w1 : World} {g : Nat} {L : List Ed} {tl : List Value} (h : EdBlk w g L tl) (k : Below w.heap.size w w1) : EdBlk w1 g L tl := blk_below h k

/-- how far the list is gone through: those kept, some that are no more wanted, those still to come -/
structure DelAt (W w : World) (g : Nat) (L : List Ed) (tl : List Value) (k kk : Nat) : Prop where
  num : kk = ((L.take k).filter okb).length
  lt : kk < k
  blk : ∃ M : List Ed, M.length = k - kk ∧ EdBlk w g ((L.take k).filter okb ++ M ++ L.drop k) tl
  grown : W.grownBy w (some g)
theorem DelAt.later {W w w1 : World} {g k kk : Nat} {L : List Ed} {tl : List Value} (h : DelAt W w g L tl k kk) (b : Below w.heap.size w w1) : DelAt W w1 g L tl k kk :=
  ⟨h.num, h.lt, by obtain ⟨M, h1, h2⟩ := h.blk; exact ⟨M, h1, h2.below b⟩, grown_below h.grown b⟩
theorem DelAt.next {W w : World} {g k kk : Nat} {L : List Ed} {tl : List Value} (h : DelAt W w g L tl k kk) (e : Ed) (hk : L[k]? = some e) : ∃ M : List Ed, ∃ C : List Ed, C[k]? = some e ∧ EdBlk w g C tl ∧ C.length = L.length ∧ C = (L.take k).filter okb ++ M ++ L.drop k ∧ M.length = k - kk := by
  obtain ⟨M, h1, h2⟩ := h.blk
  have hlt := (List.getElem?_eq_some_iff.1 hk).1
  have hn := h.num
  have hl := h.lt
  refine ⟨M, _, ?_, h2, ?_, rfl, h1⟩
  · rw [List.getElem?_append_right (by simp; omega)]
    simp only [List.length_append, List.getElem?_drop, h1, ← hn]
    rw [show k + (k - (kk + (k - kk))) = k by omega]
    exact hk
  · simp only [List.length_append, List.length_drop, h1, ← hn]
    omega
theorem DelAt.skip {W w : World} {g k kk : Nat} {L : List Ed} {tl : List Value} (h : DelAt W w g L tl k kk) (e : Ed) (hk : L[k]? = some e) (hb : okb e = false) : DelAt W w g L tl (k + 1) kk := by
  obtain ⟨M, h1, h2⟩ := h.blk
  have hlt := (List.getElem?_eq_some_iff.1 hk).1
  have ef : (L.take (k + 1)).filter okb = (L.take k).filter okb := by
    rw [List.take_add_one, hk, List.filter_append]
    simp [hb]
  have hx := h.lt
  refine ⟨by rw [ef]; exact h.num, by have := h.lt; omega, ?_, h.grown⟩
  refine ⟨M ++ [e], by simp [h1]; omega, ?_⟩
  rw [ef]
  have hd : L.drop k = e :: L.drop (k + 1) := by
    rw [List.drop_eq_getElem_cons hlt]
    congr 1
    exact (List.getElem?_eq_some_iff.1 hk).2
  rw [hd] at h2
  simpa using h2
theorem DelAt.keep {W w w1 : World} {g k kk : Nat} {L C M : List Ed} {tl : List Value} (h : DelAt W w g L tl k kk) (e : Ed) (hk : L[k]? = some e) (hb : okb e = true) (hC : C = (L.take k).filter okb ++ M ++ L.drop k) (hM : M.length = k - kk)
    (h1 : EdBlk w1 g (C.set kk e) tl) (hu : Upd w w1 g) : DelAt W w1 g L tl (k + 1) (kk + 1) := by
  have hlt := (List.getElem?_eq_some_iff.1 hk).1
  have ef : (L.take (k + 1)).filter okb = (L.take k).filter okb ++ [e] := by
    rw [List.take_add_one, hk, List.filter_append]
    simp [hb]
  have hx := h.lt
  have hn := h.num
  obtain ⟨m0, M', rfl⟩ : ∃ m0 M', M = m0 :: M' := by
    cases M with
    | nil => simp at hM; omega
    | cons m0 M' => exact ⟨m0, M', rfl⟩
  have hd : L.drop k = e :: L.drop (k + 1) := by
    rw [List.drop_eq_getElem_cons hlt]
    congr 1
    exact (List.getElem?_eq_some_iff.1 hk).2
  simp only [List.length_cons] at hM
  refine ⟨by rw [ef, List.length_append, ← hn]; rfl, by omega, ⟨M' ++ [e], by simp; omega, ?_⟩, grown_upd h.grown hu⟩
  rw [ef]
  have e1 : C.set kk e = (L.take k).filter okb ++ [e] ++ (M' ++ [e]) ++ L.drop (k + 1) := by
    rw [hC, hd, List.append_assoc, List.set_append_right _ _ (by omega), hn, Nat.sub_self]
    simp
  rw [← e1]
  exact h1
theorem DelAt.start {w w0 : World} {g j : Nat} {L : List Ed} {tl : List Value} (h : EdBlk w g L tl) (hg : w0.grownBy w (some g)) (x : Ed) (hx : L[j]? = some x) (hb : okb x = false) (ha : ∀ i y, i < j → L[i]? = some y → okb y = true) : DelAt w0 w g L tl (j + 1) j := by
  have hlt := (List.getElem?_eq_some_iff.1 hx).1
  have ef : (L.take (j + 1)).filter okb = L.take j := by
    rw [List.take_add_one, hx, List.filter_append]
    simp only [Option.toList, List.filter_cons, hb, List.filter_nil]
    rw [List.filter_eq_self.2]
    · simp
    · intro y hy
      obtain ⟨i, hi⟩ := List.getElem?_of_mem hy
      rw [List.getElem?_take] at hi
      split at hi
      · exact ha i y (by assumption) hi
      · cases hi
  refine ⟨by rw [ef, List.length_take]; omega, by omega, ⟨[x], by simp, ?_⟩, hg⟩
  rw [ef]
  have hd : L = L.take j ++ [x] ++ L.drop (j + 1) := by
    have := List.take_append_drop (j + 1) L
    rw [List.take_add_one, hx] at this
    simpa using this.symm
  rw [← hd]
  exact h

set_option maxHeartbeats 4000000 in
set_option maxRecDepth 100000 in
theorem xdelete (g cap : Nat) (L : List Ed) (tl : List Value) (w : World) (hb : EdBlk w g L tl) (hcap : cap * 3 = L.length * 3 + tl.length) (hwf : ∀ e ∈ L, e.wf) (hlen : (L.length : Int) ≤ 1099511627776) (hcm : (cap : Int) ≤ 9223372036854775807) :
    Calls Try.prog 39 #[.slice (some ⟨g, 0, none⟩) L.length cap, .func (.func 41) #[] #[]] w fun e w' => e = .returned (.slice (some ⟨g, 0, none⟩) (L.filter okb).length cap) ∧ Edges w' (some ⟨g, 0, none⟩) (L.filter okb) ∧ w.grownBy w' (some g) := by
  have HB := AsideA.mk hb
  have HC := AsideA.mk hcap
  have HW := AsideA.mk hwf
  have hlc : L.length ≤ cap := by omega
  have CI := AsideA.mk (xindex (some ⟨g, 0, none⟩) cap L w (hb.edges hwf hlen))
  have HF := AsideA.mk (List.length_filter_le okb L)
  obtain ⟨len, hl⟩ : ∃ len, len = L.length := ⟨_, rfl⟩
  rw [← hl] at hlc CI ⊢
  have HL := AsideA.mk hl
  have hlen2 : (len : Int) ≤ 1099511627776 := by omega
  clear hlen
  have hlc2 : (len : Int) ≤ (cap : Int) := by omega
  clear hl hb hcap hwf
  go_enter Try.func39, Try.ntmps39
  go_wp2_with fail
  refine CI.out.mono ?_
  rintro e w1 ⟨⟨r, rfl, hr⟩, hb1⟩
  have B1 := AsideA.mk hb1
  clear hb1 CI
  rcases hr with ⟨rfl, hall⟩ | ⟨j, rfl, hjl, hpre, x, hx, hbad⟩
  · have e1 : L.filter okb = L := List.filter_eq_self.2 hall
    have E1 := AsideA.mk e1
    clear e1 hall
    go_wp2
    go_ret
    rw [E1.out, ← HL.out]
    exact ⟨rfl, (HB.out.below B1.out).edges HW.out (by have := HL.out; omega), grown_below (World.grownBy.refl w _) B1.out⟩
  · have D0 := AsideA.mk (DelAt.start (HB.out.below B1.out) (grown_below (World.grownBy.refl w (some g)) B1.out) x hx hbad hpre)
    clear hpre hx hbad
    have dj : ((j : Int) == -1) = false := beq_eq_false_iff_ne.mpr (by omega)
    go_wp2
    go_loopw [5, 6] (fun i j wr => ∃ k kk : Nat, kk < k ∧ k ≤ len ∧ i = .int .i64 kk ∧ j = .int .i64 k ∧ AsideA (DelAt w wr g L tl k kk)) (fun _ j _ => len - (intOf j).toNat)
    case atStart => exact ⟨j + 1, j, by omega, by omega, rfl, by go_num, D0⟩
    case round =>
      obtain ⟨k, kk, hkk, hk, rfl, rfl, I⟩ := hrel
      clear D0
      by_cases hlt : k < len
      · obtain ⟨e, he⟩ : ∃ e, L[k]? = some e := ⟨L[k]'(by have := HL.out; omega), List.getElem?_eq_getElem _⟩
        obtain ⟨M, C, hck, hcb, hcl, hC, hM⟩ := I.out.next e he
        have HE := AsideA.mk he
        have HCK := AsideA.mk (hcb.at_ k e hck)
        have HCC := AsideA.mk (And.intro hcb (And.intro hcl (And.intro hC hM)))
        clear he hck hcb hcl hC hM
        have CB := AsideA.mk (xbad e)
        have HBX := AsideA.mk (fun (W : World) (ge : Nat) (h : W.heap[ge]? = some (.cells (encV e) 35 (0, 0))) => blk_at0 h)
        cases hr : okb e with
        | false =>
          have HR := AsideA.mk hr
          rw [hr] at CB
          clear hr
          go_wp2_with (first
            | ((with_reducible refine gate (N := 25) rfl ?_); refine load_at 35 (.tmp 24) rfl rfl g (k * 3) rfl (encV e) _ Try.underlying35 rfl info35s HCK.out ?_)
            | ((with_reducible refine gate (N := 7) rfl ?_); refine alloc_new 35 rfl rfl _ zero35 _ rfl ?_; intro ge w4 N4)
            | ((with_reducible refine gate (N := 27) rfl ?_); refine load_at 35 (.tmp 7) rfl rfl ge 0 rfl (encV e) _ Try.underlying35 rfl info35s (HBX.out _ ge B5.out) ?_)
            | (go_at_call 41; refine (CB.out _).mono ?_; rintro e1 w6 ⟨rfl, hq⟩; have B6 := AsideA.mk hq; clear hq)
            | (refine store_at 35 (.tmp 7) (.tmp 25) rfl rfl ge 0 rfl (encV e) rfl _ _ N4.blk info35s (Nat.le_refl 3) (encV_one _) (encV e) (splice_all _ _ rfl) ?_; intro w5 b5 u5; have B5 := AsideA.mk b5; have U5 := AsideA.mk (u5.below N4.below (Nat.le_of_eq N4.at_.symm)); clear b5 u5))
          exact ⟨⟨k + 1, kk, by omega, by omega, rfl, by go_num, ⟨((I.out.later U5.out).later B6.out).skip e HE.out HR.out⟩⟩, by simp [intOf]; omega⟩
        | true =>
          have HR := AsideA.mk hr
          rw [hr] at CB
          clear hr
          go_wp2_with (first
            | ((with_reducible refine gate (N := 25) rfl ?_); refine load_at 35 (.tmp 24) rfl rfl g (k * 3) rfl (encV e) _ Try.underlying35 rfl info35s HCK.out ?_)
            | ((with_reducible refine gate (N := 7) rfl ?_); refine alloc_new 35 rfl rfl _ zero35 _ rfl ?_; intro ge w4 N4)
            | ((with_reducible refine gate (N := 27) rfl ?_); refine load_at 35 (.tmp 7) rfl rfl ge 0 rfl (encV e) _ Try.underlying35 rfl info35s (HBX.out _ ge B5.out) ?_)
            | (go_at_call 41; refine (CB.out _).mono ?_; rintro e1 w6 ⟨rfl, hq⟩; have B6 := AsideA.mk hq; clear hq; have C6 := AsideA.mk ((HCC.out.1.below U5.out).below B6.out))
            | ((with_reducible refine gate (N := 32) rfl ?_); refine load_at 35 (.tmp 7) rfl rfl ge 0 rfl (encV e) _ Try.underlying35 rfl info35s (HBX.out _ ge (blk_below B5.out B6.out)) ?_)
            | ((with_reducible refine gate2 (.tmp 7) (.tmp 25) rfl ?_); refine store_at 35 (.tmp 7) (.tmp 25) rfl rfl ge 0 rfl (encV e) rfl _ _ N4.blk info35s (Nat.le_refl 3) (encV_one _) (encV e) (splice_all _ _ rfl) ?_; intro w5 b5 u5; have B5 := AsideA.mk b5; have U5 := AsideA.mk (u5.below N4.below (Nat.le_of_eq N4.at_.symm)); clear b5 u5)
            | ((with_reducible refine gate2 (.tmp 33) (.tmp 32) rfl ?_); go_loud (refine store_at 35 (.tmp 33) (.tmp 32) rfl rfl g (kk * 3) rfl (encV e) rfl _ _ C6.out info35s ?hle (encV_one _) _ (ed_splice C tl kk e ?hkk) ?_); (case hle => have := HCC.out.2.1; have := HL.out; have := encE_len C; simp only [List.size_toArray, List.length_append, encV]; simp; omega); (case hkk => have := HCC.out.2.1; have := HL.out; omega); intro w7 b7 u7; have Z7 := AsideA.mk (And.intro b7 u7); clear b7 u7))
          exact ⟨⟨k + 1, kk + 1, by omega, by omega, by go_num, by go_num, ⟨((I.out.later U5.out).later B6.out).keep e HE.out HR.out HCC.out.2.2.1 HCC.out.2.2.2 Z7.out.1 Z7.out.2⟩⟩, by simp [intOf]; omega⟩
      · obtain ⟨M, hM, hblk⟩ := I.out.blk
        have hnum := I.out.num
        have e1 : L.take k = L := List.take_of_length_le (by have := HL.out; omega)
        rw [e1] at hnum hblk
        rw [List.drop_eq_nil_of_le (by have := HL.out; omega), List.append_nil] at hblk
        have HN := AsideA.mk hnum
        have X := AsideA.mk hblk
        have XM := AsideA.mk hM
        have hke : k = len := by omega
        have hd1 : (kk : Int) < (len : Int) := by omega
        clear hnum e1 hblk hM
        subst hke
        go_wp2_with (go_loud (refine clear_at 29 35 (.tmp 38) rfl rfl Try.underlying29 _ zero35 ?h1 g (kk * 3) (k - kk) (cap - kk) rfl _ _ X.out ?hle ?_); (case h1 => simp [Value.oneCell', Value.cells]); (case hle => have := encE_len (L.filter okb ++ M); have := HN.out; have := XM.out; simp only [List.size_toArray, List.length_append, Value.cells] at *; simp; omega); intro w7 zs hz b7 u7; have Z7 := AsideA.mk (And.intro hz (And.intro b7 u7)); clear hz b7 u7)
        go_ret
        refine ⟨by rw [← HN.out]; rfl, ?_, grown_upd I.out.grown Z7.out.2.2⟩
        have h2 : EdBlk w7 g (L.filter okb) (zs ++ (encE (L.filter okb ++ M) ++ tl).drop (kk * 3 + (k - kk) * 3)) := by
          have h := Z7.out.2.1
          unfold EdBlk
          rw [h]
          congr 2
          apply congrArg List.toArray
          have e2 : (encE (L.filter okb ++ M) ++ tl).take (kk * 3) = encE (L.filter okb) := by
            have e3 := encE_len (L.filter okb)
            rw [encE_append, List.append_assoc, List.take_append_of_le_length (by have := HN.out; omega), List.take_of_length_le (by have := HN.out; omega)]
          show (encE (L.filter okb ++ M) ++ tl).take (kk * 3) ++ zs ++ _ = _
          rw [e2, List.append_assoc]
          rfl
        exact h2.edges (fun e he => HW.out e (List.mem_filter.1 he).1) (by have := HN.out; omega)
end Go.Proofs.Ytjopmkfpghdlpaa.A

