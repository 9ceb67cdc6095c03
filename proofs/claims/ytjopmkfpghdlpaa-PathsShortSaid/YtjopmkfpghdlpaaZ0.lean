/-
  The reference's Round (countinghouseref06.Round).
-/
import Derived.Test.YtjopmkfpghdlpaaQ8
import Derived.Test.YtjopmkfpghdlpaaX4
import Derived.RegionTactic
import Derived.ChangeAlike
import Derived.BigRegion
import Derived.Deep.LoopGhost
namespace Go.Proofs.Ytjopmkfpghdlpaa.A
set_option linter.unusedVariables false
set_option linter.unusedSimpArgs false
open Go.RowKit

def aV (a : List Nat) : Array Value := (enc8 a).toArray
theorem aV_at (a : List Nat) (i : Nat) (h : i < a.length) : (aV a)[i]? = some (.int .u8 (gn a i : Int)) := by
  unfold aV gn
  rw [List.getElem?_toArray, enc8_at a i a[i] (List.getElem?_eq_getElem h)]
  simp [List.getD_eq_getElem?_getD, h]
theorem aV_set (a : List Nat) (i x : Nat) : (aV a).setIfInBounds i (.int .u8 (x : Int)) = aV (a.set i x) := by
  unfold aV enc8
  rw [List.setIfInBounds_toArray, List.map_set]
theorem zero79 : (Try.prog.info? 79).bind (·.zero) = some (.agg (aV (List.replicate 17 0))) := by kernel_rfl
theorem zero43 : (Try.prog.info? 43).bind (·.zero) = some (.agg #[.int .u8 0, .int .u8 0, .int .i8 0]) := by kernel_rfl
theorem info43s : (Try.prog.info? 43).map (·.size) = some 3 := by kernel_rfl

/-- how the reference's search stands -/
structure RfAt (w wr : World) (gf ga : Nat) (s : St) : Prop where
  bf : wr.heap[gf]? = some (.cells (dV s.d) 55 (0, 0))
  ba : wr.heap[ga]? = some (.cells (aV s.a) 79 (0, 0))
  below : Below w.heap.size w wr
  gef : w.heap.size ≤ gf
  gea : w.heap.size ≤ ga
theorem RfAt.later {w wr w1 : World} {gf ga : Nat} {s : St} (h : RfAt w wr gf ga s) (k : Below wr.heap.size wr w1) : RfAt w w1 gf ga s := ⟨blk_below h.bf k, blk_below h.ba k, below_call h.below k, h.gef, h.gea⟩
theorem RfAt.ne {w wr : World} {gf ga : Nat} {s : St} (h : RfAt w wr gf ga s) : gf ≠ ga := by
  rintro rfl
  have h1 := h.bf
  rw [h.ba] at h1
  injection h1 with h1
  injection h1 with _ h1
  exact absurd h1 (by decide)
theorem RfAt.relax {w wr w1 : World} {gf ga : Nat} {s : St} {e : Ed} (h : RfAt w wr gf ga s) (n : Int) (hb : Below (wr.setCell ⟨gf, e.t, none⟩ (.int .i64 n)).heap.size (wr.setCell ⟨gf, e.t, none⟩ (.int .i64 n)) w1) :
    RfAt w (w1.setCell ⟨ga, e.t, none⟩ (.int .u8 (e.f : Int))) gf ga ⟨s.d.set e.t n, s.a.set e.t e.f, e.t⟩ := by
  have b1 : (wr.setCell ⟨gf, e.t, none⟩ (.int .i64 n)).heap[gf]? = some (.cells (dV (s.d.set e.t n)) 55 (0, 0)) := by rw [blk_set h.bf, dV_set]
  have b2 : (wr.setCell ⟨gf, e.t, none⟩ (.int .i64 n)).heap[ga]? = some (.cells (aV s.a) 79 (0, 0)) := blk_set_other h.ba _ _ h.ne.symm
  have b3 : Below w.heap.size w (wr.setCell ⟨gf, e.t, none⟩ (.int .i64 n)) := below_set h.below h.gef
  exact ⟨blk_set_other (blk_below b1 hb) _ _ h.ne, by rw [blk_set (blk_below b2 hb), aV_set], below_set (below_call b3 hb) h.gea, h.gef, h.gea⟩
theorem RfAt.grown {w wr w1 : World} {gf ga : Nat} {s : St} {n : Nat} {v : Value} {xs : List Value} (h : RfAt w wr gf ga s) (own : wr.ownsRow w.heap.size 30 1 v n xs) (hg : wr.grownBy w1 v.ownBlock) : RfAt w w1 gf ga s :=
  ⟨(hg.block gf (blk_lt h.bf) (own_ne own h.bf (by decide))).trans h.bf, (hg.block ga (blk_lt h.ba) (own_ne own h.ba (by decide))).trans h.ba, below_grown h.below h.below.size own hg, h.gef, h.gea⟩
theorem RfAt.cd {w wr : World} {gf ga : Nat} {s : St} (h : RfAt w wr gf ga s) (i : Nat) (hi : i < s.d.length) : wr.cell? ⟨gf, i, none⟩ = some (.int .i64 (gi s.d i)) := (blk_cell h.bf i).trans (dV_at _ i hi)
theorem RfAt.ca {w wr : World} {gf ga : Nat} {s : St} (h : RfAt w wr gf ga s) (i : Nat) (hi : i < s.a.length) : wr.cell? ⟨ga, i, none⟩ = some (.int .u8 (gn s.a i : Int)) := (blk_cell h.ba i).trans (aV_at _ i hi)

theorem fold_filter (es : List Ed) (k : Nat) (e : Ed) (s : St) (h : es[k]? = some e) : ((es.take (k + 1)).filter okb).foldl relax s = if okb e then relax (((es.take k).filter okb).foldl relax s) e else ((es.take k).filter okb).foldl relax s := by
  rw [List.take_add_one, h, List.filter_append, List.foldl_append]
  simp only [Option.toList, List.filter_cons, List.filter_nil]
  split <;> rfl
theorem leastOf_snoc (l : List Nat) (x : Nat) (h : l ≠ []) : leastOf (l ++ [x]) = Nat.min (leastOf l) x := by
  obtain ⟨a, r, rfl⟩ : ∃ a r, l = a :: r := by cases l with | nil => exact absurd rfl h | cons a r => exact ⟨a, r, rfl⟩
  unfold leastOf
  simp only [List.cons_append, List.tail_cons, List.headD_cons, List.foldl_append]
  rfl
/-- the parties ahead of y, the nearest one last -/
def downs (f : Nat → Nat) (y : Nat) : Nat → List Nat
  | 0 => []
  | k + 1 => iter f (k + 1) y :: downs f y k
theorem downs_len (f : Nat → Nat) (y : Nat) : ∀ k, (downs f y k).length = k
  | 0 => rfl
  | k + 1 => by rw [downs, List.length_cons, downs_len f y k]
theorem gn_downs (f : Nat → Nat) (y : Nat) : ∀ k i, i < k → gn (downs f y k) i = iter f (k - i) y
  | k + 1, 0, _ => rfl
  | k + 1, i + 1, h => by
    have := gn_downs f y k i (by omega)
    unfold gn at this ⊢
    rw [downs]
    simp only [List.getD_cons_succ]
    rw [this, show k + 1 - (i + 1) = k - i by omega]
theorem ring_downs {f : Nat → Nat} {y L : Nat} (h : Per f y L) : ringF f y L = y :: downs f y (L - 1) := by
  have hp := h.pos
  apply ext_gn (by rw [ringF_len, List.length_cons, downs_len]; omega)
  intro i hi
  rw [ringF_len] at hi
  rw [gn_ring hi]
  cases i with
  | zero => rw [Nat.sub_zero, h.back]; rfl
  | succ i =>
    have e : gn (y :: downs f y (L - 1)) (i + 1) = gn (downs f y (L - 1)) i := rfl
    rw [e, gn_downs f y _ _ (by omega), show L - (i + 1) = L - 1 - i by omega]

set_option maxHeartbeats 16000000 in
set_option maxRecDepth 100000 in
theorem ref_round (A : Option Addr) (c : Nat) (es : List Ed) (w : World) (E : Edges w A es) : Calls Try.prog 20 #[.slice A es.length c] w fun e w' => ∃ B n cap, e = .returned (.slice B n cap) ∧ PRet w w' B n cap (roundF (es.filter okb)) := by
  have HE := AsideA.mk E
  have hlen := E.len
  have HFL := AsideA.mk (fun k => show (((es.take k).filter okb).length : Int) ≤ k from by have := List.length_filter_le okb (es.take k); have := List.length_take_le k es; omega)
  have HO : AsideA (∀ e ∈ es.filter okb, e.ok) := ⟨fun e he => (okb_iff e).1 (List.mem_filter.1 he).2⟩
  have HW : AsideA (∀ e ∈ es.filter okb, -128 ≤ e.c ∧ e.c ≤ 127) := ⟨fun e he => by have := E.wf e (List.mem_filter.1 he).1; unfold Ed.wf at this; omega⟩
  have HW2 : AsideA (∀ k, ∀ e ∈ (es.take k).filter okb, -128 ≤ e.c ∧ e.c ≤ 127) := ⟨fun k e he => by have := E.wf e (List.mem_of_mem_take (List.mem_filter.1 he).1); unfold Ed.wf at this; omega⟩
  obtain ⟨len, hl⟩ : ∃ len, len = es.length := ⟨_, rfl⟩
  rw [← hl] at hlen ⊢
  have HL := AsideA.mk hl
  have HFE : AsideA (((es.filter okb).length : Int) ≤ len) := ⟨by have := List.length_filter_le okb es; omega⟩
  have HST := AsideA.mk (fun n (h1 : 1 ≤ n) (h16 : n ≤ 16) (h : (itr (es.filter okb) n).l = 0) => itr_still_l (es := es.filter okb) (fun e he => by have := HO.out e he; unfold Ed.ok at this; omega) h1 h16 h)
  clear hl E
  go_enter Try.func20, Try.ntmps20
  go_wp2_with (first
    | ((with_reducible refine gate (N := 3) rfl ?_); refine alloc_new 55 rfl rfl _ zero55 _ rfl ?_; intro gf w1 N1)
    | ((with_reducible refine gate (N := 4) rfl ?_); refine alloc_new 79 rfl rfl _ zero79 _ rfl ?_; intro ga w2 N2; have I0 : AsideA (RfAt w w2 gf ga s0) := ⟨⟨blk_below N1.blk N2.below, N2.blk, below_new (below_new (Below.refl _ _) N1) N2, N1.ge (Below.refl _ _), N2.ge (below_new (Below.refl _ _) N1)⟩⟩; clear N1 N2))
  go_loopw [5, 6] (fun v i wr => ∃ k : Nat, k ≤ 16 ∧ i = .int .i64 (k : Int) ∧ v = .int .u8 ((itr (es.filter okb) k).l : Int) ∧ AsideA (RfAt w wr gf ga (itr (es.filter okb) k) ∧ (1 ≤ k → (itr (es.filter okb) k).l ≠ 0))) (fun _ i _ => 16 - (intOf i).toNat)
  case atStart => exact ⟨0, by omega, rfl, rfl, ⟨I0.out, fun h => by omega⟩⟩
  case round =>
    clear I0
    obtain ⟨n, hn, rfl, rfl, I⟩ := hrel
    by_cases hlt : n < 16
    · have dn : decide ((n : Int) < 16) = true := decide_eq_true (by omega)
      have HBD := AsideA.mk (fun (k : Nat) => fold_bd ((es.take k).filter okb) { itr (es.filter okb) n with l := 0 } (128 * (es.filter okb).length * n) (Int.mul_nonneg (by omega) (by omega)) (HW2.out k) (itr_len _ n).1 (itr_len _ n).2 (itr_bd (es.filter okb) HW.out n))
      have HLN := AsideA.mk (fun (k : Nat) => fold_len ((es.take k).filter okb) { itr (es.filter okb) n with l := 0 } (itr_len _ n).1 (itr_len _ n).2)
      have hmul : (128 * (es.filter okb).length * n : Int) ≤ 128 * (es.filter okb).length * 16 := Int.mul_le_mul_of_nonneg_left (by omega) (by omega)
      have HMUL := AsideA.mk hmul
      have HK := AsideA.mk (show once (es.filter okb) (itr (es.filter okb) n) = itr (es.filter okb) (n + 1) from rfl)
      obtain ⟨s, hs⟩ : ∃ s, s = { itr (es.filter okb) n with l := 0 } := ⟨_, rfl⟩
      have HS := AsideA.mk hs
      have I1 : AsideA (RfAt w wr gf ga (((es.take 0).filter okb).foldl relax s)) := ⟨by rw [hs]; exact ⟨I.out.1.bf, I.out.1.ba, I.out.1.below, I.out.1.gef, I.out.1.gea⟩⟩
      have hl0 : (((es.take 0).filter okb).foldl relax s).l = 0 := by rw [hs]; rfl
      have HL0 := AsideA.mk hl0
      rw [← hs] at HBD HLN
      clear hmul hs hl0
      go_wp2
      go_loopw [5, 7] (fun v i wz => ∃ k : Nat, k ≤ len ∧ i = .int .i64 (k : Int) ∧ v = .int .u8 ((((es.take k).filter okb).foldl relax s).l : Int) ∧ AsideA (RfAt w wz gf ga (((es.take k).filter okb).foldl relax s))) (fun _ i _ => len - (intOf i).toNat)
      case atStart => exact ⟨0, by omega, rfl, by rw [HL0.out]; rfl, I1⟩
      case round =>
        clear I1 I
        obtain ⟨k, hk, rfl, rfl, I⟩ := hrel
        by_cases hlt2 : k < len
        · obtain ⟨g, off, ⟨f, t, cst⟩, rfl, hek, hwf, hc⟩ := (HE.out.below I.out.below).get k (by have := HL.out; omega)
          have HEK := AsideA.mk (fold_filter es k ⟨f, t, cst⟩ s hek)
          have HCC := AsideA.mk hc
          unfold Ed.wf at hwf
          simp only at hwf
          have hc1 := hwf.2.2.1
          have hc2 := hwf.2.2.2
          have HBX := AsideA.mk (fun (W : World) (ge : Nat) (h : W.heap[ge]? = some (.cells (encV ⟨f, t, cst⟩) 43 (0, 0))) => show W.cell? ⟨ge, 0, none⟩ = some (.int .u8 (f : Int)) ∧ W.cell? ⟨ge, 1, none⟩ = some (.int .u8 (t : Int)) ∧ W.cell? ⟨ge, 2, none⟩ = some (.int .i8 cst) from ⟨(blk_cell h 0).trans rfl, (blk_cell h 1).trans rfl, (blk_cell h 2).trans rfl⟩)
          have HKB : AsideA (okb ⟨f, t, cst⟩ = decide (1 ≤ f ∧ f ≤ 16 ∧ 1 ≤ t ∧ t ≤ 16)) := ⟨by
            rw [Bool.eq_iff_iff, okb_iff, decide_eq_true_iff]
            exact Iff.rfl⟩
          clear hek hwf hc
          by_cases hall : 1 ≤ f ∧ f ≤ 16 ∧ 1 ≤ t ∧ t ≤ 16
          case neg =>
            have hb : okb ⟨f, t, cst⟩ = false := by rw [HKB.out]; exact decide_eq_false hall
            have HN := AsideA.mk hall
            have HB := AsideA.mk hb
            clear hall hb
            generalize hst : ((es.take k).filter okb).foldl relax s = st at *
            have HST2 := AsideA.mk hst
            clear hst
            by_cases q1 : f < 1
            · have d1 : decide ((f : Int) < 1) = true := decide_eq_true (by omega)
              go_wp2_with (first
                | ((with_reducible refine gate (N := 27) rfl ?_); refine load_at 43 (.tmp 26) rfl rfl g (off + k * 3) rfl (encV ⟨f, t, cst⟩) _ Try.underlying43 rfl info43s HCC.out ?_)
                | ((with_reducible refine gate (N := 8) rfl ?_); refine alloc_new 43 rfl rfl _ zero43 _ rfl ?_; intro ge w4 N4)
                | (refine store_at 43 (.tmp 8) (.tmp 27) rfl rfl ge 0 rfl (encV ⟨f, t, cst⟩) rfl _ _ N4.blk info43s (Nat.le_refl 3) (encV_one _) (encV ⟨f, t, cst⟩) (splice_all _ _ rfl) ?_; intro w5 b5 u5; have Z5 := AsideA.mk (I.out.later (u5.below N4.below (Nat.le_of_eq N4.at_.symm))); have BX := AsideA.mk b5; have NG := AsideA.mk (show ge ≠ gf ∧ ge ≠ ga by have := blk_lt I.out.bf; have := blk_lt I.out.ba; have := N4.at_; omega); obtain ⟨e0, e1, e2⟩ := HBX.out w5 ge b5; clear b5 u5 N4)
                | fail)
              exact ⟨⟨k + 1, by omega, by go_num, by rw [HEK.out, HB.out]; rfl, by rw [HEK.out, HB.out]; exact Z5⟩, by simp [intOf]; omega⟩
            have d1 : decide ((f : Int) < 1) = false := decide_eq_false (by omega)
            by_cases q2 : 16 < f
            · have d2 : decide ((16 : Int) < (f : Int)) = true := decide_eq_true (by omega)
              go_wp2_with (first
                | ((with_reducible refine gate (N := 27) rfl ?_); refine load_at 43 (.tmp 26) rfl rfl g (off + k * 3) rfl (encV ⟨f, t, cst⟩) _ Try.underlying43 rfl info43s HCC.out ?_)
                | ((with_reducible refine gate (N := 8) rfl ?_); refine alloc_new 43 rfl rfl _ zero43 _ rfl ?_; intro ge w4 N4)
                | (refine store_at 43 (.tmp 8) (.tmp 27) rfl rfl ge 0 rfl (encV ⟨f, t, cst⟩) rfl _ _ N4.blk info43s (Nat.le_refl 3) (encV_one _) (encV ⟨f, t, cst⟩) (splice_all _ _ rfl) ?_; intro w5 b5 u5; have Z5 := AsideA.mk (I.out.later (u5.below N4.below (Nat.le_of_eq N4.at_.symm))); have BX := AsideA.mk b5; have NG := AsideA.mk (show ge ≠ gf ∧ ge ≠ ga by have := blk_lt I.out.bf; have := blk_lt I.out.ba; have := N4.at_; omega); obtain ⟨e0, e1, e2⟩ := HBX.out w5 ge b5; clear b5 u5 N4)
                | fail)
              exact ⟨⟨k + 1, by omega, by go_num, by rw [HEK.out, HB.out]; rfl, by rw [HEK.out, HB.out]; exact Z5⟩, by simp [intOf]; omega⟩
            have d2 : decide ((16 : Int) < (f : Int)) = false := decide_eq_false (by omega)
            by_cases q3 : t < 1
            · have d3 : decide ((t : Int) < 1) = true := decide_eq_true (by omega)
              go_wp2_with (first
                | ((with_reducible refine gate (N := 27) rfl ?_); refine load_at 43 (.tmp 26) rfl rfl g (off + k * 3) rfl (encV ⟨f, t, cst⟩) _ Try.underlying43 rfl info43s HCC.out ?_)
                | ((with_reducible refine gate (N := 8) rfl ?_); refine alloc_new 43 rfl rfl _ zero43 _ rfl ?_; intro ge w4 N4)
                | (refine store_at 43 (.tmp 8) (.tmp 27) rfl rfl ge 0 rfl (encV ⟨f, t, cst⟩) rfl _ _ N4.blk info43s (Nat.le_refl 3) (encV_one _) (encV ⟨f, t, cst⟩) (splice_all _ _ rfl) ?_; intro w5 b5 u5; have Z5 := AsideA.mk (I.out.later (u5.below N4.below (Nat.le_of_eq N4.at_.symm))); have BX := AsideA.mk b5; have NG := AsideA.mk (show ge ≠ gf ∧ ge ≠ ga by have := blk_lt I.out.bf; have := blk_lt I.out.ba; have := N4.at_; omega); obtain ⟨e0, e1, e2⟩ := HBX.out w5 ge b5; clear b5 u5 N4)
                | fail)
              exact ⟨⟨k + 1, by omega, by go_num, by rw [HEK.out, HB.out]; rfl, by rw [HEK.out, HB.out]; exact Z5⟩, by simp [intOf]; omega⟩
            have d3 : decide ((t : Int) < 1) = false := decide_eq_false (by omega)
            by_cases q4 : 16 < t
            · have d4 : decide ((16 : Int) < (t : Int)) = true := decide_eq_true (by omega)
              go_wp2_with (first
                | ((with_reducible refine gate (N := 27) rfl ?_); refine load_at 43 (.tmp 26) rfl rfl g (off + k * 3) rfl (encV ⟨f, t, cst⟩) _ Try.underlying43 rfl info43s HCC.out ?_)
                | ((with_reducible refine gate (N := 8) rfl ?_); refine alloc_new 43 rfl rfl _ zero43 _ rfl ?_; intro ge w4 N4)
                | (refine store_at 43 (.tmp 8) (.tmp 27) rfl rfl ge 0 rfl (encV ⟨f, t, cst⟩) rfl _ _ N4.blk info43s (Nat.le_refl 3) (encV_one _) (encV ⟨f, t, cst⟩) (splice_all _ _ rfl) ?_; intro w5 b5 u5; have Z5 := AsideA.mk (I.out.later (u5.below N4.below (Nat.le_of_eq N4.at_.symm))); have BX := AsideA.mk b5; have NG := AsideA.mk (show ge ≠ gf ∧ ge ≠ ga by have := blk_lt I.out.bf; have := blk_lt I.out.ba; have := N4.at_; omega); obtain ⟨e0, e1, e2⟩ := HBX.out w5 ge b5; clear b5 u5 N4)
                | fail)
              exact ⟨⟨k + 1, by omega, by go_num, by rw [HEK.out, HB.out]; rfl, by rw [HEK.out, HB.out]; exact Z5⟩, by simp [intOf]; omega⟩
            exact absurd ⟨by omega, by omega, by omega, by omega⟩ HN.out
          have hb : okb ⟨f, t, cst⟩ = true := by rw [HKB.out]; exact decide_eq_true hall
          have HB := AsideA.mk hb
          have d1 : decide ((f : Int) < 1) = false := decide_eq_false (by omega)
          have d2 : decide ((16 : Int) < (f : Int)) = false := decide_eq_false (by omega)
          have d3 : decide ((t : Int) < 1) = false := decide_eq_false (by omega)
          have d4 : decide ((16 : Int) < (t : Int)) = false := decide_eq_false (by omega)
          have bd1 := HBD.out k f
          have bd2 := HBD.out k t
          have hln := HLN.out k
          have hfl := HFL.out k
          have hmm := HMUL.out
          have hfe := HFE.out
          generalize hst : ((es.take k).filter okb).foldl relax s = st at *
          have HST2 := AsideA.mk hst
          generalize ((es.take k).filter okb).length = lk at bd1 bd2 hfl
          generalize hmg : 128 * ((es.filter okb).length : Int) * (n : Int) = mg at bd1 bd2 hmm
          obtain ⟨dx, hdx⟩ : ∃ dx, dx = gi st.d f := ⟨_, rfl⟩
          obtain ⟨dy, hdy⟩ : ∃ dy, dy = gi st.d t := ⟨_, rfl⟩
          rw [← hdx] at bd1
          rw [← hdy] at bd2
          have x1 : -1000000000000000000 ≤ dx := by omega
          have x2 : dx ≤ 0 := bd1.2
          have y1 : -1000000000000000000 ≤ dy := by omega
          have y2 : dy ≤ 0 := bd2.2
          have f0 : (0 : Int) ≤ (f : Int) := by omega
          have f1 : (f : Int) < 17 := by omega
          have t0 : (0 : Int) ≤ (t : Int) := by omega
          have t1 : (t : Int) < 17 := by omega
          have HXY := AsideA.mk (And.intro hdx hdy)
          have HLS := AsideA.mk hln
          have HAL := AsideA.mk hall
          clear hb hst bd1 bd2 hln hfl hmm hfe hmg hdx hdy hall
          go_wp2_with (first
            | ((with_reducible refine gate (N := 27) rfl ?_); refine load_at 43 (.tmp 26) rfl rfl g (off + k * 3) rfl (encV ⟨f, t, cst⟩) _ Try.underlying43 rfl info43s HCC.out ?_)
            | ((with_reducible refine gate (N := 8) rfl ?_); refine alloc_new 43 rfl rfl _ zero43 _ rfl ?_; intro ge w4 N4)
            | (refine store_at 43 (.tmp 8) (.tmp 27) rfl rfl ge 0 rfl (encV ⟨f, t, cst⟩) rfl _ _ N4.blk info43s (Nat.le_refl 3) (encV_one _) (encV ⟨f, t, cst⟩) (splice_all _ _ rfl) ?_; intro w5 b5 u5; have Z5 := AsideA.mk (I.out.later (u5.below N4.below (Nat.le_of_eq N4.at_.symm))); have BX := AsideA.mk b5; have NG := AsideA.mk (show ge ≠ gf ∧ ge ≠ ga by have := blk_lt I.out.bf; have := blk_lt I.out.ba; have := N4.at_; omega); obtain ⟨e0, e1, e2⟩ := HBX.out w5 ge b5; clear b5 u5 N4)
            | fail)
          have sx := (Z5.out.cd f (by rw [HLS.out.1]; have := HAL.out; omega))
          have sy := (Z5.out.cd t (by rw [HLS.out.1]; have := HAL.out; omega))
          rw [← HXY.out.1] at sx
          rw [← HXY.out.2] at sy
          have hw0 : IntKind.i64.wrap cst = cst := by rw [IntWalk.i64_in _ (by omega)]
          have hw : IntKind.i64.wrap (dx + cst) = dx + cst := by rw [IntWalk.i64_in _ (by omega)]
          by_cases hlt3 : dx + cst < dy
          · have dlt : decide (dx + cst < dy) = true := decide_eq_true hlt3
            go_quiet (fail)
            have ft := blk_frozen Z5.out.bf t
            have hn1 : ¬ gf = ge := Ne.symm NG.out.1
            have hn2 : ¬ ge = gf := NG.out.1
            have sa := Z5.out.ca t (by rw [HLS.out.2]; have := HAL.out; omega)
            have fa := blk_frozen Z5.out.ba t
            generalize gn st.a t = av at sa
            have hn3 : ¬ ga = gf := Z5.out.ne.symm
            have hn4 : ¬ gf = ga := Z5.out.ne
            have hn5 : ¬ ga = ge := Ne.symm NG.out.2
            have hn6 : ¬ ge = ga := NG.out.2
            have hrl : relax st ⟨f, t, cst⟩ = ⟨st.d.set t (dx + cst), st.a.set t f, t⟩ := by unfold relax; rw [← HXY.out.1, ← HXY.out.2, if_pos hlt3]
            have HRL := AsideA.mk hrl
            have ZF : AsideA (∀ m, RfAt w (((w5.drewN m).setCell ⟨gf, t, none⟩ (.int .i64 (dx + cst))).setCell ⟨ga, t, none⟩ (.int .u8 (f : Int))) gf ga ⟨st.d.set t (dx + cst), st.a.set t f, t⟩) := ⟨fun m => RfAt.relax (e := ⟨f, t, cst⟩) (Z5.out.later (below_drewN w5 m)) (dx + cst) (Below.refl _ _)⟩
            clear hrl
            go_wp2
            go_region
            clear sx sy hw hw0 ft
            go_wp2
            exact ⟨⟨k + 1, by omega, by go_num, by rw [HEK.out, HB.out, if_pos rfl, HRL.out], by rw [HEK.out, HB.out, if_pos rfl, HRL.out]; exact ⟨ZF.out _⟩⟩, by simp [intOf]; omega⟩
          · have dlt : decide (dx + cst < dy) = false := decide_eq_false hlt3
            have HN3 := AsideA.mk hlt3
            go_quiet (fail)
            clear sx sy e0 e1 e2 hw hw0
            go_wp2
            have hrl : relax st ⟨f, t, cst⟩ = st := by unfold relax; rw [← HXY.out.1, ← HXY.out.2, if_neg (show ¬ (dx + cst < dy) from HN3.out)]
            exact ⟨⟨k + 1, by omega, by go_num, by rw [HEK.out, HB.out, if_pos rfl, hrl], by rw [HEK.out, HB.out, if_pos rfl, hrl]; exact ⟨Z5.out.later (below_drewN _ _)⟩⟩, by simp [intOf]; omega⟩
        · have hke : es.take k = es := List.take_of_length_le (by have := HL.out; omega)
          rw [hke] at I
          rw [hke]
          have he : (es.filter okb).foldl relax s = itr (es.filter okb) (n + 1) := by rw [HS.out]; rfl
          rw [he] at I
          rw [he]
          clear hke he
          by_cases hz : (itr (es.filter okb) (n + 1)).l = 0
          · have HZ := AsideA.mk hz
            rw [hz]
            clear hz
            go_wp2
            go_ret
            exact ⟨none, 0, 0, rfl, .inl ⟨roundF_nil (HST.out (n + 1) (by omega) (by omega) HZ.out), rfl, rfl, rfl, I.out.below⟩⟩
          · have dz : (((itr (es.filter okb) (n + 1)).l : Int) == 0) = false := beq_eq_false_iff_ne.mpr (by omega)
            have HZ := AsideA.mk hz
            clear hz
            go_wp2
            exact ⟨⟨n + 1, by omega, by go_num, rfl, ⟨I.out, fun _ => HZ.out⟩⟩, by simp [intOf]; omega⟩
    · have hn16 : n = 16 := by omega
      subst hn16
      rw [show ((16 : Nat) : Int) = 16 from rfl]
      have hl16 : (itr (es.filter okb) 16).l ≠ 0 := I.out.2 (by omega)
      obtain ⟨L, m, wt, hp, hm, hlm, hf1, hf2, hR⟩ := round_is HO.out hl16
      have RP := AsideA.mk (And.intro hp (And.intro hm (And.intro hlm (And.intro hf1 (And.intro hf2 hR)))))
      have IA := AsideA.mk (itr_a_le HO.out 16)
      have LL := AsideA.mk (itr_l_le HO.out 16)
      have ILN := AsideA.mk (itr_len (es.filter okb) 16)
      have I1 := AsideA.mk I.out.1
      generalize hRR : roundF (es.filter okb) = R at *
      have HRR := AsideA.mk hRR
      clear hRR
      generalize hst : itr (es.filter okb) 16 = st at *
      clear hp hm hlm hf1 hf2 hR hst hl16 I HST HFE HW2 HFL
      go_wp2
      go_loopw [5, 9] (fun v i wr => ∃ k : Nat, k ≤ 16 ∧ i = .int .i64 (k : Int) ∧ v = .int .u8 (iter (gn st.a) k st.l : Int) ∧ AsideA (RfAt w wr gf ga st)) (fun _ i _ => 16 - (intOf i).toNat)
      case atStart => exact ⟨0, by omega, rfl, rfl, I1⟩
      case round =>
        clear I1
        obtain ⟨k, hk, rfl, rfl, I⟩ := hrel
        by_cases hlt : k < 16
        · have hx := iter_le IA.out LL.out k
          have c1 := I.out.ca (iter (gn st.a) k st.l) (by rw [ILN.out.2]; omega)
          rw [show gn st.a (iter (gn st.a) k st.l) = iter (gn st.a) (k + 1) st.l from rfl] at c1
          generalize hy : iter (gn st.a) (k + 1) st.l = y at *
          generalize iter (gn st.a) k st.l = x at *
          have HY := AsideA.mk hy
          have hx0 : (0 : Int) ≤ (x : Int) := by omega
          have hx1 : (x : Int) < 17 := by omega
          clear hy
          go_wp2
          exact ⟨⟨k + 1, by omega, by go_num, by rw [HY.out], I⟩, by simp [intOf]; omega⟩
        · have hk16 : k = 16 := by omega
          subst hk16
          rw [show ((16 : Nat) : Int) = 16 from rfl]
          have hzle := iter_le IA.out LL.out 16
          have CA := AsideA.mk (fun (wz : World) (h : RfAt w wz gf ga st) (x : Nat) (hx : x ≤ 16) => h.ca x (by rw [ILN.out.2]; omega))
          generalize hz : iter (gn st.a) 16 st.l = z at *
          generalize hf : gn st.a = f at *
          have ITL := AsideA.mk (iter_le IA.out hzle)
          have cz := CA.out _ I.out z hzle
          rw [show f z = iter f 1 z from rfl] at cz
          have hz0 : (0 : Int) ≤ (z : Int) := by omega
          have hz1 : (z : Int) < 17 := by omega
          have i0 : iter f 0 z = z := rfl
          have c1 : leastOf (cyc f z 1) = z := rfl
          have HC1 := AsideA.mk c1
          clear hz hf c1 i0
          generalize hy1 : iter f 1 z = y1 at cz
          have HY1 := AsideA.mk hy1
          clear hy1
          go_wp2
          clear cz
          go_loopg [10, 11] (L - 1) (fun mm lv pv wr => ∃ k : Nat, lv = .int .u8 (leastOf (cyc f z (k + 1)) : Int) ∧ pv = .int .u8 (iter f (k + 1) z : Int) ∧ AsideA (mm = L - (k + 1) ∧ k + 1 ≤ L ∧ RfAt w wr gf ga st))
          case atStart => exact ⟨0, by rw [HC1.out], by rw [HY1.out], ⟨rfl, RP.out.1.pos, I.out⟩⟩
          case round =>
            clear I
            obtain ⟨k, rfl, rfl, J⟩ := hrel
            have hle := ITL.out (k + 1)
            have ls := leastOf_snoc (cyc f z (k + 1)) (iter f (k + 1) z) (fun e => by have := congrArg List.length e; rw [cyc_len] at this; simp at this)
            rw [← cyc_succ] at ls
            have LS := AsideA.mk ls
            have hl17 : leastOf (cyc f z (k + 1)) ≤ 16 := by
              obtain ⟨h1, _⟩ := leastOf_spec (l := cyc f z (k + 1)) (fun e => by have := congrArg List.length e; rw [cyc_len] at this; simp at this)
              obtain ⟨i, _, hi⟩ := mem_cyc.1 h1
              rw [← hi]
              exact ITL.out i
            have cx := CA.out _ J.out.2.2 (iter f (k + 1) z) hle
            rw [show f (iter f (k + 1) z) = iter f (k + 1 + 1) z from rfl] at cx
            by_cases hkL : k + 1 = L
            · have hbk : iter f (k + 1) z = z := by rw [hkL]; exact RP.out.1.back
              have hlm : leastOf (cyc f z (k + 1)) = iter f m z := by rw [hkL]; exact RP.out.2.2.1
              rw [hbk, hlm]
              have pm := RP.out.1.move m (by have := RP.out.2.1; omega)
              have PM := AsideA.mk pm
              have hyle := ITL.out m
              have HR2 := AsideA.mk (show R = iter f m z :: downs f (iter f m z) (L - 1) by rw [RP.out.2.2.2.2.1]; exact ring_downs pm)
              have ITY := AsideA.mk (fun j => show iter f j (iter f m z) ≤ 16 by rw [← iter_add]; exact ITL.out _)
              have K1 := AsideA.mk (And.intro J.out.2.2 RP.out.2.2.2.2.2)
              generalize hym : iter f m z = y at *
              have ym0 : (0 : Int) ≤ (y : Int) := by omega
              have ym1 : (y : Int) < 17 := by omega
              have J0 : AsideA (RfAt w (wr.alloc (.cells #[.int .u8 (y : Int)] 30)) gf ga st ∧ (wr.alloc (.cells #[.int .u8 (y : Int)] 30)).ownsRow w.heap.size 30 1 (.slice (some ⟨wr.heap.size, 0, none⟩) 1 1) 1 (enc8 (y :: downs f y 0))) := ⟨⟨J.out.2.2.later ((Below.refl _ _).alloc (Nat.le_refl _) _), rfl, .inr ⟨wr.heap.size, 1, _, rfl, J.out.2.2.below.size, heap_alloc_new wr _, Nat.le_refl _, by simp [maxLen], rfl, rfl⟩⟩⟩
              have cy := CA.out _ J0.out.1 y hyle
              rw [show f y = iter f 1 y from rfl] at cy
              clear hym pm J LS ls cx hl17 hbk hlm hle
              generalize hy1 : iter f 1 y = y1 at cy
              have HY2 := AsideA.mk hy1
              clear hy1
              go_wp2
              clear cy
              go_loopg [12, 13] (L - 1) (fun mm ov pv wz => ∃ (k : Nat) (A : Option Addr) (c : Nat), ov = .slice A (k + 1) c ∧ pv = .int .u8 (iter f (k + 1) y : Int) ∧ AsideA (mm = L - (k + 1) ∧ k + 1 ≤ L ∧ RfAt w wz gf ga st ∧ wz.ownsRow w.heap.size 30 1 ov (k + 1) (enc8 (y :: downs f y k))))
              case atStart => exact ⟨0, _, 1, rfl, by rw [HY2.out], ⟨rfl, PM.out.pos, J0.out.1, J0.out.2⟩⟩
              case round =>
                clear J0 K1
                obtain ⟨k2, A2, c2, rfl, rfl, J⟩ := hrel
                have hle2 := ITY.out (k2 + 1)
                have cx := CA.out _ J.out.2.2.1 (iter f (k2 + 1) y) hle2
                rw [show f (iter f (k2 + 1) y) = iter f (k2 + 1 + 1) y from rfl] at cx
                by_cases hkL2 : k2 + 1 = L
                · have hbk : iter f (k2 + 1) y = y := by rw [hkL2]; exact PM.out.back
                  rw [hbk]
                  have HKL := AsideA.mk hkL2
                  clear cx hkL2
                  go_wp2
                  go_ret
                  rcases J.out.2.2.2.2 with ⟨_, h2⟩ | ⟨g, cap, cur, h1, h2, h3, h4, h5, h6, h7⟩
                  · omega
                  · simp only [Value.slice.injEq] at h1
                    obtain ⟨rfl, _, rfl⟩ := h1
                    refine ⟨some ⟨g, 0, none⟩, k2 + 1, c2, rfl, .inr ⟨?_, ?_, g, rfl, ⟨⟨cur.toList.drop ((k2 + 1) * 1), ?_, ?_⟩, h2, J.out.2.2.1.below, h5⟩⟩⟩
                    · rw [HRR.out, HR2.out]; simp
                    · rw [HRR.out, HR2.out, List.length_cons, downs_len]; have := HKL.out; omega
                    · rw [HRR.out, HR2.out, show L - 1 = k2 by have := HKL.out; omega, ← h7, List.take_append_drop]; exact h3
                    · rw [HRR.out, HR2.out, List.length_cons, downs_len, List.length_drop, show cur.toList.length = c2 * 1 from h6]; have := HKL.out; omega
                · have hk2L : k2 + 1 < L := by have := J.out.2.1; omega
                  have hne : iter f (k2 + 1) y ≠ y := fun e => by have := PM.out.inj (k2 + 1) hk2L 0 (by omega) e; omega
                  have hL16 : L ≤ 16 := by have := RP.out.2.2.2.2.2.top; rw [RP.out.2.2.2.2.1, ringF_len] at this; exact this
                  obtain ⟨g, cap, cur, h1, h2, h3, h4, h5, h6, h7⟩ : ∃ g cap cur, Value.slice A2 (k2 + 1) c2 = .slice (some ⟨g, 0, none⟩) (k2 + 1) cap ∧ w.heap.size ≤ g ∧ wr.heap[g]? = some (.cells cur 30 (0, 0)) ∧ k2 + 1 ≤ cap ∧ cap ≤ maxLen ∧ cur.size = cap * 1 ∧ cur.toList.take ((k2 + 1) * 1) = enc8 (y :: downs f y k2) := by
                    rcases J.out.2.2.2.2 with ⟨_, h2⟩ | h
                    · omega
                    · exact h
                  simp only [Value.slice.injEq] at h1
                  obtain ⟨rfl, hh1, rfl⟩ := h1
                  obtain ⟨off1, hoff⟩ : ∃ off1, off1 = if c2 = 1 then 0 else 1 := ⟨_, rfl⟩
                  have he : (if c2 = 1 then (some ⟨g, 0, none⟩ : Option Addr) else some ⟨g, 1, none⟩) = some ⟨g, off1, none⟩ := by rw [hoff]; split <;> rfl
                  have RD : AsideA (Reads wr (some ⟨g, off1, none⟩) (enc8 (downs f y k2))) := ⟨by
                    by_cases hc1 : c2 = 1
                    · have : k2 = 0 := by omega
                      subst this
                      exact Reads.nil
                    · rw [if_neg hc1] at hoff
                      subst hoff
                      refine Reads.of_block h3 _ fun j u hj => ?_
                      have hjl := (List.getElem?_eq_some_iff.1 hj).1
                      rw [enc8_len, downs_len] at hjl
                      have e1 : (enc8 (y :: downs f y k2))[1 + j]? = some u := by rw [Nat.add_comm 1 j]; exact hj
                      rw [← h7, List.getElem?_take, if_pos (by omega)] at e1
                      simpa using e1⟩
                  generalize hpp : iter f (k2 + 1) y = pp at *
                  have HPP := AsideA.mk hpp
                  have HNX := AsideA.mk (show f pp = iter f (k2 + 1 + 1) y by rw [← hpp]; rfl)
                  have GK := AsideA.mk J.out.1
                  clear cx
                  have dne : ((pp : Int) == (y : Int)) = false := beq_eq_false_iff_ne.mpr (by omega)
                  have dne2 : ((pp : Int) != (y : Int)) = true := by rw [bne, dne]; rfl
                  have pp0 : (0 : Int) ≤ (pp : Int) := by omega
                  have pp1 : (pp : Int) < 17 := by omega
                  have HD := AsideA.mk (show enc8 (y :: downs f y (k2 + 1)) = [.int .u8 (y : Int), .int .u8 (pp : Int)] ++ enc8 (downs f y k2) by rw [downs, hpp]; rfl)
                  have OW : AsideA ((wr.alloc (.cells #[.int .u8 (y : Int), .int .u8 (pp : Int)] 30)).ownsRow w.heap.size 30 1 (.slice (some ⟨wr.heap.size, 0, none⟩) 2 2) 2 [.int .u8 (y : Int), .int .u8 (pp : Int)]) := ⟨⟨rfl, .inr ⟨wr.heap.size, 2, _, rfl, J.out.2.2.1.below.size, heap_alloc_new wr _, Nat.le_refl _, by simp [maxLen], rfl, rfl⟩⟩⟩
                  have RD2 := AsideA.mk (RD.out.below ((Below.refl wr.heap.size wr).alloc (Nat.le_refl _) (.cells #[.int .u8 (y : Int), .int .u8 (pp : Int)] 30)))
                  have SZ : AsideA (w.heap.size ≤ (wr.alloc (.cells #[.int .u8 (y : Int), .int .u8 (pp : Int)] 30)).heap.size) := ⟨by rw [World.size_alloc]; have := J.out.2.2.1.below.size; omega⟩
                  have BA := AsideA.mk (J.out.2.2.1.later ((Below.refl wr.heap.size wr).alloc (Nat.le_refl _) (.cells #[.int .u8 (y : Int), .int .u8 (pp : Int)] 30)))
                  have HLE := AsideA.mk (And.intro hle2 hk2L)
                  have C9 : AsideA (∀ w6 : World, (wr.alloc (.cells #[.int .u8 (y : Int), .int .u8 (pp : Int)] 30)).grownBy w6 (some wr.heap.size) → RfAt w w6 gf ga st ∧ w6.cell? ⟨ga, pp, none⟩ = some (.int .u8 (iter f (k2 + 1 + 1) y : Int))) := ⟨fun w6 g6 => by
                    have r6 := BA.out.grown OW.out g6
                    have c := CA.out _ r6 pp HLE.out.1
                    rw [HNX.out] at c
                    exact ⟨r6, c⟩⟩
                  have ML : AsideA (2 + k2 ≤ maxLen ∧ (2 + k2) * 1 ≤ 140737488355328) := ⟨by simp only [maxLen]; omega, by omega⟩
                  have hc2a : (1 : Int) ≤ (c2 : Int) := by omega
                  have hc2b : 1 ≤ c2 := by omega
                  clear hpp hne hle2 hh1 h2 h3 h5 h6 h7 hoff hkL2 hk2L
                  go_wp2_with ((with_reducible refine gate (N := 115) rfl ?_); go_loud (refine append_own _ 36 _ _ rfl rfl w.heap.size 30 _ 1 1 Try.underlying36 info30 rfl (by decide) (.slice (some ⟨wr.heap.size, 0, none⟩) 2 2) 2 [.int .u8 (y : Int), .int .u8 (pp : Int)] rfl OW.out (some ⟨g, off1, none⟩) k2 (c2 - 1) (enc8 (downs f y k2)) rfl (by rw [enc8_len, downs_len, Nat.mul_one]) RD2.out (enc8_one _) ML.out.1 ML.out.2 SZ.out ?_); intro v2 w6 o2 g6 p6; obtain ⟨A8, c8, e8⟩ := own_form o2; subst e8; have q6 := C9.out _ g6; have c9 := q6.2; have Z6 := AsideA.mk (And.intro o2 q6.1); clear o2 g6 p6 q6)
                  go_roundg (L - (k2 + 1 + 1))
                  case measure => have := HLE.out.2; have := GK.out; omega
                  case rel => exact ⟨k2 + 1, A8, c8, by rw [show 2 + k2 = k2 + 1 + 1 by omega], rfl, ⟨rfl, by have := HLE.out.2; omega, Z6.out.2, by rw [HD.out, show k2 + 1 + 1 = 2 + k2 by omega]; exact Z6.out.1⟩⟩
            · have hk1L : k + 1 < L := by have := J.out.2.1; omega
              have hne : iter f (k + 1) z ≠ z := fun e => by have := RP.out.1.inj (k + 1) hk1L 0 (by omega) e; omega
              have HK1 := AsideA.mk (And.intro hk1L J.out.1)
              have J1 := AsideA.mk J.out.2.2
              generalize leastOf (cyc f z (k + 1)) = lv at *
              generalize iter f (k + 1) z = pv at *
              have dne : ((pv : Int) == (z : Int)) = false := beq_eq_false_iff_ne.mpr (by omega)
              have dne2 : ((pv : Int) != (z : Int)) = true := by rw [bne, dne]; rfl
              have pv0 : (0 : Int) ≤ (pv : Int) := by omega
              have pv1 : (pv : Int) < 17 := by omega
              clear hne hk1L J ls hkL
              go_wp2
              all_goals
                go_roundg (L - (k + 1 + 1))
                case measure => have := HK1.out.1; have := HK1.out.2; omega
                case rel =>
                  refine ⟨k + 1, ?_, rfl, ⟨rfl, by have := HK1.out.1; omega, J1.out⟩⟩
                  rw [LS.out]
                  show _ = Value.int .u8 ((min lv pv : Nat) : Int)
                  congr 1
                  omega
end Go.Proofs.Ytjopmkfpghdlpaa.A

