/-
  The law PathsCheap, its walk.
-/
import Derived.Test.YtjopmkfpghdlpaaY0
import Derived.Test.YtjopmkfpghdlpaaX7
namespace Go.Proofs.Ytjopmkfpghdlpaa.A
set_option linter.unusedVariables false
set_option linter.unusedSimpArgs false
open Go.RowKit

set_option maxRecDepth 100000 in
theorem cheap_many (A : Option Addr) (n c : Nat) (w : World) (hn : 300 < n) : Calls Try.prog 7 #[.slice A n c] w fun e w' => e = .returned (.bool true) ∧ Below w.heap.size w w' := by
  have L := AsideA.mk (lives06 w)
  have d : decide ((300 : Int) < (n : Int)) = true := decide_eq_true (by omega)
  clear hn
  go_enter Try.func7, Try.ntmps7
  go_wp2_with (go_at_call 18; refine L.out.mono ?_; rintro e w' ⟨rfl, hb⟩; have BN := AsideA.mk hb; clear hb)
  go_ret
  exact ⟨rfl, BN.out⟩

theorem zero58 : (Try.prog.info? 58).bind (·.zero) = some (.agg (dV (List.replicate 289 0))) := by kernel_rfl
/-- how the costs stand -/
structure CoAt (w wr : World) (gc : Nat) (C : List Int) : Prop where
  blk : wr.heap[gc]? = some (.cells (dV C) 58 (0, 0))
  below : Below w.heap.size w wr
  ge : w.heap.size ≤ gc
theorem CoAt.later {w wr w1 : World} {gc : Nat} {C : List Int} (h : CoAt w wr gc C) (k : Below wr.heap.size wr w1) : CoAt w w1 gc C := ⟨blk_below h.blk k, below_call h.below k, h.ge⟩
theorem CoAt.set {w wr : World} {gc : Nat} {C : List Int} (h : CoAt w wr gc C) (i : Nat) (x : Int) : CoAt w (wr.setCell ⟨gc, i, none⟩ (.int .i64 x)) gc (C.set i x) :=
  ⟨by rw [blk_set h.blk, dV_set], below_set h.below h.ge, h.ge⟩
theorem CoAt.cell {w wr : World} {gc : Nat} {C : List Int} (h : CoAt w wr gc C) (i : Nat) (hi : i < C.length) : wr.cell? ⟨gc, i, none⟩ = some (.int .i64 (gi C i)) := (blk_cell h.blk i).trans (dV_at C i hi)
theorem fill_none (k : Nat) (h : k < 289) : (List.replicate k (1048576 : Int) ++ List.replicate (289 - k) 0).set k 1048576 = List.replicate (k + 1) (1048576 : Int) ++ List.replicate (289 - (k + 1)) 0 := by
  rw [List.set_append_right _ _ (by simp), List.length_replicate, Nat.sub_self]
  rw [show 289 - k = (289 - (k + 1)) + 1 by omega, List.replicate_succ, List.set_cons_zero, List.replicate_succ', List.append_assoc]
  rfl

set_option maxHeartbeats 16000000 in
set_option maxRecDepth 100000 in
theorem cheap_few (A : Option Addr) (c : Nat) (es : List Ed) (w : World) (E : Edges w A es) (hn : es.length ≤ 300) : Calls Try.prog 7 #[.slice A es.length c] w fun e w' => e = .returned (.bool true) ∧ Below w.heap.size w w' := by
  have HE := AsideA.mk E
  have HR := AsideA.mk (fun (wz : World) (h : Below w.heap.size w wz) => xround A c es wz (E.below h))
  have LV := AsideA.mk lives06
  obtain ⟨len, hl⟩ : ∃ len, len = es.length := ⟨_, rfl⟩
  rw [← hl] at hn HR ⊢
  have HL := AsideA.mk hl
  have d0 : decide ((300 : Int) < (len : Int)) = false := decide_eq_false (by omega)
  have hlen : (len : Int) ≤ 300 := by omega
  clear hl E hn
  go_enter Try.func7, Try.ntmps7
  go_wp2_with ((with_reducible refine gate (N := 3) rfl ?_); refine alloc_new 58 rfl rfl _ zero58 _ rfl ?_; intro gc w1 N1; have I0 : AsideA (CoAt w w1 gc (List.replicate 0 (1048576 : Int) ++ List.replicate (289 - 0) 0)) := ⟨⟨N1.blk, below_new (Below.refl _ _) N1, N1.ge (Below.refl _ _)⟩⟩; clear N1)
  clear d0
  go_loopw [4, 5] (fun i _ wr => ∃ k : Nat, k ≤ 17 ∧ i = .int .i64 k ∧ AsideA (CoAt w wr gc (List.replicate (k * 17) (1048576 : Int) ++ List.replicate (289 - k * 17) 0))) (fun i _ _ => 17 - (intOf i).toNat)
  case atStart => exact ⟨0, by omega, rfl, I0⟩
  case round =>
    clear I0
    obtain ⟨k, hk, rfl, I⟩ := hrel
    by_cases hlt : k < 17
    · go_wp2
      go_loopw [5] (fun j wz => ∃ b : Nat, b ≤ 17 ∧ j = .int .i64 b ∧ AsideA (CoAt w wz gc (List.replicate (k * 17 + b) (1048576 : Int) ++ List.replicate (289 - (k * 17 + b)) 0))) (fun j _ => 17 - (intOf j).toNat)
      case atStart => exact ⟨0, by omega, rfl, I⟩
      case round =>
        clear I
        obtain ⟨b, hb, rfl, I⟩ := hrel
        by_cases hb2 : b < 17
        · have c0 := I.out.cell (k * 17 + b) (by simp; omega)
          have f0 := blk_frozen I.out.blk (k * 17 + b)
          have IS := AsideA.mk (I.out.set (k * 17 + b) 1048576)
          have FS := AsideA.mk (fill_none (k * 17 + b) (by omega))
          have k0 : (0 : Int) ≤ (k : Int) := by omega
          have k1 : (k : Int) < 17 := by omega
          have b0 : (0 : Int) ≤ (b : Int) := by omega
          have b1 : (b : Int) < 17 := by omega
          clear I
          generalize gi (List.replicate (k * 17 + b) (1048576 : Int) ++ List.replicate (289 - (k * 17 + b)) 0) (k * 17 + b) = v0 at *
          go_wp2
          exact ⟨⟨b + 1, by omega, by go_num, by rw [show k * 17 + (b + 1) = k * 17 + b + 1 by omega, ← FS.out]; exact IS⟩, by simp [intOf]; omega⟩
        · have hb17 : b = 17 := by omega
          subst hb17
          rw [show ((17 : Nat) : Int) = 17 from rfl]
          go_wp2
          exact ⟨⟨k + 1, by omega, by go_num, by rw [show (k + 1) * 17 = k * 17 + 17 by omega]; exact I⟩, by simp [intOf]; omega⟩
    · have hk17 : k = 17 := by omega
      subst hk17
      rw [show ((17 : Nat) : Int) = 17 from rfl]
      have e17 : List.replicate (17 * 17) (1048576 : Int) ++ List.replicate (289 - 17 * 17) 0 = List.replicate 289 (1048576 : Int) := by simp
      rw [e17] at I
      clear e17
      go_wp2
      go_loopw [6] (fun i wz => ∃ (k : Nat) (C : List Int), k ≤ len ∧ i = .int .i64 k ∧ AsideA (CoAt w wz gc C ∧ CostIs ((es.take k).filter okb) C)) (fun i _ => len - (intOf i).toNat)
      case atStart => exact ⟨0, _, by omega, rfl, ⟨I.out, CostIs.start⟩⟩
      case round =>
        clear I
        obtain ⟨k, C, hk, rfl, I⟩ := hrel
        by_cases hlt2 : k < len
        · obtain ⟨g, off, ⟨f, t, cst⟩, rfl, hek, hwf, hc⟩ := (HE.out.below I.out.1.below).get k (by have := HL.out; omega)
          have HEK := AsideA.mk (filter_step hek)
          have HCC := AsideA.mk hc
          unfold Ed.wf at hwf
          simp only at hwf
          have hc1 := hwf.2.2.1
          have hc2 := hwf.2.2.2
          have HBX := AsideA.mk (fun (W : World) (ge : Nat) (h : W.heap[ge]? = some (.cells (encV ⟨f, t, cst⟩) 35 (0, 0))) => show W.cell? ⟨ge, 0, none⟩ = some (.int .u8 (f : Int)) ∧ W.cell? ⟨ge, 1, none⟩ = some (.int .u8 (t : Int)) ∧ W.cell? ⟨ge, 2, none⟩ = some (.int .i8 cst) from ⟨(blk_cell h 0).trans rfl, (blk_cell h 1).trans rfl, (blk_cell h 2).trans rfl⟩)
          have HKB : AsideA (okb ⟨f, t, cst⟩ = decide (1 ≤ f ∧ f ≤ 16 ∧ 1 ≤ t ∧ t ≤ 16)) := ⟨by
            rw [Bool.eq_iff_iff, okb_iff, decide_eq_true_iff]
            exact Iff.rfl⟩
          clear hek hwf hc
          by_cases hall : 1 ≤ f ∧ f ≤ 16 ∧ 1 ≤ t ∧ t ≤ 16
          case neg =>
            have hb : okb ⟨f, t, cst⟩ = false := by rw [HKB.out]; exact decide_eq_false hall
            have HN := AsideA.mk hall
            have HB := AsideA.mk hb
            clear hall hb
            go_wp2_with (first
              | ((with_reducible refine gate (N := 42) rfl ?_); refine load_at 35 (.tmp 41) rfl rfl g (off + k * 3) rfl (encV ⟨f, t, cst⟩) _ Try.underlying35 rfl info35s HCC.out ?_)
              | ((with_reducible refine gate (N := 7) rfl ?_); refine alloc_new 35 rfl rfl _ zero35 _ rfl ?_; intro ge w4 N4)
              | (refine store_at 35 (.tmp 7) (.tmp 42) rfl rfl ge 0 rfl (encV ⟨f, t, cst⟩) rfl _ _ N4.blk info35s (Nat.le_refl 3) (encV_one _) (encV ⟨f, t, cst⟩) (splice_all _ _ rfl) ?_; intro w5 b5 u5; have Z5 := AsideA.mk (I.out.1.later (u5.below N4.below (Nat.le_of_eq N4.at_.symm))); have NG := AsideA.mk (show ge ≠ gc by have := blk_lt I.out.1.blk; have := N4.at_; omega); obtain ⟨e0, e1, e2⟩ := HBX.out w5 ge b5; clear b5 u5 N4)
              | fail)

            all_goals first
              | (exfalso; have := HN.out; omega)
              | exact ⟨⟨k + 1, C, by omega, by go_num, ⟨Z5.out, by rw [HEK.out, HB.out]; simpa using I.out.2⟩⟩, by simp [intOf]; omega⟩
          have hb : okb ⟨f, t, cst⟩ = true := by rw [HKB.out]; exact decide_eq_true hall
          have hok : Ed.ok ⟨f, t, cst⟩ := (okb_iff _).1 hb
          have q1 : decide ((1 : Int) ≤ (f : Int)) = true := decide_eq_true (by omega)
          have q2 : decide ((f : Int) ≤ 16) = true := decide_eq_true (by omega)
          have q3 : decide ((1 : Int) ≤ (t : Int)) = true := decide_eq_true (by omega)
          have q4 : decide ((t : Int) ≤ 16) = true := decide_eq_true (by omega)
          clear hall
          go_wp2_with (first
            | ((with_reducible refine gate (N := 42) rfl ?_); refine load_at 35 (.tmp 41) rfl rfl g (off + k * 3) rfl (encV ⟨f, t, cst⟩) _ Try.underlying35 rfl info35s HCC.out ?_)
            | ((with_reducible refine gate (N := 7) rfl ?_); refine alloc_new 35 rfl rfl _ zero35 _ rfl ?_; intro ge w4 N4)
            | (refine store_at 35 (.tmp 7) (.tmp 42) rfl rfl ge 0 rfl (encV ⟨f, t, cst⟩) rfl _ _ N4.blk info35s (Nat.le_refl 3) (encV_one _) (encV ⟨f, t, cst⟩) (splice_all _ _ rfl) ?_; intro w5 b5 u5; have Z5 := AsideA.mk (I.out.1.later (u5.below N4.below (Nat.le_of_eq N4.at_.symm))); have NG := AsideA.mk (show ge ≠ gc by have := blk_lt I.out.1.blk; have := N4.at_; omega); obtain ⟨e0, e1, e2⟩ := HBX.out w5 ge b5; clear b5 u5 N4)
            | fail)
          have HOK := AsideA.mk (And.intro hb hok)
          have c0 := Z5.out.cell (f * 17 + t) (by rw [I.out.2.len]; unfold Ed.ok at hok; simp only at hok; omega)
          have fz := blk_frozen Z5.out.blk (f * 17 + t)
          have hok2 := hok
          unfold Ed.ok at hok2
          simp only at hok2
          have f0 : (0 : Int) ≤ (f : Int) := by omega
          have f1 : (f : Int) < 17 := by omega
          have t0 : (0 : Int) ≤ (t : Int) := by omega
          have t1 : (t : Int) < 17 := by omega
          clear hok2 q1 q2 q3 q4
          have hw0 : IntKind.i64.wrap cst = cst := by rw [IntWalk.i64_in _ (by omega)]
          have hne : ¬ gc = ge := Ne.symm NG.out
          have hne2 : ¬ ge = gc := NG.out
          have HST := AsideA.mk (fun (x : Int) (hx : x = if cst < gi C (f * 17 + t) then cst else gi C (f * 17 + t)) => I.out.2.step ⟨f, t, cst⟩ hok (fun x hx => (okb_iff x).1 (List.mem_filter.1 hx).2) x hx)
          clear hb hok
          generalize hcur : gi C (f * 17 + t) = cur at *
          have HCUR := AsideA.mk hcur
          clear hcur
          by_cases hlt3 : cst < cur
          · have d1 : decide (cst < cur) = true := decide_eq_true hlt3
            go_region
            clear c0 fz e0 e1 e2
            go_wp2
            exact ⟨⟨k + 1, _, by omega, by go_num, ⟨(Z5.out.set (f * 17 + t) cst).later (Below.refl _ _).drew, by rw [HEK.out, HOK.out.1]; exact HST.out cst (if_pos hlt3).symm⟩⟩, by simp [intOf]; omega⟩
          · have d1 : decide (cst < cur) = false := decide_eq_false hlt3
            go_region
            clear c0 fz e0 e1 e2
            go_wp2
            exact ⟨⟨k + 1, _, by omega, by go_num, ⟨(Z5.out.set (f * 17 + t) cur).later (Below.refl _ _).drew, by rw [HEK.out, HOK.out.1]; exact HST.out cur (if_neg hlt3).symm⟩⟩, by simp [intOf]; omega⟩
        · have hke : es.take k = es := List.take_of_length_le (by have := HL.out; omega)
          rw [hke] at I
          have CR := AsideA.mk (HR.out _ I.out.1.below)
          clear hke HR
          go_wp2_with fail
          refine CR.out.mono ?_
          rintro e w3 ⟨B, n, cap, rfl, hp⟩
          have I3 := AsideA.mk (And.intro (I.out.1.later hp.below) I.out.2)
          have hnum := hp.num
          have P3 := AsideA.mk hp
          have HOK : AsideA (∀ e ∈ es.filter okb, e.ok) := ⟨fun e he => (okb_iff e).1 (List.mem_filter.1 he).2⟩
          have HW : AsideA (∀ e ∈ es.filter okb, -128 ≤ e.c ∧ e.c ≤ 127) := ⟨fun e he => by have := HE.out.wf e (List.mem_filter.1 he).1; unfold Ed.wf at this; omega⟩
          clear hp CR I
          by_cases hn0 : n = 0
          · subst hn0
            have hnil : roundF (es.filter okb) = [] := List.eq_nil_of_length_eq_zero hnum.symm
            have PT : AsideA (∃ π : Nat → Int, PotC π C ∧ ∀ i, -614400 ≤ π i ∧ π i ≤ 0) := ⟨by
              obtain ⟨π, h1, h2⟩ := roundF_heights HOK.out HW.out hnil
              have hbd : ∀ i, -614400 ≤ π i ∧ π i ≤ 0 := fun i => by
                have := h2 i
                have hfl := List.length_filter_le okb es
                have := HL.out
                omega
              exact ⟨π, I3.out.2.pot HW.out π h1 hbd, hbd⟩⟩
            clear hnum hnil P3
            obtain ⟨⟨π, hπ⟩⟩ := PT
            have PI := AsideA.mk hπ.1
            have PB := AsideA.mk hπ.2
            clear hπ
            have J0 := AsideA.mk (And.intro I3.out.1 PI.out)
            clear I3 PI HE
            go_wp2
            go_loopw [13] (fun m wz => ∃ (k : Nat) (C : List Int), 1 ≤ k ∧ k ≤ 17 ∧ m = .int .i64 (k : Int) ∧ AsideA (CoAt w wz gc C ∧ PotC π C)) (fun m _ => 17 - (intOf m).toNat)
            case atStart => exact ⟨1, C, by omega, by omega, rfl, J0⟩
            case round =>
              clear J0
              obtain ⟨m, C, hm1, hm2, rfl, J⟩ := hrel
              by_cases hm : m < 17
              · have dm : decide ((m : Int) < 17) = true := decide_eq_true (by omega)
                go_wp2
                go_loopw [14] (fun a wz => ∃ (k : Nat) (C : List Int), 1 ≤ k ∧ k ≤ 17 ∧ a = .int .i64 (k : Int) ∧ AsideA (CoAt w wz gc C ∧ PotC π C)) (fun a _ => 17 - (intOf a).toNat)
                case atStart => exact ⟨1, C, by omega, by omega, rfl, J⟩
                case round =>
                  clear J
                  obtain ⟨a, C, ha1, ha2, rfl, J⟩ := hrel
                  by_cases ha : a < 17
                  · have da : decide ((a : Int) < 17) = true := decide_eq_true (by omega)
                    go_wp2
                    go_loopw [15] (fun b wz => ∃ (k : Nat) (C : List Int), 1 ≤ k ∧ k ≤ 17 ∧ b = .int .i64 (k : Int) ∧ AsideA (CoAt w wz gc C ∧ PotC π C)) (fun b _ => 17 - (intOf b).toNat)
                    case atStart => exact ⟨1, C, by omega, by omega, rfl, J⟩
                    case round =>
                      clear J
                      obtain ⟨b, C, hb1, hb2, rfl, J⟩ := hrel
                      by_cases hb : b < 17
                      · have cam := J.out.1.cell (a * 17 + m) (by rw [J.out.2.1]; omega)
                        have cmb := J.out.1.cell (m * 17 + b) (by rw [J.out.2.1]; omega)
                        have cab := J.out.1.cell (a * 17 + b) (by rw [J.out.2.1]; omega)
                        have fab := blk_frozen J.out.1.blk (a * 17 + b)
                        have bam := J.out.2.2 a m (by omega) (by omega)
                        have bmb := J.out.2.2 m b (by omega) (by omega)
                        have HST := AsideA.mk (fun (x : Int) (hx : x = if gi C (a * 17 + m) + gi C (m * 17 + b) < gi C (a * 17 + b) then gi C (a * 17 + m) + gi C (m * 17 + b) else gi C (a * 17 + b)) => J.out.2.step a m b (by omega) (by omega) (by omega) x hx)
                        have HPB := AsideA.mk PB.out
                        have b1 := HPB.out a
                        have b2 := HPB.out m
                        have b3 := HPB.out b
                        have l1 : -614400 ≤ gi C (a * 17 + m) := by omega
                        have l2 : -614400 ≤ gi C (m * 17 + b) := by omega
                        have u1 : gi C (a * 17 + m) ≤ 1048576 := bam.2
                        have u2 : gi C (m * 17 + b) ≤ 1048576 := bmb.2
                        clear bam bmb b1 b2 b3
                        generalize gi C (a * 17 + m) = am at *
                        generalize gi C (m * 17 + b) = mb at *
                        generalize gi C (a * 17 + b) = ab at *
                        have a0 : (0 : Int) ≤ (a : Int) := by omega
                        have a1 : (a : Int) < 17 := by omega
                        have m0 : (0 : Int) ≤ (m : Int) := by omega
                        have m1 : (m : Int) < 17 := by omega
                        have b0 : (0 : Int) ≤ (b : Int) := by omega
                        have b1 : (b : Int) < 17 := by omega
                        by_cases h1 : am < 1048576
                        · have d1 : decide (am < 1048576) = true := decide_eq_true h1
                          by_cases h2 : mb < 1048576
                          · have d2 : decide (mb < 1048576) = true := decide_eq_true h2
                            by_cases h3 : am + mb < ab
                            · have d3 : decide (am + mb < ab) = true := decide_eq_true h3
                              go_wp2
                              go_region
                              clear cam cmb cab fab
                              go_wp2
                              exact ⟨⟨b + 1, _, by omega, by omega, by go_num, ⟨(J.out.1.set (a * 17 + b) (am + mb)).later (Below.refl _ _).drew, HST.out _ (if_pos h3).symm⟩⟩, by simp [intOf]; omega⟩
                            · have d3 : decide (am + mb < ab) = false := decide_eq_false h3
                              go_wp2
                              go_region
                              clear cam cmb cab fab
                              go_wp2
                              exact ⟨⟨b + 1, _, by omega, by omega, by go_num, ⟨(J.out.1.set (a * 17 + b) ab).later (Below.refl _ _).drew, HST.out _ (if_neg (Int.not_lt.2 h3)).symm⟩⟩, by simp [intOf]; omega⟩
                          · have d2 : decide (mb < 1048576) = false := decide_eq_false h2
                            go_wp2
                            exact ⟨⟨b + 1, C, by omega, by omega, by go_num, J⟩, by simp [intOf]; omega⟩
                        · have d1 : decide (am < 1048576) = false := decide_eq_false h1
                          go_wp2
                          exact ⟨⟨b + 1, C, by omega, by omega, by go_num, J⟩, by simp [intOf]; omega⟩
                      · have hb17 : b = 17 := by omega
                        subst hb17
                        rw [show ((17 : Nat) : Int) = 17 from rfl]
                        go_wp2
                        exact ⟨⟨a + 1, C, by omega, by omega, by go_num, J⟩, by simp [intOf]; omega⟩
                  · have ha17 : a = 17 := by omega
                    subst ha17
                    rw [show ((17 : Nat) : Int) = 17 from rfl]
                    go_wp2
                    exact ⟨⟨m + 1, C, by omega, by omega, by go_num, J⟩, by simp [intOf]; omega⟩
              · have hm17 : m = 17 := by omega
                subst hm17
                rw [show ((17 : Nat) : Int) = 17 from rfl]
                go_wp2
                go_loopw [16] (fun p wz => ∃ k : Nat, 1 ≤ k ∧ k ≤ 17 ∧ p = .int .i64 (k : Int) ∧ AsideA (CoAt w wz gc C ∧ PotC π C)) (fun p _ => 17 - (intOf p).toNat)
                case atStart => exact ⟨1, by omega, by omega, rfl, J⟩
                case round =>
                  clear J
                  obtain ⟨p, hp1, hp2, rfl, J⟩ := hrel
                  by_cases hp : p < 17
                  · have cpp := J.out.1.cell (p * 17 + p) (by rw [J.out.2.1]; omega)
                    have bpp := J.out.2.2 p p (by omega) (by omega)
                    have dp : decide (gi C (p * 17 + p) < 0) = false := decide_eq_false (by omega)
                    have p0 : (0 : Int) ≤ (p : Int) := by omega
                    have p1 : (p : Int) < 17 := by omega
                    clear bpp
                    generalize gi C (p * 17 + p) = pv at *
                    go_wp2
                    exact ⟨⟨p + 1, by omega, by omega, by go_num, J⟩, by simp [intOf]; omega⟩
                  · have hp17 : p = 17 := by omega
                    subst hp17
                    have CL := AsideA.mk (LV.out wr)
                    go_wp2_with (go_at_call 18; refine CL.out.mono ?_; rintro e w' ⟨rfl, hb⟩; have BN := AsideA.mk (below_call J.out.1.below hb); clear hb)
                    go_ret
                    exact ⟨rfl, BN.out⟩
          · have hRne : roundF (es.filter okb) ≠ [] := fun e => by rw [e] at hnum; exact hn0 hnum
            obtain ⟨wt, hRd⟩ := roundF_sound HOK.out hRne
            obtain ⟨hcb, hcs⟩ := ring_cost I3.out.2 hRd HW.out
            obtain ⟨g3, rfl, hF⟩ : ∃ g3, B = some ⟨g3, 0, none⟩ ∧ Fill wr w3 g3 cap (roundF (es.filter okb)) := by
              rcases P3.out with ⟨h, _⟩ | ⟨_, _, g, h1, h2⟩
              · exact absurd h hRne
              · exact ⟨g, h1, h2⟩
            have hcl := I3.out.2.len
            generalize roundF (es.filter okb) = R at *
            have RB := AsideA.mk (hF.bytes (fun b hb => by obtain ⟨i, hi, he⟩ := mem_gn hb; have := hRd.rng i hi; omega) (by have := hRd.top; omega))
            have HRD := AsideA.mk hRd
            have HCB := AsideA.mk (And.intro hcb (And.intro hcs hcl))
            have HNM := AsideA.mk hnum
            have hn16 : (n : Int) ≤ 16 := by have := hRd.top; omega
            have hn1 : 0 < n := by omega
            have hn1' : (1 : Int) ≤ (n : Int) := by omega
            have J0 := AsideA.mk (And.intro I3.out.1 RB.out)
            clear hF P3 hRne hRd hcb hcs hcl hnum I3 HE hn0 RB
            go_wp2
            go_loopw [9, 10] (fun al i wz => ∃ k : Nat, k ≤ n ∧ i = .int .i64 k ∧ al = .int .i64 (sm (fun i => gi C (gn R i * 17 + gn R ((i + 1) % R.length))) k) ∧ AsideA (CoAt w wz gc C ∧ Bytes wz (some ⟨g3, 0, none⟩) R)) (fun _ i _ => n - (intOf i).toNat)
            case atStart => exact ⟨0, by omega, rfl, rfl, J0⟩
            case round =>
              clear J0
              obtain ⟨k, hk, rfl, rfl, J⟩ := hrel
              by_cases hkn : k < n
              · obtain ⟨nx, hnx⟩ : ∃ nx, nx = (k + 1) % n := ⟨_, rfl⟩
                have hnxl : nx < n := by rw [hnx]; exact Nat.mod_lt _ hn1
                have hmod : ((k : Int) + 1) % (n : Int) = (nx : Int) := by rw [hnx, Int.natCast_emod]; rfl
                obtain ⟨g', off', x, e1, cx, hx256, hxx⟩ := J.out.2.get k (by have := HNM.out; omega)
                obtain ⟨g'', off'', y, e2, cy, hy256, hyy⟩ := J.out.2.get nx (by have := HNM.out; omega)
                obtain ⟨g4, off4, z, e3, cz, hz256, hzz⟩ := J.out.2.get 0 (by have := HNM.out; omega)
                cases e1
                cases e2
                cases e3
                rw [Nat.zero_add] at cx cy cz
                have gk : gn R k = x := by unfold gn; rw [List.getD_eq_getElem?_getD, hxx]; rfl
                have gx : gn R nx = y := by unfold gn; rw [List.getD_eq_getElem?_getD, hyy]; rfl
                have g0 : gn R 0 = z := by unfold gn; rw [List.getD_eq_getElem?_getD, hzz]; rfl
                have rx := HRD.out.rng k (by have := HNM.out; omega)
                have ry := HRD.out.rng nx (by have := HNM.out; omega)
                have lz := HRD.out.least k (by have := HNM.out; omega)
                have bc := HCB.out.1 k (by have := HNM.out; omega)
                have sb := sm_bd (fun i => gi C (gn R i * 17 + gn R ((i + 1) % R.length))) 128 (by omega) k (fun i hi => by have := HCB.out.1 i (by have := HNM.out; omega); omega)
                have st : sm (fun i => gi C (gn R i * 17 + gn R ((i + 1) % R.length))) (k + 1) = sm (fun i => gi C (gn R i * 17 + gn R ((i + 1) % R.length))) k + gi C (gn R k * 17 + gn R ((k + 1) % R.length)) := rfl
                rw [← HNM.out, ← hnx, gk, gx] at bc
                rw [gk] at rx lz
                rw [gx] at ry
                rw [g0] at lz
                have e5 : gi C (gn R k * 17 + gn R ((k + 1) % R.length)) = gi C (x * 17 + y) := by rw [← HNM.out, ← hnx, gk, gx]
                rw [e5] at st
                have cc := J.out.1.cell (x * 17 + y) (by rw [HCB.out.2.2]; omega)
                have HST := AsideA.mk st
                have GK := AsideA.mk (And.intro gk (And.intro hnx gx))
                generalize sm (fun i => gi C (gn R i * 17 + gn R ((i + 1) % R.length))) k = acc at *
                generalize hcve : gi C (x * 17 + y) = cv at *
                have HCV := AsideA.mk hcve
                clear hcve
                have hcv : (cv == 1048576) = false := beq_eq_false_iff_ne.mpr (by omega)
                have x0 : (0 : Int) ≤ (x : Int) := by omega
                have x1 : (x : Int) < 17 := by omega
                have y0 : (0 : Int) ≤ (y : Int) := by omega
                have y1 : (y : Int) < 17 := by omega
                have t1 : decide ((x : Int) < 1) = false := decide_eq_false (by omega)
                have t2 : decide ((16 : Int) < (x : Int)) = false := decide_eq_false (by omega)
                have t3 : decide ((y : Int) < 1) = false := decide_eq_false (by omega)
                have t4 : decide ((16 : Int) < (y : Int)) = false := decide_eq_false (by omega)
                have t5 : decide ((x : Int) < (z : Int)) = false := decide_eq_false (by omega)
                have t6 : decide (x < z) = false := decide_eq_false (by omega)
                have k0 : (0 : Int) ≤ (k : Int) := by omega
                have kn : (k : Int) < (n : Int) := by omega
                have nx0 : (0 : Int) ≤ (nx : Int) := by omega
                have nxn : (nx : Int) < (n : Int) := by omega
                have a1 : -2048 ≤ acc := by omega
                have a2 : acc ≤ 2048 := by omega
                have c1 : -128 ≤ cv := bc.1
                have c2 : cv ≤ 127 := bc.2
                clear hxx hyy hzz hx256 hy256 hz256 gk gx g0 rx ry lz bc sb st e5 hnx hnxl
                go_wp2
                go_quiet (fail)
                clear cx cy cz cc
                go_wp2
                have JW : AsideA (∀ m, CoAt w (wr.drewN m) gc C ∧ Bytes (wr.drewN m) (some ⟨g3, 0, none⟩) R) := ⟨fun m => ⟨J.out.1.later (below_drewN wr m), J.out.2.below (below_drewN wr m)⟩⟩
                go_loopw [12] (fun q wz => ∃ k2 : Nat, k2 ≤ k ∧ q = .int .i64 k2 ∧ AsideA (CoAt w wz gc C ∧ Bytes wz (some ⟨g3, 0, none⟩) R)) (fun q _ => k - (intOf q).toNat)
                case atStart => exact ⟨0, by omega, rfl, ⟨JW.out _⟩⟩
                case round =>
                  clear JW J
                  obtain ⟨k2, hk2, rfl, J⟩ := hrel
                  obtain ⟨g', off', x', e1, cx, _, hxx⟩ := J.out.2.get k (by have := HNM.out; omega)
                  cases e1
                  rw [Nat.zero_add] at cx
                  have ex' : x' = x := by rw [← GK.out.1]; unfold gn; rw [List.getD_eq_getElem?_getD, hxx]; rfl
                  subst ex'
                  by_cases hk2k : k2 < k
                  · obtain ⟨g'', off'', v, e2, cv2, _, hvv⟩ := J.out.2.get k2 (by have := HNM.out; omega)
                    cases e2
                    rw [Nat.zero_add] at cv2
                    have hne : v ≠ x' := fun e => by
                      have h1 : gn R k2 = v := by unfold gn; rw [List.getD_eq_getElem?_getD, hvv]; rfl
                      have := HRD.out.inj k2 (by have := HNM.out; omega) k (by have := HNM.out; omega) (by rw [h1, GK.out.1, e])
                      omega
                    have dne : ((v : Int) == (x' : Int)) = false := beq_eq_false_iff_ne.mpr (by omega)
                    have q0 : (0 : Int) ≤ (k2 : Int) := by omega
                    have qn : (k2 : Int) < (n : Int) := by omega
                    clear hxx hvv hne
                    go_wp2
                    go_quiet (fail)
                    clear cx cv2
                    go_wp2
                    exact ⟨⟨k2 + 1, by omega, by go_num, ⟨J.out.1.later (below_drewN _ _), J.out.2.below (below_drewN _ _)⟩⟩, by simp [intOf]; omega⟩
                  · have hkk : k2 = k := by omega
                    subst hkk
                    have cc := J.out.1.cell (x' * 17 + y) (by rw [HCB.out.2.2]; omega)
                    rw [HCV.out] at cc
                    clear hxx
                    go_wp2
                    exact ⟨⟨k2 + 1, by omega, by go_num, by rw [HST.out], J⟩, by simp [intOf]; omega⟩
              · have hkn2 : k = n := by omega
                subst hkn2
                have hs : sm (fun i => gi C (gn R i * 17 + gn R ((i + 1) % R.length))) k < 0 := by have h := HCB.out.2.1; have e := HNM.out; rw [show sm (fun i => gi C (gn R i * 17 + gn R ((i + 1) % R.length))) k = sm (fun i => gi C (gn R i * 17 + gn R ((i + 1) % R.length))) R.length from by rw [← e]]; exact h
                have ds : decide (sm (fun i => gi C (gn R i * 17 + gn R ((i + 1) % R.length))) k < 0) = true := decide_eq_true hs
                generalize sm (fun i => gi C (gn R i * 17 + gn R ((i + 1) % R.length))) k = acc at *
                have CL := AsideA.mk (LV.out wr)
                clear hs
                go_wp2_with (go_at_call 18; refine CL.out.mono ?_; rintro e w' ⟨rfl, hb⟩; have BN := AsideA.mk (below_call J.out.1.below hb); clear hb)
                go_ret
                exact ⟨rfl, BN.out⟩
end Go.Proofs.Ytjopmkfpghdlpaa.A

