/-
  The reference's Compare, of two rates that may be.
-/
import Derived.Test.YtbeiphfmdmccmaaJ0
import Derived.Deep.CutBlock
import Derived.Deep.DeepCutAuto
namespace Go.Proofs.Ytbeiphfmdmccmaa.L
set_option linter.unusedVariables false
set_option linter.unusedSimpArgs false
open Go.RowKit Go.Proofs.Ytbeiphfmdmccmaa.A Go.Proofs.Ytbeiphfmdmccmaa.P

theorem Bs.at_ {w0 w : World} {L : List (Nat × Array Value × TypeId)} {p : Nat × Array Value × TypeId} (h : Bs w0 L w) (hp : p ∈ L) (i : Nat) : w.cell? ⟨p.1, i, none⟩ = p.2.1[i]? := blk_cell (h.blk p hp) i

set_option maxHeartbeats 4000000 in
set_option maxRecDepth 100000 in
theorem ref_cmp_both (A B C D : Nat) (hA : (A : Int) ≤ 1099511627776) (hB : (B : Int) ≤ 1099511627776) (hC : (C : Int) ≤ 1099511627776) (hD : (D : Int) ≤ 1099511627776) (m1 : may A B = true) (m2 : may C D = true) (w : World) :
    Calls Try.prog 40 #[.agg (rat2 A B), .agg (rat2 C D)] w fun e w' => e = .returned (.int .i64 (cmpi ((A * D : Nat) : Int) ((C * B : Nat) : Int))) ∧ Below w.heap.size w w' := by
  have M1 := AsideA.mk (ref_may_is A B ⟨by omega, by omega⟩ ⟨by omega, by omega⟩)
  have M2 := AsideA.mk (ref_may_is C D ⟨by omega, by omega⟩ ⟨by omega, by omega⟩)
  rw [m1] at M1
  rw [m2] at M2
  have OA := AsideA.mk (of_nat A (by omega))
  have OB := AsideA.mk (of_nat B (by omega))
  have OC := AsideA.mk (of_nat C (by omega))
  have OD := AsideA.mk (of_nat D (by omega))
  have T1 := AsideA.mk (ref_Times false false A D)
  have T2 := AsideA.mk (ref_Times false false C B)
  rw [Nat.mod_eq_of_lt (show D < 2 ^ 64 by omega)] at T1
  rw [Nat.mod_eq_of_lt (show B < 2 ^ 64 by omega)] at T2
  have hX : A * D < 2 ^ 192 := Nat.lt_of_le_of_lt (Nat.mul_le_mul (show A ≤ 2 ^ 40 by omega) (show D ≤ 2 ^ 40 by omega)) (by decide)
  have hY : C * B < 2 ^ 192 := Nat.lt_of_le_of_lt (Nat.mul_le_mul (show C ≤ 2 ^ 40 by omega) (show B ≤ 2 ^ 40 by omega)) (by decide)
  have G1 := AsideA.mk (ref_Greater (A * D) (C * B) hX hY)
  have G2 := AsideA.mk (ref_Greater (C * B) (A * D) hY hX)
  clear hA hB hC hD m1 m2 hX hY
  generalize A * D = X at *
  generalize C * B = Y at *
  go_enter Try.func40, Try.ntmps40
  go_upto_region 3 with (first | (refine box_new 42 (.tmp 0) rfl rfl _ rfl (rat2 A B) rfl ?_; intro g2 w2 N2) | (refine box_new 42 (.tmp 1) rfl rfl _ rfl (rat2 C D) rfl ?_; intro g3 w3 N3; have I0 := AsideA.mk (Bs.more (Bs.more (L := []) ⟨below_new (below_new (Below.refl _ _) N2) N3, by simp, by simp⟩ (blk_below N2.blk N3.below) (N2.ge (Below.refl _ _))) N3.blk (N3.ge (below_new (Below.refl _ _) N2)))) | ((with_reducible refine gate (N := 7) rfl ?_); refine load_at 42 (.tmp 2) rfl rfl g2 0 rfl (rat2 A B) _ Try.underlying42 rfl (size42 _ _) (blk_at0 (I0.out.blk (g2, rat2 A B, 42) (by simp))) ?_) | (go_at_call 35; (first | (with_reducible refine (M1.out _).mono ?_) | (with_reducible refine (M2.out _).mono ?_)); rintro e wq ⟨rfl, hq⟩; have BN := AsideA.mk (I0.out.later hq); clear hq I0; have I0 := BN; clear BN; have x30 : wq.cell? ⟨g3, 0, none⟩ = some (.int .i64 C) := blk_cell (I0.out.blk (g3, rat2 C D, 42) (by simp)) 0; have x31 : wq.cell? ⟨g3, 1, none⟩ = some (.int .i64 D) := blk_cell (I0.out.blk (g3, rat2 C D, 42) (by simp)) 1))
  clear N2 N3 M1 M2
  refine region_picked follows [15, 16, 17, 18, 19, 20, 21, 22, 5] (fun y => [(15, .pointer (some ⟨g2, 0, none⟩)), (16, .int .i64 A), (17, .agg (wh false A)), (18, .pointer (some ⟨g3, 1, none⟩)), (19, .int .i64 D), (20, .agg (wh false D)), (21, .agg (wh false X)), (22, .agg (bv X)), (5, .pointer (some ⟨y, 0, none⟩))]) (fun _ => rfl) _ (fun y => by simp only [actPuts]; go_simp; rfl) 37 rfl (by kernel_rfl)
    (fun c l wz => Sl w [(g3, rat2 C D, 42), (g2, rat2 A B, 42)] X c l wz) ?_ ?_ ?_
  · intro l hl
    unfold Sl
    rw [hl 8, hl 9]
    exact ⟨St.start I0.out.drew, fun _ => rfl⟩
  · refine ⟨?_, ?_, ?_, ?_, ?_, ?_, ?_, ?_, ?_, ?_, trivial⟩
    · intro c l wz x hs hl hn h hx
      exact opc_val rfl (v := .pointer (some ⟨g2, 0, none⟩)) (w' := wz) (by go_simp) rfl (fun _ => rfl) (h.other 0 (by decide) (by decide) (Below.refl _ _))
    · intro c l wz x hs hl hn h hx
      have hc : wz.cell? ⟨g2, 0, none⟩ = some (.int .i64 A) := h.1.bs.at_ (p := (g2, rat2 A B, 42)) (by simp) 0
      exact opc_val rfl (v := .int .i64 A) (w' := wz) (by go_simp) rfl (fun _ => rfl) (h.other 1 (by decide) (by decide) (Below.refl _ _))
    · intro c l wz x hs hl hn h hx
      exact opc_call rfl (f := 49) (args := #[.int .i64 A]) (by go_simp) rfl (fun _ => rfl) ((OA.out wz).mono fun e w' ⟨he, hb⟩ => ⟨he, h.other 2 (by decide) (by decide) hb⟩)
    · intro c l wz x hs hl hn h hx
      exact opc_val rfl (v := .pointer (some ⟨g3, 1, none⟩)) (w' := wz) (by go_simp) rfl (fun _ => rfl) (h.other 3 (by decide) (by decide) (Below.refl _ _))
    · intro c l wz x hs hl hn h hx
      have hc : wz.cell? ⟨g3, 1, none⟩ = some (.int .i64 D) := h.1.bs.at_ (p := (g3, rat2 C D, 42)) (by simp) 1
      exact opc_val rfl (v := .int .i64 D) (w' := wz) (by go_simp) rfl (fun _ => rfl) (h.other 4 (by decide) (by decide) (Below.refl _ _))
    · intro c l wz x hs hl hn h hx
      exact opc_call rfl (f := 49) (args := #[.int .i64 D]) (by go_simp) rfl (fun _ => rfl) ((OD.out wz).mono fun e w' ⟨he, hb⟩ => ⟨he, h.other 5 (by decide) (by decide) hb⟩)
    · intro c l wz x hs hl hn h hx
      exact opc_call rfl (f := 51) (args := #[.agg (wh false A), .agg (wh false D)]) (by go_simp) rfl (fun _ => rfl) ((T1.out wz).mono fun e w' ⟨he, hb⟩ => ⟨he, h.other 6 (by decide) (by decide) hb⟩)
    · intro c l wz x hs hl hn h hx
      exact opc_val rfl (run_field59 (x := .tmp 21) rfl (s := false) (n := X) rfl) rfl (fun _ => rfl) (h.other 7 (by decide) (by decide) (Below.refl _ _))
    · intro c l wz x hs hl hn h hx
      have hcn := h.1.no hl
      subst hcn
      exact opc_alloc rfl 57 rfl _ zero57 (bv 0) rfl rfl (fun _ => rfl) (fun g w1 N => h.made hs hl N)
    · intro c l wz x hs hl hn h hx
      have h8 : l.getD 8 false = true := hn 8 (by decide)
      obtain ⟨g, e, hg, h1, h2⟩ := h.1.yes h8
      subst e
      rw [hl] at hg
      rcases hx with hx | hx
      · cases hx
      · have e := Option.some.inj hx
        subst e
        exact opc_store rfl 57 (.tmp 5) (.tmp 22) rfl rfl g 0 rfl (bv X) rfl (bv 0) 57 hg (size57 _) (bv_le _ _) (bv_one _) _ (bv_splice _ _) fun w1 hb hu => h.stored hs h8 hb hu
  · intro c l w4 x hd h hx
    obtain ⟨g5, e, hg, h1, h2⟩ := h.1.yes (hd 8 (by decide))
    rw [hd 9 (by decide)] at hg
    subst e
    rcases hx with hx | hx
    · cases hx
    have e := Option.some.inj hx
    subst e
    have I1 := AsideA.mk (h.1.bs.more hg h1)
    clear hd h hg h1 h2 I0
    go_upto_region 4 with (fail)
    refine region_picked follows [23, 24, 25, 26, 27, 28, 29, 30, 6] (fun y => [(23, .pointer (some ⟨g3, 0, none⟩)), (24, .int .i64 C), (25, .agg (wh false C)), (26, .pointer (some ⟨g2, 1, none⟩)), (27, .int .i64 B), (28, .agg (wh false B)), (29, .agg (wh false Y)), (30, .agg (bv Y)), (6, .pointer (some ⟨y, 0, none⟩))]) (fun _ => rfl) _ (fun y => by simp only [actPuts]; go_simp; rfl) 37 rfl (by kernel_rfl)
      (fun c l wz => Sl w [(g5, bv X, 57), (g3, rat2 C D, 42), (g2, rat2 A B, 42)] Y c l wz) ?_ ?_ ?_
    · intro l hl
      unfold Sl
      rw [hl 8, hl 9]
      exact ⟨St.start I1.out.drew, fun _ => rfl⟩
    · refine ⟨?_, ?_, ?_, ?_, ?_, ?_, ?_, ?_, ?_, ?_, trivial⟩
      · intro c l wz x hs hl hn h hx
        exact opc_val rfl (v := .pointer (some ⟨g3, 0, none⟩)) (w' := wz) (by go_simp) rfl (fun _ => rfl) (h.other 0 (by decide) (by decide) (Below.refl _ _))
      · intro c l wz x hs hl hn h hx
        have hc : wz.cell? ⟨g3, 0, none⟩ = some (.int .i64 C) := h.1.bs.at_ (p := (g3, rat2 C D, 42)) (by simp) 0
        exact opc_val rfl (v := .int .i64 C) (w' := wz) (by go_simp) rfl (fun _ => rfl) (h.other 1 (by decide) (by decide) (Below.refl _ _))
      · intro c l wz x hs hl hn h hx
        exact opc_call rfl (f := 49) (args := #[.int .i64 C]) (by go_simp) rfl (fun _ => rfl) ((OC.out wz).mono fun e w' ⟨he, hb⟩ => ⟨he, h.other 2 (by decide) (by decide) hb⟩)
      · intro c l wz x hs hl hn h hx
        exact opc_val rfl (v := .pointer (some ⟨g2, 1, none⟩)) (w' := wz) (by go_simp) rfl (fun _ => rfl) (h.other 3 (by decide) (by decide) (Below.refl _ _))
      · intro c l wz x hs hl hn h hx
        have hc : wz.cell? ⟨g2, 1, none⟩ = some (.int .i64 B) := h.1.bs.at_ (p := (g2, rat2 A B, 42)) (by simp) 1
        exact opc_val rfl (v := .int .i64 B) (w' := wz) (by go_simp) rfl (fun _ => rfl) (h.other 4 (by decide) (by decide) (Below.refl _ _))
      · intro c l wz x hs hl hn h hx
        exact opc_call rfl (f := 49) (args := #[.int .i64 B]) (by go_simp) rfl (fun _ => rfl) ((OB.out wz).mono fun e w' ⟨he, hb⟩ => ⟨he, h.other 5 (by decide) (by decide) hb⟩)
      · intro c l wz x hs hl hn h hx
        exact opc_call rfl (f := 51) (args := #[.agg (wh false C), .agg (wh false B)]) (by go_simp) rfl (fun _ => rfl) ((T2.out wz).mono fun e w' ⟨he, hb⟩ => ⟨he, h.other 6 (by decide) (by decide) hb⟩)
      · intro c l wz x hs hl hn h hx
        exact opc_val rfl (run_field59 (x := .tmp 29) rfl (s := false) (n := Y) rfl) rfl (fun _ => rfl) (h.other 7 (by decide) (by decide) (Below.refl _ _))
      · intro c l wz x hs hl hn h hx
        have hcn := h.1.no hl
        subst hcn
        exact opc_alloc rfl 57 rfl _ zero57 (bv 0) rfl rfl (fun _ => rfl) (fun g w1 N => h.made hs hl N)
      · intro c l wz x hs hl hn h hx
        have h8 : l.getD 8 false = true := hn 8 (by decide)
        obtain ⟨g, e, hg, h1, h2⟩ := h.1.yes h8
        subst e
        rw [hl] at hg
        rcases hx with hx | hx
        · cases hx
        · have e := Option.some.inj hx
          subst e
          exact opc_store rfl 57 (.tmp 6) (.tmp 30) rfl rfl g 0 rfl (bv Y) rfl (bv 0) 57 hg (size57 _) (bv_le _ _) (bv_one _) _ (bv_splice _ _) fun w1 hb hu => h.stored hs h8 hb hu
    · intro c l w5 x hd h hx
      obtain ⟨g6, e, hg, h1, h2⟩ := h.1.yes (hd 8 (by decide))
      rw [hd 9 (by decide)] at hg
      subst e
      rcases hx with hx | hx
      · cases hx
      have e := Option.some.inj hx
      subst e
      have I2 := AsideA.mk (h.1.bs.more hg h1)
      clear hd h hg h1 h2 I1
      by_cases c1 : Y < X
      · have d1 : decide (Y < X) = true := decide_eq_true c1
        rw [d1] at G1
        have HC := AsideA.mk (show cmpi (X : Int) (Y : Int) = 1 by unfold cmpi; rw [if_neg (by omega), if_pos (by omega)])
        clear c1 d1
        go_wp2_with (first | ((with_reducible refine gate (N := 31) rfl ?_); refine load_at 57 (.tmp 5) rfl rfl g5 0 rfl (bv X) _ Try.underlying57 rfl (size57 _) (blk_at0 (I2.out.blk (g5, bv X, 57) (by simp))) ?_) | ((with_reducible refine gate (N := 32) rfl ?_); refine load_at 57 (.tmp 6) rfl rfl g6 0 rfl (bv Y) _ Try.underlying57 rfl (size57 _) (blk_at0 (I2.out.blk (g6, bv Y, 57) (by simp))) ?_) | (go_at_call 61; refine (G1.out _).mono ?_; rintro e wq ⟨rfl, hq⟩; have BN := AsideA.mk (I2.out.later hq); clear hq I2; have I2 := BN; clear BN))
        go_ret
        exact ⟨by rw [HC.out]; rfl, I2.out.below⟩
      · have d1 : decide (Y < X) = false := decide_eq_false c1
        rw [d1] at G1
        by_cases c2 : X < Y
        · have d2 : decide (X < Y) = true := decide_eq_true c2
          rw [d2] at G2
          have HC := AsideA.mk (show cmpi (X : Int) (Y : Int) = -1 by unfold cmpi; rw [if_pos (by omega)])
          clear c1 d1 c2 d2
          go_wp2_with (first | ((with_reducible refine gate (N := 31) rfl ?_); refine load_at 57 (.tmp 5) rfl rfl g5 0 rfl (bv X) _ Try.underlying57 rfl (size57 _) (blk_at0 (I2.out.blk (g5, bv X, 57) (by simp))) ?_) | ((with_reducible refine gate (N := 32) rfl ?_); refine load_at 57 (.tmp 6) rfl rfl g6 0 rfl (bv Y) _ Try.underlying57 rfl (size57 _) (blk_at0 (I2.out.blk (g6, bv Y, 57) (by simp))) ?_) | ((with_reducible refine gate (N := 34) rfl ?_); refine load_at 57 (.tmp 6) rfl rfl g6 0 rfl (bv Y) _ Try.underlying57 rfl (size57 _) (blk_at0 (I2.out.blk (g6, bv Y, 57) (by simp))) ?_) | ((with_reducible refine gate (N := 35) rfl ?_); refine load_at 57 (.tmp 5) rfl rfl g5 0 rfl (bv X) _ Try.underlying57 rfl (size57 _) (blk_at0 (I2.out.blk (g5, bv X, 57) (by simp))) ?_) | (go_at_call 61; (first | (with_reducible refine (G1.out _).mono ?_) | (with_reducible refine (G2.out _).mono ?_)); rintro e wq ⟨rfl, hq⟩; have BN := AsideA.mk (I2.out.later hq); clear hq I2; have I2 := BN; clear BN))
          go_ret
          exact ⟨by rw [HC.out]; rfl, I2.out.below⟩
        · have d2 : decide (X < Y) = false := decide_eq_false c2
          rw [d2] at G2
          have HC := AsideA.mk (show cmpi (X : Int) (Y : Int) = 0 by unfold cmpi; rw [if_neg (by omega), if_neg (by omega)])
          clear c1 d1 c2 d2
          go_wp2_with (first | ((with_reducible refine gate (N := 31) rfl ?_); refine load_at 57 (.tmp 5) rfl rfl g5 0 rfl (bv X) _ Try.underlying57 rfl (size57 _) (blk_at0 (I2.out.blk (g5, bv X, 57) (by simp))) ?_) | ((with_reducible refine gate (N := 32) rfl ?_); refine load_at 57 (.tmp 6) rfl rfl g6 0 rfl (bv Y) _ Try.underlying57 rfl (size57 _) (blk_at0 (I2.out.blk (g6, bv Y, 57) (by simp))) ?_) | ((with_reducible refine gate (N := 34) rfl ?_); refine load_at 57 (.tmp 6) rfl rfl g6 0 rfl (bv Y) _ Try.underlying57 rfl (size57 _) (blk_at0 (I2.out.blk (g6, bv Y, 57) (by simp))) ?_) | ((with_reducible refine gate (N := 35) rfl ?_); refine load_at 57 (.tmp 5) rfl rfl g5 0 rfl (bv X) _ Try.underlying57 rfl (size57 _) (blk_at0 (I2.out.blk (g5, bv X, 57) (by simp))) ?_) | (go_at_call 61; (first | (with_reducible refine (G1.out _).mono ?_) | (with_reducible refine (G2.out _).mono ?_)); rintro e wq ⟨rfl, hq⟩; have BN := AsideA.mk (I2.out.later hq); clear hq I2; have I2 := BN; clear BN))
          go_ret
          exact ⟨by rw [HC.out]; rfl, I2.out.below⟩

/-- which of two rates is less, as the reference tells it -/
theorem ref_cmp (a b c d : Int) (ia : in64 a) (ib : in64 b) (ic : in64 c) (id : in64 d) (w : World) : Calls Try.prog 40 #[.agg #[.int .i64 a, .int .i64 b], .agg #[.int .i64 c, .int .i64 d]] w fun e w' => e = .returned (.int .i64 (cmpr a b c d)) ∧ Below w.heap.size w w' := by
  by_cases h : may a b = true ∧ may c d = true
  · obtain ⟨a1, a2, a3, a4, a5⟩ := may_iff.mp h.1
    obtain ⟨c1, c2, c3, c4, c5⟩ := may_iff.mp h.2
    unfold cmpr
    rw [if_pos h]
    obtain ⟨A, rfl⟩ := Int.eq_ofNat_of_zero_le (show 0 ≤ a by omega)
    obtain ⟨B, rfl⟩ := Int.eq_ofNat_of_zero_le (show 0 ≤ b by omega)
    obtain ⟨C, rfl⟩ := Int.eq_ofNat_of_zero_le (show 0 ≤ c by omega)
    obtain ⟨D, rfl⟩ := Int.eq_ofNat_of_zero_le (show 0 ≤ d by omega)
    have := ref_cmp_both A B C D a3 a4 c3 c4 h.1 h.2 w
    rw [Int.natCast_mul, Int.natCast_mul] at this
    exact this
  · unfold cmpr
    rw [if_neg h]
    exact ref_cmp_not a b c d ia ib ic id h w
def ref02_Compare.f (a b c d : Int) : Option Int := if in64 a ∧ in64 b ∧ in64 c ∧ in64 d then some (cmpr a b c d) else none
theorem ref02_Compare.calls (a0 a1 a2 a3 : Int) (r : Int) (w : World) (h : ref02_Compare.f a0 a1 a2 a3 = some r) :
    Calls Try.prog 40 #[.agg #[.int .i64 a0, .int .i64 a1], .agg #[.int .i64 a2, .int .i64 a3]] w fun e w' => e = .returned (.int .i64 r) ∧ Below w.heap.size w w' := by
  unfold ref02_Compare.f at h
  split at h
  · rename_i hc
    obtain rfl := Option.some.inj h
    exact ref_cmp a0 a1 a2 a3 hc.1 hc.2.1 hc.2.2.1 hc.2.2.2 w
  · cases h
end Go.Proofs.Ytbeiphfmdmccmaa.L
