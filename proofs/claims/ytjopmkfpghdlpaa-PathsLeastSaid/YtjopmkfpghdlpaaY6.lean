/-
  The law PathsLeast, its walk: two parties of a graph.
-/
import Derived.Test.YtjopmkfpghdlpaaY5
namespace Go.Proofs.Ytjopmkfpghdlpaa.A
set_option linter.unusedVariables false
set_option linter.unusedSimpArgs false
open Go.RowKit

/-- how the law's distances stand in memory, and the graph -/
structure LtAt (w wr : World) (gg gl : Nat) (cp L : List Int) : Prop where
  blk : wr.heap[gl]? = some (.cells (dV L) 55 (0, 0))
  gr : wr.heap[gg]? = some (.cells (grV cp) 98 (0, 0))
  below : Below w.heap.size w wr
  ge : w.heap.size ≤ gl
theorem LtAt.later {w wr w1 : World} {gg gl : Nat} {cp L : List Int} (h : LtAt w wr gg gl cp L) (k : Below wr.heap.size wr w1) : LtAt w w1 gg gl cp L := ⟨blk_below h.blk k, blk_below h.gr k, below_call h.below k, h.ge⟩
theorem LtAt.set {w wr : World} {gg gl : Nat} {cp L : List Int} (h : LtAt w wr gg gl cp L) (i : Nat) (x : Int) : LtAt w (wr.setCell ⟨gl, i, none⟩ (.int .i64 x)) gg gl cp (L.set i x) := by
  have hne : gg ≠ gl := by
    rintro rfl
    have h1 := h.gr
    rw [h.blk] at h1
    injection h1 with h1
    injection h1 with _ h1
    exact absurd h1 (by decide)
  exact ⟨by rw [blk_set h.blk, dV_set], blk_set_other h.gr _ _ hne, below_set h.below h.ge, h.ge⟩
theorem LtAt.cell {w wr : World} {gg gl : Nat} {cp L : List Int} (h : LtAt w wr gg gl cp L) (i : Nat) (hi : i < L.length) : wr.cell? ⟨gl, i, none⟩ = some (.int .i64 (gi L i)) := (blk_cell h.blk i).trans (dV_at L i hi)
theorem LtAt.graph {w wr : World} {gg gl : Nat} {cp L : List Int} (h : LtAt w wr gg gl cp L) (hl : cp.length = 289) : GrAt wr (some ⟨gg, 0, none⟩) cp := ⟨hl, .inr ⟨gg, rfl, h.gr⟩⟩
theorem fill99 (k : Nat) (h : k < 17) : (List.replicate k (99 : Int) ++ List.replicate (17 - k) 0).set k 99 = List.replicate (k + 1) (99 : Int) ++ List.replicate (17 - (k + 1)) 0 := by
  rw [List.set_append_right _ _ (by simp), List.length_replicate, Nat.sub_self]
  rw [show 17 - k = (17 - (k + 1)) + 1 by omega, List.replicate_succ, List.set_cons_zero, List.replicate_succ', List.append_assoc]
  rfl

set_option maxHeartbeats 16000000 in
set_option maxRecDepth 100000 in
theorem least_some (A : Option Addr) (c f t : Nat) (fs : List Fl) (w : World) (F : Flows w A fs) (hn : fs.length ≤ 300) (hok : newOk fs = true) (hf : okp f = true) (ht : okp t = true) (hne : f ≠ t) :
    Calls Try.prog 6 #[.slice A fs.length c, .int .u8 (f : Int), .int .u8 (t : Int)] w fun e w' => e = .returned (.bool true) ∧ Below w.heap.size w w' := by
  have kf : 1 ≤ f ∧ f ≤ 16 := of_decide_eq_true hf
  have kt : 1 ≤ t ∧ t ≤ 16 := of_decide_eq_true ht
  have CN := AsideA.mk (xnew A c fs w F)
  have LV := AsideA.mk lives06
  obtain ⟨D, hD⟩ := hops_exists (Edg (cpF fs)) t kt.1 kt.2
  have HD := AsideA.mk hD
  have HL0 := AsideA.mk (LeftAt.start hD kt.1 kt.2)
  have HO := AsideA.mk (And.intro hok (And.intro hf (And.intro ht hne)))
  obtain ⟨len, hl⟩ : ∃ len, len = fs.length := ⟨_, rfl⟩
  rw [← hl] at hn CN ⊢
  have HCL := AsideA.mk (cpF_len fs)
  have d0 : decide ((300 : Int) < (len : Int)) = false := decide_eq_false (by omega)
  have d1 : ((f : Int) == (t : Int)) = false := beq_eq_false_iff_ne.mpr (by omega)
  have d2 : decide ((f : Int) < 1) = false := decide_eq_false (by omega)
  have d3 : decide ((16 : Int) < (f : Int)) = false := decide_eq_false (by omega)
  have d4 : decide ((t : Int) < 1) = false := decide_eq_false (by omega)
  have d5 : decide ((16 : Int) < (t : Int)) = false := decide_eq_false (by omega)
  have hlen : (len : Int) ≤ 300 := by omega
  have f0 : (0 : Int) ≤ (f : Int) := by omega
  have f1 : (f : Int) < 17 := by omega
  have t0 : (0 : Int) ≤ (t : Int) := by omega
  have t1 : (t : Int) < 17 := by omega
  clear hl F hn hok hf ht hne hD
  go_enter Try.func6, Try.ntmps6
  go_wp2_with fail
  refine CN.out.mono ?_
  rintro e w1 ⟨G, r, rfl, hb, h⟩
  have hh : r = 0 ∧ ∃ gg, G = some ⟨gg, 0, none⟩ ∧ w1.heap[gg]? = some (.cells (grV (cpF fs)) 98 (0, 0)) := by
    rcases h with ⟨_, h2, gg, h3, _, h4⟩ | ⟨h, _⟩
    · exact ⟨h2, gg, h3, h4⟩
    · rw [HO.out.1] at h; cases h
  obtain ⟨rfl, gg, rfl, hg⟩ := hh
  have B1 := AsideA.mk (And.intro hb hg)
  clear hb h hg CN
  generalize hcp : cpF fs = cp at *
  clear hcp
  go_wp2_with ((with_reducible refine gate (N := 9) rfl ?_); refine alloc_new 55 rfl rfl _ zero55 _ rfl ?_; intro gl w2 N2; have I0 : AsideA (LtAt w w2 gg gl cp (List.replicate 0 (99 : Int) ++ List.replicate (17 - 0) 0)) := ⟨⟨N2.blk, blk_below B1.out.2 N2.below, below_new B1.out.1 N2, N2.ge B1.out.1⟩⟩; clear N2)
  clear d0 d1 d2 d3 d4 d5
  go_loopw [10] (fun i wr => ∃ k : Nat, k ≤ 17 ∧ i = .int .i64 k ∧ AsideA (LtAt w wr gg gl cp (List.replicate k (99 : Int) ++ List.replicate (17 - k) 0))) (fun i _ => 17 - (intOf i).toNat)
  case atStart => exact ⟨0, by omega, rfl, I0⟩
  case round =>
    clear I0
    obtain ⟨k, hk, rfl, I⟩ := hrel
    by_cases hlt : k < 17
    · have c0 := I.out.cell k (by simp; omega)
      have z0 := blk_frozen I.out.blk k
      have k0 : (0 : Int) ≤ (k : Int) := by omega
      have k1 : (k : Int) < 17 := by omega
      have FS := AsideA.mk (fill99 k hlt)
      have IS := AsideA.mk (I.out.set k 99)
      clear I
      generalize gi (List.replicate k (99 : Int) ++ List.replicate (17 - k) 0) k = v0 at *
      go_wp2
      exact ⟨⟨k + 1, by omega, by go_num, by rw [← FS.out]; exact IS⟩, by simp [intOf]; omega⟩
    · have hk17 : k = 17 := by omega
      subst hk17
      rw [show ((17 : Nat) : Int) = 17 from rfl]
      have e17 : List.replicate 17 (99 : Int) ++ List.replicate (17 - 17) 0 = List.replicate 17 (99 : Int) := by decide
      rw [e17] at I
      have c0 := I.out.cell t (by simp; omega)
      have z0 := blk_frozen I.out.blk t
      have IS := AsideA.mk (I.out.set t 0)
      clear I e17
      generalize gi (List.replicate 17 (99 : Int)) t = v0 at *
      go_wp2
      generalize wr.setCell ⟨gl, t, none⟩ (.int .i64 0) = w3 at *
      clear c0 z0
      go_loopw [11] (fun i wz => ∃ (n : Nat) (L : List Int), n ≤ 16 ∧ i = .int .i64 (n : Int) ∧ AsideA (LtAt w wz gg gl cp L ∧ LeftAt (Edg cp) D L n 1 1)) (fun i _ => 16 - (intOf i).toNat)
      case atStart => exact ⟨0, _, by omega, rfl, ⟨IS.out, HL0.out⟩⟩
      case round =>
        clear IS HL0
        obtain ⟨n, L, hn, rfl, I⟩ := hrel
        by_cases hn16 : n < 16
        · have dn : decide ((n : Int) < 16) = true := decide_eq_true (by omega)
          go_wp2
          go_loopw [12] (fun a wz => ∃ (k : Nat) (L : List Int), 1 ≤ k ∧ k ≤ 17 ∧ a = .int .u8 (k : Int) ∧ AsideA (LtAt w wz gg gl cp L ∧ LeftAt (Edg cp) D L n k 1)) (fun a _ => 17 - (intOf a).toNat)
          case atStart => exact ⟨1, L, by omega, by omega, rfl, I⟩
          case round =>
            clear I
            obtain ⟨a, L, ha1, ha2, rfl, I⟩ := hrel
            by_cases ha : a < 17
            · have da : decide ((a : Int) < 17) = true := decide_eq_true (by omega)
              go_wp2
              go_loopw [13] (fun b wz => ∃ (k : Nat) (L : List Int), 1 ≤ k ∧ k ≤ 17 ∧ b = .int .u8 (k : Int) ∧ AsideA (LtAt w wz gg gl cp L ∧ LeftAt (Edg cp) D L n a k)) (fun b _ => 17 - (intOf b).toNat)
              case atStart => exact ⟨1, L, by omega, by omega, rfl, I⟩
              case round =>
                clear I
                obtain ⟨b, L, hb1, hb2, rfl, I⟩ := hrel
                by_cases hb : b < 17
                · have ca := I.out.1.cell a (by rw [I.out.2.len]; omega)
                  have cb := I.out.1.cell b (by rw [I.out.2.len]; omega)
                  have ba := I.out.2.bd a (by omega)
                  have bb := I.out.2.bd b (by omega)
                  have za := blk_frozen I.out.1.blk a
                  have CQ : AsideA (∀ m, Calls Try.prog 25 #[.pointer (some ⟨gg, 0, none⟩), .int .u8 (a : Int), .int .u8 (b : Int)] (wr.drewN m) fun e w' => e = .returned (.int .i64 (capF cp a b)) ∧ w' = wr.drewN m) := ⟨fun m => (xcap _ cp a b _ ((I.out.1.later (below_drewN wr m)).graph HCL.out)).mono fun e w' ⟨h1, h2⟩ => ⟨h1, h2.symm⟩⟩
                  have KEEP := AsideA.mk (fun h => I.out.2.keep h)
                  have RELX := AsideA.mk (fun (hE : Edg cp a b) (hlt : gi L b + 1 < gi L a) => I.out.2.relax HD.out ha1 (by omega) hb1 (by omega) hE hlt)
                  have UPB := AsideA.mk (fun (h : gi D b ≤ n) => I.out.2.up b hb1 (by omega) h)
                  generalize hla : gi L a = la at *
                  generalize hlb : gi L b = lb at *
                  have HLAB := AsideA.mk (And.intro hla hlb)
                  clear hla hlb
                  have l1 : 0 ≤ la := ba.1
                  have l2 : la ≤ 99 := ba.2
                  have l3 : 0 ≤ lb := bb.1
                  have l4 : lb ≤ 99 := bb.2
                  have a0 : (0 : Int) ≤ (a : Int) := by omega
                  have a1 : (a : Int) < 17 := by omega
                  have b0 : (0 : Int) ≤ (b : Int) := by omega
                  have b1 : (b : Int) < 17 := by omega
                  have hw : IntKind.i64.wrap (lb + 1) = lb + 1 := by rw [IntWalk.i64_in _ (by omega)]
                  clear ba bb
                  by_cases hcv : 0 < capF cp a b
                  · have dcv : decide (0 < capF cp a b) = true := decide_eq_true hcv
                    have HCV : AsideA (Edg cp a b) := ⟨hcv⟩
                    clear hcv
                    generalize capF cp a b = cv at CQ dcv
                    by_cases hlt2 : lb + 1 < la
                    · have dlt : decide (lb + 1 < la) = true := decide_eq_true hlt2
                      go_wp2
                      go_quiet ((go_at_call 25; exact Calls.quiet_of_same (CQ.out _)))
                      clear hw
                      go_wp2
                      exact ⟨⟨b + 1, _, by omega, by omega, by go_num, ⟨(I.out.1.later (below_drewN _ _)).set a (lb + 1), RELX.out HCV.out (by omega)⟩⟩, by simp [intOf]; omega⟩
                    · have dlt : decide (lb + 1 < la) = false := decide_eq_false hlt2
                      go_wp2
                      go_quiet ((go_at_call 25; exact Calls.quiet_of_same (CQ.out _)))
                      clear hw
                      go_wp2
                      exact ⟨⟨b + 1, L, by omega, by omega, by go_num, ⟨I.out.1.later (below_drewN _ _), KEEP.out (fun _ hd => by have := UPB.out hd; omega)⟩⟩, by simp [intOf]; omega⟩
                  · have dcv : decide (0 < capF cp a b) = false := decide_eq_false hcv
                    have HCV : AsideA (¬ Edg cp a b) := ⟨hcv⟩
                    clear hcv
                    generalize capF cp a b = cv at CQ dcv
                    go_wp2
                    go_quiet ((go_at_call 25; exact Calls.quiet_of_same (CQ.out _)))
                    clear hw
                    go_wp2
                    exact ⟨⟨b + 1, L, by omega, by omega, by go_num, ⟨I.out.1.later (below_drewN _ _), KEEP.out (fun hE _ => absurd hE HCV.out)⟩⟩, by simp [intOf]; omega⟩
                · have hb17 : b = 17 := by omega
                  subst hb17
                  rw [show ((17 : Nat) : Int) = 17 from rfl]
                  go_wp2
                  exact ⟨⟨a + 1, L, by omega, by omega, by go_num, ⟨I.out.1, I.out.2.row⟩⟩, by simp [intOf]; omega⟩
            · have ha17 : a = 17 := by omega
              subst ha17
              rw [show ((17 : Nat) : Int) = 17 from rfl]
              go_wp2
              exact ⟨⟨n + 1, L, by omega, by go_num, ⟨I.out.1, I.out.2.round HD.out (by omega)⟩⟩, by simp [intOf]; omega⟩
        · have hn2 : n = 16 := by omega
          subst hn2
          rw [show ((16 : Nat) : Int) = 16 from rfl]
          have FIN := AsideA.mk (fun p (p1 : 1 ≤ p) (p2 : p ≤ 16) => I.out.2.fin HD.out p p1 p2)
          have HLL := AsideA.mk I.out.2.len
          have J := AsideA.mk I.out.1
          have CS := AsideA.mk (xshort (some ⟨gg, 0, none⟩) cp f t wr (I.out.1.graph HCL.out))
          clear I
          go_wp2_with fail
          refine CS.out.mono ?_
          rintro e w4 ⟨B, m, cap, P, rfl, hp, hs⟩
          obtain ⟨D2, hD2, hsh⟩ : ∃ D2, Hops (Edg cp) t D2 ∧ ((gi D2 f = 17 ∧ P = []) ∨ (gi D2 f ≠ 17 ∧ Way (Edg cp) D2 f P ∧ (P.length : Int) = gi D2 f + 1 ∧ gn P (P.length - 1) = t)) := by
            rcases hs with ⟨_, _, _, D2, h1, h2⟩ | ⟨h, _⟩
            · exact ⟨D2, h1, h2⟩
            · exact absurd ⟨HO.out.2.1, HO.out.2.2.1, HO.out.2.2.2⟩ h
          have hDD : D2 = D := hD2.unique HD.out
          subst hDD
          have J4 := AsideA.mk (J.out.later hp.below)
          have hnum := hp.num
          have cf := J4.out.cell f (by rw [HLL.out]; omega)
          have ff := FIN.out f kf.1 kf.2
          have rD := HD.out.rng f kf.1 kf.2
          rcases hsh with ⟨h17, rfl⟩ | ⟨h17, hW, hPl, hlast⟩
          · rw [if_pos h17] at ff
            rw [ff] at cf
            have hm0 : m = 0 := hnum
            subst hm0
            clear ff rD h17 hs hp CS hnum hD2 J
            go_wp2_with (go_at_call 18; refine (LV.out _).mono ?_; rintro e w' ⟨rfl, hb⟩; have BN := AsideA.mk (below_call J4.out.below hb); clear hb)
            go_ret
            exact ⟨rfl, BN.out⟩
          · rw [if_neg h17] at ff
            rw [ff] at cf
            obtain ⟨g3, rfl, hF⟩ : ∃ g3, B = some ⟨g3, 0, none⟩ ∧ Fill wr w4 g3 cap P := by
              rcases hp with ⟨h, _⟩ | ⟨_, _, g, h1, h2⟩
              · exfalso
                have := hW.pos
                rw [h] at this
                simp at this
              · exact ⟨g, h1, h2⟩
            have RB := AsideA.mk (hF.bytes (fun b hb => by obtain ⟨i, hi, he⟩ := mem_gn hb; have := hW.rng i hi; omega) (by omega))
            obtain ⟨d, hd⟩ : ∃ d : Nat, gi D2 f = d := ⟨(gi D2 f).toNat, by omega⟩
            rw [hd] at cf hPl
            have HW := AsideA.mk (And.intro hW (And.intro hlast (And.intro hd hnum)))
            have hmd : m = d + 1 := by omega
            have HMD := AsideA.mk hmd
            have hd15 : (d : Int) ≤ 15 := by omega
            have dgt : decide ((16 : Int) < (d : Int)) = false := decide_eq_false (by omega)
            subst hmd
            obtain ⟨g', off', x0, e1, c0, _, hx0⟩ := RB.out.get 0 (by have := hW.pos; omega)
            obtain ⟨g'', off'', x1, e2, c1, _, hx1⟩ := RB.out.get d (by omega)
            cases e1
            cases e2
            rw [Nat.zero_add] at c0 c1
            have ex0 : x0 = f := by rw [← hW.first]; unfold gn; rw [List.getD_eq_getElem?_getD, hx0]; rfl
            have ex1 : x1 = t := by rw [← hlast, show P.length - 1 = d by omega]; unfold gn; rw [List.getD_eq_getElem?_getD, hx1]; rfl
            subst ex0
            have c1' : w4.cell? ⟨g3, d, none⟩ = some (.int .u8 (t : Int)) := by rw [c1, ex1]
            clear ff rD h17 hs hp CS hnum hD2 J hF hx0 hx1 c1 ex1 hW hlast hd hPl
            have J0 := AsideA.mk (And.intro J4.out RB.out)
            clear J4 RB
            go_wp2
            clear c0 c1' cf dgt
            go_loopw [15] (fun i wz => ∃ j : Nat, j ≤ d ∧ i = .int .i64 ((j : Int) + 1) ∧ AsideA (LtAt w wz gg gl cp L ∧ Bytes wz (some ⟨g3, 0, none⟩) P)) (fun i _ => d + 1 - (intOf i).toNat)
            case atStart => exact ⟨0, by omega, by go_num, J0⟩
            case round =>
              clear J0
              obtain ⟨j, hj, rfl, J⟩ := hrel
              by_cases hjd : j < d
              · obtain ⟨g', off', x, e1, cx, _, hxx⟩ := J.out.2.get j (by have := HW.out.2.2.2; omega)
                obtain ⟨g'', off'', y, e2, cy, _, hyy⟩ := J.out.2.get (j + 1) (by have := HW.out.2.2.2; omega)
                cases e1
                cases e2
                rw [Nat.zero_add] at cx cy
                have gx : gn P j = x := by unfold gn; rw [List.getD_eq_getElem?_getD, hxx]; rfl
                have gy : gn P (j + 1) = y := by unfold gn; rw [List.getD_eq_getElem?_getD, hyy]; rfl
                have rx := HW.out.1.rng j (by have := HW.out.2.2.2; omega)
                have ry := HW.out.1.rng (j + 1) (by have := HW.out.2.2.2; omega)
                have hdx := HW.out.1.dist j (by have := HW.out.2.2.2; omega)
                have hdy := HW.out.1.dist (j + 1) (by have := HW.out.2.2.2; omega)
                have hE := HW.out.1.edge j (by have := HW.out.2.2.2; omega)
                have hle := HW.out.1.least j (by have := HW.out.2.2.2; omega)
                rw [gx] at rx hdx hE hle
                rw [gy] at ry hdy hE hle
                rw [HW.out.2.2.1] at hdx hdy
                have fy := FIN.out y ry.1 ry.2
                rw [if_neg (by omega), hdy] at fy
                have cl := J.out.1.cell y (by rw [HLL.out]; omega)
                rw [fy] at cl
                have HLY := AsideA.mk fy
                have LST := AsideA.mk (fun p (p1 : 1 ≤ p) (p2 : p < y) (hc : Edg cp x p) => show (gi L p == ((d : Int) - ((j + 1 : Nat) : Int))) = false from beq_eq_false_iff_ne.mpr fun he => by
                  have fp := FIN.out p p1 (by omega)
                  rw [fp] at he
                  by_cases h17 : gi D2 p = 17
                  · rw [if_pos h17] at he; omega
                  · rw [if_neg h17] at he
                    exact hle p p1 p2 (by omega) hc)
                have CQ : AsideA (∀ m, Calls Try.prog 25 #[.pointer (some ⟨gg, 0, none⟩), .int .u8 (x : Int), .int .u8 (y : Int)] (wr.drewN m) fun e w' => e = .returned (.int .i64 (capF cp x y)) ∧ w' = wr.drewN m) := ⟨fun m => (xcap _ cp x y _ ((J.out.1.later (below_drewN wr m)).graph HCL.out)).mono fun e w' ⟨h1, h2⟩ => ⟨h1, h2.symm⟩⟩
                have dcv : decide (capF cp x y < 1) = false := decide_eq_false (by unfold Edg at hE; omega)
                generalize capF cp x y = cv at CQ dcv
                have y16 : decide ((16 : Int) < (y : Int)) = false := decide_eq_false (by omega)
                have y0 : (0 : Int) ≤ (y : Int) := by omega
                have y1 : (y : Int) < 17 := by omega
                have j0 : (0 : Int) ≤ (j : Int) := by omega
                have jd : (j : Int) < (d : Int) := by omega
                have hRX := AsideA.mk (And.intro rx ry)
                have JW : AsideA (∀ m, LtAt w (wr.drewN m) gg gl cp L ∧ Bytes (wr.drewN m) (some ⟨g3, 0, none⟩) P) := ⟨fun m => ⟨J.out.1.later (below_drewN wr m), J.out.2.below (below_drewN wr m)⟩⟩
                have GXY := AsideA.mk (And.intro gx gy)
                clear hxx hyy gx gy rx ry hdx hdy hE hle fy
                go_wp2
                go_quiet ((go_at_call 25; exact Calls.quiet_of_same (CQ.out _)))
                clear cx cy cl
                go_wp2
                have hy1 : 1 ≤ y := hRX.out.2.1
                go_loopw [16] (fun q wz => ∃ p : Nat, 1 ≤ p ∧ p ≤ y ∧ q = .int .u8 (p : Int) ∧ AsideA (LtAt w wz gg gl cp L ∧ Bytes wz (some ⟨g3, 0, none⟩) P)) (fun q _ => y - (intOf q).toNat)
                case atStart => exact ⟨1, by omega, hy1, rfl, ⟨JW.out _⟩⟩
                case round =>
                  clear JW J CQ
                  obtain ⟨p, hp1, hp2, rfl, J⟩ := hrel
                  obtain ⟨g', off', x', e1, cx, _, hxx⟩ := J.out.2.get j (by have := HW.out.2.2.2; omega)
                  obtain ⟨g'', off'', y', e2, cy, _, hyy⟩ := J.out.2.get (j + 1) (by have := HW.out.2.2.2; omega)
                  cases e1
                  cases e2
                  rw [Nat.zero_add] at cx cy
                  have ex : x' = x := by rw [← GXY.out.1]; unfold gn; rw [List.getD_eq_getElem?_getD, hxx]; rfl
                  have ey : y' = y := by rw [← GXY.out.2]; unfold gn; rw [List.getD_eq_getElem?_getD, hyy]; rfl
                  subst ex ey
                  clear hxx hyy
                  by_cases hpy : p < y'
                  · have fy := FIN.out y' hRX.out.2.1 hRX.out.2.2
                    have cl := J.out.1.cell y' (by rw [HLL.out]; omega)
                    have cp2 := J.out.1.cell p (by rw [HLL.out]; omega)
                    rw [HLY.out] at cl
                    have CQ : AsideA (∀ m, Calls Try.prog 25 #[.pointer (some ⟨gg, 0, none⟩), .int .u8 (x' : Int), .int .u8 (p : Int)] (wr.drewN m) fun e w' => e = .returned (.int .i64 (capF cp x' p)) ∧ w' = wr.drewN m) := ⟨fun m => (xcap _ cp x' p _ ((J.out.1.later (below_drewN wr m)).graph HCL.out)).mono fun e w' ⟨h1, h2⟩ => ⟨h1, h2.symm⟩⟩
                    have p0 : (0 : Int) ≤ (p : Int) := by omega
                    have p1 : (p : Int) < 17 := by omega
                    have JW : AsideA (∀ m, LtAt w (wr.drewN m) gg gl cp L ∧ Bytes (wr.drewN m) (some ⟨g3, 0, none⟩) P) := ⟨fun m => ⟨J.out.1.later (below_drewN wr m), J.out.2.below (below_drewN wr m)⟩⟩
                    clear fy
                    by_cases hcv : 0 < capF cp x' p
                    · have dcv2 : decide (0 < capF cp x' p) = true := decide_eq_true hcv
                      have deq := LST.out p hp1 hpy hcv
                      rw [show (((j + 1 : Nat) : Int)) = (j : Int) + 1 from rfl] at deq
                      clear hcv
                      generalize capF cp x' p = cv2 at CQ dcv2
                      generalize gi L p = lp at cp2 deq
                      go_wp2
                      go_quiet ((go_at_call 25; exact Calls.quiet_of_same (CQ.out _)))
                      clear cx cy cl cp2
                      go_wp2
                      exact ⟨⟨p + 1, by omega, by omega, by go_num, ⟨JW.out _⟩⟩, by simp [intOf]; omega⟩
                    · have dcv2 : decide (0 < capF cp x' p) = false := decide_eq_false hcv
                      clear hcv
                      generalize capF cp x' p = cv2 at CQ dcv2
                      generalize gi L p = lp at cp2
                      go_wp2
                      go_quiet ((go_at_call 25; exact Calls.quiet_of_same (CQ.out _)))
                      clear cx cy cl cp2
                      go_wp2
                      exact ⟨⟨p + 1, by omega, by omega, by go_num, ⟨JW.out _⟩⟩, by simp [intOf]; omega⟩
                  · have dpy : decide (p < y') = false := decide_eq_false hpy
                    go_wp2
                    exact ⟨⟨j + 1, by omega, by go_num, J⟩, by simp [intOf]; omega⟩
              · have hjd2 : j = d := by omega
                subst hjd2
                have CL := AsideA.mk (LV.out wr)
                go_wp2_with (go_at_call 18; refine CL.out.mono ?_; rintro e w' ⟨rfl, hb⟩; have BN := AsideA.mk (below_call J.out.1.below hb); clear hb)
                go_ret
                exact ⟨rfl, BN.out⟩
end Go.Proofs.Ytjopmkfpghdlpaa.A

