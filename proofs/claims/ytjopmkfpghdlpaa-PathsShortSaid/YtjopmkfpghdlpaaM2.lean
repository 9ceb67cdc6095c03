/-
  The law PathsShort, its walk.
-/
import Derived.Test.YtjopmkfpghdlpaaM1
import Derived.Test.YtjopmkfpghdlpaaZ1
import Derived.Test.YtjopmkfpghdlpaaY2
import Derived.RegionTactic
import Derived.ChangeAlike
import Derived.BigRegion
namespace Go.Proofs.Ytjopmkfpghdlpaa.A
set_option linter.unusedVariables false
set_option linter.unusedSimpArgs false
open Go.RowKit

set_option maxRecDepth 100000 in
theorem sh_many (A : Option Addr) (n c f t : Nat) (w : World) (hn : 300 < n) : Calls Try.prog 8 #[.slice A n c, .int .u8 (f : Int), .int .u8 (t : Int)] w fun e w' => e = .returned (.bool true) ∧ Below w.heap.size w w' := by
  have L := AsideA.mk (lives06 w)
  have d : decide ((300 : Int) < (n : Int)) = true := decide_eq_true (by omega)
  clear hn
  go_enter Try.func8, Try.ntmps8
  go_wp2_with (go_at_call 18; refine L.out.mono ?_; rintro e w' ⟨rfl, hb⟩; have BN := AsideA.mk hb; clear hb)
  go_ret
  exact ⟨rfl, BN.out⟩

set_option maxHeartbeats 4000000 in
set_option maxRecDepth 100000 in
theorem sh_bad (A : Option Addr) (c f t : Nat) (fs : List Fl) (w : World) (F : Flows w A fs) (hn : fs.length ≤ 300) (hno : newOk fs = false) : Calls Try.prog 8 #[.slice A fs.length c, .int .u8 (f : Int), .int .u8 (t : Int)] w fun e w' => e = .returned (.bool true) ∧ Below w.heap.size w w' := by
  have C23 := AsideA.mk (xnew A c fs w F)
  have C26 := AsideA.mk (fun (wz : World) (b : Below w.heap.size w wz) => ref_new A c fs wz (F.below b))
  have HNO := AsideA.mk hno
  have LV := AsideA.mk lives06
  generalize fs.length = len at *
  have d0 : decide ((300 : Int) < (len : Int)) = false := decide_eq_false (by omega)
  clear F hn hno
  go_enter Try.func8, Try.ntmps8
  go_wp2_with fail
  refine C23.out.mono ?_
  rintro e w1 ⟨G, r, rfl, hb, h⟩
  have B1 := AsideA.mk hb
  obtain ⟨rfl, rfl⟩ : G = none ∧ r = 1 := by
    rcases h with ⟨h, _⟩ | ⟨_, h1, h2⟩
    · rw [HNO.out] at h
      exact absurd h Bool.false_ne_true
    · exact ⟨h1, h2⟩
  clear h hb
  go_wp2_with fail
  refine (C26.out _ B1.out).mono ?_
  rintro e w2 ⟨G, r, rfl, hb, h⟩
  have B2 := AsideA.mk (below_call B1.out hb)
  obtain ⟨rfl, rfl⟩ : G = none ∧ r = 1 := by
    rcases h with ⟨h, _⟩ | ⟨_, h1, h2⟩
    · rw [HNO.out] at h
      exact absurd h Bool.false_ne_true
    · exact ⟨h1, h2⟩
  clear h hb
  go_wp2_with fail
  refine (xshort none (List.replicate 289 0) f t _ ⟨List.length_replicate, .inl ⟨rfl, rfl⟩⟩).mono ?_
  rintro e w3 ⟨B, n, cap, P, rfl, hp, hs⟩
  have hP := short_zero hs
  subst hP
  have hn0 : n = 0 := hp.num
  subst hn0
  have B3 := AsideA.mk (below_call B2.out hp.below)
  clear hp hs
  go_wp2_with fail
  refine (LV.out _).mono ?_
  rintro e w4 ⟨rfl, hb⟩
  have B4 := AsideA.mk (below_call B3.out hb)
  clear hb
  go_wp2_with fail
  go_ret
  exact ⟨rfl, B4.out⟩

set_option maxHeartbeats 16000000 in
set_option maxRecDepth 100000 in
theorem sh_good (A : Option Addr) (c f t : Nat) (fs : List Fl) (w : World) (F : Flows w A fs) (hn : fs.length ≤ 300) (hok : newOk fs = true) (hf : f < 256) (ht : t < 256) : Calls Try.prog 8 #[.slice A fs.length c, .int .u8 (f : Int), .int .u8 (t : Int)] w fun e w' => e = .returned (.bool true) ∧ Below w.heap.size w w' := by
  have C23 := AsideA.mk (xnew A c fs w F)
  have C26 := AsideA.mk (fun (wz : World) (b : Below w.heap.size w wz) => ref_new A c fs wz (F.below b))
  have HOK := AsideA.mk hok
  have LV := AsideA.mk lives06
  have C19 := AsideA.mk (fun (P : List Nat) (wz : World) (A1 A2 : Option Addr) (d1 d2 : Nat) (h1 : Bytes wz A1 P) (h2 : Bytes wz A2 P) => show Calls Try.prog 19 #[.slice A1 P.length d1, .slice A2 P.length d2] wz fun e w' => e = .returned (.bool true) ∧ Below wz.heap.size wz w' from by
    have h := same_bytes A1 A2 d1 d2 P P wz h1 h2
    rwa [decide_eq_true rfl] at h)
  obtain ⟨cp, hcp⟩ : ∃ cp, cp = cpF fs := ⟨_, rfl⟩
  have CL := AsideA.mk (show cp.length = 289 by rw [hcp]; exact cpF_len fs)
  have R0 := AsideA.mk (And.intro hf ht)
  generalize fs.length = len at *
  have d0 : decide ((300 : Int) < (len : Int)) = false := decide_eq_false (by omega)
  clear F hn hok
  go_enter Try.func8, Try.ntmps8
  go_wp2_with fail
  refine C23.out.mono ?_
  rintro e w1 ⟨G, r, rfl, hb, h⟩
  have B1 := AsideA.mk hb
  obtain ⟨rfl, g1, rfl, hg1⟩ : r = 0 ∧ ∃ g1, G = some ⟨g1, 0, none⟩ ∧ w1.heap[g1]? = some (.cells (grV cp) 98 (0, 0)) := by
    rcases h with ⟨_, h1, g, h2, _, h3⟩ | ⟨h, _⟩
    · exact ⟨h1, g, h2, by rw [hcp]; exact h3⟩
    · rw [HOK.out] at h
      exact absurd h.symm Bool.false_ne_true
  have G1 := AsideA.mk hg1
  clear h hb hg1
  go_wp2_with fail
  refine (C26.out _ B1.out).mono ?_
  rintro e w2 ⟨G, r, rfl, hb, h⟩
  obtain ⟨rfl, hoks, g2, rfl, hg2⟩ : r = 0 ∧ (∀ x ∈ fs, okF x = true) ∧ ∃ g2, G = some ⟨g2, 0, none⟩ ∧ RgAt w2 g2 (flo cp ps16) := by
    rcases h with ⟨_, h1, h2, g, h3, h4⟩ | ⟨h, _⟩
    · exact ⟨h1, h2, g, h3, by rw [hcp]; exact h4⟩
    · rw [HOK.out] at h
      exact absurd h.symm Bool.false_ne_true
  have CP : AsideA (Inner cp ∧ ∀ i, 0 ≤ gi cp i ∧ gi cp i ≤ 2199023255552) := ⟨by rw [hcp]; exact ⟨(inner_cpF fs hoks).1, cpF_top fs hoks⟩⟩
  have S2 := AsideA.mk (show Below w.heap.size w w2 ∧ w2.heap[g1]? = some (.cells (grV cp) 98 (0, 0)) ∧ RgAt w2 g2 (flo cp ps16) from ⟨below_call B1.out hb, blk_below G1.out hb, hg2⟩)
  clear h hb hg2 hoks B1 G1 hcp C23 C26
  go_wp2_with fail
  refine (xshort (some ⟨g1, 0, none⟩) cp f t w2 ⟨CL.out, .inr ⟨g1, rfl, S2.out.2.1⟩⟩).mono ?_
  rintro e wa ⟨B1, n1, c1, P, rfl, P1, hs1⟩
  have hn1 := P1.num
  subst hn1
  have S3 := AsideA.mk (show Below w.heap.size w wa ∧ wa.heap[g1]? = some (.cells (grV cp) 98 (0, 0)) ∧ RgAt wa g2 (flo cp ps16) ∧ ShortIs cp f t P ∧ PRet w wa B1 P.length c1 P from ⟨below_call S2.out.1 P1.below, blk_below S2.out.2.1 P1.below, S2.out.2.2.below P1.below, hs1, P1.start S2.out.1⟩)
  clear P1 hs1 S2
  go_wp2_with fail
  refine (xshort (some ⟨g1, 0, none⟩) cp f t wa ⟨CL.out, .inr ⟨g1, rfl, S3.out.2.1⟩⟩).mono ?_
  rintro e wb ⟨B2, n2, c2, P', rfl, P2, hs2⟩
  have hPP := hs2.unique S3.out.2.2.2.1
  subst hPP
  have hn2 := P2.num
  subst hn2
  have FW := AsideA.mk hs2.few
  have HS := AsideA.mk hs2
  have SP := AsideA.mk (And.intro S3.out.2.2.2.2 P2)
  have S4 := AsideA.mk (show Below w.heap.size w wb ∧ wb.heap[g1]? = some (.cells (grV cp) 98 (0, 0)) ∧ RgAt wb g2 (flo cp ps16) ∧ Bytes wb B1 P' ∧ Bytes wb B2 P' from ⟨below_call S3.out.1 P2.below, blk_below S3.out.2.1 P2.below, S3.out.2.2.1.below P2.below, (S3.out.2.2.2.2.bytes FW.out.1 FW.out.2).below P2.below, P2.bytes FW.out.1 FW.out.2⟩)
  clear P2 hs2 S3
  go_wp2_with fail
  have C27 : AsideA (∀ wz : World, Below wb.heap.size wb wz → Calls Try.prog 27 #[.pointer (some ⟨g2, 0, none⟩), .int .u8 (f : Int), .int .u8 (t : Int)] wz fun e w' => ∃ B c, e = .returned (.slice B P'.length c) ∧ Bytes w' B P' ∧ Below wb.heap.size wb w') := ⟨fun wz b => by
    refine (rshort g2 cp f t wz (S4.out.2.2.1.below b) (fun i => (CP.out.2 i).1) R0.out.1 R0.out.2).mono ?_
    rintro e w' ⟨B, n, c, P, rfl, hn, h1, h2, h3⟩
    have e := h2.unique HS.out
    subst e
    subst hn
    exact ⟨B, c, rfl, h1, below_call b h3⟩⟩
  obtain ⟨E, hE⟩ : ∃ E, E = flo cp ps16 := ⟨_, rfl⟩
  have C28 : AsideA (∀ wz : World, Below wb.heap.size wb wz → Calls Try.prog 28 #[.pointer (some ⟨g1, 0, none⟩)] wz fun e w' => ∃ A, e = .returned (.slice A E.length E.length) ∧ Flows w' A E ∧ Below wb.heap.size wb w') := ⟨fun wz b => by
    have h := xedges g1 cp wz CL.out CP.out.2 (blk_below S4.out.2.1 b)
    rw [flo_same CP.out.1, ← hE] at h
    refine h.mono ?_
    rintro e w' ⟨A, rfl, h1, h2⟩
    exact ⟨A, rfl, h1, below_call b h2⟩⟩
  obtain ⟨Ag, cg, hg, hF2⟩ := S4.out.2.2.1.blk
  rw [← hE] at hg hF2
  have GC := AsideA.mk (fun (wz : World) (b : Below wb.heap.size wb wz) => show wz.cell? ⟨g2, 0, none⟩ = some (.slice Ag E.length cg) from (blk_cell (blk_below hg b) 0).trans rfl)
  have C14 := AsideA.mk (fun (wz : World) (A5 : Option Addr) (h : Flows wz A5 E) (b : Below wb.heap.size wb wz) => same_flows A5 Ag E.length cg E wz h (hF2.below b))
  have BY := AsideA.mk (fun (wz : World) (b : Below wb.heap.size wb wz) => And.intro (S4.out.2.2.2.1.below b) (S4.out.2.2.2.2.below b))
  have K4 := AsideA.mk (Below.refl wb.heap.size wb)
  clear hg hF2 hE hf ht
  go_region_with (first
    | (go_at_call 27; refine (C27.out _ (K4.out.drew)).mono ?_; rintro e w5 ⟨B3, c3, rfl, h1, h2⟩; have K5 := AsideA.mk (And.intro h2 h1); clear h1 h2)
    | (go_at_call 19; (with_reducible refine (C19.out P' w5 B1 B3 c1 c3 (BY.out w5 K5.out.1).1 K5.out.2).mono ?_); rintro e w6 ⟨rfl, hb⟩; have K6 := AsideA.mk (below_call K5.out.1 hb); clear hb)
    | (go_at_call 19; (with_reducible refine (C19.out P' w6 B1 B2 c1 c2 (BY.out w6 K6.out).1 (BY.out w6 K6.out).2).mono ?_); rintro e w7 ⟨rfl, hb⟩; have K7 := AsideA.mk (below_call K6.out hb); have q7 := GC.out w7 K7.out; clear hb)
    | (go_at_call 28; refine (C28.out w7 K7.out).mono ?_; rintro e w8 ⟨A5, rfl, h1, h2⟩; have K8 := AsideA.mk (And.intro h2 h1); have q8 := GC.out w8 K8.out.1; clear h1 h2)
    | (go_at_call 14; refine (C14.out w8 A5 K8.out.2 K8.out.1).mono ?_; rintro e w9 ⟨rfl, hb⟩; have K9 := AsideA.mk (below_call K8.out.1 hb); clear hb))
  all_goals
    go_wp2_with fail
    refine (book_put B1 P'.length c1 w9.heap.size w9.heap.size (.slice none 0 0) [] _ (BookAt.start (heap_alloc_new w9 _) (Nat.le_refl _)) (by decide)).mono ?_
    rintro e wk ⟨rfl, m1, b1, v1, hk, hb⟩
    have KK1 := AsideA.mk hk
    have BK := AsideA.mk (((Below.refl w9.heap.size w9).alloc (Nat.le_refl _) _).trans hb)
    clear hk hb
    go_wp2_with fail
    refine (book_put B2 P'.length c2 w9.heap.size w9.heap.size v1 _ _ KK1.out (by simp)).mono ?_
    rintro e wk2 ⟨rfl, m2, b2, v2, hk, hb⟩
    have KK2 := AsideA.mk (two_pages SP.out.1 SP.out.2.below SP.out.2 (below_call K9.out (BK.out.trans hb)) hk)
    clear hk hb KK1
    go_wp2_with fail
    refine (book_apart w _ w9.heap.size w9.heap.size v2 _ KK2.out.1 KK2.out.2 (by simp)).mono ?_
    rintro e wl ⟨rfl, hb⟩
    have BL := AsideA.mk hb
    clear hb KK2
    go_wp2_with fail
    refine (LV.out _).mono ?_
    rintro e wm ⟨rfl, hb⟩
    have BM := AsideA.mk (below_call BL.out hb)
    clear hb
    go_wp2_with fail
    go_ret
    exact ⟨rfl, BM.out⟩

theorem sh_of_row (A : Option Addr) (n c f t : Nat) (fs : List Fl) (w : World) (h : RowF w A n c fs) (hf : f < 256) (ht : t < 256) : Calls Try.prog 8 #[.slice A n c, .int .u8 (f : Int), .int .u8 (t : Int)] w fun e w' => e = .returned (.bool true) ∧ Below w.heap.size w w' := by
  by_cases hn : 300 < n
  · exact sh_many A n c f t w hn
  · have hl := h.num
    have F : Flows w A fs := ⟨h.reads, h.wf, by omega⟩
    cases hok : newOk fs with
    | true =>
      have := sh_good A c f t fs w F (by omega) hok hf ht
      rwa [hl] at this
    | false =>
      have := sh_bad A c f t fs w F (by omega) hok
      rwa [hl] at this
end Go.Proofs.Ytjopmkfpghdlpaa.A

