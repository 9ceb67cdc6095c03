/-
  The law PathsRound, its walk.
-/
import Derived.Test.YtjopmkfpghdlpaaZ1
import Derived.Deep.RegionHeld3
import Derived.Deep.AppendLies
namespace Go.Proofs.Ytjopmkfpghdlpaa.A
set_option linter.unusedVariables false
set_option linter.unusedSimpArgs false
open Go.RowKit

theorem take_own {w : World} {base n k : Nat} {e : TypeId} {v : Value} {es : List Ed} {ed : Ed} (h : w.ownsRow base e 3 v n (encE (es.take k) ++ [.int .u8 (ed.f : Int), .int .u8 (ed.t : Int), .int .i8 ed.c])) (he : es[k]? = some ed) : w.ownsRow base e 3 v n (encE (es.take (k + 1))) := by
  rw [List.take_add_one, he, encE_append]
  exact h

set_option maxHeartbeats 16000000 in
set_option maxRecDepth 100000 in
theorem rnd_few (A : Option Addr) (c : Nat) (es : List Ed) (w : World) (E : Edges w A es) (hn : es.length ≤ 300) : Calls Try.prog 5 #[.slice A es.length c] w fun e w' => e = .returned (.bool true) ∧ Below w.heap.size w w' := by
  have HE := AsideA.mk E
  have hRF := roundF_few (es.filter okb) (fun e he => (okb_iff e).1 (List.mem_filter.1 he).2)
  obtain ⟨R, hR⟩ : ∃ R, R = roundF (es.filter okb) := ⟨_, rfl⟩
  have C15 := AsideA.mk (fun (wz : World) (g c : Nat) (h : TwAt w wz g es) => xround (some ⟨g, 0, none⟩) c es wz (h.edges E.wf E.len))
  have C20 := AsideA.mk (fun (wz : World) (B : Option Addr) (c : Nat) (h : Edges wz B es) => ref_round B c es wz h)
  rw [← hR] at C15 C20 hRF
  have C19 : AsideA (∀ (wz : World) (A1 A2 : Option Addr) (d1 d2 : Nat), Bytes wz A1 R → Bytes wz A2 R → Calls Try.prog 19 #[.slice A1 R.length d1, .slice A2 R.length d2] wz fun e w' => e = .returned (.bool true) ∧ Below wz.heap.size wz w') := ⟨fun wz A1 A2 d1 d2 h1 h2 => by
    have h := same_bytes A1 A2 d1 d2 R R wz h1 h2
    rwa [decide_eq_true rfl] at h⟩
  have HRF := AsideA.mk hRF
  have LV := AsideA.mk lives06
  have HEL := AsideA.mk (encE_len es)
  have HWF := AsideA.mk E.wf
  obtain ⟨len, hl⟩ : ∃ len, len = es.length := ⟨_, rfl⟩
  rw [← hl] at hn C15 C20 HEL ⊢
  have HL := AsideA.mk hl
  have HEK := AsideA.mk (fun (k : Nat) (h : k < len) (wz : World) (b : Below w.heap.size w wz) => (HE.out.below b).get k (by rw [← hl]; exact h))
  have d0 : decide ((300 : Int) < (len : Int)) = false := decide_eq_false (by omega)
  have hlen : (len : Int) ≤ 300 := by omega
  clear hl E hn hR hRF
  go_enter Try.func5, Try.ntmps5
  go_wp2_with (first
    | ((with_reducible refine gate (N := 18) rfl ?_); go_loud (refine make_new 29 35 _ _ rfl rfl Try.underlying29 (.agg #[.int .u8 0, .int .u8 0, .int .i8 0]) 3 3 info35 _ _ (len + 2) rfl _ rfl (by go_num) (by omega) (by omega) ?_); intro g0 w1 N1; have B1 := AsideA.mk N1.below; have O1 : AsideA (w1.ownsRow w.heap.size 35 3 (.slice (some ⟨g0, 0, none⟩) 0 (len + 2)) 0 []) := ⟨⟨rfl, .inr ⟨g0, len + 2, _, rfl, N1.ge (Below.refl _ _), N1.blk, Nat.zero_le _, (by simp only [maxLen]; omega), size_madeCells _ _, rfl⟩⟩⟩; clear N1)
    | ((with_reducible refine gate (N := 21) rfl ?_); go_loud (refine append_own w1 29 _ _ rfl rfl w.heap.size 35 _ 3 3 Try.underlying29 info35 rfl (by decide) (.slice (some ⟨g0, 0, none⟩) 0 (len + 2)) 0 [] rfl O1.out A len c (encE es) rfl HEL.out (HE.out.reads.below B1.out) (encE_one es) (by simp only [maxLen]; omega) (by omega) B1.out.size ?_); intro v2 w2 o2 g2 p2; rw [Nat.zero_add] at o2; have B2 := AsideA.mk (below_grown B1.out B1.out.size O1.out g2); obtain ⟨A2, c2, e2⟩ := own_form o2; subst e2; have O2 := AsideA.mk o2; clear o2 g2 p2)
    | ((with_reducible refine gate (N := 26) rfl ?_); go_loud (refine append_own _ 29 _ _ rfl rfl w.heap.size 35 _ 3 3 Try.underlying29 info35 rfl (by decide) (.slice A2 len c2) len ([] ++ encE es) rfl (own_alloc O2.out _) (some ⟨w2.heap.size, 0, none⟩) 2 2 (encE marks) rfl rfl (reads_built w2 35 (encE marks)) (encE_one marks) (by simp only [maxLen]; omega) (by omega) (Nat.le_trans B2.out.size ((Below.refl w2.heap.size w2).alloc (Nat.le_refl _) _).size) ?_); intro v3 w3 o3 g3 p3; have B3 := AsideA.mk (below_grown (B2.out.alloc B2.out.size _) (Nat.le_trans B2.out.size ((Below.refl w2.heap.size w2).alloc (Nat.le_refl _) _).size) (own_alloc O2.out _) g3); obtain ⟨gt, ct, e3, hct, hct2, ht⟩ := tw_of o3 rfl HL.out B3.out; subst e3; have T3 := AsideA.mk ht; clear o3 g3 p3 ht))
  clear d0
  go_loopw [4, 5] (fun lv i wr => ∃ (k : Nat) (A4 : Option Addr) (c4 : Nat), k ≤ len ∧ i = .int .i64 k ∧ lv = .slice A4 k c4 ∧ AsideA (TwAt w wr gt es ∧ wr.ownsRow w.heap.size 43 3 (.slice A4 k c4) k (encE (es.take k)))) (fun _ i _ => len - (intOf i).toNat)
  case atStart => exact ⟨0, none, 0, by omega, rfl, rfl, ⟨T3.out, own_nil _ _ _ _⟩⟩
  case round =>
    obtain ⟨k, A4, c4, hk, rfl, rfl, I⟩ := hrel
    clear T3 O1 O2 B1 B2 B3
    by_cases hlt : k < len
    · obtain ⟨ge, off, ⟨f, t, cst⟩, rfl, hek, hwf, hc⟩ := HEK.out k hlt wr I.out.1.below
      have LG : AsideA (ge < w.heap.size) := ⟨by
        obtain ⟨g', o', e', h1, _, _, h2⟩ := HEK.out k hlt w (Below.refl _ _)
        have h3 := h2 0 (Nat.succ_pos 2)
        cases h1
        have h4 : w.cell? ⟨ge, off + k * 3, none⟩ = some (.int .u8 (e'.f : Int)) := h3
        exact World.block_lt_of_cell? w _ h4⟩
      have e0 : wr.cell? ⟨ge, off + k * 3, none⟩ = some (.int .u8 (f : Int)) := hc 0 (Nat.succ_pos 2)
      have e1 : wr.cell? ⟨ge, off + k * 3 + 1, none⟩ = some (.int .u8 (t : Int)) := hc 1 (Nat.succ_lt_succ (Nat.succ_pos 1))
      have e2 : wr.cell? ⟨ge, off + k * 3 + 2, none⟩ = some (.int .i8 cst) := hc 2 (Nat.lt_succ_self 2)
      have TK := AsideA.mk hek
      clear hek hwf hc
      have hi0 : (0 : Int) ≤ (k : Int) := Int.natCast_nonneg _
      have hi1 : (k : Int) < (len : Int) := by omega
      obtain ⟨i0, hi0', hz0, hz1, hz2⟩ := info_parts info43
      have lg := World.block_lt_of_cell? wr _ e0
      have ON := AsideA.mk I.out.2
      have NG : AsideA ((Value.slice A4 k c4).ownBlock ≠ some ge) := ⟨fun e => by
        have h1 := own_row I.out.2 ge e
        have h2 := LG.out
        omega⟩
      go_wp2
      go_region_held3 (fun w' => w'.cell? ⟨ge, off + k * 3, none⟩ = some (.int .u8 (f : Int)) ∧ w'.cell? ⟨ge, off + k * 3 + 1, none⟩ = some (.int .u8 (t : Int)) ∧ w'.cell? ⟨ge, off + k * 3 + 2, none⟩ = some (.int .i8 cst))
        (first
          | go_keep
          | (go_split_ands
             refine ⟨?_, ?_, ?_⟩
             · (rw [hgrow.cell_far _ (by simp; omega) (Ne.symm NG.out)]; assumption)
             · (rw [hgrow.cell_far _ (by simp; omega) (Ne.symm NG.out)]; assumption)
             · (rw [hgrow.cell_far _ (by simp; omega) (Ne.symm NG.out)]; assumption)))
        ((refine step_append_lies _ (by rfl) _ _ _ (by rfl) w.heap.size 43 i0 _ 3 3 Try.underlying42 hi0' hz0 hz1 hz2 rfl (by omega) (.slice A4 k c4) k (encE (es.take k)) (by rfl) ((ON.out.alloc _).drew)
            ⟨wr.heap.size, 0, none⟩ 1 1 [.int .u8 (f : Int), .int .u8 (t : Int), .int .i8 cst] (by rfl) (by rfl) (World.news_of_block (cs := #[.int .u8 (f : Int), .int .u8 (t : Int), .int .i8 cst]) (t := 43) (fr := (0, 0)) (heap_alloc_new wr _)) (by simp [Value.oneCell'])
            (by omega) (by simp only [maxLen]; omega) (by omega) (by have := I.out.1.below.size; simp; omega) (wr.heap.size + 1) (by simp) ?_; intro gg cap w5 hown1 hgrow hat hlt5))
      have I5 : AsideA (TwAt w w5 gt es ∧ w5.ownsRow w.heap.size 43 3 (.slice (some ⟨gg, 0, none⟩) (k + 1) cap) (k + 1) (encE (es.take (k + 1)))) := ⟨TwAt.grown (I.out.1.later (((Below.refl _ _).alloc (Nat.le_refl _) _).drew)) ((ON.out.alloc _).drew) hgrow, take_own hown1 TK.out⟩
      clear hown1 hgrow hat
      go_wp2
      exact ⟨⟨k + 1, _, _, by omega, by go_num, rfl, I5⟩, by simp [intOf]; omega⟩
    · have ek : es.take k = es := List.take_of_length_le (by have := HL.out; omega)
      rw [ek] at I
      have hkl : len = k := by omega
      subst hkl
      have S0 : AsideA (TwAt w wr gt es ∧ Edges wr A4 es) := ⟨I.out.1, edges_own I.out.2 HWF.out (by have := HL.out; omega)⟩
      clear I hlt ek
      go_wp2_with fail
      refine (C15.out wr gt ct S0.out.1).mono ?_
      rintro e wa ⟨B1, n1, c1, rfl, P1⟩
      have hn1 := P1.num
      subst hn1
      have S1 : AsideA (TwAt w wa gt es ∧ Edges wa A4 es ∧ PRet wr wa B1 R.length c1 R ∧ PRet w wa B1 R.length c1 R) := ⟨S0.out.1.later P1.below, S0.out.2.below P1.below, P1, P1.start S0.out.1.below⟩
      clear P1 S0
      go_wp2_with fail
      refine (C15.out wa gt ct S1.out.1).mono ?_
      rintro e wb ⟨B2, n2, c2, rfl, P2⟩
      have hn2 := P2.num
      subst hn2
      have S2 : AsideA (TwAt w wb gt es ∧ Edges wb A4 es ∧ Bytes wb B1 R ∧ Bytes wb B2 R) := ⟨S1.out.1.later P2.below, S1.out.2.1.below P2.below, (S1.out.2.2.1.bytes HRF.out.1 HRF.out.2).below P2.below, P2.bytes HRF.out.1 HRF.out.2⟩
      have SP : AsideA (PRet w wa B1 R.length c1 R ∧ PRet wa wb B2 R.length c2 R) := ⟨S1.out.2.2.2, P2⟩
      clear P2 S1
      go_wp2_with fail
      refine (C20.out wb A4 c4 S2.out.2.1).mono ?_
      rintro e wc ⟨B3, n3, c3, rfl, P3⟩
      have hn3 := P3.num
      subst hn3
      have BB : AsideA (Below wb.heap.size wb wc) := ⟨P3.below⟩
      have S3 : AsideA (TwAt w wc gt es ∧ Bytes wc B1 R ∧ Bytes wc B2 R ∧ Bytes wc B3 R) := ⟨S2.out.1.later P3.below, S2.out.2.2.1.below P3.below, S2.out.2.2.2.below P3.below, P3.bytes HRF.out.1 HRF.out.2⟩
      clear P3 S2
      go_wp2_with fail
      refine (C19.out wc B1 B3 c1 c3 S3.out.2.1 S3.out.2.2.2).mono ?_
      rintro e wd ⟨rfl, hb⟩
      have S4 : AsideA (TwAt w wd gt es ∧ Bytes wd B1 R ∧ Bytes wd B2 R ∧ Below wb.heap.size wb wd) := ⟨S3.out.1.later hb, S3.out.2.1.below hb, S3.out.2.2.1.below hb, below_call BB.out hb⟩
      clear hb S3 BB
      go_wp2_with fail
      refine (C19.out wd B1 B2 c1 c2 S4.out.2.1 S4.out.2.2.1).mono ?_
      rintro e wf ⟨rfl, hb⟩
      have S5 : AsideA (TwAt w wf gt es ∧ Below wb.heap.size wb wf) := ⟨S4.out.1.later hb, below_call S4.out.2.2.2 hb⟩
      clear hb S4
      go_wp2_with fail
      go_loopw [8] (fun i wz => ∃ k : Nat, k ≤ len ∧ i = .int .i64 k ∧ AsideA (TwAt w wz gt es ∧ Below wb.heap.size wb wz)) (fun i _ => len - (intOf i).toNat)
      case atStart => exact ⟨0, by omega, rfl, S5⟩
      case round =>
        clear S5
        obtain ⟨k, hk, rfl, I⟩ := hrel
        by_cases hlt : k < len
        · obtain ⟨ge, off, ⟨f, t, cst⟩, rfl, hek, hwf, hc⟩ := HEK.out k hlt wr I.out.1.below
          have e0 : wr.cell? ⟨ge, off + k * 3, none⟩ = some (.int .u8 (f : Int)) := hc 0 (Nat.succ_pos 2)
          have e1 : wr.cell? ⟨ge, off + k * 3 + 1, none⟩ = some (.int .u8 (t : Int)) := hc 1 (Nat.succ_lt_succ (Nat.succ_pos 1))
          have e2 : wr.cell? ⟨ge, off + k * 3 + 2, none⟩ = some (.int .i8 cst) := hc 2 (Nat.lt_succ_self 2)
          obtain ⟨f0, f1, f2⟩ := I.out.1.at_ hek
          clear hek hwf hc
          have hi0 : (0 : Int) ≤ (k : Int) := Int.natCast_nonneg _
          have hi1 : (k : Int) < (len : Int) := by omega
          go_wp2
          go_quiet (fail)
          go_wp2
          exact ⟨⟨k + 1, by omega, by go_num, ⟨I.out.1.later (below_drewN _ _), below_call I.out.2 (below_drewN _ _)⟩⟩, by simp [intOf]; omega⟩
        · have hkl : len = k := by omega
          subst hkl
          clear hlt
          obtain ⟨r7, r8⟩ := I.out.1.room
          rw [← HL.out] at r7 r8
          have r9 : wr.cell? ⟨gt, len * 3 + 3 + 2, none⟩ = some (.int .i8 78) := by rw [show len * 3 + 3 + 2 = (len + 1) * 3 + 2 by omega]; exact r8
          have r10 : wr.cell? ⟨gt, len * 3 + 5, none⟩ = some (.int .i8 78) := r9
          clear r8
          go_wp2_with fail
          refine (book_put B1 R.length c1 wr.heap.size wr.heap.size (.slice none 0 0) [] _ (BookAt.start (heap_alloc_new wr _) (Nat.le_refl _)) (by decide)).mono ?_
          rintro e wk ⟨rfl, m1, b1, v1, hk, hb⟩
          have K1 := AsideA.mk hk
          have BK := AsideA.mk (((Below.refl wr.heap.size wr).alloc (Nat.le_refl _) _).trans hb)
          clear hk hb
          go_wp2_with fail
          refine (book_put B2 R.length c2 wr.heap.size wr.heap.size v1 _ _ K1.out (by simp)).mono ?_
          rintro e wk2 ⟨rfl, m2, b2, v2, hk, hb⟩
          have K2 := AsideA.mk (two_pages SP.out.1 SP.out.2.below SP.out.2 (below_call I.out.2 (BK.out.trans hb)) hk)
          clear hk hb K1
          go_wp2_with fail
          refine (book_apart w _ wr.heap.size wr.heap.size v2 _ K2.out.1 K2.out.2 (by simp)).mono ?_
          rintro e wl ⟨rfl, hb⟩
          have BL := AsideA.mk hb
          clear hb K2
          go_wp2_with fail
          refine (LV.out _).mono ?_
          rintro e wm ⟨rfl, hb⟩
          have BM := AsideA.mk (below_call BL.out hb)
          clear hb
          go_wp2_with fail
          go_ret
          exact ⟨rfl, BM.out⟩
end Go.Proofs.Ytjopmkfpghdlpaa.A

