/-
  The law FramesSpoilt, its walk.
-/
import Derived.Test.YtccmeiflahnleaaDoorK4
import Derived.Test.YtccmeiflahnleaaDoorFl
import Derived.BigQuiet
namespace Go.Proofs.YtccmeiflahnleaaDoor.A
set_option linter.unusedVariables false
set_option linter.unusedSimpArgs false
open Go.RowKit

/-- the bytes that are turned, the ends beside them -/
def SpI (w wr : World) (g cap : Nat) (xs : List Nat) (E : Option Addr) (n ce : Nat) (es : List Nat) : Prop := Fill w wr g cap xs ∧ wr.ownsRow w.heap.size 3 1 (.slice E n ce) n (encI es)
theorem SpI.drew {w wr : World} {g cap n ce : Nat} {xs es : List Nat} {E : Option Addr} (h : SpI w wr g cap xs E n ce es) : SpI w wr.drew g cap xs E n ce es := ⟨h.1.drew, own_below h.2 (Below.refl _ _).drew⟩
theorem SpI.later {w wr wz : World} {g cap n ce : Nat} {xs es : List Nat} {E : Option Addr} (h : SpI w wr g cap xs E n ce es) (k : Below wr.heap.size wr wz) : SpI w wz g cap xs E n ce es := ⟨h.1.later k, own_below h.2 k⟩
theorem SpI.put {w wr : World} {g cap n ce : Nat} {xs es : List Nat} {E : Option Addr} (h : SpI w wr g cap xs E n ce es) (q y : Nat) (hq : q < xs.length) : SpI w (wr.setCell ⟨g, q, none⟩ (.int .u8 (y : Int))) g cap (xs.set q y) E n ce es := by
  refine ⟨h.1.put q y hq, ?_⟩
  obtain ⟨t, ht, _⟩ := h.1.blk
  have hne := own_ne h.2 ht (by decide)
  refine ⟨h.2.1, ?_⟩
  rcases h.2.2 with h0 | ⟨g', cap', cur, e, h1, h2, h3⟩
  · exact .inl h0
  · rw [e] at hne
    exact .inr ⟨g', cap', cur, e, h1, blk_set_other h2 q _ (fun e2 => hne (by rw [e2]; rfl)), h3⟩

/-- what stands all the while -/
structure SpAt (w wr : World) (A : Option Addr) (ps : List Part) (z0 z1 : Nat) : Prop where
  la : Reads wr A (enc22 ps)
  tab : TabAt wr
  zz : wr.heap[w.heap.size]? = some (.cells #[.int .u16 (z0 : Int), .int .u16 (z1 : Int)] 50 (0, 0))
  below : Below w.heap.size w wr
theorem SpAt.later {w wr wz : World} {A : Option Addr} {ps : List Part} {z0 z1 : Nat} (h : SpAt w wr A ps z0 z1) (k : Below wr.heap.size wr wz) : SpAt w wz A ps z0 z1 :=
  ⟨h.la.below k, h.tab.below k, blk_below h.zz k, below_call h.below k⟩

theorem ends_split (ls : List (List Nat)) (k : Nat) (b : List Nat) (h : ls[k]? = some b) : ls = ls.take k ++ b :: ls.drop (k + 1) := by
  obtain ⟨h1, h2⟩ := List.getElem?_eq_some_iff.1 h
  have := List.take_append_drop k ls
  rw [List.drop_eq_getElem_cons h1, h2] at this
  exact this.symm
theorem ends_at (ls : List (List Nat)) (k : Nat) (b : List Nat) (h : ls[k]? = some b) : (endsL ls)[k]? = some ((cat (ls.take k)).length + (frameP b).length) := by
  have e := ends_split ls k b h
  have hk := (List.getElem?_eq_some_iff.1 h).1
  have gen : ∀ (a : List (List Nat)) (s : Nat) (t : List (List Nat)), ((frs s (a ++ b :: t)).map (·.2))[a.length]? = some (s + (cat a).length + (frameP b).length) := by
    intro a
    induction a with
    | nil => intro s t; simp [frs, cat]
    | cons c a ih =>
      intro s t
      rw [List.cons_append]
      unfold frs
      rw [List.map_cons, List.length_cons, List.getElem?_cons_succ, ih, cat_cons, List.length_append]
      congr 1
      omega
  have h2 := gen (ls.take k) 0 (ls.drop (k + 1))
  rw [← e, List.length_take, Nat.min_eq_left (by omega), Nat.zero_add] at h2
  exact h2
theorem ends_before (ls : List (List Nat)) (k : Nat) (hk : k < ls.length) : (endsL ls)[k]? = some (cat (ls.take (k + 1))).length := by
  obtain ⟨b, hb⟩ : ∃ b, ls[k]? = some b := ⟨ls[k], List.getElem?_eq_getElem hk⟩
  rw [ends_at ls k b hb, List.take_add_one, hb]
  show _ = some (cat (ls.take k ++ [b])).length
  rw [cat_snoc, List.length_append]

set_option maxHeartbeats 8000000 in
set_option maxRecDepth 100000 in
theorem xspoilt (A : Option Addr) (n c v z0 z1 : Nat) (ps : List Part) (w : World) (T : TabAt w) (RA : Reads w A (enc22 ps)) (PA : (∀ p ∈ ps, p.bs.length ≤ 8192) → ∀ p ∈ ps, Bytes w p.A p.bs) (hn : n = ps.length) (hv : v < 2 ^ 32) (hz0 : (z0 : Int) < 65536) (hz1 : (z1 : Int) < 65536) : Calls Tryd.prog 9 #[.slice A n c, .int .u32 (v : Int), .agg #[.int .u16 (z0 : Int), .int .u16 (z1 : Int)]] w fun e w' => e = .returned (.bool true) ∧ Below w.heap.size w w' := by
  obtain ⟨wa, hwa⟩ : ∃ wa, wa = w.alloc (.cells #[.int .u16 (z0 : Int), .int .u16 (z1 : Int)] 50 (0, 0)) := ⟨_, rfl⟩
  have BA : Below w.heap.size w wa := by rw [hwa]; exact (Below.refl _ _).alloc (Nat.le_refl _) _
  have XA := AsideA.mk (show SpAt w wa A ps z0 z1 from ⟨RA.below BA, T.below BA, by rw [hwa]; exact heap_alloc_new w _, BA⟩)
  have HP := AsideA.mk PA
  have HN := AsideA.mk hn
  have HV := AsideA.mk hv
  have HZ := AsideA.mk (And.intro hz0 hz1)
  have HWA := AsideA.mk hwa
  have C31 := AsideA.mk (xgreat A n c ps wa (RA.below BA) hn)
  have C23 := AsideA.mk (fun (wz : World) (h : TabAt wz) => lives18 wz h)
  have HB := AsideA.mk (fun (P : ∀ p ∈ ps, Bytes w p.A p.bs) (wz : World) (h : Below w.heap.size w wz) => (fun p hp => (P p hp).below h : ∀ p ∈ ps, Bytes wz p.A p.bs))
  clear RA hn PA T hv hwa BA hz0 hz1
  go_enter Tryd.func9, Tryd.ntmps9
  go_wp2_with fail
  rw [← HWA.out]
  refine C31.out.mono ?_
  rintro e w1 ⟨r, rfl, hr, hb⟩
  have HR := AsideA.mk hr
  have X1 := AsideA.mk (XA.out.later hb)
  clear hr hb C31 HWA XA
  have LV : AsideA (Calls Tryd.prog 23 #[] w1 fun e w' => e = .returned (.bool true) ∧ Below w.heap.size w w') := ⟨(C23.out w1 X1.out.tab).mono fun e w' hh => ⟨hh.1, below_call X1.out.below hh.2⟩⟩
  cases r with
  | true =>
    go_wp2_with fail
    refine LV.out.mono ?_
    rintro e w2 ⟨rfl, hq⟩
    have B2 := AsideA.mk hq
    clear hq
    go_wp2_with fail
    go_ret
    exact ⟨rfl, B2.out⟩
  | false =>
    by_cases hn0 : n = 0
    · go_wp2_with fail
      refine LV.out.mono ?_
      rintro e w2 ⟨rfl, hq⟩
      have B2 := AsideA.mk hq
      clear hq
      go_wp2_with fail
      go_ret
      exact ⟨rfl, B2.out⟩
    by_cases hv0 : v = 0
    · go_wp2_with fail
      refine LV.out.mono ?_
      rintro e w2 ⟨rfl, hq⟩
      have B2 := AsideA.mk hq
      clear hq
      go_wp2_with fail
      go_ret
      exact ⟨rfl, B2.out⟩
    clear LV
    have S : AsideA (Small (ps.map (·.bs))) := ⟨HR.out rfl⟩
    have P : AsideA (∀ p ∈ ps, Bytes w p.A p.bs) := ⟨HP.out (fun p hp => S.out.1 _ (List.mem_map.2 ⟨p, hp, rfl⟩))⟩
    have BD : AsideA (∀ b ∈ ps.map (·.bs), Body b) := ⟨fun b hb => by
      obtain ⟨p, hp, rfl⟩ := List.mem_map.1 hb
      exact ⟨S.out.1 _ hb, (P.out p hp).small⟩⟩
    have C32 := AsideA.mk (xput_all A n c ps w1 X1.out.tab X1.out.la (HB.out P.out w1 X1.out.below) HN.out S.out)
    have CL : AsideA ((cat (ps.map (·.bs))).length ≤ 20000 ∧ ps.length ≤ 2000) := ⟨by
      have h1 := cat_len (ps.map (·.bs)) S.out.1
      have h2 := tot_count (ps.map (·.bs))
      have := S.out.2
      rw [List.length_map] at h2
      omega⟩
    have hn1 : 0 < n := by omega
    have hn2 : (n : Int) ≤ 2000 := by have := CL.out; have := HN.out; omega
    have dv : ((v : Int) == 0) = false := beq_eq_false_iff_ne.mpr (by omega)
    have HV0 := AsideA.mk hv0
    clear HR HP hn0 hv0 HB
    go_wp2_with fail
    refine C32.out.mono ?_
    rintro e w2 ⟨B, m, E, ce, k0, rfl, hm, hk0, hput, hown, hb⟩
    obtain rfl : k0 = n := by rw [hk0, List.length_map, HN.out]
    have hm2 : (m : Int) ≤ 20000 := by have := CL.out; omega
    obtain ⟨g, cap, rfl, F⟩ : ∃ g cap, B = some ⟨g, 0, none⟩ ∧ Fill w1 w2 g cap (cat (ps.map (·.bs))) := by
      rcases hput with ⟨h1, _⟩ | h
      · exfalso
        cases hl : ps.map (·.bs) with
        | nil => rw [hl] at hk0; simp at hk0; omega
        | cons b t =>
          rw [hl, cat_cons] at h1
          have := congrArg List.length h1
          rw [List.length_append, frameP_len] at this
          simp at this
      · exact h
    have I2 := AsideA.mk (show SpI w1 w2 g cap (cat (ps.map (·.bs))) E k0 ce (endsL (ps.map (·.bs))) from ⟨F, hown⟩)
    have X2 := AsideA.mk (X1.out.later hb)
    obtain ⟨kk, hkk⟩ : ∃ kk, kk = z0 % k0 := ⟨_, rfl⟩
    have e0 : (z0 : Int) % (k0 : Int) = (kk : Int) := by rw [hkk, Int.natCast_emod]
    have wz0 : wrap64 (z0 : Int) = (z0 : Int) := by have := HZ.out.1; unfold wrap64; omega
    have wz1 : wrap64 (z1 : Int) = (z1 : Int) := by have := HZ.out.2; unfold wrap64; omega
    have e0t : (z0 : Int).tmod (k0 : Int) = (kk : Int) := by rw [Int.tmod_eq_emod_of_nonneg (by omega)]; exact e0
    have hkn : kk < k0 := by rw [hkk]; exact Nat.mod_lt _ hn1
    obtain ⟨p, hp⟩ : ∃ p, ps[kk]? = some p := ⟨ps[kk]'(by have := HN.out; omega), List.getElem?_eq_getElem _⟩
    have hb0 : (ps.map (·.bs))[kk]? = some p.bs := by rw [List.getElem?_map, hp]; rfl
    have hEk := ends_at _ kk p.bs hb0
    obtain ⟨gE, oE, rfl, hcE⟩ := readI_cell (own_reads I2.out.2) kk _ hEk
    obtain ⟨gA, oA, rfl, hcA⟩ := part_cell X2.out.la kk p hp
    have hsplit := ends_split _ kk p.bs hb0
    have hpl : p.bs.length ≤ 8192 := S.out.1 _ (List.mem_of_getElem? hb0)
    have hcl : (cat (ps.map (·.bs))).length = (cat ((ps.map (·.bs)).take kk)).length + ((frameP p.bs).length + (cat ((ps.map (·.bs)).drop (kk + 1))).length) := by
      have h1 := congrArg (fun l => (cat l).length) hsplit
      simp only [cat_append, cat_cons, List.length_append] at h1
      exact h1
    rw [frameP_len] at hcl hEk hcE
    have HS := AsideA.mk (And.intro hb0 hsplit)
    have HM := AsideA.mk hm
    obtain ⟨cp, hcp⟩ : ∃ cp, cp = (cat ((ps.map (·.bs)).take kk)).length := ⟨_, rfl⟩
    obtain ⟨nl, hnl⟩ : ∃ nl, nl = (numL p.bs.length).length := ⟨_, rfl⟩
    have NLP : nl ≤ 10 := by rw [hnl]; exact numL_len 9 _ (Nat.lt_of_le_of_lt hpl (by decide))
    rw [← hcp, ← hnl] at hcl hcE
    have HCP := AsideA.mk (And.intro hcp hnl)
    obtain ⟨pl, hpl'⟩ : ∃ pl, pl = p.bs.length := ⟨_, rfl⟩
    have HPL := AsideA.mk hpl'
    rw [← hpl'] at hcl hcE hpl hcA
    have c0 := hcE w2 (Below.refl _ _)
    have c1 := hcA w2 (Below.refl _ _)
    have HCE := AsideA.mk hcE
    generalize p.A = pA at *
    generalize p.c = pc at *
    obtain ⟨ek, hek⟩ : ∃ ek, ek = cp + (nl + pl + 4) := ⟨_, rfl⟩
    obtain ⟨fr, hfr⟩ : ∃ fr, fr = cp + nl := ⟨_, rfl⟩
    rw [← hek] at c0
    have e1 : (ek : Int) - 4 - (pl : Int) = (fr : Int) := by omega
    have hem : (ek : Int) ≤ m := by omega
    have e2 : (ek : Int) - (fr : Int) = (pl : Int) + 4 := by omega
    obtain ⟨f0, hf0⟩ : ∃ f0, f0 = z1 % (8 * pl + 1) := ⟨_, rfl⟩
    have e3 : (z1 : Int) % (8 * ((pl : Int) + 4) - 31) = (f0 : Int) := by
      have : (8 * ((pl : Int) + 4) - 31) = ((8 * pl + 1 : Nat) : Int) := by omega
      rw [this, hf0, Int.natCast_emod]
    have e3t : (z1 : Int).tmod (8 * ((pl : Int) + 4) - 31) = (f0 : Int) := by rw [Int.tmod_eq_emod_of_nonneg (by omega)]; exact e3
    have hf1 : f0 ≤ 8 * pl := by have := Nat.mod_lt z1 (show 0 < 8 * pl + 1 by omega); omega
    obtain ⟨ff, hff⟩ : ∃ ff, ff = 8 * fr + f0 := ⟨_, rfl⟩
    have e4 : 8 * (fr : Int) + (f0 : Int) = (ff : Int) := by omega
    have HE := AsideA.mk (And.intro hek (And.intro hfr (And.intro hcl hff)))
    have hpl2 : (pl : Int) ≤ 8192 := by omega
    have hfr2 : (fr : Int) ≤ 20000 := by omega
    have zz0 := (blk_cell X2.out.zz 0).trans (show _ = some (Value.int .u16 (z0 : Int)) from rfl)
    have zz1 := (blk_cell X2.out.zz 1).trans (show _ = some (Value.int .u16 (z1 : Int)) from rfl)
    clear hek hfr hcl hff hf0 hkk hcE hcA hEk hp hb0 hsplit hput hown hb hk0 hm hcp hnl hpl' F hpl NLP
    have hv := HV.out
    obtain ⟨cs, hcs⟩ : ∃ cs, cs = cat (ps.map (·.bs)) := ⟨_, rfl⟩
    rw [← hcs] at I2
    have RDP : AsideA (readP (turned cs ff v 32) = frs 0 ((ps.map (·.bs)).take kk)) := ⟨by
      obtain ⟨h1, h2⟩ := HS.out
      have h3 := read_spoilt ((ps.map (·.bs)).take kk) ((ps.map (·.bs)).drop (kk + 1)) p.bs (fun x hx => BD.out x (List.mem_of_mem_take hx)) (BD.out _ (List.mem_of_getElem? h1)) f0 v HV.out HV0.out (by rw [← HPL.out]; omega)
      rw [← h2, ← HCP.out.1, ← HCP.out.2, ← hcs] at h3
      have e5 : ff = 8 * (cp + nl) + f0 := by rw [HE.out.2.2.2, HE.out.2.1]
      rw [e5]
      exact h3⟩
    have BEF : AsideA ((kk = 0 ∧ cp = 0) ∨ (0 < kk ∧ (endsL (ps.map (·.bs)))[kk - 1]? = some cp)) := ⟨by
      by_cases h : kk = 0
      · left
        refine ⟨h, ?_⟩
        rw [HCP.out.1, h]
        rfl
      · right
        refine ⟨by omega, ?_⟩
        rw [ends_before _ (kk - 1) (by rw [List.length_map, ← HN.out]; omega), show kk - 1 + 1 = kk by omega, ← HCP.out.1]⟩
    have CSB : AsideA ((∀ b ∈ cs, b < 256) ∧ cs.length = m) := ⟨by rw [hcs]; exact ⟨cat_bytes (fun b hb => (BD.out b hb).2), HM.out.symm⟩⟩
    have hfm : ff + 32 ≤ 8 * m := by
      obtain ⟨h1, h2, h3, h4⟩ := HE.out
      have h5 := HM.out
      omega
    have KL : AsideA (((ps.map (·.bs)).take kk).length = kk ∧ cp = (cat ((ps.map (·.bs)).take kk)).length) := ⟨by rw [List.length_take, List.length_map, ← HN.out]; omega, HCP.out.1⟩
    clear hcs HS BD HE HCP HM HPL CL S P HV HV0 hf1
    go_wp2
    go_quiet (fail)
    go_wp2
    go_quiet (fail)
    go_wp2
    go_loopw [12] (fun i wr => ∃ k : Nat, k ≤ 32 ∧ i = .int .i64 k ∧ AsideA (SpI w1 wr g cap (turned cs ff v k) (some ⟨gE, oE, none⟩) k0 ce (endsL (ps.map (·.bs))))) (fun i _ => 32 - (intOf i).toNat)
    case atStart => exact ⟨0, by omega, rfl, ⟨I2.out.later ⟨rfl, rfl, rfl, Nat.le_refl _, fun _ _ => rfl⟩⟩⟩
    case round =>
      obtain ⟨k, hk, rfl, I⟩ := hrel
      clear I2 X2 zz0 zz1 c0 c1
      by_cases hlt : k < 32
      · clear RDP BEF HCE KL e0 e0t wz0 wz1 e1 hem e2 e3 e3t e4
        by_cases hb : v.testBit k = true
        · have d1 : (bits .and .u32 ((v : Int) / 2 ^ k) 1 == 1) = true := by rw [bit_at v k hv, if_pos hb]; rfl
          obtain ⟨q, r, e1, e2, e3, e4, e5, e6, hq, hr⟩ : ∃ q r : Nat, ((ff : Int) + (k : Int)) / 8 = q ∧ ((ff : Int) + (k : Int)) % 8 = r ∧ ((ff : Int) + (k : Int)).tdiv 8 = q ∧ ((ff : Int) + (k : Int)).tmod 8 = r ∧ (ff + k) / 8 = q ∧ (ff + k) % 8 = r ∧ q < m ∧ r < 8 := ⟨(ff + k) / 8, (ff + k) % 8, by omega, by omega, by rw [Int.tdiv_eq_ediv_of_nonneg (by omega)]; omega, by rw [Int.tmod_eq_emod_of_nonneg (by omega)]; omega, rfl, rfl, by omega, by omega⟩
          have E := AsideA.mk (And.intro e5 e6)
          clear e5 e6
          have hlen : q < (turned cs ff v k).length := by rw [turned_len, CSB.out.2]; exact hq
          have HX : AsideA (turned cs ff v (k + 1) = (turned cs ff v k).set q ((turned cs ff v k).getD q 0 ^^^ (1 <<< r))) := ⟨by
            show (if v.testBit k then flip1 (turned cs ff v k) (ff + k) else turned cs ff v k) = _
            rw [if_pos hb]
            unfold flip1
            rw [E.out.1, E.out.2]⟩
          have hx0 : (turned cs ff v k)[q]? = some ((turned cs ff v k).getD q 0) := by
            rw [List.getD_eq_getElem?_getD, List.getElem?_eq_getElem hlen]
            rfl
          have hxs := turned_small cs ff v k CSB.out.1 _ (List.mem_of_getElem? hx0)
          have HQ := AsideA.mk hx0
          have HLEN := AsideA.mk hlen
          generalize hxs2 : turned cs ff v k = xs at *
          generalize xs.getD q 0 = x at *
          obtain ⟨d2, d3⟩ := xor_bit x r hxs hr
          generalize x ^^^ (1 <<< r) = y at *
          clear hx0 hxs2 hlen
          go_wp2_with fail
          have wq : IntKind.i64.wrap (q : Int) = q := by rw [IntKind.wrap_i64]; omega
          have nq : ¬ ((m : Int) ≤ (q : Int)) := by omega
          have wff : IntKind.i64.wrap ((ff : Int) + (k : Int)) = (ff : Int) + (k : Int) := by rw [IntKind.wrap_i64]; omega
          refine region_fin follows [85, 86, 87, 88, 89, 90, 91, 92, 93, 94, 95, 96, 97, 98, 99, 100, 101, 102, 103] [(85, .slice (some ⟨g, 0, none⟩) m m), (86, .int .i64 (ff : Int)), (87, .int .i64 (k : Int)), (88, .int .i64 ((ff : Int) + (k : Int))), (89, .int .i64 q), (90, .slice (some ⟨g, 0, none⟩) m m), (91, .int .i64 (ff : Int)), (92, .int .i64 (k : Int)), (93, .int .i64 ((ff : Int) + (k : Int))), (94, .int .i64 q), (95, .pointer (some ⟨g, q, none⟩)), (96, .int .u8 (x : Int)), (97, .int .i64 (ff : Int)), (98, .int .i64 (k : Int)), (99, .int .i64 ((ff : Int) + (k : Int))), (100, .int .i64 r), (101, .int .u8 ((2 : Int) ^ r)), (102, .int .u8 (y : Int)), (103, .pointer (some ⟨g, q, none⟩))] (by rfl) _ (by simp only [actPuts]; go_simp; rfl) 128 rfl (by kernel_rfl)
            (fun (wz : World) => SpI w1 wz g cap xs (some ⟨gE, oE, none⟩) k0 ce (endsL (ps.map (·.bs)))) (fun (wz : World) => SpI w1 wz g cap (xs.set q y) (some ⟨gE, oE, none⟩) k0 ce (endsL (ps.map (·.bs)))) I.out.drew ?_ ?_
          · refine ⟨?_, ?_, ?_, ?_, ?_, ?_, ?_, ?_, ?_, ?_, ?_, ?_, ?_, ?_, ?_, ?_, ?_, ?_, ?_, ?_⟩
            · intro wz h
              exact op_val (v := .slice (some ⟨g, 0, none⟩) m m) (w' := wz) (by go_simp) rfl rfl (h)
            · intro wz h
              exact op_val (v := .int .i64 (ff : Int)) (w' := wz) (by go_simp) rfl rfl (h)
            · intro wz h
              exact op_val (v := .int .i64 (k : Int)) (w' := wz) (by go_simp) rfl rfl (h)
            · intro wz h
              exact op_val (v := .int .i64 ((ff : Int) + (k : Int))) (w' := wz) (by go_simp) rfl rfl (h)
            · intro wz h
              exact op_val (v := .int .i64 q) (w' := wz) (by go_simp) rfl rfl (h)
            · intro wz h
              exact op_val (v := .slice (some ⟨g, 0, none⟩) m m) (w' := wz) (by go_simp) rfl rfl (h)
            · intro wz h
              exact op_val (v := .int .i64 (ff : Int)) (w' := wz) (by go_simp) rfl rfl (h)
            · intro wz h
              exact op_val (v := .int .i64 (k : Int)) (w' := wz) (by go_simp) rfl rfl (h)
            · intro wz h
              exact op_val (v := .int .i64 ((ff : Int) + (k : Int))) (w' := wz) (by go_simp) rfl rfl (h)
            · intro wz h
              exact op_val (v := .int .i64 q) (w' := wz) (by go_simp) rfl rfl (h)
            · intro wz h
              exact op_val (v := .pointer (some ⟨g, q, none⟩)) (w' := wz) (by go_simp) rfl rfl (h)
            · intro wz h
              have hc := h.1.at_ q x HQ.out
              exact op_val (v := .int .u8 (x : Int)) (w' := wz) (by go_simp) rfl rfl (h)
            · intro wz h
              exact op_val (v := .int .i64 (ff : Int)) (w' := wz) (by go_simp) rfl rfl (h)
            · intro wz h
              exact op_val (v := .int .i64 (k : Int)) (w' := wz) (by go_simp) rfl rfl (h)
            · intro wz h
              exact op_val (v := .int .i64 ((ff : Int) + (k : Int))) (w' := wz) (by go_simp) rfl rfl (h)
            · intro wz h
              exact op_val (v := .int .i64 r) (w' := wz) (by go_simp) rfl rfl (h)
            · intro wz h
              exact op_val (v := .int .u8 ((2 : Int) ^ r)) (w' := wz) (by go_simp) rfl rfl (h)
            · intro wz h
              exact op_val (v := .int .u8 (y : Int)) (w' := wz) (by go_simp) rfl rfl (h)
            · intro wz h
              exact op_val (v := .pointer (some ⟨g, q, none⟩)) (w' := wz) (by go_simp) rfl rfl (h)
            · intro wz h
              have hc := h.1.at_ q x HQ.out; have hf := h.1.thaw q; exact op_skip (w' := wz.setCell ⟨g, q, none⟩ (.int .u8 (y : Int))) (by go_simp) rfl (h.put q y HLEN.out)
          · intro wz hz
            have Z := AsideA.mk hz
            clear hz I
            go_wp2
            exact ⟨⟨k + 1, by omega, by go_num, ⟨by rw [HX.out]; exact Z.out⟩⟩, by simp [intOf]; omega⟩
        · have d1 : (bits .and .u32 ((v : Int) / 2 ^ k) 1 == 1) = false := by rw [bit_at v k hv, if_neg hb]; rfl
          have HX : AsideA (turned cs ff v (k + 1) = turned cs ff v k) := ⟨by
            show (if v.testBit k then flip1 (turned cs ff v k) (ff + k) else turned cs ff v k) = _
            rw [if_neg hb]⟩
          clear hb
          go_wp2
          exact ⟨⟨k + 1, by omega, by go_num, ⟨by rw [HX.out]; exact I.out⟩⟩, by simp [intOf]; omega⟩
      · have e : k = 32 := by omega
        subst e
        have FB := I.out.1.bytes_ (turned_small cs ff v 32 CSB.out.1) (by rw [turned_len, CSB.out.2]; omega)
        have C28 := AsideA.mk (read_ret (some ⟨g, 0, none⟩) m m (turned cs ff v 32) (frs 0 ((ps.map (·.bs)).take kk)) wr FB (X1.out.tab.below I.out.1.below) (by rw [turned_len, CSB.out.2]) (Nat.le_refl _) (.inr ⟨g, 0, rfl⟩) RDP.out kk cp (by rw [frs_len, KL.out.1]) (by rw [good_all, Nat.zero_add]; exact KL.out.2))
        have BW := AsideA.mk (below_call X1.out.below I.out.1.below)
        have TW := AsideA.mk (X1.out.tab.below I.out.1.below)
        have OW := AsideA.mk I.out.2
        have hkn2 : (kk : Int) ≤ 2000 := by omega
        clear FB I RDP CSB KL HCE X1 e0 e0t wz0 wz1 e1 hem e2 e3 e3t e4 hfm
        go_wp2_with fail
        refine C28.out.mono ?_
        rintro e w6 ⟨L, qs, rfl, _, _, hb⟩
        have B6 := AsideA.mk (below_call BW.out hb)
        have L6 := AsideA.mk ((C23.out w6 (TW.out.below hb)).mono fun e w' hh => (⟨hh.1, below_call (below_call BW.out hb) hh.2⟩ : e = .returned (.bool true) ∧ Below w.heap.size w w'))
        have O6 := AsideA.mk (own_below OW.out hb)
        clear hb BW TW OW C28 C23
        rcases BEF.out with ⟨h1, h2⟩ | ⟨h1, h2⟩
        · subst h1 h2
          clear BEF
          go_wp2_with fail
          refine L6.out.mono ?_
          rintro e w7 ⟨rfl, hq⟩
          have B7 := AsideA.mk hq
          clear hq
          go_wp2_with fail
          go_ret
          exact ⟨rfl, B7.out⟩
        · obtain ⟨kp, rfl⟩ : ∃ kp, kk = kp + 1 := ⟨kk - 1, by omega⟩
          rw [Nat.add_sub_cancel] at h2
          obtain ⟨gE', oE', e1, hc⟩ := readI_cell (own_reads O6.out) kp cp h2
          cases e1
          have c0 := hc w6 (Below.refl _ _)
          clear BEF hc h2
          go_wp2_with fail
          refine L6.out.mono ?_
          rintro e w7 ⟨rfl, hq⟩
          have B7 := AsideA.mk hq
          clear hq
          go_wp2_with fail
          go_ret
          exact ⟨rfl, B7.out⟩
end Go.Proofs.YtccmeiflahnleaaDoor.A

