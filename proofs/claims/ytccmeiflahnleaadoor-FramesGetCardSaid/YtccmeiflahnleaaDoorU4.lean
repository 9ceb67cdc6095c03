/-
  The law SumsOf, its walk.
-/
import Derived.Test.YtccmeiflahnleaaDoorU3
import Derived.Test.YtccmeiflahnleaaDoorV2
namespace Go.Proofs.YtccmeiflahnleaaDoor.A
set_option linter.unusedVariables false
set_option linter.unusedSimpArgs false
open Go.RowKit

set_option maxHeartbeats 2000000 in
set_option maxRecDepth 100000 in
theorem law_of_many (A B : Option Addr) (n m c d : Nat) (w : World) (T : TabAt w) (hn : 3000 < n ∨ 3000 < m) : Calls Tryd.prog 3 #[.slice A n c, .slice B m d] w fun e w' => e = .returned (.bool true) ∧ Below w.heap.size w w' := by
  have BB := AsideA.mk (Below.refl w.heap.size w)
  have L := AsideA.mk (lives15 w T)
  clear T
  by_cases h1 : 3000 < n
  · clear hn
    go_enter Tryd.func3, Tryd.ntmps3
    go_wp2_with (go_at_call 10; refine L.out.mono ?_; rintro e wq ⟨rfl, hq⟩; have BN := AsideA.mk (below_call BB.out hq); clear hq BB; have BB := BN; clear BN)
    go_ret
    exact ⟨rfl, BB.out⟩
  · have h2 : 3000 < m := by omega
    clear hn
    go_enter Tryd.func3, Tryd.ntmps3
    go_wp2_with (go_at_call 10; refine L.out.mono ?_; rintro e wq ⟨rfl, hq⟩; have BN := AsideA.mk (below_call BB.out hq); clear hq BB; have BB := BN; clear BN)
    go_ret
    exact ⟨rfl, BB.out⟩

/-- what stands behind the copies, and Put -/
structure SOf (w wr : World) (A B A3 : Option Addr) (xs bs : List Nat) (g gp cp : Nat) : Prop where
  tw : Twin8 w wr g xs
  ra : Bytes wr A xs
  rb : Bytes wr B bs
  tab : TabAt wr
  al : Bytes wr A3 (xs ++ bs)
  p : Fill w wr gp cp (withSum xs)
  ne : g ≠ gp
theorem SOf.later {w wr wz : World} {A B A3 : Option Addr} {xs bs : List Nat} {g gp cp : Nat} (h : SOf w wr A B A3 xs bs g gp cp) (k : Below wr.heap.size wr wz) : SOf w wz A B A3 xs bs g gp cp :=
  ⟨h.tw.later k, h.ra.below k, h.rb.below k, h.tab.below k, h.al.below k, h.p.later k, h.ne⟩
theorem Fill.lt {w wr : World} {g cap : Nat} {bs : List Nat} (h : Fill w wr g cap bs) : g < wr.heap.size := by
  obtain ⟨t, h1, _⟩ := h.blk
  exact blk_lt h1

theorem al_of {w : World} {base la lb c3 : Nat} {A A3 B : Option Addr} {wa wb : World} {xs bs : List Nat} (h : w.ownsRow base 5 1 (.slice A3 (la + lb) c3) (la + lb) ([] ++ enc8 xs ++ enc8 bs)) (ha : la = xs.length) (hb : lb = bs.length) (HA : Bytes wa A xs) (HB : Bytes wb B bs) (h1 : la ≤ 3000) (h2 : lb ≤ 3000) : Bytes w A3 (xs ++ bs) := by
  refine ⟨?_, ?_, ?_⟩
  · have := own_reads h
    rwa [List.nil_append, ← enc8_append] at this
  · intro b hb
    rcases List.mem_append.1 hb with h | h
    · exact HA.small b h
    · exact HB.small b h
  · rw [List.length_append]
    omega

/-- the book's two pages stand by themselves -/
theorem pages_of {w wq wr : World} {A B A3 : Option Addr} {xs bs : List Nat} {g gp cp la : Nat} {m1 b1 m2 b2 : Int} {v : Value} (S : SOf w wq A B A3 xs bs g gp cp) (hl : la = xs.length) (h1 : la ≤ 3000) (K : BookAt wr wq.heap.size wq.heap.size v ([] ++ [⟨some ⟨g, 0, none⟩, la, la + 2, m1, b1⟩] ++ [⟨some ⟨gp, 0, none⟩, la + 4, la + 4, m2, b2⟩])) (hb : Below wq.heap.size wq wr) :
    ApSt w wr wq.heap.size wq.heap.size v ([] ++ [⟨some ⟨g, 0, none⟩, la, la + 2, m1, b1⟩] ++ [⟨some ⟨gp, 0, none⟩, la + 4, la + 4, m2, b2⟩]) 0 0 ∧ Distinct ([] ++ [⟨some ⟨g, 0, none⟩, la, la + 2, m1, b1⟩] ++ [⟨some ⟨gp, 0, none⟩, la + 4, la + 4, m2, b2⟩]) := by
  refine ⟨⟨below_call S.tw.below hb, K.blk, K.own, fun j p hj => ?_⟩, fun i j p q hi hj hne _ _ => ?_⟩
  · have hj' : j = 0 ∨ j = 1 := by
      have := (List.getElem?_eq_some_iff.1 hj).1
      simp at this
      omega
    rcases hj' with rfl | rfl
    · cases hj
      refine .inr ⟨g, _, rfl, blk_below S.tw.blk hb, S.tw.ge, by show la ≤ la + 2; omega, ?_, by show ((la + 2 : Nat) : Int) ≤ _; omega, by show 0 < la + 2; omega, (fun h => by omega), (fun h => by omega)⟩
      show la + 2 ≤ _
      rw [List.size_toArray, List.length_append, enc8_len, hl]
      exact Nat.le_refl _
    · cases hj
      obtain ⟨t, e1, e2⟩ := S.p.blk
      refine .inr ⟨gp, _, rfl, blk_below e1 hb, S.p.ge, by show la + 4 ≤ la + 4; omega, ?_, by show ((la + 4 : Nat) : Int) ≤ _; omega, by show 0 < la + 4; omega, (fun h => by omega), (fun h => by omega)⟩
      show la + 4 ≤ _
      rw [List.size_toArray, List.length_append, enc8_len, withSum_len, hl]
      omega
  · have hi' : i = 0 ∨ i = 1 := by
      have := (List.getElem?_eq_some_iff.1 hi).1
      simp at this
      omega
    have hj' : j = 0 ∨ j = 1 := by
      have := (List.getElem?_eq_some_iff.1 hj).1
      simp at this
      omega
    have hgn : (some (⟨g, 0, none⟩ : Addr)) ≠ some ⟨gp, 0, none⟩ := fun e => S.ne (by injection e with e; injection e)
    rcases hi' with rfl | rfl <;> rcases hj' with rfl | rfl
    · exact absurd rfl hne
    · cases hi
      cases hj
      exact hgn
    · cases hi
      cases hj
      exact hgn.symm
    · exact absurd rfl hne

set_option maxHeartbeats 8000000 in
set_option maxRecDepth 100000 in
theorem law_of_few (A B : Option Addr) (c d : Nat) (xs bs : List Nat) (w : World) (RA : Bytes w A xs) (RB : Bytes w B bs) (T : TabAt w) (h1 : xs.length ≤ 3000) (h2 : bs.length ≤ 3000) (hc : xs.length ≤ c) : Calls Tryd.prog 3 #[.slice A xs.length c, .slice B bs.length d] w fun e w' => e = .returned (.bool true) ∧ Below w.heap.size w w' := by
  have HA := AsideA.mk RA
  have HB := AsideA.mk RB
  have HT := AsideA.mk T
  have C11 := AsideA.mk (twin_bytes A c xs w RA.reads (by omega))
  have C12 := AsideA.mk (fun (wz : World) (g : Nat) (H : Twin8 w wz g xs) (tab : TabAt wz) => xput (some ⟨g, 0, none⟩) (xs.length + 2) xs wz (H.bytes RA.small RA.len) (by omega) tab)
  have C13 := AsideA.mk (fun (wz : World) (A3 : Option Addr) (g gp cp : Nat) (S : SOf w wz A B A3 xs bs g gp cp) => xof (some ⟨g, 0, none⟩) (xs.length + 2) xs wz (S.tw.bytes RA.small RA.len) S.tab)
  have C14 := AsideA.mk (fun (wz : World) (A3 : Option Addr) (g gp cp : Nat) (S : SOf w wz A B A3 xs bs g gp cp) => ref_of A c xs wz S.ra)
  have C15 := AsideA.mk (fun (wz : World) (A3 : Option Addr) (g gp cp : Nat) (S : SOf w wz A B A3 xs bs g gp cp) => xmore B d bs (crc 0 xs) (crc_lt 0 xs (by decide)) wz S.rb S.tab)
  have C14b := AsideA.mk (fun (wz : World) (A3 : Option Addr) (c3 g gp cp : Nat) (S : SOf w wz A B A3 xs bs g gp cp) => ref_of A3 c3 (xs ++ bs) wz S.al)
  have C17 := AsideA.mk (fun (wz : World) (A3 : Option Addr) (g gp cp : Nat) (S : SOf w wz A B A3 xs bs g gp cp) => ref_put A c xs wz S.ra (by omega))
  have hws := withSum_small RA.small
  have C16 := AsideA.mk (fun (wz : World) (A3 : Option Addr) (g gp cp g5 c5 : Nat) (S : SOf w wz A B A3 xs bs g gp cp) (F : Fill w wz g5 c5 (withSum xs)) => same_bytes (some ⟨gp, 0, none⟩) (some ⟨g5, 0, none⟩) (xs.length + 4) c5 (withSum xs) (withSum xs) wz (S.p.bytes hws (by rw [withSum_len]; omega)) (F.bytes hws (by rw [withSum_len]; omega)))
  have C18 := AsideA.mk (fun (wz : World) (A3 : Option Addr) (g gp cp : Nat) (S : SOf w wz A B A3 xs bs g gp cp) => xends (some ⟨g, 0, none⟩) (xs.length + 2) xs wz (S.tw.bytes RA.small RA.len) S.tab (by omega))
  have C19 := AsideA.mk (fun (wz : World) (A3 : Option Addr) (g gp cp : Nat) (S : SOf w wz A B A3 xs bs g gp cp) => ref_ends A c xs wz S.ra hc (by omega))
  have C20 := AsideA.mk (fun (wz : World) (A3 : Option Addr) (g gp cp : Nat) (S : SOf w wz A B A3 xs bs g gp cp) => left_bytes A c g xs wz S.ra S.tw.blk)
  have C10 := AsideA.mk (fun (wz : World) (h : TabAt wz) => lives15 wz h)
  simp only [withSum_len, crc_append, decide_true, List.length_append] at C14b C15 C16
  obtain ⟨la, hla⟩ : ∃ la, la = xs.length := ⟨_, rfl⟩
  obtain ⟨lb, hlb⟩ : ∃ lb, lb = bs.length := ⟨_, rfl⟩
  rw [← hla] at C11 C12 C13 C14 C14b C17 C16 C18 C19 C20 h1 hc ⊢
  rw [← hlb] at C14b C15 h2 ⊢
  have ELA := AsideA.mk (show (enc8 xs).length = la * 1 by rw [enc8_len, hla, Nat.mul_one])
  have ELB := AsideA.mk (show (enc8 bs).length = lb * 1 by rw [enc8_len, hlb, Nat.mul_one])
  have LA := AsideA.mk hla
  have LB := AsideA.mk hlb
  clear hla hlb RA RB T hws
  generalize crc 0 xs = s1 at *
  generalize crc 0 (xs ++ bs) = s2 at *
  generalize endsB xs = eb at *
  have CX := AsideA.mk hc
  clear hc
  go_enter Tryd.func3, Tryd.ntmps3
  go_wp2_with (first
    | (go_at_call 11; refine C11.out.mono ?_; rintro e w1 ⟨g, rfl, h⟩; have TW := AsideA.mk h; clear h)
    | ((with_reducible refine gate (N := 21) rfl ?_); go_loud (refine append_own w1 22 _ _ rfl rfl w1.heap.size 5 _ 1 1 Tryd.underlying22 info5z rfl (by decide) (.slice none 0 0) 0 [] rfl (own_nil _ _ _ _) A la c (enc8 xs) rfl ELA.out (HA.out.reads.below TW.out.below) (enc8_one xs) (by simp only [maxLen]; omega) (by omega) (Nat.le_refl _) ?_; intro v2 w2 o2 g2 p2; rw [Nat.zero_add] at o2; have O2 := AsideA.mk o2; have B2 := AsideA.mk (below_grown (Below.refl w1.heap.size w1) (Nat.le_refl _) (own_nil _ _ 5 1) g2); clear o2 g2 p2))
    | ((with_reducible refine gate (N := 23) rfl ?_); go_loud (refine append_own w2 22 _ _ rfl rfl w1.heap.size 5 _ 1 1 Tryd.underlying22 info5z rfl (by decide) v2 la ([] ++ enc8 xs) rfl O2.out B lb d (enc8 bs) rfl ELB.out (HB.out.reads.below (below_call TW.out.below B2.out)) (enc8_one bs) (by simp only [maxLen]; omega) (by omega) B2.out.size ?_; intro v3 w3 o3 g3 p3; have B3 := AsideA.mk (below_grown B2.out B2.out.size O2.out g3); obtain ⟨A3, c3, e3⟩ := own_form o3; subst e3; have O3 := AsideA.mk o3; clear o3 g3 p3))
    | (go_at_call 12; go_loud (refine (C12.out w3 g (TW.out.later B3.out) (HT.out.below (below_call TW.out.below B3.out))).mono ?_; rintro e w4 ⟨gp, cp, rfl, F⟩; have S : AsideA (SOf w w4 A B A3 xs bs g gp cp) := ⟨⟨(TW.out.later B3.out).later F.below, HA.out.below (below_call (below_call TW.out.below B3.out) F.below), HB.out.below (below_call (below_call TW.out.below B3.out) F.below), HT.out.below (below_call (below_call TW.out.below B3.out) F.below), (al_of O3.out LA.out LB.out HA.out HB.out h1 h2).below F.below, F.start (below_call TW.out.below B3.out), fun e => by have h1 := blk_lt (TW.out.later B3.out).blk; have h2 := F.ge; omega⟩⟩; clear F))
    | (go_at_call 13; go_loud (refine (C13.out _ A3 g gp cp S.out).mono ?_; rintro e wq ⟨rfl, hq⟩; have SN := AsideA.mk (S.out.later hq); clear hq S; have S := SN; clear SN))
    | (go_at_call 14; go_loud ((first | (with_reducible refine (C14.out _ A3 g gp cp S.out).mono ?_) | (with_reducible refine (C14b.out _ A3 c3 g gp cp S.out).mono ?_)); rintro e wq ⟨rfl, hq⟩; have SN := AsideA.mk (S.out.later hq); clear hq S; have S := SN; clear SN))
    | (go_at_call 15; go_loud (refine (C15.out _ A3 g gp cp S.out).mono ?_; rintro e wq ⟨rfl, hq⟩; have SN := AsideA.mk (S.out.later hq); clear hq S; have S := SN; clear SN))
    | (go_at_call 17; go_loud (refine (C17.out _ A3 g gp cp S.out).mono ?_; rintro e wq ⟨g5, c5, rfl, F5⟩; have hq := F5.below; have FR := AsideA.mk (F5.start (w := w) (below_call S.out.tw.below (Below.refl _ _))); have SN := AsideA.mk (S.out.later hq); clear hq S; have S := SN; clear SN))
    | (go_at_call 16; go_loud (refine (C16.out _ A3 g gp cp g5 c5 S.out FR.out).mono ?_; rintro e wq ⟨rfl, hq⟩; clear FR; have SN := AsideA.mk (S.out.later hq); clear hq S; have S := SN; clear SN))
    | (go_at_call 18; go_loud (refine (C18.out _ A3 g gp cp S.out).mono ?_; rintro e wq ⟨rfl, hq⟩; have SN := AsideA.mk (S.out.later hq); clear hq S; have S := SN; clear SN))
    | (go_at_call 19; go_loud (refine (C19.out _ A3 g gp cp S.out).mono ?_; rintro e wq ⟨rfl, hq⟩; have SN := AsideA.mk (S.out.later hq); clear hq S; have S := SN; clear SN))
    | (go_at_call 20; go_loud (refine (C20.out _ A3 g gp cp S.out).mono ?_; rintro e wq ⟨rfl, hq⟩; have SN := AsideA.mk (S.out.later hq); clear hq S; have S := SN; clear SN))
    )
  refine (book_put (some ⟨g, 0, none⟩) la (la + 2) wq.heap.size wq.heap.size (.slice none 0 0) [] _ (BookAt.start (heap_alloc_new wq _) (Nat.le_refl _)) (by decide)).mono ?_
  rintro e wk ⟨rfl, m1, b1, v1, hk, hb⟩
  have K1 := AsideA.mk hk
  have BK := AsideA.mk (((Below.refl wq.heap.size wq).alloc (Nat.le_refl _) _).trans hb)
  clear hk hb
  go_wp2_with fail
  refine (book_put (some ⟨gp, 0, none⟩) (la + 4) (la + 4) wq.heap.size wq.heap.size v1 _ _ K1.out (by simp)).mono ?_
  rintro e wk2 ⟨rfl, m2, b2, v2, hk, hb⟩
  have K2 := AsideA.mk (pages_of S.out LA.out h1 hk (BK.out.trans hb))
  clear hk hb K1
  go_wp2_with fail
  refine (book_apart w _ wq.heap.size wq.heap.size v2 _ K2.out.1 K2.out.2 (by simp)).mono ?_
  rintro e wl ⟨rfl, hb⟩
  have BL := AsideA.mk hb
  clear hb K2
  go_wp2_with fail
  refine (C10.out _ (HT.out.below BL.out)).mono ?_
  rintro e wm ⟨rfl, hb⟩
  have BM := AsideA.mk (below_call BL.out hb)
  clear hb
  go_wp2_with fail
  go_ret
  exact ⟨rfl, BM.out⟩

theorem law_of_row (A : Option Addr) (n c : Nat) (zs : List Int) (B : Option Addr) (m d : Nat) (ys : List Int) (w : World) (T : TabAt w) (hA : IsRow8 w A n c zs) (hB : IsRow8 w B m d ys) : Calls Tryd.prog 3 #[.slice A n c, .slice B m d] w fun e w' => e = .returned (.bool true) ∧ Below w.heap.size w w' := by
  by_cases h : 3000 < n ∨ 3000 < m
  · exact law_of_many A B n m c d w T h
  · have := law_of_few A B c d (rowBytes n zs) (rowBytes m ys) w (hA.bytes (by omega)) (hB.bytes (by omega)) T (by rw [hA.len]; omega) (by rw [hB.len]; omega) (by rw [hA.len]; exact hA.le)
    rw [hA.len, hB.len] at this
    exact this
end Go.Proofs.YtccmeiflahnleaaDoor.A

