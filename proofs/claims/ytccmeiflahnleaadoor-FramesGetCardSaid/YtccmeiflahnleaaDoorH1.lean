/-
  The law FramesPut, its walk.
-/
import Derived.Test.YtccmeiflahnleaaDoorG12
import Derived.Test.YtccmeiflahnleaaDoorU4
namespace Go.Proofs.YtccmeiflahnleaaDoor.A
set_option linter.unusedVariables false
set_option linter.unusedSimpArgs false
open Go.RowKit

/-- two pages share nothing -/
def Off (p q : Pg) : Prop := 0 < p.cap → 0 < q.cap → p.A ≠ q.A
theorem distinct_of {ps : List Pg} (h : ps.Pairwise Off) : Distinct ps := by
  intro i j p q hi hj hne hp hq
  obtain ⟨h1, e1⟩ := List.getElem?_eq_some_iff.1 hi
  obtain ⟨h2, e2⟩ := List.getElem?_eq_some_iff.1 hj
  rw [List.pairwise_iff_getElem] at h
  rcases Nat.lt_or_gt_of_ne hne with hlt | hlt
  · have := h i j h1 h2 hlt
    rw [e1, e2] at this
    exact this hp hq
  · have := h j i h2 h1 hlt
    rw [e1, e2] at this
    exact fun e => this hq hp e.symm
theorem pages_gen {w wr : World} {base gb : Nat} {v : Value} {ps : List Pg} (hb : Below w.heap.size w wr) (K : BookAt wr base gb v ps) (hp : ∀ p ∈ ps, PgSt wr w.heap.size p False False) (hd : ps.Pairwise Off) : ApSt w wr base gb v ps 0 0 ∧ Distinct ps :=
  ⟨⟨hb, K.blk, K.own, fun j p hj => (hp p (List.mem_of_getElem? hj)).imp (fun h => by omega) (fun h => by omega)⟩, distinct_of hd⟩
theorem page_twin {w wr : World} {g n : Nat} {xs : List Nat} {m b : Int} (h : Twin8 w wr g xs) (hn : n = xs.length) (hl : n ≤ 100000) : PgSt wr w.heap.size ⟨some ⟨g, 0, none⟩, n, n + 2, m, b⟩ False False := by
  refine .inr ⟨g, _, rfl, h.blk, h.ge, by show n ≤ n + 2; omega, ?_, by show ((n + 2 : Nat) : Int) ≤ _; omega, by show 0 < n + 2; omega, (fun h => h.elim), (fun h => h.elim)⟩
  show n + 2 ≤ _
  rw [List.size_toArray, List.length_append, enc8_len, hn]
  exact Nat.le_refl _

/-- a row that a call handed back: empty, or in a block of its own -/
def NewRow (n0 : Nat) (wr : World) (X : Option Addr) (nx : Nat) : Prop := nx = 0 ∨ ∃ gx cs, X = some ⟨gx, 0, none⟩ ∧ wr.heap[gx]? = some (.cells cs 5 (0, 0)) ∧ n0 ≤ gx ∧ nx ≤ cs.size
theorem NewRow.later {n0 nx : Nat} {w wr : World} {X : Option Addr} (h : NewRow n0 w X nx) (k : Below w.heap.size w wr) : NewRow n0 wr X nx := by
  rcases h with h | ⟨gx, cs, h1, h2, h3⟩
  · exact .inl h
  · exact .inr ⟨gx, cs, h1, blk_below h2 k, h3⟩
theorem NewRow.page {n0 n1 nx : Nat} {wr : World} {X : Option Addr} {m b : Int} (h : NewRow n1 wr X nx) (h01 : n0 ≤ n1) (hl : nx ≤ 100000) : PgSt wr n0 ⟨X, nx, nx, m, b⟩ False False := by
  rcases h with h | ⟨gx, cs, rfl, h2, h3, h4⟩
  · exact .inl ⟨h, h⟩
  · by_cases h0 : nx = 0
    · exact .inl ⟨h0, h0⟩
    · exact .inr ⟨gx, cs, rfl, h2, by omega, Nat.le_refl _, h4, by show (nx : Int) ≤ _; omega, by show 0 < nx; omega, (fun h => h.elim), (fun h => h.elim)⟩
theorem NewRow.off {n1 nx g n c : Nat} {wr : World} {X : Option Addr} {m b m' b' : Int} (h : NewRow n1 wr X nx) (hg : g < n1) : Off ⟨some ⟨g, 0, none⟩, n, c, m, b⟩ ⟨X, nx, nx, m', b'⟩ := by
  intro _ hq
  rcases h with h | ⟨gx, cs, rfl, h2, h3, h4⟩
  · exact absurd hq (by show ¬ 0 < nx; omega)
  · intro e
    injection e with e
    injection e with e
    omega

/-- the frame, or that it is too long: both sides -/
structure PutLaw (A B : Option Addr) (c d la lb nx : Nat) (ex : Int) (xs bs fr : List Nat) (w : World) : Prop where
  prog : ∀ wz g u, Below w.heap.size w wz → Bytes wz (some ⟨g, 0, none⟩) xs → Bytes wz (some ⟨u, 0, none⟩) bs → Calls Tryd.prog 24 #[.slice (some ⟨g, 0, none⟩) la (la + 2), .slice (some ⟨u, 0, none⟩) lb (lb + 2)] wz fun e w' => ∃ X, e = .returned (.tuple #[.slice X nx nx, .int .i64 ex]) ∧ Bytes w' X fr ∧ NewRow wz.heap.size w' X nx ∧ Below wz.heap.size wz w'
  ref : ∀ wz, Below w.heap.size w wz → Bytes wz A xs → Bytes wz B bs → Calls Tryd.prog 25 #[.slice A la c, .slice B lb d] wz fun e w' => ∃ A9 c9, e = .returned (.tuple #[.slice A9 nx c9, .int .i64 ex]) ∧ Bytes w' A9 fr ∧ Below wz.heap.size wz w'

theorem put_law_short (A B : Option Addr) (c d : Nat) (xs bs : List Nat) (w : World) (T : TabAt w) (h1 : xs.length ≤ 9000) (h2 : bs.length ≤ 8192) : PutLaw A B c d xs.length bs.length (xs ++ frameP bs).length 0 xs bs (xs ++ frameP bs) w :=
  ⟨fun wz g u hb R1 R2 => (xframe _ _ _ _ xs bs wz R1 R2 (T.below hb) (by omega) h2).mono fun e w' ⟨g', cap, he, F⟩ => by
      obtain ⟨t, e1, e2⟩ := F.blk
      refine ⟨_, he, F.bytes ?_ ?_, .inr ⟨g', _, rfl, e1, F.ge, ?_⟩, F.below⟩
      · intro b hb
        rcases List.mem_append.1 hb with h | h
        · exact R1.small b h
        · refine withSum_small (fun b hb => ?_) b h
          rcases List.mem_append.1 hb with h | h
          · exact numL_bytes _ b h
          · exact R2.small b h
      · have := numL_len 2 bs.length (by omega)
        rw [List.length_append, frameP_len]
        omega
      · simp only [List.size_toArray, List.length_append, enc8_len]
        omega,
    fun wz hb R1 R2 => (ref_frame A B c d xs bs wz R1 R2 (by omega) h2).mono fun e w' ⟨A9, c9, he, h⟩ => ⟨A9, c9, he, h⟩⟩
theorem put_law_long (A B : Option Addr) (c d : Nat) (xs bs : List Nat) (w : World) (h2 : 8192 < bs.length) : PutLaw A B c d xs.length bs.length 0 3 xs bs [] w :=
  ⟨fun wz g u hb R1 R2 => (put_long _ _ xs.length bs.length _ _ h2 wz).mono fun e w' ⟨he, h⟩ => ⟨none, he, ⟨Reads.nil, by simp, by decide⟩, .inl rfl, h⟩,
    fun wz hb R1 R2 => (ref_put_long A B xs.length bs.length c d h2 wz).mono fun e w' ⟨he, h⟩ => ⟨none, 0, he, ⟨Reads.nil, by simp, by decide⟩, h⟩⟩

set_option maxHeartbeats 2000000 in
set_option maxRecDepth 100000 in
theorem put_of_many (A B : Option Addr) (n m c d : Nat) (w : World) (T : TabAt w) (hn : 9000 < n ∨ 9000 < m) : Calls Tryd.prog 6 #[.slice A n c, .slice B m d] w fun e w' => e = .returned (.bool true) ∧ Below w.heap.size w w' := by
  have BB := AsideA.mk (Below.refl w.heap.size w)
  have L := AsideA.mk (lives18 w T)
  clear T
  by_cases h1 : 9000 < n
  · clear hn
    go_enter Tryd.func6, Tryd.ntmps6
    go_wp2_with (go_at_call 23; refine L.out.mono ?_; rintro e wq ⟨rfl, hq⟩; have BN := AsideA.mk (below_call BB.out hq); clear hq BB; have BB := BN; clear BN)
    go_ret
    exact ⟨rfl, BB.out⟩
  · have h2 : 9000 < m := by omega
    clear hn
    go_enter Tryd.func6, Tryd.ntmps6
    go_wp2_with (go_at_call 23; refine L.out.mono ?_; rintro e wq ⟨rfl, hq⟩; have BN := AsideA.mk (below_call BB.out hq); clear hq BB; have BB := BN; clear BN)
    go_ret
    exact ⟨rfl, BB.out⟩

/-- what stands behind the copies -/
structure SPut (w wr : World) (A B : Option Addr) (xs bs : List Nat) (g u : Nat) : Prop where
  tw : Twin8 w wr g xs
  tu : Twin8 w wr u bs
  ra : Bytes wr A xs
  rb : Bytes wr B bs
  tab : TabAt wr
  ne : g ≠ u
theorem SPut.later {w wr wz : World} {A B : Option Addr} {xs bs : List Nat} {g u : Nat} (h : SPut w wr A B xs bs g u) (k : Below wr.heap.size wr wz) : SPut w wz A B xs bs g u :=
  ⟨h.tw.later k, h.tu.later k, h.ra.below k, h.rb.below k, h.tab.below k, h.ne⟩

set_option maxHeartbeats 8000000 in
set_option maxRecDepth 100000 in
theorem put_of_few (A B : Option Addr) (c d la lb nx : Nat) (ex : Int) (xs bs fr : List Nat) (w : World) (RA : Bytes w A xs) (RB : Bytes w B bs) (T : TabAt w) (hla : la = xs.length) (hlb : lb = bs.length) (hnx : nx = fr.length) (hn : nx ≤ 100000) (h1 : la ≤ 9000) (h2 : lb ≤ 9000) (K : PutLaw A B c d la lb nx ex xs bs fr w) : Calls Tryd.prog 6 #[.slice A la c, .slice B lb d] w fun e w' => e = .returned (.bool true) ∧ Below w.heap.size w w' := by
  have HA := AsideA.mk RA
  have HB := AsideA.mk RB
  have HT := AsideA.mk T
  have HK := AsideA.mk K
  have HX := AsideA.mk hn
  have C11 := AsideA.mk (twin_bytes A c xs w RA.reads (by omega))
  have C11b := AsideA.mk (fun (wz : World) (R : Bytes wz B bs) => twin_bytes B d bs wz R.reads (by omega))
  have C16 := AsideA.mk (fun (wz : World) (X A9 : Option Addr) (c9 : Nat) (R1 : Bytes wz X fr) (R2 : Bytes wz A9 fr) => same_bytes X A9 nx c9 fr fr wz R1 R2)
  have C20 := AsideA.mk (fun (wz : World) (g u : Nat) (S : SPut w wz A B xs bs g u) => left_bytes A c g xs wz S.ra S.tw.blk)
  have C20b := AsideA.mk (fun (wz : World) (g u : Nat) (S : SPut w wz A B xs bs g u) => left_bytes B d u bs wz S.rb S.tu.blk)
  have C10 := AsideA.mk (fun (wz : World) (h : TabAt wz) => lives18 wz h)
  simp only [decide_true] at C16
  have LA := AsideA.mk hla
  have LB := AsideA.mk hlb
  rw [← hla] at C11 C20
  rw [← hlb] at C11b C20b
  rw [← hnx] at C16
  clear hla hlb hnx RA RB T hn K
  go_enter Tryd.func6, Tryd.ntmps6
  go_wp2_with fail
  refine C11.out.mono ?_
  rintro e w1 ⟨g, rfl, h⟩
  have TW := AsideA.mk h
  clear h
  go_wp2_with fail
  refine (C11b.out w1 (HB.out.below TW.out.below)).mono ?_
  rintro e w2 ⟨u, rfl, h⟩
  have S : AsideA (SPut w w2 A B xs bs g u) := ⟨⟨TW.out.later h.below, ⟨h.blk, by have := TW.out.below.size; have := h.ge; omega, below_call TW.out.below h.below⟩, HA.out.below (below_call TW.out.below h.below), HB.out.below (below_call TW.out.below h.below), HT.out.below (below_call TW.out.below h.below), by have h1 := blk_lt TW.out.blk; have h2 := h.ge; omega⟩⟩
  have G2 : AsideA (g < w2.heap.size ∧ u < w2.heap.size) := ⟨blk_lt S.out.tw.blk, blk_lt S.out.tu.blk⟩
  clear h TW
  go_wp2_with fail
  refine (HK.out.prog w2 g u S.out.tw.below (S.out.tw.bytes HA.out.small (by have := LA.out; omega)) (S.out.tu.bytes HB.out.small (by have := LB.out; omega))).mono ?_
  rintro e w3 ⟨X, rfl, rx, nr, hq⟩
  have RX := AsideA.mk rx
  have NR := AsideA.mk nr
  have SN := AsideA.mk (S.out.later hq)
  clear hq S rx nr
  have S := SN
  clear SN
  go_wp2_with fail
  refine (HK.out.ref w3 S.out.tw.below S.out.ra S.out.rb).mono ?_
  rintro e w4 ⟨A9, c9, rfl, r9, hq⟩
  have R9 := AsideA.mk r9
  have RX4 := AsideA.mk (RX.out.below hq)
  have NR4 := AsideA.mk (NR.out.later hq)
  have SN := AsideA.mk (S.out.later hq)
  clear hq S r9 RX NR
  have S := SN
  clear SN
  go_wp2_with fail
  refine (C16.out w4 X A9 c9 RX4.out R9.out).mono ?_
  rintro e w5 ⟨rfl, hq⟩
  have NR5 := AsideA.mk (NR4.out.later hq)
  have SN := AsideA.mk (S.out.later hq)
  clear hq S RX4 R9 NR4
  have S := SN
  clear SN
  go_wp2_with fail
  refine (C20.out w5 g u S.out).mono ?_
  rintro e w6 ⟨rfl, hq⟩
  have NR6 := AsideA.mk (NR5.out.later hq)
  have SN := AsideA.mk (S.out.later hq)
  clear hq S NR5
  have S := SN
  clear SN
  go_wp2_with fail
  refine (C20b.out w6 g u S.out).mono ?_
  rintro e wq ⟨rfl, hq⟩
  have NR7 := AsideA.mk (NR6.out.later hq)
  have SN := AsideA.mk (S.out.later hq)
  clear hq S NR6
  have S := SN
  clear SN
  go_wp2_with fail
  refine (book_put (some ⟨g, 0, none⟩) la (la + 2) wq.heap.size wq.heap.size (.slice none 0 0) [] _ (BookAt.start (heap_alloc_new wq _) (Nat.le_refl _)) (by decide)).mono ?_
  rintro e wk ⟨rfl, m1, b1, v1, hk, hb⟩
  have K1 := AsideA.mk hk
  have BK := AsideA.mk (((Below.refl wq.heap.size wq).alloc (Nat.le_refl _) _).trans hb)
  clear hk hb
  go_wp2_with fail
  refine (book_put (some ⟨u, 0, none⟩) lb (lb + 2) wq.heap.size wq.heap.size v1 _ _ K1.out (by simp)).mono ?_
  rintro e wk2 ⟨rfl, m2, b2, v2, hk, hb⟩
  have K2 := AsideA.mk hk
  have BK2 := AsideA.mk (BK.out.trans hb)
  clear hk hb K1 BK
  go_wp2_with fail
  refine (book_put X nx nx wq.heap.size wq.heap.size v2 _ _ K2.out (by simp)).mono ?_
  rintro e wk3 ⟨rfl, m3, b3, v3, hk, hb⟩
  have S3 := S.out.later (BK2.out.trans hb)
  have NR8 := NR7.out.later (BK2.out.trans hb)
  have K3 := AsideA.mk (pages_gen S3.tw.below hk (fun p hp => by
    simp only [List.nil_append, List.append_assoc, List.cons_append, List.mem_cons, List.not_mem_nil, or_false] at hp
    rcases hp with rfl | rfl | rfl
    · exact page_twin S3.tw LA.out (by omega)
    · exact page_twin S3.tu LB.out (by omega)
    · exact NR8.page (by have := G2.out; have := S3.tw.ge; omega) HX.out) (by
    simp only [List.nil_append, List.append_assoc, List.cons_append, List.pairwise_cons, List.mem_cons, List.not_mem_nil, or_false]
    refine ⟨?_, ?_, ?_, List.Pairwise.nil⟩
    · rintro q (rfl | rfl)
      · intro _ _ e
        injection e with e
        injection e with e
        exact S3.ne e
      · exact NR8.off G2.out.1
    · rintro q rfl
      exact NR8.off G2.out.2
    · intro q h
      exact absurd h (by simp)))
  have T3 := AsideA.mk S3.tab
  clear hk hb K2 S3 NR8
  go_wp2_with fail
  refine (book_apart w _ wq.heap.size wq.heap.size v3 _ K3.out.1 K3.out.2 (by simp)).mono ?_
  rintro e wl ⟨rfl, hb⟩
  have BL := AsideA.mk hb
  clear hb K3
  go_wp2_with fail
  refine (C10.out _ (HT.out.below BL.out)).mono ?_
  rintro e wm ⟨rfl, hb⟩
  have BM := AsideA.mk (below_call BL.out hb)
  clear hb
  go_wp2_with fail
  go_ret
  exact ⟨rfl, BM.out⟩

theorem put_of_row (A : Option Addr) (n c : Nat) (zs : List Int) (B : Option Addr) (m d : Nat) (ys : List Int) (w : World) (T : TabAt w) (hA : IsRow8 w A n c zs) (hB : IsRow8 w B m d ys) : Calls Tryd.prog 6 #[.slice A n c, .slice B m d] w fun e w' => e = .returned (.bool true) ∧ Below w.heap.size w w' := by
  by_cases h : 9000 < n ∨ 9000 < m
  · exact put_of_many A B n m c d w T h
  · have RA := hA.bytes (by omega)
    have RB := hB.bytes (by omega)
    by_cases hs : m ≤ 8192
    · have K := put_law_short A B c d (rowBytes n zs) (rowBytes m ys) w T (by rw [hA.len]; omega) (by rw [hB.len]; omega)
      rw [hA.len, hB.len] at K
      refine put_of_few A B c d n m _ 0 _ _ _ w RA RB T hA.len.symm hB.len.symm rfl ?_ (by omega) (by omega) K
      have := numL_len 2 (rowBytes m ys).length (by rw [hB.len]; omega)
      rw [List.length_append, frameP_len, hA.len]
      rw [hB.len] at this ⊢
      omega
    · have K := put_law_long A B c d (rowBytes n zs) (rowBytes m ys) w (by rw [hB.len]; omega)
      rw [hA.len, hB.len] at K
      exact put_of_few A B c d n m 0 3 _ _ [] w RA RB T hA.len.symm hB.len.symm rfl (by decide) (by omega) (by omega) K
end Go.Proofs.YtccmeiflahnleaaDoor.A

