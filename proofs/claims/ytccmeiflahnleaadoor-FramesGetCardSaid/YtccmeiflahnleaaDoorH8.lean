/-
  The law FramesGet, its walk.
-/
import Derived.Test.YtccmeiflahnleaaDoorH7
namespace Go.Proofs.YtccmeiflahnleaaDoor.A
set_option linter.unusedVariables false
set_option linter.unusedSimpArgs false
open Go.RowKit

set_option maxHeartbeats 2000000 in
set_option maxRecDepth 100000 in
theorem get_of_many (A : Option Addr) (n c : Nat) (w : World) (T : TabAt w) (hn : 20000 < n) : Calls Tryd.prog 7 #[.slice A n c] w fun e w' => e = .returned (.bool true) ∧ Below w.heap.size w w' := by
  have BB := AsideA.mk (Below.refl w.heap.size w)
  have L := AsideA.mk (lives18 w T)
  clear T
  go_enter Tryd.func7, Tryd.ntmps7
  go_wp2_with (go_at_call 23; refine L.out.mono ?_; rintro e wq ⟨rfl, hq⟩; have BN := AsideA.mk (below_call BB.out hq); clear hq BB; have BB := BN; clear BN)
  go_ret
  exact ⟨rfl, BB.out⟩

/-- what stands behind the copy -/
structure SGet (w wr : World) (A : Option Addr) (bs : List Nat) (g : Nat) : Prop where
  tw : Twin8 w wr g bs
  ra : Bytes wr A bs
  tab : TabAt wr
theorem SGet.later {w wr wz : World} {A : Option Addr} {bs : List Nat} {g : Nat} (h : SGet w wr A bs g) (k : Below wr.heap.size wr wz) : SGet w wz A bs g :=
  ⟨h.tw.later k, h.ra.below k, h.tab.below k⟩
/-- the book, with k bodies in it -/
def BkAt (base : Nat) (p1 p2 : Pg) (xs : List Fm) (k : Nat) (wq wr : World) : Prop := ∃ v ps, BookAt wr base base v ([] ++ [p1] ++ [p2] ++ ps) ∧ ps.map key = (xs.take k).map Fm.key ∧ Below base wq wr
theorem bk_step {base k : Nat} {p1 p2 : Pg} {xs : List Fm} {wq wr : World} {x : Fm} (h : BkAt base p1 p2 xs k wq wr) (hx : xs[k]? = some x) (hm : xs.length < 100000) : Calls Tryd.prog 21 #[.pointer (some ⟨base, 0, none⟩), .slice (some ⟨x.g, 0, none⟩) x.body.length x.body.length] wr fun e w' => e = .returned (.tuple #[]) ∧ BkAt base p1 p2 xs (k + 1) wq w' := by
  obtain ⟨v, ps, h1, h2, h3⟩ := h
  have hl : ps.length ≤ xs.length := by
    have := congrArg List.length h2
    rw [List.length_map, List.length_map, List.length_take] at this
    omega
  refine (book_put (some ⟨x.g, 0, none⟩) x.body.length x.body.length base base v _ wr h1 (by simp; omega)).mono ?_
  rintro e w' ⟨he, m, b, v', hk, hb⟩
  refine ⟨he, v', ps ++ [⟨some ⟨x.g, 0, none⟩, x.body.length, x.body.length, m, b⟩], ?_, ?_, h3.trans hb⟩
  · rw [← List.append_assoc]
    exact hk
  · have hlt := (List.getElem?_eq_some_iff.1 hx).1
    have e2 : xs.take (k + 1) = xs.take k ++ [x] := by
      rw [List.take_add_one, hx]
      rfl
    rw [e2, List.map_append, List.map_append, h2]
    rfl

set_option maxHeartbeats 8000000 in
set_option maxRecDepth 100000 in
theorem get_of_few (A : Option Addr) (c la nx no eo gd : Nat) (bs body : List Nat) (w : World) (RA : Bytes w A bs) (T : TabAt w) (hla : la = bs.length) (hnx : nx = body.length) (hn : nx ≤ 100000) (h1 : la ≤ 20000) (K : GetLaw A c la nx no eo gd bs body w) : Calls Tryd.prog 7 #[.slice A la c] w fun e w' => e = .returned (.bool true) ∧ Below w.heap.size w w' := by
  have HA := AsideA.mk RA
  have HT := AsideA.mk T
  have HK := AsideA.mk K
  have HX := AsideA.mk hn
  have C11 := AsideA.mk (twin_bytes A c bs w RA.reads (by omega))
  have C16 := AsideA.mk (fun (wz : World) (X A9 : Option Addr) (c9 : Nat) (R1 : Bytes wz X body) (R2 : Bytes wz A9 body) => same_bytes X A9 nx c9 body body wz R1 R2)
  have C20 := AsideA.mk (fun (wz : World) (g : Nat) (S : SGet w wz A bs g) => left_bytes A c g bs wz S.ra S.tw.blk)
  have C10 := AsideA.mk (fun (wz : World) (h : TabAt wz) => lives18 wz h)
  simp only [decide_true] at C16
  have LA := AsideA.mk hla
  rw [← hla] at C11 C20
  rw [← hnx] at C16
  clear hla hnx RA T hn K
  go_enter Tryd.func7, Tryd.ntmps7
  go_wp2_with fail
  refine C11.out.mono ?_
  rintro e w1 ⟨g, rfl, h⟩
  have S : AsideA (SGet w w1 A bs g) := ⟨⟨h, HA.out.below h.below, HT.out.below h.below⟩⟩
  have G1 := AsideA.mk (blk_lt h.blk)
  clear h
  go_wp2_with fail
  refine (HK.out.get w1 g S.out.tw.below (S.out.tw.bytes HA.out.small (by have := LA.out; omega))).mono ?_
  rintro e w2 ⟨X, rfl, rx, nr, hq⟩
  have RX := AsideA.mk rx
  have NR := AsideA.mk nr
  have SN := AsideA.mk (S.out.later hq)
  have W12 := AsideA.mk (And.intro S.out.tw.below.size hq.size)
  clear hq S rx nr
  have S := SN
  clear SN
  go_wp2_with fail
  refine (HK.out.rget w2 S.out.ra).mono ?_
  rintro e w3 ⟨A9, c9, rfl, r9, hq⟩
  have R9 := AsideA.mk r9
  have RX3 := AsideA.mk (RX.out.below hq)
  have NR3 := AsideA.mk (NR.out.later hq)
  have SN := AsideA.mk (S.out.later hq)
  have W23 := AsideA.mk hq.size
  clear hq S r9 RX NR
  have S := SN
  clear SN
  go_wp2_with fail
  refine (HK.out.read w3 g S.out.tw.below (S.out.tw.bytes HA.out.small (by have := LA.out; omega))).mono ?_
  rintro e w4 ⟨L, xs, m, rfl, hm, ls, hq⟩
  have HM : AsideA (m = xs.length ∧ xs.length ≤ 20000) := ⟨⟨hm, by have := ls.count; have := LA.out; omega⟩⟩
  have hm4 : (m : Int) ≤ 20000 := by have := HM.out; omega
  have L4 := AsideA.mk ls
  have R94 := AsideA.mk (R9.out.below hq)
  have RX4 := AsideA.mk (RX3.out.below hq)
  have NR4 := AsideA.mk (NR3.out.later hq)
  have SN := AsideA.mk (S.out.later hq)
  clear hq S ls RX3 R9 hm
  have S := SN
  clear SN
  go_wp2_with fail
  refine (HK.out.rread w4 S.out.ra).mono ?_
  rintro e w5 ⟨L2, k2, c2, ps2, rfl, hk2, hr2, hp2, hb2, hq⟩
  have L5 := AsideA.mk (L4.out.later hq)
  have Q5 := AsideA.mk (And.intro hk2 (And.intro hr2 (And.intro hp2 hb2)))
  have hkm : k2 = m := by
    have e1 := congrArg List.length (L4.out.bodies_.trans hb2)
    rw [List.length_map, List.length_map, List.length_map] at e1
    have := HM.out
    omega
  have R95 := AsideA.mk (R94.out.below hq)
  have RX5 := AsideA.mk (RX4.out.below hq)
  have NR5 := AsideA.mk (NR4.out.later hq)
  have SN := AsideA.mk (S.out.later hq)
  clear hq S hk2 hr2 hp2 hb2 L4 R94 RX4 NR4
  have S := SN
  clear SN
  subst hkm
  have C30 : AsideA (∀ wz, Below w5.heap.size w5 wz → Calls Tryd.prog 30 #[.slice L k2 k2, .slice L2 k2 c2] wz fun e w' => e = .returned (.bool true) ∧ Below wz.heap.size wz w') := ⟨fun wz hz => by
    have l5 := L5.out.later hz
    exact xlists L L2 k2 k2 c2 (xs.map Fm.part) ps2 wz l5.reads (Q5.out.2.1.below hz) l5.parts (fun p hp => (Q5.out.2.2.1 p hp).below hz) (by rw [List.length_map]; have := HM.out; omega) (by rw [List.length_map]; exact HM.out.1) (l5.bodies_.trans Q5.out.2.2.2)⟩
  go_wp2_with fail
  refine (C16.out w5 X A9 c9 RX5.out R95.out).mono ?_
  rintro e w6 ⟨rfl, hq⟩
  have NR6 := AsideA.mk (NR5.out.later hq)
  have SN := AsideA.mk (S.out.later hq)
  have L6 := AsideA.mk (L5.out.later hq)
  have H6 := AsideA.mk hq
  clear hq S RX5 R95 NR5
  have S := SN
  clear SN
  go_wp2_with fail
  refine (C30.out w6 H6.out).mono ?_
  rintro e w7 ⟨rfl, hq⟩
  have NR7 := AsideA.mk (NR6.out.later hq)
  have SN := AsideA.mk (S.out.later hq)
  have L7 := AsideA.mk (L6.out.later hq)
  clear hq S NR6 L6 L5 Q5 H6 C30
  have S := SN
  clear SN
  go_wp2_with fail
  refine (C20.out w7 g S.out).mono ?_
  rintro e wq ⟨rfl, hq⟩
  have NR8 := AsideA.mk (NR7.out.later hq)
  have SN := AsideA.mk (S.out.later hq)
  have L8 := AsideA.mk (L7.out.later hq)
  clear hq S NR7 L7
  have S := SN
  clear SN
  go_wp2_with fail
  refine (book_put (some ⟨g, 0, none⟩) la (la + 2) wq.heap.size wq.heap.size (.slice none 0 0) [] _ (BookAt.start (heap_alloc_new wq _) (Nat.le_refl _)) (by decide)).mono ?_
  rintro e wk ⟨rfl, m1, b1, v1, hk, hb⟩
  have K1 := AsideA.mk hk
  have BK := AsideA.mk (((Below.refl wq.heap.size wq).alloc (Nat.le_refl _) _).trans hb)
  clear hk hb
  go_wp2_with fail
  refine (book_put X nx nx wq.heap.size wq.heap.size v1 _ _ K1.out (by simp)).mono ?_
  rintro e wk2 ⟨rfl, m2, b2, v2, hk, hb⟩
  have I0 : AsideA (BkAt wq.heap.size ⟨some ⟨g, 0, none⟩, la, la + 2, m1, b1⟩ ⟨X, nx, nx, m2, b2⟩ xs 0 wq wk2) := ⟨⟨v2, [], by rw [List.append_nil]; exact hk, rfl, BK.out.trans hb⟩⟩
  clear hk hb K1 BK
  go_wp2
  go_loopw [15] (fun i wr => ∃ k : Nat, k ≤ k2 ∧ i = .int .i64 k ∧ AsideA (BkAt wq.heap.size ⟨some ⟨g, 0, none⟩, la, la + 2, m1, b1⟩ ⟨X, nx, nx, m2, b2⟩ xs k wq wr)) (fun i _ => k2 - (intOf i).toNat)
  case atStart => exact ⟨0, by omega, rfl, I0⟩
  case round =>
    clear I0
    obtain ⟨k, hk, rfl, I⟩ := hrel
    by_cases hlt : k < k2
    · obtain ⟨x, hx⟩ : ∃ x, xs[k]? = some x := ⟨xs[k]'(by have := HM.out; omega), List.getElem?_eq_getElem _⟩
      obtain ⟨gL, oL, rfl, hc⟩ := part_cell L8.out.reads k x.part (by rw [List.getElem?_map, hx]; rfl)
      obtain ⟨_, _, _, _, hbw⟩ := I.out
      have c0 := hc wr hbw
      have PU := AsideA.mk (bk_step I.out hx (by have := HM.out; omega))
      unfold Fm.part at c0
      simp only [] at c0
      obtain ⟨xl, hxl⟩ : ∃ xl, xl = x.body.length := ⟨_, rfl⟩
      rw [← hxl] at c0 PU
      clear hx hc hbw hxl
      go_wp2_with fail
      refine PU.out.mono ?_
      rintro e w9 ⟨rfl, hq⟩
      have Z := AsideA.mk hq
      clear hq c0
      go_wp2
      exact ⟨⟨k + 1, by omega, by go_num, Z⟩, by simp [intOf]; omega⟩
    · obtain rfl : k = k2 := by omega
      obtain ⟨v3, ps, hk3, hkey, hbw⟩ := I.out
      have K3 := AsideA.mk (get_pages (w := w) (w4 := w3) (n4 := w1.heap.size) (n5 := w3.heap.size) (xs := xs) (bs := bs) (below_call S.out.tw.below hbw) hk3 (S.out.tw.later hbw) LA.out (by omega) (NR8.out.later hbw) NR3.out W12.out.1 G1.out HX.out (L8.out.bods.later hbw) (by rw [hkey, List.take_of_length_le (by have := HM.out; omega)]) (Nat.le_refl _) (by have := W12.out.2; have := W23.out; omega))
      have HPL : AsideA ((([] : List Pg) ++ [(⟨some ⟨g, 0, none⟩, la, la + 2, m1, b1⟩ : Pg)] ++ [(⟨X, nx, nx, m2, b2⟩ : Pg)] ++ ps).length < 1000000000) := ⟨by
        have := congrArg List.length hkey
        rw [List.length_map, List.length_map, List.length_take] at this
        have := HM.out
        simp
        omega⟩
      clear hk3 hkey hbw
      go_wp2_with fail
      refine (book_apart w _ wq.heap.size wq.heap.size v3 _ K3.out.1 K3.out.2 HPL.out).mono ?_
      rintro e wl ⟨rfl, hb⟩
      have BL := AsideA.mk hb
      clear hb K3
      go_wp2_with fail
      refine (C10.out _ (HT.out.below BL.out)).mono ?_
      rintro e wm ⟨rfl, hb⟩
      have BM := AsideA.mk (below_call BL.out hb)
      clear hb
      go_wp2_with fail
      go_ret
      exact ⟨rfl, BM.out⟩

theorem getP_body_len (bs : List Nat) : (getP bs).1.length ≤ 8192 := by
  by_cases h : (getP bs).2.2 = 0
  · obtain ⟨n, hd, _, _, _, h3, _, _, h7⟩ := getP_ok h
    rw [h7]
    show ((bs.drop hd).take n).length ≤ _
    rw [List.length_take]
    omega
  · obtain ⟨e0, he0⟩ := getP_bad h
    rw [he0]
    exact Nat.zero_le _

theorem get_of_row (A : Option Addr) (n c : Nat) (zs : List Int) (w : World) (T : TabAt w) (hA : IsRow8 w A n c zs) : Calls Tryd.prog 7 #[.slice A n c] w fun e w' => e = .returned (.bool true) ∧ Below w.heap.size w w' := by
  by_cases h : 20000 < n
  · exact get_of_many A n c w T h
  · have RA := hA.bytes (by omega)
    have K := get_law A c (rowBytes n zs) w T (by rw [hA.len]; exact hA.le) hA.addr
    rw [hA.len] at K
    exact get_of_few A c n _ _ _ _ _ _ w RA T hA.len.symm rfl (by have := getP_body_len (rowBytes n zs); omega) (by omega) K
end Go.Proofs.YtccmeiflahnleaaDoor.A

