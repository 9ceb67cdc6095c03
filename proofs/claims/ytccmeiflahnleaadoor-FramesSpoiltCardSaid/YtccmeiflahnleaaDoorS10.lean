/-
  The law SumsParts, its walk.
-/
import Derived.Test.YtccmeiflahnleaaDoorS9
import Derived.Deep.RegionHeld3
namespace Go.Proofs.YtccmeiflahnleaaDoor.A
set_option linter.unusedVariables false
set_option linter.unusedSimpArgs false
open Go.RowKit

set_option maxHeartbeats 2000000 in
set_option maxRecDepth 100000 in
theorem law_parts_many (A B : Option Addr) (n m c d : Nat) (w : World) (T : TabAt w) (hn : 2000 < n ∨ 300 < m) : Calls Tryd.prog 5 #[.slice A n c, .slice B m d] w fun e w' => e = .returned (.bool true) ∧ Below w.heap.size w w' := by
  have BB := AsideA.mk (Below.refl w.heap.size w)
  have L := AsideA.mk (lives15 w T)
  clear T
  by_cases h1 : 2000 < n
  · clear hn
    go_enter Tryd.func5, Tryd.ntmps5
    go_wp2_with (go_at_call 10; refine L.out.mono ?_; rintro e wq ⟨rfl, hq⟩; have BN := AsideA.mk (below_call BB.out hq); clear hq BB; have BB := BN; clear BN)
    go_ret
    exact ⟨rfl, BB.out⟩
  · have h2 : 300 < m := by omega
    clear hn
    go_enter Tryd.func5, Tryd.ntmps5
    go_wp2_with (go_at_call 10; refine L.out.mono ?_; rintro e wq ⟨rfl, hq⟩; have BN := AsideA.mk (below_call BB.out hq); clear hq BB; have BB := BN; clear BN)
    go_ret
    exact ⟨rfl, BB.out⟩

/-- where a part of a row begins -/
theorem Bytes.part {w : World} {g off : Nat} {bs : List Nat} (h : Bytes w (some ⟨g, off, none⟩) bs) (a j : Nat) : Bytes w (some ⟨g, off + a, none⟩) ((bs.drop a).take j) := (h.drop a).take j

theorem crc_step (bs : List Nat) (a j : Nat) : crc (crc 0 (bs.take a)) ((bs.drop a).take j) = crc 0 (bs.take (a + j)) := by
  rw [crc_append, List.take_add]

set_option maxHeartbeats 4000000 in
set_option maxRecDepth 100000 in
theorem law_parts_few (A B : Option Addr) (c d : Nat) (bs ls : List Nat) (w : World) (RA : Bytes w A bs) (RB : Bytes w B ls) (T : TabAt w) (hA : c = 0 ∨ ∃ g0 off0, A = some ⟨g0, off0, none⟩) (h1 : bs.length ≤ 2000) (h2 : ls.length ≤ 300) (hc : bs.length ≤ c) : Calls Tryd.prog 5 #[.slice A bs.length c, .slice B ls.length d] w fun e w' => e = .returned (.bool true) ∧ Below w.heap.size w w' := by
  have HB := AsideA.mk RB
  have HAA := AsideA.mk hA
  have BB := AsideA.mk (Below.refl w.heap.size w)
  have M1 := AsideA.mk (fun (g0 off0 : Nat) (hA : A = some ⟨g0, off0, none⟩) (wz : World) (a j n m : Nat) (hb : Below w.heap.size w wz) (hj : a + j ≤ bs.length) (hn : n = j) (hm : m < 2 ^ 32) (he : m = crc 0 (bs.take a)) =>
    (show Calls Tryd.prog 15 #[.int .u32 (m : Int), .slice (some ⟨g0, off0 + a, none⟩) n (c - a)] wz fun e w' => e = .returned (.int .u32 (crc 0 (bs.take (a + j)) : Nat)) ∧ Below wz.heap.size wz w' by
      have h := xmore (some ⟨g0, off0 + a, none⟩) (c - a) ((bs.drop a).take j) m hm wz ((hA ▸ RA.below hb : Bytes wz (some ⟨g0, off0, none⟩) bs).part a j) (T.below hb)
      have e1 : ((bs.drop a).take j).length = n := by rw [List.length_take, List.length_drop]; omega
      rw [e1] at h
      subst he
      rw [crc_step] at h
      exact h))
  have M2 := AsideA.mk (fun (wz : World) (a n m : Nat) (hb : Below w.heap.size w wz) (hn : n = 0) (hm : m < 2 ^ 32) (he : m = crc 0 (bs.take a)) =>
    (show Calls Tryd.prog 15 #[.int .u32 (m : Int), .slice A n 0] wz fun e w' => e = .returned (.int .u32 (crc 0 (bs.take a) : Nat)) ∧ Below wz.heap.size wz w' by
      have h := xmore A 0 [] m hm wz ⟨Reads.nil, by simp, by decide⟩ (T.below hb)
      subst hn
      rw [crc_nil, he] at h
      rw [he]
      exact h))
  have M3 := AsideA.mk (fun (wz : World) (hb : Below w.heap.size w wz) => xof A c bs wz (RA.below hb) (T.below hb))
  have M4 := AsideA.mk (fun (wz : World) (hb : Below w.heap.size w wz) => lives15 wz (T.below hb))
  obtain ⟨len, hl⟩ : ∃ len, len = bs.length := ⟨_, rfl⟩
  obtain ⟨ll, hll⟩ : ∃ ll, ll = ls.length := ⟨_, rfl⟩
  rw [← hl] at h1 hc M1 M3 ⊢
  rw [← hll] at h2 ⊢
  have HL := AsideA.mk hl
  have HLL := AsideA.mk hll
  have HLT := AsideA.mk (fun a => crc_lt 0 (bs.take a) (by decide))
  clear hl hll RA RB T hA
  go_enter Tryd.func5, Tryd.ntmps5
  go_wp2
  have I0 : AsideA (Below w.heap.size w w ∧ (0 : Nat) = crc 0 (bs.take 0) ∧ (0 : Nat) < 2 ^ 32) := ⟨Below.refl _ _, by rw [List.take_zero, crc_nil], by decide⟩
  go_loopw [5, 6, 7] (fun n at_ i wr => ∃ k a m : Nat, k ≤ ll ∧ a ≤ len ∧ i = .int .i64 k ∧ at_ = .int .i64 a ∧ n = .int .u32 (m : Int) ∧ AsideA (Below w.heap.size w wr ∧ m = crc 0 (bs.take a) ∧ m < 2 ^ 32)) (fun _ _ i _ => ll - (intOf i).toNat)
  case atStart => exact ⟨0, 0, 0, by omega, by omega, rfl, rfl, rfl, I0⟩
  case round =>
    obtain ⟨k, a, m, hk, ha, rfl, rfl, rfl, I⟩ := hrel
    clear I0
    by_cases hlt : k < ll
    · obtain ⟨g, off, x, rfl, hcell, hx, hxx⟩ := (HB.out.below I.out.1).get k (by have := HLL.out; omega)
      clear hxx
      by_cases hca : c = a
      · have e : len = a := by omega
        subst hca
        subst e
        have hxi : (0 : Int) ≤ x := by omega
        by_cases hx0 : x = 0
        · subst hx0
          go_wp2_with (go_at_call 15; refine (M2.out _ len _ m I.out.1 ?_ I.out.2.2 I.out.2.1).mono ?_; (first | rfl | omega | simp); rintro e w' ⟨rfl, hq⟩; have BN := AsideA.mk (below_call I.out.1 hq); clear hq)
          refine ⟨⟨k + 1, len, _, by omega, by omega, by go_num, ?_, rfl, ⟨BN.out, rfl, HLT.out _⟩⟩, by simp [intOf]; omega⟩
          first | rfl | go_num
        · go_wp2_with (go_at_call 15; refine (M2.out _ len _ m I.out.1 ?_ I.out.2.2 I.out.2.1).mono ?_; (first | rfl | omega | simp); rintro e w' ⟨rfl, hq⟩; have BN := AsideA.mk (below_call I.out.1 hq); clear hq)
          refine ⟨⟨k + 1, len, _, by omega, by omega, by go_num, ?_, rfl, ⟨BN.out, rfl, HLT.out _⟩⟩, by simp [intOf]; omega⟩
          first | rfl | go_num
      · have hac : a < c := by omega
        obtain ⟨g0, off0, rfl⟩ : ∃ g0 off0, A = some ⟨g0, off0, none⟩ := HAA.out.resolve_left (by omega)
        by_cases hfit : a + x ≤ len
        · go_wp2_with (go_at_call 15; refine (M1.out g0 off0 rfl _ a x _ m I.out.1 hfit ?_ I.out.2.2 I.out.2.1).mono ?_; omega; rintro e w' ⟨rfl, hq⟩; have BN := AsideA.mk (below_call I.out.1 hq); clear hq)
          all_goals (refine ⟨⟨k + 1, a + x, _, by omega, by omega, by go_num, ?_, rfl, ⟨BN.out, rfl, HLT.out _⟩⟩, by simp [intOf]; omega⟩; first | rfl | go_num | (congr 1; omega))
        · have hle : len ≤ a + x := by omega
          go_wp2_with (go_at_call 15; refine (M1.out g0 off0 rfl _ a (len - a) _ m I.out.1 (by omega) ?_ I.out.2.2 I.out.2.1).mono ?_; omega; rintro e w' ⟨rfl, hq⟩; have BN := AsideA.mk (below_call I.out.1 hq); clear hq)
          all_goals (refine ⟨⟨k + 1, len, _, by omega, by omega, by go_num, ?_, rfl, ⟨BN.out, by first | rfl | rw [show a + (len - a) = len by omega], HLT.out _⟩⟩, by simp [intOf]; omega⟩; first | rfl | go_num | (congr 1; omega))
    · by_cases hca : c = a
      · have e : len = a := by omega
        subst hca
        subst e
        have e2 : bs.take len = bs := List.take_of_length_le (by have := HL.out; omega)
        go_wp2_with (first | (go_at_call 15; (refine (M2.out _ len _ m I.out.1 ?_ I.out.2.2 I.out.2.1).mono ?_); (first | rfl | omega | simp); rw [e2]; rintro e w' ⟨rfl, hq⟩; have BN := AsideA.mk (below_call I.out.1 hq); clear hq) | (go_at_call 13; (refine (M3.out _ BN.out).mono ?_); rintro e w' ⟨rfl, hq⟩; have BQ := AsideA.mk (below_call BN.out hq); clear hq BN) | (go_at_call 10; (refine (M4.out _ BQ.out).mono ?_); rintro e w' ⟨rfl, hq⟩; have BR := AsideA.mk (below_call BQ.out hq); clear hq BQ))
        go_ret
        exact ⟨rfl, BR.out⟩
      · have hac : a < c := by omega
        obtain ⟨g0, off0, rfl⟩ : ∃ g0 off0, A = some ⟨g0, off0, none⟩ := HAA.out.resolve_left (by omega)
        have e2 : bs.take (a + (len - a)) = bs := List.take_of_length_le (by have := HL.out; omega)
        go_wp2_with (first | (go_at_call 15; (refine (M1.out g0 off0 rfl _ a (len - a) _ m I.out.1 (by omega) ?_ I.out.2.2 I.out.2.1).mono ?_); omega; rw [e2]; rintro e w' ⟨rfl, hq⟩; have BN := AsideA.mk (below_call I.out.1 hq); clear hq) | (go_at_call 13; (refine (M3.out _ BN.out).mono ?_); rintro e w' ⟨rfl, hq⟩; have BQ := AsideA.mk (below_call BN.out hq); clear hq BN) | (go_at_call 10; (refine (M4.out _ BQ.out).mono ?_); rintro e w' ⟨rfl, hq⟩; have BR := AsideA.mk (below_call BQ.out hq); clear hq BQ))
        go_ret
        exact ⟨rfl, BR.out⟩

/-- a row of bytes, as the row's reading opens it -/
def IsRow8 (w : World) (a : Option Addr) (len cap : Nat) (zs : List Int) : Prop :=
  (a = none ∧ len = 0 ∧ cap = 0 ∧ zs = []) ∨
  ∃ x, a = some x ∧ len ≤ cap ∧ cap ≤ maxLen ∧ zs.length = cap ∧ (∀ i, i < zs.length → w.cell? (x.add i) = some (.int .u8 (zs.getD i 0))) ∧ ∀ n ∈ zs, (Lit.int .u8 n).wf = true
/-- the bytes of such a row -/
def rowBytes (len : Nat) (zs : List Int) : List Nat := (zs.take len).map Int.toNat
theorem wf8 {n : Int} (h : (Lit.int .u8 n).wf = true) : 0 ≤ n ∧ n < 256 := by
  simp [Lit.wf, IntKind.min, IntKind.max, IntKind.bits, IntKind.signed] at h
  omega
theorem IsRow8.len {w : World} {a : Option Addr} {len cap : Nat} {zs : List Int} (h : IsRow8 w a len cap zs) : (rowBytes len zs).length = len := by
  unfold rowBytes
  rcases h with ⟨_, rfl, _, rfl⟩ | ⟨x, _, h1, _, h3, _⟩
  · rfl
  · rw [List.length_map, List.length_take]
    omega
theorem IsRow8.le {w : World} {a : Option Addr} {len cap : Nat} {zs : List Int} (h : IsRow8 w a len cap zs) : len ≤ cap := by
  rcases h with ⟨_, rfl, _, rfl⟩ | ⟨x, _, h1, _⟩
  · omega
  · exact h1
theorem IsRow8.bytes {w : World} {a : Option Addr} {len cap : Nat} {zs : List Int} (h : IsRow8 w a len cap zs) (hl : (len : Int) ≤ 1099511627776) : Bytes w a (rowBytes len zs) := by
  have hlen := h.len
  rcases h with ⟨_, rfl, _, rfl⟩ | ⟨x, rfl, h1, _, h3, h4, h5⟩
  · exact ⟨Reads.nil, by simp [rowBytes], by rw [hlen]; exact hl⟩
  · refine ⟨.inr ⟨x, rfl, fun j u hu => ?_⟩, fun b hb => ?_, by rw [hlen]; exact hl⟩
    · have hj : j < len := by
        have := (List.getElem?_eq_some_iff.1 hu).1
        rw [enc8_len, hlen] at this
        exact this
      have hz : zs[j]? = some (zs.getD j 0) := by
        rw [List.getD_eq_getElem?_getD, List.getElem?_eq_getElem (by omega)]
        rfl
      have hw := wf8 (h5 _ (List.mem_of_getElem? hz))
      rw [h4 j (by omega), ← hu]
      unfold enc8 rowBytes
      rw [List.getElem?_map, List.getElem?_map, List.getElem?_take, if_pos hj, hz]
      simp only [Option.map_some]
      rw [Int.toNat_of_nonneg hw.1]
    · unfold rowBytes at hb
      obtain ⟨z, hz, rfl⟩ := List.mem_map.1 hb
      have := wf8 (h5 z (List.mem_of_mem_take hz))
      omega
theorem IsRow8.addr {w : World} {a : Option Addr} {len cap : Nat} {zs : List Int} (h : IsRow8 w a len cap zs) : cap = 0 ∨ ∃ g off, a = some ⟨g, off, none⟩ := by
  rcases h with ⟨_, _, rfl, _⟩ | ⟨x, rfl, h1, h2, h3, h4, h5⟩
  · exact .inl rfl
  · by_cases hc : cap = 0
    · exact .inl hc
    · refine .inr ?_
      have := h4 0 (by omega)
      obtain ⟨g, off, sp⟩ := x
      cases sp with
      | none => exact ⟨g, off, rfl⟩
      | some s =>
        exfalso
        unfold World.cell? at this
        split at this <;> simp_all [Addr.add]
theorem law_parts_row (A : Option Addr) (n c : Nat) (zs : List Int) (B : Option Addr) (m d : Nat) (ys : List Int) (w : World) (T : TabAt w) (hA : IsRow8 w A n c zs) (hB : IsRow8 w B m d ys) : Calls Tryd.prog 5 #[.slice A n c, .slice B m d] w fun e w' => e = .returned (.bool true) ∧ Below w.heap.size w w' := by
  by_cases h : 2000 < n ∨ 300 < m
  · exact law_parts_many A B n m c d w T h
  · have := law_parts_few A B c d (rowBytes n zs) (rowBytes m ys) w (hA.bytes (by omega)) (hB.bytes (by omega)) T hA.addr (by rw [hA.len]; omega) (by rw [hB.len]; omega) (by rw [hA.len]; exact hA.le)
    rw [hA.len, hB.len] at this
    exact this
end Go.Proofs.YtccmeiflahnleaaDoor.A
