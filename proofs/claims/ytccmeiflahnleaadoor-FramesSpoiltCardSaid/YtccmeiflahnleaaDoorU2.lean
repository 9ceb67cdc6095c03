/-
  The reference's Put and Ends (countinghouseref15).
-/
import Derived.Test.YtccmeiflahnleaaDoorU1
import Derived.Test.YtccmeiflahnleaaDoorOw
import Derived.Laws.BytesArg
namespace Go.Proofs.YtccmeiflahnleaaDoor.A
set_option linter.unusedVariables false
set_option linter.unusedSimpArgs false
open Go.RowKit

theorem info5z : (Tryd.prog.info? 5).map (fun i => (i.zero, i.size, i.bytes)) = some (some (.int .u8 0), 1, 1) := by kernel_rfl
/-- a row of bytes of the call's own, when it is not empty -/
theorem own_fill {w wr : World} {v : Value} {n : Nat} {bs : List Nat} (h : wr.ownsRow w.heap.size 5 1 v n (enc8 bs)) (hb : Below w.heap.size w wr) (hn : 0 < n) : ∃ g cap, v = .slice (some ⟨g, 0, none⟩) n cap ∧ bs.length = n ∧ Fill w wr g cap bs := by
  have hl : bs.length = n := by have := h.1; rw [enc8_len] at this; omega
  rcases h.2 with ⟨_, h0⟩ | ⟨g, cap, cur, rfl, h1, h2, h3, h4, h5, h6⟩
  · omega
  · refine ⟨g, cap, rfl, hl, ⟨cur.toList.drop n, ?_, ?_⟩, h1, hb⟩
    · rw [h2]
      have : (enc8 bs ++ cur.toList.drop n).toArray = cur := by
        rw [← h6, Nat.mul_one, List.take_append_drop]
      rw [this]
    · rw [hl, List.length_drop]
      have : cur.toList.length = cur.size := rfl
      omega

set_option maxHeartbeats 2000000 in
set_option maxRecDepth 100000 in
theorem ref_put (A : Option Addr) (c : Nat) (bs : List Nat) (w : World) (B : Bytes w A bs) (hlen : (bs.length : Int) ≤ 1099511627700) : Calls Tryd.prog 17 #[.slice A bs.length c] w fun e w' => ∃ g cap, e = .returned (.slice (some ⟨g, 0, none⟩) (bs.length + 4) cap) ∧ Fill w w' g cap (withSum bs) := by
  have HB := AsideA.mk B
  have HO := AsideA.mk (ref_of A c bs w B)
  have HC := AsideA.mk (crc_lt 0 bs (by decide))
  have HW := AsideA.mk (show withSum bs = bs ++ four (crc 0 bs) from rfl)
  obtain ⟨len, hl⟩ : ∃ len, len = bs.length := ⟨_, rfl⟩
  rw [← hl] at HO hlen ⊢
  have HL := AsideA.mk (show (enc8 bs).length = len * 1 by rw [enc8_len, hl, Nat.mul_one])
  clear hl B
  generalize crc 0 bs = n at *
  have R4 := AsideA.mk (fun (wz : World) => (show Reads (wz.alloc (.cells #[.int .u8 ((n : Int) % 256), .int .u8 ((n : Int) / 256 % 256), .int .u8 ((n : Int) / 65536 % 256), .int .u8 ((n : Int) / 16777216 % 256)] 5 (0, 0))) (some ⟨wz.heap.size, 0, none⟩) (enc8 (four n)) by
    have e : (enc8 (four n)) = [Value.int .u8 ((n : Int) % 256), .int .u8 ((n : Int) / 256 % 256), .int .u8 ((n : Int) / 65536 % 256), .int .u8 ((n : Int) / 16777216 % 256)] := by simp [enc8, four]
    rw [e]
    exact reads_built wz 5 _))
  go_enter Tryd.func17, Tryd.ntmps17
  go_wp2_with (first
    | (go_at_call 14; refine HO.out.mono ?_; rintro e w1 ⟨rfl, h1⟩; have B1 := AsideA.mk h1; clear h1)
    | ((with_reducible refine gate (N := 8) rfl ?_); refine append_own w1 22 _ _ rfl rfl w.heap.size 5 _ 1 1 Tryd.underlying22 info5z rfl (by decide) (.slice none 0 0) 0 [] rfl (own_nil _ _ _ _) A len c (enc8 bs) rfl HL.out (HB.out.reads.below B1.out) (enc8_one bs) (by simp only [maxLen]; omega) (by omega) B1.out.size ?_; intro v2 w2 o2 g2 p2; have O2 := AsideA.mk o2; have B2 := AsideA.mk (below_grown B1.out B1.out.size (own_nil _ _ 5 1) g2); clear o2 g2 p2)
    | ((with_reducible refine gate (N := 25) rfl ?_); go_loud (refine append_own _ 22 _ _ rfl rfl w.heap.size 5 _ 1 1 Tryd.underlying22 info5z rfl (by decide) v2 (0 + len) ([] ++ enc8 bs) rfl (own_alloc O2.out _) (some ⟨w2.heap.size, 0, none⟩) 4 4 (enc8 (four n)) rfl rfl (R4.out w2) (enc8_one _) (by simp only [maxLen]; omega) (by omega) (B2.out.alloc B2.out.size _).size ?_); intro v3 w3 o3 g3 p3; have O3 := AsideA.mk o3; have B3 := AsideA.mk (below_grown (B2.out.alloc B2.out.size _) (B2.out.alloc B2.out.size _).size (own_alloc O2.out _) g3); clear o3 g3 p3))
  go_ret
  have o := O3.out
  rw [List.nil_append, ← enc8_append, ← HW.out, Nat.zero_add] at o
  obtain ⟨g, cap, e, _, F⟩ := own_fill o B3.out (by omega)
  exact ⟨g, cap, by rw [e]; rfl, F⟩

def strB (bs : List Nat) : ByteArray := ⟨(bs.map UInt8.ofNat).toArray⟩
theorem strB_list (bs : List Nat) : (strB bs).toList = bs.map UInt8.ofNat := by
  rw [ByteArray.toList_eq]
  rfl
theorem strB_eq {a b : List Nat} (ha : ∀ x ∈ a, x < 256) (hb : ∀ x ∈ b, x < 256) : ((strB a).toList == (strB b).toList) = decide (a = b) := by
  rw [strB_list, strB_list]
  by_cases h : a = b
  · subst h
    simp
  · rw [decide_eq_false h]
    refine beq_eq_false_iff_ne.mpr fun h1 => h ?_
    have h2 : (a.map UInt8.ofNat).map UInt8.toNat = (b.map UInt8.ofNat).map UInt8.toNat := by rw [h1]
    rw [List.map_map, List.map_map] at h2
    have e : ∀ l : List Nat, (∀ x ∈ l, x < 256) → l.map (UInt8.toNat ∘ UInt8.ofNat) = l := fun l hl => by
      conv => rhs; rw [← List.map_id l]
      apply List.map_congr_left
      intro x hx
      have := hl x hx
      simp [Function.comp, UInt8.toNat_ofNat', Nat.mod_eq_of_lt this]
    rwa [e a ha, e b hb] at h2
theorem str8 (w : World) (A : Option Addr) (c : Nat) (bs : List Nat) (B : Bytes w A bs) : (convert 22 9 (.slice A bs.length c)).run Tryd.prog w = .ok (.string (strB bs)) w := by
  cases A with
  | none =>
    have h0 : bs = [] := by
      rcases B.reads with h | ⟨ad, e, _⟩
      · exact List.eq_nil_of_length_eq_zero (by rw [← enc8_len, h]; rfl)
      · cases e
    subst h0
    exact run_convert_bytes_nil w 22 5 Tryd.underlying22 Tryd.underlying5 0 c 9 (by kernel_rfl)
  | some ad =>
    have hl := run_loadCells_list (P := Tryd.prog) w ad (enc8 bs) (fun j v hj => by
      rcases B.reads with h | ⟨ad', e, h⟩
      · rw [h] at hj
        simp at hj
      · cases e
        exact h j v hj)
    rw [enc8_len] at hl
    have e : enc8 bs = (bs.map fun (b : Nat) => (b : Int)).map (Value.int .u8) := by
      unfold enc8
      rw [List.map_map]
      rfl
    rw [e] at hl
    rw [run_convert_bytes_string w 22 9 5 _ _ c Tryd.underlying22 Tryd.underlying5 (by kernel_rfl), run_bytesToString w ad _ c _ hl, foldl_push_bytes]
    unfold strB
    rw [List.map_map]
    simp only [ByteArray.empty, ByteArray.emptyWithCapacity, Function.comp_def, Int.toNat_natCast]
    congr 3
    simp
    rfl
set_option maxHeartbeats 2000000 in
set_option maxRecDepth 100000 in
theorem ref_ends_short (A : Option Addr) (n c : Nat) (h : n < 4) (w : World) : Calls Tryd.prog 19 #[.slice A n c] w fun e w' => e = .returned (.bool false) ∧ Below w.heap.size w w' := by
  have BB := AsideA.mk (Below.refl w.heap.size w)
  go_enter Tryd.func19, Tryd.ntmps19
  go_wp2
  go_ret
  exact ⟨rfl, BB.out⟩

theorem withSum_small {bs : List Nat} (h : ∀ b ∈ bs, b < 256) : ∀ b ∈ withSum bs, b < 256 := by
  intro b hb
  unfold withSum at hb
  rcases List.mem_append.1 hb with h1 | h1
  · exact h b h1
  · exact four_small _ b h1
/-- how far the region is: the block that Put made, once it has -/
def RE (w0 : World) (xs : List Nat) (c : Option (Nat × Nat)) (l : Array Bool) (w : World) : Prop :=
  Below w0.heap.size w0 w ∧ (l.getD 5 false = false → c = none) ∧ (l.getD 5 false = true → ∃ k cap, c = some (k, cap) ∧ Fill w0 w k cap xs)
theorem RE.other {w0 w w1 : World} {xs : List Nat} {c : Option (Nat × Nat)} {l : Array Bool} (h : RE w0 xs c l w) (i : Nat) (hi : i ≠ 5) (k : Below w.heap.size w w1) : RE w0 xs c (l.setIfInBounds i true) w1 := by
  unfold RE
  rw [getD_set_ne false hi]
  exact ⟨below_call h.1 k, h.2.1, fun hb => by obtain ⟨q, cap, e, hq⟩ := h.2.2 hb; exact ⟨q, cap, e, hq.later k⟩⟩
theorem RE.made {w0 w w1 : World} {xs : List Nat} {q cap : Nat} {c : Option (Nat × Nat)} {l : Array Bool} (h : RE w0 xs c l w) (hl : l.size = 11) (hq : Fill w w1 q cap xs) : RE w0 xs (some (q, cap)) (l.setIfInBounds 5 true) w1 := by
  unfold RE
  rw [getD_set_self (by omega)]
  exact ⟨below_call h.1 hq.below, (fun hb => by cases hb), fun _ => ⟨q, cap, rfl, hq.start h.1⟩⟩

set_option maxHeartbeats 2000000 in
set_option maxRecDepth 100000 in
theorem ref_ends_long (g off c m : Nat) (bs : List Nat) (w : World) (B : Bytes w (some ⟨g, off, none⟩) bs) (hm : bs.length = m + 4) (hc : m + 4 ≤ c) (hlim : (bs.length : Int) ≤ 1099511627700) : Calls Tryd.prog 19 #[.slice (some ⟨g, off, none⟩) (m + 4) c] w fun e w' => e = .returned (.bool (endsB bs)) ∧ Below w.heap.size w w' := by
  have hE : endsB bs = ((strB (withSum (bs.take m))).toList == (strB bs).toList) := by
    rw [strB_eq (withSum_small fun b hb => B.small b (List.mem_of_mem_take hb)) B.small]
    unfold endsB
    rw [hm, show m + 4 - 4 = m by omega]
    congr 1
    apply propext
    constructor
    · rintro ⟨_, h⟩
      unfold withSum
      rw [← h, List.take_append_drop]
    · intro h
      refine ⟨by omega, ?_⟩
      have h2 := congrArg (List.drop m) h
      unfold withSum at h2
      rw [List.drop_left' (by rw [List.length_take]; omega)] at h2
      exact h2.symm
  rw [hE]
  have hlen := B.len
  have l1 : (bs.take m).length = m := by rw [List.length_take]; omega
  have HO := AsideA.mk (fun (wz : World) (h : Below w.heap.size w wz) => ref_put (some ⟨g, off, none⟩) c (bs.take m) wz ((B.below h).take m) (by rw [l1]; omega))
  have HS := AsideA.mk (fun (wz : World) (h : Below w.heap.size w wz) => str8 wz (some ⟨g, off, none⟩) c bs (B.below h))
  have HW := AsideA.mk (withSum_small (bs := bs.take m) fun b hb => B.small b (List.mem_of_mem_take hb))
  have HL := AsideA.mk (show (withSum (bs.take m)).length = m + 4 by rw [withSum_len, l1])
  rw [l1] at HO
  rw [hm] at HS
  clear hE l1 B
  generalize withSum (bs.take m) = xs at *
  generalize strB bs = s2 at *
  have H1 := AsideA.mk (fun (wz : World) (q cap : Nat) (F : Fill w wz q cap xs) => (show (convert 22 9 (.slice (some ⟨q, 0, none⟩) (m + 4) cap)).run Tryd.prog wz = .ok (.string (strB xs)) wz by
    have := str8 wz (some ⟨q, 0, none⟩) cap xs (F.bytes HW.out (by rw [HL.out]; omega))
    rwa [HL.out] at this))
  generalize strB xs = s1 at *
  have hmi : (m : Int) + 4 ≤ 1099511627776 := by omega
  clear hlen hm hlim
  have wq : IntKind.i64.wrap (m : Int) = m := by rw [IntKind.wrap_i64]; omega
  have f2 : m ≤ c := by omega
  have f1 : (m : Int) ≤ (m : Int) + 4 := by omega
  have d1 : decide ((m : Int) + 4 < 4) = false := decide_eq_false (by omega)
  go_enter Tryd.func19, Tryd.ntmps19
  go_wp2
  refine region_picked follows [6, 7, 8, 9, 10, 11, 12, 13, 14, 15, 2] (fun (y : Nat × Nat) => [(6, .slice (some ⟨g, off, none⟩) (m + 4) c), (7, .slice (some ⟨g, off, none⟩) (m + 4) c), (8, .int .i64 ((m : Int) + 4)), (9, .int .i64 m), (10, .slice (some ⟨g, off, none⟩) m c), (11, .slice (some ⟨y.1, 0, none⟩) (m + 4) y.2), (12, .string s1), (13, .slice (some ⟨g, off, none⟩) (m + 4) c), (14, .string s2), (15, .bool (s1.toList == s2.toList)), (2, .bool (s1.toList == s2.toList))]) (by intro _; rfl) _ (by intro _; simp only [actPuts]; go_simp; rfl) 16 rfl (by kernel_rfl)
    (fun (pk : Option (Nat × Nat)) (ls : Array Bool) (wz : World) => RE w xs pk ls wz) ?_ ?_ ?_
  · intro ls hl
    exact (by unfold RE; rw [hl 5]; exact ⟨(Below.refl _ _).drew, fun _ => rfl, fun hb => by cases hb⟩)
  · refine ⟨?_, ?_, ?_, ?_, ?_, ?_, ?_, ?_, ?_, ?_, ?_, trivial⟩
    · intro pk ls wz x hs hl hn h hx
      exact opc_val rfl (v := .slice (some ⟨g, off, none⟩) (m + 4) c) (w' := wz) (by go_simp) rfl (fun _ => rfl) (h.other 0 (by decide) (Below.refl _ _))
    · intro pk ls wz x hs hl hn h hx
      exact opc_val rfl (v := .slice (some ⟨g, off, none⟩) (m + 4) c) (w' := wz) (by go_simp) rfl (fun _ => rfl) (h.other 1 (by decide) (Below.refl _ _))
    · intro pk ls wz x hs hl hn h hx
      exact opc_val rfl (v := .int .i64 ((m : Int) + 4)) (w' := wz) (by go_simp) rfl (fun _ => rfl) (h.other 2 (by decide) (Below.refl _ _))
    · intro pk ls wz x hs hl hn h hx
      exact opc_val rfl (v := .int .i64 m) (w' := wz) (by go_simp) rfl (fun _ => rfl) (h.other 3 (by decide) (Below.refl _ _))
    · intro pk ls wz x hs hl hn h hx
      exact opc_val rfl (v := .slice (some ⟨g, off, none⟩) m c) (w' := wz) (by go_simp) rfl (fun _ => rfl) (h.other 4 (by decide) (Below.refl _ _))
    · intro pk ls wz x hs hl hn h hx
      have hcn := h.2.1 hl; subst hcn; exact opc_pick rfl (f := 17) (args := #[.slice (some ⟨g, off, none⟩) m c]) (by go_simp) rfl (fun _ => rfl) ((HO.out wz h.1).mono fun e w' ⟨q, cap, he, F⟩ => ⟨(q, cap), he, h.made hs F⟩)
    · intro pk ls wz x hs hl hn h hx
      obtain ⟨q, cap, e, F⟩ := h.2.2 (hn 5 (by decide)); subst e; have e2 : x = (q, cap) := hx.elim (fun hh => by cases hh) (fun hh => (Option.some.inj hh).symm); subst e2; have H := H1.out wz q cap F; exact opc_val rfl (v := .string s1) (w' := wz) (by go_simp) rfl (fun _ => rfl) (h.other 6 (by decide) (Below.refl _ _))
    · intro pk ls wz x hs hl hn h hx
      exact opc_val rfl (v := .slice (some ⟨g, off, none⟩) (m + 4) c) (w' := wz) (by go_simp) rfl (fun _ => rfl) (h.other 7 (by decide) (Below.refl _ _))
    · intro pk ls wz x hs hl hn h hx
      have H := HS.out wz h.1; exact opc_val rfl (v := .string s2) (w' := wz) (by go_simp) rfl (fun _ => rfl) (h.other 8 (by decide) (Below.refl _ _))
    · intro pk ls wz x hs hl hn h hx
      exact opc_val rfl (v := .bool (s1.toList == s2.toList)) (w' := wz) (by go_simp) rfl (fun _ => rfl) (h.other 9 (by decide) (Below.refl _ _))
    · intro pk ls wz x hs hl hn h hx
      exact opc_val rfl (v := .bool (s1.toList == s2.toList)) (w' := wz) (by go_simp) rfl (fun _ => rfl) (h.other 10 (by decide) (Below.refl _ _))
  · intro c' l w4 x hd h hx
    have I1 := AsideA.mk h.1
    clear hd h hx
    go_wp2
    go_ret
    exact ⟨rfl, I1.out⟩
theorem ref_ends (A : Option Addr) (c : Nat) (bs : List Nat) (w : World) (B : Bytes w A bs) (hc : bs.length ≤ c) (hlim : (bs.length : Int) ≤ 1099511627700) : Calls Tryd.prog 19 #[.slice A bs.length c] w fun e w' => e = .returned (.bool (endsB bs)) ∧ Below w.heap.size w w' := by
  by_cases h : bs.length < 4
  · have hE : endsB bs = false := decide_eq_false (by omega)
    rw [hE]
    exact ref_ends_short A bs.length c h w
  · obtain ⟨g, off, x, rfl, _⟩ := B.get 0 (by omega)
    obtain ⟨m, hm⟩ : ∃ m, bs.length = m + 4 := ⟨bs.length - 4, by omega⟩
    have := ref_ends_long g off c m bs w B hm (by omega) hlim
    rw [hm]
    exact this
end Go.Proofs.YtccmeiflahnleaaDoor.A

