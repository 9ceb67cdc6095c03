/-
  The law SumsBurst, its walk.
-/
import Derived.Test.YtccmeiflahnleaaDoorS10
import Derived.Test.YtccmeiflahnleaaDoorT1
namespace Go.Proofs.YtccmeiflahnleaaDoor.A
set_option linter.unusedVariables false
set_option linter.unusedSimpArgs false
open Go.RowKit

set_option maxHeartbeats 2000000 in
set_option maxRecDepth 100000 in
theorem law_burst_many (A : Option Addr) (n c : Nat) (v at_ : Int) (w : World) (T : TabAt w) (hn : 2000 < n) : Calls Tryd.prog 4 #[.slice A n c, .int .u32 v, .int .u32 at_] w fun e w' => e = .returned (.bool true) ∧ Below w.heap.size w w' := by
  have BB := AsideA.mk (Below.refl w.heap.size w)
  have L := AsideA.mk (lives15 w T)
  clear T
  go_enter Tryd.func4, Tryd.ntmps4
  go_wp2_with (go_at_call 10; refine L.out.mono ?_; rintro e wq ⟨rfl, hq⟩; have BN := AsideA.mk (below_call BB.out hq); clear hq BB; have BB := BN; clear BN)
  go_ret
  exact ⟨rfl, BB.out⟩

theorem Fill.at_ {w wr : World} {g cap : Nat} {bs : List Nat} (h : Fill w wr g cap bs) (q x : Nat) (hq : bs[q]? = some x) : wr.cell? ⟨g, q, none⟩ = some (.int .u8 (x : Int)) := by
  obtain ⟨t, h1, h2⟩ := h.blk
  have hl := (List.getElem?_eq_some_iff.1 hq).1
  rw [blk_cell h1, List.getElem?_toArray, List.getElem?_append_left (by rw [enc8_len]; exact hl)]
  unfold enc8
  rw [List.getElem?_map, hq]
  rfl
theorem Fill.thaw {w wr : World} {g cap : Nat} {bs : List Nat} (h : Fill w wr g cap bs) (q : Nat) : wr.frozen? ⟨g, q, none⟩ = false := by
  obtain ⟨t, h1, h2⟩ := h.blk
  exact blk_frozen h1 q
theorem Fill.put {w wr : World} {g cap : Nat} {bs : List Nat} (h : Fill w wr g cap bs) (q y : Nat) (hq : q < bs.length) : Fill w (wr.setCell ⟨g, q, none⟩ (.int .u8 (y : Int))) g cap (bs.set q y) := by
  obtain ⟨t, h1, h2⟩ := h.blk
  refine ⟨⟨t, ?_, by rw [List.length_set]; exact h2⟩, h.ge, below_set h.below h.ge⟩
  rw [blk_set h1]
  congr 2
  simp only [List.setIfInBounds_toArray]
  rw [List.set_append_left _ _ (by rw [enc8_len]; exact hq)]
  unfold enc8
  rw [List.map_set]
theorem Fill.drew {w wr : World} {g cap : Nat} {bs : List Nat} (h : Fill w wr g cap bs) : Fill w wr.drew g cap bs := h.later (Below.refl _ _).drew
theorem bit_at (v k : Nat) (hv : v < 2 ^ 32) : bits .and .u32 ((v : Int) / 2 ^ k) 1 = if v.testBit k then 1 else 0 := by
  have e : (v : Int) / 2 ^ k = ((v / 2 ^ k : Nat) : Int) := by
    rw [Int.natCast_ediv]
    rfl
  have h := and32 (v / 2 ^ k) 1 (Nat.lt_of_le_of_lt (Nat.div_le_self _ _) hv) (by decide)
  rw [e]
  refine h.trans ?_
  rw [Nat.and_one_is_mod, Nat.testBit_eq_decide_div_mod_eq]
  rcases Nat.mod_two_eq_zero_or_one (v / 2 ^ k) with h2 | h2 <;> simp [h2]

theorem xor_bit (x r : Nat) (hx : x < 256) (hr : r < 8) : bits .xor .u8 (x : Int) ((2 : Int) ^ r) = ((x ^^^ (1 <<< r) : Nat) : Int) ∧ IntKind.u8.wrap ((2 : Int) ^ r) = (2 : Int) ^ r := by
  have e : (2 : Int) ^ r = ((1 <<< r : Nat) : Int) := by
    rw [Nat.one_shiftLeft, Int.natCast_pow]
    rfl
  have hl : 1 <<< r < 2 ^ 8 := by
    rw [Nat.one_shiftLeft]
    exact (Nat.pow_lt_pow_iff_right (a := 2) (by decide)).2 hr
  have hx' : x % 2 ^ IntKind.u8.bits = x := Nat.mod_eq_of_lt hx
  have hl' : (1 <<< r) % 2 ^ IntKind.u8.bits = 1 <<< r := Nat.mod_eq_of_lt hl
  have w8 : ∀ n : Nat, n < 2 ^ 8 → IntKind.u8.wrap (n : Int) = n := fun n hn => by
    rw [IntKind.wrap_u8]
    omega
  rw [e]
  refine ⟨?_, w8 _ hl⟩
  simp only [bits, BitVec.ofInt_natCast, BitVec.toNat_xor, BitVec.toNat_ofNat, hx', hl']
  exact w8 _ (Nat.xor_lt_two_pow hx hl)

set_option maxHeartbeats 4000000 in
set_option maxRecDepth 100000 in
theorem law_burst_few (A : Option Addr) (c : Nat) (bs : List Nat) (v at_ : Nat) (w : World) (RA : Bytes w A bs) (T : TabAt w) (h1 : bs.length ≤ 2000) (hv : v < 2 ^ 32) (hat : at_ < 2 ^ 32) : Calls Tryd.prog 4 #[.slice A bs.length c, .int .u32 (v : Int), .int .u32 (at_ : Int)] w fun e w' => e = .returned (.bool true) ∧ Below w.heap.size w w' := by
  have M1 := AsideA.mk (xput A c bs w RA (by omega) T)
  have M2 := AsideA.mk (fun (wz : World) (g cap : Nat) (p : List Nat) (hp : ∀ b ∈ p, b < 256) (hl : p.length = bs.length + 4) (F : Fill w wz g cap p) => (show Calls Tryd.prog 18 #[.slice (some ⟨g, 0, none⟩) (bs.length + 4) (bs.length + 4)] wz fun e w' => e = .returned (.bool (endsB p)) ∧ Below wz.heap.size wz w' by
    have h := xends (some ⟨g, 0, none⟩) (bs.length + 4) p wz (F.bytes hp (by omega)) (T.below F.below) (by omega)
    rw [hl] at h
    exact h))
  have M3 := AsideA.mk (fun (wz : World) (hb : Below w.heap.size w wz) => lives15 wz (T.below hb))
  have HE := AsideA.mk (ends_withSum bs RA.small)
  have HL := AsideA.mk (withSum_len bs)
  have HS : AsideA (∀ b ∈ withSum bs, b < 256) := ⟨by
    intro b hb
    unfold withSum at hb
    rcases List.mem_append.1 hb with h | h
    · exact RA.small b h
    · exact four_small _ b h⟩
  generalize withSum bs = p at *
  clear RA T
  generalize bs.length = len at *
  obtain ⟨f, hf, hf2⟩ : ∃ f : Nat, (at_ : Int) % (8 * ((len : Int) + 4) - 31) = (f : Int) ∧ f + 32 ≤ 8 * (len + 4) := by
    have x1 := Int.emod_nonneg (at_ : Int) (b := 8 * ((len : Int) + 4) - 31) (by omega)
    have x2 := Int.emod_lt_of_pos (at_ : Int) (b := 8 * ((len : Int) + 4) - 31) (by omega)
    generalize (at_ : Int) % (8 * ((len : Int) + 4) - 31) = z at *
    exact ⟨z.toNat, by omega, by omega⟩
  have hfi : (f : Int) + 32 ≤ 8 * (2000 + 4) := by omega
  have HF := AsideA.mk hf
  clear hf
  go_enter Tryd.func4, Tryd.ntmps4
  go_wp2_with (first | (go_at_call 12; refine M1.out.mono ?_; rintro e w1 ⟨g, cap, rfl, F⟩; have FF := AsideA.mk F; clear F) | (go_at_call 18; (refine (M2.out _ g cap p HS.out HL.out FF.out).mono ?_); rw [HE.out]; rintro e w2 ⟨rfl, hq⟩; have FN := AsideA.mk (FF.out.later hq); clear hq FF; have FF := FN; clear FN))
  have F0 : AsideA (Fill w w2 g cap (turned p f v 0)) := ⟨FF.out⟩
  clear FF M1
  rw [HF.out]
  go_loopw [9] (fun i wr => ∃ k : Nat, k ≤ 32 ∧ i = .int .i64 k ∧ AsideA (Fill w wr g cap (turned p f v k))) (fun i _ => 32 - (intOf i).toNat)
  case atStart => exact ⟨0, by omega, rfl, F0⟩
  case round =>
    obtain ⟨k, hk, rfl, I⟩ := hrel
    clear F0
    by_cases hlt : k < 32
    · by_cases hb : v.testBit k = true
      · have d1 : (bits .and .u32 ((v : Int) / 2 ^ k) 1 == 1) = true := by rw [bit_at v k hv, if_pos hb]; rfl
        obtain ⟨q, r, e1, e2, e3, e4, e5, e6, hq, hr⟩ : ∃ q r : Nat, ((f : Int) + (k : Int)) / 8 = q ∧ ((f : Int) + (k : Int)) % 8 = r ∧ ((f : Int) + (k : Int)).tdiv 8 = q ∧ ((f : Int) + (k : Int)).tmod 8 = r ∧ (f + k) / 8 = q ∧ (f + k) % 8 = r ∧ q < len + 4 ∧ r < 8 := ⟨(f + k) / 8, (f + k) % 8, by omega, by omega, by rw [Int.tdiv_eq_ediv_of_nonneg (by omega)]; omega, by rw [Int.tmod_eq_emod_of_nonneg (by omega)]; omega, rfl, rfl, by omega, by omega⟩
        have E := AsideA.mk (And.intro e5 e6)
        clear e5 e6
        have hlen : q < (turned p f v k).length := by rw [turned_len, HL.out]; exact hq
        have HX : AsideA (turned p f v (k + 1) = (turned p f v k).set q ((turned p f v k).getD q 0 ^^^ (1 <<< r))) := ⟨by
          show (if v.testBit k then flip1 (turned p f v k) (f + k) else turned p f v k) = _
          rw [if_pos hb]
          unfold flip1
          rw [E.out.1, E.out.2]⟩
        have hx0 : (turned p f v k)[q]? = some ((turned p f v k).getD q 0) := by
          rw [List.getD_eq_getElem?_getD, List.getElem?_eq_getElem hlen]
          rfl
        have hxs := turned_small p f v k HS.out _ (List.mem_of_getElem? hx0)
        have HQ := AsideA.mk hx0
        have HLEN := AsideA.mk hlen
        generalize hxs2 : turned p f v k = xs at *
        generalize xs.getD q 0 = x at *
        obtain ⟨d2, d3⟩ := xor_bit x r hxs hr
        generalize x ^^^ (1 <<< r) = y at *
        clear hx0 hxs2 hlen
        go_wp2_with fail
        have wq : IntKind.i64.wrap (q : Int) = q := by rw [IntKind.wrap_i64]; omega
        have nq : ¬ ((len : Int) + 4 ≤ (q : Int)) := by omega
        refine region_fin follows [47, 48, 49, 50, 51, 52, 53, 54, 55, 56, 57, 58, 59] [(47, .slice (some ⟨g, 0, none⟩) (len + 4) (len + 4)), (48, .int .i64 ((f : Int) + (k : Int))), (49, .int .i64 q), (50, .slice (some ⟨g, 0, none⟩) (len + 4) (len + 4)), (51, .int .i64 ((f : Int) + (k : Int))), (52, .int .i64 q), (53, .pointer (some ⟨g, q, none⟩)), (54, .int .u8 (x : Int)), (55, .int .i64 ((f : Int) + (k : Int))), (56, .int .i64 r), (57, .int .u8 ((2 : Int) ^ r)), (58, .int .u8 (y : Int)), (59, .pointer (some ⟨g, q, none⟩))] (by rfl) _ (by simp only [actPuts]; go_simp; rfl) 68 rfl (by kernel_rfl)
          (fun (wz : World) => Fill w wz g cap xs) (fun (wz : World) => Fill w wz g cap (xs.set q y)) I.out.drew ?_ ?_
        · refine ⟨?_, ?_, ?_, ?_, ?_, ?_, ?_, ?_, ?_, ?_, ?_, ?_, ?_, ?_⟩
          · intro wz h
            exact op_val (v := .slice (some ⟨g, 0, none⟩) (len + 4) (len + 4)) (w' := wz) (by go_simp) rfl rfl (h)
          · intro wz h
            exact op_val (v := .int .i64 ((f : Int) + (k : Int))) (w' := wz) (by go_simp) rfl rfl (h)
          · intro wz h
            exact op_val (v := .int .i64 q) (w' := wz) (by go_simp) rfl rfl (h)
          · intro wz h
            exact op_val (v := .slice (some ⟨g, 0, none⟩) (len + 4) (len + 4)) (w' := wz) (by go_simp) rfl rfl (h)
          · intro wz h
            exact op_val (v := .int .i64 ((f : Int) + (k : Int))) (w' := wz) (by go_simp) rfl rfl (h)
          · intro wz h
            exact op_val (v := .int .i64 q) (w' := wz) (by go_simp) rfl rfl (h)
          · intro wz h
            exact op_val (v := .pointer (some ⟨g, q, none⟩)) (w' := wz) (by go_simp) rfl rfl (h)
          · intro wz h
            have hc := h.at_ q x HQ.out
            exact op_val (v := .int .u8 (x : Int)) (w' := wz) (by go_simp) rfl rfl (h)
          · intro wz h
            exact op_val (v := .int .i64 ((f : Int) + (k : Int))) (w' := wz) (by go_simp) rfl rfl (h)
          · intro wz h
            exact op_val (v := .int .i64 r) (w' := wz) (by go_simp) rfl rfl (h)
          · intro wz h
            exact op_val (v := .int .u8 ((2 : Int) ^ r)) (w' := wz) (by go_simp) rfl rfl (h)
          · intro wz h
            exact op_val (v := .int .u8 (y : Int)) (w' := wz) (by go_simp) rfl rfl (h)
          · intro wz h
            exact op_val (v := .pointer (some ⟨g, q, none⟩)) (w' := wz) (by go_simp) rfl rfl (h)
          · intro wz h
            have hc := h.at_ q x HQ.out; have hf := h.thaw q; exact op_skip (w' := wz.setCell ⟨g, q, none⟩ (.int .u8 (y : Int))) (by go_simp) rfl (h.put q y HLEN.out)
        · intro wz hz
          have Z := AsideA.mk hz
          clear hz I
          go_wp2
          exact ⟨⟨k + 1, by omega, by go_num, ⟨by rw [HX.out]; exact Z.out⟩⟩, by simp [intOf]; omega⟩
      · have d1 : (bits .and .u32 ((v : Int) / 2 ^ k) 1 == 1) = false := by rw [bit_at v k hv, if_neg hb]; rfl
        have HX : AsideA (turned p f v (k + 1) = turned p f v k) := ⟨by
          show (if v.testBit k then flip1 (turned p f v k) (f + k) else turned p f v k) = _
          rw [if_neg hb]⟩
        clear hb
        go_wp2
        exact ⟨⟨k + 1, by omega, by go_num, ⟨by rw [HX.out]; exact I.out⟩⟩, by simp [intOf]; omega⟩
    · have e : k = 32 := by omega
      subst e
      have ME := AsideA.mk (burst p f v HS.out (by rw [HL.out]; exact hf2) (by rw [HL.out]; omega) hv HE.out)
      have MM := M2.out wr g cap (turned p f v 32) (turned_small p f v 32 HS.out) (by rw [turned_len, HL.out]) I.out
      rw [ME.out] at MM
      have HM := AsideA.mk MM
      clear MM M2
      by_cases hz : v = 0
      · subst hz
        go_wp2_with (first | (go_at_call 18; (refine HM.out.mono ?_); rintro e w2 ⟨rfl, hq⟩; have B1 := AsideA.mk (below_call I.out.below hq); clear hq) | (go_at_call 10; (refine (M3.out _ B1.out).mono ?_); rintro e w2 ⟨rfl, hq⟩; have B2 := AsideA.mk (below_call B1.out hq); clear hq))
        go_ret
        exact ⟨rfl, B2.out⟩
      · have dz : ((v : Int) == 0) = false := beq_eq_false_iff_ne.mpr (by omega)
        have dz2 : decide (v = 0) = false := decide_eq_false hz
        rw [dz2] at HM
        clear hz dz2
        go_wp2_with (first | (go_at_call 18; (refine HM.out.mono ?_); rintro e w2 ⟨rfl, hq⟩; have B1 := AsideA.mk (below_call I.out.below hq); clear hq) | (go_at_call 10; (refine (M3.out _ B1.out).mono ?_); rintro e w2 ⟨rfl, hq⟩; have B2 := AsideA.mk (below_call B1.out hq); clear hq))
        go_ret
        exact ⟨rfl, B2.out⟩

theorem wf32 {n : Int} (h : (Lit.int .u32 n).wf = true) : 0 ≤ n ∧ n < 2 ^ 32 := by
  simp [Lit.wf, IntKind.min, IntKind.max, IntKind.bits, IntKind.signed] at h
  omega
theorem law_burst_row (A : Option Addr) (n c : Nat) (zs : List Int) (v at_ : Int) (w : World) (T : TabAt w) (hA : IsRow8 w A n c zs) (hv : (Lit.int .u32 v).wf = true) (hat : (Lit.int .u32 at_).wf = true) : Calls Tryd.prog 4 #[.slice A n c, .int .u32 v, .int .u32 at_] w fun e w' => e = .returned (.bool true) ∧ Below w.heap.size w w' := by
  by_cases h : 2000 < n
  · exact law_burst_many A n c v at_ w T h
  · have h1 := wf32 hv
    have h2 := wf32 hat
    have := law_burst_few A c (rowBytes n zs) v.toNat at_.toNat w (hA.bytes (by omega)) T (by rw [hA.len]; omega) (by omega) (by omega)
    rw [hA.len, Int.toNat_of_nonneg h1.1, Int.toNat_of_nonneg h2.1] at this
    exact this
end Go.Proofs.YtccmeiflahnleaaDoor.A

