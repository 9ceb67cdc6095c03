/-
  A number's bytes (packs.Num, countinghouseref16.Num), slices.Clone, a frame that is put.
-/
import Derived.Test.YtccmeiflahnleaaDoorG0
import Derived.Test.YtccmeiflahnleaaDoorU3
import Derived.Test.YtccmeiflahnleaaDoorV2
import Derived.Lib.LazyBuf
namespace Go.Proofs.YtccmeiflahnleaaDoor.A
set_option linter.unusedVariables false
set_option linter.unusedSimpArgs false
open Go.RowKit

/-- one byte of a number, in the walk's own forms -/
theorem or128 (n : Nat) : bits .or .u8 ((n : Int) % 256) 128 = ((128 + n % 128 : Nat) : Int) := by
  have e : (n : Int) % 256 = ((n % 256 : Nat) : Int) := by omega
  have h1 : n % 256 % 2 ^ IntKind.u8.bits = n % 256 := Nat.mod_eq_of_lt (by show n % 256 < 256; omega)
  have h2 : (128 : Nat) % 2 ^ IntKind.u8.bits = 128 := by decide
  have e2 : (128 : Int) = ((128 : Nat) : Int) := rfl
  have h3 : n % 256 ||| 128 = 128 + n % 128 := by
    have : ∀ m, m < 256 → m ||| 128 = 128 + m % 128 := by decide +kernel
    rw [this _ (by omega)]
    omega
  rw [e, e2]
  simp only [bits, BitVec.ofInt_natCast, BitVec.toNat_or, BitVec.toNat_ofNat, h1, h2]
  rw [h3, IntKind.wrap_u8]
  omega

theorem eql_nil (W : World) (a : Option Addr) (l c : Nat) : (binOp .eql 22 (.slice a l c) (.slice none 0 0)).run Tryd.prog W = .ok (.bool a.isNone) W := Go.run_eql_slice_nil (P := Tryd.prog) W 22 5 a l c Tryd.underlying22
set_option maxHeartbeats 2000000 in
set_option maxRecDepth 100000 in
theorem xclone_nil (c : Nat) (w : World) : Calls Tryd.prog 44 #[.slice none 0 c] w fun e w' => e = .returned (.slice none 0 0) ∧ Below w.heap.size w w' := by
  have BB := AsideA.mk (Below.refl w.heap.size w)
  have HQ := fun (W : World) (a : Option Addr) (l c : Nat) => eql_nil W a l c
  go_enter Tryd.func44, Tryd.ntmps44
  go_wp2
  go_ret
  exact ⟨rfl, BB.out⟩

/-- a row of its own, that is not nil -/
theorem own_some {w : World} {base n size : Nat} {e : TypeId} {v : Value} {xs : List Value} (h : w.ownsRow base e size v n xs) {g : Nat} (hb : v.ownBlock = some g) : ∃ cap, v = .slice (some ⟨g, 0, none⟩) n cap := by
  rcases h.2 with ⟨rfl, _⟩ | ⟨g', cap, cur, rfl, _⟩
  · cases hb
  · cases hb
    exact ⟨cap, rfl⟩
set_option maxHeartbeats 2000000 in
set_option maxRecDepth 100000 in
theorem xclone (g0 off c : Nat) (bs : List Nat) (w : World) (B : Bytes w (some ⟨g0, off, none⟩) bs) : Calls Tryd.prog 44 #[.slice (some ⟨g0, off, none⟩) bs.length c] w fun e w' => ∃ g cap, e = .returned (.slice (some ⟨g, 0, none⟩) bs.length cap) ∧ w'.ownsRow w.heap.size 5 1 (.slice (some ⟨g, 0, none⟩) bs.length cap) bs.length (enc8 bs) ∧ Below w.heap.size w w' := by
  have HQ := fun (W : World) (a : Option Addr) (l c : Nat) => eql_nil W a l c
  have HB := AsideA.mk B
  have hlen := B.len
  have HL := AsideA.mk (show (enc8 bs).length = bs.length * 1 by rw [enc8_len, Nat.mul_one])
  clear B
  generalize bs.length = n at *
  have O0 : AsideA ((w.alloc (.cells #[] 5 (0, 0))).ownsRow w.heap.size 5 1 (.slice (some ⟨w.heap.size, 0, none⟩) 0 0) 0 []) := ⟨⟨rfl, .inr ⟨_, 0, #[], rfl, Nat.le_refl _, heap_alloc_new w _, by omega, by decide, rfl, rfl⟩⟩⟩
  go_enter Tryd.func44, Tryd.ntmps44
  go_wp2_with ((with_reducible refine gate (N := 7) rfl ?_); go_loud (refine append_own _ 22 _ _ rfl rfl w.heap.size 5 _ 1 1 Tryd.underlying22 info5z rfl (by decide) (.slice (some ⟨w.heap.size, 0, none⟩) 0 0) 0 [] rfl O0.out (some ⟨g0, off, none⟩) n c (enc8 bs) rfl HL.out (reads_alloc HB.out.reads _) (enc8_one bs) (by simp only [maxLen]; omega) (by omega) (by simp) ?_; intro v2 w2 o2 g2 p2; have hb2 : ∃ gg, v2.ownBlock = some gg := p2.elim (fun e => ⟨_, e⟩) (fun e => ⟨_, e⟩); obtain ⟨gg, hb2⟩ := hb2; obtain ⟨cap, e2⟩ := own_some o2 hb2; subst e2; rw [Nat.zero_add] at *; have Z := AsideA.mk (And.intro o2 (below_grown ((Below.refl w.heap.size w).alloc (Nat.le_refl _) _) (by simp) O0.out g2)); clear o2 g2 p2 hb2))
  go_ret
  have o := Z.out.1
  rw [List.nil_append] at o
  exact ⟨gg, cap, rfl, o, Z.out.2⟩

set_option maxHeartbeats 2000000 in
set_option maxRecDepth 100000 in
theorem xnum (n : Nat) (hn : n ≤ 8192) (w : World) : Calls Tryd.prog 41 #[.slice none 0 0, .int .u64 (n : Int)] w fun e w' => ∃ g cap, e = .returned (.slice (some ⟨g, 0, none⟩) (numL n).length (numL n).length) ∧ Fill w w' g cap (numL n) := by
  have BB := AsideA.mk (Below.refl w.heap.size w)
  have C44 := AsideA.mk (xclone_nil 0 w)
  have HL := AsideA.mk (show (numL n).length ≤ 10 from numL_len 9 n (Nat.lt_of_le_of_lt hn (by decide)))
  have HN := AsideA.mk hn
  have hn' : (n : Int) ≤ 8192 := by omega
  go_enter Tryd.func41, Tryd.ntmps41
  go_wp2_with (go_at_call 44; refine C44.out.mono ?_; rintro e w1 ⟨rfl, hq⟩; have B1 := AsideA.mk hq; clear hq)
  have I0 : AsideA (Below w.heap.size w w1 ∧ w1.ownsRow w.heap.size 5 1 (.slice none 0 0) 0 (enc8 []) ∧ numL n = [] ++ numL n ∧ n ≤ 8192) := ⟨B1.out, own_nil _ _ _ _, rfl, hn⟩
  clear B1 C44 hn
  go_loopw [1, 5] (fun m v wr => ∃ q k c : Nat, ∃ A : Option Addr, ∃ done : List Nat, m = .int .u64 (q : Int) ∧ v = .slice A k c ∧ (k : Int) < 1000 ∧ (q : Int) ≤ 8192 ∧ AsideA (Below w.heap.size w wr ∧ wr.ownsRow w.heap.size 5 1 (.slice A k c) k (enc8 done) ∧ numL n = done ++ numL q ∧ q ≤ 8192)) (fun m _ _ => (intOf m).toNat)
  case atStart => exact ⟨n, 0, 0, none, [], rfl, rfl, by omega, hn', I0⟩
  case round =>
    obtain ⟨q, k, c, A, done, rfl, rfl, hk, hq, I⟩ := hrel
    clear I0
    have hlen : AsideA (k = done.length ∧ k ≤ 10 ∧ k + (numL q).length ≤ 10) := ⟨by
      have h1 := I.out.2.1.1
      have h2 := HL.out
      rw [enc8_len] at h1
      rw [I.out.2.2.1, List.length_append] at h2
      omega⟩
    by_cases hb : 128 ≤ q
    · have ho := or128 q
      have S := AsideA.mk (numL_big hb)
      have H1 := AsideA.mk (numL_pos (q / 128))
      generalize hc : 128 + q % 128 = x at *
      have HC := AsideA.mk hc
      clear hc
      obtain ⟨z, hz⟩ : ∃ z, z = q / 128 := ⟨_, rfl⟩
      have e8 : (q : Int).fdiv (2 ^ min (Int.toNat 7) IntKind.u64.bits) = (z : Int) := by
        show (q : Int).fdiv 128 = _
        rw [Int.fdiv_eq_ediv_of_nonneg _ (by decide)]
        omega
      have e7 : (q : Int) / 128 = (z : Int) := by omega
      rw [← hz] at S H1
      have HZ := AsideA.mk hz
      clear hz
      have q0 : 0 ≤ (q : Int) := by omega
      go_wp2_with ((with_reducible refine gate (N := 15) rfl ?_); go_loud (refine append_own _ 22 _ _ rfl rfl w.heap.size 5 _ 1 1 Tryd.underlying22 info5z rfl (by decide) (.slice A k c) k (enc8 done) rfl (own_alloc I.out.2.1 _) (some ⟨wr.heap.size, 0, none⟩) 1 1 (enc8 [x]) rfl rfl (reads_built wr 5 (enc8 [x])) (enc8_one _) (by simp only [maxLen]; omega) (by omega) (by have := I.out.1.size; simp; omega) ?_; intro v2 w2 o2 g2 p2; obtain ⟨A2, c2, e2⟩ := own_form o2; subst e2; have Z := AsideA.mk (And.intro o2 (below_grown (I.out.1.alloc I.out.1.size _) (by have := I.out.1.size; simp; omega) (own_alloc I.out.2.1 _) g2)); clear o2 g2 p2))
      refine ⟨⟨z, k + 1, c2, A2, done ++ [x], ?_, rfl, by have := hlen.out; omega, by have := HZ.out; omega, ⟨Z.out.2, by rw [enc8_append]; exact Z.out.1, ?_, by have := I.out.2.2.2; have := HZ.out; omega⟩⟩, ?_⟩
      · first | rfl | rw [e7] | rw [e8]
      · rw [I.out.2.2.1, S.out, List.append_assoc]
        rfl
      · simp [intOf]
        have := HZ.out
        omega
    · have S := AsideA.mk (numL_small (show q < 128 by omega))
      have eq1 : (q : Int) % 256 = (q : Int) := by omega
      go_wp2_with (first
        | ((with_reducible refine gate (N := 22) rfl ?_); go_loud (refine append_own _ 22 _ _ rfl rfl w.heap.size 5 _ 1 1 Tryd.underlying22 info5z rfl (by decide) (.slice A k c) k (enc8 done) rfl (own_alloc I.out.2.1 _) (some ⟨wr.heap.size, 0, none⟩) 1 1 (enc8 [q]) rfl rfl (reads_built wr 5 (enc8 [q])) (enc8_one _) (by simp only [maxLen]; omega) (by omega) (by have := I.out.1.size; simp; omega) ?_; intro v2 w2 o2 g2 p2; rw [← enc8_append] at o2; obtain ⟨g5, cap5, e5, el5, F5⟩ := own_fill o2 (below_grown (I.out.1.alloc I.out.1.size _) (by have := I.out.1.size; simp; omega) (own_alloc I.out.2.1 _) g2) (by omega); subst e5; have Z := AsideA.mk F5; have Y := AsideA.mk el5; clear o2 g2 p2 F5 el5))
        | (go_at_call 34; go_loud (refine (xclip g5 (k + 1) cap5 ?hcap _).mono ?_; (case hcap => have := Z.out.room; have := Y.out; omega); rintro e w4 ⟨rfl, h5⟩; have Z4 := AsideA.mk (Z.out.later h5); clear h5)))
      go_ret
      have e1 : numL n = done ++ [q] := by rw [I.out.2.2.1, S.out]
      rw [e1, Y.out]
      exact ⟨g5, cap5, rfl, Z4.out⟩
end Go.Proofs.YtccmeiflahnleaaDoor.A

