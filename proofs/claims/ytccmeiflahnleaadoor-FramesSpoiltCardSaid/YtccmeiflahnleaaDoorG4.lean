/-
  countinghouseref18.Put.
-/
import Derived.Test.YtccmeiflahnleaaDoorG3
namespace Go.Proofs.YtccmeiflahnleaaDoor.A
set_option linter.unusedVariables false
set_option linter.unusedSimpArgs false
open Go.RowKit

set_option maxHeartbeats 4000000 in
set_option maxRecDepth 100000 in
theorem ref_frame_walk (A B : Option Addr) (c d na nb nh nq nf : Nat) (nl bs body fr : List Nat) (w : World) (RA : AsideA (Bytes w A bs)) (RB : AsideA (Bytes w B body)) (h2 : nb ≤ 8192) (h1 : na ≤ 30000) (h3 : nh ≤ 10) (h4 : nf ≤ 9000)
    (C42 : AsideA (Calls Tryd.prog 42 #[.slice none 0 0, .int .u64 (nb : Int)] w fun e w' => ∃ A1 k c1, e = .returned (.slice A1 k c1) ∧ k = nh ∧ w'.ownsRow w.heap.size 5 1 (.slice A1 k c1) k (enc8 nl) ∧ Below w.heap.size w w')) (S1 : AsideA ((∀ b ∈ nl ++ body, b < 256) ∧ (nl ++ body).length ≤ 100000 ∧ (enc8 body).length = nb * 1 ∧ (enc8 bs).length = na * 1 ∧ (enc8 fr).length = nf * 1 ∧ (∀ b ∈ fr, b < 256) ∧ fr.length ≤ 100000))
    (C17 : AsideA (∀ wz A2 c2, Bytes wz A2 (nl ++ body) → Calls Tryd.prog 17 #[.slice A2 (nh + nb) c2] wz fun e w' => ∃ g' cap', e = .returned (.slice (some ⟨g', 0, none⟩) nf cap') ∧ Fill wz w' g' cap' fr)) :
    Calls Tryd.prog 25 #[.slice A na c, .slice B nb d] w fun e w' => ∃ A9 c9, e = .returned (.tuple #[.slice A9 (na + nf) c9, .int .i64 0]) ∧ Reads w' A9 (enc8 (bs ++ fr)) ∧ Below w.heap.size w w' := by
  have BB := AsideA.mk (Below.refl w.heap.size w)
  go_enter Tryd.func25, Tryd.ntmps25
  go_wp2_with (first
    | (go_at_call 42; go_loud (refine C42.out.mono ?_; rintro e w1 ⟨A1, k1, c1, rfl, hk, o1, b1⟩; subst hk; have O1 := AsideA.mk o1; have B1 := AsideA.mk b1; clear o1 b1 C42))
    | ((with_reducible refine gate (N := 15) rfl ?_); go_loud (refine append_own _ 22 _ _ rfl rfl w.heap.size 5 _ 1 1 Tryd.underlying22 info5z rfl (by decide) (.slice A1 k1 c1) k1 (enc8 nl) rfl O1.out B nb d (enc8 body) rfl S1.out.2.2.1 (RB.out.reads.below B1.out) (enc8_one body) (by simp only [maxLen]; omega) (by omega) B1.out.size ?_; intro v2 w2 o2 g2 p2; obtain ⟨A2, c2, e2⟩ := own_form o2; subst e2; rw [← enc8_append] at o2; have O2 := AsideA.mk o2; have B2 := AsideA.mk (below_grown B1.out B1.out.size O1.out g2); clear o2 g2 p2))
    | ((with_reducible refine gate (N := 17) rfl ?_); go_loud (refine append_own _ 22 _ _ rfl rfl w2.heap.size 5 _ 1 1 Tryd.underlying22 info5z rfl (by decide) (.slice none 0 0) 0 [] rfl (own_nil _ _ _ _) A na c (enc8 bs) rfl S1.out.2.2.2.1 (RA.out.reads.below B2.out) (enc8_one bs) (by simp only [maxLen]; omega) (by omega) (Nat.le_refl _) ?_; intro v3 w3 o3 g3 p3; rw [Nat.zero_add] at o3; obtain ⟨A3, c3, e3⟩ := own_form o3; subst e3; have O3 := AsideA.mk o3; have B3 := AsideA.mk (below_grown (Below.refl w2.heap.size w2) (Nat.le_refl _) (own_nil _ _ 5 1) g3); clear o3 g3 p3))
    | (go_at_call 17; go_loud (refine (C17.out _ A2 c2 ⟨(own_reads O2.out).below B3.out, S1.out.1, by have := S1.out.2.1; omega⟩).mono ?_; rintro e w4 ⟨g4, k4, rfl, F⟩; have F4 := AsideA.mk F; clear F))
    | ((with_reducible refine gate (N := 20) rfl ?_); go_loud (refine append_own _ 22 _ _ rfl rfl w2.heap.size 5 _ 1 1 Tryd.underlying22 info5z rfl (by decide) (.slice A3 na c3) na ([] ++ enc8 bs) rfl (own_below O3.out F4.out.below) (some ⟨g4, 0, none⟩) nf k4 (enc8 fr) rfl S1.out.2.2.2.2.1 (F4.out.bytes_ S1.out.2.2.2.2.2.1 S1.out.2.2.2.2.2.2).reads (enc8_one fr) (by simp only [maxLen]; omega) (by omega) (below_call B3.out F4.out.below).size ?_; intro v5 w5 o5 g5 p5; obtain ⟨A5, c5, e5⟩ := own_form o5; subst e5; have O5 := AsideA.mk o5; have B5 := AsideA.mk (below_grown (below_call B3.out F4.out.below) (below_call B3.out F4.out.below).size (own_below O3.out F4.out.below) g5); clear o5 g5 p5)))
  go_ret2
  have r := own_reads O5.out
  rw [List.nil_append, ← enc8_append] at r
  exact ⟨A5, c5, rfl, r, below_call B2.out B5.out⟩

theorem ref_frame (A B : Option Addr) (c d : Nat) (bs body : List Nat) (w : World) (RA : Bytes w A bs) (RB : Bytes w B body) (h1 : bs.length ≤ 30000) (h2 : body.length ≤ 8192) : Calls Tryd.prog 25 #[.slice A bs.length c, .slice B body.length d] w fun e w' => ∃ A9 c9, e = .returned (.tuple #[.slice A9 (bs ++ frameP body).length c9, .int .i64 0]) ∧ Bytes w' A9 (bs ++ frameP body) ∧ Below w.heap.size w w' := by
  have hnl : (numL body.length).length ≤ 10 := numL_len 9 body.length (Nat.lt_of_le_of_lt h2 (by decide))
  have hfl := frameP_len body
  have hnb := numL_bytes body.length
  have hfb : ∀ b ∈ numL body.length ++ body, b < 256 := fun b hb => by
    rcases List.mem_append.1 hb with h | h
    · exact hnb b h
    · exact RB.small b h
  have hla : (numL body.length ++ body).length = (numL body.length).length + body.length := List.length_append
  have hlb : (bs ++ frameP body).length = bs.length + (frameP body).length := List.length_append
  have hfs : ∀ b ∈ frameP body, b < 256 := withSum_small hfb
  have h := ref_frame_walk A B c d bs.length body.length (numL body.length).length ((numL body.length).length + body.length) (frameP body).length (numL body.length) bs body (frameP body) w ⟨RA⟩ ⟨RB⟩ h2 h1 hnl (by omega) ⟨ref_num body.length h2 w⟩ ⟨hfb, by omega, by rw [enc8_len, Nat.mul_one], by rw [enc8_len, Nat.mul_one], by rw [enc8_len, Nat.mul_one], hfs, by omega⟩ ⟨fun wz A2 c2 F => ?_⟩
  · refine h.mono fun e w' ⟨A9, c9, he, hr, hb⟩ => ⟨A9, c9, by rw [hlb]; exact he, ⟨hr, fun b hb => ?_, by omega⟩, hb⟩
    rcases List.mem_append.1 hb with h | h
    · exact RA.small b h
    · exact hfs b h
  · have h := ref_put A2 c2 (numL body.length ++ body) wz F (by omega)
    have e : (numL body.length ++ body).length + 4 = (frameP body).length := by omega
    rw [e, hla] at h
    exact h
end Go.Proofs.YtccmeiflahnleaaDoor.A

