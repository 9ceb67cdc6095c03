/-
  The reference's Short, where there is a way.
-/
import Derived.Test.YtjopmkfpghdlpaaN6
namespace Go.Proofs.Ytjopmkfpghdlpaa.A
set_option linter.unusedVariables false
set_option linter.unusedSimpArgs false
open Go.RowKit

structure ShAt (w wr : World) (v : Value) (n : Nat) (P : List Nat) : Prop where
  own : wr.ownsRow w.heap.size 30 1 v n (enc8 P)
  below : Below w.heap.size w wr
theorem ShAt.later {w wr w1 : World} {n : Nat} {P : List Nat} {v : Value} (h : ShAt w wr v n P) (k : Below wr.heap.size wr w1) : ShAt w w1 v n P := ⟨own_below h.own k, below_call h.below k⟩
theorem ShAt.push {w wr W w6 : World} {n k x : Nat} {P : List Nat} {v v2 : Value} (h : ShAt w wr v n P) (b : Below wr.heap.size wr W) (o : w6.ownsRow w.heap.size 30 1 v2 k (enc8 P ++ [.int .u8 (x : Int)])) (g6 : W.grownBy w6 v.ownBlock) : ShAt w w6 v2 k (P ++ [x]) := by
  have h' := h.later b
  exact ⟨by rw [enc8_append]; exact o, below_grown h'.below h'.below.size h'.own g6⟩
theorem ShAt.num {w wr : World} {n : Nat} {P : List Nat} {v : Value} (h : ShAt w wr v n P) : n = P.length := by
  have := h.own.1
  rw [enc8_len] at this
  omega

set_option maxHeartbeats 16000000 in
set_option maxRecDepth 100000 in
theorem rshort_some (g : Nat) (cp D : List Int) (f t : Nat) (w : World) (H : RgAt w g (flo cp ps16)) (hp : ∀ i, 0 ≤ gi cp i) (hD : Hops (Edg cp) t D) (hf1 : 1 ≤ f) (hf2 : f ≤ 16) (ht1 : 1 ≤ t) (ht2 : t ≤ 16) (hne : f ≠ t) (h17 : gi D f ≠ 17) :
    Calls Try.prog 27 #[.pointer (some ⟨g, 0, none⟩), .int .u8 (f : Int), .int .u8 (t : Int)] w fun e w' => ∃ B n c P, e = .returned (.slice B n c) ∧ ShAt w w' (.slice B n c) n P ∧ Way (Edg cp) D f P ∧ (P.length : Int) = gi D f + 1 ∧ gn P (P.length - 1) = t := by
  have d0 : decide ((f : Int) < 1) = false := decide_eq_false (by omega)
  have d1 : decide ((16 : Int) < (f : Int)) = false := decide_eq_false (by omega)
  have d2 : decide ((t : Int) < 1) = false := decide_eq_false (by omega)
  have d3 : decide ((16 : Int) < (t : Int)) = false := decide_eq_false (by omega)
  have d4 : ((f : Int) == (t : Int)) = false := beq_eq_false_iff_ne.mpr (by omega)
  have HT := tells_flo cp
  have KN := AsideA.mk (fun (x n : Nat) (hx : 1 ≤ x ∧ x ≤ 16) (hn : n ≤ 16) (wz : World) => show (Instr.index 83 (.agg (toldV (reachF (flo cp ps16) x n))) (.int .u8 (t : Int))).run Try.prog wz = .ok (.bool (decide (gi D x ≤ n))) wz from by
    refine run_idx83 _ t (by omega) _ ?_ wz
    rw [toldV_at _ t (by rw [reach_len]; omega)]
    congr 2
    rw [Bool.eq_iff_iff, decide_eq_true_iff]
    exact reach_hops HT hD ht1 ht2 n x hx.1 hx.2 hn)
  have CR := AsideA.mk (fun (x n : Nat) (hx : 1 ≤ x ∧ x ≤ 16) (hn : n ≤ 16) (wz : World) (b : Below w.heap.size w wz) => ref_reach g (flo cp ps16) x n wz (H.below b) (fun e he => by have := HT.1 e he; omega) (by omega) hn)
  have CC := AsideA.mk (fun (x y : Nat) (hx : 1 ≤ x ∧ x ≤ 16) (hy : 1 ≤ y ∧ y ≤ 16) (wz : World) (b : Below w.heap.size w wz) => show Calls Try.prog 56 #[.pointer (some ⟨g, 0, none⟩), .int .u8 (x : Int), .int .u8 (y : Int)] wz fun e w' => e = .returned (.int .i64 (capF cp x y)) ∧ wz = w' from by
    have h := ref_cap g (flo cp ps16) x y wz (H.below b)
    rw [find_flo hx.1 hx.2 hy.1 hy.2 (hp _)] at h
    unfold capF okp
    rw [if_pos (by simp; omega)]
    exact h)
  have HD := AsideA.mk hD
  have rf := hD.rng f hf1 hf2
  have kf : decide (gi D f ≤ ((16 : Nat) : Int)) = true := decide_eq_true (by omega)
  have kn := KN.out f 16 ⟨hf1, hf2⟩ (Nat.le_refl 16)
  rw [kf] at kn
  have CR0 := AsideA.mk (CR.out f 16 ⟨hf1, hf2⟩ (Nat.le_refl 16) w (Below.refl _ _))
  have W0 := AsideA.mk (Way.start (Edg cp) D f hf1 hf2 rf.1)
  have RF := AsideA.mk (show 0 ≤ gi D f ∧ gi D f ≤ 15 by omega)
  have RT := AsideA.mk (And.intro ht1 ht2)
  have R0 := AsideA.mk (And.intro hf1 hf2)
  clear HT H hD hp rf h17 kf hne
  generalize toldV (reachF (flo cp ps16) f 16) = V0 at *
  go_enter Try.func27, Try.ntmps27
  go_wp2_with (go_at_call 55; refine CR0.out.mono ?_; rintro e w1 ⟨rfl, hb⟩; have B1 := AsideA.mk hb; clear hb)
  clear kn d0 d1 d2 d3 d4
  have S0 : AsideA (ShAt w (w1.alloc (.cells #[.int .u8 (f : Int)] 30)) (.slice (some ⟨w1.heap.size, 0, none⟩) 1 1) 1 [f]) := ⟨⟨⟨rfl, .inr ⟨w1.heap.size, 1, _, rfl, B1.out.size, heap_alloc_new w1 _, Nat.le_refl _, by simp [maxLen], rfl, rfl⟩⟩, B1.out.alloc B1.out.size _⟩⟩
  go_loopw [1, 7] (fun fv pv wr => ∃ (P : List Nat) (A : Option Addr) (m c cur : Nat), fv = .int .u8 (cur : Int) ∧ pv = .slice A m c ∧ 1 ≤ cur ∧ cur ≤ 16 ∧ m ≤ 16 ∧ AsideA (ShAt w wr pv m P ∧ Way (Edg cp) D f P ∧ gn P (P.length - 1) = cur)) (fun _ pv _ => 17 - lenOfS pv)
  case atStart => exact ⟨[f], _, 1, 1, f, rfl, rfl, R0.out.1, R0.out.2, by omega, ⟨S0.out, W0.out, rfl⟩⟩
  case round =>
    clear S0 W0 B1
    obtain ⟨P, A, m, c, cur, rfl, rfl, hc1, hc2, hm, I⟩ := hrel
    by_cases hct : cur = t
    · have dct : ((cur : Int) == (t : Int)) = true := beq_iff_eq.mpr (by omega)
      have FIN : AsideA ((P.length : Int) = gi D f + 1 ∧ gn P (P.length - 1) = t) := ⟨by
        have h1 := I.out.2.1.dist (P.length - 1) (by have := I.out.2.1.pos; omega)
        rw [I.out.2.2, hct, HD.out.zero] at h1
        have := I.out.2.1.pos
        omega, by rw [I.out.2.2, hct]⟩
      clear hct
      go_wp2
      go_ret
      exact ⟨A, m, c, P, rfl, I.out.1, I.out.2.1, FIN.out.1, FIN.out.2⟩
    · have dct : ((cur : Int) == (t : Int)) = false := beq_eq_false_iff_ne.mpr (by omega)
      have dne2 : ((cur : Int) != (t : Int)) = true := by rw [bne, dct]; rfl
      have hpos : gi D cur ≠ 0 := fun e => hct (HD.out.pos hc1 hc2 e)
      have hdist := I.out.2.1.dist (P.length - 1) (by have := I.out.2.1.pos; omega)
      rw [I.out.2.2] at hdist
      have hmP := I.out.1.num
      have hrc := HD.out.rng cur hc1 hc2
      have hpp := I.out.2.1.pos
      obtain ⟨d, hd⟩ : ∃ d : Nat, gi D cur = ((d + 1 : Nat) : Int) := ⟨(gi D cur).toNat - 1, by omega⟩
      have hd14 : d ≤ 14 := by have := RF.out; omega
      have hm15 : m ≤ 15 := by have := RF.out; omega
      have HDC := AsideA.mk hd
      have KC := AsideA.mk (fun (n : Nat) (hn : n ≤ 16) (wz : World) => show (Instr.index 83 (.agg (toldV (reachF (flo cp ps16) cur n))) (.int .u8 (t : Int))).run Try.prog wz = .ok (.bool (decide (d + 1 ≤ n))) wz from by
        have h := KN.out cur n ⟨hc1, hc2⟩ hn wz
        rw [hd] at h
        rw [h]
        congr 2
        rw [Bool.eq_iff_iff, decide_eq_true_iff, decide_eq_true_iff]
        omega)
      have BK : AsideA (∃ q, 1 ≤ q ∧ q ≤ 16 ∧ Edg cp cur q ∧ gi D q = d) := ⟨by
        obtain ⟨q, q1, q2, hE, _, e⟩ := HD.out.back cur hc1 hc2 hct (by omega)
        exact ⟨q, q1, q2, hE, by omega⟩⟩
      have IW := AsideA.mk (And.intro I.out.2.1 I.out.2.2)
      have I1 : AsideA (ShAt w wr (.slice A m c) m P) := ⟨I.out.1⟩
      have RC := AsideA.mk (And.intro hc1 hc2)
      clear hpos hdist hmP hrc hpp hd hct I hm
      go_wp2_with fail
      go_loopw [8] (fun nv wz => ∃ n : Nat, n ≤ d + 1 ∧ nv = .int .i64 (n : Int) ∧ AsideA (ShAt w wz (.slice A m c) m P)) (fun nv _ => d + 1 - (intOf nv).toNat)
      case atStart => exact ⟨0, by omega, rfl, I1⟩
      case round =>
        clear I1
        obtain ⟨n, hn, rfl, J⟩ := hrel
        have CN := AsideA.mk (CR.out cur n RC.out (by omega) _ J.out.below)
        have kn := KC.out n (by omega)
        by_cases hnd : n = d + 1
        · have dk : decide (d + 1 ≤ n) = true := decide_eq_true (by omega)
          rw [dk] at kn
          generalize toldV (reachF (flo cp ps16) cur n) = V1 at *
          subst hnd
          clear dk
          go_wp2_with (go_at_call 55; refine CN.out.mono ?_; rintro e w2 ⟨rfl, hb⟩; have J2 := AsideA.mk (J.out.later hb); clear hb)
          clear kn CN
          go_loopw [1, 9] (fun fv vv wz => ∃ v : Nat, fv = .int .u8 (cur : Int) ∧ vv = .int .u8 (v : Int) ∧ 1 ≤ v ∧ v ≤ 17 ∧ AsideA (ShAt w wz (.slice A m c) m P ∧ ∀ q, 1 ≤ q → q < v → gi D q = d → ¬ Edg cp cur q)) (fun _ vv _ => 17 - (intOf vv).toNat)
          case atStart => exact ⟨1, rfl, rfl, by omega, by omega, ⟨J2.out, fun q h1 h2 => by omega⟩⟩
          case round =>
            clear J J2
            obtain ⟨v, rfl, rfl, hv1, hv2, J⟩ := hrel
            by_cases hv17 : v = 17
            · obtain ⟨q, q1, q2, hE, e⟩ := BK.out
              exact absurd hE (J.out.2 q q1 (by omega) e)
            · have dv : decide ((v : Int) ≤ 16) = true := decide_eq_true (by omega)
              have CV := AsideA.mk (CC.out cur v RC.out ⟨hv1, by omega⟩ _ J.out.1.below)
              have RV := AsideA.mk (show 1 ≤ v ∧ v ≤ 16 by omega)
              by_cases hE : 0 < capF cp cur v
              · have dE : decide (0 < capF cp cur v) = true := decide_eq_true hE
                have CRV := AsideA.mk (CR.out v d RV.out (by omega) _ J.out.1.below)
                have knv := KN.out v d RV.out (by omega)
                have stp := HD.out.step cur v RC.out.1 RC.out.2 RV.out.1 RV.out.2 hE
                have hEE := AsideA.mk (show Edg cp cur v from hE)
                rw [HDC.out] at stp
                clear hE
                generalize toldV (reachF (flo cp ps16) v d) = V2 at *
                generalize capF cp cur v = cv at *
                by_cases hdv : gi D v = d
                · have kd : decide (gi D v ≤ (d : Int)) = true := decide_eq_true (by omega)
                  rw [kd] at knv
                  have WN := AsideA.mk (IW.out.1.push RV.out.1 RV.out.2 (by rw [IW.out.2, HDC.out, hdv]; omega) (by omega) (by rw [IW.out.2]; exact hEE.out) (by
                    rw [IW.out.2, HDC.out]
                    intro q q1 q2 hq
                    exact J.out.2 q q1 q2 (by omega)))
                  clear kd stp hdv hv17
                  go_wp2_with (first
                    | (go_at_call 56; refine CV.out.mono ?_; rintro e w' ⟨rfl, rfl⟩)
                    | (go_at_call 55; refine CRV.out.mono ?_; rintro e w3 ⟨rfl, hb⟩; have J3 := AsideA.mk (J.out.1.later hb); clear hb)
                    | ((with_reducible refine gate (N := 73) rfl ?_); go_loud (refine append_own _ 36 _ _ rfl rfl w.heap.size 30 _ 1 1 Try.underlying36 info30 rfl (by decide) (.slice A m c) m (enc8 P) rfl (own_alloc J3.out.own _) (some ⟨w3.heap.size, 0, none⟩) 1 1 [.int .u8 (v : Int)] rfl rfl (reads_built w3 30 [.int .u8 (v : Int)]) (by simp [Value.oneCell']) (by simp only [maxLen]; omega) (by omega) (Nat.le_trans J3.out.below.size ((Below.refl w3.heap.size w3).alloc (Nat.le_refl _) _).size) ?_); intro v6 w6 o6 g6 p6; obtain ⟨A6, c6, e6⟩ := own_form o6; subst e6; have S6 := AsideA.mk (J3.out.push ((Below.refl _ _).alloc (Nat.le_refl _) _) o6 g6); clear o6 g6 p6))
                  exact ⟨⟨P ++ [v], _, m + 1, _, v, rfl, rfl, RV.out.1, RV.out.2, by omega, ⟨S6.out, WN.out, by rw [List.length_append]; exact gn_append_last P v⟩⟩, by simp [lenOfS]; omega⟩
                · have kd : decide (gi D v ≤ (d : Int)) = false := decide_eq_false (by
                    intro h
                    by_cases h7 : gi D v = 17
                    · omega
                    · have := stp h7
                      omega)
                  rw [kd] at knv
                  have NX : AsideA (∀ q, 1 ≤ q → q < v + 1 → gi D q = d → ¬ Edg cp cur q) := ⟨fun q q1 q2 hq => by
                    by_cases e : q = v
                    · subst e
                      exact absurd hq hdv
                    · exact J.out.2 q q1 (by omega) hq⟩
                  clear kd stp hdv
                  go_wp2_with (first
                    | (go_at_call 56; refine CV.out.mono ?_; rintro e w' ⟨rfl, rfl⟩)
                    | (go_at_call 55; refine CRV.out.mono ?_; rintro e w3 ⟨rfl, hb⟩; have J3 := AsideA.mk (J.out.1.later hb); clear hb))
                  exact ⟨⟨v + 1, rfl, by go_num, by omega, by omega, ⟨J3.out, NX.out⟩⟩, by simp [intOf]; omega⟩
              · have dE : decide (0 < capF cp cur v) = false := decide_eq_false hE
                have NX : AsideA (∀ q, 1 ≤ q → q < v + 1 → gi D q = d → ¬ Edg cp cur q) := ⟨fun q q1 q2 hq => by
                  by_cases e : q = v
                  · subst e
                    exact hE
                  · exact J.out.2 q q1 (by omega) hq⟩
                clear hE
                generalize capF cp cur v = cv at *
                go_wp2_with (go_at_call 56; refine CV.out.mono ?_; rintro e w' ⟨rfl, rfl⟩)
                exact ⟨⟨v + 1, rfl, by go_num, by omega, by omega, ⟨J.out.1, NX.out⟩⟩, by simp [intOf]; omega⟩
        · have dk : decide (d + 1 ≤ n) = false := decide_eq_false (by omega)
          rw [dk] at kn
          generalize toldV (reachF (flo cp ps16) cur n) = V1 at *
          clear dk
          go_wp2_with (go_at_call 55; refine CN.out.mono ?_; rintro e w2 ⟨rfl, hb⟩; have J2 := AsideA.mk (J.out.later hb); clear hb)
          exact ⟨⟨n + 1, by omega, by go_num, J2⟩, by simp [intOf]; omega⟩
end Go.Proofs.Ytjopmkfpghdlpaa.A

