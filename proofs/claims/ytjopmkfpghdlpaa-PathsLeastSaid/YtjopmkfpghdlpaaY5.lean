/-
  The law PathsLeast, its walk: inputs that are no graph, or no two parties.
-/
import Derived.Test.YtjopmkfpghdlpaaY4
import Derived.Test.YtjopmkfpghdlpaaX7
namespace Go.Proofs.Ytjopmkfpghdlpaa.A
set_option linter.unusedVariables false
set_option linter.unusedSimpArgs false
open Go.RowKit

set_option maxRecDepth 100000 in
theorem least_many (A : Option Addr) (n c f t : Nat) (w : World) (hn : 300 < n) : Calls Try.prog 6 #[.slice A n c, .int .u8 (f : Int), .int .u8 (t : Int)] w fun e w' => e = .returned (.bool true) ∧ Below w.heap.size w w' := by
  have L := AsideA.mk (lives06 w)
  have d : decide ((300 : Int) < (n : Int)) = true := decide_eq_true (by omega)
  clear hn
  go_enter Try.func6, Try.ntmps6
  go_wp2_with (go_at_call 18; refine L.out.mono ?_; rintro e w' ⟨rfl, hb⟩; have BN := AsideA.mk hb; clear hb)
  go_ret
  exact ⟨rfl, BN.out⟩

theorem short_nil {f t : Nat} {P : List Nat} (h : ShortIs (List.replicate 289 0) f t P) : P = [] := by
  rcases h with ⟨hf, _, hne, D, hD, h⟩ | ⟨_, h⟩
  · rcases h with ⟨_, h⟩ | ⟨h, _⟩
    · exact h
    · exfalso
      have kf : 1 ≤ f ∧ f ≤ 16 := of_decide_eq_true hf
      obtain ⟨q, _, _, hE, _, _⟩ := hD.back f kf.1 kf.2 hne h
      unfold Edg capF at hE
      have : gi (List.replicate 289 0) (f * 17 + q) = 0 := by
        unfold gi
        simp only [List.getD_eq_getElem?_getD, List.getElem?_replicate]
        split <;> rfl
      rw [this] at hE
      split at hE <;> omega
  · exact h

set_option maxHeartbeats 8000000 in
set_option maxRecDepth 100000 in
/-- no graph, or no two parties: there is no way -/
theorem least_none (A : Option Addr) (c f t : Nat) (fs : List Fl) (w : World) (F : Flows w A fs) (hn : fs.length ≤ 300) (hbad : newOk fs = false ∨ ¬ (okp f = true ∧ okp t = true ∧ f ≠ t)) :
    Calls Try.prog 6 #[.slice A fs.length c, .int .u8 (f : Int), .int .u8 (t : Int)] w fun e w' => e = .returned (.bool true) ∧ Below w.heap.size w w' := by
  have CN := AsideA.mk (xnew A c fs w F)
  have LV := AsideA.mk lives06
  obtain ⟨len, hl⟩ : ∃ len, len = fs.length := ⟨_, rfl⟩
  rw [← hl] at hn CN ⊢
  have d0 : decide ((300 : Int) < (len : Int)) = false := decide_eq_false (by omega)
  have hlen : (len : Int) ≤ 300 := by omega
  have HBAD := AsideA.mk hbad
  have HOKP := AsideA.mk (fun p => show okp p = decide (1 ≤ p ∧ p ≤ 16) from rfl)
  clear hl F hn hbad
  go_enter Try.func6, Try.ntmps6
  go_wp2_with fail
  refine CN.out.mono ?_
  rintro e w1 ⟨G, r, rfl, hb, h⟩
  rcases h with ⟨hok, rfl, g, rfl, hge, hg⟩ | ⟨hno, rfl, rfl⟩
  · have GR := AsideA.mk (show GrAt w1 (some ⟨g, 0, none⟩) (cpF fs) from ⟨cpF_len fs, .inr ⟨g, rfl, hg⟩⟩)
    have B1 := AsideA.mk hb
    have NO : AsideA (¬ (okp f = true ∧ okp t = true ∧ f ≠ t)) := ⟨by rcases HBAD.out with h | h; rw [h] at hok; cases hok; exact h⟩
    have CS := AsideA.mk (short_none (some ⟨g, 0, none⟩) f t w1 NO.out)
    clear hb hok hge hg CN
    by_cases h1 : f = t
    · subst h1
      go_wp2_with fail
      refine CS.out.mono ?_
      rintro e w' ⟨rfl, rfl⟩
      go_wp2_with (go_at_call 18; refine (LV.out _).mono ?_; rintro e w' ⟨rfl, hb⟩; have BN := AsideA.mk (below_call B1.out hb); clear hb)
      go_ret
      exact ⟨rfl, BN.out⟩
    have d1 : ((f : Int) == (t : Int)) = false := beq_eq_false_iff_ne.mpr (by omega)
    by_cases h2 : f < 1
    · have d2 : decide ((f : Int) < 1) = true := decide_eq_true (by omega)
      go_wp2_with fail
      refine CS.out.mono ?_
      rintro e w' ⟨rfl, rfl⟩
      go_wp2_with (go_at_call 18; refine (LV.out _).mono ?_; rintro e w' ⟨rfl, hb⟩; have BN := AsideA.mk (below_call B1.out hb); clear hb)
      go_ret
      exact ⟨rfl, BN.out⟩
    have d2 : decide ((f : Int) < 1) = false := decide_eq_false (by omega)
    by_cases h3 : 16 < f
    · have d3 : decide ((16 : Int) < (f : Int)) = true := decide_eq_true (by omega)
      go_wp2_with fail
      refine CS.out.mono ?_
      rintro e w' ⟨rfl, rfl⟩
      go_wp2_with (go_at_call 18; refine (LV.out _).mono ?_; rintro e w' ⟨rfl, hb⟩; have BN := AsideA.mk (below_call B1.out hb); clear hb)
      go_ret
      exact ⟨rfl, BN.out⟩
    have d3 : decide ((16 : Int) < (f : Int)) = false := decide_eq_false (by omega)
    by_cases h4 : t < 1
    · have d4 : decide ((t : Int) < 1) = true := decide_eq_true (by omega)
      go_wp2_with fail
      refine CS.out.mono ?_
      rintro e w' ⟨rfl, rfl⟩
      go_wp2_with (go_at_call 18; refine (LV.out _).mono ?_; rintro e w' ⟨rfl, hb⟩; have BN := AsideA.mk (below_call B1.out hb); clear hb)
      go_ret
      exact ⟨rfl, BN.out⟩
    have d4 : decide ((t : Int) < 1) = false := decide_eq_false (by omega)
    by_cases h5 : 16 < t
    · have d5 : decide ((16 : Int) < (t : Int)) = true := decide_eq_true (by omega)
      go_wp2_with fail
      refine CS.out.mono ?_
      rintro e w' ⟨rfl, rfl⟩
      go_wp2_with (go_at_call 18; refine (LV.out _).mono ?_; rintro e w' ⟨rfl, hb⟩; have BN := AsideA.mk (below_call B1.out hb); clear hb)
      go_ret
      exact ⟨rfl, BN.out⟩
    exact absurd ⟨by rw [HOKP.out]; exact decide_eq_true (by omega), by rw [HOKP.out]; exact decide_eq_true (by omega), h1⟩ NO.out
  · have GR := AsideA.mk (show GrAt w1 none (List.replicate 289 0) from ⟨by simp, .inl ⟨rfl, rfl⟩⟩)
    have B1 := AsideA.mk hb
    have CS := AsideA.mk (xshort none _ f t w1 GR.out)
    clear hb hno CN
    go_wp2_with fail
    refine CS.out.mono ?_
    rintro e w2 ⟨B, n, cap, P, rfl, hp, hs⟩
    have e0 := short_nil hs
    subst e0
    have hn0 : n = 0 := hp.num
    subst hn0
    have B2 := AsideA.mk (below_call B1.out hp.below)
    clear hp hs CS
    go_wp2_with (go_at_call 18; refine (LV.out _).mono ?_; rintro e w' ⟨rfl, hb⟩; have BN := AsideA.mk (below_call B2.out hb); clear hb)
    go_ret
    exact ⟨rfl, BN.out⟩
end Go.Proofs.Ytjopmkfpghdlpaa.A

