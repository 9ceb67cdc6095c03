/-
  The law ExactsBack, its walk.
-/
import Derived.Test.YtbeiphfmdmccmaaF1
namespace Go.Proofs.Ytbeiphfmdmccmaa.A
set_option linter.unusedVariables false
set_option linter.unusedSimpArgs false
open Go.RowKit

/-- a call of Sum over what lies in a slice -/
abbrev GivesL (xs : List Int) (n : Nat) (r : Int × Int) : Prop := ∀ (c : Nat) (A : Option Addr) (w : World), Rd w A xs → Calls Try.prog 23 #[.slice A n c] w fun e w' => e = .returned (.tuple #[.int .i64 r.1, .int .i64 r.2]) ∧ Below w.heap.size w w'

set_option maxHeartbeats 4000000 in
set_option maxRecDepth 100000 in
theorem law_back_core (a b s e d g t i u j : Int) (ha : in64 a) (hb : in64 b) (w : World)
    (A1 : AsideA (Gives2 14 #[.int .i64 a, .int .i64 b] (s, e))) (A2 : AsideA (e = 0 → Gives2 17 #[.int .i64 s, .int .i64 b] (a, 0)))
    (A3 : AsideA (Gives2 17 #[.int .i64 a, .int .i64 b] (d, g))) (A4 : AsideA (g = 0 → Gives2 14 #[.int .i64 d, .int .i64 b] (a, 0)))
    (A5 : AsideA (Gives2 19 #[.int .i64 a, .int .i64 1] (a, 0))) (A6 : AsideA (GivesL [a, b, a, b] 4 (t, i))) (A7 : AsideA (Gives2 19 #[.int .i64 s, .int .i64 2] (u, j)))
    (E1 : AsideA (e = 0 → t = u ∧ i = j)) (E2 : e = 0 ∨ (e = 10 ∧ s = 0)) (E3 : g = 0 ∨ (g = 10 ∧ d = 0)) :
    Calls Try.prog 6 #[.int .i64 a, .int .i64 b] w fun e w' => e = .returned (.bool true) ∧ Below w.heap.size w w' := by
  have W4 : AsideA (∀ x ∈ [a, b, a, b], in64 x) := by
    refine ⟨?_⟩
    intro x hx
    have h : x = a ∨ x = b := by
      simp at hx
      omega
    rcases h with h | h
    · rw [h]; exact ha
    · rw [h]; exact hb
  have L4 : AsideA ([a, b, a, b].length ≤ 1099511627776) := ⟨by show 4 ≤ 1099511627776; decide⟩
  clear ha hb
  have BB := AsideA.mk (Below.refl w.heap.size w)
  rcases E2 with rfl | ⟨rfl, rfl⟩ <;> rcases E3 with rfl | ⟨rfl, rfl⟩
  all_goals
    first
    | (have A2' := AsideA.mk (A2.out rfl)
       obtain ⟨rfl, rfl⟩ := E1.out rfl)
    | skip
    try have A4' := AsideA.mk (A4.out rfl)
    go_enter Try.func6, Try.ntmps6
    go_wp2_with (first | (go_at_call 14; (first | (with_reducible refine (A1.out _).mono ?_) | (with_reducible refine (A4'.out _).mono ?_)); rintro e wq ⟨rfl, hq⟩; have BN := AsideA.mk (below_call BB.out hq); clear hq BB; have BB := BN; clear BN) | (go_at_call 17; (first | (with_reducible refine (A2'.out _).mono ?_) | (with_reducible refine (A3.out _).mono ?_)); rintro e wq ⟨rfl, hq⟩; have BN := AsideA.mk (below_call BB.out hq); clear hq BB; have BB := BN; clear BN) | (go_at_call 19; (first | (with_reducible refine (A5.out _).mono ?_) | (with_reducible refine (A7.out _).mono ?_)); rintro e wq ⟨rfl, hq⟩; have BN := AsideA.mk (below_call BB.out hq); clear hq BB; have BB := BN; clear BN) | (go_at_call 23; refine (A6.out _ _ _ (Rd.lit _ _ [a, b, a, b] W4.out L4.out)).mono ?_; rintro e wq ⟨rfl, hq⟩; have BN := AsideA.mk (below_call (BB.out.alloc BB.out.size _) hq); clear hq BB; have BB := BN; clear BN) | (go_at_call 21; refine (lives01 _).mono ?_; rintro e wq ⟨rfl, hq⟩; have BN := AsideA.mk (below_call BB.out hq); clear hq BB; have BB := BN; clear BN))
    go_ret
    exact ⟨rfl, BB.out⟩

theorem law_back (a b : Int) (ha : in64 a) (hb : in64 b) (w : World) : Calls Try.prog 6 #[.int .i64 a, .int .i64 b] w fun e w' => e = .returned (.bool true) ∧ Below w.heap.size w w' := by
  have sw : ∀ v, in64 (fit v).1 := fun v => by
    unfold fit
    split
    · assumption
    · exact ⟨by decide, by decide⟩
  have ok : ∀ v, (fit v).2 = 0 → fit v = (v, 0) ∧ in64 v := fun v h => by
    by_cases hv : in64 v
    · exact ⟨fit_in hv, hv⟩
    · rw [fit_out hv] at h; exact absurd h (by decide)
  have two : ∀ v, (fit v).2 = 0 ∨ ((fit v).2 = 10 ∧ (fit v).1 = 0) := fun v => by
    by_cases hv : in64 v
    · rw [fit_in hv]; exact .inl rfl
    · rw [fit_out hv]; exact .inr ⟨rfl, rfl⟩
  refine law_back_core a b (fit (a + b)).1 (fit (a + b)).2 (fit (a - b)).1 (fit (a - b)).2 (fit (isum [a, b, a, b])).1 (fit (isum [a, b, a, b])).2 (fit ((fit (a + b)).1 * 2)).1 (fit ((fit (a + b)).1 * 2)).2 ha hb w
    ⟨fun w => xadd a b ha hb w⟩ ⟨fun h w => ?_⟩ ⟨fun w => xsub a b ha hb w⟩ ⟨fun h w => ?_⟩ ⟨fun w => ?_⟩ ⟨fun c A w h => xsum A c _ w h⟩ ⟨fun w => xmul _ 2 (sw _) ⟨by decide, by decide⟩ w⟩ ⟨fun h => ?_⟩ (two _) (two _)
  · obtain ⟨h1, h2⟩ := ok _ h
    have h3 := xsub (a + b) b h2 hb w
    rw [show a + b - b = a by omega, fit_in ha] at h3
    rw [h1]
    exact h3
  · obtain ⟨h1, h2⟩ := ok _ h
    have h3 := xadd (a - b) b h2 hb w
    rw [show a - b + b = a by omega, fit_in ha] at h3
    rw [h1]
    exact h3
  · have h3 := xmul a 1 ha ⟨by decide, by decide⟩ w
    rw [show a * 1 = a by omega, fit_in ha] at h3
    exact h3
  · obtain ⟨h1, h2⟩ := ok _ h
    rw [h1]
    show (fit (isum [a, b, a, b])).1 = (fit ((a + b) * 2)).1 ∧ _
    rw [show isum [a, b, a, b] = (a + b) * 2 by simp only [isum]; omega]
    exact ⟨rfl, rfl⟩

theorem law_back_wf (a b : Int) (ha : (Lit.int .i64 a).wf = true) (hb : (Lit.int .i64 b).wf = true) (w : World) : Calls Try.prog 6 #[.int .i64 a, .int .i64 b] w fun e w' => e = .returned (.bool true) ∧ Below w.heap.size w w' :=
  law_back a b (in64_of ha) (in64_of hb) w
end Go.Proofs.Ytbeiphfmdmccmaa.A
