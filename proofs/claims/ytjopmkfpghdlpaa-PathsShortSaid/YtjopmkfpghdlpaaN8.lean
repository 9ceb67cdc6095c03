/-
  SameFlows of equal lists; Clip; Graph.Edges.
-/
import Derived.Test.YtjopmkfpghdlpaaN2
import Derived.BigQuiet
namespace Go.Proofs.Ytjopmkfpghdlpaa.A
set_option linter.unusedVariables false
set_option linter.unusedSimpArgs false
open Go.RowKit

set_option maxHeartbeats 4000000 in
set_option maxRecDepth 100000 in
theorem samef_eq (A B : Option Addr) (c d : Nat) (es : List Fl) (w : World) (FA : Flows w A es) (FB : Flows w B es) : Calls Try.prog 38 #[.slice A es.length c, .slice B es.length d] w fun e w' => e = .returned (.bool true) ∧ Below w.heap.size w w' := by
  have HA := AsideA.mk FA
  have HB := AsideA.mk FB
  have hlen := FA.len
  obtain ⟨len, hl⟩ : ∃ len, len = es.length := ⟨_, rfl⟩
  rw [← hl] at hlen ⊢
  have HL := AsideA.mk hl
  clear hl FA FB
  have I0 := AsideA.mk (Below.refl w.heap.size w)
  go_enter Try.func38, Try.ntmps38
  go_wp2_with fail
  go_loopw [5] (fun i wr => ∃ k : Nat, k ≤ len ∧ i = .int .i64 k ∧ AsideA (Below w.heap.size w wr)) (fun i _ => len - (intOf i).toNat)
  case atStart => exact ⟨0, by omega, rfl, I0⟩
  case round =>
    clear I0
    obtain ⟨k, hk, rfl, I⟩ := hrel
    by_cases hlt : k < len
    · obtain ⟨g, off, ⟨f, t, n⟩, rfl, hek, hwf, hc⟩ := (HA.out.below I.out).get k (by have := HL.out; omega)
      obtain ⟨g2, off2, ⟨f2, t2, n2⟩, rfl, hek2, hwf2, hc2⟩ := (HB.out.below I.out).get k (by have := HL.out; omega)
      rw [hek] at hek2
      cases hek2
      have e0 : wr.cell? ⟨g, off + k * 3, none⟩ = some (.int .u8 (f : Int)) := hc 0 (Nat.succ_pos 2)
      have e1 : wr.cell? ⟨g, off + k * 3 + 1, none⟩ = some (.int .u8 (t : Int)) := hc 1 (Nat.succ_lt_succ (Nat.succ_pos 1))
      have e2 : wr.cell? ⟨g, off + k * 3 + 2, none⟩ = some (.int .i64 n) := hc 2 (Nat.lt_succ_self 2)
      have f0 : wr.cell? ⟨g2, off2 + k * 3, none⟩ = some (.int .u8 (f : Int)) := hc2 0 (Nat.succ_pos 2)
      have f1 : wr.cell? ⟨g2, off2 + k * 3 + 1, none⟩ = some (.int .u8 (t : Int)) := hc2 1 (Nat.succ_lt_succ (Nat.succ_pos 1))
      have f2 : wr.cell? ⟨g2, off2 + k * 3 + 2, none⟩ = some (.int .i64 n) := hc2 2 (Nat.lt_succ_self 2)
      clear hek hwf hc hwf2 hc2
      have hi0 : (0 : Int) ≤ (k : Int) := Int.natCast_nonneg _
      have hi1 : (k : Int) < (len : Int) := by omega
      go_wp2
      go_quiet (fail)
      go_wp2
      exact ⟨⟨k + 1, by omega, by go_num, ⟨below_call I.out (below_drewN _ _)⟩⟩, by simp [intOf]; omega⟩
    · have hkl : len = k := by omega
      subst hkl
      clear hlt
      go_wp2
      go_ret
      exact ⟨rfl, I.out⟩
theorem same_flows (A B : Option Addr) (c d : Nat) (es : List Fl) (w : World) (FA : Flows w A es) (FB : Flows w B es) : Calls Try.prog 14 #[.slice A es.length c, .slice B es.length d] w fun e w' => e = .returned (.bool true) ∧ Below w.heap.size w w' := by
  have S := AsideA.mk (samef_eq A B c d es w FA FB)
  clear FA FB
  generalize es.length = n at *
  go_enter Try.func14, Try.ntmps14
  go_wp2_with (go_at_call 38; refine S.out.mono ?_; rintro e w' ⟨rfl, hb⟩; have BB := AsideA.mk hb; clear hb)
  go_ret
  exact ⟨rfl, BB.out⟩
theorem xclip (A : Option Addr) (n c : Nat) (h : n ≤ c) (hn : n ≤ 1000) (w : World) : Calls Try.prog 36 #[.slice A n c] w fun e w' => e = .returned (.slice A n n) ∧ w = w' := by
  have h1 : (n : Int) ≤ (c : Int) := by omega
  have h0 : (0 : Int) ≤ (n : Int) := by omega
  go_enter Try.func36, Try.ntmps36
  go_wp2
  go_ret
  exact ⟨rfl, rfl⟩
end Go.Proofs.Ytjopmkfpghdlpaa.A

