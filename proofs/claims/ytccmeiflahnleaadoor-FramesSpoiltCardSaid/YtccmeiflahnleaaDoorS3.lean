/-
  slices.Grow of nothing, for bytes.
-/
import Derived.Test.YtccmeiflahnleaaDoorS2
import Derived.Lib.AppendZeros
namespace Go.Proofs.YtccmeiflahnleaaDoor.A
set_option linter.unusedVariables false
set_option linter.unusedSimpArgs false
open Go.RowKit

theorem info5 : ∃ i, Tryd.prog.info? 5 = some i ∧ i.zero = some (.int .u8 0) ∧ i.size = 1 ∧ i.bytes = 1 := by
  have h : (Tryd.prog.info? 5).map (fun i => (i.zero, i.size, i.bytes)) = some (some (.int .u8 0), 1, 1) := by kernel_rfl
  obtain ⟨i, hi, hq⟩ := Option.map_eq_some_iff.1 h
  simp only [Prod.mk.injEq] at hq
  exact ⟨i, hi, hq.1, hq.2.1, hq.2.2⟩

theorem zeros_new {ops : Array Oper} {Q : Exit → Act → World → Prop} {rest : List Oper} {o : Oper} {a : Act} {W : World} (s x : Operand) (tn : TypeId) (kn : IntKind) (htn : Tryd.prog.underlying tn = some (.int kn))
    (ho : o.op = .call { callee := .builtin .append, args := #[s, x], argTypes := #[22, tn] }) (hgd : o.guard = none) (hs : a.eval s = .slice none 0 0) (k : IntKind) (n : Nat) (N : Int) (hN : N = n) (hx : a.eval x = .int k N) (h0 : 0 < n) (hn : (n : Int) ≤ 1099511627776)
    (h : ∀ g w1 cap cs, n ≤ cap → cs.size = cap → New W w1 g cs 5 → wpList Tryd.prog ops Q rest (a.put o.dst (.slice (some ⟨g, 0, none⟩) n cap)) w1) : wpList Tryd.prog ops Q (o :: rest) a W := by
  subst hN
  obtain ⟨i, hi, hz, hsz, hby⟩ := info5
  have hr := Lib.run_append_nil_zeros (P := Tryd.prog) W 22 tn o.type 5 i (.int .u8 0) k kn Tryd.underlying22 htn hi hz n h0 (by omega) (by omega) (by rw [hby]; omega)
  refine Lib.wpList_append_run W hgd s x 22 tn ho _ _ hs hx _ _ hr (h _ _ _ _ (grownCap_ge W n 0 5) ?_ ⟨rfl, by simp, heap_alloc_new _ _, (Below.refl W.heap.size W).drew.alloc (Nat.le_refl _) _⟩)
  have := grownCap_ge W n 0 5
  rw [Array.size_append, size_zeroCells, size_zeroCells]
  show n * 1 + (grownCap W n 0 5 - n) * 1 = _
  omega

set_option maxHeartbeats 1000000 in
set_option maxRecDepth 100000 in
theorem xgrow (n : Nat) (h0 : 0 < n) (hn : (n : Int) ≤ 1099511627776) (w : World) : Calls Tryd.prog 48 #[.slice none 0 0, .int .i64 (n : Int)] w fun e w' => ∃ g cap cs, e = .returned (.slice (some ⟨g, 0, none⟩) 0 cap) ∧ n ≤ cap ∧ cs.size = cap ∧ New w w' g cs 5 := by
  have d1 : decide ((n : Int) < 0) = false := decide_eq_false (by omega)
  have d2 : decide ((n : Int) ≤ 0) = false := decide_eq_false (by omega)
  have d3 : decide (0 < (n : Int)) = true := decide_eq_true (by omega)
  go_enter Tryd.func48, Tryd.ntmps48
  go_wp2_with ((with_reducible refine gate (N := 22) rfl ?_); refine zeros_new (.tmp 20) (.tmp 21) 3 _ Tryd.underlying3 rfl rfl rfl _ n _ ?hN rfl h0 hn ?_; (case hN => first | rfl | omega | go_num); intro g w1 cap cs hcap hcs N1)
  go_ret
  exact ⟨g, cap, cs, rfl, hcap, hcs, N1⟩
end Go.Proofs.YtccmeiflahnleaaDoor.A
