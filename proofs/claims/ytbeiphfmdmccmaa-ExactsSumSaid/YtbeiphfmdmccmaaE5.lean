/-
  The program's Sum (exacts): a number of 128 bits in two words.
-/
import Derived.Test.YtbeiphfmdmccmaaE4
import Derived.Laws.Externs
namespace Go.Proofs.Ytbeiphfmdmccmaa.A
set_option linter.unusedVariables false
set_option linter.unusedSimpArgs false
open Go.RowKit

theorem xAdd64 (x y c : Int) (hx : 0 ≤ x) (hy : 0 ≤ y) (hc0 : 0 ≤ c) (hc : c ≤ 1) (w : World) :
    (callFunc 65 #[.int .u64 x, .int .u64 y, .int .u64 c]).run Try.prog w = .ok (.value (.tuple #[.int .u64 ((x + y + c) % 18446744073709551616), .int .u64 ((x + y + c) / 18446744073709551616)])) w := by
  rw [run_callFunc_extern Try.func65 (by kernel_rfl) (by kernel_rfl) (by kernel_rfl) (e := add64Entry) (by kernel_rfl), run_add64 x y c hx hy hc0 hc]
  rfl

/-- a whole number as two words, the higher one first -/
def wd (V : Int) : Array Value := #[.int .u64 (V / 18446744073709551616 % 18446744073709551616), .int .u64 (V % 18446744073709551616)]
theorem wd_size (V : Int) : (wd V).size = 2 := rfl
theorem wd_one (V : Int) : ∀ v ∈ (wd V).toList, v.oneCell' = true := by
  intro v hv
  simp [wd] at hv
  rcases hv with rfl | rfl <;> rfl
theorem pr_one (a b : Int) : ∀ v ∈ (#[Value.int .u64 a, Value.int .u64 b] : Array Value).toList, v.oneCell' = true := by
  intro v hv
  simp at hv
  rcases hv with rfl | rfl <;> rfl
theorem zero64 : (Try.prog.info? 64).bind (·.zero) = some (.agg (wd 0)) := by kernel_rfl
theorem size64' : (Try.prog.info? 64).map (·.size) = some 2 := by kernel_rfl
theorem size64 (V : Int) : (Try.prog.info? 64).map (·.size) = some (wd V).size := size64'

theorem words_plus (V n l h u t : Int) (hn : in64 n) (hl : l = V % 18446744073709551616) (hh : h = V / 18446744073709551616 % 18446744073709551616) (hu : u = n % 18446744073709551616) (ht : t = n / 9223372036854775808 % 18446744073709551616) :
    (V + n) / 18446744073709551616 % 18446744073709551616 = (h + t + (l + u + 0) / 18446744073709551616) % 18446744073709551616 ∧ (V + n) % 18446744073709551616 = (l + u + 0) % 18446744073709551616 := by
  obtain ⟨h1, h2⟩ := hn
  obtain ⟨H, hH⟩ : ∃ H, H = V / 18446744073709551616 := ⟨_, rfl⟩
  have hV : V = H * 18446744073709551616 + l := by omega
  rw [← hH] at hh
  have hl0 : 0 ≤ l ∧ l < 18446744073709551616 := by omega
  clear hH hl
  subst hV
  refine ⟨?_, by omega⟩
  by_cases hs : 0 ≤ n
  · have hu' : u = n := by omega
    have ht' : t = 0 := by omega
    subst hu' ht' hh
    clear ht hu
    by_cases hc : l + u < 18446744073709551616
    · rw [show (l + u + 0) / 18446744073709551616 = 0 by omega, show (H * 18446744073709551616 + l + u) / 18446744073709551616 = H by omega]
      omega
    · rw [show (l + u + 0) / 18446744073709551616 = 1 by omega, show (H * 18446744073709551616 + l + u) / 18446744073709551616 = H + 1 by omega]
      omega
  · have hu' : u = n + 18446744073709551616 := by omega
    have ht' : t = 18446744073709551615 := by omega
    subst hu' ht' hh
    clear ht hu
    by_cases hc : l + n < 0
    · rw [show (l + (n + 18446744073709551616) + 0) / 18446744073709551616 = 0 by omega, show (H * 18446744073709551616 + l + n) / 18446744073709551616 = H - 1 by omega]
      omega
    · rw [show (l + (n + 18446744073709551616) + 0) / 18446744073709551616 = 1 by omega, show (H * 18446744073709551616 + l + n) / 18446744073709551616 = H by omega]
      omega
set_option maxHeartbeats 1000000 in
set_option maxRecDepth 100000 in
theorem xplus (V n : Int) (hn : in64 n) (w : World) : Calls Try.prog 52 #[.agg (wd V), .int .i64 n] w fun e w' => e = .returned (.agg (wd (V + n))) ∧ Below w.heap.size w w' := by
  have BB := AsideA.mk (Below.refl w.heap.size w)
  obtain ⟨l, hl⟩ : ∃ l, l = V % 18446744073709551616 := ⟨_, rfl⟩
  obtain ⟨h, hh⟩ : ∃ h, h = V / 18446744073709551616 % 18446744073709551616 := ⟨_, rfl⟩
  obtain ⟨u, hu⟩ : ∃ u, u = IntKind.u64.wrap n := ⟨_, rfl⟩
  obtain ⟨t, ht⟩ : ∃ t, t = IntKind.u64.wrap (n / 9223372036854775808) := ⟨_, rfl⟩
  have A1 := AsideA.mk (fun w => xAdd64 l u 0 (by omega) (by rw [IntKind.wrap_u64] at hu; omega) (by omega) (by omega) w)
  have A2 := AsideA.mk (fun w => xAdd64 h t ((l + u + 0) / 18446744073709551616) (by omega) (by rw [IntKind.wrap_u64] at ht; omega) (by rw [IntKind.wrap_u64] at hu; omega) (by rw [IntKind.wrap_u64] at hu; omega) w)
  have FIN := AsideA.mk (show (wd (V + n)) = #[.int .u64 ((h + t + (l + u + 0) / 18446744073709551616) % 18446744073709551616), .int .u64 ((l + u + 0) % 18446744073709551616)] by
    rw [IntKind.wrap_u64] at hu ht
    obtain ⟨e1, e2⟩ := words_plus V n l h u t hn hl hh hu ht
    unfold wd
    rw [e1, e2])
  rw [show wd V = #[.int .u64 h, .int .u64 l] by unfold wd; rw [hl, hh]]
  obtain ⟨s1, hs1⟩ : ∃ s, s = (l + u + 0) % 18446744073709551616 := ⟨_, rfl⟩
  obtain ⟨c1, hc1⟩ : ∃ c, c = (l + u + 0) / 18446744073709551616 := ⟨_, rfl⟩
  rw [← hs1, ← hc1] at A1 FIN
  rw [← hc1] at A2
  obtain ⟨s2, hs2⟩ : ∃ s, s = (h + t + c1) % 18446744073709551616 := ⟨_, rfl⟩
  obtain ⟨c2, hc2⟩ : ∃ c, c = (h + t + c1) / 18446744073709551616 := ⟨_, rfl⟩
  rw [← hs2] at FIN
  rw [← hs2, ← hc2] at A2
  rw [hu] at A1
  rw [ht] at A2
  have a1 := A1.out
  have a2 := A2.out
  clear hl hh hu ht hn hs1 hc1 hs2 hc2 A1 A2
  go_enter Try.func52, Try.ntmps52
  go_wp2_with (first | (refine box_new 64 (.tmp 0) rfl rfl _ rfl #[.int .u64 h, .int .u64 l] rfl ?_; intro g2 w2 N2) | (refine alloc_new 64 rfl rfl _ zero64 (wd 0) rfl ?_; intro g4 w4 N4; have e2 := blk_below N2.blk N4.below; have x0 : w4.cell? ⟨g2, 0, none⟩ = some (.int .u64 h) := blk_cell e2 0; have x1 : w4.cell? ⟨g2, 1, none⟩ = some (.int .u64 l) := blk_cell e2 1; clear e2) | (refine store_at 64 (.tmp 4) (.tmp 29) rfl rfl g4 0 rfl #[.int .u64 s2, .int .u64 s1] rfl (wd 0) 64 N4.blk size64' (Nat.le_refl 2) (pr_one s2 s1) _ (splice_all _ _ rfl) ?_; intro w5 hb5 u5))
  rw [FIN.out]
  refine bodyPost_ret (v := .agg #[.int .u64 s2, .int .u64 s1]) ?_ rfl ⟨rfl, u5.below (below_new (below_new (Below.refl _ _) N2) N4) (N4.ge (below_new (Below.refl _ _) N2))⟩
  exact results_at rfl _ _ g4 64 _ _ rfl hb5 Try.underlying64 rfl size64'
end Go.Proofs.Ytbeiphfmdmccmaa.A
