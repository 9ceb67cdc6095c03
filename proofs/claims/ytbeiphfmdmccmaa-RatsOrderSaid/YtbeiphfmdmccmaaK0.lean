/-
  Rates: the plain words, and the program's greatest number that divides both (rats.divisor).
-/
import Derived.Test.YtbeiphfmdmccmaaE
import Derived.ScopeJumps
import Derived.WalkMore
import Derived.Laws.StructEq
import Derived.Outline
import Derived.BigQuiet
import Derived.Deep.QuietTactic
namespace Go.Proofs.Ytbeiphfmdmccmaa.A
set_option linter.unusedVariables false
set_option linter.unusedSimpArgs false
open Go.RowKit

theorem in64_of {a : Int} (h : (Lit.int .i64 a).wf = true) : in64 a := by
  simp [Lit.wf, IntKind.min, IntKind.max, IntKind.bits, IntKind.signed] at h
  exact ⟨by omega, by omega⟩

/-- the greatest number that divides both -/
def gd (a b : Int) : Int := (Nat.gcd a.toNat b.toNat : Nat)
theorem gd_zero (a : Int) (ha : 0 ≤ a) : gd a 0 = a := by
  unfold gd
  simp
  omega
theorem gd_step (a b : Int) (ha : 0 ≤ a) (hb : 0 < b) : gd b (Int.tmod a b) = gd a b := by
  unfold gd
  have h : (Int.tmod a b).toNat = a.toNat % b.toNat := by
    rw [Int.tmod_eq_emod_of_nonneg ha]
    have h1 : ((a.toNat % b.toNat : Nat) : Int) = a % b := by
      rw [Int.natCast_emod, Int.toNat_of_nonneg ha, Int.toNat_of_nonneg (by omega)]
    rw [← h1, Int.toNat_natCast]
  rw [h, Nat.gcd_comm, ← Nat.gcd_rec, Nat.gcd_comm]
theorem gd_pos (a b : Int) (ha : 1 ≤ a) : 1 ≤ gd a b := by
  unfold gd
  have := Nat.gcd_pos_of_pos_left b.toNat (show 0 < a.toNat by omega)
  omega
theorem gd_le (a b : Int) (ha : 1 ≤ a) : gd a b ≤ a := by
  unfold gd
  have := Nat.gcd_le_left b.toNat (show 0 < a.toNat by omega)
  omega
theorem gd_le_right (a b : Int) (hb : 1 ≤ b) : gd a b ≤ b := by
  unfold gd
  have := Nat.gcd_le_right a.toNat (show 0 < b.toNat by omega)
  omega
theorem tmod_lt (x y : Int) (hx : 0 ≤ x) (hy : 0 < y) : 0 ≤ Int.tmod x y ∧ Int.tmod x y < y := by
  rw [Int.tmod_eq_emod_of_nonneg hx]
  exact ⟨Int.emod_nonneg _ (by omega), Int.emod_lt_of_pos _ hy⟩

theorem eq42 (d : Nat) (w : World) (x0 y0 x1 y1 : Int) :
    (Op.equalIn (d + 2) 42 (.agg #[.int .i64 x0, .int .i64 x1]) (.agg #[.int .i64 y0, .int .i64 y1])).run Try.prog w = .ok (x0 == y0 && (x1 == y1)) w := by
  have h := run_equalIn_struct (P := Try.prog) w (d + 1) 42 #[.int .i64 x0, .int .i64 x1] #[.int .i64 y0, .int .i64 y1] (by kernel_rfl) (by kernel_rfl)
  rw [h, show (Try.prog.fieldsOf 42).toList = [(Try.prog.fieldsOf 42)[0]!, (Try.prog.fieldsOf 42)[1]!] by kernel_rfl]
  have p0 : ∀ x y : Int, (part (Try.prog.fieldsOf 42)[0]!.type #[.int .i64 x, .int .i64 y] (Try.prog.fieldsOf 42)[0]!.offset).run Try.prog w = .ok (.int .i64 x) w := fun x y => by
    rw [show (Try.prog.fieldsOf 42)[0]!.type = 2 by kernel_rfl, show (Try.prog.fieldsOf 42)[0]!.offset = 0 by kernel_rfl]
    go_simp
  have p1 : ∀ x y : Int, (part (Try.prog.fieldsOf 42)[1]!.type #[.int .i64 x, .int .i64 y] (Try.prog.fieldsOf 42)[1]!.offset).run Try.prog w = .ok (.int .i64 y) w := fun x y => by
    rw [show (Try.prog.fieldsOf 42)[1]!.type = 2 by kernel_rfl, show (Try.prog.fieldsOf 42)[1]!.offset = 1 by kernel_rfl]
    go_simp
  have e0 : ∀ x y : Int, (Op.equalIn (d + 1) (Try.prog.fieldsOf 42)[0]!.type (.int .i64 x) (.int .i64 y)).run Try.prog w = .ok (x == y) w := fun x y => by
    rw [show (Try.prog.fieldsOf 42)[0]!.type = 2 by kernel_rfl]
    exact run_equalIn_int w d 2 .i64 _ x y Try.underlying2
  have e1 : ∀ x y : Int, (Op.equalIn (d + 1) (Try.prog.fieldsOf 42)[1]!.type (.int .i64 x) (.int .i64 y)).run Try.prog w = .ok (x == y) w := fun x y => by
    rw [show (Try.prog.fieldsOf 42)[1]!.type = 2 by kernel_rfl]
    exact run_equalIn_int w d 2 .i64 _ x y Try.underlying2
  have n0 : ((Try.prog.fieldsOf 42)[0]!.name ≠ "_") := by
    rw [show (Try.prog.fieldsOf 42)[0]!.name = "Num" by kernel_rfl]
    decide
  have n1 : ((Try.prog.fieldsOf 42)[1]!.name ≠ "_") := by
    rw [show (Try.prog.fieldsOf 42)[1]!.name = "Den" by kernel_rfl]
    decide
  simp only [Op.eqFields, if_pos n0, if_pos n1, Sem.run_bind, p0, p1, e0, e1, Result.andThen_ok]
  cases hx : (x0 == y0) <;> cases hy : (x1 == y1) <;> simp [p1, e1, hy]

set_option maxHeartbeats 1000000 in
theorem xdivisor (a0 a1 : Int) (h0 : 1 ≤ a0) (h1 : 1 ≤ a1) (w : World) : Calls Try.prog 68 #[.int .i64 a0, .int .i64 a1] w fun e w' => e = .returned (.int .i64 (gd a0 a1)) ∧ Below w.heap.size w w' := by
  obtain ⟨r, hr⟩ : ∃ r, gd a0 a1 = r := ⟨_, rfl⟩
  rw [hr]
  have HH := AsideA.mk (show 0 ≤ a0 ∧ 0 < a1 ∧ gd a0 a1 = r from ⟨by omega, by omega, hr⟩)
  have hyb : (a1 == 0) = false := beq_eq_false_iff_ne.mpr (by omega)
  have hy : ¬ a1 = 0 := by omega
  clear h0 h1 hr
  have HB := AsideA.mk (Below.refl w.heap.size w)
  go_enter Try.func68, Try.ntmps68
  go_wp2
  refine wp_scope_jumps 0 (fun a' w' => AsideA (Below w.heap.size w w') ∧ ∃ (x y : Int) (u5 u6 u7 u8 u9 u10 u11 : Value), a' = { tmps := #[.int .i64 x, .int .i64 y, undef, undef, .int .i64 0, u5, u6, u7, u8, u9, u10, u11], defers := [] } ∧ AsideA (0 ≤ x ∧ 0 ≤ y ∧ gd x y = r)) (fun a' _ => (intOf (a'.tmps.getD 1 undef)).natAbs) rfl ?_ ?_
  · go_wp2
    go_step3
    go_wp2
    go_quiet (fail)
    go_wp2
    go_step3
    obtain ⟨g1, g2, g3⟩ := HH.out
    have hm := tmod_lt a0 a1 g1 g2
    refine ⟨rfl, ⟨(⟨HB.out.os, HB.out.tape, HB.out.output, HB.out.size, HB.out.block⟩ : Below w.heap.size w (w.drewN _))⟩, _, _, _, _, _, _, _, _, _, rfl, ⟨by omega, hm.1, by rw [gd_step a0 a1 g1 g2]; exact g3⟩⟩
  · rintro a' w' ⟨HB1, x, y, u5, u6, u7, u8, u9, u10, u11, rfl, HA⟩
    by_cases hy : y = 0
    · subst hy
      obtain ⟨g1, _, g3⟩ := HA.out
      rw [gd_zero x g1] at g3
      subst g3
      go_wp2
      simp only [Exit.jump]
      go_ret
      exact ⟨rfl, HB1.out⟩
    · have hyb : (y == 0) = false := beq_eq_false_iff_ne.mpr hy
      go_wp2
      go_quiet (fail)
      go_wp2
      go_step3
      obtain ⟨g1, g2, g3⟩ := HA.out
      have hm := tmod_lt x y g1 (by omega)
      refine ⟨rfl, ⟨⟨(⟨HB1.out.os, HB1.out.tape, HB1.out.output, HB1.out.size, HB1.out.block⟩ : Below w.heap.size w (w'.drewN _))⟩, _, _, _, _, _, _, _, _, _, rfl, ⟨g2, hm.1, by rw [gd_step x y g1 (by omega)]; exact g3⟩⟩, ?_⟩
      have hlt : (Int.tmod x y).natAbs < y.natAbs := by omega
      simpa [intOf] using hlt
end Go.Proofs.Ytbeiphfmdmccmaa.A
