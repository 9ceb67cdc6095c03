/-
  math/bits.Mul64 as the library's text goes, and the program's Mul (exacts).
-/
import Derived.Test.YtbeiphfmdmccmaaE1
namespace Go.Proofs.Ytbeiphfmdmccmaa.A
set_option linter.unusedVariables false
set_option linter.unusedSimpArgs false
open Go.RowKit

theorem maskN (a : Nat) (ha : a < 18446744073709551616) : bits .and .u64 (a : Int) 4294967295 = ((a % 4294967296 : Nat) : Int) := by
  have h := bits_and_u64_nat a 4294967295 ha (by omega)
  have e : a &&& 4294967295 = a % 4294967296 := Nat.and_two_pow_sub_one_eq_mod a 32
  rw [e] at h
  exact h
theorem divN (a : Nat) : (a : Int) / 4294967296 = ((a / 4294967296 : Nat) : Int) := by omega
theorem mulN (a b : Nat) : (a : Int) * (b : Int) = ((a * b : Nat) : Int) := (Int.natCast_mul a b).symm
theorem addN (a b : Nat) : (a : Int) + (b : Int) = ((a + b : Nat) : Int) := (Int.natCast_add a b).symm
theorem wrapN (a : Nat) (ha : a < 18446744073709551616) : IntKind.u64.wrap (a : Int) = (a : Int) := by rw [IntKind.wrap_u64]; omega
theorem wrapM (a : Nat) : IntKind.u64.wrap (a : Int) = ((a % 18446744073709551616 : Nat) : Int) := by rw [IntKind.wrap_u64]; omega

set_option maxHeartbeats 1000000 in
theorem xMul64 (x y : Nat) (hx : x < 18446744073709551616) (hy : y < 18446744073709551616) (w : World) :
    Calls Try.prog 30 #[.int .u64 x, .int .u64 y] w fun e w' => e = .returned (.tuple #[.int .u64 ((x * y / 18446744073709551616 : Nat) : Int), .int .u64 ((x * y % 18446744073709551616 : Nat) : Int)]) ∧ Below w.heap.size w w' := by
  have BB := AsideA.mk (Below.refl w.heap.size w)
  obtain ⟨bd, bt, bw, hhi⟩ := Lib.mul64_hi x y hx hy
  have ba := Lib.half_mul_le (a := x / 4294967296) (b := y / 4294967296) (by omega) (by omega)
  have bb := Lib.half_mul_le (a := x / 4294967296) (b := y % 4294967296) (by omega) (by omega)
  have bc := Lib.half_mul_le (a := x % 4294967296) (b := y / 4294967296) (by omega) (by omega)
  have ba' : x / 4294967296 * (y / 4294967296) < 18446744073709551616 := by omega
  have bb' : x / 4294967296 * (y % 4294967296) < 18446744073709551616 := by omega
  have bc' : x % 4294967296 * (y / 4294967296) < 18446744073709551616 := by omega
  have bh1 : x / 4294967296 * (y / 4294967296) + (x / 4294967296 * (y % 4294967296) + x % 4294967296 * (y % 4294967296) / 4294967296) / 4294967296 < 18446744073709551616 := by omega
  have bh : x / 4294967296 * (y / 4294967296) + (x / 4294967296 * (y % 4294967296) + x % 4294967296 * (y % 4294967296) / 4294967296) / 4294967296 + ((x / 4294967296 * (y % 4294967296) + x % 4294967296 * (y % 4294967296) / 4294967296) % 4294967296 + x % 4294967296 * (y / 4294967296)) / 4294967296 < 18446744073709551616 := by omega
  go_enter Try.func30, Try.ntmps30
  go_wp2
  simp only [maskN x hx, maskN y hy, divN, mulN, addN, wrapN _ bd, wrapN _ bb', wrapN _ bt, maskN _ bt, wrapN _ bc', wrapN _ bw, wrapN _ ba', wrapN _ bh1, wrapN _ bh, wrapM (x * y)]
  rw [hhi]
  go_ret2
  exact ⟨rfl, BB.out⟩

theorem neg_lo (M : Nat) (h : (M : Int) ≤ 9223372036854775808) : wrap64 (IntKind.u64.wrap (-(M : Int))) = -(M : Int) := by
  rw [IntKind.wrap_u64]; unfold wrap64; omega
set_option maxHeartbeats 2000000 in
set_option maxRecDepth 100000 in
theorem xmul (a b : Int) (ha : in64 a) (hb : in64 b) (w : World) : Calls Try.prog 19 #[.int .i64 a, .int .i64 b] w fun e w' => e = .returned (.tuple #[.int .i64 (fit (a * b)).1, .int .i64 (fit (a * b)).2]) ∧ Below w.heap.size w w' := by
  have SA := AsideA.mk (xsize a ha)
  have SB := AsideA.mk (xsize b hb)
  have MU := AsideA.mk (xMul64 a.natAbs b.natAbs (by have := abs64 ha; omega) (by have := abs64 hb; omega))
  have V := sval_mul a b
  have HM := Nat.mul_le_mul (abs64 ha) (abs64 hb)
  have d0 : (decide (a < 0) != decide (b < 0)) = !(decide (a < 0) == decide (b < 0)) := rfl
  clear ha hb
  generalize a.natAbs * b.natAbs = M at *
  rw [← V]
  generalize hsg : (!(decide (a < 0) == decide (b < 0))) = sg at *
  have BB := AsideA.mk (Below.refl w.heap.size w)
  have HV := AsideA.mk (And.intro V HM)
  clear V HM
  have hD : M / 18446744073709551616 < 18446744073709551616 := by have := HV.out.2; omega
  by_cases hi : M / 18446744073709551616 = 0
  · have hlow : M % 18446744073709551616 = M := by omega
    rw [hi, hlow] at MU
    cases sg
    · by_cases hm : (M : Int) ≤ 9223372036854775807
      · have F := AsideA.mk (show fit (sval false M) = ((M : Int), 0) from fit_in ⟨by show _ ≤ (M : Int); omega, hm⟩)
        clear hi hlow hD
        go_enter Try.func19, Try.ntmps19
        go_wp2_with (first | (go_at_call 50; (first | ((with_reducible refine (SA.out _).mono ?_); clear SA) | ((with_reducible refine (SB.out _).mono ?_); clear SB)); rintro e wq ⟨rfl, hq⟩; have BN := AsideA.mk (below_call BB.out hq); clear hq BB; have BB := BN; clear BN) | (go_at_call 30; refine (MU.out _).mono ?_; rintro e wq ⟨rfl, hq⟩; have BN := AsideA.mk (below_call BB.out hq); clear hq BB; have BB := BN; clear BN))
        go_ret2
        rw [F.out]
        exact ⟨rfl, BB.out⟩
      · have F := AsideA.mk (show fit (sval false M) = (0, 10) from fit_out (fun h => hm h.2))
        have d1 : decide (9223372036854775807 < (M : Int)) = true := decide_eq_true (by omega)
        clear hi hlow hD hm
        go_enter Try.func19, Try.ntmps19
        go_wp2_with (first | (go_at_call 50; (first | ((with_reducible refine (SA.out _).mono ?_); clear SA) | ((with_reducible refine (SB.out _).mono ?_); clear SB)); rintro e wq ⟨rfl, hq⟩; have BN := AsideA.mk (below_call BB.out hq); clear hq BB; have BB := BN; clear BN) | (go_at_call 30; refine (MU.out _).mono ?_; rintro e wq ⟨rfl, hq⟩; have BN := AsideA.mk (below_call BB.out hq); clear hq BB; have BB := BN; clear BN))
        go_ret2
        rw [F.out]
        exact ⟨rfl, BB.out⟩
    · by_cases hm : (M : Int) ≤ 9223372036854775808
      · have F := AsideA.mk (show fit (sval true M) = (-(M : Int), 0) from fit_in ⟨by show _ ≤ -(M : Int); omega, by show -(M : Int) ≤ _; omega⟩)
        have E := AsideA.mk (neg_lo M hm)
        have d1 : decide (9223372036854775808 < (M : Int)) = false := decide_eq_false (by omega)
        clear hi hlow hD
        go_enter Try.func19, Try.ntmps19
        go_wp2_with (first | (go_at_call 50; (first | ((with_reducible refine (SA.out _).mono ?_); clear SA) | ((with_reducible refine (SB.out _).mono ?_); clear SB)); rintro e wq ⟨rfl, hq⟩; have BN := AsideA.mk (below_call BB.out hq); clear hq BB; have BB := BN; clear BN) | (go_at_call 30; refine (MU.out _).mono ?_; rintro e wq ⟨rfl, hq⟩; have BN := AsideA.mk (below_call BB.out hq); clear hq BB; have BB := BN; clear BN))
        go_ret2
        rw [F.out, E.out]
        exact ⟨rfl, BB.out⟩
      · have F := AsideA.mk (show fit (sval true M) = (0, 10) from fit_out (fun h => by have h1 := h.1; have h2 : sval true M = -(M : Int) := rfl; rw [h2] at h1; omega))
        have d1 : decide (9223372036854775808 < (M : Int)) = true := decide_eq_true (by omega)
        clear hi hlow hD hm
        go_enter Try.func19, Try.ntmps19
        go_wp2_with (first | (go_at_call 50; (first | ((with_reducible refine (SA.out _).mono ?_); clear SA) | ((with_reducible refine (SB.out _).mono ?_); clear SB)); rintro e wq ⟨rfl, hq⟩; have BN := AsideA.mk (below_call BB.out hq); clear hq BB; have BB := BN; clear BN) | (go_at_call 30; refine (MU.out _).mono ?_; rintro e wq ⟨rfl, hq⟩; have BN := AsideA.mk (below_call BB.out hq); clear hq BB; have BB := BN; clear BN))
        go_ret2
        rw [F.out]
        exact ⟨rfl, BB.out⟩
  · have F : AsideA (fit (sval sg M) = (0, 10)) := ⟨fit_out (fun h => by
      have h0 := h.1
      have h1 := h.2
      have h2 : 18446744073709551616 ≤ M := by omega
      cases sg
      · have h3 : sval false M = (M : Int) := rfl
        rw [h3] at h1; omega
      · have h3 : sval true M = -(M : Int) := rfl
        rw [h3] at h0; omega)⟩
    have hpos : 0 < M / 18446744073709551616 := by omega
    clear hi hD
    generalize M / 18446744073709551616 = hi at *
    generalize M % 18446744073709551616 = lo at *
    cases sg
    all_goals
      go_enter Try.func19, Try.ntmps19
      go_wp2_with (first | (go_at_call 50; (first | ((with_reducible refine (SA.out _).mono ?_); clear SA) | ((with_reducible refine (SB.out _).mono ?_); clear SB)); rintro e wq ⟨rfl, hq⟩; have BN := AsideA.mk (below_call BB.out hq); clear hq BB; have BB := BN; clear BN) | (go_at_call 30; refine (MU.out _).mono ?_; rintro e wq ⟨rfl, hq⟩; have BN := AsideA.mk (below_call BB.out hq); clear hq BB; have BB := BN; clear BN))
      go_ret2
      rw [F.out]
      exact ⟨rfl, BB.out⟩
end Go.Proofs.Ytbeiphfmdmccmaa.A
