import Derived.Test.YtbeiphfmdmccmaaR
import Derived.Lib.Mul64
import Derived.Test.YtbeiphfmdmccmaaD0
import Derived.Test.YtbeiphfmdmccmaaShelf
/-
  The program's Add, Sub, size and Mul (exacts): exact, or too great (10).
-/
namespace Go.Proofs.Ytbeiphfmdmccmaa.A
set_option linter.unusedVariables false
set_option linter.unusedSimpArgs false
open Go.RowKit

theorem fit_in {v : Int} (h : in64 v) : fit v = (v, 0) := if_pos h
theorem fit_out {v : Int} (h : ¬ in64 v) : fit v = (0, 10) := if_neg h

set_option maxHeartbeats 1000000 in
set_option maxRecDepth 100000 in
theorem xadd (a b : Int) (ha : in64 a) (hb : in64 b) (w : World) : Calls Try.prog 14 #[.int .i64 a, .int .i64 b] w fun e w' => e = .returned (.tuple #[.int .i64 (fit (a + b)).1, .int .i64 (fit (a + b)).2]) ∧ Below w.heap.size w w' := by
  have BB := AsideA.mk (Below.refl w.heap.size w)
  have HA := AsideA.mk (And.intro ha hb)
  clear ha hb
  have key : ∀ s : Int, wrap64 (a + b) = s → (decide (a < s) = decide (0 < b) ∧ fit (a + b) = (s, 0)) ∨ ((decide (a < s) == decide (0 < b)) = false ∧ fit (a + b) = (0, 10)) := by
    rintro s rfl
    obtain ⟨⟨h1, h2⟩, h3, h4⟩ := HA.out
    by_cases hin : in64 (a + b)
    · left
      have e : wrap64 (a + b) = a + b := by obtain ⟨h5, h6⟩ := hin; unfold wrap64; omega
      rw [e, fit_in hin]
      exact ⟨decide_eq_decide.2 (by omega), rfl⟩
    · right
      rw [fit_out hin]
      refine ⟨?_, rfl⟩
      unfold in64 at hin
      by_cases hb : 0 < b
      · rw [decide_eq_true hb, decide_eq_false (by unfold wrap64; omega)]; rfl
      · rw [decide_eq_false hb, decide_eq_true (by unfold wrap64; omega)]; rfl
  have K := AsideA.mk key
  clear key
  go_enter Try.func14, Try.ntmps14
  go_upto_region 2 with (fail)
  generalize hs : wrap64 (a + b) = s
  rcases K.out s hs with ⟨h1, h2⟩ | ⟨h1, h2⟩
  · have H2 := AsideA.mk h2
    clear h2 hs HA K
    cases hq : decide (0 < b)
    all_goals
      rw [hq] at h1
      go_wp2
      go_ret2
      rw [H2.out]
      exact ⟨rfl, BB.out⟩
  · have H2 := AsideA.mk h2
    clear h2 hs HA K
    go_wp2
    go_ret2
    rw [H2.out]
    exact ⟨rfl, BB.out⟩

set_option maxHeartbeats 1000000 in
set_option maxRecDepth 100000 in
theorem xsub (a b : Int) (ha : in64 a) (hb : in64 b) (w : World) : Calls Try.prog 17 #[.int .i64 a, .int .i64 b] w fun e w' => e = .returned (.tuple #[.int .i64 (fit (a - b)).1, .int .i64 (fit (a - b)).2]) ∧ Below w.heap.size w w' := by
  have BB := AsideA.mk (Below.refl w.heap.size w)
  have HA := AsideA.mk (And.intro ha hb)
  clear ha hb
  have key : ∀ s : Int, wrap64 (a - b) = s → (decide (s < a) = decide (0 < b) ∧ fit (a - b) = (s, 0)) ∨ ((decide (s < a) == decide (0 < b)) = false ∧ fit (a - b) = (0, 10)) := by
    rintro s rfl
    obtain ⟨⟨h1, h2⟩, h3, h4⟩ := HA.out
    by_cases hin : in64 (a - b)
    · left
      have e : wrap64 (a - b) = a - b := by obtain ⟨h5, h6⟩ := hin; unfold wrap64; omega
      rw [e, fit_in hin]
      exact ⟨decide_eq_decide.2 (by omega), rfl⟩
    · right
      rw [fit_out hin]
      refine ⟨?_, rfl⟩
      unfold in64 at hin
      by_cases hb : 0 < b
      · rw [decide_eq_true hb, decide_eq_false (by unfold wrap64; omega)]; rfl
      · rw [decide_eq_false hb, decide_eq_true (by unfold wrap64; omega)]; rfl
  have K := AsideA.mk key
  clear key
  go_enter Try.func17, Try.ntmps17
  go_upto_region 2 with (fail)
  generalize hs : wrap64 (a - b) = s
  rcases K.out s hs with ⟨h1, h2⟩ | ⟨h1, h2⟩
  · have H2 := AsideA.mk h2
    clear h2 hs HA K
    cases hq : decide (0 < b)
    all_goals
      rw [hq] at h1
      go_wp2
      go_ret2
      rw [H2.out]
      exact ⟨rfl, BB.out⟩
  · have H2 := AsideA.mk h2
    clear h2 hs HA K
    go_wp2
    go_ret2
    rw [H2.out]
    exact ⟨rfl, BB.out⟩

theorem xsize (a : Int) (ha : in64 a) (w : World) : Calls Try.prog 50 #[.int .i64 a] w fun e w' => e = .returned (.int .u64 (a.natAbs : Int)) ∧ Below w.heap.size w w' := by
  have BB := AsideA.mk (Below.refl w.heap.size w)
  by_cases h : a < 0
  · have E : AsideA (IntKind.u64.wrap (-IntKind.u64.wrap a) = (a.natAbs : Int)) := ⟨by have := ha.1; rw [IntKind.wrap_u64, IntKind.wrap_u64]; omega⟩
    have d1 : decide (a < 0) = true := decide_eq_true h
    clear ha h
    go_enter Try.func50, Try.ntmps50
    go_wp2
    go_ret
    exact ⟨by rw [← E.out]; rfl, BB.out⟩
  · have E : AsideA (IntKind.u64.wrap a = (a.natAbs : Int)) := ⟨by have := ha.2; rw [IntKind.wrap_u64]; omega⟩
    have d1 : decide (a < 0) = false := decide_eq_false h
    clear ha h
    go_enter Try.func50, Try.ntmps50
    go_wp2
    go_ret
    exact ⟨by rw [← E.out]; rfl, BB.out⟩
end Go.Proofs.Ytbeiphfmdmccmaa.A

/-
  math/bits.Mul64 as the library's text goes, and the program's Mul (exacts).
-/
namespace Go.Proofs.Ytbeiphfmdmccmaa.A
set_option linter.unusedVariables false
set_option linter.unusedSimpArgs false
open Go.RowKit

theorem maskN (a : Nat) (ha : a < 18446744073709551616) : bits .and .u64 (a : Int) 4294967295 = ((a % 4294967296 : Nat) : Int) := by
  have h := bits_and_u64_nat a 4294967295 ha (by omega)
  have e : a &&& 4294967295 = a % 4294967296 := Nat.and_two_pow_sub_one_eq_mod a 32
  rw [e] at h
  exact h
theorem divN (a : Nat) : (a : Int) / 4294967296 = ((a / 4294967296 : Nat) : Int) := by omega
theorem mulN (a b : Nat) : (a : Int) * (b : Int) = ((a * b : Nat) : Int) := (Int.natCast_mul a b).symm
theorem addN (a b : Nat) : (a : Int) + (b : Int) = ((a + b : Nat) : Int) := (Int.natCast_add a b).symm
theorem wrapN (a : Nat) (ha : a < 18446744073709551616) : IntKind.u64.wrap (a : Int) = (a : Int) := by rw [IntKind.wrap_u64]; omega
theorem wrapM (a : Nat) : IntKind.u64.wrap (a : Int) = ((a % 18446744073709551616 : Nat) : Int) := by rw [IntKind.wrap_u64]; omega

set_option maxHeartbeats 1000000 in
theorem xMul64 (x y : Nat) (hx : x < 18446744073709551616) (hy : y < 18446744073709551616) (w : World) :
    Calls Try.prog 30 #[.int .u64 x, .int .u64 y] w fun e w' => e = .returned (.tuple #[.int .u64 ((x * y / 18446744073709551616 : Nat) : Int), .int .u64 ((x * y % 18446744073709551616 : Nat) : Int)]) ∧ Below w.heap.size w w' := by
  have BB := AsideA.mk (Below.refl w.heap.size w)
  obtain ⟨bd, bt, bw, hhi⟩ := Lib.mul64_hi x y hx hy
  have ba := Lib.half_mul_le (a := x / 4294967296) (b := y / 4294967296) (by omega) (by omega)
  have bb := Lib.half_mul_le (a := x / 4294967296) (b := y % 4294967296) (by omega) (by omega)
  have bc := Lib.half_mul_le (a := x % 4294967296) (b := y / 4294967296) (by omega) (by omega)
  have ba' : x / 4294967296 * (y / 4294967296) < 18446744073709551616 := by omega
  have bb' : x / 4294967296 * (y % 4294967296) < 18446744073709551616 := by omega
  have bc' : x % 4294967296 * (y / 4294967296) < 18446744073709551616 := by omega
  have bh1 : x / 4294967296 * (y / 4294967296) + (x / 4294967296 * (y % 4294967296) + x % 4294967296 * (y % 4294967296) / 4294967296) / 4294967296 < 18446744073709551616 := by omega
  have bh : x / 4294967296 * (y / 4294967296) + (x / 4294967296 * (y % 4294967296) + x % 4294967296 * (y % 4294967296) / 4294967296) / 4294967296 + ((x / 4294967296 * (y % 4294967296) + x % 4294967296 * (y % 4294967296) / 4294967296) % 4294967296 + x % 4294967296 * (y / 4294967296)) / 4294967296 < 18446744073709551616 := by omega
  go_enter Try.func30, Try.ntmps30
  go_wp2
  simp only [maskN x hx, maskN y hy, divN, mulN, addN, wrapN _ bd, wrapN _ bb', wrapN _ bt, maskN _ bt, wrapN _ bc', wrapN _ bw, wrapN _ ba', wrapN _ bh1, wrapN _ bh, wrapM (x * y)]
  rw [hhi]
  go_ret2
  exact ⟨rfl, BB.out⟩

theorem neg_lo (M : Nat) (h : (M : Int) ≤ 9223372036854775808) : wrap64 (IntKind.u64.wrap (-(M : Int))) = -(M : Int) := by
  rw [IntKind.wrap_u64]; unfold wrap64; omega
set_option maxHeartbeats 2000000 in
set_option maxRecDepth 100000 in
theorem xmul (a b : Int) (ha : in64 a) (hb : in64 b) (w : World) : Calls Try.prog 19 #[.int .i64 a, .int .i64 b] w fun e w' => e = .returned (.tuple #[.int .i64 (fit (a * b)).1, .int .i64 (fit (a * b)).2]) ∧ Below w.heap.size w w' := by
  have SA := AsideA.mk (xsize a ha)
  have SB := AsideA.mk (xsize b hb)
  have MU := AsideA.mk (xMul64 a.natAbs b.natAbs (by have := abs64 ha; omega) (by have := abs64 hb; omega))
  have V := sval_mul a b
  have HM := Nat.mul_le_mul (abs64 ha) (abs64 hb)
  have d0 : (decide (a < 0) != decide (b < 0)) = !(decide (a < 0) == decide (b < 0)) := rfl
  clear ha hb
  generalize a.natAbs * b.natAbs = M at *
  rw [← V]
  generalize hsg : (!(decide (a < 0) == decide (b < 0))) = sg at *
  have BB := AsideA.mk (Below.refl w.heap.size w)
  have HV := AsideA.mk (And.intro V HM)
  clear V HM
  have hD : M / 18446744073709551616 < 18446744073709551616 := by have := HV.out.2; omega
  by_cases hi : M / 18446744073709551616 = 0
  · have hlow : M % 18446744073709551616 = M := by omega
    rw [hi, hlow] at MU
    cases sg
    · by_cases hm : (M : Int) ≤ 9223372036854775807
      · have F := AsideA.mk (show fit (sval false M) = ((M : Int), 0) from fit_in ⟨by show _ ≤ (M : Int); omega, hm⟩)
        clear hi hlow hD
        go_enter Try.func19, Try.ntmps19
        go_wp2_with (first | (go_at_call 50; (first | ((with_reducible refine (SA.out _).mono ?_); clear SA) | ((with_reducible refine (SB.out _).mono ?_); clear SB)); rintro e wq ⟨rfl, hq⟩; have BN := AsideA.mk (below_call BB.out hq); clear hq BB; have BB := BN; clear BN) | (go_at_call 30; refine (MU.out _).mono ?_; rintro e wq ⟨rfl, hq⟩; have BN := AsideA.mk (below_call BB.out hq); clear hq BB; have BB := BN; clear BN))
        go_ret2
        rw [F.out]
        exact ⟨rfl, BB.out⟩
      · have F := AsideA.mk (show fit (sval false M) = (0, 10) from fit_out (fun h => hm h.2))
        have d1 : decide (9223372036854775807 < (M : Int)) = true := decide_eq_true (by omega)
        clear hi hlow hD hm
        go_enter Try.func19, Try.ntmps19
        go_wp2_with (first | (go_at_call 50; (first | ((with_reducible refine (SA.out _).mono ?_); clear SA) | ((with_reducible refine (SB.out _).mono ?_); clear SB)); rintro e wq ⟨rfl, hq⟩; have BN := AsideA.mk (below_call BB.out hq); clear hq BB; have BB := BN; clear BN) | (go_at_call 30; refine (MU.out _).mono ?_; rintro e wq ⟨rfl, hq⟩; have BN := AsideA.mk (below_call BB.out hq); clear hq BB; have BB := BN; clear BN))
        go_ret2
        rw [F.out]
        exact ⟨rfl, BB.out⟩
    · by_cases hm : (M : Int) ≤ 9223372036854775808
      · have F := AsideA.mk (show fit (sval true M) = (-(M : Int), 0) from fit_in ⟨by show _ ≤ -(M : Int); omega, by show -(M : Int) ≤ _; omega⟩)
        have E := AsideA.mk (neg_lo M hm)
        have d1 : decide (9223372036854775808 < (M : Int)) = false := decide_eq_false (by omega)
        clear hi hlow hD
        go_enter Try.func19, Try.ntmps19
        go_wp2_with (first | (go_at_call 50; (first | ((with_reducible refine (SA.out _).mono ?_); clear SA) | ((with_reducible refine (SB.out _).mono ?_); clear SB)); rintro e wq ⟨rfl, hq⟩; have BN := AsideA.mk (below_call BB.out hq); clear hq BB; have BB := BN; clear BN) | (go_at_call 30; refine (MU.out _).mono ?_; rintro e wq ⟨rfl, hq⟩; have BN := AsideA.mk (below_call BB.out hq); clear hq BB; have BB := BN; clear BN))
        go_ret2
        rw [F.out, E.out]
        exact ⟨rfl, BB.out⟩
      · have F := AsideA.mk (show fit (sval true M) = (0, 10) from fit_out (fun h => by have h1 := h.1; have h2 : sval true M = -(M : Int) := rfl; rw [h2] at h1; omega))
        have d1 : decide (9223372036854775808 < (M : Int)) = true := decide_eq_true (by omega)
        clear hi hlow hD hm
        go_enter Try.func19, Try.ntmps19
        go_wp2_with (first | (go_at_call 50; (first | ((with_reducible refine (SA.out _).mono ?_); clear SA) | ((with_reducible refine (SB.out _).mono ?_); clear SB)); rintro e wq ⟨rfl, hq⟩; have BN := AsideA.mk (below_call BB.out hq); clear hq BB; have BB := BN; clear BN) | (go_at_call 30; refine (MU.out _).mono ?_; rintro e wq ⟨rfl, hq⟩; have BN := AsideA.mk (below_call BB.out hq); clear hq BB; have BB := BN; clear BN))
        go_ret2
        rw [F.out]
        exact ⟨rfl, BB.out⟩
  · have F : AsideA (fit (sval sg M) = (0, 10)) := ⟨fit_out (fun h => by
      have h0 := h.1
      have h1 := h.2
      have h2 : 18446744073709551616 ≤ M := by omega
      cases sg
      · have h3 : sval false M = (M : Int) := rfl
        rw [h3] at h1; omega
      · have h3 : sval true M = -(M : Int) := rfl
        rw [h3] at h0; omega)⟩
    have hpos : 0 < M / 18446744073709551616 := by omega
    clear hi hD
    generalize M / 18446744073709551616 = hi at *
    generalize M % 18446744073709551616 = lo at *
    cases sg
    all_goals
      go_enter Try.func19, Try.ntmps19
      go_wp2_with (first | (go_at_call 50; (first | ((with_reducible refine (SA.out _).mono ?_); clear SA) | ((with_reducible refine (SB.out _).mono ?_); clear SB)); rintro e wq ⟨rfl, hq⟩; have BN := AsideA.mk (below_call BB.out hq); clear hq BB; have BB := BN; clear BN) | (go_at_call 30; refine (MU.out _).mono ?_; rintro e wq ⟨rfl, hq⟩; have BN := AsideA.mk (below_call BB.out hq); clear hq BB; have BB := BN; clear BN))
      go_ret2
      rw [F.out]
      exact ⟨rfl, BB.out⟩
end Go.Proofs.Ytbeiphfmdmccmaa.A

/-
  math/bits.Div64, where the quotient fits: quotient and what is left.
-/
namespace Go.Proofs.Ytbeiphfmdmccmaa.A
set_option linter.unusedVariables false
set_option linter.unusedSimpArgs false
open Go.RowKit

set_option maxHeartbeats 2000000 in
set_option maxRecDepth 100000 in
theorem div_small (lo y : Nat) (hl : lo < 18446744073709551616) (h0 : 0 < y) (hy : y < 18446744073709551616) (w : World) :
    Calls Try.prog 66 #[.int .u64 0, .int .u64 lo, .int .u64 y] w fun e w' => e = .returned (.tuple #[.int .u64 ((lo / y : Nat) : Int), .int .u64 ((lo % y : Nat) : Int)]) ∧ Below w.heap.size w w' := by
  have BB := AsideA.mk (Below.refl w.heap.size w)
  have E := AsideA.mk (show IntKind.u64.wrap ((lo : Int) / (y : Int)) = ((lo / y : Nat) : Int) by
    have h1 := Nat.div_le_self lo y
    rw [← Int.natCast_ediv]
    generalize lo / y = z at *
    rw [IntKind.wrap_u64]
    omega)
  have h1 : (1 : Int) ≤ y := by omega
  have d1 : ((y : Int) == 0) = false := beq_eq_false_iff_ne.mpr (by omega)
  clear hl hy
  go_enter Try.func66, Try.ntmps66
  go_wp2
  go_quiet (fail)
  go_wp2
  go_ret2
  rw [E.out]
  exact ⟨rfl, below_drewN' BB.out _⟩

theorem or_hi (hi lo y s : Nat) (hlt : hi < y) (hl : lo < 18446744073709551616) (hs : s ≤ 63) (hn2 : y * 2 ^ s < 18446744073709551616) :
    bits .or .u64 (IntKind.u64.wrap ((hi : Int) * 2 ^ s)) ((lo : Int) / 2 ^ (64 - s)) = (((hi * 18446744073709551616 + lo) * 2 ^ s / 18446744073709551616 : Nat) : Int) := by
  have hp : 0 < 2 ^ s := Nat.pos_of_ne_zero (by simp)
  have h1 : hi * 2 ^ s < 18446744073709551616 := Nat.lt_of_le_of_lt (Nat.mul_le_mul_right _ (Nat.le_of_lt hlt)) hn2
  have e1 : (hi : Int) * 2 ^ s = ((hi * 2 ^ s : Nat) : Int) := by push_cast; rfl
  have e2 : (lo : Int) / 2 ^ (64 - s) = ((lo / 2 ^ (64 - s) : Nat) : Int) := by push_cast; rfl
  have hpow : 2 ^ (64 - s) * 2 ^ s = 18446744073709551616 := by rw [← Nat.pow_add, show 64 - s + s = 64 by omega]
  have h2 : lo / 2 ^ (64 - s) < 2 ^ s := by
    rw [Nat.div_lt_iff_lt_mul (Nat.pos_of_ne_zero (by simp)), Nat.mul_comm, hpow]
    exact hl
  have h3 : lo / 2 ^ (64 - s) < 18446744073709551616 := Nat.lt_of_le_of_lt (Nat.div_le_self _ _) hl
  rw [e1, e2, wrapN _ h1, bits_or_u64_nat _ _ h1 h3]
  congr 1
  rw [← Nat.shiftLeft_eq hi s, ← Nat.shiftLeft_add_eq_or_of_lt h2, Nat.shiftLeft_eq]
  rw [← hpow, Nat.add_mul, show hi * (2 ^ (64 - s) * 2 ^ s) * 2 ^ s = (hi * 2 ^ s) * (2 ^ (64 - s) * 2 ^ s) by rw [Nat.mul_right_comm]]
  rw [Nat.add_comm, Nat.add_comm (hi * 2 ^ s * _), Nat.add_mul_div_right _ _ (by rw [hpow]; omega), Nat.mul_div_mul_right _ _ hp]
theorem lo_part (hi lo s : Nat) : lo * 2 ^ s % 18446744073709551616 = (hi * 18446744073709551616 + lo) * 2 ^ s % 18446744073709551616 := by
  rw [Nat.add_mul, Nat.mul_right_comm, Nat.add_comm, Nat.add_mul_mod_self_right]

theorem dig_mod (u a : Nat) (h : u < 18446744073709551616) : IntKind.u64.wrap ((u : Int) - IntKind.u64.wrap ((u : Int) / a * a)) = ((u % a : Nat) : Int) := by
  have h1 := Nat.div_mul_le_self u a
  have h2 := Nat.div_add_mod u a
  rw [← Int.natCast_ediv, mulN, wrapN _ (by omega)]
  rw [Nat.mul_comm] at h2
  generalize u / a * a = z at *
  generalize u % a = t at *
  rw [IntKind.wrap_u64]
  omega
theorem rest_wrap (u d q Y : Nat) (h1 : q * Y ≤ u * 4294967296 + d) (h2 : u * 4294967296 + d - q * Y < 18446744073709551616) :
    IntKind.u64.wrap (IntKind.u64.wrap (IntKind.u64.wrap ((u : Int) * 4294967296) + d) - IntKind.u64.wrap ((q : Int) * Y)) = ((u * 4294967296 + d - q * Y : Nat) : Int) := by
  rw [mulN q Y]
  generalize q * Y = z at *
  simp only [IntKind.wrap_u64]
  omega
set_option maxHeartbeats 4000000 in
set_option maxRecDepth 100000 in
theorem div_great (hi lo y s : Nat) (hh : 0 < hi) (hl : lo < 18446744073709551616) (hlt : hi < y) (hy : y < 18446744073709551616) (hs : s ≤ 63) (hb : Lib.bitLen y = 64 - s) (hn1 : 9223372036854775808 ≤ y * 2 ^ s) (hn2 : y * 2 ^ s < 18446744073709551616) (w : World) :
    Calls Try.prog 66 #[.int .u64 hi, .int .u64 lo, .int .u64 y] w fun e w' => e = .returned (.tuple #[.int .u64 (((hi * 18446744073709551616 + lo) / y : Nat) : Int), .int .u64 (((hi * 18446744073709551616 + lo) % y : Nat) : Int)]) ∧ Below w.heap.size w w' := by
  have LZ : AsideA (∀ w : World, Calls Try.prog 70 #[.int .u64 y] w fun e w' => e = .returned (.int .i64 (s : Int)) ∧ w' = w) := ⟨fun w => by
    have := Try.bits_LeadingZeros64 (y : Int) w (by omega) (by omega)
    rw [Int.toNat_natCast, hb, show (64 : Int) - ((64 - s : Nat) : Int) = (s : Int) by omega] at this
    exact this⟩
  have BB := AsideA.mk (Below.refl w.heap.size w)
  have d1 : ((y : Int) == 0) = false := beq_eq_false_iff_ne.mpr (by omega)
  have d3 : ((hi : Int) == 0) = false := beq_eq_false_iff_ne.mpr (by omega)
  have h0 : 0 < y := by omega
  have EY : IntKind.u64.wrap ((y : Int) * 2 ^ s) = ((y * 2 ^ s : Nat) : Int) := by rw [show (y : Int) * 2 ^ s = ((y * 2 ^ s : Nat) : Int) by push_cast; rfl, wrapN _ hn2]
  have EL : IntKind.u64.wrap ((lo : Int) * 2 ^ s) = ((lo * 2 ^ s % 18446744073709551616 : Nat) : Int) := by rw [show (lo : Int) * 2 ^ s = ((lo * 2 ^ s : Nat) : Int) by push_cast; rfl, wrapM]
  have EU := or_hi hi lo y s hlt hl hs hn2
  have hLL : lo * 2 ^ s % 18446744073709551616 < 18446744073709551616 := Nat.mod_lt _ (by omega)
  have hUY : (hi * 18446744073709551616 + lo) * 2 ^ s / 18446744073709551616 < y * 2 ^ s := by
    rw [Nat.div_lt_iff_lt_mul (by omega), Nat.mul_right_comm]
    exact Nat.mul_lt_mul_of_pos_right (by omega) (Nat.pos_of_ne_zero (by simp))
  have REST := fun u1 q1 q0 => div_whole (hi * 18446744073709551616 + lo) y s (y * 2 ^ s) _ q1 u1 q0 (lo * 2 ^ s % 18446744073709551616 / 4294967296) (lo * 2 ^ s % 18446744073709551616 % 4294967296) rfl rfl (by rw [← lo_part hi lo s]; omega)
  have HE := AsideA.mk (And.intro EY (And.intro EL EU))
  have HR := AsideA.mk REST
  have HU := AsideA.mk (And.intro hLL hUY)
  clear EY EL EU hLL hUY REST
  have HH := AsideA.mk (And.intro hh (And.intro hl (And.intro hlt (And.intro hy (And.intro hn1 hn2)))))
  clear hl hy hb hn1 hn2
  go_enter Try.func66, Try.ntmps66
  go_upto_region 15 with (go_at_call 70; refine (LZ.out _).mono ?_; rintro e wq ⟨rfl, hq⟩; rw [hq])
  rw [HE.out.1, HE.out.2.2, HE.out.2.1, divN, maskN _ HH.out.2.2.2.2.2, divN, maskN _ HU.out.1]
  have HU1 := HU.out
  have HN1 := HH.out.2.2.2.2.1
  have HN2 := HH.out.2.2.2.2.2
  have HR1 := HR.out
  have HS := AsideA.mk hs
  clear HE HU HR LZ hs
  obtain ⟨Y, hY⟩ : ∃ Y, Y = y * 2 ^ s := ⟨_, rfl⟩
  obtain ⟨u, hu⟩ : ∃ u, u = (hi * 18446744073709551616 + lo) * 2 ^ s / 18446744073709551616 := ⟨_, rfl⟩
  obtain ⟨L, hL⟩ : ∃ L, L = lo * 2 ^ s % 18446744073709551616 := ⟨_, rfl⟩
  rw [← hY] at HU1 HN1 HN2 HR1 ⊢
  rw [← hu] at HU1 HR1 ⊢
  rw [← hL] at HU1 HR1 ⊢
  obtain ⟨a, ha⟩ : ∃ a, a = Y / 4294967296 := ⟨_, rfl⟩
  obtain ⟨b, hb⟩ : ∃ b, b = Y % 4294967296 := ⟨_, rfl⟩
  obtain ⟨d1', hd1⟩ : ∃ d, d = L / 4294967296 := ⟨_, rfl⟩
  obtain ⟨d0', hd0⟩ : ∃ d, d = L % 4294967296 := ⟨_, rfl⟩
  rw [← ha, ← hb, ← hd1, ← hd0]
  rw [← hd1, ← hd0] at HR1
  have D1 : Dig u Y a b d1' ((u * 4294967296 + d1') / Y) := ⟨by omega, by omega, by omega, HU1.2, by omega, rfl⟩
  have hd0' : d0' < 4294967296 := by omega
  clear hY hu hL ha hb hd1 hd0
  obtain ⟨q1, hq1⟩ : ∃ q, q = (u * 4294967296 + d1') / Y := ⟨_, rfl⟩
  rw [← hq1] at D1
  obtain ⟨v, hv⟩ : ∃ v, v = u * 4294967296 + d1' - q1 * Y := ⟨_, rfl⟩
  have D2 : Dig v Y a b d0' ((v * 4294967296 + d0') / Y) := ⟨D1.hy, D1.ha, D1.hb, by have := D1.rest; omega, hd0', rfl⟩
  obtain ⟨q0, hq0⟩ : ∃ q, q = (v * 4294967296 + d0') / Y := ⟨_, rfl⟩
  rw [← hq0] at D2
  have FIN := AsideA.mk (HR1 v q1 q0 (by have := D1.rest; omega) (by have := D2.le; omega) (by have := D2.le; omega) (by omega))
  have HD := AsideA.mk (And.intro D1 (And.intro D2 (And.intro hv (And.intro HN2 HU1))))
  clear HR1 hq1 hq0 hv D1 D2 HN1 HN2 HU1 hd0' d1 d3 hh hlt h0 HH
  have E15 : AsideA (IntKind.u64.wrap ((u : Int) / a) = ((u / a : Nat) : Int)) := ⟨by
    have h1 := Nat.div_le_self u a
    have h2 := HD.out.2.2.2.2.2
    have h3 := HD.out.2.2.2.1
    rw [← Int.natCast_ediv]
    generalize u / a = z at *
    rw [IntKind.wrap_u64]
    omega⟩
  have ha1 : (1 : Int) ≤ a := by have := HD.out.1.ha; omega
  go_upto_region 16 with (fail)
  rw [E15.out]
  have E16 : AsideA (IntKind.u64.wrap ((u : Int) - IntKind.u64.wrap ((u : Int) / a * a)) = ((u % a : Nat) : Int)) := ⟨dig_mod u a (by have h2 := HD.out.2.2.2.2.2; have h3 := HD.out.2.2.2.1; omega)⟩
  go_upto_block 0 with (fail)
  rw [E16.out]
  clear E15 E16
  go_cut [15, 16] (fun v15 v16 wc => v15 = .int .u64 q1 ∧ (∃ r : Nat, v16 = .int .u64 r) ∧ w = wc)
  case first =>
    have S := AsideA.mk (HD.out.1.start)
    go_wp2
    go_loop [15, 16] (fun v15 v16 => ∃ m r : Nat, v15 = .int .u64 m ∧ v16 = .int .u64 r ∧ AsideA (Dig.Inv u a q1 m r)) (fun _ v16 => 4294967296 - (intOf v16).toNat)
    case atStart => exact ⟨_, _, rfl, rfl, S⟩
    case round =>
      obtain ⟨m, r, rfl, rfl, IV⟩ := hrel
      clear S
      have hr : (r : Int) ≤ 4294967295 := by have := IV.out.2.2.1; omega
      have hd : (d1' : Int) ≤ 4294967295 := by have := HD.out.1.hd; omega
      have haa : (a : Int) ≤ 4294967295 := by have := HD.out.1.ha; omega
      have ha0 : (1 : Int) ≤ a := by have := HD.out.1.ha; omega
      have hm : (m : Int) ≤ 4294967297 := by have := IV.out.2.2.2; omega
      have hmb : IntKind.u64.wrap ((m : Int) * b) = ((m * b : Nat) : Int) := by
        have h1 := Nat.mul_le_mul IV.out.2.2.2 (show b ≤ 4294967295 by have := HD.out.1.hb; omega)
        rw [mulN, wrapN _ (by omega)]
      obtain ⟨mb, hmb0⟩ : ∃ mb, mb = m * b := ⟨_, rfl⟩
      rw [← hmb0] at hmb
      have HB := AsideA.mk hmb0
      clear hmb0
      have DN := AsideA.mk (fun h => HD.out.1.down IV.out (m := m) (r := r) h)
      rw [← HB.out] at DN
      have brk : ∀ (DD : AsideA (q1 ≤ m - 1 ∧ 1 ≤ m ∧ u = (m - 1) * a + (r + a))), (4294967296 : Int) ≤ r + a → Value.int IntKind.u64 ((m : Int) - 1) = Value.int IntKind.u64 (q1 : Int) := fun DD h => by
        have := HD.out.1.break_ (m := m - 1) (r := r + a) ⟨DD.out.2.2, DD.out.1⟩ (by have := IV.out.2.2.2; omega) (by omega)
        have h3 := DD.out.2.1
        rw [← this]
        congr 1
        omega
      have nxt : ∀ (DD : AsideA (q1 ≤ m - 1 ∧ 1 ≤ m ∧ u = (m - 1) * a + (r + a))), ¬ (4294967296 : Int) ≤ r + a → Value.int IntKind.u64 ((m : Int) - 1) = Value.int IntKind.u64 ((m - 1 : Nat) : Int) ∧ AsideA (Dig.Inv u a q1 (m - 1) (r + a)) := fun DD h => by
        have h3 := DD.out.2.1
        refine ⟨by congr 1; omega, ⟨⟨DD.out.2.2, DD.out.1, by omega, by have := IV.out.2.2.2; omega⟩⟩⟩
      have BK := AsideA.mk brk
      have NX := AsideA.mk nxt
      clear brk nxt
      by_cases h1 : (4294967296 : Int) ≤ m
      · have hg : decide ((4294967296 : Int) ≤ m) = true := decide_eq_true h1
        have DD := AsideA.mk (DN.out (.inl (by omega)))
        have hm1 : (1 : Int) ≤ m := by omega
        clear h1 DN hmb
        by_cases h2 : (4294967296 : Int) ≤ r + a
        · have hg2 : decide ((4294967296 : Int) ≤ r + a) = true := decide_eq_true h2
          have B := AsideA.mk (BK.out DD h2)
          clear h2
          go_wp2
          go_meet
          case rel => exact ⟨B.out, ⟨r + a, by go_num⟩, rfl⟩
        · have hg2 : decide ((4294967296 : Int) ≤ r + a) = false := decide_eq_false h2
          have N := AsideA.mk (NX.out DD h2)
          go_wp2
          exact ⟨⟨m - 1, r + a, N.out.1, by go_num, N.out.2⟩, by simp [intOf]; omega⟩
      · have hg : decide ((4294967296 : Int) ≤ m) = false := decide_eq_false h1
        by_cases h3 : 4294967296 * (r : Int) + d1' < mb
        · have hg3 : decide (4294967296 * (r : Int) + d1' < mb) = true := decide_eq_true h3
          have DD := AsideA.mk (DN.out (.inr (by omega)))
          have hm1 : (1 : Int) ≤ m := by have := DD.out.2.1; omega
          clear h3 DN
          by_cases h2 : (4294967296 : Int) ≤ r + a
          · have hg2 : decide ((4294967296 : Int) ≤ r + a) = true := decide_eq_true h2
            have B := AsideA.mk (BK.out DD h2)
            clear h2
            go_wp2
            go_meet
            case rel => exact ⟨B.out, ⟨r + a, by go_num⟩, rfl⟩
          · have hg2 : decide ((4294967296 : Int) ≤ r + a) = false := decide_eq_false h2
            have N := AsideA.mk (NX.out DD h2)
            go_wp2
            exact ⟨⟨m - 1, r + a, N.out.1, by go_num, N.out.2⟩, by simp [intOf]; omega⟩
        · have hg3 : decide (4294967296 * (r : Int) + d1' < mb) = false := decide_eq_false h3
          have ST := AsideA.mk (HD.out.1.stop (m := m) (r := r) ⟨IV.out.1, IV.out.2.1⟩ (by rw [← HB.out]; omega))
          clear h3 DN
          go_wp2
          go_meet
          case rel => exact ⟨by rw [ST.out], ⟨r, rfl⟩, rfl⟩
  case rest =>
    obtain ⟨rfl, ⟨r16, rfl⟩, rfl⟩ := hcut
    go_upto_region 22 with (fail)
    have E17 : AsideA (IntKind.u64.wrap (IntKind.u64.wrap (IntKind.u64.wrap ((u : Int) * 4294967296) + d1') - IntKind.u64.wrap ((q1 : Int) * Y)) = (v : Int)) := ⟨by
      rw [HD.out.2.2.1]
      exact rest_wrap _ _ _ _ HD.out.1.rest.2 (Nat.lt_trans HD.out.1.rest.1 HD.out.2.2.2.1)⟩
    rw [E17.out]
    clear E17
    have E18 : AsideA (IntKind.u64.wrap ((v : Int) / a) = ((v / a : Nat) : Int)) := ⟨by
      have h1 := Nat.div_le_self v a
      have h2 := HD.out.2.1.hu
      have h3 := HD.out.2.2.2.1
      rw [← Int.natCast_ediv]
      generalize v / a = z at *
      rw [IntKind.wrap_u64]
      omega⟩
    go_upto_region 23 with (fail)
    rw [E18.out]
    have E16 : AsideA (IntKind.u64.wrap ((v : Int) - IntKind.u64.wrap ((v : Int) / a * a)) = ((v % a : Nat) : Int)) := ⟨dig_mod v a (by have h2 := HD.out.2.1.hu; have h3 := HD.out.2.2.2.1; omega)⟩
    go_upto_block 2 with (fail)
    rw [E16.out]
    clear E16 E18
    go_cut [16, 18] (fun v16 v18 wc => v18 = .int .u64 q0 ∧ (∃ r : Nat, v16 = .int .u64 r) ∧ w = wc)
    case first =>
      have S := AsideA.mk (HD.out.2.1.start)
      go_wp2
      go_loop [16, 18] (fun v16 v18 => ∃ m r : Nat, v18 = .int .u64 m ∧ v16 = .int .u64 r ∧ AsideA (Dig.Inv v a q0 m r)) (fun v16 _ => 4294967296 - (intOf v16).toNat)
      case atStart => exact ⟨_, _, rfl, rfl, S⟩
      case round =>
        obtain ⟨m, r, rfl, rfl, IV⟩ := hrel
        clear S
        have hr : (r : Int) ≤ 4294967295 := by have := IV.out.2.2.1; omega
        have hd : (d0' : Int) ≤ 4294967295 := by have := HD.out.2.1.hd; omega
        have haa : (a : Int) ≤ 4294967295 := by have := HD.out.2.1.ha; omega
        have ha0 : (1 : Int) ≤ a := by have := HD.out.2.1.ha; omega
        have hm : (m : Int) ≤ 4294967297 := by have := IV.out.2.2.2; omega
        have hmb : IntKind.u64.wrap ((m : Int) * b) = ((m * b : Nat) : Int) := by
          have h1 := Nat.mul_le_mul IV.out.2.2.2 (show b ≤ 4294967295 by have := HD.out.2.1.hb; omega)
          rw [mulN, wrapN _ (by omega)]
        obtain ⟨mb, hmb0⟩ : ∃ mb, mb = m * b := ⟨_, rfl⟩
        rw [← hmb0] at hmb
        have HB := AsideA.mk hmb0
        clear hmb0
        have DN := AsideA.mk (fun h => HD.out.2.1.down IV.out (m := m) (r := r) h)
        rw [← HB.out] at DN
        have brk : ∀ (DD : AsideA (q0 ≤ m - 1 ∧ 1 ≤ m ∧ v = (m - 1) * a + (r + a))), (4294967296 : Int) ≤ r + a → Value.int IntKind.u64 ((m : Int) - 1) = Value.int IntKind.u64 (q0 : Int) := fun DD h => by
          have := HD.out.2.1.break_ (m := m - 1) (r := r + a) ⟨DD.out.2.2, DD.out.1⟩ (by have := IV.out.2.2.2; omega) (by omega)
          have h3 := DD.out.2.1
          rw [← this]
          congr 1
          omega
        have nxt : ∀ (DD : AsideA (q0 ≤ m - 1 ∧ 1 ≤ m ∧ v = (m - 1) * a + (r + a))), ¬ (4294967296 : Int) ≤ r + a → Value.int IntKind.u64 ((m : Int) - 1) = Value.int IntKind.u64 ((m - 1 : Nat) : Int) ∧ AsideA (Dig.Inv v a q0 (m - 1) (r + a)) := fun DD h => by
          have h3 := DD.out.2.1
          refine ⟨by congr 1; omega, ⟨⟨DD.out.2.2, DD.out.1, by omega, by have := IV.out.2.2.2; omega⟩⟩⟩
        have BK := AsideA.mk brk
        have NX := AsideA.mk nxt
        clear brk nxt
        by_cases h1 : (4294967296 : Int) ≤ m
        · have hg : decide ((4294967296 : Int) ≤ m) = true := decide_eq_true h1
          have DD := AsideA.mk (DN.out (.inl (by omega)))
          have hm1 : (1 : Int) ≤ m := by omega
          clear h1 DN hmb
          by_cases h2 : (4294967296 : Int) ≤ r + a
          · have hg2 : decide ((4294967296 : Int) ≤ r + a) = true := decide_eq_true h2
            have B := AsideA.mk (BK.out DD h2)
            clear h2
            go_wp2
            go_meet
            case rel => exact ⟨B.out, ⟨r + a, by go_num⟩, rfl⟩
          · have hg2 : decide ((4294967296 : Int) ≤ r + a) = false := decide_eq_false h2
            have N := AsideA.mk (NX.out DD h2)
            go_wp2
            exact ⟨⟨m - 1, r + a, N.out.1, by go_num, N.out.2⟩, by simp [intOf]; omega⟩
        · have hg : decide ((4294967296 : Int) ≤ m) = false := decide_eq_false h1
          by_cases h3 : 4294967296 * (r : Int) + d0' < mb
          · have hg3 : decide (4294967296 * (r : Int) + d0' < mb) = true := decide_eq_true h3
            have DD := AsideA.mk (DN.out (.inr (by omega)))
            have hm1 : (1 : Int) ≤ m := by have := DD.out.2.1; omega
            clear h3 DN
            by_cases h2 : (4294967296 : Int) ≤ r + a
            · have hg2 : decide ((4294967296 : Int) ≤ r + a) = true := decide_eq_true h2
              have B := AsideA.mk (BK.out DD h2)
              clear h2
              go_wp2
              go_meet
              case rel => exact ⟨B.out, ⟨r + a, by go_num⟩, rfl⟩
            · have hg2 : decide ((4294967296 : Int) ≤ r + a) = false := decide_eq_false h2
              have N := AsideA.mk (NX.out DD h2)
              go_wp2
              exact ⟨⟨m - 1, r + a, N.out.1, by go_num, N.out.2⟩, by simp [intOf]; omega⟩
          · have hg3 : decide (4294967296 * (r : Int) + d0' < mb) = false := decide_eq_false h3
            have ST := AsideA.mk (HD.out.2.1.stop (m := m) (r := r) ⟨IV.out.1, IV.out.2.1⟩ (by rw [← HB.out]; omega))
            clear h3 DN
            go_wp2
            go_meet
            case rel => exact ⟨by rw [ST.out], ⟨r, rfl⟩, rfl⟩
    case rest =>
      obtain ⟨rfl, ⟨r17, rfl⟩, rfl⟩ := hcut
      have E6 : AsideA (IntKind.u64.wrap (IntKind.u64.wrap ((q1 : Int) * 4294967296) + q0) = (((hi * 18446744073709551616 + lo) / y : Nat) : Int)) := ⟨by
        rw [FIN.out.1]
        have h1 := HD.out.1.lt
        have h2 := HD.out.2.1.lt
        simp only [IntKind.wrap_u64]
        omega⟩
      have E7 : AsideA (IntKind.u64.wrap (IntKind.u64.wrap (IntKind.u64.wrap ((v : Int) * 4294967296) + d0') - IntKind.u64.wrap ((q0 : Int) * Y)) / 2 ^ s = (((hi * 18446744073709551616 + lo) % y : Nat) : Int)) := ⟨by
        rw [rest_wrap _ _ _ _ HD.out.2.1.rest.2 (Nat.lt_trans HD.out.2.1.rest.1 HD.out.2.2.2.1), ← FIN.out.2]
        push_cast
        rfl⟩
      clear FIN HD
      have hs := HS.out
      go_wp2
      go_ret2
      rw [E6.out, E7.out]
      exact ⟨rfl, BB.out⟩

/-- whatever the words, where the quotient fits -/
theorem xDiv64 (hi lo y : Nat) (hl : lo < 18446744073709551616) (hlt : hi < y) (hy : y < 18446744073709551616) (w : World) :
    Calls Try.prog 66 #[.int .u64 hi, .int .u64 lo, .int .u64 y] w fun e w' => e = .returned (.tuple #[.int .u64 (((hi * 18446744073709551616 + lo) / y : Nat) : Int), .int .u64 (((hi * 18446744073709551616 + lo) % y : Nat) : Int)]) ∧ Below w.heap.size w w' := by
  by_cases h0 : hi = 0
  · subst h0
    rw [Nat.zero_mul, Nat.zero_add]
    exact div_small lo y hl hlt hy w
  · obtain ⟨s, hs, hb, h1, h2⟩ := norm y (by omega) hy
    exact div_great hi lo y s (by omega) hl hlt hy hs hb h1 h2 w
end Go.Proofs.Ytbeiphfmdmccmaa.A

/-
  The program's by, Down and Up (exacts): floored, or raised, or too great.
-/
namespace Go.Proofs.Ytbeiphfmdmccmaa.A
set_option linter.unusedVariables false
set_option linter.unusedSimpArgs false
open Go.RowKit

def bx (a num den : Int) : Int × Int × Int :=
  if a < 0 ∨ num < 0 ∨ den < 1 then (0, 0, 1)
  else if (a.toNat * num.toNat / den.toNat : Nat) ≤ 9223372036854775807 then (((a.toNat * num.toNat / den.toNat : Nat) : Int), ((a.toNat * num.toNat % den.toNat : Nat) : Int), 0) else (0, 0, 10)

set_option maxHeartbeats 1000000 in
set_option maxRecDepth 100000 in
theorem xby_bad (a num den : Int) (h : a < 0 ∨ num < 0 ∨ den < 1) (w : World) : Calls Try.prog 54 #[.int .i64 a, .int .i64 num, .int .i64 den] w fun e w' => e = .returned (.tuple #[.int .i64 0, .int .u64 0, .int .i64 1]) ∧ Below w.heap.size w w' := by
  have BB := AsideA.mk (Below.refl w.heap.size w)
  by_cases h1 : a < 0
  · have d1 : decide (a < 0) = true := decide_eq_true h1
    clear h h1
    go_enter Try.func54, Try.ntmps54
    go_wp2
    go_ret3
    exact ⟨rfl, BB.out⟩
  · have d1 : decide (a < 0) = false := decide_eq_false h1
    by_cases h2 : num < 0
    · have d2 : decide (num < 0) = true := decide_eq_true h2
      clear h h1 h2
      go_enter Try.func54, Try.ntmps54
      go_wp2
      go_ret3
      exact ⟨rfl, BB.out⟩
    · have d2 : decide (num < 0) = false := decide_eq_false h2
      have d3 : decide (den < 1) = true := decide_eq_true (by omega)
      clear h h1 h2
      go_enter Try.func54, Try.ntmps54
      go_wp2
      go_ret3
      exact ⟨rfl, BB.out⟩

set_option maxHeartbeats 2000000 in
set_option maxRecDepth 100000 in
theorem xby_good (A N D : Nat) (hA : (A : Int) ≤ 9223372036854775807) (hN : (N : Int) ≤ 9223372036854775807) (hD : (D : Int) ≤ 9223372036854775807) (h0 : 0 < D) (w : World) :
    Calls Try.prog 54 #[.int .i64 (A : Int), .int .i64 (N : Int), .int .i64 (D : Int)] w fun e w' => e = .returned (.tuple #[.int .i64 (bx A N D).1, .int .u64 (bx A N D).2.1, .int .i64 (bx A N D).2.2]) ∧ Below w.heap.size w w' := by
  have BB := AsideA.mk (Below.refl w.heap.size w)
  have d1 : decide ((A : Int) < 0) = false := decide_eq_false (by omega)
  have d2 : decide ((N : Int) < 0) = false := decide_eq_false (by omega)
  have d3 : decide ((D : Int) < 1) = false := decide_eq_false (by omega)
  have MU := AsideA.mk (xMul64 A N (by omega) (by omega))
  have hB : bx A N D = if A * N / D ≤ 9223372036854775807 then (((A * N / D : Nat) : Int), ((A * N % D : Nat) : Int), 0) else (0, 0, 10) := by
    unfold bx
    rw [if_neg (by omega)]
    simp only [Int.toNat_natCast]
  have DV := fun (h : A * N / 18446744073709551616 < D) => xDiv64 (A * N / 18446744073709551616) (A * N % 18446744073709551616) D (Nat.mod_lt _ (by omega)) h (by omega)
  rw [show A * N / 18446744073709551616 * 18446744073709551616 + A * N % 18446744073709551616 = A * N by rw [Nat.mul_comm]; exact Nat.div_add_mod _ _] at DV
  generalize A * N = M at *
  rw [hB]
  clear hB
  by_cases hi : M / 18446744073709551616 < D
  · have DV' := AsideA.mk (DV hi)
    have hg : decide ((D : Int) ≤ ((M / 18446744073709551616 : Nat) : Int)) = false := decide_eq_false (by omega)
    have hg' : ¬ D ≤ M / 18446744073709551616 := by omega
    clear DV
    by_cases hq : M / D ≤ 9223372036854775807
    · rw [if_pos hq]
      have hq' : ((M / D : Nat) : Int) ≤ 9223372036854775807 := by omega
      clear hq hi
      generalize M / 18446744073709551616 = x at *
      generalize M % 18446744073709551616 = y at *
      generalize M / D = q at *
      generalize M % D = r at *
      go_enter Try.func54, Try.ntmps54
      go_wp2_with (first | (go_at_call 30; refine (MU.out _).mono ?_; rintro e wq ⟨rfl, hq⟩; have BN := AsideA.mk (below_call BB.out hq); clear hq BB; have BB := BN; clear BN) | (go_at_call 66; refine (DV'.out _).mono ?_; rintro e wq ⟨rfl, hq⟩; have BN := AsideA.mk (below_call BB.out hq); clear hq BB; have BB := BN; clear BN))
      go_ret3
      exact ⟨rfl, BB.out⟩
    · rw [if_neg hq]
      have hq' : decide (9223372036854775807 < ((M / D : Nat) : Int)) = true := decide_eq_true (by omega)
      clear hq hi
      generalize M / 18446744073709551616 = x at *
      generalize M % 18446744073709551616 = y at *
      generalize M / D = q at *
      generalize M % D = r at *
      go_enter Try.func54, Try.ntmps54
      go_wp2_with (first | (go_at_call 30; refine (MU.out _).mono ?_; rintro e wq ⟨rfl, hq⟩; have BN := AsideA.mk (below_call BB.out hq); clear hq BB; have BB := BN; clear BN) | (go_at_call 66; refine (DV'.out _).mono ?_; rintro e wq ⟨rfl, hq⟩; have BN := AsideA.mk (below_call BB.out hq); clear hq BB; have BB := BN; clear BN))
      go_ret3
      exact ⟨rfl, BB.out⟩
  · rw [if_neg (by
      have : 18446744073709551616 ≤ M / D := by
        rw [Nat.le_div_iff_mul_le h0]
        have := Nat.div_mul_le_self M 18446744073709551616
        have := Nat.mul_le_mul_right 18446744073709551616 (Nat.le_of_not_lt hi)
        omega
      omega)]
    have hg' : D ≤ M / 18446744073709551616 := by omega
    clear hi DV
    generalize M / 18446744073709551616 = x at *
    generalize M % 18446744073709551616 = y at *
    go_enter Try.func54, Try.ntmps54
    go_wp2_with (first | (go_at_call 30; refine (MU.out _).mono ?_; rintro e wq ⟨rfl, hq⟩; have BN := AsideA.mk (below_call BB.out hq); clear hq BB; have BB := BN; clear BN))
    go_ret3
    exact ⟨rfl, BB.out⟩
end Go.Proofs.Ytbeiphfmdmccmaa.A

/-
  The program's Down and Up (exacts) are the reference's.
-/
namespace Go.Proofs.Ytbeiphfmdmccmaa.A
set_option linter.unusedVariables false
set_option linter.unusedSimpArgs false
open Go.RowKit

theorem xby (a num den : Int) (ha : in64 a) (hn : in64 num) (hd : in64 den) (w : World) :
    Calls Try.prog 54 #[.int .i64 a, .int .i64 num, .int .i64 den] w fun e w' => e = .returned (.tuple #[.int .i64 (bx a num den).1, .int .u64 (bx a num den).2.1, .int .i64 (bx a num den).2.2]) ∧ Below w.heap.size w w' := by
  by_cases h : a < 0 ∨ num < 0 ∨ den < 1
  · rw [show bx a num den = (0, 0, 1) by unfold bx; rw [if_pos h]]
    exact xby_bad a num den h w
  · have ea : ((a.toNat : Nat) : Int) = a := by omega
    have en : ((num.toNat : Nat) : Int) = num := by omega
    have ed : ((den.toNat : Nat) : Int) = den := by omega
    have h1 := ha.2
    have h2 := hn.2
    have h3 := hd.2
    generalize a.toNat = A at *
    generalize num.toNat = N at *
    generalize den.toNat = D at *
    subst ea en ed
    exact xby_good A N D h1 h2 h3 (by omega) w

theorem bx_down (a num den : Int) : byf a num den false = ((bx a num den).1, (bx a num den).2.2) := by
  unfold byf bx
  split
  · rfl
  · rw [if_neg (by simp), Nat.add_zero]
    generalize a.toNat * num.toNat / den.toNat = q
    split
    · rename_i h
      exact fit_in ⟨by omega, by omega⟩
    · rename_i h
      exact fit_out (fun hh => h (by have := hh.2; omega))

theorem bx_up (a num den : Int) : byf a num den true = if (bx a num den).2.2 = 0 ∧ 0 < (bx a num den).2.1 then fit ((bx a num den).1 + 1) else ((bx a num den).1, (bx a num den).2.2) := by
  unfold byf bx
  split
  · rfl
  · generalize a.toNat * num.toNat / den.toNat = q
    generalize a.toNat * num.toNat % den.toNat = r
    by_cases h : q ≤ 9223372036854775807
    · rw [if_pos h]
      by_cases hr : r = 0
      · subst hr
        simp
        exact fit_in ⟨by omega, by omega⟩
      · rw [if_pos ⟨rfl, hr⟩, if_pos ⟨rfl, by show (0 : Int) < r; omega⟩]
        congr 1
    · rw [if_neg h]
      simp only [show ¬ ((10 : Int) = 0 ∧ (0 : Int) < 0) by omega, if_false]
      split
      · exact fit_out (fun hh => by have := hh.2; omega)
      · exact fit_out (fun hh => by have := hh.2; omega)
theorem bx_in (a num den : Int) : in64 (bx a num den).1 ∧ 0 ≤ (bx a num den).2.1 := by
  unfold bx
  split
  · exact ⟨⟨by decide, by decide⟩, by decide⟩
  · generalize a.toNat * num.toNat / den.toNat = q
    generalize a.toNat * num.toNat % den.toNat = r
    split
    · rename_i h
      exact ⟨⟨by show _ ≤ (q : Int); omega, by show (q : Int) ≤ _; omega⟩, by show (0 : Int) ≤ (r : Int); omega⟩
    · exact ⟨⟨by decide, by decide⟩, by decide⟩

set_option maxHeartbeats 1000000 in
set_option maxRecDepth 100000 in
theorem xdown (a num den : Int) (ha : in64 a) (hn : in64 num) (hd : in64 den) (w : World) : Calls Try.prog 26 #[.int .i64 a, .int .i64 num, .int .i64 den] w fun e w' => e = .returned (.tuple #[.int .i64 (byf a num den false).1, .int .i64 (byf a num den false).2]) ∧ Below w.heap.size w w' := by
  have B := AsideA.mk (xby a num den ha hn hd)
  rw [bx_down]
  clear ha hn hd
  generalize bx a num den = r at *
  go_enter Try.func26, Try.ntmps26
  go_wp2_with (go_at_call 54; refine (B.out _).mono ?_; rintro e wq ⟨rfl, hq⟩; have BN := AsideA.mk hq; clear hq)
  go_ret2
  exact ⟨rfl, BN.out⟩

set_option maxHeartbeats 1000000 in
set_option maxRecDepth 100000 in
theorem xup (a num den : Int) (ha : in64 a) (hn : in64 num) (hd : in64 den) (w : World) : Calls Try.prog 28 #[.int .i64 a, .int .i64 num, .int .i64 den] w fun e w' => e = .returned (.tuple #[.int .i64 (byf a num den true).1, .int .i64 (byf a num den true).2]) ∧ Below w.heap.size w w' := by
  have B := AsideA.mk (xby a num den ha hn hd)
  have hi := bx_in a num den
  rw [bx_up]
  clear ha hn hd
  generalize bx a num den = r at *
  obtain ⟨q, l, e⟩ := r
  have AD := AsideA.mk (xadd q 1 hi.1 ⟨by decide, by decide⟩)
  simp only at hi B ⊢
  have hl := hi.2
  clear hi
  by_cases h1 : e = 0
  · subst h1
    by_cases h2 : 0 < l
    · rw [if_pos ⟨rfl, h2⟩]
      generalize fit (q + 1) = s at *
      go_enter Try.func28, Try.ntmps28
      go_wp2_with (first | (go_at_call 54; refine (B.out _).mono ?_; rintro e wq ⟨rfl, hq⟩; have BN := AsideA.mk hq; clear hq) | (go_at_call 14; refine (AD.out _).mono ?_; rintro e wp ⟨rfl, hq⟩; have BM := AsideA.mk (below_call BN.out hq); clear hq))
      go_ret2
      exact ⟨rfl, BM.out⟩
    · rw [if_neg (fun h => h2 h.2)]
      have d2 : decide (0 < l) = false := decide_eq_false h2
      go_enter Try.func28, Try.ntmps28
      go_wp2_with (go_at_call 54; refine (B.out _).mono ?_; rintro e wq ⟨rfl, hq⟩; have BN := AsideA.mk hq; clear hq)
      go_ret2
      exact ⟨rfl, BN.out⟩
  · rw [if_neg (fun h => h1 h.1)]
    have d1 : (e == 0) = false := beq_eq_false_iff_ne.mpr h1
    clear h1
    go_enter Try.func28, Try.ntmps28
    go_wp2_with (go_at_call 54; refine (B.out _).mono ?_; rintro e wq ⟨rfl, hq⟩; have BN := AsideA.mk hq; clear hq)
    go_ret2
    exact ⟨rfl, BN.out⟩
end Go.Proofs.Ytbeiphfmdmccmaa.A

