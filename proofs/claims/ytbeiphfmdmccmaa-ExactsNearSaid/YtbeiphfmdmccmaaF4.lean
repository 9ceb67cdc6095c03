/-
  The law ExactsNear, its walk.
-/
import Derived.Test.YtbeiphfmdmccmaaF1
import Derived.Laws.Externs
namespace Go.Proofs.Ytbeiphfmdmccmaa.A
set_option linter.unusedVariables false
set_option linter.unusedSimpArgs false
open Go.RowKit

/-- the model's own entry for Sub64, read out of its table -/
noncomputable def subEntry : Array Value → Sem Value := (Extern.find Try.f31).getD fun _ => pure (.bool false)
theorem subEntry_found : Extern.find Try.f31 = some subEntry := by kernel_rfl
theorem run_sub (x y : Nat) (w : World) : (subEntry #[.int .u64 (x : Int), .int .u64 (y : Int), .int .u64 0]).run Try.prog w =
      .ok (.tuple #[.int .u64 (((x + 18446744073709551616 - y - 0) % 18446744073709551616 : Nat) : Int), .int .u64 ((if x < y + 0 then 1 else 0 : Nat) : Int)]) w := by kernel_rfl
theorem run_sub1 (x y : Nat) (w : World) : (subEntry #[.int .u64 (x : Int), .int .u64 (y : Int), .int .u64 1]).run Try.prog w =
      .ok (.tuple #[.int .u64 (((x + 18446744073709551616 - y - 1) % 18446744073709551616 : Nat) : Int), .int .u64 ((if x < y + 1 then 1 else 0 : Nat) : Int)]) w := by kernel_rfl
theorem xSub64 (x y b : Nat) (hb : b ≤ 1) (w : World) :
    (callFunc 31 #[.int .u64 (x : Int), .int .u64 (y : Int), .int .u64 (b : Int)]).run Try.prog w =
      .ok (.value (.tuple #[.int .u64 (((x + 18446744073709551616 - y - b) % 18446744073709551616 : Nat) : Int), .int .u64 ((if x < y + b then 1 else 0 : Nat) : Int)])) w := by
  have : b = 0 ∨ b = 1 := by omega
  rw [run_callFunc_extern Try.func31 (by kernel_rfl) (by kernel_rfl) (by kernel_rfl) (e := subEntry) subEntry_found]
  rcases this with rfl | rfl
  · exact congrArg (fun r => Result.andThen r _) (run_sub x y w)
  · exact congrArg (fun r => Result.andThen r _) (run_sub1 x y w)

/-- a case of the walk: what Down and Up answer is given -/
abbrev Near (a num den : Int) (w : World) : Prop := Calls Try.prog 7 #[.int .i64 a, .int .i64 num, .int .i64 den] w fun e w' => e = .returned (.bool true) ∧ Below w.heap.size w w'

set_option maxHeartbeats 2000000 in
set_option maxRecDepth 100000 in
theorem near_bad (a num den : Int) (h : a < 0 ∨ num < 0 ∨ den < 1) (A1 : AsideA (Gives2 26 #[.int .i64 a, .int .i64 num, .int .i64 den] (0, 1))) (A2 : AsideA (Gives2 28 #[.int .i64 a, .int .i64 num, .int .i64 den] (0, 1))) (w : World) : Near a num den w := by
  have BB := AsideA.mk (Below.refl w.heap.size w)
  unfold Near
  by_cases h1 : a < 0
  · have d1 : decide (a < 0) = true := decide_eq_true h1
    clear h h1
    go_enter Try.func7, Try.ntmps7
    go_wp2_with (first | (go_at_call 26; refine (A1.out _).mono ?_; rintro e wq ⟨rfl, hq⟩; have BN := AsideA.mk (below_call BB.out hq); clear hq BB; have BB := BN; clear BN) | (go_at_call 28; refine (A2.out _).mono ?_; rintro e wq ⟨rfl, hq⟩; have BN := AsideA.mk (below_call BB.out hq); clear hq BB; have BB := BN; clear BN) | (go_at_call 21; refine (lives01 _).mono ?_; rintro e wq ⟨rfl, hq⟩; have BN := AsideA.mk (below_call BB.out hq); clear hq BB; have BB := BN; clear BN))
    go_ret
    exact ⟨rfl, BB.out⟩
  · have d1 : decide (a < 0) = false := decide_eq_false h1
    by_cases h2 : num < 0
    · have d2 : decide (num < 0) = true := decide_eq_true h2
      clear h h1 h2
      go_enter Try.func7, Try.ntmps7
      go_wp2_with (first | (go_at_call 26; refine (A1.out _).mono ?_; rintro e wq ⟨rfl, hq⟩; have BN := AsideA.mk (below_call BB.out hq); clear hq BB; have BB := BN; clear BN) | (go_at_call 28; refine (A2.out _).mono ?_; rintro e wq ⟨rfl, hq⟩; have BN := AsideA.mk (below_call BB.out hq); clear hq BB; have BB := BN; clear BN) | (go_at_call 21; refine (lives01 _).mono ?_; rintro e wq ⟨rfl, hq⟩; have BN := AsideA.mk (below_call BB.out hq); clear hq BB; have BB := BN; clear BN))
      go_ret
      exact ⟨rfl, BB.out⟩
    · have d2 : decide (num < 0) = false := decide_eq_false h2
      have d3 : decide (den < 1) = true := decide_eq_true (by omega)
      clear h h1 h2
      go_enter Try.func7, Try.ntmps7
      go_wp2_with (first | (go_at_call 26; refine (A1.out _).mono ?_; rintro e wq ⟨rfl, hq⟩; have BN := AsideA.mk (below_call BB.out hq); clear hq BB; have BB := BN; clear BN) | (go_at_call 28; refine (A2.out _).mono ?_; rintro e wq ⟨rfl, hq⟩; have BN := AsideA.mk (below_call BB.out hq); clear hq BB; have BB := BN; clear BN) | (go_at_call 21; refine (lives01 _).mono ?_; rintro e wq ⟨rfl, hq⟩; have BN := AsideA.mk (below_call BB.out hq); clear hq BB; have BB := BN; clear BN))
      go_ret
      exact ⟨rfl, BB.out⟩

set_option maxHeartbeats 2000000 in
set_option maxRecDepth 100000 in
theorem near_over (A N D x y : Nat) (hA : (A : Int) ≤ 9223372036854775807) (hN : (N : Int) ≤ 9223372036854775807) (hD : (D : Int) ≤ 9223372036854775807) (h0 : 0 < D) (A1 : AsideA (Gives2 26 #[.int .i64 (A : Int), .int .i64 (N : Int), .int .i64 (D : Int)] (0, 10))) (A2 : AsideA (Gives2 28 #[.int .i64 (A : Int), .int .i64 (N : Int), .int .i64 (D : Int)] (0, 10)))
    (MU : AsideA (∀ w : World, Calls Try.prog 30 #[.int .u64 (A : Int), .int .u64 (N : Int)] w fun e w' => e = .returned (.tuple #[.int .u64 (x : Int), .int .u64 (y : Int)]) ∧ Below w.heap.size w w'))
    (hxy : (D : Int) / 2 < x ∨ ((x : Int) = (D : Int) / 2 ∧ IntKind.u64.wrap (D * 9223372036854775808) ≤ (y : Int))) (w : World) : Near A N D w := by
  have BB := AsideA.mk (Below.refl w.heap.size w)
  unfold Near
  have d1 : decide ((A : Int) < 0) = false := decide_eq_false (by omega)
  have d2 : decide ((N : Int) < 0) = false := decide_eq_false (by omega)
  have d3 : decide ((D : Int) < 1) = false := decide_eq_false (by omega)
  rcases hxy with hx | ⟨hx, hy⟩
  · have d4 : decide ((D : Int) / 2 < x) = true := decide_eq_true hx
    clear hx
    go_enter Try.func7, Try.ntmps7
    go_wp2_with (first | (go_at_call 26; refine (A1.out _).mono ?_; rintro e wq ⟨rfl, hq⟩; have BN := AsideA.mk (below_call BB.out hq); clear hq BB; have BB := BN; clear BN) | (go_at_call 28; refine (A2.out _).mono ?_; rintro e wq ⟨rfl, hq⟩; have BN := AsideA.mk (below_call BB.out hq); clear hq BB; have BB := BN; clear BN) | (go_at_call 30; refine (MU.out _).mono ?_; rintro e wq ⟨rfl, hq⟩; have BN := AsideA.mk (below_call BB.out hq); clear hq BB; have BB := BN; clear BN) | (go_at_call 21; refine (lives01 _).mono ?_; rintro e wq ⟨rfl, hq⟩; have BN := AsideA.mk (below_call BB.out hq); clear hq BB; have BB := BN; clear BN))
    go_ret
    exact ⟨rfl, BB.out⟩
  · have d4 : decide ((D : Int) / 2 < x) = false := decide_eq_false (by omega)
    have d5 : decide ((x : Int) = (D : Int) / 2) = true := decide_eq_true hx
    have d6 : decide (IntKind.u64.wrap (D * 9223372036854775808) ≤ (y : Int)) = true := decide_eq_true hy
    clear hy
    go_enter Try.func7, Try.ntmps7
    go_wp2_with (first | (go_at_call 26; refine (A1.out _).mono ?_; rintro e wq ⟨rfl, hq⟩; have BN := AsideA.mk (below_call BB.out hq); clear hq BB; have BB := BN; clear BN) | (go_at_call 28; refine (A2.out _).mono ?_; rintro e wq ⟨rfl, hq⟩; have BN := AsideA.mk (below_call BB.out hq); clear hq BB; have BB := BN; clear BN) | (go_at_call 30; refine (MU.out _).mono ?_; rintro e wq ⟨rfl, hq⟩; have BN := AsideA.mk (below_call BB.out hq); clear hq BB; have BB := BN; clear BN) | (go_at_call 21; refine (lives01 _).mono ?_; rintro e wq ⟨rfl, hq⟩; have BN := AsideA.mk (below_call BB.out hq); clear hq BB; have BB := BN; clear BN))
    all_goals go_ret
    all_goals exact ⟨rfl, BB.out⟩

/-- the two differences of words: of `x 2^64 + y` by `q D` -/
abbrev Sub (x y b : Int) (d o : Int) : Prop := ∀ w : World, (callFunc 31 #[.int .u64 x, .int .u64 y, .int .u64 b]).run Try.prog w = .ok (.value (.tuple #[.int .u64 d, .int .u64 o])) w

set_option maxHeartbeats 2000000 in
set_option maxRecDepth 100000 in
theorem near_fits (A N D x y q r h l o : Nat) (U : Int × Int) (hA : (A : Int) ≤ 9223372036854775807) (hN : (N : Int) ≤ 9223372036854775807) (hD : (D : Int) ≤ 9223372036854775807) (h0 : 0 < D) (hq : (q : Int) ≤ 9223372036854775807) (hr : r < D) (A1 : AsideA (Gives2 26 #[.int .i64 (A : Int), .int .i64 (N : Int), .int .i64 (D : Int)] (q, 0))) (A2 : AsideA (Gives2 28 #[.int .i64 (A : Int), .int .i64 (N : Int), .int .i64 (D : Int)] U))
    (MU : AsideA (∀ w : World, Calls Try.prog 30 #[.int .u64 (A : Int), .int .u64 (N : Int)] w fun e w' => e = .returned (.tuple #[.int .u64 (x : Int), .int .u64 (y : Int)]) ∧ Below w.heap.size w w'))
    (MV : AsideA (∀ w : World, Calls Try.prog 30 #[.int .u64 (q : Int), .int .u64 (D : Int)] w fun e w' => e = .returned (.tuple #[.int .u64 (h : Int), .int .u64 (l : Int)]) ∧ Below w.heap.size w w'))
    (S1 : AsideA (Sub y l 0 r o)) (S2 : AsideA (Sub x h o 0 0))
    (hU : (r = 0 ∧ U = ((q : Int), 0)) ∨ (0 < r ∧ (q : Int) < 9223372036854775807 ∧ U = (wrap64 ((q : Int) + 1), 0)) ∨ (0 < r ∧ (q : Int) = 9223372036854775807 ∧ U = (0, 10))) (w : World) : Near A N D w := by
  have BB := AsideA.mk (Below.refl w.heap.size w)
  unfold Near
  have d1 : decide ((A : Int) < 0) = false := decide_eq_false (by omega)
  have d2 : decide ((N : Int) < 0) = false := decide_eq_false (by omega)
  have d3 : decide ((D : Int) < 1) = false := decide_eq_false (by omega)
  have d4 : decide ((D : Int) ≤ (r : Int)) = false := decide_eq_false (by omega)
  rcases hU with ⟨rfl, rfl⟩ | ⟨hr0, hq1, rfl⟩ | ⟨hr0, hq1, rfl⟩
  · clear hr
    go_enter Try.func7, Try.ntmps7
    go_wp2_with (first | (go_at_call 26; refine (A1.out _).mono ?_; rintro e wq ⟨rfl, hq⟩; have BN := AsideA.mk (below_call BB.out hq); clear hq BB; have BB := BN; clear BN) | (go_at_call 28; refine (A2.out _).mono ?_; rintro e wq ⟨rfl, hq⟩; have BN := AsideA.mk (below_call BB.out hq); clear hq BB; have BB := BN; clear BN) | (go_at_call 30; (first | (with_reducible refine (MU.out _).mono ?_) | (with_reducible refine (MV.out _).mono ?_)); rintro e wq ⟨rfl, hq⟩; have BN := AsideA.mk (below_call BB.out hq); clear hq BB; have BB := BN; clear BN) | (simp only [S1.out, S2.out]) | (go_at_call 21; refine (lives01 _).mono ?_; rintro e wq ⟨rfl, hq⟩; have BN := AsideA.mk (below_call BB.out hq); clear hq BB; have BB := BN; clear BN))
    go_ret
    exact ⟨rfl, BB.out⟩
  · have d5 : ((r : Int) == 0) = false := beq_eq_false_iff_ne.mpr (by omega)
    have d6 : ((q : Int) == 9223372036854775807) = false := beq_eq_false_iff_ne.mpr (by omega)
    have hr1 : ¬ D ≤ r := by omega
    clear hr hr0 hq1
    go_enter Try.func7, Try.ntmps7
    go_wp2_with (first | (go_at_call 26; refine (A1.out _).mono ?_; rintro e wq ⟨rfl, hq⟩; have BN := AsideA.mk (below_call BB.out hq); clear hq BB; have BB := BN; clear BN) | (go_at_call 28; refine (A2.out _).mono ?_; rintro e wq ⟨rfl, hq⟩; have BN := AsideA.mk (below_call BB.out hq); clear hq BB; have BB := BN; clear BN) | (go_at_call 30; (first | (with_reducible refine (MU.out _).mono ?_) | (with_reducible refine (MV.out _).mono ?_)); rintro e wq ⟨rfl, hq⟩; have BN := AsideA.mk (below_call BB.out hq); clear hq BB; have BB := BN; clear BN) | (simp only [S1.out, S2.out]) | (go_at_call 21; refine (lives01 _).mono ?_; rintro e wq ⟨rfl, hq⟩; have BN := AsideA.mk (below_call BB.out hq); clear hq BB; have BB := BN; clear BN))
    go_ret
    exact ⟨rfl, BB.out⟩
  · have d5 : ((r : Int) == 0) = false := beq_eq_false_iff_ne.mpr (by omega)
    have d6 : ((q : Int) == 9223372036854775807) = true := beq_iff_eq.mpr (by omega)
    have hr1 : ¬ D ≤ r := by omega
    clear hr hq1 hr0
    go_enter Try.func7, Try.ntmps7
    go_wp2_with (first | (go_at_call 26; refine (A1.out _).mono ?_; rintro e wq ⟨rfl, hq⟩; have BN := AsideA.mk (below_call BB.out hq); clear hq BB; have BB := BN; clear BN) | (go_at_call 28; refine (A2.out _).mono ?_; rintro e wq ⟨rfl, hq⟩; have BN := AsideA.mk (below_call BB.out hq); clear hq BB; have BB := BN; clear BN) | (go_at_call 30; (first | (with_reducible refine (MU.out _).mono ?_) | (with_reducible refine (MV.out _).mono ?_)); rintro e wq ⟨rfl, hq⟩; have BN := AsideA.mk (below_call BB.out hq); clear hq BB; have BB := BN; clear BN) | (simp only [S1.out, S2.out]) | (go_at_call 21; refine (lives01 _).mono ?_; rintro e wq ⟨rfl, hq⟩; have BN := AsideA.mk (below_call BB.out hq); clear hq BB; have BB := BN; clear BN))
    go_ret
    exact ⟨rfl, BB.out⟩

theorem over_words (D M x y : Nat) (hD : (D : Int) ≤ 9223372036854775807) (hx : x = M / 18446744073709551616) (hy : y = M % 18446744073709551616) (hM : (D : Int) * 9223372036854775808 ≤ (M : Int)) :
    (D : Int) / 2 < x ∨ ((x : Int) = (D : Int) / 2 ∧ IntKind.u64.wrap (D * 9223372036854775808) ≤ (y : Int)) := by
  rw [IntKind.wrap_u64]
  have h1 : (M : Int) = x * 18446744073709551616 + y := by omega
  have h2 : (y : Int) < 18446744073709551616 := by omega
  clear hx hy
  omega
theorem fits_words (M P r x y h l o : Nat) (hr : (r : Int) < 18446744073709551616) (hx : x = M / 18446744073709551616) (hy : y = M % 18446744073709551616) (hh : h = P / 18446744073709551616) (hl : l = P % 18446744073709551616) (hM : M = P + r) (hMM : (M : Int) < 340282366920938463463374607431768211456) (ho : o = if y < l + 0 then 1 else 0) :
    AsideA (Sub y l 0 r o) ∧ AsideA (Sub x h o 0 0) := by
  have h1 : (M : Int) = x * 18446744073709551616 + y := by omega
  have h2 : (y : Int) < 18446744073709551616 := by omega
  have h3 : (P : Int) = h * 18446744073709551616 + l := by omega
  have h4 : (l : Int) < 18446744073709551616 := by omega
  have h5 : (x : Int) < 18446744073709551616 := by omega
  clear hx hy hh hl hMM
  have e1 : (((y + 18446744073709551616 - l - 0) % 18446744073709551616 : Nat) : Int) = r := by
    have : ((y + 18446744073709551616 - l - 0 : Nat) : Int) = y + 18446744073709551616 - l := by omega
    rw [Int.natCast_emod, this]
    omega
  have e2 : o = 0 ∧ (x : Int) = h ∨ o = 1 ∧ (x : Int) = h + 1 := by
    split at ho <;> omega
  refine ⟨⟨fun w => ?_⟩, ⟨fun w => ?_⟩⟩
  · have := xSub64 y l 0 (by omega) w
    rw [e1, ← ho] at this
    exact this
  · have := xSub64 x h o (by omega) w
    rcases e2 with ⟨rfl, e⟩ | ⟨rfl, e⟩
    · have e3 : (((x + 18446744073709551616 - h - 0) % 18446744073709551616 : Nat) : Int) = 0 := by
        have : x = h := by omega
        subst this
        rw [show x + 18446744073709551616 - x - 0 = 18446744073709551616 by omega]
        rfl
      have e4 : (((if x < h + 0 then 1 else 0 : Nat)) : Int) = 0 := by rw [if_neg (by omega)]; rfl
      rw [e3, e4] at this
      exact this
    · have e3 : (((x + 18446744073709551616 - h - 1) % 18446744073709551616 : Nat) : Int) = 0 := by
        have : x = h + 1 := by omega
        subst this
        rw [show h + 1 + 18446744073709551616 - h - 1 = 18446744073709551616 by omega]
        rfl
      have e4 : (((if x < h + 1 then 1 else 0 : Nat)) : Int) = 0 := by rw [if_neg (by omega)]; rfl
      rw [e3, e4] at this
      exact this

theorem byf_good (A N D : Nat) (h0 : 0 < D) (up : Bool) : byf A N D up = fit ((A * N / D + (if up = true ∧ A * N % D ≠ 0 then 1 else 0) : Nat) : Int) := by
  unfold byf
  rw [if_neg (by omega)]
  simp only [Int.toNat_natCast]

theorem law_near_good (A N D : Nat) (hA : (A : Int) ≤ 9223372036854775807) (hN : (N : Int) ≤ 9223372036854775807) (hD : (D : Int) ≤ 9223372036854775807) (h0 : 0 < D) (w : World) : Near A N D w := by
  have i1 : in64 (A : Int) := ⟨by omega, hA⟩
  have i2 : in64 (N : Int) := ⟨by omega, hN⟩
  have i3 : in64 (D : Int) := ⟨by omega, hD⟩
  have A1 : Gives2 26 #[.int .i64 (A : Int), .int .i64 (N : Int), .int .i64 (D : Int)] (byf A N D false) := xdown A N D i1 i2 i3
  have A2 : Gives2 28 #[.int .i64 (A : Int), .int .i64 (N : Int), .int .i64 (D : Int)] (byf A N D true) := xup A N D i1 i2 i3
  have MU := xMul64 A N (by omega) (by omega)
  rw [byf_good A N D h0] at A1 A2
  rw [if_neg (by simp), Nat.add_zero] at A1
  have hb : (A : Int) * N ≤ 9223372036854775807 * 9223372036854775807 := Int.mul_le_mul hA hN (by omega) (by decide)
  have hMM : ((A * N : Nat) : Int) < 340282366920938463463374607431768211456 := by
    rw [Int.natCast_mul]
    exact Int.lt_of_le_of_lt hb (by decide)
  clear hb
  generalize A * N = M at *
  have hdm : M = M / D * D + M % D := by rw [Nat.mul_comm]; exact (Nat.div_add_mod _ _).symm
  have hr : M % D < D := Nat.mod_lt _ h0
  generalize hq : M / D = q at *
  generalize hrr : M % D = r at *
  by_cases hfit : (q : Int) ≤ 9223372036854775807
  · have MV := xMul64 q D (by omega) (by omega)
    rw [fit_in ⟨by omega, hfit⟩] at A1
    obtain ⟨S1, S2⟩ := fits_words M (q * D) r (M / 18446744073709551616) (M % 18446744073709551616) (q * D / 18446744073709551616) (q * D % 18446744073709551616) _ (by omega) rfl rfl rfl rfl hdm hMM rfl
    refine near_fits A N D _ _ q r _ _ _ _ hA hN hD h0 hfit hr ⟨A1⟩ ⟨A2⟩ ⟨MU⟩ ⟨MV⟩ S1 S2 ?_ w
    by_cases hr0 : r = 0
    · left
      refine ⟨hr0, ?_⟩
      rw [if_neg (by simp [hr0]), Nat.add_zero]
      exact fit_in ⟨by omega, hfit⟩
    · rw [if_pos ⟨rfl, hr0⟩]
      by_cases hm : (q : Int) = 9223372036854775807
      · exact .inr (.inr ⟨by omega, hm, fit_out (fun hh => by have := hh.2; omega)⟩)
      · refine .inr (.inl ⟨by omega, by omega, ?_⟩)
        rw [show ((q + 1 : Nat) : Int) = (q : Int) + 1 by omega, fit_in ⟨by omega, by omega⟩, show wrap64 ((q : Int) + 1) = (q : Int) + 1 by unfold wrap64; omega]
  · have hM : (D : Int) * 9223372036854775808 ≤ (M : Int) := by
      rw [hdm, Int.natCast_add, Int.natCast_mul, Int.mul_comm]
      have := Int.mul_le_mul_of_nonneg_right (show (9223372036854775808 : Int) ≤ q by omega) (show (0 : Int) ≤ D by omega)
      omega
    rw [fit_out (fun hh => hfit hh.2)] at A1
    rw [fit_out (fun hh => by have := hh.2; omega)] at A2
    exact near_over A N D _ _ hA hN hD h0 ⟨A1⟩ ⟨A2⟩ ⟨MU⟩ (over_words D M _ _ hD rfl rfl hM) w

theorem law_near (a num den : Int) (ha : in64 a) (hn : in64 num) (hd : in64 den) (w : World) : Near a num den w := by
  by_cases h : a < 0 ∨ num < 0 ∨ den < 1
  · have A1 : Gives2 26 #[.int .i64 a, .int .i64 num, .int .i64 den] (byf a num den false) := xdown a num den ha hn hd
    have A2 : Gives2 28 #[.int .i64 a, .int .i64 num, .int .i64 den] (byf a num den true) := xup a num den ha hn hd
    unfold byf at A1 A2
    rw [if_pos h] at A1 A2
    exact near_bad a num den h ⟨A1⟩ ⟨A2⟩ w
  · have ea : ((a.toNat : Nat) : Int) = a := by omega
    have en : ((num.toNat : Nat) : Int) = num := by omega
    have ed : ((den.toNat : Nat) : Int) = den := by omega
    have h1 := ha.2
    have h2 := hn.2
    have h3 := hd.2
    generalize a.toNat = A at *
    generalize num.toNat = N at *
    generalize den.toNat = D at *
    subst ea en ed
    exact law_near_good A N D h1 h2 h3 (by omega) w
theorem law_near_wf (a b c : Int) (ha : (Lit.int .i64 a).wf = true) (hb : (Lit.int .i64 b).wf = true) (hc : (Lit.int .i64 c).wf = true) (w : World) : Calls Try.prog 7 #[.int .i64 a, .int .i64 b, .int .i64 c] w fun e w' => e = .returned (.bool true) ∧ Below w.heap.size w w' :=
  law_near a b c (in64_of ha) (in64_of hb) (in64_of hc) w
end Go.Proofs.Ytbeiphfmdmccmaa.A
