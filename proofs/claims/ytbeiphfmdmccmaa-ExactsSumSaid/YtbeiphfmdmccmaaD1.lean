/-
  math/bits.Div64, where the quotient fits: quotient and what is left.
-/
import Derived.Test.YtbeiphfmdmccmaaE2
import Derived.Test.YtbeiphfmdmccmaaD0
import Derived.Test.YtbeiphfmdmccmaaShelf
namespace Go.Proofs.Ytbeiphfmdmccmaa.A
set_option linter.unusedVariables false
set_option linter.unusedSimpArgs false
open Go.RowKit

set_option maxHeartbeats 2000000 in
set_option maxRecDepth 100000 in
theorem div_small (lo y : Nat) (hl : lo < 18446744073709551616) (h0 : 0 < y) (hy : y < 18446744073709551616) (w : World) :
    Calls Try.prog 66 #[.int .u64 0, .int .u64 lo, .int .u64 y] w fun e w' => e = .returned (.tuple #[.int .u64 ((lo / y : Nat) : Int), .int .u64 ((lo % y : Nat) : Int)]) ∧ Below w.heap.size w w' := by
  have BB := AsideA.mk (Below.refl w.heap.size w)
  have E := AsideA.mk (show IntKind.u64.wrap ((lo : Int) / (y : Int)) = ((lo / y : Nat) : Int) by
    have h1 := Nat.div_le_self lo y
    rw [← Int.natCast_ediv]
    generalize lo / y = z at *
    rw [IntKind.wrap_u64]
    omega)
  have h1 : (1 : Int) ≤ y := by omega
  have d1 : ((y : Int) == 0) = false := beq_eq_false_iff_ne.mpr (by omega)
  clear hl hy
  go_enter Try.func66, Try.ntmps66
  go_wp2
  go_quiet (fail)
  go_wp2
  go_ret2
  rw [E.out]
  exact ⟨rfl, below_drewN' BB.out _⟩

theorem or_hi (hi lo y s : Nat) (hlt : hi < y) (hl : lo < 18446744073709551616) (hs : s ≤ 63) (hn2 : y * 2 ^ s < 18446744073709551616) :
    bits .or .u64 (IntKind.u64.wrap ((hi : Int) * 2 ^ s)) ((lo : Int) / 2 ^ (64 - s)) = (((hi * 18446744073709551616 + lo) * 2 ^ s / 18446744073709551616 : Nat) : Int) := by
  have hp : 0 < 2 ^ s := Nat.pos_of_ne_zero (by simp)
  have h1 : hi * 2 ^ s < 18446744073709551616 := Nat.lt_of_le_of_lt (Nat.mul_le_mul_right _ (Nat.le_of_lt hlt)) hn2
  have e1 : (hi : Int) * 2 ^ s = ((hi * 2 ^ s : Nat) : Int) := by push_cast; rfl
  have e2 : (lo : Int) / 2 ^ (64 - s) = ((lo / 2 ^ (64 - s) : Nat) : Int) := by push_cast; rfl
  have hpow : 2 ^ (64 - s) * 2 ^ s = 18446744073709551616 := by rw [← Nat.pow_add, show 64 - s + s = 64 by omega]
  have h2 : lo / 2 ^ (64 - s) < 2 ^ s := by
    rw [Nat.div_lt_iff_lt_mul (Nat.pos_of_ne_zero (by simp)), Nat.mul_comm, hpow]
    exact hl
  have h3 : lo / 2 ^ (64 - s) < 18446744073709551616 := Nat.lt_of_le_of_lt (Nat.div_le_self _ _) hl
  rw [e1, e2, wrapN _ h1, bits_or_u64_nat _ _ h1 h3]
  congr 1
  rw [← Nat.shiftLeft_eq hi s, ← Nat.shiftLeft_add_eq_or_of_lt h2, Nat.shiftLeft_eq]
  rw [← hpow, Nat.add_mul, show hi * (2 ^ (64 - s) * 2 ^ s) * 2 ^ s = (hi * 2 ^ s) * (2 ^ (64 - s) * 2 ^ s) by rw [Nat.mul_right_comm]]
  rw [Nat.add_comm, Nat.add_comm (hi * 2 ^ s * _), Nat.add_mul_div_right _ _ (by rw [hpow]; omega), Nat.mul_div_mul_right _ _ hp]
theorem lo_part (hi lo s : Nat) : lo * 2 ^ s % 18446744073709551616 = (hi * 18446744073709551616 + lo) * 2 ^ s % 18446744073709551616 := by
  rw [Nat.add_mul, Nat.mul_right_comm, Nat.add_comm, Nat.add_mul_mod_self_right]

theorem dig_mod (u a : Nat) (h : u < 18446744073709551616) : IntKind.u64.wrap ((u : Int) - IntKind.u64.wrap ((u : Int) / a * a)) = ((u % a : Nat) : Int) := by
  have h1 := Nat.div_mul_le_self u a
  have h2 := Nat.div_add_mod u a
  rw [← Int.natCast_ediv, mulN, wrapN _ (by omega)]
  rw [Nat.mul_comm] at h2
  generalize u / a * a = z at *
  generalize u % a = t at *
  rw [IntKind.wrap_u64]
  omega
theorem rest_wrap (u d q Y : Nat) (h1 : q * Y ≤ u * 4294967296 + d) (h2 : u * 4294967296 + d - q * Y < 18446744073709551616) :
    IntKind.u64.wrap (IntKind.u64.wrap (IntKind.u64.wrap ((u : Int) * 4294967296) + d) - IntKind.u64.wrap ((q : Int) * Y)) = ((u * 4294967296 + d - q * Y : Nat) : Int) := by
  rw [mulN q Y]
  generalize q * Y = z at *
  simp only [IntKind.wrap_u64]
  omega
set_option maxHeartbeats 4000000 in
set_option maxRecDepth 100000 in
theorem div_great (hi lo y s : Nat) (hh : 0 < hi) (hl : lo < 18446744073709551616) (hlt : hi < y) (hy : y < 18446744073709551616) (hs : s ≤ 63) (hb : Lib.bitLen y = 64 - s) (hn1 : 9223372036854775808 ≤ y * 2 ^ s) (hn2 : y * 2 ^ s < 18446744073709551616) (w : World) :
    Calls Try.prog 66 #[.int .u64 hi, .int .u64 lo, .int .u64 y] w fun e w' => e = .returned (.tuple #[.int .u64 (((hi * 18446744073709551616 + lo) / y : Nat) : Int), .int .u64 (((hi * 18446744073709551616 + lo) % y : Nat) : Int)]) ∧ Below w.heap.size w w' := by
  have LZ : AsideA (∀ w : World, Calls Try.prog 70 #[.int .u64 y] w fun e w' => e = .returned (.int .i64 (s : Int)) ∧ w' = w) := ⟨fun w => by
    have := Try.bits_LeadingZeros64 (y : Int) w (by omega) (by omega)
    rw [Int.toNat_natCast, hb, show (64 : Int) - ((64 - s : Nat) : Int) = (s : Int) by omega] at this
    exact this⟩
  have BB := AsideA.mk (Below.refl w.heap.size w)
  have d1 : ((y : Int) == 0) = false := beq_eq_false_iff_ne.mpr (by omega)
  have d3 : ((hi : Int) == 0) = false := beq_eq_false_iff_ne.mpr (by omega)
  have h0 : 0 < y := by omega
  have EY : IntKind.u64.wrap ((y : Int) * 2 ^ s) = ((y * 2 ^ s : Nat) : Int) := by rw [show (y : Int) * 2 ^ s = ((y * 2 ^ s : Nat) : Int) by push_cast; rfl, wrapN _ hn2]
  have EL : IntKind.u64.wrap ((lo : Int) * 2 ^ s) = ((lo * 2 ^ s % 18446744073709551616 : Nat) : Int) := by rw [show (lo : Int) * 2 ^ s = ((lo * 2 ^ s : Nat) : Int) by push_cast; rfl, wrapM]
  have EU := or_hi hi lo y s hlt hl hs hn2
  have hLL : lo * 2 ^ s % 18446744073709551616 < 18446744073709551616 := Nat.mod_lt _ (by omega)
  have hUY : (hi * 18446744073709551616 + lo) * 2 ^ s / 18446744073709551616 < y * 2 ^ s := by
    rw [Nat.div_lt_iff_lt_mul (by omega), Nat.mul_right_comm]
    exact Nat.mul_lt_mul_of_pos_right (by omega) (Nat.pos_of_ne_zero (by simp))
  have REST := fun u1 q1 q0 => div_whole (hi * 18446744073709551616 + lo) y s (y * 2 ^ s) _ q1 u1 q0 (lo * 2 ^ s % 18446744073709551616 / 4294967296) (lo * 2 ^ s % 18446744073709551616 % 4294967296) rfl rfl (by rw [← lo_part hi lo s]; omega)
  have HE := AsideA.mk (And.intro EY (And.intro EL EU))
  have HR := AsideA.mk REST
  have HU := AsideA.mk (And.intro hLL hUY)
  clear EY EL EU hLL hUY REST
  have HH := AsideA.mk (And.intro hh (And.intro hl (And.intro hlt (And.intro hy (And.intro hn1 hn2)))))
  clear hl hy hb hn1 hn2
  go_enter Try.func66, Try.ntmps66
  go_upto_region 15 with (go_at_call 70; refine (LZ.out _).mono ?_; rintro e wq ⟨rfl, hq⟩; rw [hq])
  rw [HE.out.1, HE.out.2.2, HE.out.2.1, divN, maskN _ HH.out.2.2.2.2.2, divN, maskN _ HU.out.1]
  have HU1 := HU.out
  have HN1 := HH.out.2.2.2.2.1
  have HN2 := HH.out.2.2.2.2.2
  have HR1 := HR.out
  have HS := AsideA.mk hs
  clear HE HU HR LZ hs
  obtain ⟨Y, hY⟩ : ∃ Y, Y = y * 2 ^ s := ⟨_, rfl⟩
  obtain ⟨u, hu⟩ : ∃ u, u = (hi * 18446744073709551616 + lo) * 2 ^ s / 18446744073709551616 := ⟨_, rfl⟩
  obtain ⟨L, hL⟩ : ∃ L, L = lo * 2 ^ s % 18446744073709551616 := ⟨_, rfl⟩
  rw [← hY] at HU1 HN1 HN2 HR1 ⊢
  rw [← hu] at HU1 HR1 ⊢
  rw [← hL] at HU1 HR1 ⊢
  obtain ⟨a, ha⟩ : ∃ a, a = Y / 4294967296 := ⟨_, rfl⟩
  obtain ⟨b, hb⟩ : ∃ b, b = Y % 4294967296 := ⟨_, rfl⟩
  obtain ⟨d1', hd1⟩ : ∃ d, d = L / 4294967296 := ⟨_, rfl⟩
  obtain ⟨d0', hd0⟩ : ∃ d, d = L % 4294967296 := ⟨_, rfl⟩
  rw [← ha, ← hb, ← hd1, ← hd0]
  rw [← hd1, ← hd0] at HR1
  have D1 : Dig u Y a b d1' ((u * 4294967296 + d1') / Y) := ⟨by omega, by omega, by omega, HU1.2, by omega, rfl⟩
  have hd0' : d0' < 4294967296 := by omega
  clear hY hu hL ha hb hd1 hd0
  obtain ⟨q1, hq1⟩ : ∃ q, q = (u * 4294967296 + d1') / Y := ⟨_, rfl⟩
  rw [← hq1] at D1
  obtain ⟨v, hv⟩ : ∃ v, v = u * 4294967296 + d1' - q1 * Y := ⟨_, rfl⟩
  have D2 : Dig v Y a b d0' ((v * 4294967296 + d0') / Y) := ⟨D1.hy, D1.ha, D1.hb, by have := D1.rest; omega, hd0', rfl⟩
  obtain ⟨q0, hq0⟩ : ∃ q, q = (v * 4294967296 + d0') / Y := ⟨_, rfl⟩
  rw [← hq0] at D2
  have FIN := AsideA.mk (HR1 v q1 q0 (by have := D1.rest; omega) (by have := D2.le; omega) (by have := D2.le; omega) (by omega))
  have HD := AsideA.mk (And.intro D1 (And.intro D2 (And.intro hv (And.intro HN2 HU1))))
  clear HR1 hq1 hq0 hv D1 D2 HN1 HN2 HU1 hd0' d1 d3 hh hlt h0 HH
  have E15 : AsideA (IntKind.u64.wrap ((u : Int) / a) = ((u / a : Nat) : Int)) := ⟨by
    have h1 := Nat.div_le_self u a
    have h2 := HD.out.2.2.2.2.2
    have h3 := HD.out.2.2.2.1
    rw [← Int.natCast_ediv]
    generalize u / a = z at *
    rw [IntKind.wrap_u64]
    omega⟩
  have ha1 : (1 : Int) ≤ a := by have := HD.out.1.ha; omega
  go_upto_region 16 with (fail)
  rw [E15.out]
  have E16 : AsideA (IntKind.u64.wrap ((u : Int) - IntKind.u64.wrap ((u : Int) / a * a)) = ((u % a : Nat) : Int)) := ⟨dig_mod u a (by have h2 := HD.out.2.2.2.2.2; have h3 := HD.out.2.2.2.1; omega)⟩
  go_upto_block 0 with (fail)
  rw [E16.out]
  clear E15 E16
  go_cut [15, 16] (fun v15 v16 wc => v15 = .int .u64 q1 ∧ (∃ r : Nat, v16 = .int .u64 r) ∧ w = wc)
  case first =>
    have S := AsideA.mk (HD.out.1.start)
    go_wp2
    go_loop [15, 16] (fun v15 v16 => ∃ m r : Nat, v15 = .int .u64 m ∧ v16 = .int .u64 r ∧ AsideA (Dig.Inv u a q1 m r)) (fun _ v16 => 4294967296 - (intOf v16).toNat)
    case atStart => exact ⟨_, _, rfl, rfl, S⟩
    case round =>
      obtain ⟨m, r, rfl, rfl, IV⟩ := hrel
      clear S
      have hr : (r : Int) ≤ 4294967295 := by have := IV.out.2.2.1; omega
      have hd : (d1' : Int) ≤ 4294967295 := by have := HD.out.1.hd; omega
      have haa : (a : Int) ≤ 4294967295 := by have := HD.out.1.ha; omega
      have ha0 : (1 : Int) ≤ a := by have := HD.out.1.ha; omega
      have hm : (m : Int) ≤ 4294967297 := by have := IV.out.2.2.2; omega
      have hmb : IntKind.u64.wrap ((m : Int) * b) = ((m * b : Nat) : Int) := by
        have h1 := Nat.mul_le_mul IV.out.2.2.2 (show b ≤ 4294967295 by have := HD.out.1.hb; omega)
        rw [mulN, wrapN _ (by omega)]
      obtain ⟨mb, hmb0⟩ : ∃ mb, mb = m * b := ⟨_, rfl⟩
      rw [← hmb0] at hmb
      have HB := AsideA.mk hmb0
      clear hmb0
      have DN := AsideA.mk (fun h => HD.out.1.down IV.out (m := m) (r := r) h)
      rw [← HB.out] at DN
      have brk : ∀ (DD : AsideA (q1 ≤ m - 1 ∧ 1 ≤ m ∧ u = (m - 1) * a + (r + a))), (4294967296 : Int) ≤ r + a → Value.int IntKind.u64 ((m : Int) - 1) = Value.int IntKind.u64 (q1 : Int) := fun DD h => by
        have := HD.out.1.break_ (m := m - 1) (r := r + a) ⟨DD.out.2.2, DD.out.1⟩ (by have := IV.out.2.2.2; omega) (by omega)
        have h3 := DD.out.2.1
        rw [← this]
        congr 1
        omega
      have nxt : ∀ (DD : AsideA (q1 ≤ m - 1 ∧ 1 ≤ m ∧ u = (m - 1) * a + (r + a))), ¬ (4294967296 : Int) ≤ r + a → Value.int IntKind.u64 ((m : Int) - 1) = Value.int IntKind.u64 ((m - 1 : Nat) : Int) ∧ AsideA (Dig.Inv u a q1 (m - 1) (r + a)) := fun DD h => by
        have h3 := DD.out.2.1
        refine ⟨by congr 1; omega, ⟨⟨DD.out.2.2, DD.out.1, by omega, by have := IV.out.2.2.2; omega⟩⟩⟩
      have BK := AsideA.mk brk
      have NX := AsideA.mk nxt
      clear brk nxt
      by_cases h1 : (4294967296 : Int) ≤ m
      · have hg : decide ((4294967296 : Int) ≤ m) = true := decide_eq_true h1
        have DD := AsideA.mk (DN.out (.inl (by omega)))
        have hm1 : (1 : Int) ≤ m := by omega
        clear h1 DN hmb
        by_cases h2 : (4294967296 : Int) ≤ r + a
        · have hg2 : decide ((4294967296 : Int) ≤ r + a) = true := decide_eq_true h2
          have B := AsideA.mk (BK.out DD h2)
          clear h2
          go_wp2
          go_meet
          case rel => exact ⟨B.out, ⟨r + a, by go_num⟩, rfl⟩
        · have hg2 : decide ((4294967296 : Int) ≤ r + a) = false := decide_eq_false h2
          have N := AsideA.mk (NX.out DD h2)
          go_wp2
          exact ⟨⟨m - 1, r + a, N.out.1, by go_num, N.out.2⟩, by simp [intOf]; omega⟩
      · have hg : decide ((4294967296 : Int) ≤ m) = false := decide_eq_false h1
        by_cases h3 : 4294967296 * (r : Int) + d1' < mb
        · have hg3 : decide (4294967296 * (r : Int) + d1' < mb) = true := decide_eq_true h3
          have DD := AsideA.mk (DN.out (.inr (by omega)))
          have hm1 : (1 : Int) ≤ m := by have := DD.out.2.1; omega
          clear h3 DN
          by_cases h2 : (4294967296 : Int) ≤ r + a
          · have hg2 : decide ((4294967296 : Int) ≤ r + a) = true := decide_eq_true h2
            have B := AsideA.mk (BK.out DD h2)
            clear h2
            go_wp2
            go_meet
            case rel => exact ⟨B.out, ⟨r + a, by go_num⟩, rfl⟩
          · have hg2 : decide ((4294967296 : Int) ≤ r + a) = false := decide_eq_false h2
            have N := AsideA.mk (NX.out DD h2)
            go_wp2
            exact ⟨⟨m - 1, r + a, N.out.1, by go_num, N.out.2⟩, by simp [intOf]; omega⟩
        · have hg3 : decide (4294967296 * (r : Int) + d1' < mb) = false := decide_eq_false h3
          have ST := AsideA.mk (HD.out.1.stop (m := m) (r := r) ⟨IV.out.1, IV.out.2.1⟩ (by rw [← HB.out]; omega))
          clear h3 DN
          go_wp2
          go_meet
          case rel => exact ⟨by rw [ST.out], ⟨r, rfl⟩, rfl⟩
  case rest =>
    obtain ⟨rfl, ⟨r16, rfl⟩, rfl⟩ := hcut
    go_upto_region 22 with (fail)
    have E17 : AsideA (IntKind.u64.wrap (IntKind.u64.wrap (IntKind.u64.wrap ((u : Int) * 4294967296) + d1') - IntKind.u64.wrap ((q1 : Int) * Y)) = (v : Int)) := ⟨by
      rw [HD.out.2.2.1]
      exact rest_wrap _ _ _ _ HD.out.1.rest.2 (Nat.lt_trans HD.out.1.rest.1 HD.out.2.2.2.1)⟩
    rw [E17.out]
    clear E17
    have E18 : AsideA (IntKind.u64.wrap ((v : Int) / a) = ((v / a : Nat) : Int)) := ⟨by
      have h1 := Nat.div_le_self v a
      have h2 := HD.out.2.1.hu
      have h3 := HD.out.2.2.2.1
      rw [← Int.natCast_ediv]
      generalize v / a = z at *
      rw [IntKind.wrap_u64]
      omega⟩
    go_upto_region 23 with (fail)
    rw [E18.out]
    have E16 : AsideA (IntKind.u64.wrap ((v : Int) - IntKind.u64.wrap ((v : Int) / a * a)) = ((v % a : Nat) : Int)) := ⟨dig_mod v a (by have h2 := HD.out.2.1.hu; have h3 := HD.out.2.2.2.1; omega)⟩
    go_upto_block 2 with (fail)
    rw [E16.out]
    clear E16 E18
    go_cut [16, 18] (fun v16 v18 wc => v18 = .int .u64 q0 ∧ (∃ r : Nat, v16 = .int .u64 r) ∧ w = wc)
    case first =>
      have S := AsideA.mk (HD.out.2.1.start)
      go_wp2
      go_loop [16, 18] (fun v16 v18 => ∃ m r : Nat, v18 = .int .u64 m ∧ v16 = .int .u64 r ∧ AsideA (Dig.Inv v a q0 m r)) (fun v16 _ => 4294967296 - (intOf v16).toNat)
      case atStart => exact ⟨_, _, rfl, rfl, S⟩
      case round =>
        obtain ⟨m, r, rfl, rfl, IV⟩ := hrel
        clear S
        have hr : (r : Int) ≤ 4294967295 := by have := IV.out.2.2.1; omega
        have hd : (d0' : Int) ≤ 4294967295 := by have := HD.out.2.1.hd; omega
        have haa : (a : Int) ≤ 4294967295 := by have := HD.out.2.1.ha; omega
        have ha0 : (1 : Int) ≤ a := by have := HD.out.2.1.ha; omega
        have hm : (m : Int) ≤ 4294967297 := by have := IV.out.2.2.2; omega
        have hmb : IntKind.u64.wrap ((m : Int) * b) = ((m * b : Nat) : Int) := by
          have h1 := Nat.mul_le_mul IV.out.2.2.2 (show b ≤ 4294967295 by have := HD.out.2.1.hb; omega)
          rw [mulN, wrapN _ (by omega)]
        obtain ⟨mb, hmb0⟩ : ∃ mb, mb = m * b := ⟨_, rfl⟩
        rw [← hmb0] at hmb
        have HB := AsideA.mk hmb0
        clear hmb0
        have DN := AsideA.mk (fun h => HD.out.2.1.down IV.out (m := m) (r := r) h)
        rw [← HB.out] at DN
        have brk : ∀ (DD : AsideA (q0 ≤ m - 1 ∧ 1 ≤ m ∧ v = (m - 1) * a + (r + a))), (4294967296 : Int) ≤ r + a → Value.int IntKind.u64 ((m : Int) - 1) = Value.int IntKind.u64 (q0 : Int) := fun DD h => by
          have := HD.out.2.1.break_ (m := m - 1) (r := r + a) ⟨DD.out.2.2, DD.out.1⟩ (by have := IV.out.2.2.2; omega) (by omega)
          have h3 := DD.out.2.1
          rw [← this]
          congr 1
          omega
        have nxt : ∀ (DD : AsideA (q0 ≤ m - 1 ∧ 1 ≤ m ∧ v = (m - 1) * a + (r + a))), ¬ (4294967296 : Int) ≤ r + a → Value.int IntKind.u64 ((m : Int) - 1) = Value.int IntKind.u64 ((m - 1 : Nat) : Int) ∧ AsideA (Dig.Inv v a q0 (m - 1) (r + a)) := fun DD h => by
          have h3 := DD.out.2.1
          refine ⟨by congr 1; omega, ⟨⟨DD.out.2.2, DD.out.1, by omega, by have := IV.out.2.2.2; omega⟩⟩⟩
        have BK := AsideA.mk brk
        have NX := AsideA.mk nxt
        clear brk nxt
        by_cases h1 : (4294967296 : Int) ≤ m
        · have hg : decide ((4294967296 : Int) ≤ m) = true := decide_eq_true h1
          have DD := AsideA.mk (DN.out (.inl (by omega)))
          have hm1 : (1 : Int) ≤ m := by omega
          clear h1 DN hmb
          by_cases h2 : (4294967296 : Int) ≤ r + a
          · have hg2 : decide ((4294967296 : Int) ≤ r + a) = true := decide_eq_true h2
            have B := AsideA.mk (BK.out DD h2)
            clear h2
            go_wp2
            go_meet
            case rel => exact ⟨B.out, ⟨r + a, by go_num⟩, rfl⟩
          · have hg2 : decide ((4294967296 : Int) ≤ r + a) = false := decide_eq_false h2
            have N := AsideA.mk (NX.out DD h2)
            go_wp2
            exact ⟨⟨m - 1, r + a, N.out.1, by go_num, N.out.2⟩, by simp [intOf]; omega⟩
        · have hg : decide ((4294967296 : Int) ≤ m) = false := decide_eq_false h1
          by_cases h3 : 4294967296 * (r : Int) + d0' < mb
          · have hg3 : decide (4294967296 * (r : Int) + d0' < mb) = true := decide_eq_true h3
            have DD := AsideA.mk (DN.out (.inr (by omega)))
            have hm1 : (1 : Int) ≤ m := by have := DD.out.2.1; omega
            clear h3 DN
            by_cases h2 : (4294967296 : Int) ≤ r + a
            · have hg2 : decide ((4294967296 : Int) ≤ r + a) = true := decide_eq_true h2
              have B := AsideA.mk (BK.out DD h2)
              clear h2
              go_wp2
              go_meet
              case rel => exact ⟨B.out, ⟨r + a, by go_num⟩, rfl⟩
            · have hg2 : decide ((4294967296 : Int) ≤ r + a) = false := decide_eq_false h2
              have N := AsideA.mk (NX.out DD h2)
              go_wp2
              exact ⟨⟨m - 1, r + a, N.out.1, by go_num, N.out.2⟩, by simp [intOf]; omega⟩
          · have hg3 : decide (4294967296 * (r : Int) + d0' < mb) = false := decide_eq_false h3
            have ST := AsideA.mk (HD.out.2.1.stop (m := m) (r := r) ⟨IV.out.1, IV.out.2.1⟩ (by rw [← HB.out]; omega))
            clear h3 DN
            go_wp2
            go_meet
            case rel => exact ⟨by rw [ST.out], ⟨r, rfl⟩, rfl⟩
    case rest =>
      obtain ⟨rfl, ⟨r17, rfl⟩, rfl⟩ := hcut
      have E6 : AsideA (IntKind.u64.wrap (IntKind.u64.wrap ((q1 : Int) * 4294967296) + q0) = (((hi * 18446744073709551616 + lo) / y : Nat) : Int)) := ⟨by
        rw [FIN.out.1]
        have h1 := HD.out.1.lt
        have h2 := HD.out.2.1.lt
        simp only [IntKind.wrap_u64]
        omega⟩
      have E7 : AsideA (IntKind.u64.wrap (IntKind.u64.wrap (IntKind.u64.wrap ((v : Int) * 4294967296) + d0') - IntKind.u64.wrap ((q0 : Int) * Y)) / 2 ^ s = (((hi * 18446744073709551616 + lo) % y : Nat) : Int)) := ⟨by
        rw [rest_wrap _ _ _ _ HD.out.2.1.rest.2 (Nat.lt_trans HD.out.2.1.rest.1 HD.out.2.2.2.1), ← FIN.out.2]
        push_cast
        rfl⟩
      clear FIN HD
      have hs := HS.out
      go_wp2
      go_ret2
      rw [E6.out, E7.out]
      exact ⟨rfl, BB.out⟩

/-- whatever the words, where the quotient fits -/
theorem xDiv64 (hi lo y : Nat) (hl : lo < 18446744073709551616) (hlt : hi < y) (hy : y < 18446744073709551616) (w : World) :
    Calls Try.prog 66 #[.int .u64 hi, .int .u64 lo, .int .u64 y] w fun e w' => e = .returned (.tuple #[.int .u64 (((hi * 18446744073709551616 + lo) / y : Nat) : Int), .int .u64 (((hi * 18446744073709551616 + lo) % y : Nat) : Int)]) ∧ Below w.heap.size w w' := by
  by_cases h0 : hi = 0
  · subst h0
    rw [Nat.zero_mul, Nat.zero_add]
    exact div_small lo y hl hlt hy w
  · obtain ⟨s, hs, hb, h1, h2⟩ := norm y (by omega) hy
    exact div_great hi lo y s (by omega) hl hlt hy hs hb h1 h2 w
end Go.Proofs.Ytbeiphfmdmccmaa.A
