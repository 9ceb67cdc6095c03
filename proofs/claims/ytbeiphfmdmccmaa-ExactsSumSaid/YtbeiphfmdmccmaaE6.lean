/-
  The program's Sum (exacts) of whatever slice of numbers.
-/
import Derived.Test.YtbeiphfmdmccmaaE5
namespace Go.Proofs.Ytbeiphfmdmccmaa.A
set_option linter.unusedVariables false
set_option linter.unusedSimpArgs false
open Go.RowKit

def isum : List Int → Int
  | [] => 0
  | x :: r => x + isum r
theorem isum_append (a b : List Int) : isum (a ++ b) = isum a + isum b := by
  induction a with
  | nil => simp [isum]
  | cons x r ih => simp only [List.cons_append, isum, ih]; omega
theorem isum_take (xs : List Int) {k : Nat} (h : k < xs.length) : isum (xs.take (k + 1)) = isum (xs.take k) + xs.getD k 0 := by
  rw [List.take_succ_eq_append_getElem h, isum_append]
  simp [isum, List.getD_eq_getElem?_getD, h]
theorem isum_bound : ∀ (xs : List Int), (∀ x ∈ xs, in64 x) → -(9223372036854775808 * (xs.length : Int)) ≤ isum xs ∧ isum xs ≤ 9223372036854775808 * (xs.length : Int)
  | [], _ => by simp [isum]
  | x :: r, h => by
    have h1 := h x (by simp)
    have h2 := isum_bound r fun y hy => h y (by simp [hy])
    obtain ⟨h3, h4⟩ := h1
    simp only [isum, List.length_cons]
    omega

/-- a slice of n numbers that is read -/
structure Rd (w : World) (A : Option Addr) (xs : List Int) : Prop where
  cells : ∀ j, j < xs.length → ∃ g off, A = some ⟨g, off, none⟩ ∧ w.cell? ⟨g, off + j, none⟩ = some (.int .i64 (xs.getD j 0))
  wf : ∀ x ∈ xs, in64 x
  len : xs.length ≤ 1099511627776
theorem Rd.below {w w1 : World} {A : Option Addr} {xs : List Int} (h : Rd w A xs) (hb : Below w.heap.size w w1) : Rd w1 A xs := by
  refine ⟨fun j hj => ?_, h.wf, h.len⟩
  obtain ⟨g, off, hA, hc⟩ := h.cells j hj
  exact ⟨g, off, hA, (hb.cell (p := ⟨g, off + j, none⟩) (World.block_lt_of_cell? w _ hc)).trans hc⟩

theorem words_end (V n : Int) (h1 : -170141183460469231731687303715884105728 ≤ V) (h2 : V < 170141183460469231731687303715884105728) (hn : n = wrap64 (V % 18446744073709551616)) :
    ((V / 18446744073709551616 % 18446744073709551616 == IntKind.u64.wrap (n / 9223372036854775808)) = true ∧ fit V = (n, 0)) ∨ ((V / 18446744073709551616 % 18446744073709551616 == IntKind.u64.wrap (n / 9223372036854775808)) = false ∧ fit V = (0, 10)) := by
  unfold wrap64 at hn
  by_cases hin : in64 V
  · left
    have hnV : n = V := by obtain ⟨h3, h4⟩ := hin; omega
    rw [fit_in hin, hnV]
    refine ⟨?_, rfl⟩
    rw [beq_iff_eq, IntKind.wrap_u64]
    obtain ⟨h3, h4⟩ := hin
    omega
  · right
    rw [fit_out hin]
    refine ⟨?_, rfl⟩
    rw [beq_eq_false_iff_ne, IntKind.wrap_u64]
    unfold in64 at hin
    intro he
    apply hin
    obtain ⟨H, hH⟩ : ∃ H, H = V / 18446744073709551616 := ⟨_, rfl⟩
    obtain ⟨l, hl⟩ : ∃ l, l = V % 18446744073709551616 := ⟨_, rfl⟩
    have hV : V = H * 18446744073709551616 + l := by omega
    rw [← hH] at he
    rw [← hl] at hn
    have hb : -9223372036854775808 ≤ H ∧ H < 9223372036854775808 := by omega
    have hl0 : 0 ≤ l ∧ l < 18446744073709551616 := by omega
    clear hH hl h1 h2
    by_cases hs : 0 ≤ n
    · rw [show n / 9223372036854775808 = 0 by omega] at he
      have : H = 0 := by omega
      subst this
      omega
    · rw [show n / 9223372036854775808 = -1 by omega] at he
      have : H = -1 := by omega
      subst this
      omega

set_option maxHeartbeats 2000000 in
set_option maxRecDepth 100000 in
theorem xsum (A : Option Addr) (c : Nat) (xs : List Int) (w : World) (R : Rd w A xs) : Calls Try.prog 23 #[.slice A xs.length c] w fun e w' => e = .returned (.tuple #[.int .i64 (fit (isum xs)).1, .int .i64 (fit (isum xs)).2]) ∧ Below w.heap.size w w' := by
  have HR := AsideA.mk R
  clear R
  obtain ⟨len, hlen⟩ : ∃ len, len = xs.length := ⟨_, rfl⟩
  rw [← hlen]
  have HL := AsideA.mk hlen
  have hle : (len : Int) ≤ 1099511627776 := by have := HR.out.len; omega
  clear hlen
  go_enter Try.func23, Try.ntmps23
  go_wp2_with (refine alloc_new 64 rfl rfl _ zero64 (wd 0) rfl ?_; intro g4 w4 N4)
  have I0 : AsideA (w4.heap[g4]? = some (.cells (wd (isum (xs.take 0))) 64 (0, 0)) ∧ Below w.heap.size w w4) := ⟨N4.blk, below_new (Below.refl _ _) N4⟩
  have GE : AsideA (w.heap.size ≤ g4) := ⟨N4.ge (Below.refl _ _)⟩
  clear N4
  go_loopw [10] (fun i wr => ∃ k : Nat, k ≤ len ∧ i = .int .i64 k ∧ AsideA (wr.heap[g4]? = some (.cells (wd (isum (xs.take k))) 64 (0, 0)) ∧ Below w.heap.size w wr)) (fun i _ => len - (intOf i).toNat)
  case atStart => exact ⟨0, by omega, rfl, I0⟩
  case round =>
    obtain ⟨k, hk, rfl, I⟩ := hrel
    clear I0
    by_cases hlt : k < len
    · have hk' : k < xs.length := by have := HL.out; omega
      obtain ⟨g, off, hA, hc⟩ := (HR.out.below I.out.2).cells k hk'
      obtain ⟨x, hx⟩ : ∃ x, x = xs.getD k 0 := ⟨_, rfl⟩
      rw [← hx] at hc
      have hxin : in64 x := by
        rw [hx, List.getD_eq_getElem?_getD, List.getElem?_eq_getElem hk']
        exact HR.out.wf _ (List.getElem_mem hk')
      have PL := AsideA.mk (xplus (isum (xs.take k)) x hxin)
      have T : AsideA (isum (xs.take k) + x = isum (xs.take (k + 1))) := ⟨by rw [isum_take xs hk', ← hx]⟩
      rw [T.out] at PL
      clear hx hxin hk' T
      subst hA
      generalize isum (xs.take k) = V at *
      generalize hV' : isum (xs.take (k + 1)) = V' at PL
      have HV := AsideA.mk hV'
      clear hV'
      go_wp2_with (first | (refine load_at 64 (.tmp 4) rfl rfl g4 0 rfl (wd V) _ Try.underlying64 rfl (size64 _) (blk_at0 I.out.1) ?_) | (go_at_call 52; refine (PL.out _).mono ?_; rintro e wq ⟨rfl, hq⟩; have J := AsideA.mk (And.intro (blk_below I.out.1 hq) (below_call I.out.2 hq)); clear hq I) | (refine store_at 64 (.tmp 4) (.tmp 16) rfl rfl g4 0 rfl (wd V') rfl (wd V) 64 J.out.1 (size64 _) (Nat.le_refl 2) (wd_one _) _ (splice_all _ _ rfl) ?_; intro wp hbp hup; have J2 := AsideA.mk (And.intro hbp (hup.below J.out.2 GE.out)); clear hbp hup J))
      exact ⟨⟨k + 1, by omega, by go_num, by rw [HV.out]; exact J2⟩, by simp [intOf]; omega⟩
    · have e : xs.take k = xs := List.take_of_length_le (by have := HL.out; omega)
      rw [e] at I
      clear e
      have hb := isum_bound xs HR.out.wf
      have hl := HR.out.len
      have W := AsideA.mk (fun n hn => words_end (isum xs) n (by omega) (by omega) hn)
      clear hb hl HR
      generalize hVV : isum xs = V at I W
      have HVV := AsideA.mk hVV
      clear hVV
      have x0 : wr.cell? ⟨g4, 0, none⟩ = some (.int .u64 (V / 18446744073709551616 % 18446744073709551616)) := blk_cell I.out.1 0
      have x1 : wr.cell? ⟨g4, 1, none⟩ = some (.int .u64 (V % 18446744073709551616)) := blk_cell I.out.1 1
      obtain ⟨h, hh⟩ : ∃ h, h = V / 18446744073709551616 % 18446744073709551616 := ⟨_, rfl⟩
      obtain ⟨l, hl⟩ : ∃ l, l = V % 18446744073709551616 := ⟨_, rfl⟩
      rw [← hh] at x0 W
      rw [← hl] at x1 W
      clear hh hl
      go_upto_region 8 with (fail)
      generalize hn : wrap64 l = n
      rcases W.out n hn.symm with ⟨h1, h2⟩ | ⟨h1, h2⟩
      · have H2 := AsideA.mk h2
        clear h2 hn W
        go_wp2
        go_ret2
        rw [HVV.out, H2.out]
        exact ⟨rfl, I.out.2⟩
      · have H2 := AsideA.mk h2
        clear h2 hn W
        go_wp2
        go_ret2
        rw [HVV.out, H2.out]
        exact ⟨rfl, I.out.2⟩
end Go.Proofs.Ytbeiphfmdmccmaa.A
