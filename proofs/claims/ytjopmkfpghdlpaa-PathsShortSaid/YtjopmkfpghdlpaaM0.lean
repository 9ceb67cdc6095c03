/-
  Graph.Edges, its walk.
-/
import Derived.Test.YtjopmkfpghdlpaaN9
namespace Go.Proofs.Ytjopmkfpghdlpaa.A
set_option linter.unusedVariables false
set_option linter.unusedSimpArgs false
open Go.RowKit

theorem flo_wf17 {cp : List Int} (hp : ∀ i, 0 ≤ gi cp i ∧ gi cp i ≤ 2199023255552) : ∀ x ∈ flo cp ps17, x.wf := by
  intro x hx
  obtain ⟨p, hpm, e1, e2, e3, e4⟩ := mem_flo hx
  obtain ⟨i, hi, rfl⟩ := List.mem_map.1 hpm
  have hi' := List.mem_range.1 hi
  have := hp (x.f * 17 + x.t)
  unfold Fl.wf
  simp only at e1 e2
  omega

set_option maxHeartbeats 16000000 in
set_option maxRecDepth 100000 in
theorem xedges (g : Nat) (cp : List Int) (w : World) (hl : cp.length = 289) (hp : ∀ i, 0 ≤ gi cp i ∧ gi cp i ≤ 2199023255552) (h : w.heap[g]? = some (.cells (grV cp) 98 (0, 0))) :
    Calls Try.prog 28 #[.pointer (some ⟨g, 0, none⟩)] w fun e w' => ∃ A, e = .returned (.slice A (flo cp ps17).length (flo cp ps17).length) ∧ Flows w' A (flo cp ps17) ∧ Below w.heap.size w w' := by
  have CT := AsideA.mk (there_some g w ((blk_cell h 289).trans (grV_made cp hl)))
  have HC : AsideA (∀ j, j < (dV cp).size → w.cell? ⟨g, 0 + j, none⟩ = (dV cp)[j]?) := ⟨fun j hj => by
    rw [Nat.zero_add, blk_cell h j, grV_dV cp j (by rw [dV_size] at hj; exact hj)]⟩
  have HL := AsideA.mk hl
  have HW := AsideA.mk (flo_wf17 hp)
  have RL := AsideA.mk (fun (a : Nat) (ha : a < 17) => rowOf_len cp a hl ha)
  have CL := AsideA.mk xclip
  have I0 : AsideA (StAt w w (.slice none 0 0) 0 (flo cp (ps17.take (0 * 17)))) := ⟨⟨own_nil _ _ _ _, Below.refl _ _⟩⟩
  clear h hp hl
  go_enter Try.func28, Try.ntmps28
  go_wp2_with (first
    | (go_at_call 53; refine CT.out.mono ?_; rintro e w' ⟨rfl, rfl⟩)
    | ((with_reducible refine gate (N := 13) rfl ?_); refine load_at 96 (.tmp 12) rfl rfl g 0 rfl (dV cp) _ Try.underlying96 rfl (size96 cp HL.out) HC.out ?_))
  go_loopw [2, 14] (fun ov av wr => ∃ (a m c : Nat) (A : Option Addr), a ≤ 17 ∧ av = .int .i64 (a : Int) ∧ ov = .slice A m c ∧ AsideA (StAt w wr ov m (flo cp (ps17.take (a * 17))))) (fun _ av _ => 17 - (intOf av).toNat)
  case atStart => exact ⟨0, 0, 0, none, by omega, rfl, rfl, I0⟩
  case round =>
    clear I0
    obtain ⟨a, m, c, A, ha, rfl, rfl, I⟩ := hrel
    by_cases hlt : a < 17
    · have dl : decide ((a : Int) < 17) = true := decide_eq_true (by omega)
      have kn96 := run_idx96 cp a hlt
      have kn87 := run_idx87 (rowOf cp a) (RL.out a hlt)
      have RA := AsideA.mk (RL.out a hlt)
      have RAT := AsideA.mk (rowOf_at cp a)
      generalize rowOf cp a = row at *
      go_wp2_with (first
        | ((with_reducible refine gate (N := 4) rfl ?_); refine alloc_new 87 rfl rfl _ zero87 (dV (List.replicate 17 0)) rfl ?_; intro ge w4 N4)
        | ((with_reducible refine gate (N := 18) rfl ?_); refine load_at 87 (.tmp 4) rfl rfl ge 0 rfl (dV row) _ Try.underlying87 rfl (size87 row RA.out) (blk_at0 Z5.out.1) ?_)
        | (refine store_at 87 (.tmp 4) (.tmp 17) rfl rfl ge 0 rfl (dV row) rfl _ _ N4.blk (size87 row RA.out) (by rw [dV_size, dV_size, RA.out]; decide) (dV_one _) (dV row) (splice_all _ _ (by rw [dV_size, dV_size, RA.out]; rfl)) ?_; intro w5 b5 u5; have Z5 := AsideA.mk (And.intro b5 (I.out.later (u5.below N4.below (Nat.le_of_eq N4.at_.symm)))); clear b5 u5 N4))
      have J0 : AsideA (StAt w w5 (.slice A m c) m (flo cp (ps17.take (a * 17 + 0)))) := ⟨Z5.out.2⟩
      clear Z5 I kn96
      go_loopw [2, 19] (fun ov bv wr => ∃ (b m c : Nat) (A : Option Addr), b ≤ 17 ∧ bv = .int .i64 (b : Int) ∧ ov = .slice A m c ∧ AsideA (StAt w wr ov m (flo cp (ps17.take (a * 17 + b))))) (fun _ bv _ => 17 - (intOf bv).toNat)
      case atStart => exact ⟨0, m, c, A, by omega, rfl, rfl, J0⟩
      case round =>
        clear J0
        obtain ⟨b, m, c, A, hb, rfl, rfl, I⟩ := hrel
        by_cases hlt2 : b < 17
        · have dl2 : decide ((b : Int) < 17) = true := decide_eq_true (by omega)
          have kn := kn87 b hlt2
          rw [RAT.out b hlt2] at kn
          have hm := I.out.few17
          obtain ⟨v, hv⟩ : ∃ v, v = gi cp (a * 17 + b) := ⟨_, rfl⟩
          rw [← hv] at kn
          have QN := AsideA.mk hv.symm
          have RB := AsideA.mk (show a ≤ 16 ∧ b ≤ 16 by omega)
          have a0 : (0 : Int) ≤ (a : Int) := by omega
          have a1 : (a : Int) < 17 := by omega
          have b0 : (0 : Int) ≤ (b : Int) := by omega
          have b1 : (b : Int) < 17 := by omega
          clear hv
          by_cases hv : 0 < v
          · have dv : decide (0 < v) = true := decide_eq_true hv
            have HV := AsideA.mk hv
            clear hv kn87
            go_wp2_with ((with_reducible refine gate (N := 33) rfl ?_); go_loud (refine append_own _ 22 _ _ rfl rfl w.heap.size 32 _ 3 16 Try.underlying22 info32 rfl (by decide) (.slice A m c) m (encF (flo cp (ps17.take (a * 17 + b)))) rfl (own_alloc I.out.own _) (some ⟨wr.heap.size, 0, none⟩) 1 1 (encF [⟨a, b, v⟩]) rfl rfl (reads_built wr 32 (encF [⟨a, b, v⟩])) (encF_one _) (by simp only [maxLen]; omega) (by omega) (Nat.le_trans I.out.below.size ((Below.refl wr.heap.size wr).alloc (Nat.le_refl _) _).size) ?_); intro v6 w6 o6 g6 p6; obtain ⟨A6, c6, e6⟩ := own_form o6; subst e6; have S6 := AsideA.mk (StAt.next17 (I.out.push ((Below.refl _ _).alloc (Nat.le_refl _) _) o6 g6) RB.out.1 RB.out.2 QN.out HV.out); clear o6 g6 p6)
            exact ⟨⟨b + 1, _, _, _, by omega, by go_num, rfl, S6⟩, by simp [intOf]; omega⟩
          · have dv : decide (0 < v) = false := decide_eq_false hv
            have S6 := AsideA.mk (StAt.skip17 I.out RB.out.1 RB.out.2 QN.out (by omega))
            clear hv kn87
            go_wp2
            exact ⟨⟨b + 1, _, _, _, by omega, by go_num, rfl, S6⟩, by simp [intOf]; omega⟩
        · have hb17 : b = 17 := by omega
          subst hb17
          have IE : AsideA (StAt w wr (.slice A m c) m (flo cp (ps17.take ((a + 1) * 17)))) := ⟨by rw [show (a + 1) * 17 = a * 17 + 17 by omega]; exact I.out⟩
          clear I hlt2 kn87
          rw [show ((17 : Nat) : Int) = 17 from rfl]
          go_wp2
          exact ⟨⟨a + 1, m, c, A, by omega, by go_num, rfl, IE⟩, by simp [intOf]; omega⟩
    · have ha17 : a = 17 := by omega
      subst ha17
      have hk : ps17.take (17 * 17) = ps17 := List.take_of_length_le (by rw [ps17_len]; omega)
      rw [hk] at I
      have hn : m = (flo cp ps17).length := by
        have h1 := I.out.own.1
        rw [encF_len] at h1
        omega
      have hn2 : m ≤ 289 := by
        have := flo_len cp ps17
        rw [ps17_len] at this
        omega
      have FF : AsideA (Flows wr A (flo cp ps17)) := ⟨⟨own_reads I.out.own, HW.out, by omega⟩⟩
      have hmc : m ≤ c := by
        rcases I.out.own.2 with ⟨h1, _⟩ | ⟨g', cap, cur, h1, _, _, h4, _⟩
        · cases h1
          exact Nat.le_refl _
        · cases h1
          exact h4
      have CW := AsideA.mk (CL.out A m c hmc (by omega) wr)
      have HN := AsideA.mk hn
      clear hlt hk hn hn2 hmc
      rw [show ((17 : Nat) : Int) = 17 from rfl]
      go_wp2_with (go_at_call 36; refine CW.out.mono ?_; rintro e w' ⟨rfl, rfl⟩)
      go_ret
      exact ⟨A, by rw [← HN.out]; rfl, FF.out, I.out.below⟩
end Go.Proofs.Ytjopmkfpghdlpaa.A

