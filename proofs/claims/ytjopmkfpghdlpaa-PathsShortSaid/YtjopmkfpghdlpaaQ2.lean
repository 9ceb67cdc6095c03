/-
  slices.Clone, IndexFunc, DeleteFunc, for edges; paths.may, and what Round hands to DeleteFunc.
-/
import Derived.Test.YtjopmkfpghdlpaaQ0
import Derived.WalkSpells
namespace Go.Proofs.Ytjopmkfpghdlpaa.A
set_option linter.unusedVariables false
set_option linter.unusedSimpArgs false
open Go.RowKit

theorem info35 : (Try.prog.info? 35).map (fun i => (i.zero, i.size, i.bytes)) = some (some (.agg #[.int .u8 0, .int .u8 0, .int .i8 0]), 3, 3) := by kernel_rfl

set_option maxHeartbeats 2000000 in
set_option maxRecDepth 100000 in
theorem xclone (A : Option Addr) (c : Nat) (es : List Ed) (w : World) (E : Edges w A es) : Calls Try.prog 40 #[.slice A es.length c] w fun e w' => ∃ A' c', e = .returned (.slice A' es.length c') ∧ w'.ownsRow w.heap.size 35 3 (.slice A' es.length c') es.length (encE es) ∧ Below w.heap.size w w' := by
  have HE := AsideA.mk E
  have hlen := E.len
  clear E
  cases A with
  | none =>
    have h0 : es = [] := by
      rcases HE.out.reads with h | ⟨ad, h, _⟩
      · have := encE_len es
        rw [h] at this
        simp at this
        exact List.eq_nil_of_length_eq_zero (by omega)
      · cases h
    subst h0
    have O := AsideA.mk (own_nil w w.heap.size 35 3)
    have BB := AsideA.mk (Below.refl w.heap.size w)
    have kn := fun (w : World) => Lib.run_eql_slice_nil (P := Try.prog) w 29 35 none 0 c 0 0 Try.underlying29
    simp only [List.length_nil] at *
    go_enter Try.func40, Try.ntmps40
    go_wp2
    go_ret
    exact ⟨none, 0, rfl, O.out, BB.out⟩
  | some ad =>
    have kn := fun (w : World) (n : Nat) => Lib.run_eql_slice_nil (P := Try.prog) w 29 35 (some ad) n c 0 0 Try.underlying29
    obtain ⟨len, hl⟩ : ∃ len, len = es.length := ⟨_, rfl⟩
    rw [← hl] at hlen ⊢
    have HL : AsideA ((encE es).length = len * 3) := ⟨by rw [encE_len, hl]⟩
    have O := AsideA.mk (World.ownsRow_made (base := w.heap.size) (e := 35) (size := 3) w #[] 0 (Nat.le_refl _) (by simp [maxLen]) rfl)
    clear hl
    go_enter Try.func40, Try.ntmps40
    go_wp2_with ((with_reducible refine gate (N := 7) rfl ?_); go_loud (refine append_own _ 29 _ _ rfl rfl w.heap.size 35 _ 3 3 Try.underlying29 info35 rfl (by decide) (.slice (some ⟨w.heap.size, 0, none⟩) 0 0) 0 [] rfl O.out (some ad) len c (encE es) rfl HL.out (HE.out.reads.below ((Below.refl _ _).alloc (Nat.le_refl _) _)) (encE_one es) (by simp only [maxLen]; omega) (by omega) (by simp) ?_); intro v' w' o2 g2 p2; have Z := AsideA.mk (And.intro o2 g2); clear o2 g2 p2)
    go_ret
    obtain ⟨A2, c2, rfl⟩ := own_form Z.out.1
    rw [Nat.zero_add] at Z ⊢
    exact ⟨A2, c2, rfl, Z.out.1, below_grown ((Below.refl _ _).alloc (Nat.le_refl _) _) (by simp) O.out Z.out.2⟩

def okp (p : Nat) : Bool := decide (1 ≤ p ∧ p ≤ 16)
def okb (e : Ed) : Bool := okp e.f && okp e.t
theorem okb_iff (e : Ed) : okb e = true ↔ e.ok := by unfold okb okp Ed.ok; simp; omega

set_option maxHeartbeats 1000000 in
theorem xmay (p : Nat) (w : World) : Calls Try.prog 42 #[.int .u8 (p : Int)] w fun e w' => e = .returned (.bool (okp p)) ∧ w = w' := by
  have H := AsideA.mk (show okp p = decide (1 ≤ p ∧ p ≤ 16) from rfl)
  by_cases h1 : 1 ≤ p
  · by_cases h2 : p < 17
    · have d1 : decide ((1 : Int) ≤ (p : Int)) = true := decide_eq_true (by omega)
      have d2 : decide ((p : Int) < 17) = true := decide_eq_true (by omega)
      have R : AsideA (okp p = true) := ⟨by rw [H.out]; exact decide_eq_true (by omega)⟩
      go_enter Try.func42, Try.ntmps42
      go_wp2
      go_ret
      exact ⟨by rw [R.out]; rfl, rfl⟩
    · have d1 : decide ((1 : Int) ≤ (p : Int)) = true := decide_eq_true (by omega)
      have d2 : decide ((p : Int) < 17) = false := decide_eq_false (by omega)
      have R : AsideA (okp p = false) := ⟨by rw [H.out]; exact decide_eq_false (by omega)⟩
      go_enter Try.func42, Try.ntmps42
      go_wp2
      go_ret
      exact ⟨by rw [R.out]; rfl, rfl⟩
  · have d1 : decide ((1 : Int) ≤ (p : Int)) = false := decide_eq_false (by omega)
    have R : AsideA (okp p = false) := ⟨by rw [H.out]; exact decide_eq_false (by omega)⟩
    go_enter Try.func42, Try.ntmps42
    go_wp2
    go_ret
    exact ⟨by rw [R.out]; rfl, rfl⟩

set_option maxHeartbeats 1000000 in
theorem xbad (e : Ed) (w : World) : Calls Try.prog 41 #[.agg (encV e)] w fun e' w' => e' = .returned (.bool (!okb e)) ∧ Below w.heap.size w w' := by
  obtain ⟨f, t, c⟩ := e
  have C1 := AsideA.mk (xmay f)
  have C2 := AsideA.mk (xmay t)
  have H := AsideA.mk (show okb ⟨f, t, c⟩ = (okp f && okp t) from rfl)
  unfold encV
  generalize okb ⟨f, t, c⟩ = r at *
  generalize okp f = b1 at *
  generalize okp t = b2 at *
  cases b1 <;> cases b2
  all_goals
    go_enter Try.func41, Try.ntmps41
    go_wp2_with (first | (go_at_call 42; (with_reducible refine (C1.out _).mono ?_); rintro e w' ⟨rfl, rfl⟩) | (go_at_call 42; (with_reducible refine (C2.out _).mono ?_); rintro e w' ⟨rfl, rfl⟩))
    go_ret
    exact ⟨by rw [H.out]; rfl, (Below.refl _ _).alloc (Nat.le_refl _) _⟩
end Go.Proofs.Ytjopmkfpghdlpaa.A

