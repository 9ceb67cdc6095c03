/-
  The reference's Short (countinghouseref06.Short).
-/
import Derived.Test.YtjopmkfpghdlpaaN5
import Derived.Test.YtjopmkfpghdlpaaQ8
namespace Go.Proofs.Ytjopmkfpghdlpaa.A
set_option linter.unusedVariables false
set_option linter.unusedSimpArgs false
open Go.RowKit

theorem Way.unique {E : Nat → Nat → Prop} {D : List Int} {f : Nat} {P Q : List Nat} (h : Way E D f P) (k : Way E D f Q) (hp : (P.length : Int) = gi D f + 1) (hq : (Q.length : Int) = gi D f + 1) : P = Q := by
  have hl : P.length = Q.length := by omega
  have one : ∀ i, i < P.length → gn P i = gn Q i := by
    intro i
    induction i with
    | zero => intro _; rw [h.first, k.first]
    | succ i ih =>
      intro hi
      have e := ih (by omega)
      have d1 := h.dist (i + 1) hi
      have d2 := k.dist (i + 1) (by omega)
      have d3 := h.dist i (by omega)
      have d4 := k.dist i (by omega)
      rcases Nat.lt_trichotomy (gn P (i + 1)) (gn Q (i + 1)) with lt | eq | gt
      · exact absurd (by rw [← e]; exact h.edge i hi) (k.least i (by omega) (gn P (i + 1)) (h.rng (i + 1) hi).1 lt (by omega))
      · exact eq
      · exact absurd (by rw [e]; exact k.edge i (by omega)) (h.least i hi (gn Q (i + 1)) (k.rng (i + 1) (by omega)).1 gt (by omega))
  refine List.ext_getElem hl fun i h1 h2 => ?_
  have := one i h1
  unfold gn at this
  rw [List.getD_eq_getElem?_getD, List.getD_eq_getElem?_getD, List.getElem?_eq_getElem h1, List.getElem?_eq_getElem h2] at this
  exact this
theorem ShortIs.unique {cp : List Int} {f t : Nat} {P Q : List Nat} (h : ShortIs cp f t P) (k : ShortIs cp f t Q) : P = Q := by
  rcases h with ⟨h1, h2, h3, D, hD, h⟩ | ⟨h1, h2⟩ <;> rcases k with ⟨k1, k2, k3, D', hD', k⟩ | ⟨k1, k2⟩
  · have e := hD.unique hD'
    subst e
    rcases h with ⟨h5, h6⟩ | ⟨h5, h6, h7, _⟩ <;> rcases k with ⟨k5, k6⟩ | ⟨k5, k6, k7, _⟩
    · rw [h6, k6]
    · exact absurd h5 k5
    · exact absurd k5 h5
    · exact h6.unique k6 h7 k7
  · exact absurd ⟨h1, h2, h3⟩ k1
  · exact absurd ⟨k1, k2, k3⟩ h1
  · rw [h2, k2]

theorem info4s : (Try.prog.info? 4).map (·.size) = some 1 := by kernel_rfl
theorem run_idx83 (V : Array Value) (i : Nat) (hi : i < 17) (v : Value) (hv : V[i]? = some v) (w : World) : (Instr.index 83 (.agg V) (.int .u8 (i : Int))).run Try.prog w = .ok v w := by
  have h0 : (0 : Int) ≤ (i : Int) ∧ (i : Int) < ((17 : Nat) : Int) := by omega
  have hn : (i : Int).toNat = i := Int.toNat_natCast i
  obtain ⟨inf, h1, h2⟩ := Option.map_eq_some_iff.1 info4s
  have hs : (sizeOf 4).run Try.prog w = .ok 1 w := by
    unfold sizeOf
    simp [typeInfo, Sem.run_bind, h1, h2]
  have ha : (isAgg 4).run Try.prog w = .ok false w := by
    unfold isAgg
    rw [Sem.run_bind, run_underlying Try.underlying4 w]
    rfl
  have hp : (part 4 V (i * 1)).run Try.prog w = .ok v w := by
    unfold part
    rw [Sem.run_bind, ha]
    simp only [Result.andThen_ok, Nat.mul_one, hv]
    rfl
  unfold Instr.index
  have ai : (asIntOf (.int .u8 (i : Int))).run Try.prog w = .ok (.u8, (i : Int)) w := rfl
  rw [Sem.run_bind, ai]
  simp only [Result.andThen_ok]
  rw [Sem.run_bind, run_underlying Try.underlying83 w]
  simp only [Result.andThen_ok]
  rw [if_pos h0, Sem.run_bind, hs]
  simp only [Result.andThen_ok, hn]
  exact hp

set_option maxHeartbeats 4000000 in
set_option maxRecDepth 100000 in
theorem rshort_bad (G : Option Addr) (cp : List Int) (f t : Nat) (w : World) (h : ¬ (okp f = true ∧ okp t = true ∧ f ≠ t)) (hf : f < 256) (ht : t < 256) : Calls Try.prog 27 #[.pointer G, .int .u8 (f : Int), .int .u8 (t : Int)] w fun e w' => e = .returned (.slice none 0 0) ∧ Below w.heap.size w w' := by
  have BB := AsideA.mk (Below.refl w.heap.size w)
  have hk : ¬ ((1 ≤ f ∧ f ≤ 16) ∧ (1 ≤ t ∧ t ≤ 16) ∧ f ≠ t) := fun hh => h ⟨decide_eq_true hh.1, decide_eq_true hh.2.1, hh.2.2⟩
  clear h
  by_cases q0 : f < 1
  · have d0 : decide ((f : Int) < 1) = true := decide_eq_true (by omega)
    clear hk
    go_enter Try.func27, Try.ntmps27
    go_wp2
    go_ret
    exact ⟨rfl, BB.out⟩
  have d0 : decide ((f : Int) < 1) = false := decide_eq_false (by omega)
  by_cases q1 : 16 < f
  · have d1 : decide ((16 : Int) < (f : Int)) = true := decide_eq_true (by omega)
    clear hk
    go_enter Try.func27, Try.ntmps27
    go_wp2
    go_ret
    exact ⟨rfl, BB.out⟩
  have d1 : decide ((16 : Int) < (f : Int)) = false := decide_eq_false (by omega)
  by_cases q2 : t < 1
  · have d2 : decide ((t : Int) < 1) = true := decide_eq_true (by omega)
    clear hk
    go_enter Try.func27, Try.ntmps27
    go_wp2
    go_ret
    exact ⟨rfl, BB.out⟩
  have d2 : decide ((t : Int) < 1) = false := decide_eq_false (by omega)
  by_cases q3 : 16 < t
  · have d3 : decide ((16 : Int) < (t : Int)) = true := decide_eq_true (by omega)
    clear hk
    go_enter Try.func27, Try.ntmps27
    go_wp2
    go_ret
    exact ⟨rfl, BB.out⟩
  have d3 : decide ((16 : Int) < (t : Int)) = false := decide_eq_false (by omega)
  have e : f = t := by omega
  have d4 : ((f : Int) == (t : Int)) = true := beq_iff_eq.mpr (by omega)
  clear hk e
  go_enter Try.func27, Try.ntmps27
  go_wp2
  go_ret
  exact ⟨rfl, BB.out⟩

set_option maxHeartbeats 4000000 in
set_option maxRecDepth 100000 in
theorem rshort_none (g : Nat) (cp D : List Int) (f t : Nat) (w : World) (H : RgAt w g (flo cp ps16)) (hD : Hops (Edg cp) t D) (hf1 : 1 ≤ f) (hf2 : f ≤ 16) (ht1 : 1 ≤ t) (ht2 : t ≤ 16) (hne : f ≠ t) (h17 : gi D f = 17) : Calls Try.prog 27 #[.pointer (some ⟨g, 0, none⟩), .int .u8 (f : Int), .int .u8 (t : Int)] w fun e w' => e = .returned (.slice none 0 0) ∧ Below w.heap.size w w' := by
  have d0 : decide ((f : Int) < 1) = false := decide_eq_false (by omega)
  have d1 : decide ((16 : Int) < (f : Int)) = false := decide_eq_false (by omega)
  have d2 : decide ((t : Int) < 1) = false := decide_eq_false (by omega)
  have d3 : decide ((16 : Int) < (t : Int)) = false := decide_eq_false (by omega)
  have d4 : ((f : Int) == (t : Int)) = false := beq_eq_false_iff_ne.mpr (by omega)
  have HT := tells_flo cp
  have CR := AsideA.mk (ref_reach g (flo cp ps16) f 16 w H (fun e he => by have := HT.1 e he; omega) (by omega) (Nat.le_refl 16))
  have hb : gb (reachF (flo cp ps16) f 16) t = false := Bool.eq_false_iff.2 fun e => by have := (reach_hops HT hD ht1 ht2 16 f hf1 hf2 (Nat.le_refl 16)).1 e; omega
  have hq := toldV_at (reachF (flo cp ps16) f 16) t (by rw [reach_len]; omega)
  rw [hb] at hq
  have kn := fun (wz : World) => run_idx83 (toldV (reachF (flo cp ps16) f 16)) t (by omega) (.bool false) hq wz
  have t0 : (0 : Int) ≤ (t : Int) := by omega
  have t1 : (t : Int) < 17 := by omega
  generalize toldV (reachF (flo cp ps16) f 16) = V at *
  clear HT hb H hD h17
  go_enter Try.func27, Try.ntmps27
  go_wp2_with (go_at_call 55; refine CR.out.mono ?_; rintro e w' ⟨rfl, hb⟩; have BB := AsideA.mk hb; clear hb)
  go_ret
  exact ⟨rfl, BB.out⟩
end Go.Proofs.Ytjopmkfpghdlpaa.A

