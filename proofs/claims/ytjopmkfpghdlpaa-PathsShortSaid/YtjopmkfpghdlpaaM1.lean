/-
  The law PathsShort: the reference's Short as a whole.
-/
import Derived.Test.YtjopmkfpghdlpaaN7
import Derived.Test.YtjopmkfpghdlpaaN3
import Derived.Test.YtjopmkfpghdlpaaM0
import Derived.Test.YtjopmkfpghdlpaaY4
namespace Go.Proofs.Ytjopmkfpghdlpaa.A
set_option linter.unusedVariables false
set_option linter.unusedSimpArgs false
open Go.RowKit

theorem ShAt.bytes {w wr : World} {A : Option Addr} {n c : Nat} {P : List Nat} (h : ShAt w wr (.slice A n c) n P) (hs : ∀ b ∈ P, b < 256) (hl : (P.length : Int) ≤ 1099511627776) : Bytes wr A P := ⟨own_reads h.own, hs, hl⟩
theorem ShortIs.few {cp : List Int} {f t : Nat} {P : List Nat} (h : ShortIs cp f t P) : (∀ b ∈ P, b < 256) ∧ (P.length : Int) ≤ 1099511627776 := by
  rcases h with ⟨h1, h2, h3, D, hD, h⟩ | ⟨_, rfl⟩
  · rcases h with ⟨_, rfl⟩ | ⟨h5, W, h7, _⟩
    · exact ⟨by simp, by simp⟩
    · have kf : 1 ≤ f ∧ f ≤ 16 := of_decide_eq_true h1
      have := hD.rng f kf.1 kf.2
      exact ⟨fun b hb => by obtain ⟨i, hi, he⟩ := mem_gn hb; have := W.rng i hi; omega, by omega⟩
  · exact ⟨by simp, by simp⟩
theorem short_zero {f t : Nat} {P : List Nat} (h : ShortIs (List.replicate 289 0) f t P) : P = [] := by
  rcases h with ⟨h1, h2, h3, D, hD, h⟩ | ⟨_, h⟩
  · rcases h with ⟨_, h⟩ | ⟨h5, _⟩
    · exact h
    · have kf : 1 ≤ f ∧ f ≤ 16 := of_decide_eq_true h1
      obtain ⟨q, _, _, hE, _⟩ := hD.back f kf.1 kf.2 h3 h5
      unfold Edg capF at hE
      have h0 : gi (List.replicate 289 0) (f * 17 + q) = 0 := by
        unfold gi
        rw [List.getD_eq_getElem?_getD, List.getElem?_replicate]
        split <;> rfl
      rw [h0] at hE
      split at hE <;> omega
  · exact h
theorem rshort (g : Nat) (cp : List Int) (f t : Nat) (w : World) (H : RgAt w g (flo cp ps16)) (hp : ∀ i, 0 ≤ gi cp i) (hf : f < 256) (ht : t < 256) :
    Calls Try.prog 27 #[.pointer (some ⟨g, 0, none⟩), .int .u8 (f : Int), .int .u8 (t : Int)] w fun e w' => ∃ B n c P, e = .returned (.slice B n c) ∧ n = P.length ∧ Bytes w' B P ∧ ShortIs cp f t P ∧ Below w.heap.size w w' := by
  by_cases hok : okp f = true ∧ okp t = true ∧ f ≠ t
  · have kf : 1 ≤ f ∧ f ≤ 16 := of_decide_eq_true hok.1
    have kt : 1 ≤ t ∧ t ≤ 16 := of_decide_eq_true hok.2.1
    obtain ⟨D, hD⟩ := hops_exists (Edg cp) t kt.1 kt.2
    by_cases h17 : gi D f = 17
    · refine (rshort_none g cp D f t w H hD kf.1 kf.2 kt.1 kt.2 hok.2.2 h17).mono ?_
      rintro e w' ⟨rfl, hb⟩
      exact ⟨none, 0, 0, [], rfl, rfl, Bytes.nil _ _, .inl ⟨hok.1, hok.2.1, hok.2.2, D, hD, .inl ⟨h17, rfl⟩⟩, hb⟩
    · refine (rshort_some g cp D f t w H hp hD kf.1 kf.2 kt.1 kt.2 hok.2.2 h17).mono ?_
      rintro e w' ⟨B, n, c, P, rfl, S, W, h1, h2⟩
      have hs : ShortIs cp f t P := .inl ⟨hok.1, hok.2.1, hok.2.2, D, hD, .inr ⟨h17, W, h1, h2⟩⟩
      exact ⟨B, n, c, P, rfl, S.num, S.bytes hs.few.1 hs.few.2, hs, S.below⟩
  · refine (rshort_bad (some ⟨g, 0, none⟩) cp f t w hok hf ht).mono ?_
    rintro e w' ⟨rfl, hb⟩
    exact ⟨none, 0, 0, [], rfl, rfl, Bytes.nil _ _, .inr ⟨hok, rfl⟩, hb⟩
end Go.Proofs.Ytjopmkfpghdlpaa.A

