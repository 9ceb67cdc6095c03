/-
  The law ExactsSum, its walk.
-/
import Derived.Test.YtbeiphfmdmccmaaG1
import Derived.Test.YtbeiphfmdmccmaaG3
namespace Go.Proofs.Ytbeiphfmdmccmaa.A
set_option linter.unusedVariables false
set_option linter.unusedSimpArgs false
open Go.RowKit

set_option maxHeartbeats 2000000 in
set_option maxRecDepth 100000 in
theorem law_sum_many (A : Option Addr) (c n : Nat) (w : World) (hn : 100 < n) : Calls Try.prog 4 #[.slice A n c] w fun e w' => e = .returned (.bool true) ∧ Below w.heap.size w w' := by
  have BB := AsideA.mk (Below.refl w.heap.size w)
  go_enter Try.func4, Try.ntmps4
  go_wp2_with (go_at_call 21; refine (lives01 _).mono ?_; rintro e wq ⟨rfl, hq⟩; have BN := AsideA.mk (below_call BB.out hq); clear hq BB; have BB := BN; clear BN)
  go_ret
  exact ⟨rfl, BB.out⟩

/-- what the copy is, behind the call that made it -/
structure Copied (w wr : World) (g : Nat) (A : Option Addr) (xs : List Int) : Prop where
  blk : wr.heap[g]? = some (.cells (enc64 xs ++ [Value.int .i64 (-77), Value.int .i64 (-77)]).toArray 2 (0, 0))
  src : Reads wr A (enc64 xs)
  below : Below w.heap.size w wr
theorem Copied.later {w wr wz : World} {g : Nat} {A : Option Addr} {xs : List Int} (h : Copied w wr g A xs) (hb : Below wr.heap.size wr wz) : Copied w wz g A xs :=
  ⟨blk_below h.blk hb, h.src.below hb, below_call h.below hb⟩

set_option maxHeartbeats 2000000 in
set_option maxRecDepth 100000 in
theorem law_sum_few (A : Option Addr) (c n : Nat) (xs : List Int) (hl : n = xs.length) (w : World) (R : Reads w A (enc64 xs)) (hw : ∀ x ∈ xs, in64 x) (hn : n ≤ 100) : Calls Try.prog 4 #[.slice A n c] w fun e w' => e = .returned (.bool true) ∧ Below w.heap.size w w' := by
  have hL : (xs.length : Int) ≤ 1099511627776 := by omega
  have hL' : xs.length ≤ 1099511627776 := by omega
  have T := AsideA.mk (twin64 A c xs (-77) w R hL)
  have S1 := AsideA.mk (fun (g : Nat) (wz : World) (h : Copied w wz g A xs) => xsum (some ⟨g, 0, none⟩) (xs.length + 2) xs wz (Reads.rd (Reads.of_block h.blk _ (fun j u hu => by
    rw [Nat.zero_add, List.getElem?_toArray, List.getElem?_append_left (List.getElem?_eq_some_iff.1 hu).1]
    exact hu)) hw hL'))
  have S2 := AsideA.mk (fun (g : Nat) (wz : World) (h : Copied w wz g A xs) => ref_Sum A c xs wz (h.src.rd hw hL'))
  have S3 := AsideA.mk (fun (g : Nat) (wz : World) (h : Copied w wz g A xs) => left64 A c g xs (-77) wz h.src h.blk hL)
  have HR := AsideA.mk R
  rw [← hl] at T S1 S2 S3
  clear hL hL' hw R hl
  generalize fit (isum xs) = r at *
  go_enter Try.func4, Try.ntmps4
  go_wp2_with (first | (go_at_call 22; refine T.out.mono ?_; rintro e wq ⟨g, rfl, h1, h2, h3⟩; have CC : AsideA (Copied w wq g A xs) := ⟨⟨h1, HR.out.below h3, h3⟩⟩; clear h1 h2 h3) | (go_at_call 23; refine (S1.out g _ CC.out).mono ?_; rintro e wq2 ⟨rfl, hq⟩; have CN := AsideA.mk (CC.out.later hq); clear hq CC; have CC := CN; clear CN) | (go_at_call 24; refine (S2.out g _ CC.out).mono ?_; rintro e wq2 ⟨rfl, hq⟩; have CN := AsideA.mk (CC.out.later hq); clear hq CC; have CC := CN; clear CN) | (go_at_call 25; refine (S3.out g _ CC.out).mono ?_; rintro e wq2 ⟨rfl, hq⟩; have CN := AsideA.mk (CC.out.later hq); clear hq CC; have CC := CN; clear CN) | (go_at_call 16; refine (alike_same _ _ _).mono ?_; rintro e wq2 ⟨rfl, hq⟩; have CN := AsideA.mk (CC.out.later hq); clear hq CC; have CC := CN; clear CN) | (go_at_call 21; refine (lives01 _).mono ?_; rintro e wq2 ⟨rfl, hq⟩; have CN := AsideA.mk (CC.out.later hq); clear hq CC; have CC := CN; clear CN))
  go_ret
  exact ⟨rfl, CC.out.below⟩

def IsRow64 (w : World) (a : Option Addr) (len cap : Nat) (zs : List Int) : Prop :=
  (a = none ∧ len = 0 ∧ cap = 0 ∧ zs = []) ∨
  ∃ x, a = some x ∧ len ≤ cap ∧ cap ≤ maxLen ∧ zs.length = cap ∧ (∀ i, i < zs.length → w.cell? (x.add i) = some (.int .i64 (zs.getD i 0))) ∧ ∀ n ∈ zs, (Lit.int .i64 n).wf = true
theorem law_sum (A : Option Addr) (len cap : Nat) (zs : List Int) (w : World) (h : IsRow64 w A len cap zs) : Calls Try.prog 4 #[.slice A len cap] w fun e w' => e = .returned (.bool true) ∧ Below w.heap.size w w' := by
  by_cases hn : len ≤ 100
  · rcases h with ⟨rfl, rfl, rfl, rfl⟩ | ⟨x, rfl, h1, h2, h3, h4, h5⟩
    · exact law_sum_few none 0 0 [] rfl w Reads.nil (by simp) (by omega)
    · refine law_sum_few (some x) cap len (zs.take len) (by rw [List.length_take]; omega) w (.inr ⟨x, rfl, fun j u hu => ?_⟩) (fun y hy => in64_of (h5 y (List.mem_of_mem_take hy))) hn
      have hj : j < len := by
        have := (List.getElem?_eq_some_iff.1 hu).1
        rw [enc64_len, List.length_take] at this
        omega
      rw [enc64_get _ _ (by rw [List.length_take]; omega)] at hu
      rw [h4 j (by omega), ← hu]
      simp [List.getD_eq_getElem?_getD, List.getElem?_take, hj]
  · exact law_sum_many A cap len w (by omega)
end Go.Proofs.Ytbeiphfmdmccmaa.A
