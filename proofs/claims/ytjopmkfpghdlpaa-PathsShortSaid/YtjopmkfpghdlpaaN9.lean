/-
  Graph.Edges.
-/
import Derived.Test.YtjopmkfpghdlpaaN8
namespace Go.Proofs.Ytjopmkfpghdlpaa.A
set_option linter.unusedVariables false
set_option linter.unusedSimpArgs false
open Go.RowKit

def rowOf (cp : List Int) (i : Nat) : List Int := (cp.drop (i * 17)).take 17
theorem rowOf_len (cp : List Int) (i : Nat) (hl : cp.length = 289) (hi : i < 17) : (rowOf cp i).length = 17 := by
  unfold rowOf
  rw [List.length_take, List.length_drop]
  omega
theorem rowOf_at (cp : List Int) (i j : Nat) (hj : j < 17) : gi (rowOf cp i) j = gi cp (i * 17 + j) := by
  unfold rowOf gi
  rw [List.getD_eq_getElem?_getD, List.getD_eq_getElem?_getD, List.getElem?_take, if_pos hj, List.getElem?_drop]
theorem info87s : (Try.prog.info? 87).map (·.size) = some 17 := by kernel_rfl
theorem info2s : (Try.prog.info? 2).map (·.size) = some 1 := by kernel_rfl
theorem zero87 : (Try.prog.info? 87).bind (·.zero) = some (.agg (dV (List.replicate 17 0))) := by kernel_rfl
theorem size87 (D : List Int) (h : D.length = 17) : (Try.prog.info? 87).map (·.size) = some (dV D).size := by rw [dV_size, h]; kernel_rfl
theorem size96 (D : List Int) (h : D.length = 289) : (Try.prog.info? 96).map (·.size) = some (dV D).size := by rw [dV_size, h]; kernel_rfl
theorem grV_dV (cp : List Int) (j : Nat) (h : j < cp.length) : (grV cp)[j]? = (dV cp)[j]? := by rw [grV_at cp j h, dV_at cp j h]
theorem run_idx87 (D : List Int) (hl : D.length = 17) (i : Nat) (hi : i < 17) (w : World) : (Instr.index 87 (.agg (dV D)) (.int .i64 (i : Int))).run Try.prog w = .ok (.int .i64 (gi D i)) w := by
  have h0 : (0 : Int) ≤ (i : Int) ∧ (i : Int) < ((17 : Nat) : Int) := by omega
  have hn : (i : Int).toNat = i := Int.toNat_natCast i
  obtain ⟨inf, h1, h2⟩ := Option.map_eq_some_iff.1 info2s
  have hs : (sizeOf 2).run Try.prog w = .ok 1 w := by
    unfold sizeOf
    simp [typeInfo, Sem.run_bind, h1, h2]
  have ha : (isAgg 2).run Try.prog w = .ok false w := by
    unfold isAgg
    rw [Sem.run_bind, run_underlying Try.underlying2 w]
    rfl
  have hp : (part 2 (dV D) (i * 1)).run Try.prog w = .ok (.int .i64 (gi D i)) w := by
    unfold part
    rw [Sem.run_bind, ha]
    simp only [Result.andThen_ok, Nat.mul_one, dV_at D i (by omega)]
    rfl
  have ai : (asIntOf (.int .i64 (i : Int))).run Try.prog w = .ok (.i64, (i : Int)) w := rfl
  unfold Instr.index
  rw [Sem.run_bind, ai]
  simp only [Result.andThen_ok]
  rw [Sem.run_bind, run_underlying Try.underlying87 w]
  simp only [Result.andThen_ok]
  rw [if_pos h0, Sem.run_bind, hs]
  simp only [Result.andThen_ok, hn]
  exact hp
theorem dV_row (cp : List Int) (i : Nat) : (dV cp).extract (i * 17) (i * 17 + 17) = dV (rowOf cp i) := by
  apply Array.ext_getElem?
  intro j
  unfold dV rowOf
  simp only [Array.getElem?_extract, List.getElem?_toArray, List.getElem?_map, List.getElem?_take, List.getElem?_drop, List.size_toArray, List.length_map]
  by_cases h : j < 17
  · by_cases h2 : i * 17 + j < cp.length
    · rw [if_pos (by omega), if_pos h]
    · rw [if_neg (by omega), if_pos h, List.getElem?_eq_none (by omega)]
      rfl
  · rw [if_neg (by omega), if_neg h]
    rfl
theorem run_idx96 (cp : List Int) (i : Nat) (hi : i < 17) (w : World) : (Instr.index 96 (.agg (dV cp)) (.int .i64 (i : Int))).run Try.prog w = .ok (.agg (dV (rowOf cp i))) w := by
  have h0 : (0 : Int) ≤ (i : Int) ∧ (i : Int) < ((17 : Nat) : Int) := by omega
  have hn : (i : Int).toNat = i := Int.toNat_natCast i
  obtain ⟨inf, h1, h2⟩ := Option.map_eq_some_iff.1 info87s
  have hs : (sizeOf 87).run Try.prog w = .ok 17 w := by
    unfold sizeOf
    simp [typeInfo, Sem.run_bind, h1, h2]
  have ha : (isAgg 87).run Try.prog w = .ok true w := by
    unfold isAgg
    rw [Sem.run_bind, run_underlying Try.underlying87 w]
    rfl
  have hp : (part 87 (dV cp) (i * 17)).run Try.prog w = .ok (.agg (dV (rowOf cp i))) w := by
    unfold part
    rw [Sem.run_bind, ha]
    simp only [Result.andThen_ok, if_true]
    rw [Sem.run_bind, hs]
    simp only [Result.andThen_ok, dV_row]
    rfl
  have ai : (asIntOf (.int .i64 (i : Int))).run Try.prog w = .ok (.i64, (i : Int)) w := rfl
  unfold Instr.index
  rw [Sem.run_bind, ai]
  simp only [Result.andThen_ok]
  rw [Sem.run_bind, run_underlying Try.underlying96 w]
  simp only [Result.andThen_ok]
  rw [if_pos h0, Sem.run_bind, hs]
  simp only [Result.andThen_ok, hn]
  exact hp
theorem StAt.next17 {w wr : World} {n a b : Nat} {cp : List Int} {v : Value} {x : Int} (h : StAt w wr v n (flo cp (ps17.take (a * 17 + b)) ++ [⟨a, b, x⟩])) (ha : a ≤ 16) (hb : b ≤ 16) (hx : gi cp (a * 17 + b) = x) (h0 : 0 < x) : StAt w wr v n (flo cp (ps17.take (a * 17 + (b + 1)))) := by
  rw [← Nat.add_assoc, flo_step17 cp a b ha hb, fl1_pos hx h0]
  exact h
theorem StAt.skip17 {w wr : World} {n a b : Nat} {cp : List Int} {v : Value} {x : Int} (h : StAt w wr v n (flo cp (ps17.take (a * 17 + b)))) (ha : a ≤ 16) (hb : b ≤ 16) (hx : gi cp (a * 17 + b) = x) (h0 : x ≤ 0) : StAt w wr v n (flo cp (ps17.take (a * 17 + (b + 1)))) := by
  rw [← Nat.add_assoc, flo_step17 cp a b ha hb, fl1_not hx (by omega), List.append_nil]
  exact h
theorem StAt.few17 {w wr : World} {n k : Nat} {cp : List Int} {v : Value} (h : StAt w wr v n (flo cp (ps17.take k))) : n ≤ 289 := by
  have h1 := h.own.1
  rw [encF_len] at h1
  have := flo_len17 cp k
  omega
end Go.Proofs.Ytjopmkfpghdlpaa.A

