/-
  slices.Concat, for bytes: parts that are read, not all empty.
-/
import Derived.Test.YtccmeiflahnleaaDoorS3
namespace Go.Proofs.YtccmeiflahnleaaDoor.A
set_option linter.unusedVariables false
set_option linter.unusedSimpArgs false
open Go.RowKit

structure Part where
  A : Option Addr
  c : Nat
  bs : List Nat
def enc22 (ps : List Part) : List Value := ps.map fun p => Value.slice p.A p.bs.length p.c
def all (ps : List Part) : List Nat := (ps.map (·.bs)).flatten
theorem all_step (ps : List Part) (k : Nat) (h : k < ps.length) : all (ps.take (k + 1)) = all (ps.take k) ++ (ps[k]).bs := by
  unfold all
  rw [List.take_succ_eq_append_getElem h, List.map_append, List.flatten_append]
  simp only [List.map_cons, List.map_nil, List.flatten_cons, List.flatten_nil, List.append_nil]
theorem all_le (ps : List Part) (k : Nat) : (all (ps.take k)).length ≤ (all ps).length := by
  have : all ps = all (ps.take k) ++ all (ps.drop k) := by
    unfold all
    rw [← List.flatten_append, ← List.map_append, List.take_append_drop]
  rw [this, List.length_append]
  omega
theorem Reads.get22 {w : World} {g off : Nat} {ps : List Part} (h : Reads w (some ⟨g, off, none⟩) (enc22 ps)) (k : Nat) (hk : k < ps.length) : w.cell? ⟨g, off + k, none⟩ = some (.slice (ps[k]).A (ps[k]).bs.length (ps[k]).c) := by
  have e : (enc22 ps)[k]? = some (.slice (ps[k]).A (ps[k]).bs.length (ps[k]).c) := by
    unfold enc22
    simp [List.getElem?_map, hk]
  rcases h with h | ⟨ad, he, h⟩
  · have : (enc22 ps).length = ps.length := List.length_map _
    rw [h, List.length_nil] at this
    omega
  · cases he
    rw [← add_none]
    exact h k _ e
theorem enc8_len (bs : List Nat) : (enc8 bs).length = bs.length := List.length_map _
theorem enc8_one (bs : List Nat) : ∀ u ∈ enc8 bs, u.oneCell' = true := by
  intro u hu
  obtain ⟨x, _, rfl⟩ := List.mem_map.1 hu
  rfl
theorem enc8_append (a b : List Nat) : enc8 (a ++ b) = enc8 a ++ enc8 b := List.map_append
theorem info5s : (Tryd.prog.info? 5).map (·.size) = some 1 := by kernel_rfl

/-- the row that is being filled -/
structure Fill (w wr : World) (g cap : Nat) (bs : List Nat) : Prop where
  blk : ∃ tail : List Value, wr.heap[g]? = some (.cells (enc8 bs ++ tail).toArray 5 (0, 0)) ∧ bs.length + tail.length = cap
  ge : w.heap.size ≤ g
  below : Below w.heap.size w wr
theorem fill_step (a b : List Nat) (tail : List Value) (h : b.length ≤ tail.length) :
    ((enc8 a ++ tail).toArray.toList.take (a.length * 1) ++ enc8 b ++ (enc8 a ++ tail).toArray.toList.drop (a.length * 1 + (enc8 b).length)).toArray = (enc8 (a ++ b) ++ tail.drop b.length).toArray := by
  have e := enc8_len a
  have e2 := enc8_len b
  rw [enc8_append, Nat.mul_one, e2]
  simp only []
  rw [List.take_left' e, ← e, List.drop_append]
  simp [e, e2]

set_option maxHeartbeats 2000000 in
set_option maxRecDepth 100000 in
theorem xconcat (ps : List Part) (g0 off c : Nat) (w : World) (R : Reads w (some ⟨g0, off, none⟩) (enc22 ps)) (B : ∀ p ∈ ps, Bytes w p.A p.bs) (h0 : 0 < (all ps).length) (hn : ((all ps).length : Int) ≤ 1099511627776) (hp : (ps.length : Int) ≤ 1099511627776) :
    Calls Tryd.prog 35 #[.slice (some ⟨g0, off, none⟩) ps.length c] w fun e w' => ∃ g cap, e = .returned (.slice (some ⟨g, 0, none⟩) (all ps).length cap) ∧ Fill w w' g cap (all ps) := by
  have HR := AsideA.mk R
  have HB := AsideA.mk B
  have HG := AsideA.mk (xgrow (all ps).length h0 hn)
  have HLE := AsideA.mk (all_le ps)
  have HS := AsideA.mk (all_step ps)
  obtain ⟨n, hl⟩ : ∃ n, n = ps.length := ⟨_, rfl⟩
  rw [← hl] at hp ⊢
  have HL := AsideA.mk hl
  obtain ⟨tot, ht⟩ : ∃ tot, tot = (all ps).length := ⟨_, rfl⟩
  rw [← ht] at hn h0 HG ⊢
  have HT := AsideA.mk ht
  clear hl R B ht
  go_enter Tryd.func35, Tryd.ntmps35
  go_wp2
  go_loopw [3, 11] (fun s i wr => ∃ k : Nat, k ≤ n ∧ i = .int .i64 k ∧ s = .int .i64 ((all (ps.take k)).length : Nat) ∧ AsideA (Below w.heap.size w wr)) (fun _ i _ => n - (intOf i).toNat)
  case atStart => exact ⟨0, by omega, rfl, rfl, ⟨Below.refl _ _⟩⟩
  case round =>
    obtain ⟨k, hk, rfl, rfl, I⟩ := hrel
    by_cases hlt : k < n
    · have hk' : k < ps.length := by have := HL.out; omega
      have hc := (HR.out.below I.out).get22 k hk'
      have hs := HS.out k hk'
      have hle := HLE.out (k + 1)
      rw [hs, List.length_append] at hle
      have HS2 := AsideA.mk (congrArg List.length hs)
      have hle2 : (((all (ps.take k)).length + (ps[k]).bs.length : Nat) : Int) ≤ 1099511627776 := by have := HT.out; omega
      rw [List.length_append] at HS2
      clear hs hle
      generalize (all (ps.take k)).length = t at *
      generalize (ps[k]).bs.length = m at *
      generalize (ps[k]).A = A at *
      generalize (ps[k]).c = cc at *
      have hd : decide (((t + m : Nat) : Int) < 0) = false := decide_eq_false (by omega)
      go_wp2
      exact ⟨⟨k + 1, by omega, rfl, by rw [HS2.out]; rfl, I⟩, by simp [intOf]; omega⟩
    · have e : ps.take k = ps := List.take_of_length_le (by have := HL.out; omega)
      rw [e, ← HT.out]
      clear e
      go_wp2_with (go_at_call 48; refine (HG.out _).mono ?_; rintro e wq ⟨g, cap, cs, rfl, h1, h2, h3⟩)
      have F0 : AsideA (Fill w wq g cap (all (ps.take 0))) := ⟨⟨⟨cs.toList, by rw [h3.blk]; simp [all, enc8], by simp [all, h2]⟩, h3.ge I.out, below_new I.out h3⟩⟩
      clear h2 h3 HG
      go_loopw [6, 27] (fun v i wr => ∃ k : Nat, k ≤ n ∧ i = .int .i64 k ∧ v = .slice (some ⟨g, 0, none⟩) (all (ps.take k)).length cap ∧ AsideA (Fill w wr g cap (all (ps.take k)))) (fun _ i _ => n - (intOf i).toNat)
      case atStart => exact ⟨0, by omega, rfl, rfl, F0⟩
      case round =>
        clear F0 I
        obtain ⟨k, hk, rfl, rfl, I⟩ := hrel
        by_cases hlt : k < n
        · have hk' : k < ps.length := by have := HL.out; omega
          have hc := (HR.out.below I.out.below).get22 k hk'
          have hb := HB.out (ps[k]) (List.getElem_mem hk')
          have hs := HS.out k hk'
          have hle := HLE.out (k + 1)
          rw [hs, List.length_append] at hle
          have hle2 : (all (ps.take k)).length + (ps[k]).bs.length ≤ cap := by have := HT.out; omega
          have HS2 := AsideA.mk hs
          clear hs hle
          obtain ⟨tail, ht, htl⟩ := I.out.blk
          have X1 := AsideA.mk ht
          have X2 := AsideA.mk htl
          have HBB := AsideA.mk hb
          clear ht htl hb
          generalize all (ps.take k) = xs at *
          generalize ps[k] = p at *
          obtain ⟨A, cc, bs⟩ := p
          have hle3 : xs.length + bs.length ≤ cap := hle2
          have HC := AsideA.mk hle3
          clear hle2
          go_wp2_with ((with_reducible refine gate (N := 33) rfl ?_); refine append_put 22 5 (.tmp 31) (.tmp 32) rfl rfl 1 Tryd.underlying22 info5s g xs.length cap rfl _ X1.out A bs.length cc rfl (enc8 bs) (by rw [enc8_len, Nat.mul_one]) (by decide) (HBB.out.reads.below I.out.below) (enc8_one bs) HC.out (by rw [List.size_toArray, List.length_append, enc8_len, enc8_len]; have := X2.out; have := HC.out; omega) _ (fill_step xs bs tail (by have := X2.out; have := HC.out; omega)) ?_; intro w5 b5 u5)
          refine ⟨⟨k + 1, by omega, rfl, by rw [HS2.out, List.length_append], ⟨?_⟩⟩, by simp [intOf]; omega⟩
          rw [HS2.out]
          exact ⟨⟨_, b5, by have := X2.out; have := HC.out; rw [List.length_append, List.length_drop]; show xs.length + bs.length + (tail.length - bs.length) = cap; omega⟩, I.out.ge, u5.below I.out.below I.out.ge⟩
        · have e : ps.take k = ps := List.take_of_length_le (by have := HL.out; omega)
          rw [e] at I
          rw [e, ← HT.out]
          clear e
          go_wp2
          go_ret
          exact ⟨g, cap, rfl, I.out⟩
end Go.Proofs.YtccmeiflahnleaaDoor.A
