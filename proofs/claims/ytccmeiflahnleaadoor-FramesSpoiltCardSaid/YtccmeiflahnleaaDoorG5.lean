/-
  A number that is taken (packs.take, Take); frames.size.
-/
import Derived.Test.YtccmeiflahnleaaDoorG0
import Derived.Test.YtccmeiflahnleaaDoorU3
namespace Go.Proofs.YtccmeiflahnleaaDoor.A
set_option linter.unusedVariables false
set_option linter.unusedSimpArgs false
open Go.RowKit

theorem take_step (bs : List Nat) (k m x : Nat) (hk : k < 10) (h : bs[k]? = some x) : takeGo (10 - k) k m (bs.drop k) = if k = 9 ∧ 1 < x then (0, 0, 4) else if x < 128 then (if x = 0 ∧ 0 < k then (0, 0, 4) else (m + x % 128 * 128 ^ k, k + 1, 0)) else takeGo (10 - (k + 1)) (k + 1) (m + x % 128 * 128 ^ k) (bs.drop (k + 1)) := by
  have hl := (List.getElem?_eq_some_iff.1 h).1
  have e : bs.drop k = x :: bs.drop (k + 1) := by
    rw [List.drop_eq_getElem_cons hl]
    congr 1
    have := List.getElem?_eq_getElem hl
    rw [h] at this
    exact (Option.some.inj this).symm
  obtain ⟨f, hf⟩ : ∃ f, 10 - k = f + 1 := ⟨9 - k, by omega⟩
  rw [e, hf, show 10 - (k + 1) = f by omega]
  rfl
/-- what is added, in the walk's own forms -/
theorem take_val (m x k : Nat) (hk : k ≤ 9) (h9 : k = 9 → x ≤ 1) (hx : x < 256) (hm : m < 128 ^ k) : bits .or .u64 (m : Int) (IntKind.u64.wrap (IntKind.u64.wrap (bits .andNot .u8 (x : Int) 128) * 2 ^ (7 * k))) = ((m + x % 128 * 128 ^ k : Nat) : Int) ∧ m + x % 128 * 128 ^ k < 128 ^ (k + 1) := by
  have e1 : bits .andNot .u8 (x : Int) 128 = ((x % 128 : Nat) : Int) := by
    have : ∀ x, x < 256 → bits .andNot .u8 ((x : Nat) : Int) 128 = ((x % 128 : Nat) : Int) := by decide +kernel
    exact this x hx
  have hp : (128 : Nat) ^ k = 2 ^ (7 * k) := by rw [Nat.pow_mul]
  have hy : x % 128 * 2 ^ (7 * k) < 2 ^ 64 := by
    by_cases h : k = 9
    · subst h
      have := h9 rfl
      have : x % 128 ≤ 1 := by omega
      exact Nat.lt_of_le_of_lt (Nat.mul_le_mul_right _ this) (by decide)
    · have h1 : 2 ^ (7 * k) ≤ 2 ^ 56 := Nat.pow_le_pow_right (by decide) (by omega)
      have h2 : x % 128 * 2 ^ (7 * k) ≤ 127 * 2 ^ 56 := Nat.mul_le_mul (by omega) h1
      exact Nat.lt_of_le_of_lt h2 (by decide)
  have hm' : m < 2 ^ (7 * k) := hp ▸ hm
  have hm64 : m < 2 ^ 64 := Nat.lt_of_lt_of_le hm' (Nat.pow_le_pow_right (by decide) (by omega))
  have wr : ∀ n : Nat, n < 2 ^ 64 → IntKind.u64.wrap (n : Int) = n := fun n hn => by
    rw [IntKind.wrap_u64]
    omega
  have e2 : ((x % 128 : Nat) : Int) * 2 ^ (7 * k) = ((x % 128 * 2 ^ (7 * k) : Nat) : Int) := by
    rw [Int.natCast_mul, Int.natCast_pow]
    rfl
  rw [e1, wr _ (by omega), e2, wr _ hy]
  have hor : m ||| x % 128 * 2 ^ (7 * k) = m + x % 128 * 2 ^ (7 * k) := by
    rw [Nat.or_comm, Nat.mul_comm, ← Nat.two_pow_add_eq_or_of_lt hm', Nat.add_comm]
  have ha : m % 2 ^ IntKind.u64.bits = m := Nat.mod_eq_of_lt hm64
  have hb : (x % 128 * 2 ^ (7 * k)) % 2 ^ IntKind.u64.bits = x % 128 * 2 ^ (7 * k) := Nat.mod_eq_of_lt hy
  have hlt : m ||| x % 128 * 2 ^ (7 * k) < 2 ^ 64 := Nat.or_lt_two_pow hm64 hy
  refine ⟨?_, ?_⟩
  · simp only [bits, BitVec.ofInt_natCast, BitVec.toNat_or, BitVec.toNat_ofNat, ha, hb]
    rw [wr _ hlt, hor, hp]
  · rw [Nat.pow_succ]
    have : x % 128 * 128 ^ k ≤ 127 * 128 ^ k := Nat.mul_le_mul_right _ (by omega)
    omega

set_option maxHeartbeats 4000000 in
set_option maxRecDepth 100000 in
theorem xtake (A : Option Addr) (c : Nat) (bs : List Nat) (w : World) (B : Bytes w A bs) : Calls Tryd.prog 54 #[.slice A bs.length c] w fun e w' => e = .returned (.tuple #[.int .u64 ((takeP bs).1 : Int), .int .i64 ((takeP bs).2.1 : Int), .int .i64 ((takeP bs).2.2 : Int)]) ∧ Below w.heap.size w w' := by
  have HB := AsideA.mk B
  have hlen := B.len
  obtain ⟨len, hl⟩ : ∃ len, len = bs.length := ⟨_, rfl⟩
  rw [← hl] at hlen ⊢
  have HL := AsideA.mk hl
  clear hl B
  have I0 : AsideA (Below w.heap.size w w ∧ takeP bs = takeGo (10 - 0) 0 0 (bs.drop 0) ∧ 0 < 128 ^ 0) := ⟨Below.refl _ _, rfl, by decide⟩
  go_enter Tryd.func54, Tryd.ntmps54
  go_wp2
  go_loopw [2, 7] (fun n i wr => ∃ k m : Nat, k ≤ 10 ∧ (k : Int) ≤ len ∧ i = .int .i64 k ∧ n = .int .u64 (m : Int) ∧ AsideA (Below w.heap.size w wr ∧ takeP bs = takeGo (10 - k) k m (bs.drop k) ∧ m < 128 ^ k)) (fun _ i _ => 10 - (intOf i).toNat)
  case atStart => exact ⟨0, 0, by omega, by omega, rfl, rfl, I0⟩
  case round =>
    obtain ⟨k, m, hk, hkl, rfl, rfl, I⟩ := hrel
    clear I0
    by_cases hlt : k < 10
    · by_cases hin : k < len
      · obtain ⟨g, off, x, rfl, hc, hx, hxx⟩ := (HB.out.below I.out.1).get k (by have := HL.out; omega)
        have ST := AsideA.mk (I.out.2.1.trans (take_step bs k m x hlt hxx))
        clear hxx
        by_cases h9 : k = 9
        · subst h9
          by_cases h1 : 1 < x
          · have E : AsideA (takeP bs = (0, 0, 4)) := ⟨by rw [ST.out, if_pos ⟨rfl, h1⟩]⟩
            go_wp2
            go_ret3
            exact ⟨by rw [E.out]; rfl, I.out.1⟩
          · obtain ⟨e1, _⟩ := take_val m x 9 (by omega) (fun _ => by omega) hx I.out.2.2
            by_cases h0 : x = 0
            · subst h0
              have E : AsideA (takeP bs = (0, 0, 4)) := ⟨by rw [ST.out, if_neg (by omega), if_pos (by omega), if_pos (by omega)]⟩
              clear e1
              go_wp2
              go_ret3
              exact ⟨by rw [E.out]; rfl, I.out.1⟩
            · have E : AsideA (takeP bs = (m + x % 128 * 128 ^ 9, 10, 0)) := ⟨by rw [ST.out, if_neg (by omega), if_pos (by omega), if_neg (by omega)]⟩
              have V := AsideA.mk e1
              clear e1
              go_wp2
              go_ret3
              refine ⟨?_, I.out.1⟩
              rw [E.out]
              have := V.out
              simp only [] at this ⊢
              rw [← this]
              rfl
        · obtain ⟨e1, e2⟩ := take_val m x k (by omega) (fun h => absurd h h9) hx I.out.2.2
          have V := AsideA.mk (And.intro e1 e2)
          clear e1 e2
          by_cases hs : x < 128
          · by_cases h0 : x = 0
            · by_cases hk0 : 0 < k
              · have E : AsideA (takeP bs = (0, 0, 4)) := ⟨by rw [ST.out, if_neg (by omega), if_pos hs, if_pos ⟨h0, hk0⟩]⟩
                go_wp2
                go_ret3
                exact ⟨by rw [E.out]; rfl, I.out.1⟩
              · have hx1 : x % 128 = 0 := by omega
                have E : AsideA (takeP bs = (m, k + 1, 0)) := ⟨by rw [ST.out, if_neg (by omega), if_pos hs, if_neg (by omega), hx1, Nat.zero_mul]; rfl⟩
                have V2 := AsideA.mk (V.out.1.trans (by rw [hx1, Nat.zero_mul]; rfl : _ = (m : Int)))
                rw [h0] at V2
                clear hx1 V
                go_wp2
                go_ret3
                refine ⟨?_, I.out.1⟩
                rw [E.out]
                exact congrArg (fun z => Ending.returned (Value.tuple #[.int .u64 z, .int .i64 ((k : Int) + 1), .int .i64 0])) V2.out
            · have E : AsideA (takeP bs = (m + x % 128 * 128 ^ k, k + 1, 0)) := ⟨by rw [ST.out, if_neg (by omega), if_pos hs, if_neg (by omega)]⟩
              go_wp2
              go_ret3
              refine ⟨?_, I.out.1⟩
              rw [E.out]
              have := V.out.1
              simp only [] at this ⊢
              rw [← this]
              rfl
          · have E : AsideA (takeP bs = takeGo (10 - (k + 1)) (k + 1) (m + x % 128 * 128 ^ k) (bs.drop (k + 1))) := ⟨by rw [ST.out, if_neg (by omega), if_neg hs]⟩
            go_wp2
            exact ⟨⟨k + 1, m + x % 128 * 128 ^ k, by omega, by omega, by go_num, by rw [← V.out.1], ⟨I.out.1, E.out, V.out.2⟩⟩, by simp [intOf]; omega⟩
      · have e : bs.drop k = [] := List.drop_eq_nil_of_le (by have := HL.out; omega)
        have E : AsideA (takeP bs = (0, 0, 5)) := ⟨by
          rw [I.out.2.1, e]
          obtain ⟨f, hf⟩ : ∃ f, 10 - k = f + 1 := ⟨9 - k, by omega⟩
          rw [hf]
          rfl⟩
        clear e
        go_wp2
        go_ret3
        exact ⟨by rw [E.out]; rfl, I.out.1⟩
    · have e : k = 10 := by omega
      subst e
      have E : AsideA (takeP bs = (0, 0, 4)) := ⟨I.out.2.1⟩
      go_wp2
      go_ret3
      exact ⟨by rw [E.out]; rfl, I.out.1⟩
end Go.Proofs.YtccmeiflahnleaaDoor.A

