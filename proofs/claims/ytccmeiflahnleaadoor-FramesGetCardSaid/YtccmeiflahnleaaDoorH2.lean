/-
  The reference's taker (countinghouseref16.Taker): Byte, Num.
-/
import Derived.Test.YtccmeiflahnleaaDoorG5
import Derived.Test.YtccmeiflahnleaaDoorV2
namespace Go.Proofs.YtccmeiflahnleaaDoor.A
set_option linter.unusedVariables false
set_option linter.unusedSimpArgs false
open Go.RowKit

set_option maxHeartbeats 2000000 in
set_option maxRecDepth 100000 in
theorem byte_none (A : Option Addr) (c t : Nat) (w : World) (h : w.heap[t]? = some (.cells #[.slice A 0 c, .int .i64 0] 70 (0, 0))) : Calls Tryd.prog 52 #[.pointer (some ⟨t, 0, none⟩)] w fun e w' => e = .returned (.int .u8 0) ∧ w' = w.setCell ⟨t, 1, none⟩ (.int .i64 5) := by
  have c0 := (blk_cell h 0).trans (show _ = some (Value.slice A 0 c) from rfl)
  have c1 := (blk_cell h 1).trans (show _ = some (Value.int .i64 0) from rfl)
  have f1 := blk_frozen h 1
  clear h
  go_enter Tryd.func52, Tryd.ntmps52
  go_wp2
  go_ret
  exact ⟨rfl, rfl⟩

set_option maxHeartbeats 2000000 in
set_option maxRecDepth 100000 in
theorem byte_last (g off t x : Nat) (w : World) (h : w.heap[t]? = some (.cells #[.slice (some ⟨g, off, none⟩) 1 1, .int .i64 0] 70 (0, 0))) (hx : w.cell? ⟨g, off, none⟩ = some (.int .u8 (x : Int))) : Calls Tryd.prog 52 #[.pointer (some ⟨t, 0, none⟩)] w fun e w' => e = .returned (.int .u8 (x : Int)) ∧ w' = w.setCell ⟨t, 0, none⟩ (.slice (some ⟨g, off, none⟩) 0 0) := by
  have c0 := (blk_cell h 0).trans (show _ = some (Value.slice (some ⟨g, off, none⟩) 1 1) from rfl)
  have c1 := (blk_cell h 1).trans (show _ = some (Value.int .i64 0) from rfl)
  have f0 := blk_frozen h 0
  clear h
  go_enter Tryd.func52, Tryd.ntmps52
  go_wp2
  go_ret
  exact ⟨rfl, rfl⟩

set_option maxHeartbeats 2000000 in
set_option maxRecDepth 100000 in
theorem byte_some (g off t x n c : Nat) (w : World) (h : w.heap[t]? = some (.cells #[.slice (some ⟨g, off, none⟩) (n + 1) (c + 1), .int .i64 0] 70 (0, 0))) (hx : w.cell? ⟨g, off, none⟩ = some (.int .u8 (x : Int))) (hc : 0 < c) (hn : n ≤ c) (hl : (n : Int) ≤ 1099511627776) : Calls Tryd.prog 52 #[.pointer (some ⟨t, 0, none⟩)] w fun e w' => e = .returned (.int .u8 (x : Int)) ∧ w' = w.setCell ⟨t, 0, none⟩ (.slice (some ⟨g, off + 1, none⟩) n c) := by
  have c0 := (blk_cell h 0).trans (show _ = some (Value.slice (some ⟨g, off, none⟩) (n + 1) (c + 1)) from rfl)
  have c1 := (blk_cell h 1).trans (show _ = some (Value.int .i64 0) from rfl)
  have f0 := blk_frozen h 0
  clear h
  go_enter Tryd.func52, Tryd.ntmps52
  go_wp2
  go_ret
  exact ⟨rfl, rfl⟩

/-- the taker at work: it holds these bytes of an older world -/
structure TkAt (w0 wr : World) (t : Nat) (A : Option Addr) (n c : Nat) (xs : List Nat) : Prop where
  blk : wr.heap[t]? = some (.cells #[.slice A n c, .int .i64 0] 70 (0, 0))
  bytes : Bytes w0 A xs
  len : n = xs.length
  le : n ≤ c
  below : Below w0.heap.size w0 wr
  ge : w0.heap.size ≤ t

theorem xbyte (w0 wr : World) (t : Nat) (A : Option Addr) (n c x : Nat) (r : List Nat) (K : TkAt w0 wr t A (n + 1) c (x :: r)) : Calls Tryd.prog 52 #[.pointer (some ⟨t, 0, none⟩)] wr fun e w' => e = .returned (.int .u8 (x : Int)) ∧ ∃ A', TkAt w0 w' t A' n (c - 1) r := by
  have hl := K.len
  have hln := K.bytes.len
  have hle := K.le
  simp only [List.length_cons] at hl hln
  obtain ⟨g, off, y, rfl, hc, hy, hyy⟩ := K.bytes.get 0 (by simp)
  have e : y = x := by simpa using hyy.symm
  subst e
  have hc' : wr.cell? ⟨g, off, none⟩ = some (.int .u8 (y : Int)) := by
    obtain ⟨g', off', z, e1, hc2, _, hz⟩ := (K.bytes.below K.below).get 0 (by simp)
    cases e1
    have : z = y := by simpa using hz.symm
    subst this
    exact hc2
  have B1 : Bytes w0 (some ⟨g, off + 1, none⟩) r := K.bytes.drop 1
  have hb := K.blk
  by_cases h1 : c = 1
  · subst h1
    obtain rfl : n = 0 := by omega
    refine (byte_last g off t y wr hb hc').mono fun e w' ⟨he, hw⟩ => ⟨he, some ⟨g, off, none⟩, ?_⟩
    subst hw
    have hr : r = [] := List.eq_nil_of_length_eq_zero (by omega)
    subst hr
    exact ⟨blk_set hb 0 _, (K.bytes.take 0), rfl, Nat.le_refl _, K.below.setCell K.ge _, K.ge⟩
  · obtain ⟨c', rfl⟩ : ∃ c', c = c' + 1 := ⟨c - 1, by omega⟩
    refine (byte_some g off t y n c' wr hb hc' (by omega) (by omega) (by omega)).mono fun e w' ⟨he, hw⟩ => ⟨he, some ⟨g, off + 1, none⟩, ?_⟩
    subst hw
    exact ⟨blk_set hb 0 _, B1, by omega, by omega, K.below.setCell K.ge _, K.ge⟩

theorem part_val (m x k : Nat) (hk : k ≤ 9) (h9 : k = 9 → x ≤ 1) (hm : m < 128 ^ k) : IntKind.u64.wrap ((m : Int) + ((x % 128 * 128 ^ k : Nat) : Int)) = ((m + x % 128 * 128 ^ k : Nat) : Int) ∧ m + x % 128 * 128 ^ k < 128 ^ (k + 1) := by
  have h2 : x % 128 * 128 ^ k ≤ 127 * 128 ^ k := Nat.mul_le_mul_right _ (by omega)
  refine ⟨?_, by rw [Nat.pow_succ]; omega⟩
  have : m + x % 128 * 128 ^ k < 2 ^ 64 := by
    by_cases h : k = 9
    · subst h
      have h3 := h9 rfl
      have h4 : x % 128 * 128 ^ 9 ≤ 1 * 128 ^ 9 := Nat.mul_le_mul_right _ (by omega)
      have : (128 : Nat) ^ 9 + 1 * 128 ^ 9 = 2 ^ 64 := by decide
      omega
    · have h3 : (128 : Nat) ^ (k + 1) ≤ 128 ^ 9 := Nat.pow_le_pow_right (by decide) (by omega)
      have h4 : (128 : Nat) ^ 9 < 2 ^ 64 := by decide
      rw [Nat.pow_succ] at h3
      omega
  rw [← Int.natCast_add, IntKind.wrap_u64]
  omega
theorem mul_val (x k j : Nat) (hj : j < k) (hk : k ≤ 9) (h9 : k = 9 → x ≤ 1) : IntKind.u64.wrap (((x % 128 * 128 ^ j : Nat) : Int) * 128) = ((x % 128 * 128 ^ (j + 1) : Nat) : Int) := by
  have : x % 128 * 128 ^ j * 128 < 2 ^ 64 := by
    by_cases h : k = 9
    · subst h
      have h3 := h9 rfl
      have h5 : (128 : Nat) ^ j ≤ 128 ^ 8 := Nat.pow_le_pow_right (by decide) (by omega)
      have h4 : x % 128 * 128 ^ j ≤ 1 * 128 ^ 8 := Nat.mul_le_mul (by omega) h5
      have : (1 * 128 : Nat) ^ 8 * 128 < 2 ^ 64 := by decide
      omega
    · have h5 : (128 : Nat) ^ j ≤ 128 ^ 7 := Nat.pow_le_pow_right (by decide) (by omega)
      have h4 : x % 128 * 128 ^ j ≤ 127 * 128 ^ 7 := Nat.mul_le_mul (by omega) h5
      have : 127 * (128 : Nat) ^ 7 * 128 < 2 ^ 64 := by decide
      omega
  have e : (((x % 128 * 128 ^ j : Nat) : Int) * 128) = ((x % 128 * 128 ^ j * 128 : Nat) : Int) := by
    rw [Int.natCast_mul (x % 128 * 128 ^ j) 128]
    rfl
  rw [e, IntKind.wrap_u64, Nat.pow_succ, ← Nat.mul_assoc]
  omega

theorem drop_cons {bs : List Nat} {k x : Nat} (h : bs[k]? = some x) : bs.drop k = x :: bs.drop (k + 1) := by
  have hl := (List.getElem?_eq_some_iff.1 h).1
  rw [List.drop_eq_getElem_cons hl]
  congr 1
  have := List.getElem?_eq_getElem hl
  rw [h] at this
  exact (Option.some.inj this).symm

/-- what is left behind: the bytes behind the number, or what is wrong -/
def TkDone (w0 : World) (t c : Nat) (bs : List Nat) (w' : World) : Prop := (∃ m s, takeP bs = (m, s, 0) ∧ ∃ A', TkAt w0 w' t A' (bs.length - s) (c - s) (bs.drop s)) ∨ (∃ e : Nat, e ≠ 0 ∧ takeP bs = (0, 0, e) ∧ Below w0.heap.size w0 w' ∧ ∃ v, w'.heap[t]? = some (.cells #[v, .int .i64 (e : Int)] 70 (0, 0)))

set_option maxHeartbeats 8000000 in
set_option maxRecDepth 100000 in
theorem tk_num (w0 w : World) (t : Nat) (A : Option Addr) (len c : Nat) (bs : List Nat) (K : TkAt w0 w t A len c bs) : Calls Tryd.prog 45 #[.pointer (some ⟨t, 0, none⟩)] w fun e w' => e = .returned (.int .u64 ((takeP bs).1 : Int)) ∧ TkDone w0 t c bs w' := by
  have hlen : (len : Int) ≤ 1099511627776 := by rw [K.len]; exact K.bytes.len
  have HL := AsideA.mk K.len
  have I0 : AsideA (TkAt w0 w t A (len - 0) (c - 0) (bs.drop 0) ∧ takeP bs = takeGo (10 - 0) 0 0 (bs.drop 0) ∧ 0 < 128 ^ 0) := ⟨K, rfl, by decide⟩
  clear K
  go_enter Tryd.func45, Tryd.ntmps45
  go_wp2
  go_loopw [3, 4] (fun n i wr => ∃ k m : Nat, k ≤ 10 ∧ (k : Int) ≤ len ∧ i = .int .i64 k ∧ n = .int .u64 (m : Int) ∧ AsideA (∃ A, TkAt w0 wr t A (len - k) (c - k) (bs.drop k) ∧ takeP bs = takeGo (10 - k) k m (bs.drop k) ∧ m < 128 ^ k)) (fun _ i _ => 10 - (intOf i).toNat)
  case atStart => exact ⟨0, 0, by omega, by omega, rfl, rfl, ⟨A, I0.out⟩⟩
  case round =>
    obtain ⟨k, m, hk, hkl, rfl, rfl, I⟩ := hrel
    clear I0
    obtain ⟨A1, I1⟩ := I.out
    have J := AsideA.mk I1
    clear I1 I
    by_cases hlt : k < 10
    · by_cases hin : k < len
      · obtain ⟨x, hxx⟩ : ∃ x, bs[k]? = some x := ⟨bs[k]'(by have := HL.out; omega), List.getElem?_eq_getElem _⟩
        have hx : x < 256 := by
          have h1 := drop_cons hxx
          exact J.out.1.bytes.small x (by rw [h1]; exact List.mem_cons_self ..)
        have ST := AsideA.mk (J.out.2.1.trans (take_step bs k m x hlt hxx))
        have KB : AsideA (TkAt w0 wr t A1 (len - (k + 1) + 1) (c - k) (x :: bs.drop (k + 1))) := ⟨by
          have h1 := J.out.1
          rw [drop_cons hxx] at h1
          rwa [show len - (k + 1) + 1 = len - k by omega]⟩
        clear hxx
        go_wp2_with fail
        refine (xbyte w0 wr t A1 (len - (k + 1)) (c - k) x (bs.drop (k + 1)) KB.out).mono ?_
        rintro e w1 ⟨rfl, A2, h2⟩
        have K2 : AsideA (TkAt w0 w1 t A2 (len - (k + 1)) (c - (k + 1)) (bs.drop (k + 1))) := ⟨by rwa [show c - (k + 1) = c - k - 1 by omega]⟩
        have c1 := (blk_cell h2.blk 1).trans (show _ = some (Value.int .i64 0) from rfl)
        have f1 := blk_frozen h2.blk 1
        clear h2 KB
        by_cases hbad : (k = 9 ∧ 1 < x) ∨ (0 < k ∧ x = 0)
        · have E : AsideA (takeP bs = (0, 0, 4)) := ⟨by
            rw [ST.out]
            by_cases h9 : k = 9 ∧ 1 < x
            · rw [if_pos h9]
            · rw [if_neg h9, if_pos (by omega), if_pos (by omega)]⟩
          have FIN : AsideA (TkDone w0 t c bs (w1.setCell ⟨t, 1, none⟩ (.int .i64 4))) := ⟨.inr ⟨4, by decide, E.out, K2.out.below.setCell K2.out.ge _, _, blk_set K2.out.blk 1 _⟩⟩
          by_cases h9 : k = 9
          · by_cases h1 : 1 < x
            · go_wp2
              go_ret
              exact ⟨by rw [E.out]; rfl, FIN.out⟩
            · have h0 : x = 0 := by omega
              go_wp2
              go_ret
              exact ⟨by rw [E.out]; rfl, FIN.out⟩
          · have h0 : x = 0 := by omega
            have h1 : 0 < k := by omega
            go_wp2
            go_ret
            exact ⟨by rw [E.out]; rfl, FIN.out⟩
        · have hb1 : k = 9 → x ≤ 1 := fun h => by omega
          have hb2 : 0 < k → x ≠ 0 := fun h => by omega
          have V := AsideA.mk (part_val m x k (by omega) hb1 J.out.2.2)
          have MV := AsideA.mk (fun j hj => mul_val x k j hj (by omega) hb1)
          obtain ⟨y, hy⟩ : ∃ y, y = x % 128 := ⟨_, rfl⟩
          have ey : (x : Int) % 128 = (y : Int) := by omega
          have hy' : (y : Int) < 128 := by omega
          have P0 : AsideA (y = x % 128 * 128 ^ 0) := ⟨by rw [hy, Nat.pow_zero, Nat.mul_one]⟩
          have E1 : AsideA (takeP bs = if x < 128 then (m + x % 128 * 128 ^ k, k + 1, 0) else takeGo (10 - (k + 1)) (k + 1) (m + x % 128 * 128 ^ k) (bs.drop (k + 1))) := ⟨by
            rw [ST.out, if_neg (by omega)]
            by_cases h : x < 128
            · rw [if_pos h, if_neg (by omega), if_pos h]
            · rw [if_neg h, if_neg h]⟩
          have three : (k = 9 ∧ x = 1) ∨ (k ≠ 9 ∧ k = 0) ∨ (k ≠ 9 ∧ 0 < k ∧ x ≠ 0) := by omega
          clear hb1 hb2 hy hbad ST
          rcases three with ⟨h9, h1⟩ | ⟨h9, h1⟩ | ⟨h9, h1, h2⟩
          all_goals go_wp2
          all_goals (
            go_loopw [6, 7] (fun pt i wr => ∃ j p : Nat, j ≤ k ∧ i = .int .i64 j ∧ pt = .int .u64 (p : Int) ∧ AsideA (p = x % 128 * 128 ^ j) ∧ wr = w1) (fun _ i _ => k - (intOf i).toNat)
            case atStart => exact ⟨0, y, by omega, rfl, by first | rfl | (congr 1; omega), P0, rfl⟩
            case round =>
              obtain ⟨j, p, hj, rfl, rfl, P, rfl⟩ := hrel
              by_cases hjk : j < k
              · first | (exfalso; omega) | skip
                all_goals go_wp2
                all_goals exact ⟨⟨j + 1, p * 128, by omega, by go_num, congrArg (Value.int .u64) (by have h := MV.out j hjk; rw [← P.out] at h; rw [h, P.out, Nat.pow_succ, Nat.mul_assoc]), ⟨by rw [P.out, Nat.pow_succ, Nat.mul_assoc]⟩, by first | trivial | rfl⟩, by simp [intOf]; omega⟩
              · obtain rfl : j = k := by omega
                by_cases hs : x < 128
                · have E : AsideA (takeP bs = (m + p, j + 1, 0)) := ⟨by rw [E1.out, if_pos hs, P.out]⟩
                  have V2 := AsideA.mk V.out.1
                  go_wp2
                  go_ret
                  refine ⟨?_, .inl ⟨m + p, j + 1, E.out, A2, ?_⟩⟩
                  · rw [E.out]
                    exact congrArg (fun z => Ending.returned (Value.int .u64 z)) (by have h := V2.out; rw [← P.out] at h; exact h)
                  · have h := K2.out
                    rw [HL.out] at h
                    exact h
                · first | (exfalso; omega) | skip
                  all_goals go_wp2
                  all_goals exact ⟨⟨j + 1, m + p, by omega, by omega, by go_num, congrArg (Value.int .u64) (by have h := V.out.1; rw [← P.out] at h; exact h), ⟨A2, K2.out, by rw [E1.out, if_neg hs, P.out], by rw [P.out]; exact V.out.2⟩⟩, by simp [intOf]; omega⟩)
      · have e : bs.drop k = [] := List.drop_eq_nil_of_le (by have := HL.out; omega)
        have E : AsideA (takeP bs = (0, 0, 5)) := ⟨by
          rw [J.out.2.1, e]
          obtain ⟨f, hf⟩ : ∃ f, 10 - k = f + 1 := ⟨9 - k, by omega⟩
          rw [hf]
          rfl⟩
        clear e
        have hz : len - k = 0 := by omega
        have KB := J.out.1.blk
        rw [hz] at KB
        go_wp2_with fail
        refine (byte_none A1 (c - k) t wr KB).mono ?_
        rintro e w1 ⟨rfl, rfl⟩
        have hb := blk_set KB 1 (.int .i64 5)
        have c1 := (blk_cell hb 1).trans (show _ = some (Value.int .i64 5) from rfl)
        have FIN : AsideA (TkDone w0 t c bs (wr.setCell ⟨t, 1, none⟩ (.int .i64 5))) := ⟨.inr ⟨5, by decide, E.out, J.out.1.below.setCell J.out.1.ge _, _, hb⟩⟩
        clear hb KB
        go_wp2
        go_ret
        exact ⟨by rw [E.out]; rfl, FIN.out⟩
    · have e : k = 10 := by omega
      subst e
      have E : AsideA (takeP bs = (0, 0, 4)) := ⟨J.out.2.1⟩
      have hb := J.out.1.blk
      have c1 := (blk_cell hb 1).trans (show _ = some (Value.int .i64 0) from rfl)
      have f1 := blk_frozen hb 1
      have FIN : AsideA (TkDone w0 t c bs (wr.setCell ⟨t, 1, none⟩ (.int .i64 4))) := ⟨.inr ⟨4, by decide, E.out, J.out.1.below.setCell J.out.1.ge _, _, blk_set hb 1 _⟩⟩
      clear hb
      go_wp2
      go_ret
      exact ⟨by rw [E.out]; rfl, FIN.out⟩
end Go.Proofs.YtccmeiflahnleaaDoor.A

