/-
  slices.Reverse, Index, Min, for parties.
-/
import Derived.Test.YtjopmkfpghdlpaaQ0
import Derived.Test.YtjopmkfpghdlpaaP1
import Derived.IntWalk
import Derived.RegionTactic
import Derived.ChangeAlike
import Derived.BigRegion
namespace Go.Proofs.Ytjopmkfpghdlpaa.A
set_option linter.unusedVariables false
set_option linter.unusedSimpArgs false
open Go.RowKit

/-- parties that lie in a block of the call's own, cells behind them -/
def PBlk (w : World) (g : Nat) (L : List Nat) (tl : List Value) : Prop := w.heap[g]? = some (.cells (enc8 L ++ tl).toArray 30 (0, 0))
theorem PBlk.at_ {w : World} {g : Nat} {L : List Nat} {tl : List Value} (h : PBlk w g L tl) (k : Nat) (hk : k < L.length) : w.cell? ⟨g, k, none⟩ = some (.int .u8 (gn L k : Int)) := by
  rw [blk_cell h, List.getElem?_toArray, List.getElem?_append_left (by rw [enc8_len]; exact hk)]
  rw [enc8_at L k L[k] (List.getElem?_eq_getElem hk)]
  simp [gn, List.getD_eq_getElem?_getD, hk]
theorem PBlk.set {w : World} {g : Nat} {L : List Nat} {tl : List Value} (h : PBlk w g L tl) (k x : Nat) (hk : k < L.length) : PBlk (w.setCell ⟨g, k, none⟩ (.int .u8 (x : Int))) g (L.set k x) tl := by
  unfold PBlk
  rw [blk_set h]
  congr 2
  simp only [List.setIfInBounds_toArray]
  rw [List.set_append_left _ _ (by rw [enc8_len]; exact hk)]
  unfold enc8
  rw [List.map_set]
theorem PBlk.below {w w1 : World} {g : Nat} {L : List Nat} {tl : List Value} (h : PBlk w g L tl) (k : Below w.heap.size w w1) : PBlk w1 g L tl := blk_below h k
/-- reversed as far as i from both ends -/
def revd (L : List Nat) (i : Nat) : List Nat := (List.range L.length).map fun m => if m < i ∨ L.length ≤ m + i then gn L (L.length - 1 - m) else gn L m
theorem revd_len (L : List Nat) (i : Nat) : (revd L i).length = L.length := by simp [revd]
theorem revd_zero (L : List Nat) : revd L 0 = L := by
  apply ext_gn (revd_len L 0)
  intro i hi
  rw [revd_len] at hi
  unfold revd
  rw [gn_map _ _ _ hi, if_neg (by omega)]
theorem gn_reverse (L : List Nat) (i : Nat) (h : i < L.length) : gn L.reverse i = gn L (L.length - 1 - i) := by
  unfold gn
  rw [List.getD_eq_getElem?_getD, List.getD_eq_getElem?_getD, List.getElem?_reverse h]
theorem revd_all (L : List Nat) (i : Nat) (h : L.length ≤ i + i + 1) : revd L i = L.reverse := by
  apply ext_gn (by rw [revd_len, List.length_reverse])
  intro m hm
  rw [revd_len] at hm
  unfold revd
  rw [gn_map _ _ _ hm, gn_reverse _ _ hm]
  by_cases e : m < i ∨ L.length ≤ m + i
  · rw [if_pos e]
  · rw [if_neg e, show L.length - 1 - m = m by omega]
theorem gn_setL (l : List Nat) (i j : Nat) (x : Nat) (h : i < l.length) : gn (l.set i x) j = if j = i then x else gn l j := gn_set l i j x h
theorem revd_step (L : List Nat) (i : Nat) (h : i + i + 1 < L.length) : ((revd L i).set i (gn (revd L i) (L.length - 1 - i))).set (L.length - 1 - i) (gn (revd L i) i) = revd L (i + 1) := by
  have h1 : ∀ m, m < L.length → gn (revd L i) m = if m < i ∨ L.length ≤ m + i then gn L (L.length - 1 - m) else gn L m := fun m hm => gn_map _ _ _ hm
  apply ext_gn (by simp [revd_len])
  intro m hm
  simp only [List.length_set, revd_len] at hm
  rw [gn_set _ _ _ _ (by simp [revd_len]; omega), gn_set _ _ _ _ (by simp [revd_len]; omega), h1 m hm, h1 i (by omega), h1 (L.length - 1 - i) (by omega)]
  unfold revd
  rw [gn_map _ _ _ hm]
  by_cases e1 : m = L.length - 1 - i
  · rw [if_pos e1, if_neg (by omega), if_pos (by omega)]; congr 1; omega
  · rw [if_neg e1]
    by_cases e2 : m = i
    · rw [if_pos e2, if_neg (by omega), if_pos (by omega)]; congr 1; omega
    · rw [if_neg e2]
      by_cases e3 : m < i ∨ L.length ≤ m + i
      · rw [if_pos e3, if_pos (by omega)]
      · rw [if_neg e3, if_neg (by omega)]

set_option maxHeartbeats 4000000 in
set_option maxRecDepth 100000 in
theorem xreverse (g cap : Nat) (L : List Nat) (tl : List Value) (w : World) (hb : PBlk w g L tl) (hlen : (L.length : Int) ≤ 1099511627776) (hcap : L.length ≤ cap) :
    Calls Try.prog 44 #[.slice (some ⟨g, 0, none⟩) L.length cap] w fun e w' => e = .returned (.tuple #[]) ∧ PBlk w' g L.reverse tl ∧ w.grownBy w' (some g) := by
  have R0 := AsideA.mk (show PBlk w g (revd L 0) tl ∧ w.grownBy w (some g) from ⟨by rw [revd_zero]; exact hb, World.grownBy.refl w _⟩)
  have HS := AsideA.mk (revd_step L)
  have HA := AsideA.mk (revd_all L)
  have HRL := AsideA.mk (revd_len L)
  obtain ⟨len, hl⟩ : ∃ len, len = L.length := ⟨_, rfl⟩
  rw [← hl] at hlen hcap ⊢
  have HL := AsideA.mk hl
  clear hl hb
  go_enter Try.func44, Try.ntmps44
  go_wp2
  go_loopw [2, 3] (fun i j wr => ∃ k : Nat, k ≤ len ∧ i = .int .i64 k ∧ j = .int .i64 ((len : Int) - 1 - k) ∧ AsideA (PBlk wr g (revd L k) tl ∧ w.grownBy wr (some g))) (fun i _ _ => len - (intOf i).toNat)
  case atStart => exact ⟨0, by omega, rfl, by go_num, R0⟩
  case round =>
    obtain ⟨k, hk, rfl, rfl, I⟩ := hrel
    clear R0
    by_cases hlt : k + k + 1 < len
    · obtain ⟨j, hj⟩ : ∃ j : Nat, (j : Int) = (len : Int) - 1 - k := ⟨len - 1 - k, by omega⟩
      rw [← hj]
      have hj2 : j = len - 1 - k := by omega
      have c1 := I.out.1.at_ k (by rw [HRL.out]; have := HL.out; omega)
      have c2 := I.out.1.at_ j (by rw [HRL.out]; have := HL.out; omega)
      have f1 := blk_frozen I.out.1 k
      have f2 := blk_frozen I.out.1 j
      have hkj : (k : Int) < (j : Int) := by omega
      have hkj2 : k ≠ j := by omega
      have hjl : (j : Int) < (len : Int) := by omega
      have HJ := AsideA.mk (And.intro hj hj2)
      clear hj hj2
      generalize hx : gn (revd L k) k = x at c1
      generalize hy : gn (revd L k) j = y at c2
      have HXY := AsideA.mk (And.intro hx hy)
      clear hx hy
      go_wp2
      go_region
      clear c1 c2 f1 f2
      have hjb : (1 : Int) ≤ (j : Int) := by omega
      go_wp2
      refine ⟨⟨k + 1, by omega, by go_num, by have := HJ.out.1; exact congrArg _ (by omega), ⟨?_, ?_⟩⟩, by simp [intOf]; omega⟩
      · have h1 := ((I.out.1.set k y (by rw [HRL.out]; have := HL.out; omega)).set j x (by rw [List.length_set, HRL.out]; have := HL.out; omega)).below (Below.refl _ _).drew
        rw [← HXY.out.1, ← HXY.out.2, HJ.out.2, HL.out, HS.out k (by have := HL.out; omega)] at h1
        rw [← HXY.out.1, ← HXY.out.2, HJ.out.2, HL.out]
        exact h1
      · exact grown_below (grown_upd (grown_upd I.out.2 (Upd.setCell _ g k _)) (Upd.setCell _ g j _)) (Below.refl _ _).drew
    · have hge : (len : Int) - 1 - k ≤ (k : Int) := by omega
      have e := HA.out k (by have := HL.out; omega)
      rw [e] at I
      clear e
      go_wp2
      go_end0
      exact ⟨rfl, I.out.1, I.out.2⟩

set_option maxHeartbeats 2000000 in
set_option maxRecDepth 100000 in
/-- Index of a party that is in the list -/
theorem xidx (A : Option Addr) (c : Nat) (L : List Nat) (v : Nat) (w : World) (B : Bytes w A L) (hv : v ∈ L) : Calls Try.prog 45 #[.slice A L.length c, .int .u8 (v : Int)] w fun e w' => e = .returned (.int .i64 (L.idxOf v : Nat)) ∧ Below w.heap.size w w' := by
  have HB := AsideA.mk B
  have hlen := B.len
  have HV := AsideA.mk (idxOf_gn hv)
  have HM := AsideA.mk (fun (j : Nat) (hj : j < L.length) (h : ∀ i, i < j → L[i]? ≠ some v) (he : L[j]? = some v) => show L.idxOf v = j by
    have h1 := idxOf_gn hv
    rcases Nat.lt_trichotomy (L.idxOf v) j with h2 | h2 | h2
    · exfalso
      refine h _ h2 ?_
      have := h1.2
      unfold gn at this
      rw [List.getD_eq_getElem?_getD, List.getElem?_eq_getElem h1.1] at this
      rw [List.getElem?_eq_getElem h1.1]
      simp
    · exact h2
    · exfalso
      have h3 := List.not_of_lt_findIdx (p := (· == v)) (xs := L) (i := j) h2
      rw [List.getElem?_eq_getElem hj] at he
      simp at he
      simp [he] at h3)
  obtain ⟨len, hl⟩ : ∃ len, len = L.length := ⟨_, rfl⟩
  rw [← hl] at hlen ⊢
  have HL := AsideA.mk hl
  clear hl B hv
  go_enter Try.func45, Try.ntmps45
  go_wp2
  go_loopw [8] (fun i wr => ∃ k : Nat, k ≤ len ∧ i = .int .i64 k ∧ AsideA (Below w.heap.size w wr ∧ ∀ i, i < k → L[i]? ≠ some v)) (fun i _ => len - (intOf i).toNat)
  case atStart => exact ⟨0, by omega, rfl, ⟨Below.refl _ _, fun i h => by omega⟩⟩
  case round =>
    obtain ⟨k, hk, rfl, I⟩ := hrel
    by_cases hlt : k < len
    · obtain ⟨g, off, x, rfl, hc, hx, hxx⟩ := (HB.out.below I.out.1).get k (by have := HL.out; omega)
      have HX := AsideA.mk hxx
      clear hxx
      by_cases hxv : v = x
      · subst hxv
        have IX := AsideA.mk (HM.out k (by have := HL.out; omega) I.out.2 HX.out)
        go_wp2
        go_ret
        exact ⟨by rw [IX.out]; rfl, I.out.1⟩
      · have d1 : ((v : Int) == (x : Int)) = false := beq_eq_false_iff_ne.mpr (by omega)
        go_wp2
        refine ⟨⟨k + 1, by omega, by go_num, ⟨I.out.1, fun i hi => ?_⟩⟩, by simp [intOf]; omega⟩
        by_cases e1 : i = k
        · subst e1
          rw [HX.out]
          intro e2
          exact hxv (Option.some.inj e2).symm
        · exact I.out.2 i (by omega)
    · exfalso
      have h1 := HV.out
      refine I.out.2 (L.idxOf v) (by have := HL.out; omega) ?_
      rw [List.getElem?_eq_getElem h1.1]
      have := h1.2
      unfold gn at this
      rw [List.getD_eq_getElem?_getD, List.getElem?_eq_getElem h1.1] at this
      simp

theorem foldmin_step (l : List Nat) (a k x : Nat) (h : l[k]? = some x) : (l.take (k + 1)).foldl Nat.min a = Nat.min ((l.take k).foldl Nat.min a) x := by
  rw [List.take_add_one, h, List.foldl_append]
  rfl
theorem foldmin_lt (l : List Nat) (a B : Nat) (ha : a < B) (h : ∀ x ∈ l, x < B) : l.foldl Nat.min a < B := by
  obtain ⟨h1, h2, h3⟩ := fold_min l a
  omega

set_option maxHeartbeats 2000000 in
set_option maxRecDepth 100000 in
theorem xmin (A : Option Addr) (c : Nat) (L : List Nat) (w : World) (B : Bytes w A L) (hne : L ≠ []) : Calls Try.prog 46 #[.slice A L.length c] w fun e w' => e = .returned (.int .u8 (leastOf L : Nat)) ∧ Below w.heap.size w w' := by
  obtain ⟨a, r, rfl⟩ : ∃ a r, L = a :: r := by cases L with | nil => exact absurd rfl hne | cons a r => exact ⟨a, r, rfl⟩
  have HB := AsideA.mk B
  have hlen := B.len
  have ha := B.small a List.mem_cons_self
  have HR := AsideA.mk (fun x (hx : x ∈ r) => B.small x (List.mem_cons_of_mem _ hx))
  obtain ⟨g, off, x, rfl, hc, _, hx⟩ := B.get 0 (by simp)
  simp at hx
  subst hx
  have hl : (a :: r).length = r.length + 1 := rfl
  rw [hl] at hlen ⊢
  obtain ⟨n, hn⟩ : ∃ n, n = r.length := ⟨_, rfl⟩
  rw [← hn] at hlen ⊢
  have HN := AsideA.mk hn
  have HZ := AsideA.mk (show leastOf (a :: r) = r.foldl Nat.min a from rfl)
  have BB := AsideA.mk (Below.refl w.heap.size w)
  have d1 : decide (((n : Int) + 1) < 1) = false := decide_eq_false (by omega)
  have d2 : decide ((((n + 1 : Nat) : Int)) < 1) = false := decide_eq_false (by omega)
  clear hl hn B hne
  rw [Nat.add_zero] at hc
  go_enter Try.func46, Try.ntmps46
  go_wp2
  go_loopw [3, 4] (fun m i wr => ∃ k : Nat, k ≤ n ∧ i = .int .i64 ((k : Int) + 1) ∧ m = .int .u8 ((r.take k).foldl Nat.min a : Nat) ∧ AsideA (Below w.heap.size w wr)) (fun _ i _ => n + 1 - (intOf i).toNat)
  case atStart => exact ⟨0, by omega, by go_num, rfl, BB⟩
  case round =>
    obtain ⟨k, hk, rfl, rfl, I⟩ := hrel
    clear hc
    by_cases hlt : k < n
    · obtain ⟨g', off', x, e, hc, hx, hxx⟩ := (HB.out.below I.out).get (k + 1) (by have := HN.out; simp; omega)
      cases e
      rw [List.getElem?_cons_succ] at hxx
      have ST := AsideA.mk (foldmin_step r a k x hxx)
      generalize (r.take k).foldl Nat.min a = m at *
      clear hxx
      go_wp2
      refine ⟨⟨k + 1, by omega, by go_num, ?_, I⟩, by simp [intOf]; omega⟩
      rw [ST.out]
      show _ = Value.int .u8 ((min m x : Nat) : Int)
      congr 1
      split <;> omega
    · have e : r.take k = r := List.take_of_length_le (by have := HN.out; omega)
      have hkn : k = n := by omega
      rw [e]
      subst hkn
      clear e
      go_wp2
      go_ret
      exact ⟨by rw [HZ.out]; rfl, I.out⟩
end Go.Proofs.Ytjopmkfpghdlpaa.A

