/-
  The reference's Sum.
-/
import Derived.Test.YtbeiphfmdmccmaaF1
namespace Go.Proofs.Ytbeiphfmdmccmaa.A
set_option linter.unusedVariables false
set_option linter.unusedSimpArgs false
open Go.RowKit

structure SumInv (w wr : World) (g4 : Nat) (c4 : Array Value) : Prop where
  b4 : wr.heap[g4]? = some (.cells c4 59 (0, 0))
  ge4 : w.heap.size ≤ g4
  below : Below w.heap.size w wr
theorem SumInv.later {w wr wz : World} {g4 : Nat} {c4 : Array Value} (I : SumInv w wr g4 c4) (h : Below wr.heap.size wr wz) : SumInv w wz g4 c4 :=
  ⟨blk_below I.b4 h, I.ge4, below_call I.below h⟩
theorem SumInv.drew {w wr : World} {g4 : Nat} {c4 : Array Value} (I : SumInv w wr g4 c4) : SumInv w wr.drew g4 c4 :=
  ⟨I.b4, I.ge4, I.below.drew⟩
theorem SumInv.upd {w wr wz : World} {g4 : Nat} {c4 c4' : Array Value} (I : SumInv w wr g4 c4) (hb : wz.heap[g4]? = some (.cells c4' 59 (0, 0))) (hu : Upd wr wz g4) : SumInv w wz g4 c4' :=
  ⟨hb, I.ge4, hu.below I.below I.ge4⟩

/-- a number with its sign, as the reference keeps it: the sum of those so far -/
def acc : List Int → Bool × Nat
  | xs => xs.foldl (fun a x => tg a (decide (x < 0), x.natAbs)) (false, 0)

theorem acc_step (xs : List Int) {k : Nat} (h : k < xs.length) : acc (xs.take (k + 1)) = tg (acc (xs.take k)) (decide (xs.getD k 0 < 0), (xs.getD k 0).natAbs) := by
  rw [List.take_succ_eq_append_getElem h]
  unfold acc
  rw [List.foldl_append]
  simp [List.getD_eq_getElem?_getD, h]
theorem acc_le_aux (B : Nat) : ∀ (xs : List Int) (a : Bool × Nat), (∀ x ∈ xs, x.natAbs ≤ B) → (xs.foldl (fun a x => tg a (decide (x < 0), x.natAbs)) a).2 ≤ a.2 + xs.length * B
  | [], a, _ => by simp
  | x :: r, a, h => by
    rw [List.foldl_cons]
    refine Nat.le_trans (acc_le_aux B r _ fun y hy => h y (List.mem_cons_of_mem _ hy)) ?_
    have h1 := tg_le a (decide (x < 0), x.natAbs)
    have h2 := h x List.mem_cons_self
    simp only at h1
    rw [List.length_cons, Nat.succ_mul]
    omega
theorem acc_val_aux : ∀ (xs : List Int) (a : Bool × Nat), sval (xs.foldl (fun a x => tg a (decide (x < 0), x.natAbs)) a).1 (xs.foldl (fun a x => tg a (decide (x < 0), x.natAbs)) a).2 = sval a.1 a.2 + isum xs
  | [], a => by simp [isum]
  | x :: r, a => by
    rw [List.foldl_cons, acc_val_aux r, tg_val]
    have : sval (decide (x < 0)) x.natAbs = x := by
      unfold sval
      by_cases h : x < 0 <;> simp [h] <;> omega
    simp only [this, isum]
    omega
theorem acc_val (xs : List Int) : sval (acc xs).1 (acc xs).2 = isum xs := by
  unfold acc
  rw [acc_val_aux]
  simp [sval]
theorem acc_le (xs : List Int) (h : ∀ x ∈ xs, in64 x) (hl : xs.length ≤ 1099511627776) : (acc xs).2 ≤ 2 ^ 40 * 2 ^ 63 := by
  have h1 := acc_le_aux (2 ^ 63) xs (false, 0) (fun x hx => by have := h x hx; unfold in64 at this; omega)
  unfold acc
  refine Nat.le_trans h1 ?_
  rw [Nat.zero_add]
  exact Nat.mul_le_mul hl (Nat.le_refl _)

set_option maxHeartbeats 2000000 in
set_option maxRecDepth 100000 in
theorem ref_Sum (A : Option Addr) (c : Nat) (xs : List Int) (w : World) (R : Rd w A xs) : Calls Try.prog 24 #[.slice A xs.length c] w fun e w' => e = .returned (.tuple #[.int .i64 (fit (isum xs)).1, .int .i64 (fit (isum xs)).2]) ∧ Below w.heap.size w w' := by
  have HR := AsideA.mk R
  clear R
  obtain ⟨len, hlen⟩ : ∃ len, len = xs.length := ⟨_, rfl⟩
  rw [← hlen]
  have HL := AsideA.mk hlen
  have hle : (len : Int) ≤ 1099511627776 := by have := HR.out.len; omega
  clear hlen
  go_enter Try.func24, Try.ntmps24
  go_wp2_with (refine alloc_new 59 rfl rfl _ zero59 (wh false 0) rfl ?_; intro g4 w4 N4)
  have I0 : SumInv w w4 g4 (wh (acc (xs.take 0)).1 (acc (xs.take 0)).2) := ⟨N4.blk, N4.ge (Below.refl _ _), below_new (Below.refl _ _) N4⟩
  clear N4
  go_loopw [5] (fun i wr => ∃ k : Nat, k ≤ len ∧ i = .int .i64 k ∧ AsideA (SumInv w wr g4 (wh (acc (xs.take k)).1 (acc (xs.take k)).2))) (fun i _ => len - (intOf i).toNat)
  case atStart => exact ⟨0, by omega, rfl, ⟨I0⟩⟩
  case round =>
    obtain ⟨k, hk, rfl, I⟩ := hrel
    clear I0
    by_cases hlt : k < len
    · have hk' : k < xs.length := by have := HL.out; omega
      obtain ⟨g, off, hA, hc⟩ := (HR.out.below I.out.below).cells k hk'
      obtain ⟨x, hx⟩ : ∃ x, x = xs.getD k 0 := ⟨_, rfl⟩
      rw [← hx] at hc
      subst hA
      have HX := AsideA.mk hx
      have hxin : in64 x := by
        rw [hx, List.getD_eq_getElem?_getD, List.getElem?_eq_getElem hk']
        exact HR.out.wf _ (List.getElem_mem hk')
      have HT := AsideA.mk (acc_step xs hk')
      rw [← hx] at HT
      have hb0 : (acc (xs.take k)).2 + x.natAbs < 2 ^ 192 := by
        have h1 := acc_le (xs.take k) (fun y hy => HR.out.wf y (List.mem_of_mem_take hy)) (by rw [List.length_take]; have := HR.out.len; omega)
        have h2 : x.natAbs ≤ 2 ^ 63 := by unfold in64 at hxin; omega
        refine Nat.lt_of_le_of_lt (Nat.add_le_add h1 h2) ?_
        decide
      generalize hp : acc (xs.take k) = p at I HT hb0
      have CT := AsideA.mk (ref_Together p (decide (x < 0), x.natAbs) hb0)
      have CO := AsideA.mk (ref_Of x hxin.1 hxin.2)
      have RD := AsideA.mk (fun (wz : World) (h : Below w.heap.size w wz) => (HR.out.below h).cells k hk')
      clear hb0 hxin hk' hp hx
      go_wp2
      generalize hbx : decide (x < 0) = bx at CT CO HT
      generalize hnx : x.natAbs = nx at CT CO HT
      have HB := AsideA.mk (And.intro hbx hnx)
      clear hbx hnx
      generalize htg : tg p (bx, nx) = t at CT HT
      clear htg
      refine region_fin follows [12, 13, 14, 15, 16, 17, 18] [(12, .agg (wh p.1 p.2)), (13, .slice (some ⟨g, off, none⟩) len c), (14, .int .i64 k), (15, .pointer (some ⟨g, off + k, none⟩)), (16, .int .i64 x), (17, .agg (wh bx nx)), (18, .agg (wh t.1 t.2))] rfl _ (by simp only [actPuts]; go_simp; rfl) 23 rfl (by kernel_rfl)
          (fun wr => SumInv w wr g4 (wh p.1 p.2)) (fun wr => SumInv w wr g4 (wh t.1 t.2)) I.out.drew ?_ ?_
      · refine ⟨?_, ?_, ?_, ?_, ?_, ?_, ?_, ?_⟩
        · intro wr h
          exact op_val (run_load_at 59 _ rfl g4 0 rfl (wh p.1 p.2) _ Try.underlying59 rfl (size59 _ _) (blk_at0 h.b4)) rfl rfl h
        · intro wr h
          exact op_val (v := .slice (some ⟨g, off, none⟩) len c) (w' := wr) (by go_simp) rfl rfl h
        · intro wr h
          exact op_val (v := .int .i64 k) (w' := wr) (by go_simp) rfl rfl h
        · intro wr h
          exact op_val (v := .pointer (some ⟨g, off + k, none⟩)) (w' := wr) (by go_simp) rfl rfl h
        · intro wr h
          have hc : wr.cell? ⟨g, off + k, none⟩ = some (.int .i64 x) := by
            obtain ⟨g', off', e1, e2⟩ := RD.out wr h.below
            cases e1
            rw [e2, ← HX.out]
          exact op_val (v := .int .i64 x) (w' := wr) (by go_simp) rfl rfl h
        · intro wr h
          exact op_call (f := 49) (args := #[.int .i64 x]) (by go_simp) rfl rfl ((CO.out wr).mono fun e w' ⟨he, hb⟩ => ⟨he, h.later hb⟩)
        · intro wr h
          exact op_call (f := 48) (args := #[.agg (wh p.1 p.2), .agg (wh bx nx)]) (by go_simp) rfl rfl ((CT.out wr).mono fun e w' ⟨he, hb⟩ => ⟨he, h.later hb⟩)
        · intro wr h
          exact op_store 59 (.tmp 4) (.tmp 18) rfl rfl g4 0 rfl (wh t.1 t.2) rfl (wh p.1 p.2) 59 h.b4 (size59 _ _) (by rw [wh_size, wh_size]; exact Nat.le_refl _) (wh_one _ _) _ (splice_all _ _ (by rw [wh_size, wh_size]))
            fun w1 hb hu => h.upd hb hu
      · intro wz hz
        have Z := AsideA.mk hz
        clear hz I
        go_wp2
        exact ⟨⟨k + 1, by omega, by go_num, by rw [HT.out]; exact Z⟩, by simp [intOf]; omega⟩
    · have e : xs.take k = xs := List.take_of_length_le (by have := HL.out; omega)
      rw [e] at I
      have hv := acc_val xs
      have hb := acc_le xs HR.out.wf HR.out.len
      have hb' : (acc xs).2 < 2 ^ 192 := Nat.lt_of_le_of_lt hb (by decide)
      clear e hb HR
      have HV := AsideA.mk hv
      have HN := AsideA.mk (ref_Num (acc xs).1 (acc xs).2 hb')
      clear hb' hv
      generalize acc xs = p at *
      generalize hr : fit (sval p.1 p.2) = r at HN
      have HRR := AsideA.mk hr
      clear hr
      go_wp2_with (first | (refine load_at 59 (.tmp 4) rfl rfl g4 0 rfl (wh p.1 p.2) _ Try.underlying59 rfl (size59 _ _) (blk_at0 I.out.b4) ?_) | (go_at_call 47; refine (HN.out _).mono ?_; rintro e wq ⟨rfl, hq⟩; have BN := AsideA.mk (below_call I.out.below hq); clear hq))
      go_ret2
      rw [← HV.out, HRR.out]
      exact ⟨rfl, BN.out⟩
end Go.Proofs.Ytbeiphfmdmccmaa.A
