/-
  sums.Ends.
-/
import Derived.Test.YtccmeiflahnleaaDoorS6
import Derived.Test.YtccmeiflahnleaaDoorReg4
namespace Go.Proofs.YtccmeiflahnleaaDoor.A
set_option linter.unusedVariables false
set_option linter.unusedSimpArgs false
open Go.RowKit

/-- do the bytes end with their sum? -/
def endsB (bs : List Nat) : Bool := decide (4 ≤ bs.length ∧ bs.drop (bs.length - 4) = four (crc 0 (bs.take (bs.length - 4))))
theorem follows : Tryd.prog.follows .mixedOrders = true := by kernel_rfl

theorem Bytes.take {w : World} {A : Option Addr} {bs : List Nat} (h : Bytes w A bs) (k : Nat) : Bytes w A (bs.take k) := by
  refine ⟨?_, fun b hb => h.small b (List.mem_of_mem_take hb), ?_⟩
  · rcases h.reads with h0 | ⟨ad, e, h1⟩
    · left
      have : bs = [] := by
        have := congrArg List.length h0
        simpa [enc8] using this
      subst this
      simp [enc8]
    · refine .inr ⟨ad, e, fun j u hu => h1 j u ?_⟩
      unfold enc8 at hu ⊢
      rw [List.map_take, List.getElem?_take] at hu
      split at hu
      · exact hu
      · cases hu
  · have := h.len
    rw [List.length_take]
    omega
theorem Bytes.drop {w : World} {g off : Nat} {bs : List Nat} (h : Bytes w (some ⟨g, off, none⟩) bs) (k : Nat) : Bytes w (some ⟨g, off + k, none⟩) (bs.drop k) := by
  refine ⟨?_, fun b hb => h.small b (List.mem_of_mem_drop hb), ?_⟩
  · rcases h.reads with h0 | ⟨ad, e, h1⟩
    · left
      have : bs = [] := by
        have := congrArg List.length h0
        simpa [enc8] using this
      subst this
      simp [enc8]
    · cases e
      refine .inr ⟨_, rfl, fun j u hu => ?_⟩
      have := h1 (k + j) u (by
        unfold enc8 at hu ⊢
        rw [List.map_drop, List.getElem?_drop] at hu
        exact hu)
      rw [add_none] at this ⊢
      rw [Nat.add_assoc]
      exact this
  · have := h.len
    rw [List.length_drop]
    omega

set_option maxHeartbeats 1000000 in
set_option maxRecDepth 100000 in
theorem ends_short (A : Option Addr) (n c : Nat) (h : n < 4) (w : World) : Calls Tryd.prog 18 #[.slice A n c] w fun e w' => e = .returned (.bool false) ∧ Below w.heap.size w w' := by
  have BB := AsideA.mk (Below.refl w.heap.size w)
  go_enter Tryd.func18, Tryd.ntmps18
  go_wp2
  go_ret
  exact ⟨rfl, BB.out⟩

theorem opc_call_pick {P : Program} {ops : Array Oper} {F : Nat → Act} {x : Nat} {o : Oper} {w : World} {I : Option Nat → World → Prop} {d : Nat} {v : Nat → Value} {f : FuncId} {args : Array Value} (hw : Region.wanted o (yielded ops (F x).tmps) = true) (hrun : (execOp (F x).eval o).run P w = .ok (.enter f args) w) (hd : o.dst = some d) (hv : ∀ y, (F y).tmps[d]? = some (v y))
    (hcall : Calls P f args w fun e w' => ∃ g, e = .returned (v g) ∧ I (some g) w') : opC P ops F none x o w I := by
  unfold opC
  rw [if_pos hw]
  unfold Oper.wp
  rw [hrun]
  simp only [Oper.upon]
  refine Calls.mono hcall ?_
  rintro e w' ⟨g, rfl, hI⟩
  refine ⟨by rw [hd]; rfl, some g, fun _ _ => .inl rfl, fun y hy e he => ?_, hI⟩
  rw [hd] at he ⊢
  cases he
  have hy' : y = g := by
    rcases hy with h | h
    · cases h
    · exact (Option.some.inj h).symm
  subst hy'
  rw [hv y]
  simp only [Act.put]
  exact Array.getElem?_setIfInBounds_self_of_lt (Array.getElem?_eq_some_iff.1 (hv x)).1

/-- how far the region is: the block that 'four' made, once it has -/
def En (w0 : World) (g off m : Nat) (bs : List Nat) (c : Option Nat) (l : Array Bool) (w : World) : Prop :=
  Below w0.heap.size w0 w ∧ (l.getD 7 false = false → c = none) ∧ (l.getD 7 false = true → ∃ k, c = some k ∧ w.heap[k]? = some (.cells (enc8 (four (crc 0 (bs.take m)))).toArray 5 (0, 0)))
theorem getD_set_self {l : Array Bool} {i : Nat} (h : i < l.size) : (l.setIfInBounds i true).getD i false = true := by
  simp [h]
theorem En.other {w0 w w1 : World} {g off m : Nat} {bs : List Nat} {c : Option Nat} {l : Array Bool} (h : En w0 g off m bs c l w) (i : Nat) (hi : i ≠ 7) (k : Below w.heap.size w w1) : En w0 g off m bs c (l.setIfInBounds i true) w1 := by
  unfold En
  rw [getD_set_ne false hi]
  exact ⟨below_call h.1 k, h.2.1, fun hb => by obtain ⟨q, e, hq⟩ := h.2.2 hb; exact ⟨q, e, blk_below hq k⟩⟩
theorem En.made {w0 w w1 : World} {g off m q : Nat} {bs : List Nat} {c : Option Nat} {l : Array Bool} (h : En w0 g off m bs c l w) (hl : l.size = 10) (hq : w1.heap[q]? = some (.cells (enc8 (four (crc 0 (bs.take m)))).toArray 5 (0, 0))) (k : Below w.heap.size w w1) : En w0 g off m bs (some q) (l.setIfInBounds 7 true) w1 := by
  unfold En
  rw [getD_set_self (by omega)]
  exact ⟨below_call h.1 k, (fun hb => by cases hb), fun _ => ⟨q, rfl, hq⟩⟩

set_option maxHeartbeats 2000000 in
set_option maxRecDepth 100000 in
theorem ends_long (g off c m : Nat) (bs : List Nat) (w : World) (B : Bytes w (some ⟨g, off, none⟩) bs) (T : TabAt w) (hm : bs.length = m + 4) (hc : m + 4 ≤ c) : Calls Tryd.prog 18 #[.slice (some ⟨g, off, none⟩) (m + 4) c] w fun e w' => e = .returned (.bool (endsB bs)) ∧ Below w.heap.size w w' := by
  have hE : endsB bs = decide (bs.drop m = four (crc 0 (bs.take m))) := by
    unfold endsB
    rw [hm, show m + 4 - 4 = m by omega]
    congr 1
    simp
  rw [hE]
  have hlen := B.len
  have l1 : (bs.take m).length = m := by rw [List.length_take]; omega
  have l2 : (bs.drop m).length = 4 := by rw [List.length_drop]; omega
  have HO := AsideA.mk (fun (wz : World) (h : Below w.heap.size w wz) => xof (some ⟨g, off, none⟩) c (bs.take m) wz ((B.below h).take m) (T.below h))
  have HF := AsideA.mk (xfour (crc 0 (bs.take m)))
  have HQ := AsideA.mk (fun (wz : World) (q : Nat) (h : Below w.heap.size w wz) (hq : wz.heap[q]? = some (.cells (enc8 (four (crc 0 (bs.take m)))).toArray 5 (0, 0))) =>
    xequal (some ⟨g, off + m, none⟩) (some ⟨q, 0, none⟩) (c - m) 4 (bs.drop m) (four (crc 0 (bs.take m))) wz ((B.below h).drop m) ⟨Reads.of_block hq _ (fun j u hu => by rw [Nat.zero_add, List.getElem?_toArray]; exact hu), four_small _, by show (4 : Int) ≤ _; decide⟩)
  rw [l1] at HO
  rw [l2] at HQ
  have hmi : (m : Int) + 4 ≤ 1099511627776 := by omega
  clear hE hlen l1 l2 B T hm
  generalize hv : crc 0 (bs.take m) = v at HO HF
  have HV := AsideA.mk hv
  clear hv
  generalize hr : decide (bs.drop m = four (crc 0 (bs.take m))) = r at HQ ⊢
  have HRR := AsideA.mk hr
  clear hr
  have f1 : (m : Int) ≤ (m : Int) + 4 := by omega
  have f2 : ¬ c = m := by omega
  have f3 : ¬ c < m := by omega
  have d1 : decide ((m : Int) + 4 < 4) = false := decide_eq_false (by omega)
  go_enter Tryd.func18, Tryd.ntmps18
  go_wp2
  refine region_picked follows [10, 11, 12, 13, 14, 15, 16, 17, 18, 2] (fun y => [(10, .slice (some ⟨g, off, none⟩) (m + 4) c), (11, .int .i64 m), (12, .slice (some ⟨g, off + m, none⟩) 4 (c - m)), (13, .slice (some ⟨g, off, none⟩) (m + 4) c), (14, .int .i64 m), (15, .slice (some ⟨g, off, none⟩) m c), (16, .int .u32 v), (17, .slice (some ⟨y, 0, none⟩) 4 4), (18, .bool r), (2, .bool r)]) (fun _ => rfl) _ (fun y => by simp only [actPuts]; go_simp; rfl) 19 rfl (by kernel_rfl)
    (fun c' l wz => En w g off m bs c' l wz) ?_ ?_ ?_
  · intro l hl
    unfold En
    rw [hl 7]
    exact ⟨(Below.refl _ _).drew, fun _ => rfl, fun hb => by cases hb⟩
  · refine ⟨?_, ?_, ?_, ?_, ?_, ?_, ?_, ?_, ?_, ?_, trivial⟩
    · intro c' l wz x hs hl hn h hx
      exact opc_val rfl (v := .slice (some ⟨g, off, none⟩) (m + 4) c) (w' := wz) (by go_simp) rfl (fun _ => rfl) (h.other 0 (by decide) (Below.refl _ _))
    · intro c' l wz x hs hl hn h hx
      exact opc_val rfl (v := .int .i64 m) (w' := wz) (by go_simp) rfl (fun _ => rfl) (h.other 1 (by decide) (Below.refl _ _))
    · intro c' l wz x hs hl hn h hx
      exact opc_val rfl (v := .slice (some ⟨g, off + m, none⟩) 4 (c - m)) (w' := wz) (by go_simp) rfl (fun _ => rfl) (h.other 2 (by decide) (Below.refl _ _))
    · intro c' l wz x hs hl hn h hx
      exact opc_val rfl (v := .slice (some ⟨g, off, none⟩) (m + 4) c) (w' := wz) (by go_simp) rfl (fun _ => rfl) (h.other 3 (by decide) (Below.refl _ _))
    · intro c' l wz x hs hl hn h hx
      exact opc_val rfl (v := .int .i64 m) (w' := wz) (by go_simp) rfl (fun _ => rfl) (h.other 4 (by decide) (Below.refl _ _))
    · intro c' l wz x hs hl hn h hx
      exact opc_val rfl (v := .slice (some ⟨g, off, none⟩) m c) (w' := wz) (by go_simp) rfl (fun _ => rfl) (h.other 5 (by decide) (Below.refl _ _))
    · intro c' l wz x hs hl hn h hx
      exact opc_call rfl (f := 13) (args := #[.slice (some ⟨g, off, none⟩) m c]) (by go_simp) rfl (fun _ => rfl) ((HO.out wz h.1).mono fun e w' ⟨he, hb⟩ => ⟨he, h.other 6 (by decide) hb⟩)
    · intro c' l wz x hs hl hn h hx
      have hcn := h.2.1 hl
      subst hcn
      exact opc_call_pick rfl (f := 36) (args := #[.int .u32 v]) (by go_simp) rfl (fun _ => rfl) ((HF.out wz).mono fun e w' ⟨q, he, hq, _, hb⟩ => ⟨q, he, h.made hs (by rw [HV.out]; exact hq) hb⟩)
    · intro c' l wz x hs hl hn h hx
      obtain ⟨q, e, hq⟩ := h.2.2 (hn 7 (by decide))
      subst e
      rcases hx with hx | hx
      · cases hx
      · have e := Option.some.inj hx
        subst e
        exact opc_call rfl (f := 38) (args := #[.slice (some ⟨g, off + m, none⟩) 4 (c - m), .slice (some ⟨q, 0, none⟩) 4 4]) (by go_simp) rfl (fun _ => rfl) ((HQ.out wz q h.1 hq).mono fun e w' ⟨he, hb⟩ => ⟨he, h.other 8 (by decide) hb⟩)
    · intro c' l wz x hs hl hn h hx
      exact opc_val rfl (v := .bool r) (w' := wz) (by go_simp) rfl (fun _ => rfl) (h.other 9 (by decide) (Below.refl _ _))
  · intro c' l w4 x hd h hx
    have I1 := AsideA.mk h.1
    clear hd h hx
    go_wp2
    go_ret
    refine ⟨?_, I1.out⟩
    have hrr := HRR.out
    rw [HV.out] at hrr
    rw [hrr]
    rfl
end Go.Proofs.YtccmeiflahnleaaDoor.A
