/-
  slices.IndexFunc and DeleteFunc, for edges: those whose ends are no parties are let go.
-/
import Derived.Test.YtjopmkfpghdlpaaQ2
import Derived.Laws.NewBlocks
namespace Go.Proofs.Ytjopmkfpghdlpaa.A
set_option linter.unusedVariables false
set_option linter.unusedSimpArgs false
open Go.RowKit

set_option maxHeartbeats 2000000 in
set_option maxRecDepth 100000 in
theorem xindex (A : Option Addr) (c : Nat) (es : List Ed) (w : World) (E : Edges w A es) : Calls Try.prog 65 #[.slice A es.length c, .func (.func 41) #[] #[]] w fun e w' => (∃ r : Int, e = .returned (.int .i64 r) ∧ ((r = -1 ∧ ∀ x ∈ es, okb x = true) ∨ ∃ j : Nat, r = j ∧ j < es.length ∧ (∀ i x, i < j → es[i]? = some x → okb x = true) ∧ ∃ x, es[j]? = some x ∧ okb x = false)) ∧ Below w.heap.size w w' := by
  have HE := AsideA.mk E
  have hlen := E.len
  obtain ⟨len, hl⟩ : ∃ len, len = es.length := ⟨_, rfl⟩
  rw [← hl] at hlen ⊢
  have HL := AsideA.mk hl
  clear hl E
  go_enter Try.func65, Try.ntmps65
  go_wp2
  go_loopw [8] (fun i wr => ∃ k : Nat, k ≤ len ∧ i = .int .i64 k ∧ AsideA (Below w.heap.size w wr ∧ ∀ j x, j < k → es[j]? = some x → okb x = true)) (fun i _ => len - (intOf i).toNat)
  case atStart => exact ⟨0, by omega, rfl, ⟨Below.refl _ _, fun j x h => by omega⟩⟩
  case round =>
    obtain ⟨k, hk, rfl, I⟩ := hrel
    by_cases hlt : k < len
    · obtain ⟨g, off, e, rfl, hek, hwf, hc⟩ := (HE.out.below I.out.1).get k (by have := HL.out; omega)
      have HX := AsideA.mk hek
      have HCC := AsideA.mk hc
      have C := AsideA.mk (xbad e wr)
      clear hek hwf hc
      cases hr : okb e with
      | false =>
        rw [hr] at C
        have HR := AsideA.mk hr
        clear hr
        go_wp2_with (first
          | ((with_reducible refine gate (N := 15) rfl ?_); refine load_at 35 (.tmp 14) rfl rfl g (off + k * 3) rfl (encV e) _ Try.underlying35 rfl info35s HCC.out ?_)
          | (go_at_call 41; refine C.out.mono ?_; rintro e1 w1 ⟨rfl, hq⟩; have BN := AsideA.mk (below_call I.out.1 hq); clear hq))
        go_ret
        exact ⟨⟨(k : Int), rfl, .inr ⟨k, rfl, hlt, I.out.2, e, HX.out, HR.out⟩⟩, BN.out⟩
      | true =>
        rw [hr] at C
        have HR := AsideA.mk hr
        clear hr
        go_wp2_with (first
          | ((with_reducible refine gate (N := 15) rfl ?_); refine load_at 35 (.tmp 14) rfl rfl g (off + k * 3) rfl (encV e) _ Try.underlying35 rfl info35s HCC.out ?_)
          | (go_at_call 41; refine C.out.mono ?_; rintro e1 w1 ⟨rfl, hq⟩; have BN := AsideA.mk (below_call I.out.1 hq); clear hq))
        refine ⟨⟨k + 1, by omega, by go_num, ⟨BN.out, fun j y hj hy => ?_⟩⟩, by simp [intOf]; omega⟩
        by_cases e1 : j = k
        · subst e1
          rw [HX.out] at hy
          cases hy
          exact HR.out
        · exact I.out.2 j y (by omega) hy
    · go_wp2
      go_ret
      refine ⟨⟨-1, rfl, .inl ⟨rfl, fun x hx => ?_⟩⟩, I.out.1⟩
      obtain ⟨j, hj⟩ := List.getElem?_of_mem hx
      have h1 := (List.getElem?_eq_some_iff.1 hj).1
      exact I.out.2 j x (by have := HL.out; omega) hj

/-- edges that lie in a block of the call's own, cells behind them -/
def EdBlk (w : World) (g : Nat) (L : List Ed) (tl : List Value) : Prop := w.heap[g]? = some (.cells (encE L ++ tl).toArray 35 (0, 0))
theorem EdBlk.at_ {w : World} {g : Nat} {L : List Ed} {tl : List Value} (h : EdBlk w g L tl) (k : Nat) (e : Ed) (hk : L[k]? = some e) : ∀ j, j < (encV e).size → w.cell? ⟨g, k * 3 + j, none⟩ = (encV e)[j]? := by
  intro j hj
  have h3 : j < 3 := hj
  have hkl := (List.getElem?_eq_some_iff.1 hk).1
  rw [blk_cell h, List.getElem?_toArray, List.getElem?_append_left (by rw [encE_len]; omega)]
  exact encE_at L k e hk j h3
theorem encE_set (L : List Ed) : ∀ (k : Nat) (e : Ed), k < L.length → (encE L).take (k * 3) ++ (encV e).toList ++ (encE L).drop (k * 3 + 3) = encE (L.set k e) := by
  induction L with
  | nil => intro k e h; simp at h
  | cons x L ih =>
    intro k e h
    cases k with
    | zero => rfl
    | succ k =>
      rw [show (k + 1) * 3 = k * 3 + 1 + 1 + 1 by omega, encE_cons, List.set_cons_succ, encE_cons, ← ih k e (by simpa using h)]
      rw [show k * 3 + 1 + 1 + 1 + 3 = (k * 3 + 3) + 1 + 1 + 1 by omega]
      simp only [List.take_succ_cons, List.drop_succ_cons, List.cons_append]
theorem ed_splice (L : List Ed) (tl : List Value) (k : Nat) (e : Ed) (h : k < L.length) : splice (encE L ++ tl).toArray (k * 3) (encV e) = (encE (L.set k e) ++ tl).toArray := by
  unfold splice
  rw [← encE_set L k e h]
  have hl := encE_len L
  have h3 : (encV e).size = 3 := rfl
  simp only [h3]
  rw [List.take_append_of_le_length (by omega), List.drop_append_of_le_length (by omega), List.append_assoc, List.append_assoc, List.append_assoc]

section
variable {P : Program} {ops : Array Oper} {rest : List Oper} {o : Oper} {a : Act} {Q : Exit → Act → World → Prop}
/-- picks the store of two operands -/
theorem gate2 {W : World} {t : TypeId} (x y : Operand) (_h : o.op = .store t x y) (h : wpList P ops Q (o :: rest) a W) : wpList P ops Q (o :: rest) a W := h
/-- clear of a slice that ends where the known cells end, or before: what stands ahead of it stays -/
theorem clear_at {W : World} (t e : TypeId) (x : Operand) (ho : o.op = .call { callee := .builtin .clear, args := #[x], argTypes := #[t] }) (hgd : o.guard = none) (ht : P.underlying t = some (.slice e)) (z : Value) (hz : (P.info? e).bind (·.zero) = some z) (h1 : ∀ v ∈ z.cells.toList, v.oneCell' = true)
    (g off n c : Nat) (hx : a.eval x = .slice (some ⟨g, off, none⟩) n c) (cs : Array Value) (tt : TypeId) (hg : W.heap[g]? = some (.cells cs tt (0, 0))) (hle : off + n * z.cells.size ≤ cs.size)
    (h : ∀ w1 zs, zs.length = n * z.cells.size → w1.heap[g]? = some (.cells (cs.toList.take off ++ zs ++ cs.toList.drop (off + n * z.cells.size)).toArray tt (0, 0)) → Upd W w1 g → wpList P ops Q rest (a.put o.dst (.tuple #[])) w1) : wpList P ops Q (o :: rest) a W := by
  obtain ⟨i, hi⟩ : ∃ i, P.info? e = some i := by cases hq : P.info? e with | none => simp [hq] at hz | some i => exact ⟨i, rfl⟩
  have hzz : i.zero = some z := by simpa [hi] using hz
  have hzv : (zeroValue e).run P W = .ok z W := by simp [zeroValue, typeInfo, Sem.run_bind, hi, hzz]
  have run : ∀ w1, (Builtin.clear_ #[t] o.type #[.slice (some ⟨g, off, none⟩) n c]).run P W = .ok (.tuple #[]) w1 → (execOp a.eval o).run P W = .ok (.value (.tuple #[])) w1 := by
    intro w1 hr
    unfold execOp
    simp only [ho, resolve, invoke, builtin, Sem.run_bind, Sem.run_pure, Result.andThen_ok, List.map_toArray, List.map_cons, List.map_nil, hx, hr]
  cases n with
  | zero =>
    refine ev_val hgd (run W (by simp [Builtin.clear_, run_underlying ht])) (h W [] (by simp) ?_ ⟨rfl, rfl, rfl, rfl, fun _ _ => rfl⟩)
    rw [hg]
    simp
  | succ n =>
    have hl : (Builtin.zeroCells z.cells (n + 1)).toList.length = (n + 1) * z.cells.size := by simp [Builtin.zeroCells]
    have h1' : ∀ v ∈ (Builtin.zeroCells z.cells (n + 1)).toList, v.oneCell' = true := by
      intro v hv
      simp only [Builtin.zeroCells, Array.toList_map, List.mem_map] at hv
      obtain ⟨j, hj, rfl⟩ := hv
      refine h1 _ ?_
      have hp : 0 < z.cells.size := by
        rcases Nat.eq_zero_or_pos z.cells.size with h0 | h0
        · rw [h0] at hj; simp at hj
        · exact h0
      have hlt := Nat.mod_lt j hp
      rw [getElem!_pos z.cells (j % z.cells.size) hlt]
      exact Array.getElem_mem_toList hlt
    obtain ⟨w1, hr, hu, hb⟩ := run_storeCells_at (P := P) g tt (Builtin.zeroCells z.cells (n + 1)).toList off 0 cs W hg (by rw [hl]; simpa using hle) h1'
    refine ev_val hgd (run w1 ?_) (h w1 _ hl ?_ hu)
    · simp [Builtin.clear_, run_underlying ht, Sem.run_bind, hzv, hr]
    · rw [hb, hl, Nat.add_zero]
end
end Go.Proofs.Ytjopmkfpghdlpaa.A

