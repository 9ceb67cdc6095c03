/-
  slices.Grow of nothing, Concat, for parties.
-/
import Derived.Test.YtjopmkfpghdlpaaQ0
import Derived.Lib.AppendZeros
namespace Go.Proofs.Ytjopmkfpghdlpaa.A
set_option linter.unusedVariables false
set_option linter.unusedSimpArgs false
open Go.RowKit

theorem info30x : ∃ i, Try.prog.info? 30 = some i ∧ i.zero = some (.int .u8 0) ∧ i.size = 1 ∧ i.bytes = 1 := by
  have h : (Try.prog.info? 30).map (fun i => (i.zero, i.size, i.bytes)) = some (some (.int .u8 0), 1, 1) := by kernel_rfl
  obtain ⟨i, hi, hq⟩ := Option.map_eq_some_iff.1 h
  simp only [Prod.mk.injEq] at hq
  exact ⟨i, hi, hq.1, hq.2.1, hq.2.2⟩

theorem zeros_new {ops : Array Oper} {Q : Exit → Act → World → Prop} {rest : List Oper} {o : Oper} {a : Act} {W : World} (s x : Operand) (tn : TypeId) (kn : IntKind) (htn : Try.prog.underlying tn = some (.int kn))
    (ho : o.op = .call { callee := .builtin .append, args := #[s, x], argTypes := #[36, tn] }) (hgd : o.guard = none) (hs : a.eval s = .slice none 0 0) (k : IntKind) (n : Nat) (N : Int) (hN : N = n) (hx : a.eval x = .int k N) (h0 : 0 < n) (hn : (n : Int) ≤ 1099511627776)
    (h : ∀ g w1 cap cs, n ≤ cap → cap ≤ maxLen → cs.size = cap → New W w1 g cs 30 → wpList Try.prog ops Q rest (a.put o.dst (.slice (some ⟨g, 0, none⟩) n cap)) w1) : wpList Try.prog ops Q (o :: rest) a W := by
  subst hN
  obtain ⟨i, hi, hz, hsz, hby⟩ := info30x
  have hr := Lib.run_append_nil_zeros (P := Try.prog) W 36 tn o.type 30 i (.int .u8 0) k kn Try.underlying36 htn hi hz n h0 (by omega) (by omega) (by rw [hby]; omega)
  refine Lib.wpList_append_run W hgd s x 36 tn ho _ _ hs hx _ _ hr (h _ _ _ _ (grownCap_ge W n 0 30) (grownCap_le_maxLen W n 0 30 (by unfold maxLen; omega)) ?_ ⟨rfl, by simp, heap_alloc_new _ _, (Below.refl W.heap.size W).drew.alloc (Nat.le_refl _) _⟩)
  have := grownCap_ge W n 0 30
  rw [Array.size_append, size_zeroCells, size_zeroCells]
  show n * 1 + (grownCap W n 0 30 - n) * 1 = _
  omega

set_option maxHeartbeats 1000000 in
set_option maxRecDepth 100000 in
theorem xgrow (n : Nat) (h0 : 0 < n) (hn : (n : Int) ≤ 1099511627776) (w : World) : Calls Try.prog 66 #[.slice none 0 0, .int .i64 (n : Int)] w fun e w' => ∃ g cap cs, e = .returned (.slice (some ⟨g, 0, none⟩) 0 cap) ∧ n ≤ cap ∧ cap ≤ maxLen ∧ cs.size = cap ∧ New w w' g cs 30 := by
  have d1 : decide ((n : Int) < 0) = false := decide_eq_false (by omega)
  have d2 : decide ((n : Int) ≤ 0) = false := decide_eq_false (by omega)
  have d3 : decide (0 < (n : Int)) = true := decide_eq_true (by omega)
  go_enter Try.func66, Try.ntmps66
  go_wp2_with ((with_reducible refine gate (N := 22) rfl ?_); refine zeros_new (.tmp 20) (.tmp 21) 3 _ Try.underlying3 rfl rfl rfl _ n _ ?hN rfl h0 hn ?_; (case hN => first | rfl | omega | go_num); intro g w1 cap cs hcap htop hcs N1; have HT := AsideA.mk htop; clear htop)
  go_ret
  exact ⟨g, cap, cs, rfl, hcap, HT.out, hcs, N1⟩
structure Part where
  A : Option Addr
  c : Nat
  bs : List Nat
def encS (ps : List Part) : List Value := ps.map fun p => Value.slice p.A p.bs.length p.c
def all (ps : List Part) : List Nat := (ps.map (·.bs)).flatten
theorem all_step (ps : List Part) (k : Nat) (h : k < ps.length) : all (ps.take (k + 1)) = all (ps.take k) ++ (ps[k]).bs := by
  unfold all
  rw [List.take_succ_eq_append_getElem h, List.map_append, List.flatten_append]
  simp only [List.map_cons, List.map_nil, List.flatten_cons, List.flatten_nil, List.append_nil]
theorem all_le (ps : List Part) (k : Nat) : (all (ps.take k)).length ≤ (all ps).length := by
  have : all ps = all (ps.take k) ++ all (ps.drop k) := by
    unfold all
    rw [← List.flatten_append, ← List.map_append, List.take_append_drop]
  rw [this, List.length_append]
  omega
theorem Reads.getS {w : World} {g off : Nat} {ps : List Part} (h : Reads w (some ⟨g, off, none⟩) (encS ps)) (k : Nat) (hk : k < ps.length) : w.cell? ⟨g, off + k, none⟩ = some (.slice (ps[k]).A (ps[k]).bs.length (ps[k]).c) := by
  have e : (encS ps)[k]? = some (.slice (ps[k]).A (ps[k]).bs.length (ps[k]).c) := by
    unfold encS
    simp [List.getElem?_map, hk]
  rcases h with h | ⟨ad, he, h⟩
  · have : (encS ps).length = ps.length := List.length_map _
    rw [h, List.length_nil] at this
    omega
  · cases he
    rw [← add_none]
    exact h k _ e
/-- the row that is being filled -/
structure Fill (w wr : World) (g cap : Nat) (bs : List Nat) : Prop where
  blk : ∃ tail : List Value, wr.heap[g]? = some (.cells (enc8 bs ++ tail).toArray 30 (0, 0)) ∧ bs.length + tail.length = cap
  ge : w.heap.size ≤ g
  below : Below w.heap.size w wr
  top : cap ≤ maxLen
theorem fill_step (a b : List Nat) (tail : List Value) (h : b.length ≤ tail.length) :
    ((enc8 a ++ tail).toArray.toList.take (a.length * 1) ++ enc8 b ++ (enc8 a ++ tail).toArray.toList.drop (a.length * 1 + (enc8 b).length)).toArray = (enc8 (a ++ b) ++ tail.drop b.length).toArray := by
  have e := enc8_len a
  have e2 := enc8_len b
  rw [enc8_append, Nat.mul_one, e2]
  simp only []
  rw [List.take_left' e, ← e, List.drop_append]
  simp [e, e2]

set_option maxHeartbeats 2000000 in
set_option maxRecDepth 100000 in
theorem xconcat (ps : List Part) (g0 off c : Nat) (w : World) (R : Reads w (some ⟨g0, off, none⟩) (encS ps)) (B : ∀ p ∈ ps, Bytes w p.A p.bs) (h0 : 0 < (all ps).length) (hn : ((all ps).length : Int) ≤ 1099511627776) (hp : (ps.length : Int) ≤ 1099511627776) :
    Calls Try.prog 47 #[.slice (some ⟨g0, off, none⟩) ps.length c] w fun e w' => ∃ g cap, e = .returned (.slice (some ⟨g, 0, none⟩) (all ps).length cap) ∧ Fill w w' g cap (all ps) := by
  have HR := AsideA.mk R
  have HB := AsideA.mk B
  have HG := AsideA.mk (xgrow (all ps).length h0 hn)
  have HLE := AsideA.mk (all_le ps)
  have HS := AsideA.mk (all_step ps)
  obtain ⟨n, hl⟩ : ∃ n, n = ps.length := ⟨_, rfl⟩
  rw [← hl] at hp ⊢
  have HL := AsideA.mk hl
  obtain ⟨tot, ht⟩ : ∃ tot, tot = (all ps).length := ⟨_, rfl⟩
  rw [← ht] at hn h0 HG ⊢
  have HT := AsideA.mk ht
  clear hl R B ht
  go_enter Try.func47, Try.ntmps47
  go_wp2
  go_loopw [3, 11] (fun s i wr => ∃ k : Nat, k ≤ n ∧ i = .int .i64 k ∧ s = .int .i64 ((all (ps.take k)).length : Nat) ∧ AsideA (Below w.heap.size w wr)) (fun _ i _ => n - (intOf i).toNat)
  case atStart => exact ⟨0, by omega, rfl, rfl, ⟨Below.refl _ _⟩⟩
  case round =>
    obtain ⟨k, hk, rfl, rfl, I⟩ := hrel
    by_cases hlt : k < n
    · have hk' : k < ps.length := by have := HL.out; omega
      have hc := (HR.out.below I.out).getS k hk'
      have hs := HS.out k hk'
      have hle := HLE.out (k + 1)
      rw [hs, List.length_append] at hle
      have HS2 := AsideA.mk (congrArg List.length hs)
      have hle2 : (((all (ps.take k)).length + (ps[k]).bs.length : Nat) : Int) ≤ 1099511627776 := by have := HT.out; omega
      rw [List.length_append] at HS2
      clear hs hle
      generalize (all (ps.take k)).length = t at *
      generalize (ps[k]).bs.length = m at *
      generalize (ps[k]).A = A at *
      generalize (ps[k]).c = cc at *
      have hd : decide (((t + m : Nat) : Int) < 0) = false := decide_eq_false (by omega)
      go_wp2
      exact ⟨⟨k + 1, by omega, rfl, by rw [HS2.out]; rfl, I⟩, by simp [intOf]; omega⟩
    · have e : ps.take k = ps := List.take_of_length_le (by have := HL.out; omega)
      rw [e, ← HT.out]
      clear e
      go_wp2_with (go_at_call 66; refine (HG.out _).mono ?_; rintro e wq ⟨g, cap, cs, rfl, h1, h1t, h2, h3⟩; have HTP := AsideA.mk h1t; clear h1t)
      have F0 : AsideA (Fill w wq g cap (all (ps.take 0))) := ⟨⟨⟨cs.toList, by rw [h3.blk]; simp [all, enc8], by simp [all, h2]⟩, h3.ge I.out, below_new I.out h3, HTP.out⟩⟩
      clear h2 h3 HG
      go_loopw [6, 27] (fun v i wr => ∃ k : Nat, k ≤ n ∧ i = .int .i64 k ∧ v = .slice (some ⟨g, 0, none⟩) (all (ps.take k)).length cap ∧ AsideA (Fill w wr g cap (all (ps.take k)))) (fun _ i _ => n - (intOf i).toNat)
      case atStart => exact ⟨0, by omega, rfl, rfl, F0⟩
      case round =>
        clear F0 I
        obtain ⟨k, hk, rfl, rfl, I⟩ := hrel
        by_cases hlt : k < n
        · have hk' : k < ps.length := by have := HL.out; omega
          have hc := (HR.out.below I.out.below).getS k hk'
          have hb := HB.out (ps[k]) (List.getElem_mem hk')
          have hs := HS.out k hk'
          have hle := HLE.out (k + 1)
          rw [hs, List.length_append] at hle
          have hle2 : (all (ps.take k)).length + (ps[k]).bs.length ≤ cap := by have := HT.out; omega
          have HS2 := AsideA.mk hs
          clear hs hle
          obtain ⟨tail, ht, htl⟩ := I.out.blk
          have X1 := AsideA.mk ht
          have X2 := AsideA.mk htl
          have HBB := AsideA.mk hb
          clear ht htl hb
          generalize all (ps.take k) = xs at *
          generalize ps[k] = p at *
          obtain ⟨A, cc, bs⟩ := p
          have hle3 : xs.length + bs.length ≤ cap := hle2
          have HC := AsideA.mk hle3
          clear hle2
          go_wp2_with ((with_reducible refine gate (N := 33) rfl ?_); refine append_put 36 30 (.tmp 31) (.tmp 32) rfl rfl 1 Try.underlying36 info30s g xs.length cap rfl _ X1.out A bs.length cc rfl (enc8 bs) (by rw [enc8_len, Nat.mul_one]) (by decide) (HBB.out.reads.below I.out.below) (enc8_one bs) HC.out (by rw [List.size_toArray, List.length_append, enc8_len, enc8_len]; have := X2.out; have := HC.out; omega) _ (fill_step xs bs tail (by have := X2.out; have := HC.out; omega)) ?_; intro w5 b5 u5)
          refine ⟨⟨k + 1, by omega, rfl, by rw [HS2.out, List.length_append], ⟨?_⟩⟩, by simp [intOf]; omega⟩
          rw [HS2.out]
          exact ⟨⟨_, b5, by have := X2.out; have := HC.out; rw [List.length_append, List.length_drop]; show xs.length + bs.length + (tail.length - bs.length) = cap; omega⟩, I.out.ge, u5.below I.out.below I.out.ge, I.out.top⟩
        · have e : ps.take k = ps := List.take_of_length_le (by have := HL.out; omega)
          rw [e] at I
          rw [e, ← HT.out]
          clear e
          go_wp2
          go_ret
          exact ⟨g, cap, rfl, I.out⟩
theorem Fill.later {w wr wz : World} {g cap : Nat} {bs : List Nat} (h : Fill w wr g cap bs) (k : Below wr.heap.size wr wz) : Fill w wz g cap bs :=
  ⟨by obtain ⟨t, h1, h2⟩ := h.blk; exact ⟨t, blk_below h1 k, h2⟩, h.ge, below_call h.below k, h.top⟩
theorem Fill.start {w W wr : World} {g cap : Nat} {bs : List Nat} (h : Fill W wr g cap bs) (k : Below w.heap.size w W) : Fill w wr g cap bs :=
  ⟨h.blk, Nat.le_trans k.size h.ge, below_call k h.below, h.top⟩
theorem Fill.bytes {w wr : World} {g cap : Nat} {bs : List Nat} (h : Fill w wr g cap bs) (hs : ∀ b ∈ bs, b < 256) (hl : (bs.length : Int) ≤ 1099511627776) : Bytes wr (some ⟨g, 0, none⟩) bs := by
  obtain ⟨t, h1, h2⟩ := h.blk
  exact Bytes.of_block h1 hs hl
theorem Fill.lt {w wr : World} {g cap : Nat} {bs : List Nat} (h : Fill w wr g cap bs) : g < wr.heap.size := by
  obtain ⟨t, h1, h2⟩ := h.blk
  exact blk_lt h1
/-- a list of parties that a call hands back: none, or a row of its own -/
def PRet (w w' : World) (A : Option Addr) (n cap : Nat) (R : List Nat) : Prop := (R = [] ∧ A = none ∧ n = 0 ∧ cap = 0 ∧ Below w.heap.size w w') ∨ (R ≠ [] ∧ n = R.length ∧ ∃ g, A = some ⟨g, 0, none⟩ ∧ Fill w w' g cap R)
theorem PRet.below {w w' : World} {A : Option Addr} {n cap : Nat} {R : List Nat} (h : PRet w w' A n cap R) : Below w.heap.size w w' := by
  rcases h with ⟨_, _, _, _, h⟩ | ⟨_, _, g, _, h⟩
  · exact h
  · exact h.below
theorem PRet.num {w w' : World} {A : Option Addr} {n cap : Nat} {R : List Nat} (h : PRet w w' A n cap R) : n = R.length := by
  rcases h with ⟨h1, _, h2, _⟩ | ⟨_, h, _⟩
  · rw [h1, h2]; rfl
  · exact h
theorem PRet.later {w w' w1 : World} {A : Option Addr} {n cap : Nat} {R : List Nat} (h : PRet w w' A n cap R) (k : Below w'.heap.size w' w1) : PRet w w1 A n cap R := by
  rcases h with ⟨h1, h2, h3, h4, h5⟩ | ⟨h0, hn, g, h1, h2⟩
  · exact .inl ⟨h1, h2, h3, h4, below_call h5 k⟩
  · exact .inr ⟨h0, hn, g, h1, h2.later k⟩
theorem PRet.start {w W w' : World} {A : Option Addr} {n cap : Nat} {R : List Nat} (h : PRet W w' A n cap R) (k : Below w.heap.size w W) : PRet w w' A n cap R := by
  rcases h with ⟨h1, h2, h3, h4, h5⟩ | ⟨h0, hn, g, h1, h2⟩
  · exact .inl ⟨h1, h2, h3, h4, below_call k h5⟩
  · exact .inr ⟨h0, hn, g, h1, h2.start k⟩
theorem PRet.bytes {w w' : World} {A : Option Addr} {n cap : Nat} {R : List Nat} (h : PRet w w' A n cap R) (hs : ∀ b ∈ R, b < 256) (hl : (R.length : Int) ≤ 1099511627776) : Bytes w' A R := by
  rcases h with ⟨rfl, _⟩ | ⟨_, _, g, rfl, h⟩
  · exact Bytes.nil _ _
  · exact h.bytes hs hl
end Go.Proofs.Ytjopmkfpghdlpaa.A

