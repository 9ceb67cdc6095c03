/-
  A row of a book (countinghouselaw01.row): it writes itself, what stands behind it, and tells whether both stand: for lists of Party.
-/
import Derived.Test.YtjopmkfpghdlpaaProg
import Derived.Test.YtjopmkfpghdlpaaOw
import Derived.Test.YtjopmkfpghdlpaaReg4
import Derived.BigQuiet
import Derived.KernelRfl
import Derived.Outline
namespace Go.Proofs.Ytjopmkfpghdlpaa.A
set_option linter.unusedVariables false
set_option linter.unusedSimpArgs false
open Go.RowKit

theorem follows_ : Try.prog.follows .mixedOrders = true := by kernel_rfl
/-- cs, with v written from lo up to hi -/
def Wrote (cs cs' : Array Value) (lo hi : Nat) (v : Value) : Prop := cs'.size = cs.size ∧ ∀ i, cs'[i]? = if lo ≤ i ∧ i < hi ∧ i < cs.size then some v else cs[i]?
theorem Wrote.start (cs : Array Value) (lo : Nat) (v : Value) : Wrote cs cs lo lo v := ⟨rfl, fun i => by rw [if_neg (by omega)]⟩
theorem Wrote.step {cs cs' : Array Value} {lo k : Nat} {v : Value} (h : Wrote cs cs' lo k v) (hlo : lo ≤ k) : Wrote cs (cs'.setIfInBounds k v) lo (k + 1) v := by
  refine ⟨by simp [h.1], fun i => ?_⟩
  rw [Array.getElem?_setIfInBounds, h.2 i, h.1]
  by_cases e : k = i
  · subst e
    by_cases hs : k < cs.size
    · rw [if_pos rfl, if_pos hs, if_pos (by omega)]
    · rw [if_pos rfl, if_neg hs, if_neg (by omega), Array.getElem?_eq_none (by omega)]
  · rw [if_neg e]
    by_cases hc : lo ≤ i ∧ i < k ∧ i < cs.size
    · rw [if_pos hc, if_pos (by omega)]
    · rw [if_neg hc, if_neg (by omega)]

/-- a world in which block g was written, others are as they were, some are new; b: a block known whole -/
structure Turn (W w : World) (g : Nat) (cs : Array Value) (t : TypeId) (b : Nat) (bs : Array Value) (u : TypeId) : Prop where
  grown : W.grownBy w (some g)
  blk : w.heap[g]? = some (.cells cs t (0, 0))
  box : w.heap[b]? = some (.cells bs u (0, 0))
  lt : g < W.heap.size
  ge : W.heap.size ≤ b
theorem Turn.start {W : World} {g : Nat} {cs : Array Value} {t : TypeId} (h : W.heap[g]? = some (.cells cs t (0, 0))) (bs : Array Value) (u : TypeId) : Turn W (W.alloc (.cells bs u (0, 0))) g cs t W.heap.size bs u :=
  ⟨World.grownBy_alloc W _ _, blk_below h ((Below.refl _ _).alloc (Nat.le_refl _) _), heap_alloc_new W _, blk_lt h, Nat.le_refl _⟩
theorem Turn.set {W w : World} {g b k : Nat} {cs bs : Array Value} {t u : TypeId} {v : Value} (h : Turn W w g cs t b bs u) : Turn W (w.setCell ⟨g, k, none⟩ v) g (cs.setIfInBounds k v) t b bs u := by
  have U := Upd.setCell w g k v
  refine ⟨⟨U.os.trans h.grown.os, U.tape.trans h.grown.tape, U.output.trans h.grown.output, by rw [U.size]; exact h.grown.size, fun j hj hne => ?_⟩, blk_set h.blk k v, blk_set_other h.box k v (by have := h.lt; have := h.ge; omega), h.lt, h.ge⟩
  rw [U.other j (by rintro rfl; exact hne rfl)]
  exact h.grown.block j hj hne
theorem Turn.drewN {W w : World} {g b : Nat} {cs bs : Array Value} {t u : TypeId} (h : Turn W w g cs t b bs u) (n : Nat) : Turn W (w.drewN n) g cs t b bs u :=
  ⟨⟨h.grown.os, h.grown.tape, h.grown.output, h.grown.size, h.grown.block⟩, h.blk, h.box, h.lt, h.ge⟩

def pageV (A : Option Addr) (len cap : Nat) (m b : Int) : Array Value := #[.slice A len cap, .int .u8 m, .int .u8 b]

set_option maxHeartbeats 2000000 in
set_option maxRecDepth 100000 in
theorem write_some (g len cap : Nat) (m b : Int) (cs : Array Value) (w : World) (hg : w.heap[g]? = some (.cells cs 30 (0, 0))) (hl : len ≤ cs.size) (hlen : (len : Int) ≤ 9223372036854775807) :
    Calls Try.prog 88 #[.agg (pageV (some ⟨g, 0, none⟩) len cap m b)] w fun e w' => e = .returned (.tuple #[]) ∧ ∃ cs', Wrote cs cs' 0 len (.int .u8 m) ∧ w'.heap[g]? = some (.cells cs' 30 (0, 0)) ∧ w.grownBy w' (some g) := by
  have T0 := AsideA.mk (Turn.start hg (pageV (some ⟨g, 0, none⟩) len cap m b) 92)
  have HL := AsideA.mk hl
  clear hg hl
  unfold pageV at *
  go_enter Try.func88, Try.ntmps88
  go_wp2
  generalize hgb : w.heap.size = gb at *
  have HGB := AsideA.mk hgb
  clear hgb
  generalize w.alloc (.cells #[.slice (some ⟨g, 0, none⟩) len cap, .int .u8 m, .int .u8 b] 92 (0, 0)) = w1 at *
  have J0 : AsideA (∃ cs', Wrote cs cs' 0 0 (.int .u8 m) ∧ Turn w w1 g cs' 30 gb #[.slice (some ⟨g, 0, none⟩) len cap, .int .u8 m, .int .u8 b] 92) := ⟨cs, Wrote.start _ _ _, T0.out⟩
  clear T0
  go_loopw [2] (fun i wr => ∃ k : Nat, k ≤ len ∧ i = .int .i64 k ∧ AsideA (∃ cs', Wrote cs cs' 0 k (.int .u8 m) ∧ Turn w wr g cs' 30 gb #[.slice (some ⟨g, 0, none⟩) len cap, .int .u8 m, .int .u8 b] 92)) (fun i _ => len - (intOf i).toNat)
  case atStart => exact ⟨0, by omega, rfl, J0⟩
  case round =>
    obtain ⟨k, hk, rfl, I⟩ := hrel
    clear J0
    obtain ⟨⟨cs', hw, T⟩⟩ := I
    have c0 := (blk_cell T.box 0).trans (show _ = some (Value.slice (some ⟨g, 0, none⟩) len cap) from rfl)
    have c1 := (blk_cell T.box 1).trans (show _ = some (Value.int .u8 m) from rfl)
    by_cases hlt : k < len
    · obtain ⟨x, hx⟩ : ∃ x, wr.cell? ⟨g, k, none⟩ = some x := ⟨cs'[k]'(by have := hw.1; have := HL.out; omega), by rw [blk_cell T.blk]; exact Array.getElem?_eq_getElem _⟩
      have hf : wr.frozen? ⟨g, k, none⟩ = false := blk_frozen T.blk k
      have TT := AsideA.mk T
      have HW := AsideA.mk hw
      clear T hw
      go_wp2
      refine ⟨⟨k + 1, by omega, by go_num, ⟨_, HW.out.step (by omega), TT.out.set⟩⟩, by simp [intOf]; omega⟩
    · have e : k = len := by omega
      subst e
      have TT := AsideA.mk T
      have HW := AsideA.mk hw
      clear T hw
      go_wp2
      go_end0
      exact ⟨rfl, cs', HW.out, TT.out.blk, TT.out.grown⟩
set_option maxHeartbeats 2000000 in
set_option maxRecDepth 100000 in
theorem write_none (A : Option Addr) (cap : Nat) (m b : Int) (w : World) :
    Calls Try.prog 88 #[.agg (pageV A 0 cap m b)] w fun e w' => e = .returned (.tuple #[]) ∧ Below w.heap.size w w' := by
  have T0 := AsideA.mk ((Below.refl w.heap.size w).alloc (Nat.le_refl _) (.cells (pageV A 0 cap m b) 92 (0, 0)))
  have c0 : (w.alloc (.cells (pageV A 0 cap m b) 92 (0, 0))).cell? ⟨w.heap.size, 0, none⟩ = some (Value.slice A 0 cap) := (blk_cell (heap_alloc_new w _) 0).trans rfl
  unfold pageV at *
  go_enter Try.func88, Try.ntmps88
  go_wp2
  generalize hgb : w.heap.size = gb at *
  have HGB := AsideA.mk hgb
  clear hgb
  generalize w.alloc (.cells #[.slice A 0 cap, .int .u8 m, .int .u8 b] 92 (0, 0)) = w1 at *
  go_loopw [2] (fun i wr => i = .int .i64 (0 : Int) ∧ wr = w1) (fun i _ => 0 - (intOf i).toNat)
  case atStart => exact ⟨rfl, rfl⟩
  case round =>
    obtain ⟨rfl, rfl⟩ := hrel
    go_wp2
    go_end0
    exact ⟨rfl, HGB.out.symm ▸ T0.out⟩

set_option maxHeartbeats 2000000 in
set_option maxRecDepth 100000 in
theorem behind_some (g len cap : Nat) (m b : Int) (cs : Array Value) (w : World) (hg : w.heap[g]? = some (.cells cs 30 (0, 0))) (hl : len ≤ cap) (hc : cap ≤ cs.size) (hlen : (cap : Int) ≤ 9223372036854775807) :
    Calls Try.prog 89 #[.agg (pageV (some ⟨g, 0, none⟩) len cap m b)] w fun e w' => e = .returned (.tuple #[]) ∧ ∃ cs', Wrote cs cs' len cap (.int .u8 b) ∧ w'.heap[g]? = some (.cells cs' 30 (0, 0)) ∧ w.grownBy w' (some g) := by
  have T0 := AsideA.mk (Turn.start hg (pageV (some ⟨g, 0, none⟩) len cap m b) 92)
  have c0 : (w.alloc (.cells (pageV (some ⟨g, 0, none⟩) len cap m b) 92 (0, 0))).cell? ⟨w.heap.size, 0, none⟩ = some (Value.slice (some ⟨g, 0, none⟩) len cap) := (blk_cell (heap_alloc_new w _) 0).trans rfl
  have HL := AsideA.mk (And.intro hl hc)
  clear hg hc
  unfold pageV at *
  go_enter Try.func89, Try.ntmps89
  go_wp2
  generalize hgb : w.heap.size = gb at *
  have HGB := AsideA.mk hgb
  clear hgb
  generalize w.alloc (.cells #[.slice (some ⟨g, 0, none⟩) len cap, .int .u8 m, .int .u8 b] 92 (0, 0)) = w1 at *
  have J0 : AsideA (∃ cs', Wrote cs cs' len len (.int .u8 b) ∧ Turn w w1 g cs' 30 gb #[.slice (some ⟨g, 0, none⟩) len cap, .int .u8 m, .int .u8 b] 92) := ⟨cs, Wrote.start _ _ _, T0.out⟩
  clear T0 c0
  go_loopw [3] (fun i wr => ∃ k : Nat, len ≤ k ∧ k ≤ cap ∧ i = .int .i64 k ∧ AsideA (∃ cs', Wrote cs cs' len k (.int .u8 b) ∧ Turn w wr g cs' 30 gb #[.slice (some ⟨g, 0, none⟩) len cap, .int .u8 m, .int .u8 b] 92)) (fun i _ => cap - (intOf i).toNat)
  case atStart => exact ⟨len, by omega, hl, rfl, J0⟩
  case round =>
    obtain ⟨k, hk1, hk, rfl, I⟩ := hrel
    clear J0
    obtain ⟨⟨cs', hw, T⟩⟩ := I
    have c0 := (blk_cell T.box 0).trans (show _ = some (Value.slice (some ⟨g, 0, none⟩) len cap) from rfl)
    have c2 := (blk_cell T.box 2).trans (show _ = some (Value.int .u8 b) from rfl)
    by_cases hlt : k < cap
    · obtain ⟨x, hx⟩ : ∃ x, wr.cell? ⟨g, k, none⟩ = some x := ⟨cs'[k]'(by have := hw.1; have := HL.out; omega), by rw [blk_cell T.blk]; exact Array.getElem?_eq_getElem _⟩
      have hf : wr.frozen? ⟨g, k, none⟩ = false := blk_frozen T.blk k
      have TT := AsideA.mk T
      have HW := AsideA.mk hw
      clear T hw
      go_wp2
      refine ⟨⟨k + 1, by omega, by omega, by go_num, ⟨_, HW.out.step (by omega), TT.out.set⟩⟩, by simp [intOf]; omega⟩
    · have e : k = cap := by omega
      subst e
      have TT := AsideA.mk T
      have HW := AsideA.mk hw
      clear T hw
      go_wp2
      go_end0
      exact ⟨rfl, cs', HW.out, TT.out.blk, TT.out.grown⟩
set_option maxHeartbeats 2000000 in
set_option maxRecDepth 100000 in
theorem behind_none (A : Option Addr) (m b : Int) (w : World) :
    Calls Try.prog 89 #[.agg (pageV A 0 0 m b)] w fun e w' => e = .returned (.tuple #[]) ∧ Below w.heap.size w w' := by
  have T0 := AsideA.mk ((Below.refl w.heap.size w).alloc (Nat.le_refl _) (.cells (pageV A 0 0 m b) 92 (0, 0)))
  have c0 : (w.alloc (.cells (pageV A 0 0 m b) 92 (0, 0))).cell? ⟨w.heap.size, 0, none⟩ = some (Value.slice A 0 0) := (blk_cell (heap_alloc_new w _) 0).trans rfl
  unfold pageV at *
  go_enter Try.func89, Try.ntmps89
  go_wp2
  generalize hgb : w.heap.size = gb at *
  have HGB := AsideA.mk hgb
  clear hgb
  generalize w.alloc (.cells #[.slice A 0 0, .int .u8 m, .int .u8 b] 92 (0, 0)) = w1 at *
  go_loopw [3] (fun i wr => i = .int .i64 (0 : Int) ∧ wr = w1) (fun i _ => 0 - (intOf i).toNat)
  case atStart => exact ⟨rfl, rfl⟩
  case round =>
    obtain ⟨rfl, rfl⟩ := hrel
    go_wp2
    go_end0
    exact ⟨rfl, HGB.out.symm ▸ T0.out⟩

set_option maxHeartbeats 4000000 in
set_option maxRecDepth 100000 in
theorem stands_some (g len cap : Nat) (m b : Int) (cs : Array Value) (w : World) (hg : w.heap[g]? = some (.cells cs 30 (0, 0))) (hl : len ≤ cap) (hlen : (cap : Int) ≤ 9223372036854775807)
    (h1 : ∀ i, i < len → cs[i]? = some (.int .u8 m)) (h2 : ∀ i, len ≤ i → i < cap → cs[i]? = some (.int .u8 b)) :
    Calls Try.prog 87 #[.agg (pageV (some ⟨g, 0, none⟩) len cap m b)] w fun e w' => e = .returned (.bool true) ∧ Below w.heap.size w w' := by
  have T0 := AsideA.mk ((Below.refl w.heap.size w).alloc (Nat.le_refl _) (.cells (pageV (some ⟨g, 0, none⟩) len cap m b) 92 (0, 0)))
  have hbx := heap_alloc_new w (.cells (pageV (some ⟨g, 0, none⟩) len cap m b) 92 (0, 0))
  have c0 : (w.alloc (.cells (pageV (some ⟨g, 0, none⟩) len cap m b) 92 (0, 0))).cell? ⟨w.heap.size, 0, none⟩ = some (Value.slice (some ⟨g, 0, none⟩) len cap) := (blk_cell hbx 0).trans rfl
  have H1 := AsideA.mk h1
  have H2 := AsideA.mk h2
  have HG := AsideA.mk (blk_below hg T0.out)
  have HB := AsideA.mk hbx
  clear hg h1 h2 hbx
  unfold pageV at *
  go_enter Try.func87, Try.ntmps87
  go_wp2
  generalize hgb : w.heap.size = gb at *
  have HGB := AsideA.mk hgb
  clear hgb
  generalize w.alloc (.cells #[.slice (some ⟨g, 0, none⟩) len cap, .int .u8 m, .int .u8 b] 92 (0, 0)) = w1 at *
  have J0 : AsideA (Below gb w w1 ∧ w1.heap[g]? = some (.cells cs 30 (0, 0)) ∧ w1.heap[gb]? = some (.cells #[.slice (some ⟨g, 0, none⟩) len cap, .int .u8 m, .int .u8 b] 92 (0, 0))) := ⟨T0.out, HG.out, HB.out⟩
  clear T0 c0 HG HB
  go_loopw [4] (fun i wr => ∃ k : Nat, k ≤ cap ∧ i = .int .i64 k ∧ AsideA (Below gb w wr ∧ wr.heap[g]? = some (.cells cs 30 (0, 0)) ∧ wr.heap[gb]? = some (.cells #[.slice (some ⟨g, 0, none⟩) len cap, .int .u8 m, .int .u8 b] 92 (0, 0)))) (fun i _ => cap - (intOf i).toNat)
  case atStart => exact ⟨0, by omega, rfl, J0⟩
  case round =>
    obtain ⟨k, hk, rfl, I⟩ := hrel
    clear J0
    have c0 := (blk_cell I.out.2.2 0).trans (show _ = some (Value.slice (some ⟨g, 0, none⟩) len cap) from rfl)
    have c1 := (blk_cell I.out.2.2 1).trans (show _ = some (Value.int .u8 m) from rfl)
    have c2 := (blk_cell I.out.2.2 2).trans (show _ = some (Value.int .u8 b) from rfl)
    by_cases hlt : k < cap
    · by_cases hkl : k < len
      · have hx : wr.cell? ⟨g, k, none⟩ = some (.int .u8 m) := by rw [blk_cell I.out.2.1]; exact H1.out k hkl
        have d1 : decide ((k : Int) < (len : Int)) = true := decide_eq_true (by omega)
        have d2 : decide ((len : Int) ≤ (k : Int)) = false := decide_eq_false (by omega)
        clear hx
        go_wp2
        refine region_picked follows_ [17, 18, 19, 20, 21, 22, 23, 24, 25, 26, 27, 28, 29, 30, 31, 32, 33, 34, 35, 36, 37, 38, 39, 40, 41, 42, 43, 44, 45, 46] (fun (_y : Nat) => [(17, .int .i64 k), (18, .pointer (some ⟨gb, 0, none⟩)), (19, .slice (some ⟨g, 0, none⟩) len cap), (20, .int .i64 len), (21, .bool true), (22, .bool true), (23, .slice (some ⟨g, 0, none⟩) cap cap), (24, .int .i64 k), (25, .pointer (some ⟨g, k, none⟩)), (26, .int .u8 m), (27, .pointer (some ⟨gb, 1, none⟩)), (28, .int .u8 m), (29, .bool false), (30, .bool false), (31, .bool false), (32, .int .i64 k), (33, .pointer (some ⟨gb, 0, none⟩)), (34, .slice (some ⟨g, 0, none⟩) len cap), (35, .int .i64 len), (36, .bool false), (37, .bool false), (38, undef), (39, undef), (40, undef), (41, undef), (42, undef), (43, undef), (44, undef), (45, .bool false), (46, .bool false)]) (by intro _; rfl) _ (by intro _; simp only [actPuts]; go_simp; rfl) 47 rfl (by kernel_rfl)
          (fun (pk : Option (Nat)) (ls : Array Bool) (wz : World) => Below gb w wz ∧ wz.heap[g]? = some (.cells cs 30 (0, 0)) ∧ wz.heap[gb]? = some (.cells #[.slice (some ⟨g, 0, none⟩) len cap, .int .u8 m, .int .u8 b] 92 (0, 0))) ?_ ?_ ?_
        · intro ls hl
          exact ⟨I.out.1.drew, I.out.2.1, I.out.2.2⟩
        · refine ⟨?_, ?_, ?_, ?_, ?_, ?_, ?_, ?_, ?_, ?_, ?_, ?_, ?_, ?_, ?_, ?_, ?_, ?_, ?_, ?_, ?_, ?_, ?_, ?_, ?_, ?_, ?_, ?_, ?_, ?_, trivial⟩
          · intro pk ls wz x hs hl hn h hx
            exact opc_val rfl (v := .int .i64 k) (w' := wz) (by go_simp) rfl (fun _ => rfl) (h)
          · intro pk ls wz x hs hl hn h hx
            exact opc_val rfl (v := .pointer (some ⟨gb, 0, none⟩)) (w' := wz) (by go_simp) rfl (fun _ => rfl) (h)
          · intro pk ls wz x hs hl hn h hx
            have c0 := (blk_cell h.2.2 0).trans (show _ = some (Value.slice (some ⟨g, 0, none⟩) len cap) from rfl)
            exact opc_val rfl (v := .slice (some ⟨g, 0, none⟩) len cap) (w' := wz) (by go_simp) rfl (fun _ => rfl) (h)
          · intro pk ls wz x hs hl hn h hx
            exact opc_val rfl (v := .int .i64 len) (w' := wz) (by go_simp) rfl (fun _ => rfl) (h)
          · intro pk ls wz x hs hl hn h hx
            exact opc_val rfl (v := .bool true) (w' := wz) (by go_simp) rfl (fun _ => rfl) (h)
          · intro pk ls wz x hs hl hn h hx
            exact opc_val rfl (v := .bool true) (w' := wz) (by go_simp) rfl (fun _ => rfl) (h)
          · intro pk ls wz x hs hl hn h hx
            exact opc_val rfl (v := .slice (some ⟨g, 0, none⟩) cap cap) (w' := wz) (by go_simp) rfl (fun _ => rfl) (h)
          · intro pk ls wz x hs hl hn h hx
            exact opc_val rfl (v := .int .i64 k) (w' := wz) (by go_simp) rfl (fun _ => rfl) (h)
          · intro pk ls wz x hs hl hn h hx
            exact opc_val rfl (v := .pointer (some ⟨g, k, none⟩)) (w' := wz) (by go_simp) rfl (fun _ => rfl) (h)
          · intro pk ls wz x hs hl hn h hx
            have hx1 : wz.cell? ⟨g, k, none⟩ = some (.int .u8 m) := by rw [blk_cell h.2.1]; exact H1.out k hkl
            exact opc_val rfl (v := .int .u8 m) (w' := wz) (by go_simp) rfl (fun _ => rfl) (h)
          · intro pk ls wz x hs hl hn h hx
            exact opc_val rfl (v := .pointer (some ⟨gb, 1, none⟩)) (w' := wz) (by go_simp) rfl (fun _ => rfl) (h)
          · intro pk ls wz x hs hl hn h hx
            have c1 := (blk_cell h.2.2 1).trans (show _ = some (Value.int .u8 m) from rfl)
            exact opc_val rfl (v := .int .u8 m) (w' := wz) (by go_simp) rfl (fun _ => rfl) (h)
          · intro pk ls wz x hs hl hn h hx
            exact opc_val rfl (v := .bool false) (w' := wz) (by go_simp) rfl (fun _ => rfl) (h)
          · intro pk ls wz x hs hl hn h hx
            exact opc_val rfl (v := .bool false) (w' := wz) (by go_simp) rfl (fun _ => rfl) (h)
          · intro pk ls wz x hs hl hn h hx
            exact opc_val rfl (v := .bool false) (w' := wz) (by go_simp) rfl (fun _ => rfl) (h)
          · intro pk ls wz x hs hl hn h hx
            exact opc_val rfl (v := .int .i64 k) (w' := wz) (by go_simp) rfl (fun _ => rfl) (h)
          · intro pk ls wz x hs hl hn h hx
            exact opc_val rfl (v := .pointer (some ⟨gb, 0, none⟩)) (w' := wz) (by go_simp) rfl (fun _ => rfl) (h)
          · intro pk ls wz x hs hl hn h hx
            have c0 := (blk_cell h.2.2 0).trans (show _ = some (Value.slice (some ⟨g, 0, none⟩) len cap) from rfl)
            exact opc_val rfl (v := .slice (some ⟨g, 0, none⟩) len cap) (w' := wz) (by go_simp) rfl (fun _ => rfl) (h)
          · intro pk ls wz x hs hl hn h hx
            exact opc_val rfl (v := .int .i64 len) (w' := wz) (by go_simp) rfl (fun _ => rfl) (h)
          · intro pk ls wz x hs hl hn h hx
            exact opc_val rfl (v := .bool false) (w' := wz) (by go_simp) rfl (fun _ => rfl) (h)
          · intro pk ls wz x hs hl hn h hx
            exact opc_val rfl (v := .bool false) (w' := wz) (by go_simp) rfl (fun _ => rfl) (h)
          · intro pk ls wz x hs hl hn h hx
            exact opc_off rfl rfl (fun _ => rfl) (h)
          · intro pk ls wz x hs hl hn h hx
            exact opc_off rfl rfl (fun _ => rfl) (h)
          · intro pk ls wz x hs hl hn h hx
            exact opc_off rfl rfl (fun _ => rfl) (h)
          · intro pk ls wz x hs hl hn h hx
            exact opc_off rfl rfl (fun _ => rfl) (h)
          · intro pk ls wz x hs hl hn h hx
            exact opc_off rfl rfl (fun _ => rfl) (h)
          · intro pk ls wz x hs hl hn h hx
            exact opc_off rfl rfl (fun _ => rfl) (h)
          · intro pk ls wz x hs hl hn h hx
            exact opc_off rfl rfl (fun _ => rfl) (h)
          · intro pk ls wz x hs hl hn h hx
            exact opc_val rfl (v := .bool false) (w' := wz) (by go_simp) rfl (fun _ => rfl) (h)
          · intro pk ls wz x hs hl hn h hx
            exact opc_val rfl (v := .bool false) (w' := wz) (by go_simp) rfl (fun _ => rfl) (h)
        · intro pk ls wz x hd h hx
          have Z := AsideA.mk h
          clear hd h hx I
          go_wp2
          exact ⟨⟨k + 1, by omega, by go_num, Z⟩, by simp [intOf]; omega⟩
      · have hx : wr.cell? ⟨g, k, none⟩ = some (.int .u8 b) := by rw [blk_cell I.out.2.1]; exact H2.out k (by omega) hlt
        have d1 : decide ((k : Int) < (len : Int)) = false := decide_eq_false (by omega)
        have d2 : decide ((len : Int) ≤ (k : Int)) = true := decide_eq_true (by omega)
        clear hx
        go_wp2
        refine region_picked follows_ [17, 18, 19, 20, 21, 22, 23, 24, 25, 26, 27, 28, 29, 30, 31, 32, 33, 34, 35, 36, 37, 38, 39, 40, 41, 42, 43, 44, 45, 46] (fun (_y : Nat) => [(17, .int .i64 k), (18, .pointer (some ⟨gb, 0, none⟩)), (19, .slice (some ⟨g, 0, none⟩) len cap), (20, .int .i64 len), (21, .bool false), (22, .bool false), (23, undef), (24, undef), (25, undef), (26, undef), (27, undef), (28, undef), (29, undef), (30, .bool false), (31, .bool false), (32, .int .i64 k), (33, .pointer (some ⟨gb, 0, none⟩)), (34, .slice (some ⟨g, 0, none⟩) len cap), (35, .int .i64 len), (36, .bool true), (37, .bool true), (38, .slice (some ⟨g, 0, none⟩) cap cap), (39, .int .i64 k), (40, .pointer (some ⟨g, k, none⟩)), (41, .int .u8 b), (42, .pointer (some ⟨gb, 2, none⟩)), (43, .int .u8 b), (44, .bool false), (45, .bool false), (46, .bool false)]) (by intro _; rfl) _ (by intro _; simp only [actPuts]; go_simp; rfl) 47 rfl (by kernel_rfl)
          (fun (pk : Option (Nat)) (ls : Array Bool) (wz : World) => Below gb w wz ∧ wz.heap[g]? = some (.cells cs 30 (0, 0)) ∧ wz.heap[gb]? = some (.cells #[.slice (some ⟨g, 0, none⟩) len cap, .int .u8 m, .int .u8 b] 92 (0, 0))) ?_ ?_ ?_
        · intro ls hl
          exact ⟨I.out.1.drew, I.out.2.1, I.out.2.2⟩
        · refine ⟨?_, ?_, ?_, ?_, ?_, ?_, ?_, ?_, ?_, ?_, ?_, ?_, ?_, ?_, ?_, ?_, ?_, ?_, ?_, ?_, ?_, ?_, ?_, ?_, ?_, ?_, ?_, ?_, ?_, ?_, trivial⟩
          · intro pk ls wz x hs hl hn h hx
            exact opc_val rfl (v := .int .i64 k) (w' := wz) (by go_simp) rfl (fun _ => rfl) (h)
          · intro pk ls wz x hs hl hn h hx
            exact opc_val rfl (v := .pointer (some ⟨gb, 0, none⟩)) (w' := wz) (by go_simp) rfl (fun _ => rfl) (h)
          · intro pk ls wz x hs hl hn h hx
            have c0 := (blk_cell h.2.2 0).trans (show _ = some (Value.slice (some ⟨g, 0, none⟩) len cap) from rfl)
            exact opc_val rfl (v := .slice (some ⟨g, 0, none⟩) len cap) (w' := wz) (by go_simp) rfl (fun _ => rfl) (h)
          · intro pk ls wz x hs hl hn h hx
            exact opc_val rfl (v := .int .i64 len) (w' := wz) (by go_simp) rfl (fun _ => rfl) (h)
          · intro pk ls wz x hs hl hn h hx
            exact opc_val rfl (v := .bool false) (w' := wz) (by go_simp) rfl (fun _ => rfl) (h)
          · intro pk ls wz x hs hl hn h hx
            exact opc_val rfl (v := .bool false) (w' := wz) (by go_simp) rfl (fun _ => rfl) (h)
          · intro pk ls wz x hs hl hn h hx
            exact opc_off rfl rfl (fun _ => rfl) (h)
          · intro pk ls wz x hs hl hn h hx
            exact opc_off rfl rfl (fun _ => rfl) (h)
          · intro pk ls wz x hs hl hn h hx
            exact opc_off rfl rfl (fun _ => rfl) (h)
          · intro pk ls wz x hs hl hn h hx
            exact opc_off rfl rfl (fun _ => rfl) (h)
          · intro pk ls wz x hs hl hn h hx
            exact opc_off rfl rfl (fun _ => rfl) (h)
          · intro pk ls wz x hs hl hn h hx
            exact opc_off rfl rfl (fun _ => rfl) (h)
          · intro pk ls wz x hs hl hn h hx
            exact opc_off rfl rfl (fun _ => rfl) (h)
          · intro pk ls wz x hs hl hn h hx
            exact opc_val rfl (v := .bool false) (w' := wz) (by go_simp) rfl (fun _ => rfl) (h)
          · intro pk ls wz x hs hl hn h hx
            exact opc_val rfl (v := .bool false) (w' := wz) (by go_simp) rfl (fun _ => rfl) (h)
          · intro pk ls wz x hs hl hn h hx
            exact opc_val rfl (v := .int .i64 k) (w' := wz) (by go_simp) rfl (fun _ => rfl) (h)
          · intro pk ls wz x hs hl hn h hx
            exact opc_val rfl (v := .pointer (some ⟨gb, 0, none⟩)) (w' := wz) (by go_simp) rfl (fun _ => rfl) (h)
          · intro pk ls wz x hs hl hn h hx
            have c0 := (blk_cell h.2.2 0).trans (show _ = some (Value.slice (some ⟨g, 0, none⟩) len cap) from rfl)
            exact opc_val rfl (v := .slice (some ⟨g, 0, none⟩) len cap) (w' := wz) (by go_simp) rfl (fun _ => rfl) (h)
          · intro pk ls wz x hs hl hn h hx
            exact opc_val rfl (v := .int .i64 len) (w' := wz) (by go_simp) rfl (fun _ => rfl) (h)
          · intro pk ls wz x hs hl hn h hx
            have hkk : len ≤ k := by omega
            exact opc_val rfl (v := .bool true) (w' := wz) (by go_simp) rfl (fun _ => rfl) (h)
          · intro pk ls wz x hs hl hn h hx
            exact opc_val rfl (v := .bool true) (w' := wz) (by go_simp) rfl (fun _ => rfl) (h)
          · intro pk ls wz x hs hl hn h hx
            exact opc_val rfl (v := .slice (some ⟨g, 0, none⟩) cap cap) (w' := wz) (by go_simp) rfl (fun _ => rfl) (h)
          · intro pk ls wz x hs hl hn h hx
            exact opc_val rfl (v := .int .i64 k) (w' := wz) (by go_simp) rfl (fun _ => rfl) (h)
          · intro pk ls wz x hs hl hn h hx
            exact opc_val rfl (v := .pointer (some ⟨g, k, none⟩)) (w' := wz) (by go_simp) rfl (fun _ => rfl) (h)
          · intro pk ls wz x hs hl hn h hx
            have hx1 : wz.cell? ⟨g, k, none⟩ = some (.int .u8 b) := by rw [blk_cell h.2.1]; exact H2.out k (by omega) hlt
            exact opc_val rfl (v := .int .u8 b) (w' := wz) (by go_simp) rfl (fun _ => rfl) (h)
          · intro pk ls wz x hs hl hn h hx
            exact opc_val rfl (v := .pointer (some ⟨gb, 2, none⟩)) (w' := wz) (by go_simp) rfl (fun _ => rfl) (h)
          · intro pk ls wz x hs hl hn h hx
            have c2 := (blk_cell h.2.2 2).trans (show _ = some (Value.int .u8 b) from rfl)
            exact opc_val rfl (v := .int .u8 b) (w' := wz) (by go_simp) rfl (fun _ => rfl) (h)
          · intro pk ls wz x hs hl hn h hx
            exact opc_val rfl (v := .bool false) (w' := wz) (by go_simp) rfl (fun _ => rfl) (h)
          · intro pk ls wz x hs hl hn h hx
            exact opc_val rfl (v := .bool false) (w' := wz) (by go_simp) rfl (fun _ => rfl) (h)
          · intro pk ls wz x hs hl hn h hx
            exact opc_val rfl (v := .bool false) (w' := wz) (by go_simp) rfl (fun _ => rfl) (h)
        · intro pk ls wz x hd h hx
          have Z := AsideA.mk h
          clear hd h hx I
          go_wp2
          exact ⟨⟨k + 1, by omega, by go_num, Z⟩, by simp [intOf]; omega⟩
    · go_wp2
      go_ret
      exact ⟨rfl, HGB.out.symm ▸ I.out.1⟩
set_option maxHeartbeats 2000000 in
set_option maxRecDepth 100000 in
theorem stands_none (A : Option Addr) (m b : Int) (w : World) :
    Calls Try.prog 87 #[.agg (pageV A 0 0 m b)] w fun e w' => e = .returned (.bool true) ∧ Below w.heap.size w w' := by
  have T0 := AsideA.mk ((Below.refl w.heap.size w).alloc (Nat.le_refl _) (.cells (pageV A 0 0 m b) 92 (0, 0)))
  have c0 : (w.alloc (.cells (pageV A 0 0 m b) 92 (0, 0))).cell? ⟨w.heap.size, 0, none⟩ = some (Value.slice A 0 0) := (blk_cell (heap_alloc_new w _) 0).trans rfl
  unfold pageV at *
  go_enter Try.func87, Try.ntmps87
  go_wp2
  generalize hgb : w.heap.size = gb at *
  have HGB := AsideA.mk hgb
  clear hgb
  generalize w.alloc (.cells #[.slice A 0 0, .int .u8 m, .int .u8 b] 92 (0, 0)) = w1 at *
  go_loopw [4] (fun i wr => i = .int .i64 (0 : Int) ∧ wr = w1) (fun i _ => 0 - (intOf i).toNat)
  case atStart => exact ⟨rfl, rfl⟩
  case round =>
    obtain ⟨rfl, rfl⟩ := hrel
    go_wp2
    go_ret
    exact ⟨rfl, HGB.out.symm ▸ T0.out⟩
end Go.Proofs.Ytjopmkfpghdlpaa.A

