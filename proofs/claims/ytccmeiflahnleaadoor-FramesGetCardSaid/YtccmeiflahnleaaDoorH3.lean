/-
  The reference's Get (countinghouseref18.Get).
-/
import Derived.Test.YtccmeiflahnleaaDoorG12
import Derived.Test.YtccmeiflahnleaaDoorH2
import Derived.BigQuiet
namespace Go.Proofs.YtccmeiflahnleaaDoor.A
set_option linter.unusedVariables false
set_option linter.unusedSimpArgs false
open Go.RowKit

theorem tk_start (w : World) (A : Option Addr) (c : Nat) (bs : List Nat) (B : Bytes w A bs) (hc : bs.length ≤ c) : TkAt w (w.alloc (.cells #[.slice A bs.length c, .int .i64 0] 70 (0, 0))) w.heap.size A bs.length c bs :=
  ⟨heap_alloc_new w _, B, rfl, hc, (Below.refl _ _).alloc (Nat.le_refl _) _, Nat.le_refl _⟩

set_option maxHeartbeats 4000000 in
set_option maxRecDepth 100000 in
theorem rget_take (A : Option Addr) (len c e0 : Nat) (n : Nat) (w : World) (he : e0 ≠ 0) (he2 : e0 < 100)
    (M : AsideA (Calls Tryd.prog 45 #[.pointer (some ⟨w.heap.size, 0, none⟩)] (w.alloc (.cells #[.slice A len c, .int .i64 0] 70 (0, 0))) fun e w' => e = .returned (.int .u64 (n : Int)) ∧ Below w.heap.size w w' ∧ ∃ v, w'.heap[w.heap.size]? = some (.cells #[v, .int .i64 (e0 : Int)] 70 (0, 0)))) :
    Calls Tryd.prog 27 #[.slice A len c] w fun e w' => e = .returned (.tuple #[.slice none 0 0, .int .i64 0, .int .i64 (e0 : Int)]) ∧ Below w.heap.size w w' := by
  have d1 : ((e0 : Int) == 0) = false := beq_eq_false_iff_ne.mpr (by omega)
  have d2 : ((e0 : Int) != 0) = true := by rw [bne, d1]; rfl
  have hi : (e0 : Int) < 100 := by omega
  go_enter Tryd.func27, Tryd.ntmps27
  go_wp2_with fail
  refine M.out.mono ?_
  rintro e w1 ⟨rfl, hb, v, hv⟩
  have BB := AsideA.mk hb
  have c1 := (blk_cell hv 1).trans (show _ = some (Value.int .i64 (e0 : Int)) from rfl)
  clear hb hv
  go_wp2
  go_quiet (fail)
  go_wp2
  go_ret3
  exact ⟨rfl, ⟨BB.out.os, BB.out.tape, BB.out.output, BB.out.size, BB.out.block⟩⟩

/-- what the taker's Num leaves, where all is fine: z bytes -/
def NumRet (w : World) (len c : Nat) (A : Option Addr) (n z : Nat) : Prop := Calls Tryd.prog 45 #[.pointer (some ⟨w.heap.size, 0, none⟩)] (w.alloc (.cells #[.slice A len c, .int .i64 0] 70 (0, 0))) fun e w' => e = .returned (.int .u64 (n : Int)) ∧ Below w.heap.size w w' ∧ ∃ A' c', w'.heap[w.heap.size]? = some (.cells #[.slice A' z c', .int .i64 0] 70 (0, 0))

set_option maxHeartbeats 4000000 in
set_option maxRecDepth 100000 in
theorem rget_big (A : Option Addr) (len c n z : Nat) (w : World) (hn : (8192 : Int) < n) (M : AsideA (NumRet w len c A n z)) :
    Calls Tryd.prog 27 #[.slice A len c] w fun e w' => e = .returned (.tuple #[.slice none 0 0, .int .i64 0, .int .i64 4]) ∧ Below w.heap.size w w' := by
  unfold NumRet at *
  go_enter Tryd.func27, Tryd.ntmps27
  go_wp2_with fail
  refine M.out.mono ?_
  rintro e w1 ⟨rfl, hb, A', c', hv⟩
  have BB := AsideA.mk hb
  have c1 := (blk_cell hv 1).trans (show _ = some (Value.int .i64 0) from rfl)
  clear hb hv
  go_wp2
  go_ret3
  exact ⟨rfl, BB.out⟩

set_option maxHeartbeats 4000000 in
set_option maxRecDepth 100000 in
theorem rget_short (A : Option Addr) (len c n h z : Nat) (w : World) (hn : (n : Int) ≤ 8192) (hz : len = h + z) (hh : (h : Int) ≤ 10) (hl : len < h + n + 4) (hlen : (len : Int) ≤ 1099511627776) (M : AsideA (NumRet w len c A n z)) :
    Calls Tryd.prog 27 #[.slice A len c] w fun e w' => e = .returned (.tuple #[.slice none 0 0, .int .i64 0, .int .i64 5]) ∧ Below w.heap.size w w' := by
  unfold NumRet at *
  have e1 : (len : Int) - (z : Int) = (h : Int) := by omega
  have hli : (len : Int) < (h : Int) + n + 4 := by omega
  clear hz hl
  go_enter Tryd.func27, Tryd.ntmps27
  go_wp2_with fail
  refine M.out.mono ?_
  rintro e w1 ⟨rfl, hb, A', c', hv⟩
  have BB := AsideA.mk hb
  have c0 := (blk_cell hv 0).trans (show _ = some (Value.slice A' z c') from rfl)
  have c1 := (blk_cell hv 1).trans (show _ = some (Value.int .i64 0) from rfl)
  clear hb hv
  go_wp2
  go_ret3
  exact ⟨rfl, BB.out⟩

def EndRef (w : World) (g off m c : Nat) (b : Bool) : Prop := ∀ wz, Below w.heap.size w wz → ∀ q : Nat, q = m → Calls Tryd.prog 19 #[.slice (some ⟨g, off, none⟩) q c] wz fun e w' => e = .returned (.bool b) ∧ Below wz.heap.size wz w'

set_option maxHeartbeats 4000000 in
set_option maxRecDepth 100000 in
theorem rget_sum (g off len c n h z : Nat) (w : World) (hn : (n : Int) ≤ 8192) (hz : len = h + z) (hh : (h : Int) ≤ 10) (hl : h + n + 4 ≤ len) (hc : len ≤ c) (hlen : (len : Int) ≤ 1099511627776) (M : AsideA (NumRet w len c (some ⟨g, off, none⟩) n z)) (E : AsideA (EndRef w g off (h + n + 4) c false)) :
    Calls Tryd.prog 27 #[.slice (some ⟨g, off, none⟩) len c] w fun e w' => e = .returned (.tuple #[.slice none 0 0, .int .i64 0, .int .i64 6]) ∧ Below w.heap.size w w' := by
  unfold NumRet EndRef at *
  have e1 : (len : Int) - (z : Int) = (h : Int) := by omega
  clear hz
  go_enter Tryd.func27, Tryd.ntmps27
  go_wp2_with fail
  refine M.out.mono ?_
  rintro e w1 ⟨rfl, hb, A', c', hv⟩
  have BB := AsideA.mk hb
  have c0 := (blk_cell hv 0).trans (show _ = some (Value.slice A' z c') from rfl)
  have c1 := (blk_cell hv 1).trans (show _ = some (Value.int .i64 0) from rfl)
  clear hb hv
  go_wp2_with fail
  refine (E.out w1 BB.out _ (by omega)).mono ?_
  rintro e w2 ⟨rfl, hq⟩
  have B2 := AsideA.mk (below_call BB.out hq)
  clear hq c0 c1
  go_wp2
  go_ret3
  exact ⟨rfl, B2.out⟩

set_option maxHeartbeats 4000000 in
set_option maxRecDepth 100000 in
theorem rget_good (g off len c n h z : Nat) (xs : List Nat) (w : World) (hn : (n : Int) ≤ 8192) (hz : len = h + z) (hh : (h : Int) ≤ 10) (hl : h + n + 4 ≤ len) (hc : len ≤ c) (hlen : (len : Int) ≤ 1099511627776) (M : AsideA (NumRet w len c (some ⟨g, off, none⟩) n z)) (E : AsideA (EndRef w g off (h + n + 4) c true)) (X : AsideA (Reads w (some ⟨g, off + h, none⟩) (enc8 xs) ∧ (enc8 xs).length = n * 1)) :
    Calls Tryd.prog 27 #[.slice (some ⟨g, off, none⟩) len c] w fun e w' => ∃ A9 c9, e = .returned (.tuple #[.slice A9 n c9, .int .i64 ((h : Int) + n + 4), .int .i64 0]) ∧ w'.ownsRow w.heap.size 5 1 (.slice A9 n c9) n (enc8 xs) ∧ Below w.heap.size w w' := by
  unfold NumRet EndRef at *
  have e1 : (len : Int) - (z : Int) = (h : Int) := by omega
  clear hz
  go_enter Tryd.func27, Tryd.ntmps27
  go_wp2_with fail
  refine M.out.mono ?_
  rintro e w1 ⟨rfl, hb, A', c', hv⟩
  have BB := AsideA.mk hb
  have c0 := (blk_cell hv 0).trans (show _ = some (Value.slice A' z c') from rfl)
  have c1 := (blk_cell hv 1).trans (show _ = some (Value.int .i64 0) from rfl)
  clear hb hv
  go_wp2_with fail
  refine (E.out w1 BB.out _ (by omega)).mono ?_
  rintro e w2 ⟨rfl, hq⟩
  have B2 := AsideA.mk (below_call BB.out hq)
  clear hq c0 c1
  go_wp2_with ((with_reducible refine gate (N := 54) rfl ?_); go_loud (refine append_own _ 22 _ _ rfl rfl w2.heap.size 5 _ 1 1 Tryd.underlying22 info5z rfl (by decide) (.slice none 0 0) 0 [] rfl (own_nil _ _ _ _) (some ⟨g, off + h, none⟩) _ _ (enc8 xs) rfl (by have := X.out.2; omega) (X.out.1.below B2.out) (enc8_one xs) (by simp only [maxLen]; omega) (by omega) (Nat.le_refl _) ?_; intro v3 w3 o3 g3 p3; rw [Nat.zero_add] at o3; obtain ⟨A3, c3, e3⟩ := own_form o3; subst e3; have O3 := AsideA.mk (own_lower o3 B2.out.size); have B3 := AsideA.mk (below_call B2.out (below_grown (Below.refl w2.heap.size w2) (Nat.le_refl _) (own_nil _ _ 5 1) g3)); clear o3 g3 p3))
  go_ret3
  refine ⟨A3, c3, rfl, ?_, B3.out⟩
  have hh := O3.out
  rwa [show h + n - h = n by omega] at hh
end Go.Proofs.YtccmeiflahnleaaDoor.A

