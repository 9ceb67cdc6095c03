/-
  frames.size, frames.Get.
-/
import Derived.Test.YtccmeiflahnleaaDoorG6
import Derived.Test.YtccmeiflahnleaaDoorG1
namespace Go.Proofs.YtccmeiflahnleaaDoor.A
set_option linter.unusedVariables false
set_option linter.unusedSimpArgs false
open Go.RowKit

def SizeRet (w : World) (len c : Nat) (A : Option Addr) (r : Nat × Nat × Nat) : Prop := Calls Tryd.prog 43 #[.slice A len c] w fun e w' => e = .returned (.tuple #[.int .i64 (r.1 : Int), .int .i64 (r.2.1 : Int), .int .i64 (r.2.2 : Int)]) ∧ Below w.heap.size w w'
def TakeRet (w : World) (len c : Nat) (A : Option Addr) (m s : Nat) : Prop := Calls Tryd.prog 49 #[.slice A len c] w fun e w' => e = .returned (.tuple #[.int .u64 (m : Int), .int .i64 (s : Int)]) ∧ Below w.heap.size w w'
def HasRet (w : World) (len c : Nat) (A : Option Addr) (b : Bool) : Prop := ∀ wz, Below w.heap.size w wz → Calls Tryd.prog 50 #[.slice A len c, .func (.func 51) #[] #[]] wz fun e w' => e = .returned (.bool b) ∧ Below wz.heap.size wz w'
set_option maxHeartbeats 2000000 in
set_option maxRecDepth 100000 in
theorem size_ok (A : Option Addr) (len c m s : Nat) (w : World) (hs : 0 < s) (M : AsideA (TakeRet w len c A m s)) (hm : m ≤ 8192) : SizeRet w len c A (m, s, 0) := by
  unfold SizeRet TakeRet at *
  have hmi : (m : Int) ≤ 8192 := by omega
  have h0 : ((s : Int) == 0) = false := beq_eq_false_iff_ne.mpr (by omega)
  go_enter Tryd.func43, Tryd.ntmps43
  go_wp2_with (go_at_call 49; go_loud (refine M.out.mono ?_; rintro e wq ⟨rfl, hq⟩; have BN := AsideA.mk hq; clear hq))
  go_ret3
  exact ⟨rfl, BN.out⟩
set_option maxHeartbeats 2000000 in
set_option maxRecDepth 100000 in
theorem size_big (A : Option Addr) (len c m s : Nat) (w : World) (hs : 0 < s) (M : AsideA (TakeRet w len c A m s)) (hm : 8192 < m) : SizeRet w len c A (0, 0, 4) := by
  unfold SizeRet TakeRet at *
  have hmi : 8192 < (m : Int) := by omega
  have h0 : ((s : Int) == 0) = false := beq_eq_false_iff_ne.mpr (by omega)
  go_enter Tryd.func43, Tryd.ntmps43
  go_wp2_with (go_at_call 49; go_loud (refine M.out.mono ?_; rintro e wq ⟨rfl, hq⟩; have BN := AsideA.mk hq; clear hq))
  go_ret3
  exact ⟨rfl, BN.out⟩
set_option maxHeartbeats 2000000 in
set_option maxRecDepth 100000 in
theorem size_short (A : Option Addr) (len c : Nat) (w : World) (M : AsideA (TakeRet w len c A 0 0)) (hl : len < 10) (H : AsideA (HasRet w len c A false)) : SizeRet w len c A (0, 0, 5) := by
  unfold SizeRet TakeRet HasRet at *
  go_enter Tryd.func43, Tryd.ntmps43
  go_wp2_with (first
    | (go_at_call 49; go_loud (refine M.out.mono ?_; rintro e wq ⟨rfl, hq⟩; have BN := AsideA.mk hq; clear hq))
    | (go_at_call 50; go_loud (refine (H.out _ BN.out).mono ?_; rintro e wq ⟨rfl, hq⟩; have BQ := AsideA.mk (below_call BN.out hq); clear hq)))
  go_ret3
  exact ⟨rfl, BQ.out⟩
set_option maxHeartbeats 2000000 in
set_option maxRecDepth 100000 in
theorem size_form1 (A : Option Addr) (len c : Nat) (w : World) (M : AsideA (TakeRet w len c A 0 0)) (hl : 10 ≤ len) : SizeRet w len c A (0, 0, 4) := by
  unfold SizeRet TakeRet at *
  go_enter Tryd.func43, Tryd.ntmps43
  go_wp2_with (go_at_call 49; go_loud (refine M.out.mono ?_; rintro e wq ⟨rfl, hq⟩; have BN := AsideA.mk hq; clear hq))
  go_ret3
  exact ⟨rfl, BN.out⟩
set_option maxHeartbeats 2000000 in
set_option maxRecDepth 100000 in
theorem size_form2 (A : Option Addr) (len c : Nat) (w : World) (M : AsideA (TakeRet w len c A 0 0)) (hl : len < 10) (H : AsideA (HasRet w len c A true)) : SizeRet w len c A (0, 0, 4) := by
  unfold SizeRet TakeRet HasRet at *
  go_enter Tryd.func43, Tryd.ntmps43
  go_wp2_with (first
    | (go_at_call 49; go_loud (refine M.out.mono ?_; rintro e wq ⟨rfl, hq⟩; have BN := AsideA.mk hq; clear hq))
    | (go_at_call 50; go_loud (refine (H.out _ BN.out).mono ?_; rintro e wq ⟨rfl, hq⟩; have BQ := AsideA.mk (below_call BN.out hq); clear hq)))
  go_ret3
  exact ⟨rfl, BQ.out⟩
theorem xsize (A : Option Addr) (c : Nat) (bs : List Nat) (w : World) (B : Bytes w A bs) : SizeRet w bs.length c A (sizeP bs) := by
  have T := xTake A c bs w B
  unfold sizeP
  rcases takeP_cases bs with ⟨m, s, e, h1, h2, h3⟩ | ⟨e, h1, h2⟩ | ⟨e, h1⟩ <;> rw [e] at T ⊢
  · by_cases h : 8192 < m
    · simp only [ne_eq, not_true_eq_false, if_false, if_pos h]
      exact size_big A _ c m s w h1 ⟨T⟩ h
    · simp only [ne_eq, not_true_eq_false, if_false, if_neg h]
      exact size_ok A _ c m s w h1 ⟨T⟩ (by omega)
  · exact size_short A _ c w ⟨T⟩ h1 ⟨fun wz hb => contains A c bs false wz (B.below hb) (.inl ⟨rfl, h2⟩)⟩
  · show SizeRet w bs.length c A (0, 0, 4)
    by_cases hl : 10 ≤ bs.length
    · exact size_form1 A _ c w ⟨T⟩ hl
    · exact size_form2 A _ c w ⟨T⟩ (by omega) ⟨fun wz hb => contains A c bs true wz (B.below hb) (.inr ⟨rfl, h1.resolve_left hl⟩)⟩

set_option maxHeartbeats 2000000 in
set_option maxRecDepth 100000 in
theorem get_bad (A : Option Addr) (len c e0 : Nat) (w : World) (he : 0 < e0) (he2 : e0 < 100) (M : AsideA (SizeRet w len c A (0, 0, e0))) : Calls Tryd.prog 26 #[.slice A len c] w fun e w' => e = .returned (.tuple #[.slice none 0 0, .int .i64 0, .int .i64 (e0 : Int)]) ∧ Below w.heap.size w w' := by
  unfold SizeRet at *
  have h0 : ((e0 : Int) == 0) = false := beq_eq_false_iff_ne.mpr (by omega)
  have h1 : ((e0 : Int) != 0) = true := by rw [bne, h0]; rfl
  go_enter Tryd.func26, Tryd.ntmps26
  go_wp2_with (go_at_call 43; go_loud (refine M.out.mono ?_; rintro e wq ⟨rfl, hq⟩; have BN := AsideA.mk hq; clear hq))
  go_ret3
  exact ⟨rfl, BN.out⟩
set_option maxHeartbeats 2000000 in
set_option maxRecDepth 100000 in
theorem get_short (A : Option Addr) (len c n h : Nat) (w : World) (hn : (n : Int) ≤ 8192) (hh : (h : Int) ≤ 10) (hl : len < h + n + 4) (M : AsideA (SizeRet w len c A (n, h, 0))) : Calls Tryd.prog 26 #[.slice A len c] w fun e w' => e = .returned (.tuple #[.slice none 0 0, .int .i64 0, .int .i64 5]) ∧ Below w.heap.size w w' := by
  unfold SizeRet at *
  have hli : (len : Int) < (h : Int) + n + 4 := by omega
  go_enter Tryd.func26, Tryd.ntmps26
  go_wp2_with (go_at_call 43; go_loud (refine M.out.mono ?_; rintro e wq ⟨rfl, hq⟩; have BN := AsideA.mk hq; clear hq))
  go_ret3
  exact ⟨rfl, BN.out⟩
end Go.Proofs.YtccmeiflahnleaaDoor.A

