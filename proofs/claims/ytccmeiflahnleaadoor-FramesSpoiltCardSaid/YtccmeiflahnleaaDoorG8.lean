/-
  frames.Get.
-/
import Derived.Test.YtccmeiflahnleaaDoorG7
namespace Go.Proofs.YtccmeiflahnleaaDoor.A
set_option linter.unusedVariables false
set_option linter.unusedSimpArgs false
open Go.RowKit

def EndRet (w : World) (g off m c : Nat) (b : Bool) : Prop := ∀ wz, Below w.heap.size w wz → ∀ q, q = m → Calls Tryd.prog 18 #[.slice (some ⟨g, off, none⟩) q c] wz fun e w' => e = .returned (.bool b) ∧ Below wz.heap.size wz w'
def CloneRet (w : World) (g off m c : Nat) (xs : List Nat) : Prop := ∀ wz, Below w.heap.size w wz → ∀ q, q = m → Calls Tryd.prog 44 #[.slice (some ⟨g, off, none⟩) q c] wz fun e w' => ∃ g' cap, e = .returned (.slice (some ⟨g', 0, none⟩) m cap) ∧ w'.ownsRow wz.heap.size 5 1 (.slice (some ⟨g', 0, none⟩) m cap) m (enc8 xs) ∧ Below wz.heap.size wz w'
theorem own_lower {w : World} {base b2 n size : Nat} {e : TypeId} {v : Value} {xs : List Value} (h : w.ownsRow base e size v n xs) (hb : b2 ≤ base) : w.ownsRow b2 e size v n xs := by
  refine ⟨h.1, ?_⟩
  rcases h.2 with h0 | ⟨g, cap, cur, rfl, h1, h2⟩
  · exact .inl h0
  · exact .inr ⟨g, cap, cur, rfl, Nat.le_trans hb h1, h2⟩
theorem own_room {w : World} {base n size g cap : Nat} {e : TypeId} {xs : List Value} (h : w.ownsRow base e size (.slice (some ⟨g, 0, none⟩) n cap) n xs) : n ≤ cap := by
  rcases h.2 with ⟨h0, _⟩ | ⟨g', cap', cur, e1, _, _, h3, _⟩
  · cases h0
  · cases e1
    exact h3
set_option maxHeartbeats 4000000 in
set_option maxRecDepth 100000 in
theorem get_sum (g off len c n h : Nat) (w : World) (hn : (n : Int) ≤ 8192) (hh : (h : Int) ≤ 10) (hh0 : 0 < h) (hl : h + n + 4 ≤ len) (hc : len ≤ c) (M : AsideA (SizeRet w len c (some ⟨g, off, none⟩) (n, h, 0))) (E : AsideA (EndRet w g off (h + n + 4) c false)) : Calls Tryd.prog 26 #[.slice (some ⟨g, off, none⟩) len c] w fun e w' => e = .returned (.tuple #[.slice none 0 0, .int .i64 0, .int .i64 6]) ∧ Below w.heap.size w w' := by
  unfold SizeRet EndRet at *
  have hli : (h : Int) + n + 4 ≤ len := by omega
  have hci : (h : Int) + n + 4 ≤ c := by omega
  go_enter Tryd.func26, Tryd.ntmps26
  go_wp2_with (first
    | (go_at_call 43; go_loud (refine M.out.mono ?_; rintro e wq ⟨rfl, hq⟩; have BN := AsideA.mk hq; clear hq))
    | (go_at_call 18; go_loud (refine (E.out _ BN.out _ ?hq).mono ?_; (case hq => omega); rintro e wq ⟨rfl, hq⟩; have BQ := AsideA.mk (below_call BN.out hq); clear hq)))
  go_ret3
  exact ⟨rfl, BQ.out⟩
set_option maxHeartbeats 4000000 in
set_option maxRecDepth 100000 in
theorem get_good (g off len c n h : Nat) (xs : List Nat) (w : World) (hn : (n : Int) ≤ 8192) (hh : (h : Int) ≤ 10) (hh0 : 0 < h) (hl : h + n + 4 ≤ len) (hc : len ≤ c) (M : AsideA (SizeRet w len c (some ⟨g, off, none⟩) (n, h, 0))) (E : AsideA (EndRet w g off (h + n + 4) c true)) (C : AsideA (CloneRet w g (off + h) n (c - h) xs)) : Calls Tryd.prog 26 #[.slice (some ⟨g, off, none⟩) len c] w fun e w' => ∃ g' cap, e = .returned (.tuple #[.slice (some ⟨g', 0, none⟩) n n, .int .i64 ((h : Int) + n + 4), .int .i64 0]) ∧ w'.ownsRow w.heap.size 5 1 (.slice (some ⟨g', 0, none⟩) n cap) n (enc8 xs) ∧ Below w.heap.size w w' := by
  unfold SizeRet EndRet CloneRet at *
  have hli : (h : Int) + n + 4 ≤ len := by omega
  have hci : (h : Int) + n + 4 ≤ c := by omega
  have hch : ¬ c = h := by omega
  go_enter Tryd.func26, Tryd.ntmps26
  go_wp2_with (first
    | (go_at_call 43; go_loud (refine M.out.mono ?_; rintro e wq ⟨rfl, hq⟩; have BN := AsideA.mk hq; clear hq))
    | (go_at_call 18; go_loud (refine (E.out _ BN.out _ ?hq).mono ?_; (case hq => omega); rintro e wq2 ⟨rfl, hq⟩; have BQ := AsideA.mk (below_call BN.out hq); clear hq BN))
    | (go_at_call 44; go_loud (refine (C.out _ BQ.out _ ?hq).mono ?_; (case hq => omega); rintro e w3 ⟨g', cap, rfl, o, hq⟩; have O := AsideA.mk (own_lower o BQ.out.size); have B3 := AsideA.mk (below_call BQ.out hq); clear o hq BQ))
    | (go_at_call 34; go_loud (refine (xclip g' n cap ?hcap _).mono ?_; (case hcap => exact own_room O.out); rintro e w4 ⟨rfl, h5⟩; have O4 := AsideA.mk (own_below O.out h5); have B4 := AsideA.mk (below_call B3.out h5); clear h5 O B3)))
  go_ret3
  exact ⟨g', cap, rfl, O4.out, B4.out⟩
end Go.Proofs.YtccmeiflahnleaaDoor.A

