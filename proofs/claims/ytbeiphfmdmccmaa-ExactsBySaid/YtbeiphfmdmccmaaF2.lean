/-
  The law ExactsBy, its walk.
-/
import Derived.Test.YtbeiphfmdmccmaaF1
namespace Go.Proofs.Ytbeiphfmdmccmaa.A
set_option linter.unusedVariables false
set_option linter.unusedSimpArgs false
open Go.RowKit

set_option maxHeartbeats 2000000 in
set_option maxRecDepth 100000 in
theorem law_by (a num den : Int) (ha : in64 a) (hn : in64 num) (hd : in64 den) (w : World) : Calls Try.prog 5 #[.int .i64 a, .int .i64 num, .int .i64 den] w fun e w' => e = .returned (.bool true) ∧ Below w.heap.size w w' := by
  have A1 : AsideA (Gives2 26 #[.int .i64 a, .int .i64 num, .int .i64 den] (byf a num den false)) := ⟨xdown a num den ha hn hd⟩
  have A2 : AsideA (Gives2 27 #[.int .i64 a, .int .i64 num, .int .i64 den] (byf a num den false)) := ⟨down_any a num den ha hn hd⟩
  have A3 : AsideA (Gives2 28 #[.int .i64 a, .int .i64 num, .int .i64 den] (byf a num den true)) := ⟨xup a num den ha hn hd⟩
  have A4 : AsideA (Gives2 29 #[.int .i64 a, .int .i64 num, .int .i64 den] (byf a num den true)) := ⟨up_any a num den ha hn hd⟩
  clear ha hn hd
  generalize byf a num den false = r1 at *
  generalize byf a num den true = r2 at *
  have BB := AsideA.mk (Below.refl w.heap.size w)
  go_enter Try.func5, Try.ntmps5
  go_wp2_with (first | (go_at_call 26; refine (A1.out _).mono ?_; rintro e wq ⟨rfl, hq⟩; have BN := AsideA.mk (below_call BB.out hq); clear hq BB; have BB := BN; clear BN) | (go_at_call 27; refine (A2.out _).mono ?_; rintro e wq ⟨rfl, hq⟩; have BN := AsideA.mk (below_call BB.out hq); clear hq BB; have BB := BN; clear BN) | (go_at_call 28; refine (A3.out _).mono ?_; rintro e wq ⟨rfl, hq⟩; have BN := AsideA.mk (below_call BB.out hq); clear hq BB; have BB := BN; clear BN) | (go_at_call 29; refine (A4.out _).mono ?_; rintro e wq ⟨rfl, hq⟩; have BN := AsideA.mk (below_call BB.out hq); clear hq BB; have BB := BN; clear BN) | (go_at_call 16; refine (alike_same _ _ _).mono ?_; rintro e wq ⟨rfl, hq⟩; have BN := AsideA.mk (below_call BB.out hq); clear hq BB; have BB := BN; clear BN) | (go_at_call 21; refine (lives01 _).mono ?_; rintro e wq ⟨rfl, hq⟩; have BN := AsideA.mk (below_call BB.out hq); clear hq BB; have BB := BN; clear BN))
  go_ret
  exact ⟨rfl, BB.out⟩

theorem law_by_wf (a b c : Int) (ha : (Lit.int .i64 a).wf = true) (hb : (Lit.int .i64 b).wf = true) (hc : (Lit.int .i64 c).wf = true) (w : World) : Calls Try.prog 5 #[.int .i64 a, .int .i64 b, .int .i64 c] w fun e w' => e = .returned (.bool true) ∧ Below w.heap.size w w' :=
  law_by a b c (in64_of ha) (in64_of hb) (in64_of hc) w
end Go.Proofs.Ytbeiphfmdmccmaa.A
