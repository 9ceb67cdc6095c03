-- Written by a program of this session (printpatch.py, over the seat's translation); Lean checks it.
import Derived.Test.YtbeiphfmdmccmaaProg
import Derived.Below
import Derived.Deep.Draws
import Derived.Deep.AppendLies
import Derived.Maps.AppendAt
import Derived.OwnWalk
import Derived.Laws.BytesArg
import Derived.Laws.MakeOwn
import Derived.Laws.OwnMore
import Derived.Deep.OwnRows
import Derived.Tactics
import Derived.Lib.ConvBytes
import Derived.Laws.Slices
import Derived.WalkKit
import Derived.KernelRfl
import Derived.RowKit3
import Derived.Deep.LoopGhost
import Derived.Deep.QuietTactic
import Derived.BigQuiet
import Derived.WideLaws
import Derived.Deep.DeepCutAuto
import Derived.Deep.CutBlock
import Derived.Deep.RegionHeld3
import Derived.Laws.Rows
import Derived.Lib.AppendStr
import Derived.ArgAppend
import Derived.Laws.IdiomCopy
import Derived.OrdersHeld
import Derived.Laws.BitsLemmas
import Derived.RowKit
import Derived.Test.YtbeiphfmdmccmaaH4
import Derived.Test.YtbeiphfmdmccmaaWWords
import Derived.Test.YtbeiphfmdmccmaaWLast
import Derived.Test.YtbeiphfmdmccmaaWTab
import Derived.Test.YtbeiphfmdmccmaaWFour
import Derived.Test.YtbeiphfmdmccmaaWArr
import Derived.Test.YtbeiphfmdmccmaaWShare
import Derived.Test.YtbeiphfmdmccmaaWEqStruct
import Derived.Test.YtbeiphfmdmccmaaWRepsOne
import Derived.Test.YtbeiphfmdmccmaaWGuard
import Derived.Test.YtbeiphfmdmccmaaWMore
namespace Go.Proofs.Ytbeiphfmdmccmaa.L
open Go.RowKit Go.Proofs.YtbeiphfmdmccmaaW.PrintWords Go.Proofs.YtbeiphfmdmccmaaW.PrintLast Go.Proofs.YtbeiphfmdmccmaaW.PrintMore
attribute [local go_sem] max2_int min2_int max_two min_two max_three min_three max_four min_four   -- for this text's walks alone
set_option linter.unusedVariables false
set_option linter.unusedSimpArgs false



def errW : Option Int → Value
  | none => .nilIface
  | some c => .iface 0 (.int .i64 c)
theorem errW_none : errW none = .nilIface := rfl
theorem errW_some (c : Int) : errW (some c) = .iface 0 (.int .i64 c) := rfl

-- the values' own types

end Go.Proofs.Ytbeiphfmdmccmaa.L
