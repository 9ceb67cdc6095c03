/-
  NARROWER THAN 'FOR EVERY INPUT', by the rows' own cells (each row's printed sentence says how): SumsOf: laid · SumsBurst: laid · SumsParts: laid · FramesPut: laid · FramesGet: laid · FramesCut: laid · FramesSpoilt: laid.
  DERIVED. THE GIVEN ROWS OF THIS SEAT. 7 by the template 'for every input the law returns true; each argument reads behind the call as it read before'; 0 by the template 'total and deterministic' (their statements: YtccmeiflahnleaaDoorTotals.lean).
  GIVEN WITH THE SEED: the statements are not yours to turn. If you find one false, say at which input.
  Laid BY PROGRAM, IN A SANDBOX (cutbox-rows.mjs): the forced cells as the released guide's own fill.sh prints them over the translation ad235b151d9ef906… (all of the seat's roots in one cut). By AI agents, Wed Nov 11 2026. No macro, syntax, notation, axiom, sorry.
-/
import Derived.Test.YtccmeiflahnleaaDoorChecked
import GoSem.Claim
import GoSem.ClaimJoined
import GoSem.ClaimMapViews
import Derived.JoinedTies
import Derived.KernelRfl
namespace Go.Proofs.YtccmeiflahnleaaDoor
/- THE CELL 'sum', in the pinned program and in every row, IS THE sha256 OF THE DUMP (.gsa) THAT YtccmeiflahnleaaDoorProg.lean LOADS. Nothing in Lean hashes anything: it is a label: what it is worth is what the hold of that sum in a sandbox is worth. -/
noncomputable def Tryd.pinned : Pinned := { name := "ytccmeiflahnleaadoor", sum := "ad235b151d9ef906d4d0b3bab32e7dee648de255981372d58a07a44cb5075666", checked := Tryd.checked }
namespace Rows
def none {H : Type} : Left H := { results := [], args := [] }

/- WHAT THE LISTED PACKAGE-LEVEL VARIABLES READ AS WHEN THE CALL BEGINS. Each datum BY PROGRAM (the guide's laid-datum.mjs) off the statement by which the dump's own 'gosem.cut.vars' lays the variable. In a bare row this is a premise. The card (YtccmeiflahnleaaDoorCards.lean) ties it to the program's text. -/
def laid_countinghouse_sums_table {H : Type} : DataW H := .agg [.lit (.int .u32 0), .lit (.int .u32 498536548), .lit (.int .u32 997073096), .lit (.int .u32 651767980), .lit (.int .u32 1994146192), .lit (.int .u32 1802195444), .lit (.int .u32 1303535960), .lit (.int .u32 1342533948), .lit (.int .u32 3988292384), .lit (.int .u32 4027552580), .lit (.int .u32 3604390888), .lit (.int .u32 3412177804), .lit (.int .u32 2607071920), .lit (.int .u32 2262029012), .lit (.int .u32 2685067896), .lit (.int .u32 3183342108)]

/-- 'countinghouselaw15.SumsOf': WHATEVER THE INPUT: true; the input reads as it did. -/
def sumsOfSpec : ChangeSpec := { name := "sumsOf", fn := fun _ => fun
  | [d1, d2] => { results := [.lit (.bool true)], args := [d1, d2] }
  | _ => none }
def sumsOfRow : OpenClaim := { program := "ytccmeiflahnleaadoor", sum := "ad235b151d9ef906d4d0b3bab32e7dee648de255981372d58a07a44cb5075666", func := "countinghouse/countinghouselaw15.SumsOf", spec := "sumsOf", unfollowed := true, recurses := true, named := ["countinghouse/sums.table"], apart := false, laid := [("countinghouse/sums.table", laid_countinghouse_sums_table)] }
def SumsOfSaid : Prop := sumsOfRow.holds Tryd.pinned (OpenSpec.ofChange sumsOfSpec)

/-- ITS FALSE NEIGHBOUR: 'it returns false'. Refute it at one input. -/
def sumsOfWrong : ChangeSpec := { name := "sumsOf", fn := fun _ => fun
  | [d1, d2] => { results := [.lit (.bool false)], args := [d1, d2] }
  | _ => none }
def SumsOfWrongFalsely : Prop := sumsOfRow.holds Tryd.pinned (OpenSpec.ofChange sumsOfWrong)

/-- 'countinghouselaw15.SumsBurst': WHATEVER THE INPUT: true; the input reads as it did. -/
def sumsBurstSpec : ChangeSpec := { name := "sumsBurst", fn := fun _ => fun
  | [d1, d2, d3] => { results := [.lit (.bool true)], args := [d1, d2, d3] }
  | _ => none }
def sumsBurstRow : OpenClaim := { program := "ytccmeiflahnleaadoor", sum := "ad235b151d9ef906d4d0b3bab32e7dee648de255981372d58a07a44cb5075666", func := "countinghouse/countinghouselaw15.SumsBurst", spec := "sumsBurst", named := ["countinghouse/sums.table"], apart := false, laid := [("countinghouse/sums.table", laid_countinghouse_sums_table)] }
def SumsBurstSaid : Prop := sumsBurstRow.holds Tryd.pinned (OpenSpec.ofChange sumsBurstSpec)

/-- ITS FALSE NEIGHBOUR: 'it returns false'. Refute it at one input. -/
def sumsBurstWrong : ChangeSpec := { name := "sumsBurst", fn := fun _ => fun
  | [d1, d2, d3] => { results := [.lit (.bool false)], args := [d1, d2, d3] }
  | _ => none }
def SumsBurstWrongFalsely : Prop := sumsBurstRow.holds Tryd.pinned (OpenSpec.ofChange sumsBurstWrong)

/-- 'countinghouselaw15.SumsParts': WHATEVER THE INPUT: true; the input reads as it did. -/
def sumsPartsSpec : ChangeSpec := { name := "sumsParts", fn := fun _ => fun
  | [d1, d2] => { results := [.lit (.bool true)], args := [d1, d2] }
  | _ => none }
def sumsPartsRow : OpenClaim := { program := "ytccmeiflahnleaadoor", sum := "ad235b151d9ef906d4d0b3bab32e7dee648de255981372d58a07a44cb5075666", func := "countinghouse/countinghouselaw15.SumsParts", spec := "sumsParts", named := ["countinghouse/sums.table"], apart := false, laid := [("countinghouse/sums.table", laid_countinghouse_sums_table)] }
def SumsPartsSaid : Prop := sumsPartsRow.holds Tryd.pinned (OpenSpec.ofChange sumsPartsSpec)

/-- ITS FALSE NEIGHBOUR: 'it returns false'. Refute it at one input. -/
def sumsPartsWrong : ChangeSpec := { name := "sumsParts", fn := fun _ => fun
  | [d1, d2] => { results := [.lit (.bool false)], args := [d1, d2] }
  | _ => none }
def SumsPartsWrongFalsely : Prop := sumsPartsRow.holds Tryd.pinned (OpenSpec.ofChange sumsPartsWrong)

/-- 'countinghouselaw18.FramesPut': WHATEVER THE INPUT: true; the input reads as it did. -/
def framesPutSpec : ChangeSpec := { name := "framesPut", fn := fun _ => fun
  | [d1, d2] => { results := [.lit (.bool true)], args := [d1, d2] }
  | _ => none }
def framesPutRow : OpenClaim := { program := "ytccmeiflahnleaadoor", sum := "ad235b151d9ef906d4d0b3bab32e7dee648de255981372d58a07a44cb5075666", func := "countinghouse/countinghouselaw18.FramesPut", spec := "framesPut", unfollowed := true, recurses := true, named := ["countinghouse/sums.table"], apart := false, laid := [("countinghouse/sums.table", laid_countinghouse_sums_table)] }
def FramesPutSaid : Prop := framesPutRow.holds Tryd.pinned (OpenSpec.ofChange framesPutSpec)

/-- ITS FALSE NEIGHBOUR: 'it returns false'. Refute it at one input. -/
def framesPutWrong : ChangeSpec := { name := "framesPut", fn := fun _ => fun
  | [d1, d2] => { results := [.lit (.bool false)], args := [d1, d2] }
  | _ => none }
def FramesPutWrongFalsely : Prop := framesPutRow.holds Tryd.pinned (OpenSpec.ofChange framesPutWrong)

/-- 'countinghouselaw18.FramesGet': WHATEVER THE INPUT: true; the input reads as it did. -/
def framesGetSpec : ChangeSpec := { name := "framesGet", fn := fun _ => fun
  | [d] => { results := [.lit (.bool true)], args := [d] }
  | _ => none }
def framesGetRow : OpenClaim := { program := "ytccmeiflahnleaadoor", sum := "ad235b151d9ef906d4d0b3bab32e7dee648de255981372d58a07a44cb5075666", func := "countinghouse/countinghouselaw18.FramesGet", spec := "framesGet", unfollowed := true, recurses := true, named := ["countinghouse/sums.table"], apart := false, laid := [("countinghouse/sums.table", laid_countinghouse_sums_table)] }
def FramesGetSaid : Prop := framesGetRow.holds Tryd.pinned (OpenSpec.ofChange framesGetSpec)

/-- ITS FALSE NEIGHBOUR: 'it returns false'. Refute it at one input. -/
def framesGetWrong : ChangeSpec := { name := "framesGet", fn := fun _ => fun
  | [d] => { results := [.lit (.bool false)], args := [d] }
  | _ => none }
def FramesGetWrongFalsely : Prop := framesGetRow.holds Tryd.pinned (OpenSpec.ofChange framesGetWrong)

/-- 'countinghouselaw18.FramesCut': WHATEVER THE INPUT: true; the input reads as it did. -/
def framesCutSpec : ChangeSpec := { name := "framesCut", fn := fun _ => fun
  | [d1, d2] => { results := [.lit (.bool true)], args := [d1, d2] }
  | _ => none }
def framesCutRow : OpenClaim := { program := "ytccmeiflahnleaadoor", sum := "ad235b151d9ef906d4d0b3bab32e7dee648de255981372d58a07a44cb5075666", func := "countinghouse/countinghouselaw18.FramesCut", spec := "framesCut", unfollowed := true, recurses := true, named := ["countinghouse/sums.table"], apart := false, laid := [("countinghouse/sums.table", laid_countinghouse_sums_table)] }
def FramesCutSaid : Prop := framesCutRow.holds Tryd.pinned (OpenSpec.ofChange framesCutSpec)

/-- ITS FALSE NEIGHBOUR: 'it returns false'. Refute it at one input. -/
def framesCutWrong : ChangeSpec := { name := "framesCut", fn := fun _ => fun
  | [d1, d2] => { results := [.lit (.bool false)], args := [d1, d2] }
  | _ => none }
def FramesCutWrongFalsely : Prop := framesCutRow.holds Tryd.pinned (OpenSpec.ofChange framesCutWrong)

/-- 'countinghouselaw18.FramesSpoilt': WHATEVER THE INPUT: true; the input reads as it did. -/
def framesSpoiltSpec : ChangeSpec := { name := "framesSpoilt", fn := fun _ => fun
  | [d1, d2, d3] => { results := [.lit (.bool true)], args := [d1, d2, d3] }
  | _ => none }
def framesSpoiltRow : OpenClaim := { program := "ytccmeiflahnleaadoor", sum := "ad235b151d9ef906d4d0b3bab32e7dee648de255981372d58a07a44cb5075666", func := "countinghouse/countinghouselaw18.FramesSpoilt", spec := "framesSpoilt", unfollowed := true, recurses := true, named := ["countinghouse/sums.table"], apart := false, laid := [("countinghouse/sums.table", laid_countinghouse_sums_table)] }
def FramesSpoiltSaid : Prop := framesSpoiltRow.holds Tryd.pinned (OpenSpec.ofChange framesSpoiltSpec)

/-- ITS FALSE NEIGHBOUR: 'it returns false'. Refute it at one input. -/
def framesSpoiltWrong : ChangeSpec := { name := "framesSpoilt", fn := fun _ => fun
  | [d1, d2, d3] => { results := [.lit (.bool false)], args := [d1, d2, d3] }
  | _ => none }
def FramesSpoiltWrongFalsely : Prop := framesSpoiltRow.holds Tryd.pinned (OpenSpec.ofChange framesSpoiltWrong)

/- THE SECOND FORM. 'bulk': how many values and letters a reading holds, each counted each time it is reached (what is shared counts as often as it is met; a slice's spare places count too). A statement '..UptoSaid' is the law's where the arguments, and the package variables that the reading takes, are together of bulk at most 1048576: NARROWER than '..Said'. Prove '..Said' where nothing that the law and all that it calls make is longer than what came in: it says more and counts as full. Else prove '..UptoSaid'. A law counts once. -/
mutual
def uptoBulk {H : Type} : DataW H → Nat
  | .lit (.string bytes) => bytes.length + 1
  | .lit _ => 1
  | .nil => 1
  | .ptr d => uptoBulk d + 1
  | .slice elems spare => uptoBulkAll elems + uptoBulkAll spare + 1
  | .agg parts => uptoBulkAll parts + 1
  | .iface _ d => uptoBulk d + 1
  | .map entries => uptoBulkEntries entries + 1
  | .held _ => 1
def uptoBulkAll {H : Type} : List (DataW H) → Nat
  | [] => 0
  | d :: r => uptoBulk d + uptoBulkAll r
def uptoBulkEntries {H : Type} : List (Lit × DataW H) → Nat
  | [] => 0
  | x :: r => uptoBulkEntry x + uptoBulkEntries r
def uptoBulkEntry {H : Type} : Lit × DataW H → Nat
  | (.string bytes, d) => bytes.length + uptoBulk d + 1
  | (_, d) => uptoBulk d + 1
 end
def uptoSmall : (H : Type) → List (DataW H) → Bool := fun _ ds => decide (uptoBulkAll ds ≤ 1048576)
def OpenSpec.upto (s : _root_.Go.ChangeSpec) : _root_.Go.OpenSpec := { _root_.Go.OpenSpec.ofChange s with cond := some uptoSmall }

/-- 'countinghouselaw15.SumsOf', WHERE WHAT IT READS IS OF BULK AT MOST 1048576: true; the input reads as it did. -/
def sumsOfUptoRow : OpenClaim := { program := "ytccmeiflahnleaadoor", sum := "ad235b151d9ef906d4d0b3bab32e7dee648de255981372d58a07a44cb5075666", func := "countinghouse/countinghouselaw15.SumsOf", spec := "sumsOf", unfollowed := true, recurses := true, named := ["countinghouse/sums.table"], apart := false, laid := [("countinghouse/sums.table", laid_countinghouse_sums_table)], narrowed := true }
def SumsOfUptoSaid : Prop := sumsOfUptoRow.holds Tryd.pinned (OpenSpec.upto sumsOfSpec)

/-- 'countinghouselaw15.SumsBurst', WHERE WHAT IT READS IS OF BULK AT MOST 1048576: true; the input reads as it did. -/
def sumsBurstUptoRow : OpenClaim := { program := "ytccmeiflahnleaadoor", sum := "ad235b151d9ef906d4d0b3bab32e7dee648de255981372d58a07a44cb5075666", func := "countinghouse/countinghouselaw15.SumsBurst", spec := "sumsBurst", named := ["countinghouse/sums.table"], apart := false, laid := [("countinghouse/sums.table", laid_countinghouse_sums_table)], narrowed := true }
def SumsBurstUptoSaid : Prop := sumsBurstUptoRow.holds Tryd.pinned (OpenSpec.upto sumsBurstSpec)

/-- 'countinghouselaw15.SumsParts', WHERE WHAT IT READS IS OF BULK AT MOST 1048576: true; the input reads as it did. -/
def sumsPartsUptoRow : OpenClaim := { program := "ytccmeiflahnleaadoor", sum := "ad235b151d9ef906d4d0b3bab32e7dee648de255981372d58a07a44cb5075666", func := "countinghouse/countinghouselaw15.SumsParts", spec := "sumsParts", named := ["countinghouse/sums.table"], apart := false, laid := [("countinghouse/sums.table", laid_countinghouse_sums_table)], narrowed := true }
def SumsPartsUptoSaid : Prop := sumsPartsUptoRow.holds Tryd.pinned (OpenSpec.upto sumsPartsSpec)

/-- 'countinghouselaw18.FramesPut', WHERE WHAT IT READS IS OF BULK AT MOST 1048576: true; the input reads as it did. -/
def framesPutUptoRow : OpenClaim := { program := "ytccmeiflahnleaadoor", sum := "ad235b151d9ef906d4d0b3bab32e7dee648de255981372d58a07a44cb5075666", func := "countinghouse/countinghouselaw18.FramesPut", spec := "framesPut", unfollowed := true, recurses := true, named := ["countinghouse/sums.table"], apart := false, laid := [("countinghouse/sums.table", laid_countinghouse_sums_table)], narrowed := true }
def FramesPutUptoSaid : Prop := framesPutUptoRow.holds Tryd.pinned (OpenSpec.upto framesPutSpec)

/-- 'countinghouselaw18.FramesGet', WHERE WHAT IT READS IS OF BULK AT MOST 1048576: true; the input reads as it did. -/
def framesGetUptoRow : OpenClaim := { program := "ytccmeiflahnleaadoor", sum := "ad235b151d9ef906d4d0b3bab32e7dee648de255981372d58a07a44cb5075666", func := "countinghouse/countinghouselaw18.FramesGet", spec := "framesGet", unfollowed := true, recurses := true, named := ["countinghouse/sums.table"], apart := false, laid := [("countinghouse/sums.table", laid_countinghouse_sums_table)], narrowed := true }
def FramesGetUptoSaid : Prop := framesGetUptoRow.holds Tryd.pinned (OpenSpec.upto framesGetSpec)

/-- 'countinghouselaw18.FramesCut', WHERE WHAT IT READS IS OF BULK AT MOST 1048576: true; the input reads as it did. -/
def framesCutUptoRow : OpenClaim := { program := "ytccmeiflahnleaadoor", sum := "ad235b151d9ef906d4d0b3bab32e7dee648de255981372d58a07a44cb5075666", func := "countinghouse/countinghouselaw18.FramesCut", spec := "framesCut", unfollowed := true, recurses := true, named := ["countinghouse/sums.table"], apart := false, laid := [("countinghouse/sums.table", laid_countinghouse_sums_table)], narrowed := true }
def FramesCutUptoSaid : Prop := framesCutUptoRow.holds Tryd.pinned (OpenSpec.upto framesCutSpec)

/-- 'countinghouselaw18.FramesSpoilt', WHERE WHAT IT READS IS OF BULK AT MOST 1048576: true; the input reads as it did. -/
def framesSpoiltUptoRow : OpenClaim := { program := "ytccmeiflahnleaadoor", sum := "ad235b151d9ef906d4d0b3bab32e7dee648de255981372d58a07a44cb5075666", func := "countinghouse/countinghouselaw18.FramesSpoilt", spec := "framesSpoilt", unfollowed := true, recurses := true, named := ["countinghouse/sums.table"], apart := false, laid := [("countinghouse/sums.table", laid_countinghouse_sums_table)], narrowed := true }
def FramesSpoiltUptoSaid : Prop := framesSpoiltUptoRow.holds Tryd.pinned (OpenSpec.upto framesSpoiltSpec)

end Rows
end Go.Proofs.YtccmeiflahnleaaDoor
