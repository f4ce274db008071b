/- Contracts of Go functions that the law FnParityWords reaches: each call does what the Lean function beside it says. Written by a program of this session (wip/gen). -/
import Derived.Test.YthamjbfdhghbbaaProg
import Derived.Below
import Derived.Deep.Draws
import Derived.Deep.AppendLies
import Derived.Maps.AppendAt
import Derived.OwnWalk
import Derived.Laws.BytesArg
import Derived.Laws.MakeOwn
import Derived.Laws.OwnMore
import Derived.Deep.OwnRows
import Derived.Tactics
import Derived.Lib.ConvBytes
import Derived.Laws.Slices
import Derived.WalkKit
import Derived.KernelRfl
import Derived.RowKit3
import Derived.Deep.LoopGhost
import Derived.Deep.QuietTactic
import Derived.BigQuiet
import Derived.WideLaws
import Derived.Deep.DeepCutAuto
import Derived.Deep.CutBlock
import Derived.Deep.RegionHeld3
import Derived.Laws.Rows
import Derived.Lib.AppendStr
import Derived.ArgAppend
import Derived.Laws.IdiomCopy
import Derived.OrdersHeld
import Derived.Laws.BitsLemmas
import Derived.RowKit
import Derived.Lib.SliceRun
import Derived.Shelf.Abstract
import Derived.WalkSpells
import Derived.Lib.SlBytesConst
import Derived.Laws.IdiomStrings
import Derived.Deep.RegionLawGrows
import Derived.LoopTactic
import Derived.Laws.RangeAny
import Derived.Test.YthamjbfdhghbbaaWWords
import Derived.Test.YthamjbfdhghbbaaWLast
import Derived.Test.YthamjbfdhghbbaaWTab
import Derived.Test.YthamjbfdhghbbaaWFour
import Derived.Test.YthamjbfdhghbbaaWQPut
import Derived.Test.YthamjbfdhghbbaaWApart
import Derived.Test.YthamjbfdhghbbaaWArr
import Derived.Test.YthamjbfdhghbbaaWZeros
import Derived.Test.YthamjbfdhghbbaaWFoot
import Derived.Test.YthamjbfdhghbbaaWKept
import Derived.Test.YthamjbfdhghbbaaWShare
import Derived.Test.YthamjbfdhghbbaaWN
import Derived.Test.YthamjbfdhghbbaaWFootNe
import Derived.Test.YthamjbfdhghbbaaWAt
import Derived.Test.YthamjbfdhghbbaaWEqStruct
import Derived.Test.YthamjbfdhghbbaaWRepsOne
import Derived.Test.YthamjbfdhghbbaaWInv
import Derived.Test.YthamjbfdhghbbaaWInvWords
import Derived.Test.YthamjbfdhghbbaaWGuard
import Derived.Test.YthamjbfdhghbbaaWNEv
import Derived.Test.YthamjbfdhghbbaaWMore
namespace Go.Proofs.Ythamjbfdhghbbaa.PFnParityWords
open Go.RowKit Go.Proofs.YthamjbfdhghbbaaW.PrintWords Go.Proofs.YthamjbfdhghbbaaW.PrintLast Go.Proofs.YthamjbfdhghbbaaW.PrintMore
attribute [local go_sem] max2_int min2_int max_two min_two max_three min_three max_four min_four   -- for this text's walks alone
set_option linter.unusedVariables false
set_option linter.unusedSimpArgs false



def errW : Option Int → Value
 | none => .nilIface
 | some c => .iface 0 (.int .i64 c)
theorem errW_none : errW none = .nilIface := rfl
theorem errW_some (c : Int) : errW (some c) = .iface 0 (.int .i64 c) := rfl

theorem info3 : (Try.prog.info? 3).map (fun i => (i.zero, i.size, i.bytes)) = some (some (.int .i64 0), 1, 8) := by kernel_rfl
theorem info5 : (Try.prog.info? 5).map (fun i => (i.zero, i.size, i.bytes)) = some (some (.int .u8 0), 1, 1) := by kernel_rfl
theorem info9 : (Try.prog.info? 9).map (fun i => (i.zero, i.size, i.bytes)) = some (some (.string ⟨#[]⟩), 1, 16) := by kernel_rfl
-- the values' own types

end Go.Proofs.Ythamjbfdhghbbaa.PFnParityWords
