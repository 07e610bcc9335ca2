-- Written by xprint.py of this session: out of the translation, by the kit's print with contracts of this session.
import Derived.Test.YtlieapaegmjhnaaProg
import Derived.Test.YtlieapaegmjhnaaMin
import Derived.Below
import Derived.Deep.Draws
import Derived.Deep.AppendLies
import Derived.Maps.AppendAt
import Derived.OwnWalk
import Derived.Laws.BytesArg
import Derived.Laws.MakeOwn
import Derived.Laws.OwnMore
import Derived.Deep.OwnRows
import Derived.Tactics
import Derived.Lib.ConvBytes
import Derived.Laws.Slices
import Derived.WalkKit
import Derived.KernelRfl
import Derived.RowKit3
import Derived.Deep.LoopGhost
import Derived.Deep.QuietTactic
import Derived.BigQuiet
import Derived.WideLaws
import Derived.Deep.DeepCutAuto
import Derived.Deep.CutBlock
import Derived.Deep.RegionHeld3
import Derived.Laws.Rows
import Derived.Lib.AppendStr
import Derived.ArgAppend
import Derived.Laws.IdiomCopy
import Derived.OrdersHeld
import Derived.Laws.BitsLemmas
import Derived.RowKit
import Derived.Test.YtlieapaegmjhnaaShelf
import Derived.Test.YtlieapaegmjhnaaBridge
import Derived.Test.YtlieapaegmjhnaaWWords
import Derived.Test.YtlieapaegmjhnaaWLast
import Derived.Test.YtlieapaegmjhnaaWTab
import Derived.Test.YtlieapaegmjhnaaWFour
import Derived.Test.YtlieapaegmjhnaaWQPut
import Derived.Test.YtlieapaegmjhnaaWApart
import Derived.Test.YtlieapaegmjhnaaWArr
import Derived.Test.YtlieapaegmjhnaaWZeros
import Derived.Test.YtlieapaegmjhnaaWFoot
import Derived.Test.YtlieapaegmjhnaaWKept
import Derived.Test.YtlieapaegmjhnaaWShare
import Derived.Test.YtlieapaegmjhnaaWN
import Derived.Test.YtlieapaegmjhnaaWFootNe
import Derived.Test.YtlieapaegmjhnaaWAt
import Derived.Test.YtlieapaegmjhnaaWEqStruct
import Derived.Test.YtlieapaegmjhnaaWRepsOne
import Derived.Test.YtlieapaegmjhnaaWInv
import Derived.Test.YtlieapaegmjhnaaWInvWords
import Derived.Test.YtlieapaegmjhnaaWGuard
import Derived.Test.YtlieapaegmjhnaaWNEv
import Derived.Test.YtlieapaegmjhnaaWMore
namespace Go.Proofs.Ytlieapaegmjhnaa.XFnFilter
open Go.RowKit Go.Proofs.YtlieapaegmjhnaaW.PrintWords Go.Proofs.YtlieapaegmjhnaaW.PrintLast Go.Proofs.YtlieapaegmjhnaaW.PrintMore
open Go.Proofs.Ytlieapaegmjhnaa.Min0
attribute [local go_sem] max2_int min2_int max_two min_two max_three min_three max_four min_four   -- for this text's walks alone
set_option linter.unusedVariables false
set_option linter.unusedSimpArgs false



def errW : Option Int → Value
 | none => .nilIface
 | some c => .iface 0 (.int .i64 c)
theorem errW_none : errW none = .nilIface := rfl
theorem errW_some (c : Int) : errW (some c) = .iface 0 (.int .i64 c) := rfl

theorem info3 : (Try.prog.info? 3).map (fun i => (i.zero, i.size, i.bytes)) = some (some (.int .i64 0), 1, 8) := by kernel_rfl
theorem info4 : (Try.prog.info? 4).map (fun i => (i.zero, i.size, i.bytes)) = some (some (.bool false), 1, 1) := by kernel_rfl
-- the values' own types

end Go.Proofs.Ytlieapaegmjhnaa.XFnFilter
