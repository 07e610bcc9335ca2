-- Written by xprint.py of this session: out of the translation, by the kit's print with contracts of this session.
import Derived.Test.YtcddcnnbhbffmaaProg
import Derived.Test.YtcddcnnbhbffmaaMin
import Derived.Below
import Derived.Deep.Draws
import Derived.Deep.AppendLies
import Derived.Maps.AppendAt
import Derived.OwnWalk
import Derived.Laws.BytesArg
import Derived.Laws.MakeOwn
import Derived.Laws.OwnMore
import Derived.Deep.OwnRows
import Derived.Tactics
import Derived.Lib.ConvBytes
import Derived.Laws.Slices
import Derived.WalkKit
import Derived.KernelRfl
import Derived.RowKit3
import Derived.Deep.LoopGhost
import Derived.Deep.QuietTactic
import Derived.BigQuiet
import Derived.WideLaws
import Derived.Deep.DeepCutAuto
import Derived.Deep.CutBlock
import Derived.Deep.RegionHeld3
import Derived.Laws.Rows
import Derived.Lib.AppendStr
import Derived.ArgAppend
import Derived.Laws.IdiomCopy
import Derived.OrdersHeld
import Derived.Laws.BitsLemmas
import Derived.RowKit
import Derived.Test.YtcddcnnbhbffmaaWWords
import Derived.Test.YtcddcnnbhbffmaaWLast
import Derived.Test.YtcddcnnbhbffmaaWTab
import Derived.Test.YtcddcnnbhbffmaaWFour
import Derived.Test.YtcddcnnbhbffmaaWQPut
import Derived.Test.YtcddcnnbhbffmaaWApart
import Derived.Test.YtcddcnnbhbffmaaWArr
import Derived.Test.YtcddcnnbhbffmaaWZeros
import Derived.Test.YtcddcnnbhbffmaaWFoot
import Derived.Test.YtcddcnnbhbffmaaWKept
import Derived.Test.YtcddcnnbhbffmaaWShare
import Derived.Test.YtcddcnnbhbffmaaWN
import Derived.Test.YtcddcnnbhbffmaaWFootNe
import Derived.Test.YtcddcnnbhbffmaaWAt
import Derived.Test.YtcddcnnbhbffmaaWEqStruct
import Derived.Test.YtcddcnnbhbffmaaWRepsOne
import Derived.Test.YtcddcnnbhbffmaaWInv
import Derived.Test.YtcddcnnbhbffmaaWInvWords
import Derived.Test.YtcddcnnbhbffmaaWGuard
import Derived.Test.YtcddcnnbhbffmaaWNEv
import Derived.Test.YtcddcnnbhbffmaaWMore
namespace Go.Proofs.Ytcddcnnbhbffmaa.XFnExactStateBytes
open Go.RowKit Go.Proofs.YtcddcnnbhbffmaaW.PrintWords Go.Proofs.YtcddcnnbhbffmaaW.PrintLast Go.Proofs.YtcddcnnbhbffmaaW.PrintMore
open Go.Proofs.Ytcddcnnbhbffmaa.Min0
attribute [local go_sem] max2_int min2_int max_two min_two max_three min_three max_four min_four   -- for this text's walks alone
set_option linter.unusedVariables false
set_option linter.unusedSimpArgs false



def errW : Option Int → Value
 | none => .nilIface
 | some c => .iface 0 (.int .i64 c)
theorem errW_none : errW none = .nilIface := rfl
theorem errW_some (c : Int) : errW (some c) = .iface 0 (.int .i64 c) := rfl

theorem info3 : (Try.prog.info? 3).map (fun i => (i.zero, i.size, i.bytes)) = some (some (.int .i64 0), 1, 8) := by kernel_rfl
theorem info5 : (Try.prog.info? 5).map (fun i => (i.zero, i.size, i.bytes)) = some (some (.int .u8 0), 1, 1) := by kernel_rfl
theorem info9 : (Try.prog.info? 9).map (fun i => (i.zero, i.size, i.bytes)) = some (some (.string ⟨#[]⟩), 1, 16) := by kernel_rfl
-- the values' own types

end Go.Proofs.Ytcddcnnbhbffmaa.XFnExactStateBytes
