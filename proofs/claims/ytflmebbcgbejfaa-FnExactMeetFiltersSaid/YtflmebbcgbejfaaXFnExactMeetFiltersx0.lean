-- Written by xprint.py of this session: out of the translation, by the kit's print with contracts of this session.
import Derived.Test.YtflmebbcgbejfaaProg
import Derived.Test.YtflmebbcgbejfaaMin
import Derived.Below
import Derived.Deep.Draws
import Derived.Deep.AppendLies
import Derived.Maps.AppendAt
import Derived.OwnWalk
import Derived.Laws.BytesArg
import Derived.Laws.MakeOwn
import Derived.Laws.OwnMore
import Derived.Deep.OwnRows
import Derived.Tactics
import Derived.Lib.ConvBytes
import Derived.Laws.Slices
import Derived.WalkKit
import Derived.KernelRfl
import Derived.RowKit3
import Derived.Deep.LoopGhost
import Derived.Deep.QuietTactic
import Derived.BigQuiet
import Derived.WideLaws
import Derived.Deep.DeepCutAuto
import Derived.Deep.CutBlock
import Derived.Deep.RegionHeld3
import Derived.Laws.Rows
import Derived.Lib.AppendStr
import Derived.ArgAppend
import Derived.Laws.IdiomCopy
import Derived.OrdersHeld
import Derived.Laws.BitsLemmas
import Derived.RowKit
import Derived.Test.YtflmebbcgbejfaaWWords
import Derived.Test.YtflmebbcgbejfaaWLast
import Derived.Test.YtflmebbcgbejfaaWTab
import Derived.Test.YtflmebbcgbejfaaWFour
import Derived.Test.YtflmebbcgbejfaaWQPut
import Derived.Test.YtflmebbcgbejfaaWApart
import Derived.Test.YtflmebbcgbejfaaWArr
import Derived.Test.YtflmebbcgbejfaaWZeros
import Derived.Test.YtflmebbcgbejfaaWFoot
import Derived.Test.YtflmebbcgbejfaaWKept
import Derived.Test.YtflmebbcgbejfaaWShare
import Derived.Test.YtflmebbcgbejfaaWN
import Derived.Test.YtflmebbcgbejfaaWFootNe
import Derived.Test.YtflmebbcgbejfaaWAt
import Derived.Test.YtflmebbcgbejfaaWEqStruct
import Derived.Test.YtflmebbcgbejfaaWRepsOne
import Derived.Test.YtflmebbcgbejfaaWInv
import Derived.Test.YtflmebbcgbejfaaWInvWords
import Derived.Test.YtflmebbcgbejfaaWGuard
import Derived.Test.YtflmebbcgbejfaaWNEv
import Derived.Test.YtflmebbcgbejfaaWMore
namespace Go.Proofs.Ytflmebbcgbejfaa.XFnExactMeetFilters
open Go.RowKit Go.Proofs.YtflmebbcgbejfaaW.PrintWords Go.Proofs.YtflmebbcgbejfaaW.PrintLast Go.Proofs.YtflmebbcgbejfaaW.PrintMore
open Go.Proofs.Ytflmebbcgbejfaa.Min0
attribute [local go_sem] max2_int min2_int max_two min_two max_three min_three max_four min_four   -- for this text's walks alone
set_option linter.unusedVariables false
set_option linter.unusedSimpArgs false



def errW : Option Int → Value
 | none => .nilIface
 | some c => .iface 0 (.int .i64 c)
theorem errW_none : errW none = .nilIface := rfl
theorem errW_some (c : Int) : errW (some c) = .iface 0 (.int .i64 c) := rfl

theorem info4 : (Try.prog.info? 4).map (fun i => (i.zero, i.size, i.bytes)) = some (some (.bool false), 1, 1) := by kernel_rfl
-- the values' own types

end Go.Proofs.Ytflmebbcgbejfaa.XFnExactMeetFilters
