-- The print's words, cut down to what this claim uses by a program of this session (trim.py).
import Derived.Test.YtgnijlfakjjfcaaWInv
import Derived.Test.YtgnijlfakjjfcaaWFootNe
namespace Go.Proofs.YtgnijlfakjjfcaaW.PrintWords
open Go.RowKit
end Go.Proofs.YtgnijlfakjjfcaaW.PrintWords
namespace Go.Proofs.YtgnijlfakjjfcaaW.PrintLast
section
variable {ops : Array Oper} {a : Act} {o og : Oper} {g : Nat} {t : Tmp} {u : Bool}
end
end Go.Proofs.YtgnijlfakjjfcaaW.PrintLast
