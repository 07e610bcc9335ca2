-- The print's words, cut down to what this claim uses by a program of this session (trim.py).
import Derived.Test.YtemnidhllbbjnaaWInv
import Derived.Test.YtemnidhllbbjnaaWFootNe
namespace Go.Proofs.YtemnidhllbbjnaaW.PrintWords
open Go.RowKit
end Go.Proofs.YtemnidhllbbjnaaW.PrintWords
namespace Go.Proofs.YtemnidhllbbjnaaW.PrintLast
section
variable {ops : Array Oper} {a : Act} {o og : Oper} {g : Nat} {t : Tmp} {u : Bool}
end
end Go.Proofs.YtemnidhllbbjnaaW.PrintLast
