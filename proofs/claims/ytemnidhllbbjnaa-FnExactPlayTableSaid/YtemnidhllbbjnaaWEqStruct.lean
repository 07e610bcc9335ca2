-- The print's words, cut down to what this claim uses by a program of this session (trim.py).
import Derived.Test.YtemnidhllbbjnaaWWords
import Derived.Laws.StructEq
/-! ### 53. '==' of structs as_ one Bool -/
namespace Go.Proofs.YtemnidhllbbjnaaW.PrintWords
open Go.RowKit
section
variable {P : Program} {d : Nat} {xs ys : Array Value} {f : Field} {fs : List Field} {a b : Value} {r s : Bool} {w : World}
end
end Go.Proofs.YtemnidhllbbjnaaW.PrintWords
