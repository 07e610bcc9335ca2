/- The pure statement of FnExactMayHave: written by a program of this session out of the printed contract. No condition but what every reading gives. -/
import Derived.Test.YtlieapaegmjhnaaXFnExactMayHavex2
import Derived.Test.YtlieapaegmjhnaaOpens
namespace Go.Proofs.Ytlieapaegmjhnaa.XFnExactMayHave
open Go.RowKit Go.Proofs.YtlieapaegmjhnaaW.PrintWords Go.Proofs.YtlieapaegmjhnaaW.PrintLast

def laws_FnExactMayHave.Pure : Prop := ∀ (l0_0 : List Bool) (a1 : Int), (l0_0.length ≤ maxLen ∧ ∀ y ∈ l0_0, True) → (Lit.int .i64 a1).wf = true → ∃ k, laws_FnExactMayHave.f k l0_0 a1 = some true

end Go.Proofs.Ytlieapaegmjhnaa.XFnExactMayHave
