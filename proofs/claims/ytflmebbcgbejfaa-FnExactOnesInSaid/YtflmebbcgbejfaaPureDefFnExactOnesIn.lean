/- The pure statement of FnExactOnesIn: written by a program of this session out of the printed contract. No condition but what every reading gives. -/
import Derived.Test.YtflmebbcgbejfaaPFnExactOnesInx2
import Derived.Test.YtflmebbcgbejfaaOpens
namespace Go.Proofs.Ytflmebbcgbejfaa.PFnExactOnesIn
open Go.RowKit Go.Proofs.YtflmebbcgbejfaaW.PrintWords Go.Proofs.YtflmebbcgbejfaaW.PrintLast

def laws_FnExactOnesIn.Pure : Prop := ∀ (l0_0 : List Bool), (l0_0.length ≤ maxLen ∧ ∀ y ∈ l0_0, True) → ∃ k, laws_FnExactOnesIn.f k l0_0 = some true

end Go.Proofs.Ytflmebbcgbejfaa.PFnExactOnesIn
