/- The pure statement of FnExactMeetFilters: written by a program of this session out of the printed contract. No condition but what every reading gives. -/
import Derived.Test.YtflmebbcgbejfaaXFnExactMeetFiltersx4
import Derived.Test.YtflmebbcgbejfaaOpens
namespace Go.Proofs.Ytflmebbcgbejfaa.XFnExactMeetFilters
open Go.RowKit Go.Proofs.YtflmebbcgbejfaaW.PrintWords Go.Proofs.YtflmebbcgbejfaaW.PrintLast

def laws_FnExactMeetFilters.Pure : Prop := ∀ (l0_0 : List Bool) (l1_0 : List Bool), (l0_0.length ≤ maxLen ∧ ∀ y ∈ l0_0, True) → (l1_0.length ≤ maxLen ∧ ∀ y ∈ l1_0, True) → ∃ k, laws_FnExactMeetFilters.f k l0_0 l1_0 = some true

end Go.Proofs.Ytflmebbcgbejfaa.XFnExactMeetFilters
