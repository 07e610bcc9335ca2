/- The pure statement of FnExactUsesIn: written by a program of this session out of the printed contract. No condition but what every reading gives. -/
import Derived.Test.YtgnijlfakjjfcaaXFnExactUsesInx12
import Derived.Test.YtgnijlfakjjfcaaOpens
namespace Go.Proofs.Ytgnijlfakjjfcaa.XFnExactUsesIn
open Go.RowKit Go.Proofs.YtgnijlfakjjfcaaW.PrintWords Go.Proofs.YtgnijlfakjjfcaaW.PrintLast

def laws_FnExactUsesIn.Pure : Prop := ∀ (l0_0 : List ByteArray) (l0_1 : List ByteArray) (l0_2 : List Bool) (l0_3 : List Int) (a0_4 : Int) (a0_5 : Int) (l0_6 : List (List Int)) (l0_7 : List Int), (l0_0.length ≤ maxLen ∧ ∀ y ∈ l0_0, y.size ≤ maxLen) → (l0_1.length ≤ maxLen ∧ ∀ y ∈ l0_1, y.size ≤ maxLen) → (l0_2.length ≤ maxLen ∧ ∀ y ∈ l0_2, True) → (l0_3.length ≤ maxLen ∧ ∀ y ∈ l0_3, (Lit.int .i64 y).wf = true) → (Lit.int .i64 a0_4).wf = true → (Lit.int .i64 a0_5).wf = true → (l0_6.length ≤ maxLen ∧ ∀ y ∈ l0_6, (y.length ≤ maxLen ∧ ∀ z ∈ y, (Lit.int .i64 z).wf = true)) → (l0_7.length ≤ maxLen ∧ ∀ y ∈ l0_7, (Lit.int .i64 y).wf = true) → ∃ k, laws_FnExactUsesIn.f k l0_0 l0_1 l0_2 l0_3 a0_4 a0_5 l0_6 l0_7 = some true

end Go.Proofs.Ytgnijlfakjjfcaa.XFnExactUsesIn
