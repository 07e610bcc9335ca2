/- The pure statement of FnExactRehashTo: written by a program of this session out of the printed contract. No condition but what every reading gives. -/
import Derived.Test.YtemnidhllbbjnaaXFnExactRehashTox12
import Derived.Test.YtemnidhllbbjnaaOpens
namespace Go.Proofs.Ytemnidhllbbjnaa.XFnExactRehashTo
open Go.RowKit Go.Proofs.YtemnidhllbbjnaaW.PrintWords Go.Proofs.YtemnidhllbbjnaaW.PrintLast

def laws_FnExactRehashTo.Pure : Prop := ∀ (a0_0 : Int) (l0_1 : List S99) (l0_2 : List S99) (a0_3 : Int) (a1 : Int), (Lit.int .i64 a0_0).wf = true → (l0_1.length ≤ maxLen ∧ ∀ y ∈ l0_1, (True ∧ (Lit.int .i64 y.f1).wf = true ∧ (Lit.int .i64 y.f2).wf = true)) → (l0_2.length ≤ maxLen ∧ ∀ y ∈ l0_2, (True ∧ (Lit.int .i64 y.f1).wf = true ∧ (Lit.int .i64 y.f2).wf = true)) → (Lit.int .i64 a0_3).wf = true → (Lit.int .i64 a1).wf = true → ∃ k, laws_FnExactRehashTo.f k a0_0 l0_1 l0_2 a0_3 a1 = some true

end Go.Proofs.Ytemnidhllbbjnaa.XFnExactRehashTo
