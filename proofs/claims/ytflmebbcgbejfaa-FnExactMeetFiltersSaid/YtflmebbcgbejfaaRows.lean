/-
  No cell of these rows narrows 'for every input' (looked for: loops, veiled, ifaces, maps, wideKeys, modest, calm, conditions, laid).
  DERIVED. THE GIVEN ROWS OF THIS SEAT. 6 by the template 'for every input the law returns true; each argument reads behind the call as it read before'; 0 by the template 'total and deterministic' (their statements: YtflmebbcgbejfaaTotals.lean).
  GIVEN WITH THE SEED: the statements are not yours to turn. If you find one false, say at which input.
  Laid BY PROGRAM, IN A SANDBOX (cutbox-rows.mjs): the forced cells as the released guide's own fill.sh prints them over the translation cd6a432fa8a9862d… (all of the seat's roots in one cut). By AI agents, Wed Nov 11 2026. No macro, syntax, notation, axiom, sorry.
-/
import Derived.Test.YtflmebbcgbejfaaChecked
import GoSem.Claim
import GoSem.ClaimJoined
import GoSem.ClaimMapViews
import Derived.JoinedTies
import Derived.KernelRfl
namespace Go.Proofs.Ytflmebbcgbejfaa
/- THE CELL 'sum', in the pinned program and in every row, IS THE sha256 OF THE DUMP (.gsa) THAT YtflmebbcgbejfaaProg.lean LOADS. Nothing in Lean hashes anything: it is a label: what it is worth is what the hold of that sum in a sandbox is worth. -/
noncomputable def Try.pinned : Pinned := { name := "ytflmebbcgbejfaa", sum := "cd6a432fa8a9862d40e822a764f1a967be96e22fbdf58301083c5b8d1892a942", checked := Try.checked }
namespace Rows
def none {H : Type} : Left H := { results := [], args := [] }

/-- 'laws.FnExactHalfOf': WHATEVER THE INPUT: true; the input reads as it did. -/
def fnExactHalfOfSpec : ChangeSpec := { name := "fnExactHalfOf", fn := fun _ => fun
  | [d] => { results := [.lit (.bool true)], args := [d] }
  | _ => none }
def fnExactHalfOfRow : OpenClaim := { program := "ytflmebbcgbejfaa", sum := "cd6a432fa8a9862d40e822a764f1a967be96e22fbdf58301083c5b8d1892a942", func := "loop.example/g00405/laws.FnExactHalfOf", spec := "fnExactHalfOf", apart := false }
def FnExactHalfOfSaid : Prop := fnExactHalfOfRow.holds Try.pinned (OpenSpec.ofChange fnExactHalfOfSpec)

/-- ITS FALSE NEIGHBOUR: 'it returns false'. Refute it at one input. -/
def fnExactHalfOfWrong : ChangeSpec := { name := "fnExactHalfOf", fn := fun _ => fun
  | [d] => { results := [.lit (.bool false)], args := [d] }
  | _ => none }
def FnExactHalfOfWrongFalsely : Prop := fnExactHalfOfRow.holds Try.pinned (OpenSpec.ofChange fnExactHalfOfWrong)

/-- 'laws.FnExactBuddyOf': WHATEVER THE INPUT: true; the input reads as it did. -/
def fnExactBuddyOfSpec : ChangeSpec := { name := "fnExactBuddyOf", fn := fun _ => fun
  | [d1, d2] => { results := [.lit (.bool true)], args := [d1, d2] }
  | _ => none }
def fnExactBuddyOfRow : OpenClaim := { program := "ytflmebbcgbejfaa", sum := "cd6a432fa8a9862d40e822a764f1a967be96e22fbdf58301083c5b8d1892a942", func := "loop.example/g00405/laws.FnExactBuddyOf", spec := "fnExactBuddyOf", apart := false }
def FnExactBuddyOfSaid : Prop := fnExactBuddyOfRow.holds Try.pinned (OpenSpec.ofChange fnExactBuddyOfSpec)

/-- ITS FALSE NEIGHBOUR: 'it returns false'. Refute it at one input. -/
def fnExactBuddyOfWrong : ChangeSpec := { name := "fnExactBuddyOf", fn := fun _ => fun
  | [d1, d2] => { results := [.lit (.bool false)], args := [d1, d2] }
  | _ => none }
def FnExactBuddyOfWrongFalsely : Prop := fnExactBuddyOfRow.holds Try.pinned (OpenSpec.ofChange fnExactBuddyOfWrong)

/-- 'laws.FnExactOrderFor': WHATEVER THE INPUT: true; the input reads as it did. -/
def fnExactOrderForSpec : ChangeSpec := { name := "fnExactOrderFor", fn := fun _ => fun
  | [d] => { results := [.lit (.bool true)], args := [d] }
  | _ => none }
def fnExactOrderForRow : OpenClaim := { program := "ytflmebbcgbejfaa", sum := "cd6a432fa8a9862d40e822a764f1a967be96e22fbdf58301083c5b8d1892a942", func := "loop.example/g00405/laws.FnExactOrderFor", spec := "fnExactOrderFor", apart := false }
def FnExactOrderForSaid : Prop := fnExactOrderForRow.holds Try.pinned (OpenSpec.ofChange fnExactOrderForSpec)

/-- ITS FALSE NEIGHBOUR: 'it returns false'. Refute it at one input. -/
def fnExactOrderForWrong : ChangeSpec := { name := "fnExactOrderFor", fn := fun _ => fun
  | [d] => { results := [.lit (.bool false)], args := [d] }
  | _ => none }
def FnExactOrderForWrongFalsely : Prop := fnExactOrderForRow.holds Try.pinned (OpenSpec.ofChange fnExactOrderForWrong)

/-- 'laws.FnExactOnesIn': WHATEVER THE INPUT: true; the input reads as it did. -/
def fnExactOnesInSpec : ChangeSpec := { name := "fnExactOnesIn", fn := fun _ => fun
  | [d] => { results := [.lit (.bool true)], args := [d] }
  | _ => none }
def fnExactOnesInRow : OpenClaim := { program := "ytflmebbcgbejfaa", sum := "cd6a432fa8a9862d40e822a764f1a967be96e22fbdf58301083c5b8d1892a942", func := "loop.example/g00405/laws.FnExactOnesIn", spec := "fnExactOnesIn", apart := false }
def FnExactOnesInSaid : Prop := fnExactOnesInRow.holds Try.pinned (OpenSpec.ofChange fnExactOnesInSpec)

/-- ITS FALSE NEIGHBOUR: 'it returns false'. Refute it at one input. -/
def fnExactOnesInWrong : ChangeSpec := { name := "fnExactOnesIn", fn := fun _ => fun
  | [d] => { results := [.lit (.bool false)], args := [d] }
  | _ => none }
def FnExactOnesInWrongFalsely : Prop := fnExactOnesInRow.holds Try.pinned (OpenSpec.ofChange fnExactOnesInWrong)

/-- 'laws.FnExactJoinFilters': WHATEVER THE INPUT: true; the input reads as it did. -/
def fnExactJoinFiltersSpec : ChangeSpec := { name := "fnExactJoinFilters", fn := fun _ => fun
  | [d1, d2] => { results := [.lit (.bool true)], args := [d1, d2] }
  | _ => none }
def fnExactJoinFiltersRow : OpenClaim := { program := "ytflmebbcgbejfaa", sum := "cd6a432fa8a9862d40e822a764f1a967be96e22fbdf58301083c5b8d1892a942", func := "loop.example/g00405/laws.FnExactJoinFilters", spec := "fnExactJoinFilters", unfollowed := true, recurses := true, apart := false }
def FnExactJoinFiltersSaid : Prop := fnExactJoinFiltersRow.holds Try.pinned (OpenSpec.ofChange fnExactJoinFiltersSpec)

/-- ITS FALSE NEIGHBOUR: 'it returns false'. Refute it at one input. -/
def fnExactJoinFiltersWrong : ChangeSpec := { name := "fnExactJoinFilters", fn := fun _ => fun
  | [d1, d2] => { results := [.lit (.bool false)], args := [d1, d2] }
  | _ => none }
def FnExactJoinFiltersWrongFalsely : Prop := fnExactJoinFiltersRow.holds Try.pinned (OpenSpec.ofChange fnExactJoinFiltersWrong)

/-- 'laws.FnExactMeetFilters': WHATEVER THE INPUT: true; the input reads as it did. -/
def fnExactMeetFiltersSpec : ChangeSpec := { name := "fnExactMeetFilters", fn := fun _ => fun
  | [d1, d2] => { results := [.lit (.bool true)], args := [d1, d2] }
  | _ => none }
def fnExactMeetFiltersRow : OpenClaim := { program := "ytflmebbcgbejfaa", sum := "cd6a432fa8a9862d40e822a764f1a967be96e22fbdf58301083c5b8d1892a942", func := "loop.example/g00405/laws.FnExactMeetFilters", spec := "fnExactMeetFilters", unfollowed := true, recurses := true, apart := false }
def FnExactMeetFiltersSaid : Prop := fnExactMeetFiltersRow.holds Try.pinned (OpenSpec.ofChange fnExactMeetFiltersSpec)

/-- ITS FALSE NEIGHBOUR: 'it returns false'. Refute it at one input. -/
def fnExactMeetFiltersWrong : ChangeSpec := { name := "fnExactMeetFilters", fn := fun _ => fun
  | [d1, d2] => { results := [.lit (.bool false)], args := [d1, d2] }
  | _ => none }
def FnExactMeetFiltersWrongFalsely : Prop := fnExactMeetFiltersRow.holds Try.pinned (OpenSpec.ofChange fnExactMeetFiltersWrong)

/- THE SECOND FORM. 'bulk': how many values and letters a reading holds, each counted each time it is reached (what is shared counts as often as it is met; a slice's spare places count too). A statement '..UptoSaid' is the law's where the arguments, and the package variables that the reading takes, are together of bulk at most 1048576: NARROWER than '..Said'. Prove '..Said' where nothing that the law and all that it calls make is longer than what came in: it says more and counts as full. Else prove '..UptoSaid'. A law counts once. -/
mutual
def uptoBulk {H : Type} : DataW H → Nat
  | .lit (.string bytes) => bytes.length + 1
  | .lit _ => 1
  | .nil => 1
  | .ptr d => uptoBulk d + 1
  | .slice elems spare => uptoBulkAll elems + uptoBulkAll spare + 1
  | .agg parts => uptoBulkAll parts + 1
  | .iface _ d => uptoBulk d + 1
  | .map entries => uptoBulkEntries entries + 1
  | .held _ => 1
def uptoBulkAll {H : Type} : List (DataW H) → Nat
  | [] => 0
  | d :: r => uptoBulk d + uptoBulkAll r
def uptoBulkEntries {H : Type} : List (Lit × DataW H) → Nat
  | [] => 0
  | x :: r => uptoBulkEntry x + uptoBulkEntries r
def uptoBulkEntry {H : Type} : Lit × DataW H → Nat
  | (.string bytes, d) => bytes.length + uptoBulk d + 1
  | (_, d) => uptoBulk d + 1
 end
def uptoSmall : (H : Type) → List (DataW H) → Bool := fun _ ds => decide (uptoBulkAll ds ≤ 1048576)
def OpenSpec.upto (s : _root_.Go.ChangeSpec) : _root_.Go.OpenSpec := { _root_.Go.OpenSpec.ofChange s with cond := some uptoSmall }

/-- 'laws.FnExactHalfOf', WHERE WHAT IT READS IS OF BULK AT MOST 1048576: true; the input reads as it did. -/
def fnExactHalfOfUptoRow : OpenClaim := { program := "ytflmebbcgbejfaa", sum := "cd6a432fa8a9862d40e822a764f1a967be96e22fbdf58301083c5b8d1892a942", func := "loop.example/g00405/laws.FnExactHalfOf", spec := "fnExactHalfOf", apart := false, narrowed := true }
def FnExactHalfOfUptoSaid : Prop := fnExactHalfOfUptoRow.holds Try.pinned (OpenSpec.upto fnExactHalfOfSpec)

/-- 'laws.FnExactBuddyOf', WHERE WHAT IT READS IS OF BULK AT MOST 1048576: true; the input reads as it did. -/
def fnExactBuddyOfUptoRow : OpenClaim := { program := "ytflmebbcgbejfaa", sum := "cd6a432fa8a9862d40e822a764f1a967be96e22fbdf58301083c5b8d1892a942", func := "loop.example/g00405/laws.FnExactBuddyOf", spec := "fnExactBuddyOf", apart := false, narrowed := true }
def FnExactBuddyOfUptoSaid : Prop := fnExactBuddyOfUptoRow.holds Try.pinned (OpenSpec.upto fnExactBuddyOfSpec)

/-- 'laws.FnExactOrderFor', WHERE WHAT IT READS IS OF BULK AT MOST 1048576: true; the input reads as it did. -/
def fnExactOrderForUptoRow : OpenClaim := { program := "ytflmebbcgbejfaa", sum := "cd6a432fa8a9862d40e822a764f1a967be96e22fbdf58301083c5b8d1892a942", func := "loop.example/g00405/laws.FnExactOrderFor", spec := "fnExactOrderFor", apart := false, narrowed := true }
def FnExactOrderForUptoSaid : Prop := fnExactOrderForUptoRow.holds Try.pinned (OpenSpec.upto fnExactOrderForSpec)

/-- 'laws.FnExactOnesIn', WHERE WHAT IT READS IS OF BULK AT MOST 1048576: true; the input reads as it did. -/
def fnExactOnesInUptoRow : OpenClaim := { program := "ytflmebbcgbejfaa", sum := "cd6a432fa8a9862d40e822a764f1a967be96e22fbdf58301083c5b8d1892a942", func := "loop.example/g00405/laws.FnExactOnesIn", spec := "fnExactOnesIn", apart := false, narrowed := true }
def FnExactOnesInUptoSaid : Prop := fnExactOnesInUptoRow.holds Try.pinned (OpenSpec.upto fnExactOnesInSpec)

/-- 'laws.FnExactJoinFilters', WHERE WHAT IT READS IS OF BULK AT MOST 1048576: true; the input reads as it did. -/
def fnExactJoinFiltersUptoRow : OpenClaim := { program := "ytflmebbcgbejfaa", sum := "cd6a432fa8a9862d40e822a764f1a967be96e22fbdf58301083c5b8d1892a942", func := "loop.example/g00405/laws.FnExactJoinFilters", spec := "fnExactJoinFilters", unfollowed := true, recurses := true, apart := false, narrowed := true }
def FnExactJoinFiltersUptoSaid : Prop := fnExactJoinFiltersUptoRow.holds Try.pinned (OpenSpec.upto fnExactJoinFiltersSpec)

/-- 'laws.FnExactMeetFilters', WHERE WHAT IT READS IS OF BULK AT MOST 1048576: true; the input reads as it did. -/
def fnExactMeetFiltersUptoRow : OpenClaim := { program := "ytflmebbcgbejfaa", sum := "cd6a432fa8a9862d40e822a764f1a967be96e22fbdf58301083c5b8d1892a942", func := "loop.example/g00405/laws.FnExactMeetFilters", spec := "fnExactMeetFilters", unfollowed := true, recurses := true, apart := false, narrowed := true }
def FnExactMeetFiltersUptoSaid : Prop := fnExactMeetFiltersUptoRow.holds Try.pinned (OpenSpec.upto fnExactMeetFiltersSpec)

end Rows
end Go.Proofs.Ytflmebbcgbejfaa
