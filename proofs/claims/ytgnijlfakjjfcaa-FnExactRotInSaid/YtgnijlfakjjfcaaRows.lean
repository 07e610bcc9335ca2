/-
  No cell of these rows narrows 'for every input' (looked for: loops, veiled, ifaces, maps, wideKeys, modest, calm, conditions, laid).
  DERIVED. THE GIVEN ROWS OF THIS SEAT. 6 by the template 'for every input the law returns true; each argument reads behind the call as it read before'; 0 by the template 'total and deterministic' (their statements: YtgnijlfakjjfcaaTotals.lean).
  GIVEN WITH THE SEED: the statements are not yours to turn. If you find one false, say at which input.
  Laid BY PROGRAM, IN A SANDBOX (cutbox-rows.mjs): the forced cells as the released guide's own fill.sh prints them over the translation 3e43ff4a17955b7b… (all of the seat's roots in one cut). By AI agents, Wed Nov 11 2026. No macro, syntax, notation, axiom, sorry.
-/
import Derived.Test.YtgnijlfakjjfcaaChecked
import GoSem.Claim
import GoSem.ClaimJoined
import GoSem.ClaimMapViews
import Derived.JoinedTies
import Derived.KernelRfl
namespace Go.Proofs.Ytgnijlfakjjfcaa
/- THE CELL 'sum', in the pinned program and in every row, IS THE sha256 OF THE DUMP (.gsa) THAT YtgnijlfakjjfcaaProg.lean LOADS. Nothing in Lean hashes anything: it is a label: what it is worth is what the hold of that sum in a sandbox is worth. -/
noncomputable def Try.pinned : Pinned := { name := "ytgnijlfakjjfcaa", sum := "3e43ff4a17955b7b62befc970a68077e806c8f7a10993bd6c44cb01e0607096a", checked := Try.checked }
namespace Rows
def none {H : Type} : Left H := { results := [], args := [] }

/-- 'laws.FnExactGoodScrub': WHATEVER THE INPUT: true; the input reads as it did. -/
def fnExactGoodScrubSpec : ChangeSpec := { name := "fnExactGoodScrub", fn := fun _ => fun
  | [d] => { results := [.lit (.bool true)], args := [d] }
  | _ => none }
def fnExactGoodScrubRow : OpenClaim := { program := "ytgnijlfakjjfcaa", sum := "3e43ff4a17955b7b62befc970a68077e806c8f7a10993bd6c44cb01e0607096a", func := "loop.example/g00405/laws.FnExactGoodScrub", spec := "fnExactGoodScrub", unfollowed := true, recurses := true, apart := false }
def FnExactGoodScrubSaid : Prop := fnExactGoodScrubRow.holds Try.pinned (OpenSpec.ofChange fnExactGoodScrubSpec)

/-- ITS FALSE NEIGHBOUR: 'it returns false'. Refute it at one input. -/
def fnExactGoodScrubWrong : ChangeSpec := { name := "fnExactGoodScrub", fn := fun _ => fun
  | [d] => { results := [.lit (.bool false)], args := [d] }
  | _ => none }
def FnExactGoodScrubWrongFalsely : Prop := fnExactGoodScrubRow.holds Try.pinned (OpenSpec.ofChange fnExactGoodScrubWrong)

/-- 'laws.FnExactPlayModel': WHATEVER THE INPUT: true; the input reads as it did. -/
def fnExactPlayModelSpec : ChangeSpec := { name := "fnExactPlayModel", fn := fun _ => fun
  | [d1, d2] => { results := [.lit (.bool true)], args := [d1, d2] }
  | _ => none }
def fnExactPlayModelRow : OpenClaim := { program := "ytgnijlfakjjfcaa", sum := "3e43ff4a17955b7b62befc970a68077e806c8f7a10993bd6c44cb01e0607096a", func := "loop.example/g00405/laws.FnExactPlayModel", spec := "fnExactPlayModel", apart := false }
def FnExactPlayModelSaid : Prop := fnExactPlayModelRow.holds Try.pinned (OpenSpec.ofChange fnExactPlayModelSpec)

/-- ITS FALSE NEIGHBOUR: 'it returns false'. Refute it at one input. -/
def fnExactPlayModelWrong : ChangeSpec := { name := "fnExactPlayModel", fn := fun _ => fun
  | [d1, d2] => { results := [.lit (.bool false)], args := [d1, d2] }
  | _ => none }
def FnExactPlayModelWrongFalsely : Prop := fnExactPlayModelRow.holds Try.pinned (OpenSpec.ofChange fnExactPlayModelWrong)

/-- 'laws.FnExactGoodStore': WHATEVER THE INPUT: true; the input reads as it did. -/
def fnExactGoodStoreSpec : ChangeSpec := { name := "fnExactGoodStore", fn := fun _ => fun
  | [d] => { results := [.lit (.bool true)], args := [d] }
  | _ => none }
def fnExactGoodStoreRow : OpenClaim := { program := "ytgnijlfakjjfcaa", sum := "3e43ff4a17955b7b62befc970a68077e806c8f7a10993bd6c44cb01e0607096a", func := "loop.example/g00405/laws.FnExactGoodStore", spec := "fnExactGoodStore", unfollowed := true, recurses := true, apart := false }
def FnExactGoodStoreSaid : Prop := fnExactGoodStoreRow.holds Try.pinned (OpenSpec.ofChange fnExactGoodStoreSpec)

/-- ITS FALSE NEIGHBOUR: 'it returns false'. Refute it at one input. -/
def fnExactGoodStoreWrong : ChangeSpec := { name := "fnExactGoodStore", fn := fun _ => fun
  | [d] => { results := [.lit (.bool false)], args := [d] }
  | _ => none }
def FnExactGoodStoreWrongFalsely : Prop := fnExactGoodStoreRow.holds Try.pinned (OpenSpec.ofChange fnExactGoodStoreWrong)

/-- 'laws.FnExactStatsOf': WHATEVER THE INPUT: true; the input reads as it did. -/
def fnExactStatsOfSpec : ChangeSpec := { name := "fnExactStatsOf", fn := fun _ => fun
  | [d] => { results := [.lit (.bool true)], args := [d] }
  | _ => none }
def fnExactStatsOfRow : OpenClaim := { program := "ytgnijlfakjjfcaa", sum := "3e43ff4a17955b7b62befc970a68077e806c8f7a10993bd6c44cb01e0607096a", func := "loop.example/g00405/laws.FnExactStatsOf", spec := "fnExactStatsOf", unfollowed := true, recurses := true, apart := false }
def FnExactStatsOfSaid : Prop := fnExactStatsOfRow.holds Try.pinned (OpenSpec.ofChange fnExactStatsOfSpec)

/-- ITS FALSE NEIGHBOUR: 'it returns false'. Refute it at one input. -/
def fnExactStatsOfWrong : ChangeSpec := { name := "fnExactStatsOf", fn := fun _ => fun
  | [d] => { results := [.lit (.bool false)], args := [d] }
  | _ => none }
def FnExactStatsOfWrongFalsely : Prop := fnExactStatsOfRow.holds Try.pinned (OpenSpec.ofChange fnExactStatsOfWrong)

/-- 'laws.FnExactUsesIn': WHATEVER THE INPUT: true; the input reads as it did. -/
def fnExactUsesInSpec : ChangeSpec := { name := "fnExactUsesIn", fn := fun _ => fun
  | [d] => { results := [.lit (.bool true)], args := [d] }
  | _ => none }
def fnExactUsesInRow : OpenClaim := { program := "ytgnijlfakjjfcaa", sum := "3e43ff4a17955b7b62befc970a68077e806c8f7a10993bd6c44cb01e0607096a", func := "loop.example/g00405/laws.FnExactUsesIn", spec := "fnExactUsesIn", unfollowed := true, recurses := true, apart := false }
def FnExactUsesInSaid : Prop := fnExactUsesInRow.holds Try.pinned (OpenSpec.ofChange fnExactUsesInSpec)

/-- ITS FALSE NEIGHBOUR: 'it returns false'. Refute it at one input. -/
def fnExactUsesInWrong : ChangeSpec := { name := "fnExactUsesIn", fn := fun _ => fun
  | [d] => { results := [.lit (.bool false)], args := [d] }
  | _ => none }
def FnExactUsesInWrongFalsely : Prop := fnExactUsesInRow.holds Try.pinned (OpenSpec.ofChange fnExactUsesInWrong)

/-- 'laws.FnExactRotIn': WHATEVER THE INPUT: true; the input reads as it did. -/
def fnExactRotInSpec : ChangeSpec := { name := "fnExactRotIn", fn := fun _ => fun
  | [d1, d2, d3] => { results := [.lit (.bool true)], args := [d1, d2, d3] }
  | _ => none }
def fnExactRotInRow : OpenClaim := { program := "ytgnijlfakjjfcaa", sum := "3e43ff4a17955b7b62befc970a68077e806c8f7a10993bd6c44cb01e0607096a", func := "loop.example/g00405/laws.FnExactRotIn", spec := "fnExactRotIn", unfollowed := true, recurses := true, apart := false }
def FnExactRotInSaid : Prop := fnExactRotInRow.holds Try.pinned (OpenSpec.ofChange fnExactRotInSpec)

/-- ITS FALSE NEIGHBOUR: 'it returns false'. Refute it at one input. -/
def fnExactRotInWrong : ChangeSpec := { name := "fnExactRotIn", fn := fun _ => fun
  | [d1, d2, d3] => { results := [.lit (.bool false)], args := [d1, d2, d3] }
  | _ => none }
def FnExactRotInWrongFalsely : Prop := fnExactRotInRow.holds Try.pinned (OpenSpec.ofChange fnExactRotInWrong)

/- THE SECOND FORM. 'bulk': how many values and letters a reading holds, each counted each time it is reached (what is shared counts as often as it is met; a slice's spare places count too). A statement '..UptoSaid' is the law's where the arguments, and the package variables that the reading takes, are together of bulk at most 1048576: NARROWER than '..Said'. Prove '..Said' where nothing that the law and all that it calls make is longer than what came in: it says more and counts as full. Else prove '..UptoSaid'. A law counts once. -/
mutual
def uptoBulk {H : Type} : DataW H → Nat
  | .lit (.string bytes) => bytes.length + 1
  | .lit _ => 1
  | .nil => 1
  | .ptr d => uptoBulk d + 1
  | .slice elems spare => uptoBulkAll elems + uptoBulkAll spare + 1
  | .agg parts => uptoBulkAll parts + 1
  | .iface _ d => uptoBulk d + 1
  | .map entries => uptoBulkEntries entries + 1
  | .held _ => 1
def uptoBulkAll {H : Type} : List (DataW H) → Nat
  | [] => 0
  | d :: r => uptoBulk d + uptoBulkAll r
def uptoBulkEntries {H : Type} : List (Lit × DataW H) → Nat
  | [] => 0
  | x :: r => uptoBulkEntry x + uptoBulkEntries r
def uptoBulkEntry {H : Type} : Lit × DataW H → Nat
  | (.string bytes, d) => bytes.length + uptoBulk d + 1
  | (_, d) => uptoBulk d + 1
 end
def uptoSmall : (H : Type) → List (DataW H) → Bool := fun _ ds => decide (uptoBulkAll ds ≤ 1048576)
def OpenSpec.upto (s : _root_.Go.ChangeSpec) : _root_.Go.OpenSpec := { _root_.Go.OpenSpec.ofChange s with cond := some uptoSmall }

/-- 'laws.FnExactGoodScrub', WHERE WHAT IT READS IS OF BULK AT MOST 1048576: true; the input reads as it did. -/
def fnExactGoodScrubUptoRow : OpenClaim := { program := "ytgnijlfakjjfcaa", sum := "3e43ff4a17955b7b62befc970a68077e806c8f7a10993bd6c44cb01e0607096a", func := "loop.example/g00405/laws.FnExactGoodScrub", spec := "fnExactGoodScrub", unfollowed := true, recurses := true, apart := false, narrowed := true }
def FnExactGoodScrubUptoSaid : Prop := fnExactGoodScrubUptoRow.holds Try.pinned (OpenSpec.upto fnExactGoodScrubSpec)

/-- 'laws.FnExactPlayModel', WHERE WHAT IT READS IS OF BULK AT MOST 1048576: true; the input reads as it did. -/
def fnExactPlayModelUptoRow : OpenClaim := { program := "ytgnijlfakjjfcaa", sum := "3e43ff4a17955b7b62befc970a68077e806c8f7a10993bd6c44cb01e0607096a", func := "loop.example/g00405/laws.FnExactPlayModel", spec := "fnExactPlayModel", apart := false, narrowed := true }
def FnExactPlayModelUptoSaid : Prop := fnExactPlayModelUptoRow.holds Try.pinned (OpenSpec.upto fnExactPlayModelSpec)

/-- 'laws.FnExactGoodStore', WHERE WHAT IT READS IS OF BULK AT MOST 1048576: true; the input reads as it did. -/
def fnExactGoodStoreUptoRow : OpenClaim := { program := "ytgnijlfakjjfcaa", sum := "3e43ff4a17955b7b62befc970a68077e806c8f7a10993bd6c44cb01e0607096a", func := "loop.example/g00405/laws.FnExactGoodStore", spec := "fnExactGoodStore", unfollowed := true, recurses := true, apart := false, narrowed := true }
def FnExactGoodStoreUptoSaid : Prop := fnExactGoodStoreUptoRow.holds Try.pinned (OpenSpec.upto fnExactGoodStoreSpec)

/-- 'laws.FnExactStatsOf', WHERE WHAT IT READS IS OF BULK AT MOST 1048576: true; the input reads as it did. -/
def fnExactStatsOfUptoRow : OpenClaim := { program := "ytgnijlfakjjfcaa", sum := "3e43ff4a17955b7b62befc970a68077e806c8f7a10993bd6c44cb01e0607096a", func := "loop.example/g00405/laws.FnExactStatsOf", spec := "fnExactStatsOf", unfollowed := true, recurses := true, apart := false, narrowed := true }
def FnExactStatsOfUptoSaid : Prop := fnExactStatsOfUptoRow.holds Try.pinned (OpenSpec.upto fnExactStatsOfSpec)

/-- 'laws.FnExactUsesIn', WHERE WHAT IT READS IS OF BULK AT MOST 1048576: true; the input reads as it did. -/
def fnExactUsesInUptoRow : OpenClaim := { program := "ytgnijlfakjjfcaa", sum := "3e43ff4a17955b7b62befc970a68077e806c8f7a10993bd6c44cb01e0607096a", func := "loop.example/g00405/laws.FnExactUsesIn", spec := "fnExactUsesIn", unfollowed := true, recurses := true, apart := false, narrowed := true }
def FnExactUsesInUptoSaid : Prop := fnExactUsesInUptoRow.holds Try.pinned (OpenSpec.upto fnExactUsesInSpec)

/-- 'laws.FnExactRotIn', WHERE WHAT IT READS IS OF BULK AT MOST 1048576: true; the input reads as it did. -/
def fnExactRotInUptoRow : OpenClaim := { program := "ytgnijlfakjjfcaa", sum := "3e43ff4a17955b7b62befc970a68077e806c8f7a10993bd6c44cb01e0607096a", func := "loop.example/g00405/laws.FnExactRotIn", spec := "fnExactRotIn", unfollowed := true, recurses := true, apart := false, narrowed := true }
def FnExactRotInUptoSaid : Prop := fnExactRotInUptoRow.holds Try.pinned (OpenSpec.upto fnExactRotInSpec)

end Rows
end Go.Proofs.Ytgnijlfakjjfcaa
