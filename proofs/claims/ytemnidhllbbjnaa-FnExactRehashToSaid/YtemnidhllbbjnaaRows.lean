/-
  No cell of these rows narrows 'for every input' (looked for: loops, veiled, ifaces, maps, wideKeys, modest, calm, conditions, laid).
  DERIVED. THE GIVEN ROWS OF THIS SEAT. 5 by the template 'for every input the law returns true; each argument reads behind the call as it read before'; 0 by the template 'total and deterministic' (their statements: YtemnidhllbbjnaaTotals.lean).
  GIVEN WITH THE SEED: the statements are not yours to turn. If you find one false, say at which input.
  Laid BY PROGRAM, IN A SANDBOX (cutbox-rows.mjs): the forced cells as the released guide's own fill.sh prints them over the translation 2bf72770f872e0a8… (all of the seat's roots in one cut). By AI agents, Wed Nov 11 2026. No macro, syntax, notation, axiom, sorry.
-/
import Derived.Test.YtemnidhllbbjnaaChecked
import GoSem.Claim
import GoSem.ClaimJoined
import GoSem.ClaimMapViews
import Derived.JoinedTies
import Derived.KernelRfl
namespace Go.Proofs.Ytemnidhllbbjnaa
/- THE CELL 'sum', in the pinned program and in every row, IS THE sha256 OF THE DUMP (.gsa) THAT YtemnidhllbbjnaaProg.lean LOADS. Nothing in Lean hashes anything: it is a label: what it is worth is what the hold of that sum in a sandbox is worth. -/
noncomputable def Try.pinned : Pinned := { name := "ytemnidhllbbjnaa", sum := "2bf72770f872e0a8073dc6908bffa296477a31fac176fe25c2e4e7a724be5916", checked := Try.checked }
namespace Rows
def none {H : Type} : Left H := { results := [], args := [] }

/-- 'laws.FnExactPlayTable': WHATEVER THE INPUT: true; the input reads as it did. -/
def fnExactPlayTableSpec : ChangeSpec := { name := "fnExactPlayTable", fn := fun _ => fun
  | [d1, d2] => { results := [.lit (.bool true)], args := [d1, d2] }
  | _ => none }
def fnExactPlayTableRow : OpenClaim := { program := "ytemnidhllbbjnaa", sum := "2bf72770f872e0a8073dc6908bffa296477a31fac176fe25c2e4e7a724be5916", func := "loop.example/g00405/laws.FnExactPlayTable", spec := "fnExactPlayTable", unfollowed := true, recurses := true, apart := false }
def FnExactPlayTableSaid : Prop := fnExactPlayTableRow.holds Try.pinned (OpenSpec.ofChange fnExactPlayTableSpec)

/-- ITS FALSE NEIGHBOUR: 'it returns false'. Refute it at one input. -/
def fnExactPlayTableWrong : ChangeSpec := { name := "fnExactPlayTable", fn := fun _ => fun
  | [d1, d2] => { results := [.lit (.bool false)], args := [d1, d2] }
  | _ => none }
def FnExactPlayTableWrongFalsely : Prop := fnExactPlayTableRow.holds Try.pinned (OpenSpec.ofChange fnExactPlayTableWrong)

/-- 'laws.FnExactPutKey': WHATEVER THE INPUT: true; the input reads as it did. -/
def fnExactPutKeySpec : ChangeSpec := { name := "fnExactPutKey", fn := fun _ => fun
  | [d1, d2, d3] => { results := [.lit (.bool true)], args := [d1, d2, d3] }
  | _ => none }
def fnExactPutKeyRow : OpenClaim := { program := "ytemnidhllbbjnaa", sum := "2bf72770f872e0a8073dc6908bffa296477a31fac176fe25c2e4e7a724be5916", func := "loop.example/g00405/laws.FnExactPutKey", spec := "fnExactPutKey", recurses := true, apart := false }
def FnExactPutKeySaid : Prop := fnExactPutKeyRow.holds Try.pinned (OpenSpec.ofChange fnExactPutKeySpec)

/-- ITS FALSE NEIGHBOUR: 'it returns false'. Refute it at one input. -/
def fnExactPutKeyWrong : ChangeSpec := { name := "fnExactPutKey", fn := fun _ => fun
  | [d1, d2, d3] => { results := [.lit (.bool false)], args := [d1, d2, d3] }
  | _ => none }
def FnExactPutKeyWrongFalsely : Prop := fnExactPutKeyRow.holds Try.pinned (OpenSpec.ofChange fnExactPutKeyWrong)

/-- 'laws.FnExactRehashTo': WHATEVER THE INPUT: true; the input reads as it did. -/
def fnExactRehashToSpec : ChangeSpec := { name := "fnExactRehashTo", fn := fun _ => fun
  | [d1, d2] => { results := [.lit (.bool true)], args := [d1, d2] }
  | _ => none }
def fnExactRehashToRow : OpenClaim := { program := "ytemnidhllbbjnaa", sum := "2bf72770f872e0a8073dc6908bffa296477a31fac176fe25c2e4e7a724be5916", func := "loop.example/g00405/laws.FnExactRehashTo", spec := "fnExactRehashTo", recurses := true, apart := false }
def FnExactRehashToSaid : Prop := fnExactRehashToRow.holds Try.pinned (OpenSpec.ofChange fnExactRehashToSpec)

/-- ITS FALSE NEIGHBOUR: 'it returns false'. Refute it at one input. -/
def fnExactRehashToWrong : ChangeSpec := { name := "fnExactRehashTo", fn := fun _ => fun
  | [d1, d2] => { results := [.lit (.bool false)], args := [d1, d2] }
  | _ => none }
def FnExactRehashToWrongFalsely : Prop := fnExactRehashToRow.holds Try.pinned (OpenSpec.ofChange fnExactRehashToWrong)

/-- 'laws.FnCuckoo': WHATEVER THE INPUT: true; the input reads as it did. -/
def fnCuckooSpec : ChangeSpec := { name := "fnCuckoo", fn := fun _ => fun
  | [d1, d2] => { results := [.lit (.bool true)], args := [d1, d2] }
  | _ => none }
def fnCuckooRow : OpenClaim := { program := "ytemnidhllbbjnaa", sum := "2bf72770f872e0a8073dc6908bffa296477a31fac176fe25c2e4e7a724be5916", func := "loop.example/g00405/laws.FnCuckoo", spec := "fnCuckoo", recurses := true, apart := false }
def FnCuckooSaid : Prop := fnCuckooRow.holds Try.pinned (OpenSpec.ofChange fnCuckooSpec)

/-- ITS FALSE NEIGHBOUR: 'it returns false'. Refute it at one input. -/
def fnCuckooWrong : ChangeSpec := { name := "fnCuckoo", fn := fun _ => fun
  | [d1, d2] => { results := [.lit (.bool false)], args := [d1, d2] }
  | _ => none }
def FnCuckooWrongFalsely : Prop := fnCuckooRow.holds Try.pinned (OpenSpec.ofChange fnCuckooWrong)

/-- 'laws.FnTables': WHATEVER THE INPUT: true; the input reads as it did. -/
def fnTablesSpec : ChangeSpec := { name := "fnTables", fn := fun _ => fun
  | [d1, d2] => { results := [.lit (.bool true)], args := [d1, d2] }
  | _ => none }
def fnTablesRow : OpenClaim := { program := "ytemnidhllbbjnaa", sum := "2bf72770f872e0a8073dc6908bffa296477a31fac176fe25c2e4e7a724be5916", func := "loop.example/g00405/laws.FnTables", spec := "fnTables", unfollowed := true, recurses := true, apart := false }
def FnTablesSaid : Prop := fnTablesRow.holds Try.pinned (OpenSpec.ofChange fnTablesSpec)

/-- ITS FALSE NEIGHBOUR: 'it returns false'. Refute it at one input. -/
def fnTablesWrong : ChangeSpec := { name := "fnTables", fn := fun _ => fun
  | [d1, d2] => { results := [.lit (.bool false)], args := [d1, d2] }
  | _ => none }
def FnTablesWrongFalsely : Prop := fnTablesRow.holds Try.pinned (OpenSpec.ofChange fnTablesWrong)

/- THE SECOND FORM. 'bulk': how many values and letters a reading holds, each counted each time it is reached (what is shared counts as often as it is met; a slice's spare places count too). A statement '..UptoSaid' is the law's where the arguments, and the package variables that the reading takes, are together of bulk at most 1048576: NARROWER than '..Said'. Prove '..Said' where nothing that the law and all that it calls make is longer than what came in: it says more and counts as full. Else prove '..UptoSaid'. A law counts once. -/
mutual
def uptoBulk {H : Type} : DataW H → Nat
  | .lit (.string bytes) => bytes.length + 1
  | .lit _ => 1
  | .nil => 1
  | .ptr d => uptoBulk d + 1
  | .slice elems spare => uptoBulkAll elems + uptoBulkAll spare + 1
  | .agg parts => uptoBulkAll parts + 1
  | .iface _ d => uptoBulk d + 1
  | .map entries => uptoBulkEntries entries + 1
  | .held _ => 1
def uptoBulkAll {H : Type} : List (DataW H) → Nat
  | [] => 0
  | d :: r => uptoBulk d + uptoBulkAll r
def uptoBulkEntries {H : Type} : List (Lit × DataW H) → Nat
  | [] => 0
  | x :: r => uptoBulkEntry x + uptoBulkEntries r
def uptoBulkEntry {H : Type} : Lit × DataW H → Nat
  | (.string bytes, d) => bytes.length + uptoBulk d + 1
  | (_, d) => uptoBulk d + 1
 end
def uptoSmall : (H : Type) → List (DataW H) → Bool := fun _ ds => decide (uptoBulkAll ds ≤ 1048576)
def OpenSpec.upto (s : _root_.Go.ChangeSpec) : _root_.Go.OpenSpec := { _root_.Go.OpenSpec.ofChange s with cond := some uptoSmall }

/-- 'laws.FnExactPlayTable', WHERE WHAT IT READS IS OF BULK AT MOST 1048576: true; the input reads as it did. -/
def fnExactPlayTableUptoRow : OpenClaim := { program := "ytemnidhllbbjnaa", sum := "2bf72770f872e0a8073dc6908bffa296477a31fac176fe25c2e4e7a724be5916", func := "loop.example/g00405/laws.FnExactPlayTable", spec := "fnExactPlayTable", unfollowed := true, recurses := true, apart := false, narrowed := true }
def FnExactPlayTableUptoSaid : Prop := fnExactPlayTableUptoRow.holds Try.pinned (OpenSpec.upto fnExactPlayTableSpec)

/-- 'laws.FnExactPutKey', WHERE WHAT IT READS IS OF BULK AT MOST 1048576: true; the input reads as it did. -/
def fnExactPutKeyUptoRow : OpenClaim := { program := "ytemnidhllbbjnaa", sum := "2bf72770f872e0a8073dc6908bffa296477a31fac176fe25c2e4e7a724be5916", func := "loop.example/g00405/laws.FnExactPutKey", spec := "fnExactPutKey", recurses := true, apart := false, narrowed := true }
def FnExactPutKeyUptoSaid : Prop := fnExactPutKeyUptoRow.holds Try.pinned (OpenSpec.upto fnExactPutKeySpec)

/-- 'laws.FnExactRehashTo', WHERE WHAT IT READS IS OF BULK AT MOST 1048576: true; the input reads as it did. -/
def fnExactRehashToUptoRow : OpenClaim := { program := "ytemnidhllbbjnaa", sum := "2bf72770f872e0a8073dc6908bffa296477a31fac176fe25c2e4e7a724be5916", func := "loop.example/g00405/laws.FnExactRehashTo", spec := "fnExactRehashTo", recurses := true, apart := false, narrowed := true }
def FnExactRehashToUptoSaid : Prop := fnExactRehashToUptoRow.holds Try.pinned (OpenSpec.upto fnExactRehashToSpec)

/-- 'laws.FnCuckoo', WHERE WHAT IT READS IS OF BULK AT MOST 1048576: true; the input reads as it did. -/
def fnCuckooUptoRow : OpenClaim := { program := "ytemnidhllbbjnaa", sum := "2bf72770f872e0a8073dc6908bffa296477a31fac176fe25c2e4e7a724be5916", func := "loop.example/g00405/laws.FnCuckoo", spec := "fnCuckoo", recurses := true, apart := false, narrowed := true }
def FnCuckooUptoSaid : Prop := fnCuckooUptoRow.holds Try.pinned (OpenSpec.upto fnCuckooSpec)

/-- 'laws.FnTables', WHERE WHAT IT READS IS OF BULK AT MOST 1048576: true; the input reads as it did. -/
def fnTablesUptoRow : OpenClaim := { program := "ytemnidhllbbjnaa", sum := "2bf72770f872e0a8073dc6908bffa296477a31fac176fe25c2e4e7a724be5916", func := "loop.example/g00405/laws.FnTables", spec := "fnTables", unfollowed := true, recurses := true, apart := false, narrowed := true }
def FnTablesUptoSaid : Prop := fnTablesUptoRow.holds Try.pinned (OpenSpec.upto fnTablesSpec)

end Rows
end Go.Proofs.Ytemnidhllbbjnaa
