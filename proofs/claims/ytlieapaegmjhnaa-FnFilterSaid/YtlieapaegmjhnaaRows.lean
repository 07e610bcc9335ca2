/-
  No cell of these rows narrows 'for every input' (looked for: loops, veiled, ifaces, maps, wideKeys, modest, calm, conditions, laid).
  DERIVED. THE GIVEN ROWS OF THIS SEAT. 6 by the template 'for every input the law returns true; each argument reads behind the call as it read before'; 0 by the template 'total and deterministic' (their statements: YtlieapaegmjhnaaTotals.lean).
  GIVEN WITH THE SEED: the statements are not yours to turn. If you find one false, say at which input.
  Laid BY PROGRAM, IN A SANDBOX (cutbox-rows.mjs): the forced cells as the released guide's own fill.sh prints them over the translation da5d85cf2da024cd… (all of the seat's roots in one cut). By AI agents, Wed Nov 11 2026. No macro, syntax, notation, axiom, sorry.
-/
import Derived.Test.YtlieapaegmjhnaaChecked
import GoSem.Claim
import GoSem.ClaimJoined
import GoSem.ClaimMapViews
import Derived.JoinedTies
import Derived.KernelRfl
namespace Go.Proofs.Ytlieapaegmjhnaa
/- THE CELL 'sum', in the pinned program and in every row, IS THE sha256 OF THE DUMP (.gsa) THAT YtlieapaegmjhnaaProg.lean LOADS. Nothing in Lean hashes anything: it is a label: what it is worth is what the hold of that sum in a sandbox is worth. -/
noncomputable def Try.pinned : Pinned := { name := "ytlieapaegmjhnaa", sum := "da5d85cf2da024cd2c048390e3b8a0e939812c0ae0234c2b250c3be7087438cf", checked := Try.checked }
namespace Rows
def none {H : Type} : Left H := { results := [], args := [] }

/-- 'laws.FnExactBitsFor': WHATEVER THE INPUT: true; the input reads as it did. -/
def fnExactBitsForSpec : ChangeSpec := { name := "fnExactBitsFor", fn := fun _ => fun
  | [d] => { results := [.lit (.bool true)], args := [d] }
  | _ => none }
def fnExactBitsForRow : OpenClaim := { program := "ytlieapaegmjhnaa", sum := "da5d85cf2da024cd2c048390e3b8a0e939812c0ae0234c2b250c3be7087438cf", func := "loop.example/g00405/laws.FnExactBitsFor", spec := "fnExactBitsFor", recurses := true, apart := false }
def FnExactBitsForSaid : Prop := fnExactBitsForRow.holds Try.pinned (OpenSpec.ofChange fnExactBitsForSpec)

/-- ITS FALSE NEIGHBOUR: 'it returns false'. Refute it at one input. -/
def fnExactBitsForWrong : ChangeSpec := { name := "fnExactBitsFor", fn := fun _ => fun
  | [d] => { results := [.lit (.bool false)], args := [d] }
  | _ => none }
def FnExactBitsForWrongFalsely : Prop := fnExactBitsForRow.holds Try.pinned (OpenSpec.ofChange fnExactBitsForWrong)

/-- 'laws.FnExactMayHave': WHATEVER THE INPUT: true; the input reads as it did. -/
def fnExactMayHaveSpec : ChangeSpec := { name := "fnExactMayHave", fn := fun _ => fun
  | [d1, d2] => { results := [.lit (.bool true)], args := [d1, d2] }
  | _ => none }
def fnExactMayHaveRow : OpenClaim := { program := "ytlieapaegmjhnaa", sum := "da5d85cf2da024cd2c048390e3b8a0e939812c0ae0234c2b250c3be7087438cf", func := "loop.example/g00405/laws.FnExactMayHave", spec := "fnExactMayHave", unfollowed := true, recurses := true, apart := false }
def FnExactMayHaveSaid : Prop := fnExactMayHaveRow.holds Try.pinned (OpenSpec.ofChange fnExactMayHaveSpec)

/-- ITS FALSE NEIGHBOUR: 'it returns false'. Refute it at one input. -/
def fnExactMayHaveWrong : ChangeSpec := { name := "fnExactMayHave", fn := fun _ => fun
  | [d1, d2] => { results := [.lit (.bool false)], args := [d1, d2] }
  | _ => none }
def FnExactMayHaveWrongFalsely : Prop := fnExactMayHaveRow.holds Try.pinned (OpenSpec.ofChange fnExactMayHaveWrong)

/-- 'laws.FnExactPutFilter': WHATEVER THE INPUT: true; the input reads as it did. -/
def fnExactPutFilterSpec : ChangeSpec := { name := "fnExactPutFilter", fn := fun _ => fun
  | [d1, d2] => { results := [.lit (.bool true)], args := [d1, d2] }
  | _ => none }
def fnExactPutFilterRow : OpenClaim := { program := "ytlieapaegmjhnaa", sum := "da5d85cf2da024cd2c048390e3b8a0e939812c0ae0234c2b250c3be7087438cf", func := "loop.example/g00405/laws.FnExactPutFilter", spec := "fnExactPutFilter", recurses := true, apart := false }
def FnExactPutFilterSaid : Prop := fnExactPutFilterRow.holds Try.pinned (OpenSpec.ofChange fnExactPutFilterSpec)

/-- ITS FALSE NEIGHBOUR: 'it returns false'. Refute it at one input. -/
def fnExactPutFilterWrong : ChangeSpec := { name := "fnExactPutFilter", fn := fun _ => fun
  | [d1, d2] => { results := [.lit (.bool false)], args := [d1, d2] }
  | _ => none }
def FnExactPutFilterWrongFalsely : Prop := fnExactPutFilterRow.holds Try.pinned (OpenSpec.ofChange fnExactPutFilterWrong)

/-- 'laws.FnExactFilterOf': WHATEVER THE INPUT: true; the input reads as it did. -/
def fnExactFilterOfSpec : ChangeSpec := { name := "fnExactFilterOf", fn := fun _ => fun
  | [d] => { results := [.lit (.bool true)], args := [d] }
  | _ => none }
def fnExactFilterOfRow : OpenClaim := { program := "ytlieapaegmjhnaa", sum := "da5d85cf2da024cd2c048390e3b8a0e939812c0ae0234c2b250c3be7087438cf", func := "loop.example/g00405/laws.FnExactFilterOf", spec := "fnExactFilterOf", recurses := true, apart := false }
def FnExactFilterOfSaid : Prop := fnExactFilterOfRow.holds Try.pinned (OpenSpec.ofChange fnExactFilterOfSpec)

/-- ITS FALSE NEIGHBOUR: 'it returns false'. Refute it at one input. -/
def fnExactFilterOfWrong : ChangeSpec := { name := "fnExactFilterOf", fn := fun _ => fun
  | [d] => { results := [.lit (.bool false)], args := [d] }
  | _ => none }
def FnExactFilterOfWrongFalsely : Prop := fnExactFilterOfRow.holds Try.pinned (OpenSpec.ofChange fnExactFilterOfWrong)

/-- 'laws.FnFilter': WHATEVER THE INPUT: true; the input reads as it did. -/
def fnFilterSpec : ChangeSpec := { name := "fnFilter", fn := fun _ => fun
  | [d1, d2] => { results := [.lit (.bool true)], args := [d1, d2] }
  | _ => none }
def fnFilterRow : OpenClaim := { program := "ytlieapaegmjhnaa", sum := "da5d85cf2da024cd2c048390e3b8a0e939812c0ae0234c2b250c3be7087438cf", func := "loop.example/g00405/laws.FnFilter", spec := "fnFilter", unfollowed := true, recurses := true, apart := false }
def FnFilterSaid : Prop := fnFilterRow.holds Try.pinned (OpenSpec.ofChange fnFilterSpec)

/-- ITS FALSE NEIGHBOUR: 'it returns false'. Refute it at one input. -/
def fnFilterWrong : ChangeSpec := { name := "fnFilter", fn := fun _ => fun
  | [d1, d2] => { results := [.lit (.bool false)], args := [d1, d2] }
  | _ => none }
def FnFilterWrongFalsely : Prop := fnFilterRow.holds Try.pinned (OpenSpec.ofChange fnFilterWrong)

/-- 'laws.FnFilters': WHATEVER THE INPUT: true; the input reads as it did. -/
def fnFiltersSpec : ChangeSpec := { name := "fnFilters", fn := fun _ => fun
  | [d1, d2] => { results := [.lit (.bool true)], args := [d1, d2] }
  | _ => none }
def fnFiltersRow : OpenClaim := { program := "ytlieapaegmjhnaa", sum := "da5d85cf2da024cd2c048390e3b8a0e939812c0ae0234c2b250c3be7087438cf", func := "loop.example/g00405/laws.FnFilters", spec := "fnFilters", unfollowed := true, recurses := true, apart := false }
def FnFiltersSaid : Prop := fnFiltersRow.holds Try.pinned (OpenSpec.ofChange fnFiltersSpec)

/-- ITS FALSE NEIGHBOUR: 'it returns false'. Refute it at one input. -/
def fnFiltersWrong : ChangeSpec := { name := "fnFilters", fn := fun _ => fun
  | [d1, d2] => { results := [.lit (.bool false)], args := [d1, d2] }
  | _ => none }
def FnFiltersWrongFalsely : Prop := fnFiltersRow.holds Try.pinned (OpenSpec.ofChange fnFiltersWrong)

/- THE SECOND FORM. 'bulk': how many values and letters a reading holds, each counted each time it is reached (what is shared counts as often as it is met; a slice's spare places count too). A statement '..UptoSaid' is the law's where the arguments, and the package variables that the reading takes, are together of bulk at most 1048576: NARROWER than '..Said'. Prove '..Said' where nothing that the law and all that it calls make is longer than what came in: it says more and counts as full. Else prove '..UptoSaid'. A law counts once. -/
mutual
def uptoBulk {H : Type} : DataW H → Nat
  | .lit (.string bytes) => bytes.length + 1
  | .lit _ => 1
  | .nil => 1
  | .ptr d => uptoBulk d + 1
  | .slice elems spare => uptoBulkAll elems + uptoBulkAll spare + 1
  | .agg parts => uptoBulkAll parts + 1
  | .iface _ d => uptoBulk d + 1
  | .map entries => uptoBulkEntries entries + 1
  | .held _ => 1
def uptoBulkAll {H : Type} : List (DataW H) → Nat
  | [] => 0
  | d :: r => uptoBulk d + uptoBulkAll r
def uptoBulkEntries {H : Type} : List (Lit × DataW H) → Nat
  | [] => 0
  | x :: r => uptoBulkEntry x + uptoBulkEntries r
def uptoBulkEntry {H : Type} : Lit × DataW H → Nat
  | (.string bytes, d) => bytes.length + uptoBulk d + 1
  | (_, d) => uptoBulk d + 1
 end
def uptoSmall : (H : Type) → List (DataW H) → Bool := fun _ ds => decide (uptoBulkAll ds ≤ 1048576)
def OpenSpec.upto (s : _root_.Go.ChangeSpec) : _root_.Go.OpenSpec := { _root_.Go.OpenSpec.ofChange s with cond := some uptoSmall }

/-- 'laws.FnExactBitsFor', WHERE WHAT IT READS IS OF BULK AT MOST 1048576: true; the input reads as it did. -/
def fnExactBitsForUptoRow : OpenClaim := { program := "ytlieapaegmjhnaa", sum := "da5d85cf2da024cd2c048390e3b8a0e939812c0ae0234c2b250c3be7087438cf", func := "loop.example/g00405/laws.FnExactBitsFor", spec := "fnExactBitsFor", recurses := true, apart := false, narrowed := true }
def FnExactBitsForUptoSaid : Prop := fnExactBitsForUptoRow.holds Try.pinned (OpenSpec.upto fnExactBitsForSpec)

/-- 'laws.FnExactMayHave', WHERE WHAT IT READS IS OF BULK AT MOST 1048576: true; the input reads as it did. -/
def fnExactMayHaveUptoRow : OpenClaim := { program := "ytlieapaegmjhnaa", sum := "da5d85cf2da024cd2c048390e3b8a0e939812c0ae0234c2b250c3be7087438cf", func := "loop.example/g00405/laws.FnExactMayHave", spec := "fnExactMayHave", unfollowed := true, recurses := true, apart := false, narrowed := true }
def FnExactMayHaveUptoSaid : Prop := fnExactMayHaveUptoRow.holds Try.pinned (OpenSpec.upto fnExactMayHaveSpec)

/-- 'laws.FnExactPutFilter', WHERE WHAT IT READS IS OF BULK AT MOST 1048576: true; the input reads as it did. -/
def fnExactPutFilterUptoRow : OpenClaim := { program := "ytlieapaegmjhnaa", sum := "da5d85cf2da024cd2c048390e3b8a0e939812c0ae0234c2b250c3be7087438cf", func := "loop.example/g00405/laws.FnExactPutFilter", spec := "fnExactPutFilter", recurses := true, apart := false, narrowed := true }
def FnExactPutFilterUptoSaid : Prop := fnExactPutFilterUptoRow.holds Try.pinned (OpenSpec.upto fnExactPutFilterSpec)

/-- 'laws.FnExactFilterOf', WHERE WHAT IT READS IS OF BULK AT MOST 1048576: true; the input reads as it did. -/
def fnExactFilterOfUptoRow : OpenClaim := { program := "ytlieapaegmjhnaa", sum := "da5d85cf2da024cd2c048390e3b8a0e939812c0ae0234c2b250c3be7087438cf", func := "loop.example/g00405/laws.FnExactFilterOf", spec := "fnExactFilterOf", recurses := true, apart := false, narrowed := true }
def FnExactFilterOfUptoSaid : Prop := fnExactFilterOfUptoRow.holds Try.pinned (OpenSpec.upto fnExactFilterOfSpec)

/-- 'laws.FnFilter', WHERE WHAT IT READS IS OF BULK AT MOST 1048576: true; the input reads as it did. -/
def fnFilterUptoRow : OpenClaim := { program := "ytlieapaegmjhnaa", sum := "da5d85cf2da024cd2c048390e3b8a0e939812c0ae0234c2b250c3be7087438cf", func := "loop.example/g00405/laws.FnFilter", spec := "fnFilter", unfollowed := true, recurses := true, apart := false, narrowed := true }
def FnFilterUptoSaid : Prop := fnFilterUptoRow.holds Try.pinned (OpenSpec.upto fnFilterSpec)

/-- 'laws.FnFilters', WHERE WHAT IT READS IS OF BULK AT MOST 1048576: true; the input reads as it did. -/
def fnFiltersUptoRow : OpenClaim := { program := "ytlieapaegmjhnaa", sum := "da5d85cf2da024cd2c048390e3b8a0e939812c0ae0234c2b250c3be7087438cf", func := "loop.example/g00405/laws.FnFilters", spec := "fnFilters", unfollowed := true, recurses := true, apart := false, narrowed := true }
def FnFiltersUptoSaid : Prop := fnFiltersUptoRow.holds Try.pinned (OpenSpec.upto fnFiltersSpec)

end Rows
end Go.Proofs.Ytlieapaegmjhnaa
