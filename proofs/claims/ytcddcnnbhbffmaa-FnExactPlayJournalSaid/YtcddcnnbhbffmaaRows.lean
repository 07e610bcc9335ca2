/-
  No cell of these rows narrows 'for every input' (looked for: loops, veiled, ifaces, maps, wideKeys, modest, calm, conditions, laid).
  DERIVED. THE GIVEN ROWS OF THIS SEAT. 7 by the template 'for every input the law returns true; each argument reads behind the call as it read before'; 0 by the template 'total and deterministic' (their statements: YtcddcnnbhbffmaaTotals.lean).
  GIVEN WITH THE SEED: the statements are not yours to turn. If you find one false, say at which input.
  Laid BY PROGRAM, IN A SANDBOX (cutbox-rows.mjs): the forced cells as the released guide's own fill.sh prints them over the translation 02dd2231cc1132d1… (all of the seat's roots in one cut). By AI agents, Wed Nov 11 2026. No macro, syntax, notation, axiom, sorry.
-/
import Derived.Test.YtcddcnnbhbffmaaChecked
import GoSem.Claim
import GoSem.ClaimJoined
import GoSem.ClaimMapViews
import Derived.JoinedTies
import Derived.KernelRfl
namespace Go.Proofs.Ytcddcnnbhbffmaa
/- THE CELL 'sum', in the pinned program and in every row, IS THE sha256 OF THE DUMP (.gsa) THAT YtcddcnnbhbffmaaProg.lean LOADS. Nothing in Lean hashes anything: it is a label: what it is worth is what the hold of that sum in a sandbox is worth. -/
noncomputable def Try.pinned : Pinned := { name := "ytcddcnnbhbffmaa", sum := "02dd2231cc1132d1276bea1fb9846f2916df586e6639d134fb4a0bcc42683bd5", checked := Try.checked }
namespace Rows
def none {H : Type} : Left H := { results := [], args := [] }

/-- 'laws.FnExactStateBytes': WHATEVER THE INPUT: true; the input reads as it did. -/
def fnExactStateBytesSpec : ChangeSpec := { name := "fnExactStateBytes", fn := fun _ => fun
  | [d] => { results := [.lit (.bool true)], args := [d] }
  | _ => none }
def fnExactStateBytesRow : OpenClaim := { program := "ytcddcnnbhbffmaa", sum := "02dd2231cc1132d1276bea1fb9846f2916df586e6639d134fb4a0bcc42683bd5", func := "loop.example/g00405/laws.FnExactStateBytes", spec := "fnExactStateBytes", unfollowed := true, recurses := true, apart := false }
def FnExactStateBytesSaid : Prop := fnExactStateBytesRow.holds Try.pinned (OpenSpec.ofChange fnExactStateBytesSpec)

/-- ITS FALSE NEIGHBOUR: 'it returns false'. Refute it at one input. -/
def fnExactStateBytesWrong : ChangeSpec := { name := "fnExactStateBytes", fn := fun _ => fun
  | [d] => { results := [.lit (.bool false)], args := [d] }
  | _ => none }
def FnExactStateBytesWrongFalsely : Prop := fnExactStateBytesRow.holds Try.pinned (OpenSpec.ofChange fnExactStateBytesWrong)

/-- 'laws.FnExactStateFrom': WHATEVER THE INPUT: true; the input reads as it did. -/
def fnExactStateFromSpec : ChangeSpec := { name := "fnExactStateFrom", fn := fun _ => fun
  | [d] => { results := [.lit (.bool true)], args := [d] }
  | _ => none }
def fnExactStateFromRow : OpenClaim := { program := "ytcddcnnbhbffmaa", sum := "02dd2231cc1132d1276bea1fb9846f2916df586e6639d134fb4a0bcc42683bd5", func := "loop.example/g00405/laws.FnExactStateFrom", spec := "fnExactStateFrom", unfollowed := true, recurses := true, apart := false }
def FnExactStateFromSaid : Prop := fnExactStateFromRow.holds Try.pinned (OpenSpec.ofChange fnExactStateFromSpec)

/-- ITS FALSE NEIGHBOUR: 'it returns false'. Refute it at one input. -/
def fnExactStateFromWrong : ChangeSpec := { name := "fnExactStateFrom", fn := fun _ => fun
  | [d] => { results := [.lit (.bool false)], args := [d] }
  | _ => none }
def FnExactStateFromWrongFalsely : Prop := fnExactStateFromRow.holds Try.pinned (OpenSpec.ofChange fnExactStateFromWrong)

/-- 'laws.FnExactNewJournal': WHATEVER THE INPUT: true; the input reads as it did. -/
def fnExactNewJournalSpec : ChangeSpec := { name := "fnExactNewJournal", fn := fun _ => fun
  | [] => { results := [.lit (.bool true)], args := [] }
  | _ => none }
def fnExactNewJournalRow : OpenClaim := { program := "ytcddcnnbhbffmaa", sum := "02dd2231cc1132d1276bea1fb9846f2916df586e6639d134fb4a0bcc42683bd5", func := "loop.example/g00405/laws.FnExactNewJournal", spec := "fnExactNewJournal", apart := false }
def FnExactNewJournalSaid : Prop := fnExactNewJournalRow.holds Try.pinned (OpenSpec.ofChange fnExactNewJournalSpec)

/-- ITS FALSE NEIGHBOUR: 'it returns false'. Refute it at one input. -/
def fnExactNewJournalWrong : ChangeSpec := { name := "fnExactNewJournal", fn := fun _ => fun
  | [] => { results := [.lit (.bool false)], args := [] }
  | _ => none }
def FnExactNewJournalWrongFalsely : Prop := fnExactNewJournalRow.holds Try.pinned (OpenSpec.ofChange fnExactNewJournalWrong)

/-- 'laws.FnExactRecoverFrom': WHATEVER THE INPUT: true; the input reads as it did. -/
def fnExactRecoverFromSpec : ChangeSpec := { name := "fnExactRecoverFrom", fn := fun _ => fun
  | [d] => { results := [.lit (.bool true)], args := [d] }
  | _ => none }
def fnExactRecoverFromRow : OpenClaim := { program := "ytcddcnnbhbffmaa", sum := "02dd2231cc1132d1276bea1fb9846f2916df586e6639d134fb4a0bcc42683bd5", func := "loop.example/g00405/laws.FnExactRecoverFrom", spec := "fnExactRecoverFrom", unfollowed := true, recurses := true, apart := false }
def FnExactRecoverFromSaid : Prop := fnExactRecoverFromRow.holds Try.pinned (OpenSpec.ofChange fnExactRecoverFromSpec)

/-- ITS FALSE NEIGHBOUR: 'it returns false'. Refute it at one input. -/
def fnExactRecoverFromWrong : ChangeSpec := { name := "fnExactRecoverFrom", fn := fun _ => fun
  | [d] => { results := [.lit (.bool false)], args := [d] }
  | _ => none }
def FnExactRecoverFromWrongFalsely : Prop := fnExactRecoverFromRow.holds Try.pinned (OpenSpec.ofChange fnExactRecoverFromWrong)

/-- 'laws.FnExactGoodJournal': WHATEVER THE INPUT: true; the input reads as it did. -/
def fnExactGoodJournalSpec : ChangeSpec := { name := "fnExactGoodJournal", fn := fun _ => fun
  | [d] => { results := [.lit (.bool true)], args := [d] }
  | _ => none }
def fnExactGoodJournalRow : OpenClaim := { program := "ytcddcnnbhbffmaa", sum := "02dd2231cc1132d1276bea1fb9846f2916df586e6639d134fb4a0bcc42683bd5", func := "loop.example/g00405/laws.FnExactGoodJournal", spec := "fnExactGoodJournal", unfollowed := true, recurses := true, apart := false }
def FnExactGoodJournalSaid : Prop := fnExactGoodJournalRow.holds Try.pinned (OpenSpec.ofChange fnExactGoodJournalSpec)

/-- ITS FALSE NEIGHBOUR: 'it returns false'. Refute it at one input. -/
def fnExactGoodJournalWrong : ChangeSpec := { name := "fnExactGoodJournal", fn := fun _ => fun
  | [d] => { results := [.lit (.bool false)], args := [d] }
  | _ => none }
def FnExactGoodJournalWrongFalsely : Prop := fnExactGoodJournalRow.holds Try.pinned (OpenSpec.ofChange fnExactGoodJournalWrong)

/-- 'laws.FnJournal': WHATEVER THE INPUT: true; the input reads as it did. -/
def fnJournalSpec : ChangeSpec := { name := "fnJournal", fn := fun _ => fun
  | [d1, d2] => { results := [.lit (.bool true)], args := [d1, d2] }
  | _ => none }
def fnJournalRow : OpenClaim := { program := "ytcddcnnbhbffmaa", sum := "02dd2231cc1132d1276bea1fb9846f2916df586e6639d134fb4a0bcc42683bd5", func := "loop.example/g00405/laws.FnJournal", spec := "fnJournal", unfollowed := true, recurses := true, apart := false }
def FnJournalSaid : Prop := fnJournalRow.holds Try.pinned (OpenSpec.ofChange fnJournalSpec)

/-- ITS FALSE NEIGHBOUR: 'it returns false'. Refute it at one input. -/
def fnJournalWrong : ChangeSpec := { name := "fnJournal", fn := fun _ => fun
  | [d1, d2] => { results := [.lit (.bool false)], args := [d1, d2] }
  | _ => none }
def FnJournalWrongFalsely : Prop := fnJournalRow.holds Try.pinned (OpenSpec.ofChange fnJournalWrong)

/-- 'laws.FnExactPlayJournal': WHATEVER THE INPUT: true; the input reads as it did. -/
def fnExactPlayJournalSpec : ChangeSpec := { name := "fnExactPlayJournal", fn := fun _ => fun
  | [d] => { results := [.lit (.bool true)], args := [d] }
  | _ => none }
def fnExactPlayJournalRow : OpenClaim := { program := "ytcddcnnbhbffmaa", sum := "02dd2231cc1132d1276bea1fb9846f2916df586e6639d134fb4a0bcc42683bd5", func := "loop.example/g00405/laws.FnExactPlayJournal", spec := "fnExactPlayJournal", unfollowed := true, recurses := true, apart := false }
def FnExactPlayJournalSaid : Prop := fnExactPlayJournalRow.holds Try.pinned (OpenSpec.ofChange fnExactPlayJournalSpec)

/-- ITS FALSE NEIGHBOUR: 'it returns false'. Refute it at one input. -/
def fnExactPlayJournalWrong : ChangeSpec := { name := "fnExactPlayJournal", fn := fun _ => fun
  | [d] => { results := [.lit (.bool false)], args := [d] }
  | _ => none }
def FnExactPlayJournalWrongFalsely : Prop := fnExactPlayJournalRow.holds Try.pinned (OpenSpec.ofChange fnExactPlayJournalWrong)

/- THE SECOND FORM. 'bulk': how many values and letters a reading holds, each counted each time it is reached (what is shared counts as often as it is met; a slice's spare places count too). A statement '..UptoSaid' is the law's where the arguments, and the package variables that the reading takes, are together of bulk at most 1048576: NARROWER than '..Said'. Prove '..Said' where nothing that the law and all that it calls make is longer than what came in: it says more and counts as full. Else prove '..UptoSaid'. A law counts once. -/
mutual
def uptoBulk {H : Type} : DataW H → Nat
  | .lit (.string bytes) => bytes.length + 1
  | .lit _ => 1
  | .nil => 1
  | .ptr d => uptoBulk d + 1
  | .slice elems spare => uptoBulkAll elems + uptoBulkAll spare + 1
  | .agg parts => uptoBulkAll parts + 1
  | .iface _ d => uptoBulk d + 1
  | .map entries => uptoBulkEntries entries + 1
  | .held _ => 1
def uptoBulkAll {H : Type} : List (DataW H) → Nat
  | [] => 0
  | d :: r => uptoBulk d + uptoBulkAll r
def uptoBulkEntries {H : Type} : List (Lit × DataW H) → Nat
  | [] => 0
  | x :: r => uptoBulkEntry x + uptoBulkEntries r
def uptoBulkEntry {H : Type} : Lit × DataW H → Nat
  | (.string bytes, d) => bytes.length + uptoBulk d + 1
  | (_, d) => uptoBulk d + 1
 end
def uptoSmall : (H : Type) → List (DataW H) → Bool := fun _ ds => decide (uptoBulkAll ds ≤ 1048576)
def OpenSpec.upto (s : _root_.Go.ChangeSpec) : _root_.Go.OpenSpec := { _root_.Go.OpenSpec.ofChange s with cond := some uptoSmall }

/-- 'laws.FnExactStateBytes', WHERE WHAT IT READS IS OF BULK AT MOST 1048576: true; the input reads as it did. -/
def fnExactStateBytesUptoRow : OpenClaim := { program := "ytcddcnnbhbffmaa", sum := "02dd2231cc1132d1276bea1fb9846f2916df586e6639d134fb4a0bcc42683bd5", func := "loop.example/g00405/laws.FnExactStateBytes", spec := "fnExactStateBytes", unfollowed := true, recurses := true, apart := false, narrowed := true }
def FnExactStateBytesUptoSaid : Prop := fnExactStateBytesUptoRow.holds Try.pinned (OpenSpec.upto fnExactStateBytesSpec)

/-- 'laws.FnExactStateFrom', WHERE WHAT IT READS IS OF BULK AT MOST 1048576: true; the input reads as it did. -/
def fnExactStateFromUptoRow : OpenClaim := { program := "ytcddcnnbhbffmaa", sum := "02dd2231cc1132d1276bea1fb9846f2916df586e6639d134fb4a0bcc42683bd5", func := "loop.example/g00405/laws.FnExactStateFrom", spec := "fnExactStateFrom", unfollowed := true, recurses := true, apart := false, narrowed := true }
def FnExactStateFromUptoSaid : Prop := fnExactStateFromUptoRow.holds Try.pinned (OpenSpec.upto fnExactStateFromSpec)

/-- 'laws.FnExactNewJournal', WHERE WHAT IT READS IS OF BULK AT MOST 1048576: true; the input reads as it did. -/
def fnExactNewJournalUptoRow : OpenClaim := { program := "ytcddcnnbhbffmaa", sum := "02dd2231cc1132d1276bea1fb9846f2916df586e6639d134fb4a0bcc42683bd5", func := "loop.example/g00405/laws.FnExactNewJournal", spec := "fnExactNewJournal", apart := false, narrowed := true }
def FnExactNewJournalUptoSaid : Prop := fnExactNewJournalUptoRow.holds Try.pinned (OpenSpec.upto fnExactNewJournalSpec)

/-- 'laws.FnExactRecoverFrom', WHERE WHAT IT READS IS OF BULK AT MOST 1048576: true; the input reads as it did. -/
def fnExactRecoverFromUptoRow : OpenClaim := { program := "ytcddcnnbhbffmaa", sum := "02dd2231cc1132d1276bea1fb9846f2916df586e6639d134fb4a0bcc42683bd5", func := "loop.example/g00405/laws.FnExactRecoverFrom", spec := "fnExactRecoverFrom", unfollowed := true, recurses := true, apart := false, narrowed := true }
def FnExactRecoverFromUptoSaid : Prop := fnExactRecoverFromUptoRow.holds Try.pinned (OpenSpec.upto fnExactRecoverFromSpec)

/-- 'laws.FnExactGoodJournal', WHERE WHAT IT READS IS OF BULK AT MOST 1048576: true; the input reads as it did. -/
def fnExactGoodJournalUptoRow : OpenClaim := { program := "ytcddcnnbhbffmaa", sum := "02dd2231cc1132d1276bea1fb9846f2916df586e6639d134fb4a0bcc42683bd5", func := "loop.example/g00405/laws.FnExactGoodJournal", spec := "fnExactGoodJournal", unfollowed := true, recurses := true, apart := false, narrowed := true }
def FnExactGoodJournalUptoSaid : Prop := fnExactGoodJournalUptoRow.holds Try.pinned (OpenSpec.upto fnExactGoodJournalSpec)

/-- 'laws.FnJournal', WHERE WHAT IT READS IS OF BULK AT MOST 1048576: true; the input reads as it did. -/
def fnJournalUptoRow : OpenClaim := { program := "ytcddcnnbhbffmaa", sum := "02dd2231cc1132d1276bea1fb9846f2916df586e6639d134fb4a0bcc42683bd5", func := "loop.example/g00405/laws.FnJournal", spec := "fnJournal", unfollowed := true, recurses := true, apart := false, narrowed := true }
def FnJournalUptoSaid : Prop := fnJournalUptoRow.holds Try.pinned (OpenSpec.upto fnJournalSpec)

/-- 'laws.FnExactPlayJournal', WHERE WHAT IT READS IS OF BULK AT MOST 1048576: true; the input reads as it did. -/
def fnExactPlayJournalUptoRow : OpenClaim := { program := "ytcddcnnbhbffmaa", sum := "02dd2231cc1132d1276bea1fb9846f2916df586e6639d134fb4a0bcc42683bd5", func := "loop.example/g00405/laws.FnExactPlayJournal", spec := "fnExactPlayJournal", unfollowed := true, recurses := true, apart := false, narrowed := true }
def FnExactPlayJournalUptoSaid : Prop := fnExactPlayJournalUptoRow.holds Try.pinned (OpenSpec.upto fnExactPlayJournalSpec)

end Rows
end Go.Proofs.Ytcddcnnbhbffmaa
