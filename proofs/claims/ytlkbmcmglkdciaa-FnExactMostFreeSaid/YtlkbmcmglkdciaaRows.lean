/-
  No cell of these rows narrows 'for every input' (looked for: loops, veiled, ifaces, maps, wideKeys, modest, calm, conditions, laid).
  DERIVED. THE GIVEN ROWS OF THIS SEAT. 9 by the template 'for every input the law returns true; each argument reads behind the call as it read before'; 0 by the template 'total and deterministic' (their statements: YtlkbmcmglkdciaaTotals.lean).
  GIVEN WITH THE SEED: the statements are not yours to turn. If you find one false, say at which input.
  Laid BY PROGRAM, IN A SANDBOX (cutbox-rows.mjs): the forced cells as the released guide's own fill.sh prints them over the translation 4f64e9bd31d63e57… (all of the seat's roots in one cut). By AI agents, Wed Nov 11 2026. No macro, syntax, notation, axiom, sorry.
-/
import Derived.Test.YtlkbmcmglkdciaaChecked
import GoSem.Claim
import GoSem.ClaimJoined
import GoSem.ClaimMapViews
import Derived.JoinedTies
import Derived.KernelRfl
namespace Go.Proofs.Ytlkbmcmglkdciaa
/- THE CELL 'sum', in the pinned program and in every row, IS THE sha256 OF THE DUMP (.gsa) THAT YtlkbmcmglkdciaaProg.lean LOADS. Nothing in Lean hashes anything: it is a label: what it is worth is what the hold of that sum in a sandbox is worth. -/
noncomputable def Try.pinned : Pinned := { name := "ytlkbmcmglkdciaa", sum := "4f64e9bd31d63e57d9a94349b6e3878e298d9023dba645da83da63a0217566a6", checked := Try.checked }
namespace Rows
def none {H : Type} : Left H := { results := [], args := [] }

/-- 'laws.FnExactNewRooms': WHATEVER THE INPUT: true; the input reads as it did. -/
def fnExactNewRoomsSpec : ChangeSpec := { name := "fnExactNewRooms", fn := fun _ => fun
  | [] => { results := [.lit (.bool true)], args := [] }
  | _ => none }
def fnExactNewRoomsRow : OpenClaim := { program := "ytlkbmcmglkdciaa", sum := "4f64e9bd31d63e57d9a94349b6e3878e298d9023dba645da83da63a0217566a6", func := "loop.example/g00405/laws.FnExactNewRooms", spec := "fnExactNewRooms", apart := false }
def FnExactNewRoomsSaid : Prop := fnExactNewRoomsRow.holds Try.pinned (OpenSpec.ofChange fnExactNewRoomsSpec)

/-- ITS FALSE NEIGHBOUR: 'it returns false'. Refute it at one input. -/
def fnExactNewRoomsWrong : ChangeSpec := { name := "fnExactNewRooms", fn := fun _ => fun
  | [] => { results := [.lit (.bool false)], args := [] }
  | _ => none }
def FnExactNewRoomsWrongFalsely : Prop := fnExactNewRoomsRow.holds Try.pinned (OpenSpec.ofChange fnExactNewRoomsWrong)

/-- 'laws.FnExactPlayRooms': WHATEVER THE INPUT: true; the input reads as it did. -/
def fnExactPlayRoomsSpec : ChangeSpec := { name := "fnExactPlayRooms", fn := fun _ => fun
  | [d] => { results := [.lit (.bool true)], args := [d] }
  | _ => none }
def fnExactPlayRoomsRow : OpenClaim := { program := "ytlkbmcmglkdciaa", sum := "4f64e9bd31d63e57d9a94349b6e3878e298d9023dba645da83da63a0217566a6", func := "loop.example/g00405/laws.FnExactPlayRooms", spec := "fnExactPlayRooms", inPlace := ["slices.overlaps[int]", "slices.overlaps[loop.example/g00405/impl.Held]"], unfollowed := true, recurses := true, apart := false }
def FnExactPlayRoomsSaid : Prop := fnExactPlayRoomsRow.holds Try.pinned (OpenSpec.ofChange fnExactPlayRoomsSpec)

/-- ITS FALSE NEIGHBOUR: 'it returns false'. Refute it at one input. -/
def fnExactPlayRoomsWrong : ChangeSpec := { name := "fnExactPlayRooms", fn := fun _ => fun
  | [d] => { results := [.lit (.bool false)], args := [d] }
  | _ => none }
def FnExactPlayRoomsWrongFalsely : Prop := fnExactPlayRoomsRow.holds Try.pinned (OpenSpec.ofChange fnExactPlayRoomsWrong)

/-- 'laws.FnExactGoodRooms': WHATEVER THE INPUT: true; the input reads as it did. -/
def fnExactGoodRoomsSpec : ChangeSpec := { name := "fnExactGoodRooms", fn := fun _ => fun
  | [d] => { results := [.lit (.bool true)], args := [d] }
  | _ => none }
def fnExactGoodRoomsRow : OpenClaim := { program := "ytlkbmcmglkdciaa", sum := "4f64e9bd31d63e57d9a94349b6e3878e298d9023dba645da83da63a0217566a6", func := "loop.example/g00405/laws.FnExactGoodRooms", spec := "fnExactGoodRooms", unfollowed := true, recurses := true, apart := false }
def FnExactGoodRoomsSaid : Prop := fnExactGoodRoomsRow.holds Try.pinned (OpenSpec.ofChange fnExactGoodRoomsSpec)

/-- ITS FALSE NEIGHBOUR: 'it returns false'. Refute it at one input. -/
def fnExactGoodRoomsWrong : ChangeSpec := { name := "fnExactGoodRooms", fn := fun _ => fun
  | [d] => { results := [.lit (.bool false)], args := [d] }
  | _ => none }
def FnExactGoodRoomsWrongFalsely : Prop := fnExactGoodRoomsRow.holds Try.pinned (OpenSpec.ofChange fnExactGoodRoomsWrong)

/-- 'laws.FnExactFreeIn': WHATEVER THE INPUT: true; the input reads as it did. -/
def fnExactFreeInSpec : ChangeSpec := { name := "fnExactFreeIn", fn := fun _ => fun
  | [d] => { results := [.lit (.bool true)], args := [d] }
  | _ => none }
def fnExactFreeInRow : OpenClaim := { program := "ytlkbmcmglkdciaa", sum := "4f64e9bd31d63e57d9a94349b6e3878e298d9023dba645da83da63a0217566a6", func := "loop.example/g00405/laws.FnExactFreeIn", spec := "fnExactFreeIn", unfollowed := true, recurses := true, apart := false }
def FnExactFreeInSaid : Prop := fnExactFreeInRow.holds Try.pinned (OpenSpec.ofChange fnExactFreeInSpec)

/-- ITS FALSE NEIGHBOUR: 'it returns false'. Refute it at one input. -/
def fnExactFreeInWrong : ChangeSpec := { name := "fnExactFreeIn", fn := fun _ => fun
  | [d] => { results := [.lit (.bool false)], args := [d] }
  | _ => none }
def FnExactFreeInWrongFalsely : Prop := fnExactFreeInRow.holds Try.pinned (OpenSpec.ofChange fnExactFreeInWrong)

/-- 'laws.FnExactMostFree': WHATEVER THE INPUT: true; the input reads as it did. -/
def fnExactMostFreeSpec : ChangeSpec := { name := "fnExactMostFree", fn := fun _ => fun
  | [d] => { results := [.lit (.bool true)], args := [d] }
  | _ => none }
def fnExactMostFreeRow : OpenClaim := { program := "ytlkbmcmglkdciaa", sum := "4f64e9bd31d63e57d9a94349b6e3878e298d9023dba645da83da63a0217566a6", func := "loop.example/g00405/laws.FnExactMostFree", spec := "fnExactMostFree", unfollowed := true, recurses := true, apart := false }
def FnExactMostFreeSaid : Prop := fnExactMostFreeRow.holds Try.pinned (OpenSpec.ofChange fnExactMostFreeSpec)

/-- ITS FALSE NEIGHBOUR: 'it returns false'. Refute it at one input. -/
def fnExactMostFreeWrong : ChangeSpec := { name := "fnExactMostFree", fn := fun _ => fun
  | [d] => { results := [.lit (.bool false)], args := [d] }
  | _ => none }
def FnExactMostFreeWrongFalsely : Prop := fnExactMostFreeRow.holds Try.pinned (OpenSpec.ofChange fnExactMostFreeWrong)

/-- 'laws.FnRooms': WHATEVER THE INPUT: true; the input reads as it did. -/
def fnRoomsSpec : ChangeSpec := { name := "fnRooms", fn := fun _ => fun
  | [d1, d2] => { results := [.lit (.bool true)], args := [d1, d2] }
  | _ => none }
def fnRoomsRow : OpenClaim := { program := "ytlkbmcmglkdciaa", sum := "4f64e9bd31d63e57d9a94349b6e3878e298d9023dba645da83da63a0217566a6", func := "loop.example/g00405/laws.FnRooms", spec := "fnRooms", inPlace := ["slices.overlaps[int]", "slices.overlaps[loop.example/g00405/impl.Held]"], unfollowed := true, recurses := true, apart := false }
def FnRoomsSaid : Prop := fnRoomsRow.holds Try.pinned (OpenSpec.ofChange fnRoomsSpec)

/-- ITS FALSE NEIGHBOUR: 'it returns false'. Refute it at one input. -/
def fnRoomsWrong : ChangeSpec := { name := "fnRooms", fn := fun _ => fun
  | [d1, d2] => { results := [.lit (.bool false)], args := [d1, d2] }
  | _ => none }
def FnRoomsWrongFalsely : Prop := fnRoomsRow.holds Try.pinned (OpenSpec.ofChange fnRoomsWrong)

/-- 'laws.FnExactGiveRoom': WHATEVER THE INPUT: true; the input reads as it did. -/
def fnExactGiveRoomSpec : ChangeSpec := { name := "fnExactGiveRoom", fn := fun _ => fun
  | [d1, d2] => { results := [.lit (.bool true)], args := [d1, d2] }
  | _ => none }
def fnExactGiveRoomRow : OpenClaim := { program := "ytlkbmcmglkdciaa", sum := "4f64e9bd31d63e57d9a94349b6e3878e298d9023dba645da83da63a0217566a6", func := "loop.example/g00405/laws.FnExactGiveRoom", spec := "fnExactGiveRoom", inPlace := ["slices.overlaps[int]"], unfollowed := true, recurses := true, apart := false }
def FnExactGiveRoomSaid : Prop := fnExactGiveRoomRow.holds Try.pinned (OpenSpec.ofChange fnExactGiveRoomSpec)

/-- ITS FALSE NEIGHBOUR: 'it returns false'. Refute it at one input. -/
def fnExactGiveRoomWrong : ChangeSpec := { name := "fnExactGiveRoom", fn := fun _ => fun
  | [d1, d2] => { results := [.lit (.bool false)], args := [d1, d2] }
  | _ => none }
def FnExactGiveRoomWrongFalsely : Prop := fnExactGiveRoomRow.holds Try.pinned (OpenSpec.ofChange fnExactGiveRoomWrong)

/-- 'laws.FnExactTakeRoom': WHATEVER THE INPUT: true; the input reads as it did. -/
def fnExactTakeRoomSpec : ChangeSpec := { name := "fnExactTakeRoom", fn := fun _ => fun
  | [d1, d2] => { results := [.lit (.bool true)], args := [d1, d2] }
  | _ => none }
def fnExactTakeRoomRow : OpenClaim := { program := "ytlkbmcmglkdciaa", sum := "4f64e9bd31d63e57d9a94349b6e3878e298d9023dba645da83da63a0217566a6", func := "loop.example/g00405/laws.FnExactTakeRoom", spec := "fnExactTakeRoom", inPlace := ["slices.overlaps[int]", "slices.overlaps[loop.example/g00405/impl.Held]"], unfollowed := true, recurses := true, apart := false }
def FnExactTakeRoomSaid : Prop := fnExactTakeRoomRow.holds Try.pinned (OpenSpec.ofChange fnExactTakeRoomSpec)

/-- ITS FALSE NEIGHBOUR: 'it returns false'. Refute it at one input. -/
def fnExactTakeRoomWrong : ChangeSpec := { name := "fnExactTakeRoom", fn := fun _ => fun
  | [d1, d2] => { results := [.lit (.bool false)], args := [d1, d2] }
  | _ => none }
def FnExactTakeRoomWrongFalsely : Prop := fnExactTakeRoomRow.holds Try.pinned (OpenSpec.ofChange fnExactTakeRoomWrong)

/-- 'laws.FnBuddies': WHATEVER THE INPUT: true; the input reads as it did. -/
def fnBuddiesSpec : ChangeSpec := { name := "fnBuddies", fn := fun _ => fun
  | [d1, d2] => { results := [.lit (.bool true)], args := [d1, d2] }
  | _ => none }
def fnBuddiesRow : OpenClaim := { program := "ytlkbmcmglkdciaa", sum := "4f64e9bd31d63e57d9a94349b6e3878e298d9023dba645da83da63a0217566a6", func := "loop.example/g00405/laws.FnBuddies", spec := "fnBuddies", inPlace := ["slices.overlaps[int]", "slices.overlaps[loop.example/g00405/impl.Held]"], unfollowed := true, recurses := true, apart := false }
def FnBuddiesSaid : Prop := fnBuddiesRow.holds Try.pinned (OpenSpec.ofChange fnBuddiesSpec)

/-- ITS FALSE NEIGHBOUR: 'it returns false'. Refute it at one input. -/
def fnBuddiesWrong : ChangeSpec := { name := "fnBuddies", fn := fun _ => fun
  | [d1, d2] => { results := [.lit (.bool false)], args := [d1, d2] }
  | _ => none }
def FnBuddiesWrongFalsely : Prop := fnBuddiesRow.holds Try.pinned (OpenSpec.ofChange fnBuddiesWrong)

/- THE SECOND FORM. 'bulk': how many values and letters a reading holds, each counted each time it is reached (what is shared counts as often as it is met; a slice's spare places count too). A statement '..UptoSaid' is the law's where the arguments, and the package variables that the reading takes, are together of bulk at most 1048576: NARROWER than '..Said'. Prove '..Said' where nothing that the law and all that it calls make is longer than what came in: it says more and counts as full. Else prove '..UptoSaid'. A law counts once. -/
mutual
def uptoBulk {H : Type} : DataW H → Nat
  | .lit (.string bytes) => bytes.length + 1
  | .lit _ => 1
  | .nil => 1
  | .ptr d => uptoBulk d + 1
  | .slice elems spare => uptoBulkAll elems + uptoBulkAll spare + 1
  | .agg parts => uptoBulkAll parts + 1
  | .iface _ d => uptoBulk d + 1
  | .map entries => uptoBulkEntries entries + 1
  | .held _ => 1
def uptoBulkAll {H : Type} : List (DataW H) → Nat
  | [] => 0
  | d :: r => uptoBulk d + uptoBulkAll r
def uptoBulkEntries {H : Type} : List (Lit × DataW H) → Nat
  | [] => 0
  | x :: r => uptoBulkEntry x + uptoBulkEntries r
def uptoBulkEntry {H : Type} : Lit × DataW H → Nat
  | (.string bytes, d) => bytes.length + uptoBulk d + 1
  | (_, d) => uptoBulk d + 1
 end
def uptoSmall : (H : Type) → List (DataW H) → Bool := fun _ ds => decide (uptoBulkAll ds ≤ 1048576)
def OpenSpec.upto (s : _root_.Go.ChangeSpec) : _root_.Go.OpenSpec := { _root_.Go.OpenSpec.ofChange s with cond := some uptoSmall }

/-- 'laws.FnExactNewRooms', WHERE WHAT IT READS IS OF BULK AT MOST 1048576: true; the input reads as it did. -/
def fnExactNewRoomsUptoRow : OpenClaim := { program := "ytlkbmcmglkdciaa", sum := "4f64e9bd31d63e57d9a94349b6e3878e298d9023dba645da83da63a0217566a6", func := "loop.example/g00405/laws.FnExactNewRooms", spec := "fnExactNewRooms", apart := false, narrowed := true }
def FnExactNewRoomsUptoSaid : Prop := fnExactNewRoomsUptoRow.holds Try.pinned (OpenSpec.upto fnExactNewRoomsSpec)

/-- 'laws.FnExactPlayRooms', WHERE WHAT IT READS IS OF BULK AT MOST 1048576: true; the input reads as it did. -/
def fnExactPlayRoomsUptoRow : OpenClaim := { program := "ytlkbmcmglkdciaa", sum := "4f64e9bd31d63e57d9a94349b6e3878e298d9023dba645da83da63a0217566a6", func := "loop.example/g00405/laws.FnExactPlayRooms", spec := "fnExactPlayRooms", inPlace := ["slices.overlaps[int]", "slices.overlaps[loop.example/g00405/impl.Held]"], unfollowed := true, recurses := true, apart := false, narrowed := true }
def FnExactPlayRoomsUptoSaid : Prop := fnExactPlayRoomsUptoRow.holds Try.pinned (OpenSpec.upto fnExactPlayRoomsSpec)

/-- 'laws.FnExactGoodRooms', WHERE WHAT IT READS IS OF BULK AT MOST 1048576: true; the input reads as it did. -/
def fnExactGoodRoomsUptoRow : OpenClaim := { program := "ytlkbmcmglkdciaa", sum := "4f64e9bd31d63e57d9a94349b6e3878e298d9023dba645da83da63a0217566a6", func := "loop.example/g00405/laws.FnExactGoodRooms", spec := "fnExactGoodRooms", unfollowed := true, recurses := true, apart := false, narrowed := true }
def FnExactGoodRoomsUptoSaid : Prop := fnExactGoodRoomsUptoRow.holds Try.pinned (OpenSpec.upto fnExactGoodRoomsSpec)

/-- 'laws.FnExactFreeIn', WHERE WHAT IT READS IS OF BULK AT MOST 1048576: true; the input reads as it did. -/
def fnExactFreeInUptoRow : OpenClaim := { program := "ytlkbmcmglkdciaa", sum := "4f64e9bd31d63e57d9a94349b6e3878e298d9023dba645da83da63a0217566a6", func := "loop.example/g00405/laws.FnExactFreeIn", spec := "fnExactFreeIn", unfollowed := true, recurses := true, apart := false, narrowed := true }
def FnExactFreeInUptoSaid : Prop := fnExactFreeInUptoRow.holds Try.pinned (OpenSpec.upto fnExactFreeInSpec)

/-- 'laws.FnExactMostFree', WHERE WHAT IT READS IS OF BULK AT MOST 1048576: true; the input reads as it did. -/
def fnExactMostFreeUptoRow : OpenClaim := { program := "ytlkbmcmglkdciaa", sum := "4f64e9bd31d63e57d9a94349b6e3878e298d9023dba645da83da63a0217566a6", func := "loop.example/g00405/laws.FnExactMostFree", spec := "fnExactMostFree", unfollowed := true, recurses := true, apart := false, narrowed := true }
def FnExactMostFreeUptoSaid : Prop := fnExactMostFreeUptoRow.holds Try.pinned (OpenSpec.upto fnExactMostFreeSpec)

/-- 'laws.FnRooms', WHERE WHAT IT READS IS OF BULK AT MOST 1048576: true; the input reads as it did. -/
def fnRoomsUptoRow : OpenClaim := { program := "ytlkbmcmglkdciaa", sum := "4f64e9bd31d63e57d9a94349b6e3878e298d9023dba645da83da63a0217566a6", func := "loop.example/g00405/laws.FnRooms", spec := "fnRooms", inPlace := ["slices.overlaps[int]", "slices.overlaps[loop.example/g00405/impl.Held]"], unfollowed := true, recurses := true, apart := false, narrowed := true }
def FnRoomsUptoSaid : Prop := fnRoomsUptoRow.holds Try.pinned (OpenSpec.upto fnRoomsSpec)

/-- 'laws.FnExactGiveRoom', WHERE WHAT IT READS IS OF BULK AT MOST 1048576: true; the input reads as it did. -/
def fnExactGiveRoomUptoRow : OpenClaim := { program := "ytlkbmcmglkdciaa", sum := "4f64e9bd31d63e57d9a94349b6e3878e298d9023dba645da83da63a0217566a6", func := "loop.example/g00405/laws.FnExactGiveRoom", spec := "fnExactGiveRoom", inPlace := ["slices.overlaps[int]"], unfollowed := true, recurses := true, apart := false, narrowed := true }
def FnExactGiveRoomUptoSaid : Prop := fnExactGiveRoomUptoRow.holds Try.pinned (OpenSpec.upto fnExactGiveRoomSpec)

/-- 'laws.FnExactTakeRoom', WHERE WHAT IT READS IS OF BULK AT MOST 1048576: true; the input reads as it did. -/
def fnExactTakeRoomUptoRow : OpenClaim := { program := "ytlkbmcmglkdciaa", sum := "4f64e9bd31d63e57d9a94349b6e3878e298d9023dba645da83da63a0217566a6", func := "loop.example/g00405/laws.FnExactTakeRoom", spec := "fnExactTakeRoom", inPlace := ["slices.overlaps[int]", "slices.overlaps[loop.example/g00405/impl.Held]"], unfollowed := true, recurses := true, apart := false, narrowed := true }
def FnExactTakeRoomUptoSaid : Prop := fnExactTakeRoomUptoRow.holds Try.pinned (OpenSpec.upto fnExactTakeRoomSpec)

/-- 'laws.FnBuddies', WHERE WHAT IT READS IS OF BULK AT MOST 1048576: true; the input reads as it did. -/
def fnBuddiesUptoRow : OpenClaim := { program := "ytlkbmcmglkdciaa", sum := "4f64e9bd31d63e57d9a94349b6e3878e298d9023dba645da83da63a0217566a6", func := "loop.example/g00405/laws.FnBuddies", spec := "fnBuddies", inPlace := ["slices.overlaps[int]", "slices.overlaps[loop.example/g00405/impl.Held]"], unfollowed := true, recurses := true, apart := false, narrowed := true }
def FnBuddiesUptoSaid : Prop := fnBuddiesUptoRow.holds Try.pinned (OpenSpec.upto fnBuddiesSpec)

end Rows
end Go.Proofs.Ytlkbmcmglkdciaa
