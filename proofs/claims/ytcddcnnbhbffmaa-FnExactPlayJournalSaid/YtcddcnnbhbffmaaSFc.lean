/- The loop's body as the executor tells it. No condition. -/
import Derived.Test.YtcddcnnbhbffmaaSFb
import Derived.Test.YtcddcnnbhbffmaaProg
set_option linter.unusedVariables false
namespace Go.Proofs.YtcddcnnbhbffmaaE
open Go Go.RowKit
def plainB (o : Oper) : Bool :=
  match o.op with
  | .load _ _ | .move _ | .indexAddr _ _ _ | .convert _ _ _ | .binOp _ _ _ _ _ | .buildSlice _ _ _ | .store _ _ _ => true
  | .call { callee := .builtin .append, args := _, argTypes := _ } => true
  | _ => false
theorem plainB_ok {o : Oper} (h : plainB o = true) : plain o := by
  unfold plainB at h
  split at h
  case h_9 => cases h
  case h_8 args tys ho =>
    refine ⟨fun c => (by rw [ho]; intro h; cases h), fun P ρ w => by simp [Oper.about, ho, resolve, Target.leads, Sem.run_pure], fun P ρ w => ?_⟩
    have : execOp ρ o = Go.builtin .append tys o.type (args.map fun | .const _ => true | _ => false) (args.map ρ) := by
      unfold execOp; rw [ho]; rfl
    rw [this]
    exact plain_val _
  all_goals
    rename_i ho
    refine ⟨fun c => (by rw [ho]; intro h; cases h), fun P ρ w => by simp [Oper.about, ho], fun P ρ w => ?_⟩
    unfold execOp
    rw [ho]
    first | exact plain_val _ | exact plain_unit _ | trivial
end Go.Proofs.YtcddcnnbhbffmaaE
namespace Go.Proofs.Ytcddcnnbhbffmaa
open Go.RowKit Go.Proofs.YtcddcnnbhbffmaaE
def codeBody : Code → Code
  | .seq a b => match codeBody a with | .skip => codeBody b | c => c
  | .block _ b => codeBody b
  | .rangeFunc _ _ _ b => b
  | _ => .skip
noncomputable def sfOps : Array Oper := match codeBody (Try.f21.body.getD .skip) with | .block _ (.region _ ops _) => ops | _ => #[]
theorem sfCode : codeBody (Try.f21.body.getD .skip) = .block 1 (.region 6 sfOps true) := by kernel_rfl
theorem sfPlain : sfOps.toList.all plainB = true := by kernel_rfl
noncomputable def sfVal (bl : List Int) (x : Nat) : Int := IntKind.i64.wrap ↑(BitVec.ofInt 64 (IntKind.i64.wrap (IntKind.i64.wrap (getAt 0 bl (2 * x + 0)) * 2 ^ 8)) ||| BitVec.ofInt 64 (IntKind.i64.wrap (getAt 0 bl (2 * x + 1)))).toNat
noncomputable abbrev sfX : Ctx := ⟨Try.prog, [], 0, 1, []⟩
def sfSt (bl xs : List Int) (x : Nat) : St := ⟨[(4, .ptr 1 0 0), (5, .win 2 (2 * x) 2)], [.dead, .box 22 [.ref 3], .rows 5 (.int .u8) bl, .rows 3 (.int .i64) xs], 48, 3⟩
set_option maxRecDepth 100000 in
theorem sfRun (bl xs : List Int) (x : Nat) : drawX sfX sfOps (sfSt bl xs x) (fun st => some (lk st.env 4, st.heap)) =
    gd (inb (0 : Int) 2) (gd (inb (1 : Int) 2) (gd (appOk (xs.length + 1) (Try.prog.bytesOf 3)) (some (.ptr 1 0 0, [.dead, .box 22 [.ref 3], .rows 5 (.int .u8) bl, .rows 3 (.int .i64) (xs ++ [sfVal bl x]), .rows 3 (.int .i64) [sfVal bl x]])))) := by kernel_rfl
end Go.Proofs.Ytcddcnnbhbffmaa
