/- The row of FnExactNewRooms: whatever the arguments that can be read, the law answers true and the arguments read as they did. No condition. Written by a program of this session out of the law's contract. -/
import Derived.Test.YtlkbmcmglkdciaaRows
import Derived.Test.YtlkbmcmglkdciaaFNR
import Derived.Test.YtlkbmcmglkdciaaPureFnExactNewRooms
import Derived.WalkKit
import Derived.ProofKit
import Derived.OpenShut
import Derived.ShutString
import Derived.ChangeOld
import Derived.Below
import Derived.SizedLaws
namespace Go.Proofs.Ytlkbmcmglkdciaa.fnExactNewRooms
open Go.ChangeShapes Go.WideShapes Go.ChangeAt Go.RowKit Go.Proofs.YtlkbmcmglkdciaaE Go.Proofs.Ytlkbmcmglkdciaa
open Go.ChangeMaps (open_string shut_string)
set_option linter.unusedVariables false
theorem own : ownKnob Try.prog.godebug = none := by kernel_rfl
theorem laidOut : laidOutB Try.prog = true := by kernel_rfl
set_option maxRecDepth 100000 in
theorem lifted (os : Os) (started : os.Started) (H : Type) (enc : TypeId × Value → H) :
    ReturnsInHanded {} Try.checked os 3 .any (Rows.fnExactNewRoomsSpec.pre6 enc Try.prog Try.f3 Rows.fnExactNewRoomsRow.domain false) (Rows.fnExactNewRoomsSpec.post enc Try.prog Try.f3 false true false false) := by
  refine returnsInHanded_of_change_sized (C := Try.checked) own started (by kernel_rfl) Try.func3
    (ChangeSpec.witness6 (enc := enc) (C := Try.checked) false ⟨#[], #[], []⟩ 8 (by kernel_rfl) (by kernel_rfl) (by kernel_rfl) (by kernel_rfl)) ?_
  intro W base args ds gs before hval0 hW hcnd hsz0 _
  have hval : ∀ (j : Nat) t v, Try.f3.params[j]? = some t → args[j]? = some v → Value.okWide Try.prog W .any base t v := hval0
  have hW' := hW
  obtain ⟨p, q, hA0, hV, rfl, hfz, hnd⟩ := hW
  have hA : DataW.TrodAll enc Try.prog W 0 (fun _ => true) true Try.f3.params.toList args.toList ds p := hA0
  rw [Try.params3] at hA hval
  obtain ⟨hargs, rfl, rfl⟩ := trodAll_none hA
  obtain rfl : args = #[] := by cases args; simp_all
  obtain ⟨rfl, rfl⟩ := trodVars_none hV
  clear hA0 hval0 hsz0
  obtain ⟨K, hK⟩ := lawNewRooms 
  refine (law_calls (w_FnExactNewRooms.ok K) rfl (ts := []) ⟨rfl, rfl⟩ (d := true) (b := true) ?_ rfl rfl ?_).mono ?_
  · refine Eq.trans ?_ (hK K (Nat.le_refl _))
    kernel_rfl
  · exact trivial
  rintro e W' ⟨rfl, bel⟩
  exact ⟨_, rfl, _, _, _, [], _, [], hW', trodAll_mk1 (shut_bool Try.underlying4 _), trodAll_mk0, rfl, bel.frame _, fun h => by cases h⟩
theorem over : Rows.fnExactNewRoomsRow.holds Try.pinned (OpenSpec.ofChange Rows.fnExactNewRoomsSpec) :=
  OpenClaim.holds_of_wide 3 Try.f3 rfl rfl rfl rfl rfl rfl rfl ⟨rfl, rfl, rfl, rfl, rfl⟩ rfl rfl rfl rfl rfl (by kernel_rfl) Try.func3 (by kernel_rfl)
    (of_decide_eq_true (by kernel_rfl)) (by unfold Func.isWrapper; first | (rw [if_pos (by decide +kernel)]; kernel_rfl) | (rw [if_neg (by decide +kernel)]; exact ⟨rfl, rfl⟩))
    (fun os started H enc _ => lifted os started H enc)
theorem proved : Rows.FnExactNewRoomsSaid := over
#print axioms proved
end Go.Proofs.Ytlkbmcmglkdciaa.fnExactNewRooms
namespace Go.Proofs.Ytlkbmcmglkdciaa
/-- The row, under a short name, for the claim. -/
theorem fnExactNewRooms_holds : Rows.FnExactNewRoomsSaid := fnExactNewRooms.proved
end Go.Proofs.Ytlkbmcmglkdciaa
