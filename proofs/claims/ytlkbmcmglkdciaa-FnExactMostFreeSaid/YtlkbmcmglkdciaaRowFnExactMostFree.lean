/- The row of FnExactMostFree: whatever the arguments that can be read, the law answers true and the arguments read as they did. No condition. Written by a program of this session out of the law's contract. -/
import Derived.Test.YtlkbmcmglkdciaaRows
import Derived.Test.YtlkbmcmglkdciaaFMF
import Derived.Test.YtlkbmcmglkdciaaPureFnExactMostFree
import Derived.WalkKit
import Derived.ProofKit
import Derived.OpenShut
import Derived.ShutString
import Derived.ChangeOld
import Derived.Below
import Derived.SizedLaws
namespace Go.Proofs.Ytlkbmcmglkdciaa.fnExactMostFree
open Go.ChangeShapes Go.WideShapes Go.ChangeAt Go.RowKit Go.Proofs.YtlkbmcmglkdciaaE Go.Proofs.Ytlkbmcmglkdciaa
open Go.ChangeMaps (open_string shut_string)
set_option linter.unusedVariables false
theorem own : ownKnob Try.prog.godebug = none := by kernel_rfl
theorem laidOut : laidOutB Try.prog = true := by kernel_rfl
set_option maxRecDepth 100000 in
theorem lifted (os : Os) (started : os.Started) (H : Type) (enc : TypeId × Value → H) :
    ReturnsInHanded {} Try.checked os 7 .any (Rows.fnExactMostFreeSpec.pre6 enc Try.prog Try.f7 Rows.fnExactMostFreeRow.domain false) (Rows.fnExactMostFreeSpec.post enc Try.prog Try.f7 false true false false) := by
  refine returnsInHanded_of_change_sized (C := Try.checked) own started (by kernel_rfl) Try.func7
    (ChangeSpec.witness6 (enc := enc) (C := Try.checked) false ⟨#[], #[.agg #[.slice none 0 0, .slice none 0 0]], []⟩ 8 (by kernel_rfl) (by kernel_rfl) (by kernel_rfl) (by kernel_rfl)) ?_
  intro W base args ds gs before hval0 hW hcnd hsz0 _
  have hval : ∀ (j : Nat) t v, Try.f7.params[j]? = some t → args[j]? = some v → Value.okWide Try.prog W .any base t v := hval0
  have hW' := hW
  obtain ⟨p, q, hA0, hV, rfl, hfz, hnd⟩ := hW
  have hA : DataW.TrodAll enc Try.prog W 0 (fun _ => true) true Try.f7.params.toList args.toList ds p := hA0
  rw [Try.params7] at hA hval
  obtain ⟨v0, vs0, d0, ds0, p0, q0, hargs, rfl, rfl, h0, r0⟩ := trodAll_cons hA
  obtain ⟨rfl, rfl, rfl⟩ := trodAll_nil r0
  obtain rfl : args = #[v0] := by cases args; simp_all
  obtain ⟨rfl, rfl⟩ := trodVars_none hV
  have k0 := h0
  have lt0 : ∀ x ∈ p0, x.block < W.heap.size := by obtain ⟨m, hm⟩ := k0; exact DataW.trod_lt m _ _ _ hm
  obtain ⟨cs0, rfl, _⟩ := okWide_struct Try.underlying39 (hval 0 39 v0 rfl rfl)
  obtain ⟨x0, r0', o0⟩ : ∃ x : Kind.den (.pair (.sl 30 (.sl 3 (.int .i64))) (.sl 98 (.pair (.int .i64) (.int .i64)))), rep W (fun _ => True) (.pair (.sl 30 (.sl 3 (.int .i64))) (.sl 98 (.pair (.int .i64) (.int .i64)))) x (cs0.toList) ∧ okK (.pair (.sl 30 (.sl 3 (.int .i64))) (.sl 98 (.pair (.int .i64) (.int .i64)))) x := by
    obtain ⟨fuel, hf⟩ := k0
    exact trod_rep 8 hf (by kernel_rfl) (by kernel_rfl)
  clear hA0 hval0 hsz0
  obtain ⟨K, hK⟩ := lawMostFree x0.1 x0.2 o0.1 o0.2
  refine (law_calls (w_FnExactMostFree.ok K) rfl (ts := [.agg (cellsS (.pair (.sl 30 (.sl 3 (.int .i64))) (.sl 98 (.pair (.int .i64) (.int .i64)))) x0)]) ⟨rfl, rfl⟩ (d := true) (b := true) rfl ?_ rfl rfl ?_).mono ?_
  · refine Eq.trans ?_ (hK K (Nat.le_refl _))
    kernel_rfl
  · exact ⟨⟨_, rfl, rep_cellsS (fun g => rfl) r0'⟩, trivial⟩
  rintro e W' ⟨rfl, bel⟩
  exact ⟨_, rfl, _, _, _, [], _, [], hW', trodAll_mk1 (shut_bool Try.underlying4 _), (trodAll_cons_mk (Below.trod laidOut (by kernel_rfl) (of_decide_eq_true (by kernel_rfl)) k0 bel lt0) trodAll_mk0), rfl, bel.frame _, fun h => by cases h⟩
theorem over : Rows.fnExactMostFreeRow.holds Try.pinned (OpenSpec.ofChange Rows.fnExactMostFreeSpec) :=
  OpenClaim.holds_of_wide 7 Try.f7 rfl rfl rfl rfl rfl rfl rfl ⟨rfl, rfl, rfl, rfl, rfl⟩ rfl rfl rfl rfl rfl (by kernel_rfl) Try.func7 (by kernel_rfl)
    (of_decide_eq_true (by kernel_rfl)) (by unfold Func.isWrapper; first | (rw [if_pos (by decide +kernel)]; kernel_rfl) | (rw [if_neg (by decide +kernel)]; exact ⟨rfl, rfl⟩))
    (fun os started H enc _ => lifted os started H enc)
theorem proved : Rows.FnExactMostFreeSaid := over
#print axioms proved
end Go.Proofs.Ytlkbmcmglkdciaa.fnExactMostFree
namespace Go.Proofs.Ytlkbmcmglkdciaa
/-- The row, under a short name, for the claim. -/
theorem fnExactMostFree_holds : Rows.FnExactMostFreeSaid := fnExactMostFree.proved
end Go.Proofs.Ytlkbmcmglkdciaa
