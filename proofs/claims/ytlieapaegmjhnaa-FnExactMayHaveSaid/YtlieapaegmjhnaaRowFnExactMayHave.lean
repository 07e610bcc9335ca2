/- The row of FnExactMayHave: whatever the arguments that can be read, the law answers true and the arguments read as they did. No condition. Written by a program of this session out of the printed contract. -/
import Derived.Test.YtlieapaegmjhnaaRows
import Derived.Test.YtlieapaegmjhnaaXFnExactMayHavex2
import Derived.Test.YtlieapaegmjhnaaPureFnExactMayHave
import Derived.Test.YtlieapaegmjhnaaOpens
import Derived.WalkKit
import Derived.ProofKit
import Derived.OpenShut
import Derived.ShutString
import Derived.ChangeOld
import Derived.Below
import Derived.SizedLaws
namespace Go.Proofs.Ytlieapaegmjhnaa.fnExactMayHave
open Go.ChangeShapes Go.WideShapes Go.ChangeAt Go.RowKit Go.Proofs.YtlieapaegmjhnaaOpens Go.Proofs.YtlieapaegmjhnaaW.PrintWords Go.Proofs.Ytlieapaegmjhnaa.XFnExactMayHave
open Go.ChangeMaps (open_string shut_string)
set_option linter.unusedVariables false
theorem own : ownKnob Try.prog.godebug = none := by kernel_rfl
theorem laidOut : laidOutB Try.prog = true := by kernel_rfl
theorem op4 : Opens Try.prog 4 Kd.bool (fun _ => True) := opens_bool Try.underlying4 (by kernel_rfl)
theorem op28t : Opens Try.prog 28 (Kd.slice 4 Kd.bool) (fun x => (x.length ≤ maxLen ∧ ∀ y ∈ x, True)) := opens_slice (α := Bool) false Try.underlying28 (by kernel_rfl) op4
theorem op30t : Opens Try.prog 30 (Kd.iso (Kd.slice 4 Kd.bool) id) (fun x => ((x.length ≤ maxLen ∧ ∀ y ∈ x, True))) := opens_struct (P := Try.prog) (t := 30) id id (fun _ => rfl) (by exact Try.underlying30) (by kernel_rfl) (opens_last op28t)
theorem op3t : Opens Try.prog 3 (Kd.int .i64) (fun n => (Lit.int .i64 n).wf = true) := opens_int Try.underlying3 (by kernel_rfl)
set_option maxRecDepth 100000 in
theorem lifted (os : Os) (started : os.Started) (H : Type) (enc : TypeId × Value → H) :
    ReturnsInHanded {} Try.checked os 4 .any (Rows.fnExactMayHaveSpec.pre6 enc Try.prog Try.f4 Rows.fnExactMayHaveRow.domain false) (Rows.fnExactMayHaveSpec.post enc Try.prog Try.f4 false true false false) := by
  refine returnsInHanded_of_change_sized (C := Try.checked) own started (by kernel_rfl) Try.func4
    (ChangeSpec.witness6 (enc := enc) (C := Try.checked) false ⟨#[], #[.agg #[.slice none 0 0], .int .i64 0], []⟩ 8 (by kernel_rfl) (by kernel_rfl) (by kernel_rfl) (by kernel_rfl)) ?_
  intro W base args ds gs before hval0 hW hcnd hsz0 _
  have hval : ∀ (j : Nat) t v, Try.f4.params[j]? = some t → args[j]? = some v → Value.okWide Try.prog W .any base t v := hval0
  have hW' := hW
  obtain ⟨p, q, hA0, hV, rfl, hfz, hnd⟩ := hW
  have hA : DataW.TrodAll enc Try.prog W 0 (fun _ => true) true Try.f4.params.toList args.toList ds p := hA0
  rw [Try.params4] at hA hval
  obtain ⟨v0, vs0, d0, ds0, p0, q0, hargs, rfl, rfl, h0, r0⟩ := trodAll_cons hA
  obtain ⟨v1, vs1, d1, ds1, p1, q1, rfl, rfl, rfl, h1, r1⟩ := trodAll_cons r0
  obtain ⟨rfl, rfl, rfl⟩ := trodAll_nil r1
  obtain rfl : args = #[v0, v1] := by cases args; simp_all
  obtain ⟨rfl, rfl⟩ := trodVars_none hV
  obtain ⟨cs0, rfl, _⟩ := okWide_struct Try.underlying30 (hval 0 30 v0 rfl rfl)
  have k0 := h0
  have lt0 : ∀ x ∈ p0, x.block < W.heap.size := by obtain ⟨m, hm⟩ := k0; exact DataW.trod_lt m _ _ _ hm
  obtain ⟨l0_0, K0, g0⟩ := opens_arg op30t k0
  obtain ⟨A0_0, c0_0, hcs0, hc0_0, hr0_0⟩ : ∃ A0_0 c0_0, (cs0.toList = [.slice A0_0 l0_0.length c0_0]) ∧ l0_0.length ≤ c0_0 ∧ Kd.C Kd.bool W A0_0 l0_0.length l0_0 := by
    have K : (_ : Kd _).K W _ cs0.toList := K0
    clear K0
    generalize cs0.toList = q at K ⊢
    obtain ⟨A0_0, c0_0, rfl, hc0_0, hr0_0⟩ := K
    exact ⟨A0_0, c0_0, rfl, hc0_0, hr0_0⟩
  obtain rfl : cs0 = #[.slice A0_0 l0_0.length c0_0] := Array.toList_inj.1 hcs0
  obtain ⟨a1, rfl, rfl, rfl, w1⟩ := open_int Try.underlying3 (hval 1 3 v1 rfl rfl) h1
  clear hA0 hval0 hsz0
  obtain ⟨k, hk⟩ := Pure.FnExactMayHave l0_0 a1 g0 w1
  refine (laws_FnExactMayHave.calls k _ _ l0_0 a1 true W hr0_0 hc0_0 hk).mono ?_
  rintro e W' ⟨rfl, hd⟩
  have bel : Below W.heap.size W W' := by first | exact hd | exact hd.below
  exact ⟨_, rfl, _, _, _, [], _, [], hW', trodAll_mk1 (shut_bool Try.underlying4 _), (trodAll_cons_mk (Below.trod laidOut (by kernel_rfl) (of_decide_eq_true (by kernel_rfl)) k0 bel lt0) (trodAll_cons_mk (shut_int Try.underlying3 w1) trodAll_mk0)), rfl, bel.frame _, fun h => by cases h⟩
theorem over : Rows.fnExactMayHaveRow.holds Try.pinned (OpenSpec.ofChange Rows.fnExactMayHaveSpec) :=
  OpenClaim.holds_of_wide 4 Try.f4 rfl rfl rfl rfl rfl rfl rfl ⟨rfl, rfl, rfl, rfl, rfl⟩ rfl rfl rfl rfl rfl (by kernel_rfl) Try.func4 (by kernel_rfl)
    (of_decide_eq_true (by kernel_rfl)) (by unfold Func.isWrapper; first | (rw [if_pos (by decide +kernel)]; kernel_rfl) | (rw [if_neg (by decide +kernel)]; exact ⟨rfl, rfl⟩))
    (fun os started H enc _ => lifted os started H enc)
theorem proved : Rows.FnExactMayHaveSaid := over
#print axioms proved
end Go.Proofs.Ytlieapaegmjhnaa.fnExactMayHave
namespace Go.Proofs.Ytlieapaegmjhnaa
/-- The row, under a short name, for the claim. -/
theorem fnExactMayHave_holds : Rows.FnExactMayHaveSaid := fnExactMayHave.proved
end Go.Proofs.Ytlieapaegmjhnaa
