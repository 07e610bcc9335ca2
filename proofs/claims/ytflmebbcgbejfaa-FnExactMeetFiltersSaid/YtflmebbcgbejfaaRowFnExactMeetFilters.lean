/- The row of FnExactMeetFilters: whatever the arguments that can be read, the law answers true and the arguments read as they did. No condition. Written by a program of this session out of the printed contract. -/
import Derived.Test.YtflmebbcgbejfaaRows
import Derived.Test.YtflmebbcgbejfaaXFnExactMeetFiltersx4
import Derived.Test.YtflmebbcgbejfaaPureFnExactMeetFilters
import Derived.Test.YtflmebbcgbejfaaOpens
import Derived.WalkKit
import Derived.ProofKit
import Derived.OpenShut
import Derived.ShutString
import Derived.ChangeOld
import Derived.Below
import Derived.SizedLaws
namespace Go.Proofs.Ytflmebbcgbejfaa.fnExactMeetFilters
open Go.ChangeShapes Go.WideShapes Go.ChangeAt Go.RowKit Go.Proofs.YtflmebbcgbejfaaOpens Go.Proofs.YtflmebbcgbejfaaW.PrintWords Go.Proofs.Ytflmebbcgbejfaa.XFnExactMeetFilters
open Go.ChangeMaps (open_string shut_string)
set_option linter.unusedVariables false
theorem own : ownKnob Try.prog.godebug = none := by kernel_rfl
theorem laidOut : laidOutB Try.prog = true := by kernel_rfl
theorem op4 : Opens Try.prog 4 Kd.bool (fun _ => True) := opens_bool Try.underlying4 (by kernel_rfl)
theorem op27t : Opens Try.prog 27 (Kd.slice 4 Kd.bool) (fun x => (x.length ≤ maxLen ∧ ∀ y ∈ x, True)) := opens_slice (α := Bool) false Try.underlying27 (by kernel_rfl) op4
theorem op29t : Opens Try.prog 29 (Kd.iso (Kd.slice 4 Kd.bool) id) (fun x => ((x.length ≤ maxLen ∧ ∀ y ∈ x, True))) := opens_struct (P := Try.prog) (t := 29) id id (fun _ => rfl) (by exact Try.underlying29) (by kernel_rfl) (opens_last op27t)
set_option maxRecDepth 100000 in
theorem lifted (os : Os) (started : os.Started) (H : Type) (enc : TypeId × Value → H) :
    ReturnsInHanded {} Try.checked os 8 .any (Rows.fnExactMeetFiltersSpec.pre6 enc Try.prog Try.f8 Rows.fnExactMeetFiltersRow.domain false) (Rows.fnExactMeetFiltersSpec.post enc Try.prog Try.f8 false true false false) := by
  refine returnsInHanded_of_change_sized (C := Try.checked) own started (by kernel_rfl) Try.func8
    (ChangeSpec.witness6 (enc := enc) (C := Try.checked) false ⟨#[], #[.agg #[.slice none 0 0], .agg #[.slice none 0 0]], []⟩ 8 (by kernel_rfl) (by kernel_rfl) (by kernel_rfl) (by kernel_rfl)) ?_
  intro W base args ds gs before hval0 hW hcnd hsz0 _
  have hval : ∀ (j : Nat) t v, Try.f8.params[j]? = some t → args[j]? = some v → Value.okWide Try.prog W .any base t v := hval0
  have hW' := hW
  obtain ⟨p, q, hA0, hV, rfl, hfz, hnd⟩ := hW
  have hA : DataW.TrodAll enc Try.prog W 0 (fun _ => true) true Try.f8.params.toList args.toList ds p := hA0
  rw [Try.params8] at hA hval
  obtain ⟨v0, vs0, d0, ds0, p0, q0, hargs, rfl, rfl, h0, r0⟩ := trodAll_cons hA
  obtain ⟨v1, vs1, d1, ds1, p1, q1, rfl, rfl, rfl, h1, r1⟩ := trodAll_cons r0
  obtain ⟨rfl, rfl, rfl⟩ := trodAll_nil r1
  obtain rfl : args = #[v0, v1] := by cases args; simp_all
  obtain ⟨rfl, rfl⟩ := trodVars_none hV
  obtain ⟨cs0, rfl, _⟩ := okWide_struct Try.underlying29 (hval 0 29 v0 rfl rfl)
  have k0 := h0
  have lt0 : ∀ x ∈ p0, x.block < W.heap.size := by obtain ⟨m, hm⟩ := k0; exact DataW.trod_lt m _ _ _ hm
  obtain ⟨l0_0, K0, g0⟩ := opens_arg op29t k0
  obtain ⟨A0_0, c0_0, hcs0, hc0_0, hr0_0⟩ : ∃ A0_0 c0_0, (cs0.toList = [.slice A0_0 l0_0.length c0_0]) ∧ l0_0.length ≤ c0_0 ∧ Kd.C Kd.bool W A0_0 l0_0.length l0_0 := by
    have K : (_ : Kd _).K W _ cs0.toList := K0
    clear K0
    generalize cs0.toList = q at K ⊢
    obtain ⟨A0_0, c0_0, rfl, hc0_0, hr0_0⟩ := K
    exact ⟨A0_0, c0_0, rfl, hc0_0, hr0_0⟩
  obtain rfl : cs0 = #[.slice A0_0 l0_0.length c0_0] := Array.toList_inj.1 hcs0
  obtain ⟨cs1, rfl, _⟩ := okWide_struct Try.underlying29 (hval 1 29 v1 rfl rfl)
  have k1 := h1
  have lt1 : ∀ x ∈ p1, x.block < W.heap.size := by obtain ⟨m, hm⟩ := k1; exact DataW.trod_lt m _ _ _ hm
  obtain ⟨l1_0, K1, g1⟩ := opens_arg op29t k1
  obtain ⟨A1_0, c1_0, hcs1, hc1_0, hr1_0⟩ : ∃ A1_0 c1_0, (cs1.toList = [.slice A1_0 l1_0.length c1_0]) ∧ l1_0.length ≤ c1_0 ∧ Kd.C Kd.bool W A1_0 l1_0.length l1_0 := by
    have K : (_ : Kd _).K W _ cs1.toList := K1
    clear K1
    generalize cs1.toList = q at K ⊢
    obtain ⟨A1_0, c1_0, rfl, hc1_0, hr1_0⟩ := K
    exact ⟨A1_0, c1_0, rfl, hc1_0, hr1_0⟩
  obtain rfl : cs1 = #[.slice A1_0 l1_0.length c1_0] := Array.toList_inj.1 hcs1
  clear hA0 hval0 hsz0
  obtain ⟨k, hk⟩ := Pure.FnExactMeetFilters l0_0 l1_0 g0 g1
  refine (laws_FnExactMeetFilters.calls k _ _ l0_0 _ _ l1_0 true W hr0_0 hc0_0 hr1_0 hc1_0 hk).mono ?_
  rintro e W' ⟨rfl, hd⟩
  have bel : Below W.heap.size W W' := by first | exact hd | exact hd.below
  exact ⟨_, rfl, _, _, _, [], _, [], hW', trodAll_mk1 (shut_bool Try.underlying4 _), (trodAll_cons_mk (Below.trod laidOut (by kernel_rfl) (of_decide_eq_true (by kernel_rfl)) k0 bel lt0) (trodAll_cons_mk (Below.trod laidOut (by kernel_rfl) (of_decide_eq_true (by kernel_rfl)) k1 bel lt1) trodAll_mk0)), rfl, bel.frame _, fun h => by cases h⟩
theorem over : Rows.fnExactMeetFiltersRow.holds Try.pinned (OpenSpec.ofChange Rows.fnExactMeetFiltersSpec) :=
  OpenClaim.holds_of_wide 8 Try.f8 rfl rfl rfl rfl rfl rfl rfl ⟨rfl, rfl, rfl, rfl, rfl⟩ rfl rfl rfl rfl rfl (by kernel_rfl) Try.func8 (by kernel_rfl)
    (of_decide_eq_true (by kernel_rfl)) (by unfold Func.isWrapper; first | (rw [if_pos (by decide +kernel)]; kernel_rfl) | (rw [if_neg (by decide +kernel)]; exact ⟨rfl, rfl⟩))
    (fun os started H enc _ => lifted os started H enc)
theorem proved : Rows.FnExactMeetFiltersSaid := over
#print axioms proved
end Go.Proofs.Ytflmebbcgbejfaa.fnExactMeetFilters
namespace Go.Proofs.Ytflmebbcgbejfaa
/-- The row, under a short name, for the claim. -/
theorem fnExactMeetFilters_holds : Rows.FnExactMeetFiltersSaid := fnExactMeetFilters.proved
end Go.Proofs.Ytflmebbcgbejfaa
