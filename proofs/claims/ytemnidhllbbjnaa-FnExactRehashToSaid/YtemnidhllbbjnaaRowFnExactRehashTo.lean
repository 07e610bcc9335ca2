/- The row of FnExactRehashTo: whatever the arguments that can be read, the law answers true and the arguments read as they did. No condition. Written by a program of this session out of the printed contract. -/
import Derived.Test.YtemnidhllbbjnaaRows
import Derived.Test.YtemnidhllbbjnaaXFnExactRehashTox12
import Derived.Test.YtemnidhllbbjnaaPureFnExactRehashTo
import Derived.Test.YtemnidhllbbjnaaOpens
import Derived.WalkKit
import Derived.ProofKit
import Derived.OpenShut
import Derived.ShutString
import Derived.ChangeOld
import Derived.Below
import Derived.SizedLaws
namespace Go.Proofs.Ytemnidhllbbjnaa.fnExactRehashTo
open Go.ChangeShapes Go.WideShapes Go.ChangeAt Go.RowKit Go.Proofs.YtemnidhllbbjnaaOpens Go.Proofs.YtemnidhllbbjnaaW.PrintWords Go.Proofs.Ytemnidhllbbjnaa.XFnExactRehashTo
open Go.ChangeMaps (open_string shut_string)
set_option linter.unusedVariables false
theorem own : ownKnob Try.prog.godebug = none := by kernel_rfl
theorem laidOut : laidOutB Try.prog = true := by kernel_rfl
theorem op3t : Opens Try.prog 3 (Kd.int .i64) (fun n => (Lit.int .i64 n).wf = true) := opens_int Try.underlying3 (by kernel_rfl)
theorem op4 : Opens Try.prog 4 Kd.bool (fun _ => True) := opens_bool Try.underlying4 (by kernel_rfl)
theorem op3 : Opens Try.prog 3 (Kd.int .i64) (fun n => (Lit.int .i64 n).wf = true) := opens_int Try.underlying3 (by kernel_rfl)
set_option maxRecDepth 100000 in
theorem op99 : Opens Try.prog 99 k99 (fun x => (True ∧ (Lit.int .i64 x.f1).wf = true ∧ (Lit.int .i64 x.f2).wf = true)) := by
  have r := opens_struct (P := Try.prog) (t := 99) (fun x : S99 => (x.f0, x.f1, x.f2)) (fun p : Bool × Int × Int => ⟨p.1, p.2.1, p.2.2⟩) (fun _ => rfl) (by exact Try.underlying99) (by kernel_rfl) (opens_cons op4 (opens_cons op3 (opens_last op3)))
  exact r
set_option maxRecDepth 100000 in
theorem op37t : Opens Try.prog 37 (Kd.slice 99 k99) (fun x => (x.length ≤ maxLen ∧ ∀ y ∈ x, (True ∧ (Lit.int .i64 y.f1).wf = true ∧ (Lit.int .i64 y.f2).wf = true))) := opens_slice (α := S99) z99 Try.underlying37 (by kernel_rfl) op99
set_option maxRecDepth 100000 in
theorem op39t : Opens Try.prog 39 (Kd.iso (Kd.pair (Kd.int .i64) (Kd.pair (Kd.slice 99 k99) (Kd.pair (Kd.slice 99 k99) (Kd.int .i64)))) id) (fun x => ((Lit.int .i64 x.1).wf = true ∧ (x.2.1.length ≤ maxLen ∧ ∀ y ∈ x.2.1, (True ∧ (Lit.int .i64 y.f1).wf = true ∧ (Lit.int .i64 y.f2).wf = true)) ∧ (x.2.2.1.length ≤ maxLen ∧ ∀ y ∈ x.2.2.1, (True ∧ (Lit.int .i64 y.f1).wf = true ∧ (Lit.int .i64 y.f2).wf = true)) ∧ (Lit.int .i64 x.2.2.2).wf = true)) := opens_struct (P := Try.prog) (t := 39) id id (fun _ => rfl) (by exact Try.underlying39) (by kernel_rfl) (opens_cons op3t (opens_cons op37t (opens_cons op37t (opens_last op3t))))
set_option maxRecDepth 100000 in
theorem lifted (os : Os) (started : os.Started) (H : Type) (enc : TypeId × Value → H) :
    ReturnsInHanded {} Try.checked os 5 .any (Rows.fnExactRehashToSpec.pre6 enc Try.prog Try.f5 Rows.fnExactRehashToRow.domain false) (Rows.fnExactRehashToSpec.post enc Try.prog Try.f5 false true false false) := by
  refine returnsInHanded_of_change_sized (C := Try.checked) own started (by kernel_rfl) Try.func5
    (ChangeSpec.witness6 (enc := enc) (C := Try.checked) false ⟨#[], #[.agg #[.int .i64 0, .slice none 0 0, .slice none 0 0, .int .i64 0], .int .i64 0], []⟩ 8 (by kernel_rfl) (by kernel_rfl) (by kernel_rfl) (by kernel_rfl)) ?_
  intro W base args ds gs before hval0 hW hcnd hsz0 _
  have hval : ∀ (j : Nat) t v, Try.f5.params[j]? = some t → args[j]? = some v → Value.okWide Try.prog W .any base t v := hval0
  have hW' := hW
  obtain ⟨p, q, hA0, hV, rfl, hfz, hnd⟩ := hW
  have hA : DataW.TrodAll enc Try.prog W 0 (fun _ => true) true Try.f5.params.toList args.toList ds p := hA0
  rw [Try.params5] at hA hval
  obtain ⟨v0, vs0, d0, ds0, p0, q0, hargs, rfl, rfl, h0, r0⟩ := trodAll_cons hA
  obtain ⟨v1, vs1, d1, ds1, p1, q1, rfl, rfl, rfl, h1, r1⟩ := trodAll_cons r0
  obtain ⟨rfl, rfl, rfl⟩ := trodAll_nil r1
  obtain rfl : args = #[v0, v1] := by cases args; simp_all
  obtain ⟨rfl, rfl⟩ := trodVars_none hV
  obtain ⟨cs0, rfl, _⟩ := okWide_struct Try.underlying39 (hval 0 39 v0 rfl rfl)
  have k0 := h0
  have lt0 : ∀ x ∈ p0, x.block < W.heap.size := by obtain ⟨m, hm⟩ := k0; exact DataW.trod_lt m _ _ _ hm
  obtain ⟨⟨a0_0, l0_1, l0_2, a0_3⟩, K0, g0⟩ := opens_arg op39t k0
  obtain ⟨A0_1, c0_1, A0_2, c0_2, hcs0, hc0_1, hr0_1, hc0_2, hr0_2⟩ : ∃ A0_1 c0_1 A0_2 c0_2, (cs0.toList = [.int .i64 a0_0, .slice A0_1 l0_1.length c0_1, .slice A0_2 l0_2.length c0_2, .int .i64 a0_3]) ∧ l0_1.length ≤ c0_1 ∧ Kd.C k99 W A0_1 l0_1.length l0_1 ∧ l0_2.length ≤ c0_2 ∧ Kd.C k99 W A0_2 l0_2.length l0_2 := by
    have K : (_ : Kd _).K W _ cs0.toList := K0
    clear K0
    generalize cs0.toList = q at K ⊢
    obtain ⟨_, _, rfl, rfl, ⟨_, _, rfl, ⟨A0_1, c0_1, rfl, hc0_1, hr0_1⟩, ⟨_, _, rfl, ⟨A0_2, c0_2, rfl, hc0_2, hr0_2⟩, rfl⟩⟩⟩ := K
    exact ⟨A0_1, c0_1, A0_2, c0_2, rfl, hc0_1, hr0_1, hc0_2, hr0_2⟩
  obtain rfl : cs0 = #[.int .i64 a0_0, .slice A0_1 l0_1.length c0_1, .slice A0_2 l0_2.length c0_2, .int .i64 a0_3] := Array.toList_inj.1 hcs0
  obtain ⟨a1, rfl, rfl, rfl, w1⟩ := open_int Try.underlying3 (hval 1 3 v1 rfl rfl) h1
  clear hA0 hval0 hsz0
  obtain ⟨k, hk⟩ := Pure.FnExactRehashTo a0_0 l0_1 l0_2 a0_3 a1 g0.1 g0.2.1 g0.2.2.1 g0.2.2.2 w1
  refine (laws_FnExactRehashTo.calls k a0_0 _ _ l0_1 _ _ l0_2 a0_3 a1 true W hr0_1 hc0_1 hr0_2 hc0_2 hk).mono ?_
  rintro e W' ⟨rfl, hd⟩
  have bel : Below W.heap.size W W' := by first | exact hd | exact hd.below
  exact ⟨_, rfl, _, _, _, [], _, [], hW', trodAll_mk1 (shut_bool Try.underlying4 _), (trodAll_cons_mk (Below.trod laidOut (by kernel_rfl) (of_decide_eq_true (by kernel_rfl)) k0 bel lt0) (trodAll_cons_mk (shut_int Try.underlying3 w1) trodAll_mk0)), rfl, bel.frame _, fun h => by cases h⟩
theorem over : Rows.fnExactRehashToRow.holds Try.pinned (OpenSpec.ofChange Rows.fnExactRehashToSpec) :=
  OpenClaim.holds_of_wide 5 Try.f5 rfl rfl rfl rfl rfl rfl rfl ⟨rfl, rfl, rfl, rfl, rfl⟩ rfl rfl rfl rfl rfl (by kernel_rfl) Try.func5 (by kernel_rfl)
    (of_decide_eq_true (by kernel_rfl)) (by unfold Func.isWrapper; first | (rw [if_pos (by decide +kernel)]; kernel_rfl) | (rw [if_neg (by decide +kernel)]; exact ⟨rfl, rfl⟩))
    (fun os started H enc _ => lifted os started H enc)
theorem proved : Rows.FnExactRehashToSaid := over
#print axioms proved
end Go.Proofs.Ytemnidhllbbjnaa.fnExactRehashTo
namespace Go.Proofs.Ytemnidhllbbjnaa
/-- The row, under a short name, for the claim. -/
theorem fnExactRehashTo_holds : Rows.FnExactRehashToSaid := fnExactRehashTo.proved
end Go.Proofs.Ytemnidhllbbjnaa
