/- The row of FnExactUsesIn: whatever the arguments that can be read, the law answers true and the arguments read as they did. No condition. Written by a program of this session out of the printed contract. -/
import Derived.Test.YtgnijlfakjjfcaaRows
import Derived.Test.YtgnijlfakjjfcaaXFnExactUsesInx12
import Derived.Test.YtgnijlfakjjfcaaPureFnExactUsesIn
import Derived.Test.YtgnijlfakjjfcaaOpens
import Derived.WalkKit
import Derived.ProofKit
import Derived.OpenShut
import Derived.ShutString
import Derived.ChangeOld
import Derived.Below
import Derived.SizedLaws
namespace Go.Proofs.Ytgnijlfakjjfcaa.fnExactUsesIn
open Go.ChangeShapes Go.WideShapes Go.ChangeAt Go.RowKit Go.Proofs.YtgnijlfakjjfcaaOpens Go.Proofs.YtgnijlfakjjfcaaW.PrintWords Go.Proofs.Ytgnijlfakjjfcaa.XFnExactUsesIn
open Go.ChangeMaps (open_string shut_string)
set_option linter.unusedVariables false
theorem own : ownKnob Try.prog.godebug = none := by kernel_rfl
theorem laidOut : laidOutB Try.prog = true := by kernel_rfl
theorem op9 : Opens Try.prog 9 Kd.string (fun s => s.size ≤ maxLen) := opens_string Try.underlying9 (by kernel_rfl)
set_option maxRecDepth 100000 in
theorem op22t : Opens Try.prog 22 (Kd.slice 9 Kd.string) (fun x => (x.length ≤ maxLen ∧ ∀ y ∈ x, y.size ≤ maxLen)) := opens_slice (α := ByteArray) ByteArray.empty Try.underlying22 (by kernel_rfl) op9
theorem op4 : Opens Try.prog 4 Kd.bool (fun _ => True) := opens_bool Try.underlying4 (by kernel_rfl)
set_option maxRecDepth 100000 in
theorem op23t : Opens Try.prog 23 (Kd.slice 4 Kd.bool) (fun x => (x.length ≤ maxLen ∧ ∀ y ∈ x, True)) := opens_slice (α := Bool) false Try.underlying23 (by kernel_rfl) op4
set_option maxRecDepth 100000 in
theorem op25t : Opens Try.prog 25 (Kd.iso (Kd.pair (Kd.slice 9 Kd.string) (Kd.pair (Kd.slice 9 Kd.string) (Kd.slice 4 Kd.bool))) id) (fun x => ((x.1.length ≤ maxLen ∧ ∀ y ∈ x.1, y.size ≤ maxLen) ∧ (x.2.1.length ≤ maxLen ∧ ∀ y ∈ x.2.1, y.size ≤ maxLen) ∧ (x.2.2.length ≤ maxLen ∧ ∀ y ∈ x.2.2, True))) := opens_struct (P := Try.prog) (t := 25) id id (fun _ => rfl) (by exact Try.underlying25) (by kernel_rfl) (opens_cons op22t (opens_cons op22t (opens_last op23t)))
theorem op3 : Opens Try.prog 3 (Kd.int .i64) (fun n => (Lit.int .i64 n).wf = true) := opens_int Try.underlying3 (by kernel_rfl)
set_option maxRecDepth 100000 in
theorem op26t : Opens Try.prog 26 (Kd.slice 3 (Kd.int .i64)) (fun x => (x.length ≤ maxLen ∧ ∀ y ∈ x, (Lit.int .i64 y).wf = true)) := opens_slice (α := Int) (0 : Int) Try.underlying26 (by kernel_rfl) op3
theorem op3t : Opens Try.prog 3 (Kd.int .i64) (fun n => (Lit.int .i64 n).wf = true) := opens_int Try.underlying3 (by kernel_rfl)
set_option maxRecDepth 100000 in
theorem op28t : Opens Try.prog 28 (Kd.iso (Kd.pair (Kd.iso (Kd.pair (Kd.slice 9 Kd.string) (Kd.pair (Kd.slice 9 Kd.string) (Kd.slice 4 Kd.bool))) id) (Kd.pair (Kd.slice 3 (Kd.int .i64)) (Kd.pair (Kd.int .i64) (Kd.int .i64)))) id) (fun x => (((x.1.1.length ≤ maxLen ∧ ∀ y ∈ x.1.1, y.size ≤ maxLen) ∧ (x.1.2.1.length ≤ maxLen ∧ ∀ y ∈ x.1.2.1, y.size ≤ maxLen) ∧ (x.1.2.2.length ≤ maxLen ∧ ∀ y ∈ x.1.2.2, True)) ∧ (x.2.1.length ≤ maxLen ∧ ∀ y ∈ x.2.1, (Lit.int .i64 y).wf = true) ∧ (Lit.int .i64 x.2.2.1).wf = true ∧ (Lit.int .i64 x.2.2.2).wf = true)) := opens_struct (P := Try.prog) (t := 28) id id (fun _ => rfl) (by exact Try.underlying28) (by kernel_rfl) (opens_cons op25t (opens_cons op26t (opens_cons op3t (opens_last op3t))))
set_option maxRecDepth 100000 in
theorem op26 : Opens Try.prog 26 (Kd.slice 3 (Kd.int .i64)) (fun x => (x.length ≤ maxLen ∧ ∀ y ∈ x, (Lit.int .i64 y).wf = true)) := opens_slice (α := Int) (0 : Int) Try.underlying26 (by kernel_rfl) op3
set_option maxRecDepth 100000 in
theorem op49t : Opens Try.prog 49 (Kd.slice 26 (Kd.slice 3 (Kd.int .i64))) (fun x => (x.length ≤ maxLen ∧ ∀ y ∈ x, (y.length ≤ maxLen ∧ ∀ z ∈ y, (Lit.int .i64 z).wf = true))) := opens_slice (α := List Int) [] Try.underlying49 (by kernel_rfl) op26
set_option maxRecDepth 100000 in
theorem op51t : Opens Try.prog 51 (Kd.iso (Kd.pair (Kd.iso (Kd.pair (Kd.iso (Kd.pair (Kd.slice 9 Kd.string) (Kd.pair (Kd.slice 9 Kd.string) (Kd.slice 4 Kd.bool))) id) (Kd.pair (Kd.slice 3 (Kd.int .i64)) (Kd.pair (Kd.int .i64) (Kd.int .i64)))) id) (Kd.pair (Kd.slice 26 (Kd.slice 3 (Kd.int .i64))) (Kd.slice 3 (Kd.int .i64)))) id) (fun x => ((((x.1.1.1.length ≤ maxLen ∧ ∀ y ∈ x.1.1.1, y.size ≤ maxLen) ∧ (x.1.1.2.1.length ≤ maxLen ∧ ∀ y ∈ x.1.1.2.1, y.size ≤ maxLen) ∧ (x.1.1.2.2.length ≤ maxLen ∧ ∀ y ∈ x.1.1.2.2, True)) ∧ (x.1.2.1.length ≤ maxLen ∧ ∀ y ∈ x.1.2.1, (Lit.int .i64 y).wf = true) ∧ (Lit.int .i64 x.1.2.2.1).wf = true ∧ (Lit.int .i64 x.1.2.2.2).wf = true) ∧ (x.2.1.length ≤ maxLen ∧ ∀ y ∈ x.2.1, (y.length ≤ maxLen ∧ ∀ z ∈ y, (Lit.int .i64 z).wf = true)) ∧ (x.2.2.length ≤ maxLen ∧ ∀ y ∈ x.2.2, (Lit.int .i64 y).wf = true))) := opens_struct (P := Try.prog) (t := 51) id id (fun _ => rfl) (by exact Try.underlying51) (by kernel_rfl) (opens_cons op28t (opens_cons op49t (opens_last op26t)))
set_option maxRecDepth 100000 in
theorem lifted (os : Os) (started : os.Started) (H : Type) (enc : TypeId × Value → H) :
    ReturnsInHanded {} Try.checked os 7 .any (Rows.fnExactUsesInSpec.pre6 enc Try.prog Try.f7 Rows.fnExactUsesInRow.domain false) (Rows.fnExactUsesInSpec.post enc Try.prog Try.f7 false true false false) := by
  refine returnsInHanded_of_change_sized (C := Try.checked) own started (by kernel_rfl) Try.func7
    (ChangeSpec.witness6 (enc := enc) (C := Try.checked) false ⟨#[], #[.agg #[.slice none 0 0, .slice none 0 0, .slice none 0 0, .slice none 0 0, .int .i64 0, .int .i64 0, .slice none 0 0, .slice none 0 0]], []⟩ 8 (by kernel_rfl) (by kernel_rfl) (by kernel_rfl) (by kernel_rfl)) ?_
  intro W base args ds gs before hval0 hW hcnd hsz0 _
  have hval : ∀ (j : Nat) t v, Try.f7.params[j]? = some t → args[j]? = some v → Value.okWide Try.prog W .any base t v := hval0
  have hW' := hW
  obtain ⟨p, q, hA0, hV, rfl, hfz, hnd⟩ := hW
  have hA : DataW.TrodAll enc Try.prog W 0 (fun _ => true) true Try.f7.params.toList args.toList ds p := hA0
  rw [Try.params7] at hA hval
  obtain ⟨v0, vs0, d0, ds0, p0, q0, hargs, rfl, rfl, h0, r0⟩ := trodAll_cons hA
  obtain ⟨rfl, rfl, rfl⟩ := trodAll_nil r0
  obtain rfl : args = #[v0] := by cases args; simp_all
  obtain ⟨rfl, rfl⟩ := trodVars_none hV
  obtain ⟨cs0, rfl, _⟩ := okWide_struct Try.underlying51 (hval 0 51 v0 rfl rfl)
  have k0 := h0
  have lt0 : ∀ x ∈ p0, x.block < W.heap.size := by obtain ⟨m, hm⟩ := k0; exact DataW.trod_lt m _ _ _ hm
  obtain ⟨⟨⟨⟨l0_0, l0_1, l0_2⟩, l0_3, a0_4, a0_5⟩, l0_6, l0_7⟩, K0, g0⟩ := opens_arg op51t k0
  obtain ⟨A0_0, c0_0, A0_1, c0_1, A0_2, c0_2, A0_3, c0_3, A0_6, c0_6, A0_7, c0_7, hcs0, hc0_0, hr0_0, hc0_1, hr0_1, hc0_2, hr0_2, hc0_3, hr0_3, hc0_6, hr0_6, hc0_7, hr0_7⟩ : ∃ A0_0 c0_0 A0_1 c0_1 A0_2 c0_2 A0_3 c0_3 A0_6 c0_6 A0_7 c0_7, (cs0.toList = [.slice A0_0 l0_0.length c0_0, .slice A0_1 l0_1.length c0_1, .slice A0_2 l0_2.length c0_2, .slice A0_3 l0_3.length c0_3, .int .i64 a0_4, .int .i64 a0_5, .slice A0_6 l0_6.length c0_6, .slice A0_7 l0_7.length c0_7]) ∧ l0_0.length ≤ c0_0 ∧ Kd.C Kd.string W A0_0 l0_0.length l0_0 ∧ l0_1.length ≤ c0_1 ∧ Kd.C Kd.string W A0_1 l0_1.length l0_1 ∧ l0_2.length ≤ c0_2 ∧ Kd.C Kd.bool W A0_2 l0_2.length l0_2 ∧ l0_3.length ≤ c0_3 ∧ Kd.C (Kd.int .i64) W A0_3 l0_3.length l0_3 ∧ l0_6.length ≤ c0_6 ∧ Kd.C (Kd.slice 3 (Kd.int .i64)) W A0_6 l0_6.length l0_6 ∧ l0_7.length ≤ c0_7 ∧ Kd.C (Kd.int .i64) W A0_7 l0_7.length l0_7 := by
    have K : (_ : Kd _).K W _ cs0.toList := K0
    clear K0
    generalize cs0.toList = q at K ⊢
    obtain ⟨_, _, rfl, ⟨_, _, rfl, ⟨_, _, rfl, ⟨A0_0, c0_0, rfl, hc0_0, hr0_0⟩, ⟨_, _, rfl, ⟨A0_1, c0_1, rfl, hc0_1, hr0_1⟩, ⟨A0_2, c0_2, rfl, hc0_2, hr0_2⟩⟩⟩, ⟨_, _, rfl, ⟨A0_3, c0_3, rfl, hc0_3, hr0_3⟩, ⟨_, _, rfl, rfl, rfl⟩⟩⟩, ⟨_, _, rfl, ⟨A0_6, c0_6, rfl, hc0_6, hr0_6⟩, ⟨A0_7, c0_7, rfl, hc0_7, hr0_7⟩⟩⟩ := K
    exact ⟨A0_0, c0_0, A0_1, c0_1, A0_2, c0_2, A0_3, c0_3, A0_6, c0_6, A0_7, c0_7, rfl, hc0_0, hr0_0, hc0_1, hr0_1, hc0_2, hr0_2, hc0_3, hr0_3, hc0_6, hr0_6, hc0_7, hr0_7⟩
  obtain rfl : cs0 = #[.slice A0_0 l0_0.length c0_0, .slice A0_1 l0_1.length c0_1, .slice A0_2 l0_2.length c0_2, .slice A0_3 l0_3.length c0_3, .int .i64 a0_4, .int .i64 a0_5, .slice A0_6 l0_6.length c0_6, .slice A0_7 l0_7.length c0_7] := Array.toList_inj.1 hcs0
  clear hA0 hval0 hsz0
  obtain ⟨k, hk⟩ := Pure.FnExactUsesIn l0_0 l0_1 l0_2 l0_3 a0_4 a0_5 l0_6 l0_7 g0.1.1.1 g0.1.1.2.1 g0.1.1.2.2 g0.1.2.1 g0.1.2.2.1 g0.1.2.2.2 g0.2.1 g0.2.2
  refine (laws_FnExactUsesIn.calls k _ _ l0_0 _ _ l0_1 _ _ l0_2 _ _ l0_3 a0_4 a0_5 _ _ l0_6 _ _ l0_7 true W hr0_0 hc0_0 hr0_1 hc0_1 hr0_2 hc0_2 hr0_3 hc0_3 hr0_6 hc0_6 hr0_7 hc0_7 hk).mono ?_
  rintro e W' ⟨rfl, hd⟩
  have bel : Below W.heap.size W W' := by first | exact hd | exact hd.below
  exact ⟨_, rfl, _, _, _, [], _, [], hW', trodAll_mk1 (shut_bool Try.underlying4 _), (trodAll_cons_mk (Below.trod laidOut (by kernel_rfl) (of_decide_eq_true (by kernel_rfl)) k0 bel lt0) trodAll_mk0), rfl, bel.frame _, fun h => by cases h⟩
theorem over : Rows.fnExactUsesInRow.holds Try.pinned (OpenSpec.ofChange Rows.fnExactUsesInSpec) :=
  OpenClaim.holds_of_wide 7 Try.f7 rfl rfl rfl rfl rfl rfl rfl ⟨rfl, rfl, rfl, rfl, rfl⟩ rfl rfl rfl rfl rfl (by kernel_rfl) Try.func7 (by kernel_rfl)
    (of_decide_eq_true (by kernel_rfl)) (by unfold Func.isWrapper; first | (rw [if_pos (by decide +kernel)]; kernel_rfl) | (rw [if_neg (by decide +kernel)]; exact ⟨rfl, rfl⟩))
    (fun os started H enc _ => lifted os started H enc)
theorem proved : Rows.FnExactUsesInSaid := over
#print axioms proved
end Go.Proofs.Ytgnijlfakjjfcaa.fnExactUsesIn
namespace Go.Proofs.Ytgnijlfakjjfcaa
/-- The row, under a short name, for the claim. -/
theorem fnExactUsesIn_holds : Rows.FnExactUsesInSaid := fnExactUsesIn.proved
end Go.Proofs.Ytgnijlfakjjfcaa
