/- The row of FnExactNewScrub: whatever the arguments that can be read, the law answers true and the arguments read as they did. No condition. Written by a program of this session out of the law's contract. -/
import Derived.Test.YtgnijlfakjjfcaaGreatRows
import Derived.Test.YtgnijlfakjjfcaaGreatFNS
import Derived.Test.YtgnijlfakjjfcaaGreatPureFnExactNewScrub
import Derived.WalkKit
import Derived.ProofKit
import Derived.OpenShut
import Derived.ShutString
import Derived.ChangeOld
import Derived.Below
import Derived.SizedLaws
namespace Go.Proofs.YtgnijlfakjjfcaaGreat.fnExactNewScrub
open Go.ChangeShapes Go.WideShapes Go.ChangeAt Go.RowKit Go.Proofs.YtgnijlfakjjfcaaGreatE Go.Proofs.YtgnijlfakjjfcaaGreat
open Go.ChangeMaps (open_string shut_string)
set_option linter.unusedVariables false
theorem own : ownKnob Tryz.prog.godebug = none := by kernel_rfl
theorem laidOut : laidOutB Tryz.prog = true := by kernel_rfl
set_option maxRecDepth 100000 in
theorem lifted (os : Os) (started : os.Started) (H : Type) (enc : TypeId × Value → H) :
    ReturnsInHanded {} Tryz.checked os 3 .any (Rows.fnExactNewScrubSpec.pre6 enc Tryz.prog Tryz.f3 Rows.fnExactNewScrubRow.domain false) (Rows.fnExactNewScrubSpec.post enc Tryz.prog Tryz.f3 false true false false) := by
  refine returnsInHanded_of_change_sized (C := Tryz.checked) own started (by kernel_rfl) Tryz.func3
    (ChangeSpec.witness6 (enc := enc) (C := Tryz.checked) false ⟨#[], #[.slice none 0 0], []⟩ 8 (by kernel_rfl) (by kernel_rfl) (by kernel_rfl) (by kernel_rfl)) ?_
  intro W base args ds gs before hval0 hW hcnd hsz0 _
  have hval : ∀ (j : Nat) t v, Tryz.f3.params[j]? = some t → args[j]? = some v → Value.okWide Tryz.prog W .any base t v := hval0
  have hW' := hW
  obtain ⟨p, q, hA0, hV, rfl, hfz, hnd⟩ := hW
  have hA : DataW.TrodAll enc Tryz.prog W 0 (fun _ => true) true Tryz.f3.params.toList args.toList ds p := hA0
  rw [Tryz.params3] at hA hval
  obtain ⟨v0, vs0, d0, ds0, p0, q0, hargs, rfl, rfl, h0, r0⟩ := trodAll_cons hA
  obtain ⟨rfl, rfl, rfl⟩ := trodAll_nil r0
  obtain rfl : args = #[v0] := by cases args; simp_all
  obtain ⟨rfl, rfl⟩ := trodVars_none hV
  have k0 := h0
  have lt0 : ∀ x ∈ p0, x.block < W.heap.size := by obtain ⟨m, hm⟩ := k0; exact DataW.trod_lt m _ _ _ hm
  obtain ⟨aa0, ln0, cp0, rfl⟩ := okWide_slice Tryz.underlying22 (hval 0 22 v0 rfl rfl)
  obtain ⟨x0, r0', o0⟩ : ∃ x : Kind.den (.sl 9 .str), rep W (fun _ => True) (.sl 9 .str) x ([.slice aa0 ln0 cp0]) ∧ okK (.sl 9 .str) x := by
    obtain ⟨fuel, hf⟩ := k0
    exact trod_rep 8 hf (by kernel_rfl) (by kernel_rfl)
  clear hA0 hval0 hsz0
  obtain ⟨K, hK⟩ := lawNewScrub x0 o0
  refine (law_calls (w_FnExactNewScrub.ok K) rfl (ts := [.row 9 .str x0]) ⟨rfl, rfl⟩ (d := true) (b := true) ?_ rfl rfl ?_).mono ?_
  · refine Eq.trans ?_ (hK K (Nat.le_refl _))
    kernel_rfl
  · exact ⟨(rep_mono (fun g o _ hw => ⟨rfl, hw⟩) r0'), trivial⟩
  rintro e W' ⟨rfl, bel⟩
  exact ⟨_, rfl, _, _, _, [], _, [], hW', trodAll_mk1 (shut_bool Tryz.underlying4 _), (trodAll_cons_mk (Below.trod laidOut (by kernel_rfl) (of_decide_eq_true (by kernel_rfl)) k0 bel lt0) trodAll_mk0), rfl, bel.frame _, fun h => by cases h⟩
theorem over : Rows.fnExactNewScrubRow.holds Tryz.pinned (OpenSpec.ofChange Rows.fnExactNewScrubSpec) :=
  OpenClaim.holds_of_wide 3 Tryz.f3 rfl rfl rfl rfl rfl rfl rfl ⟨rfl, rfl, rfl, rfl, rfl⟩ rfl rfl rfl rfl rfl (by kernel_rfl) Tryz.func3 (by kernel_rfl)
    (of_decide_eq_true (by kernel_rfl)) (by unfold Func.isWrapper; first | (rw [if_pos (by decide +kernel)]; kernel_rfl) | (rw [if_neg (by decide +kernel)]; exact ⟨rfl, rfl⟩))
    (fun os started H enc _ => lifted os started H enc)
theorem proved : Rows.FnExactNewScrubSaid := over
#print axioms proved
end Go.Proofs.YtgnijlfakjjfcaaGreat.fnExactNewScrub
namespace Go.Proofs.YtgnijlfakjjfcaaGreat
/-- The row, under a short name, for the claim. -/
theorem fnExactNewScrub_holds : Rows.FnExactNewScrubSaid := fnExactNewScrub.proved
end Go.Proofs.YtgnijlfakjjfcaaGreat
