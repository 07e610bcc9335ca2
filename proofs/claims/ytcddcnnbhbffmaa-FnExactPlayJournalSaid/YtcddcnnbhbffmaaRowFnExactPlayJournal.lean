/- The row of FnExactPlayJournal: whatever the arguments that can be read, the law answers true and the arguments read as they did. No condition. Written by a program of this session out of the law's contract. -/
import Derived.Test.YtcddcnnbhbffmaaRows
import Derived.Test.YtcddcnnbhbffmaaFPJ
import Derived.Test.YtcddcnnbhbffmaaPureFnExactPlayJournal
import Derived.WalkKit
import Derived.ProofKit
import Derived.OpenShut
import Derived.ShutString
import Derived.ChangeOld
import Derived.Below
import Derived.SizedLaws
namespace Go.Proofs.Ytcddcnnbhbffmaa.fnExactPlayJournal
open Go.ChangeShapes Go.WideShapes Go.ChangeAt Go.RowKit Go.Proofs.YtcddcnnbhbffmaaE Go.Proofs.Ytcddcnnbhbffmaa
open Go.ChangeMaps (open_string shut_string)
set_option linter.unusedVariables false
theorem own : ownKnob Try.prog.godebug = none := by kernel_rfl
theorem laidOut : laidOutB Try.prog = true := by kernel_rfl
set_option maxRecDepth 100000 in
theorem lifted (os : Os) (started : os.Started) (H : Type) (enc : TypeId × Value → H) :
    ReturnsInHanded {} Try.checked os 9 .any (Rows.fnExactPlayJournalSpec.pre6 enc Try.prog Try.f9 Rows.fnExactPlayJournalRow.domain false) (Rows.fnExactPlayJournalSpec.post enc Try.prog Try.f9 false true false false) := by
  refine returnsInHanded_of_change_sized (C := Try.checked) own started (by kernel_rfl) Try.func9
    (ChangeSpec.witness6 (enc := enc) (C := Try.checked) false ⟨#[], #[.slice none 0 0], []⟩ 8 (by kernel_rfl) (by kernel_rfl) (by kernel_rfl) (by kernel_rfl)) ?_
  intro W base args ds gs before hval0 hW hcnd hsz0 _
  have hval : ∀ (j : Nat) t v, Try.f9.params[j]? = some t → args[j]? = some v → Value.okWide Try.prog W .any base t v := hval0
  have hW' := hW
  obtain ⟨p, q, hA0, hV, rfl, hfz, hnd⟩ := hW
  have hA : DataW.TrodAll enc Try.prog W 0 (fun _ => true) true Try.f9.params.toList args.toList ds p := hA0
  rw [Try.params9] at hA hval
  obtain ⟨v0, vs0, d0, ds0, p0, q0, hargs, rfl, rfl, h0, r0⟩ := trodAll_cons hA
  obtain ⟨rfl, rfl, rfl⟩ := trodAll_nil r0
  obtain rfl : args = #[v0] := by cases args; simp_all
  obtain ⟨rfl, rfl⟩ := trodVars_none hV
  have k0 := h0
  have lt0 : ∀ x ∈ p0, x.block < W.heap.size := by obtain ⟨m, hm⟩ := k0; exact DataW.trod_lt m _ _ _ hm
  obtain ⟨aa0, ln0, cp0, rfl⟩ := okWide_slice Try.underlying71 (hval 0 71 v0 rfl rfl)
  obtain ⟨x0, r0', o0⟩ : ∃ x : Kind.den (.sl 117 (.pair (.int .i64) (.pair (.sl 3 (.int .i64)) (.sl 3 (.int .i64))))), rep W (fun _ => True) (.sl 117 (.pair (.int .i64) (.pair (.sl 3 (.int .i64)) (.sl 3 (.int .i64))))) x ([.slice aa0 ln0 cp0]) ∧ okK (.sl 117 (.pair (.int .i64) (.pair (.sl 3 (.int .i64)) (.sl 3 (.int .i64))))) x := by
    obtain ⟨fuel, hf⟩ := k0
    exact trod_rep 8 hf (by kernel_rfl) (by kernel_rfl)
  clear hA0 hval0 hsz0
  obtain ⟨K, hK⟩ := lawPlayJournal x0 o0
  refine (law_calls (w_FnExactPlayJournal.ok K) rfl (ts := [.row 117 (.pair (.int .i64) (.pair (.sl 3 (.int .i64)) (.sl 3 (.int .i64)))) x0]) ⟨rfl, rfl⟩ (d := true) (b := true) ?_ rfl rfl ?_).mono ?_
  · refine Eq.trans ?_ (hK K (Nat.le_refl _))
    kernel_rfl
  · exact ⟨(rep_mono (fun g o _ hw => ⟨rfl, hw⟩) r0'), trivial⟩
  rintro e W' ⟨rfl, bel⟩
  exact ⟨_, rfl, _, _, _, [], _, [], hW', trodAll_mk1 (shut_bool Try.underlying4 _), (trodAll_cons_mk (Below.trod laidOut (by kernel_rfl) (of_decide_eq_true (by kernel_rfl)) k0 bel lt0) trodAll_mk0), rfl, bel.frame _, fun h => by cases h⟩
theorem over : Rows.fnExactPlayJournalRow.holds Try.pinned (OpenSpec.ofChange Rows.fnExactPlayJournalSpec) :=
  OpenClaim.holds_of_wide 9 Try.f9 rfl rfl rfl rfl rfl rfl rfl ⟨rfl, rfl, rfl, rfl, rfl⟩ rfl rfl rfl rfl rfl (by kernel_rfl) Try.func9 (by kernel_rfl)
    (of_decide_eq_true (by kernel_rfl)) (by unfold Func.isWrapper; first | (rw [if_pos (by decide +kernel)]; kernel_rfl) | (rw [if_neg (by decide +kernel)]; exact ⟨rfl, rfl⟩))
    (fun os started H enc _ => lifted os started H enc)
theorem proved : Rows.FnExactPlayJournalSaid := over
#print axioms proved
end Go.Proofs.Ytcddcnnbhbffmaa.fnExactPlayJournal
namespace Go.Proofs.Ytcddcnnbhbffmaa
/-- The row, under a short name, for the claim. -/
theorem fnExactPlayJournal_holds : Rows.FnExactPlayJournalSaid := fnExactPlayJournal.proved
end Go.Proofs.Ytcddcnnbhbffmaa
