/- The program's HalfOf and the reference's HalfOf answer the same for every whole number; no condition. -/
import Derived.Test.YtflmebbcgbejfaaPFnExactHalfOfx1
namespace Go.Proofs.Ytflmebbcgbejfaa.Pure
open Go.RowKit Go.Proofs.Ytflmebbcgbejfaa.PFnExactHalfOf Go.Proofs.YtflmebbcgbejfaaW.PrintWords Go.Proofs.YtflmebbcgbejfaaW.PrintLast

theorem same (a : Int) : impl_HalfOf.f a = spec_HalfOf.f a := rfl

theorem told (a : Int) : ∃ r, spec_HalfOf.f a = some r := by
  unfold spec_HalfOf.f spec_l1In.f spec_l15Half.f
  split
  · simp only [Option.bind_some]
    split <;> exact ⟨_, rfl⟩
  · exact ⟨_, rfl⟩

theorem FnExactHalfOf : laws_FnExactHalfOf.Pure := by
  intro a _
  obtain ⟨r, hr⟩ := told a
  unfold laws_FnExactHalfOf.f
  rw [same, hr]
  simp

end Go.Proofs.Ytflmebbcgbejfaa.Pure
