/- The program's OrderFor and the reference's OrderFor answer the same for every whole number; no condition. -/
import Derived.Test.YtflmebbcgbejfaaPFnExactOrderForx1
namespace Go.Proofs.Ytflmebbcgbejfaa.Pure
open Go.RowKit Go.Proofs.Ytflmebbcgbejfaa.PFnExactOrderFor Go.Proofs.YtflmebbcgbejfaaW.PrintWords Go.Proofs.YtflmebbcgbejfaaW.PrintLast

theorem inside : ∀ (a : Fin 33), laws_FnExactOrderFor.f 8 (a.val : Int) = some true := by decide +kernel

theorem FnExactOrderFor : laws_FnExactOrderFor.Pure := by
  intro a _
  refine ⟨8, ?_⟩
  by_cases ha : 0 ≤ a ∧ a ≤ 32
  · have h := inside ⟨a.toNat, by omega⟩
    have e1 : ((a.toNat : Nat) : Int) = a := by omega
    simp only [e1] at h
    exact h
  · have h1 : spec_OrderFor.f 8 a = some (0, false) := by
      unfold spec_OrderFor.f spec_l1In.f
      by_cases h0 : a ≥ 1
      · rw [if_pos h0]; simp only [Option.bind_some]; rw [if_neg (by simp; omega)]
      · rw [if_neg h0]; rfl
    have h2 : impl_OrderFor.f 8 a = some (0, false) := by
      unfold impl_OrderFor.f impl_within.f
      by_cases h0 : a ≥ 1
      · rw [if_pos h0]; simp only [Option.bind_some]; rw [if_neg (by simp; omega)]
      · rw [if_neg h0]; rfl
    unfold laws_FnExactOrderFor.f
    rw [h1, h2]; rfl

end Go.Proofs.Ytflmebbcgbejfaa.Pure
