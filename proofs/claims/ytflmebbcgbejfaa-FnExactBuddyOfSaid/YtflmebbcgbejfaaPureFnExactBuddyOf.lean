/- The program's BuddyOf and the reference's BuddyOf answer the same for every two whole numbers; no condition. -/
import Derived.Test.YtflmebbcgbejfaaPFnExactBuddyOfx1
namespace Go.Proofs.Ytflmebbcgbejfaa.Pure
open Go.RowKit Go.Proofs.Ytflmebbcgbejfaa.PFnExactBuddyOf Go.Proofs.YtflmebbcgbejfaaW.PrintWords Go.Proofs.YtflmebbcgbejfaaW.PrintLast

theorem inside : ∀ (a : Fin 32) (o : Fin 6), laws_FnExactBuddyOf.f (a.val : Int) (o.val : Int) = some true := by decide +kernel

theorem FnExactBuddyOf : laws_FnExactBuddyOf.Pure := by
  intro a o _ _
  by_cases ho : 0 ≤ o ∧ o ≤ 5
  · by_cases ha : 0 ≤ a ∧ a ≤ 31
    · have h := inside ⟨a.toNat, by omega⟩ ⟨o.toNat, by omega⟩
      have e1 : ((a.toNat : Nat) : Int) = a := by omega
      have e2 : ((o.toNat : Nat) : Int) = o := by omega
      simp only [e1, e2] at h
      exact h
    · have h1 : spec_BuddyOf.f a o = some (0, false) := by
        unfold spec_BuddyOf.f spec_l14Room.f spec_l1In.f
        rw [if_pos (by omega)]
        simp only [Option.bind_some]
        rw [if_pos (by simp; omega)]
        by_cases h0 : a ≥ 0
        · rw [if_pos h0]; simp only [Option.bind_some]; rw [if_neg (by simp; omega)]; rfl
        · rw [if_neg h0]; rfl
      have h2 : impl_BuddyOf.f a o = some (0, false) := by
        unfold impl_BuddyOf.f impl_isRoom.f impl_within.f
        rw [if_pos (by omega)]
        simp only [Option.bind_some]
        rw [if_pos (by simp; omega)]
        by_cases h0 : a ≥ 0
        · rw [if_pos h0]; simp only [Option.bind_some]; rw [if_neg (by simp; omega)]; rfl
        · rw [if_neg h0]; rfl
      unfold laws_FnExactBuddyOf.f
      rw [h1, h2]; rfl
  · have h1 : spec_BuddyOf.f a o = some (0, false) := by
      unfold spec_BuddyOf.f spec_l14Room.f spec_l1In.f
      by_cases h0 : o ≥ 0
      · rw [if_pos h0]; simp only [Option.bind_some]; rw [if_neg (by simp; omega)]; rfl
      · rw [if_neg h0]; rfl
    have h2 : impl_BuddyOf.f a o = some (0, false) := by
      unfold impl_BuddyOf.f impl_isRoom.f impl_within.f
      by_cases h0 : o ≥ 0
      · rw [if_pos h0]; simp only [Option.bind_some]; rw [if_neg (by simp; omega)]; rfl
      · rw [if_neg h0]; rfl
    unfold laws_FnExactBuddyOf.f
    rw [h1, h2]; rfl

end Go.Proofs.Ytflmebbcgbejfaa.Pure
