/- The program's OnesIn and the reference's answer the same for every filter. No condition. -/
import Derived.Test.YtflmebbcgbejfaaPureDefFnExactOnesIn
import Derived.Test.YtflmebbcgbejfaaLib
namespace Go.Proofs.Ytflmebbcgbejfaa.Pure
open Go.RowKit Go.Proofs.Ytflmebbcgbejfaa.PFnExactOnesIn Go.Proofs.YtflmebbcgbejfaaW.PrintWords Go.Proofs.YtflmebbcgbejfaaW.PrintLast Go.Proofs.Ytflmebbcgbejfaa.Lib0

theorem toBools_l (xs : List Bool) (hx : xs.length ≤ 1048576) (d : Nat) : ∀ (i : Nat) (out : List Bool) (k : Nat), i + d = xs.length → out.length = xs.length → d < k → laws_toBoolS.l0 k xs out i = some (out.take i ++ xs.drop i) := by
  induction d with
  | zero =>
    intro i out k h1 h2 hk
    obtain ⟨k, rfl⟩ : ∃ m, k = m + 1 := ⟨k - 1, by omega⟩
    simp only [laws_toBoolS.l0]
    rw [if_neg (by omega), List.take_of_length_le (by omega), List.drop_of_length_le (by omega), List.append_nil]
  | succ d ih =>
    intro i out k h1 h2 hk
    obtain ⟨k, rfl⟩ : ∃ m, k = m + 1 := ⟨k - 1, by omega⟩
    simp only [laws_toBoolS.l0]
    rw [if_pos (by omega), if_pos (by omega), if_pos (by omega), i_succ i (by omega), rdOf_at _ _ _ (by omega : i < xs.length), Int.toNat_natCast, ih (i + 1) _ k (by omega) (by simpa using h2) (by omega), copy_step _ _ _ (by omega) (by omega)]

theorem toBools (xs : List Bool) (hx : xs.length ≤ 1048576) (k : Nat) (hk : xs.length < k) : laws_toBoolS.f k xs = some xs := by
  unfold laws_toBoolS.f
  rw [if_pos (by omega), if_pos (by omega), show ((0 : Int)) = ((0 : Nat) : Int) from rfl, toBools_l xs hx xs.length 0 _ k (by omega) (by simp) hk]
  simp

theorem eqBools_l (xs : List Bool) (hx : xs.length ≤ 1048576) (d : Nat) : ∀ (i : Nat) (k : Nat), i + d = xs.length → d < k → laws_eqBoolS.l0 k xs xs i = some true := by
  induction d with
  | zero =>
    intro i k h1 hk
    obtain ⟨k, rfl⟩ : ∃ m, k = m + 1 := ⟨k - 1, by omega⟩
    simp only [laws_eqBoolS.l0]
    rw [if_neg (by omega)]
  | succ d ih =>
    intro i k h1 hk
    obtain ⟨k, rfl⟩ : ∃ m, k = m + 1 := ⟨k - 1, by omega⟩
    simp only [laws_eqBoolS.l0]
    rw [if_pos (by omega), if_pos (by omega), if_pos (by omega), if_neg (by simp), i_succ i (by omega), ih (i + 1) k (by omega) (by omega)]

theorem eqBools (xs : List Bool) (hx : xs.length ≤ 1048576) (k : Nat) (hk : xs.length < k) : laws_eqBoolS.f k xs xs = some true := by
  unfold laws_eqBoolS.f
  rw [if_pos rfl]
  exact eqBools_l xs hx xs.length 0 k (by omega) hk

/-- How many of the rest are set. -/
def ones (l : List Bool) : Int := (l.filter id).length

theorem specOnes_l (xs : List Bool) (hx : xs.length = 64) (d : Nat) : ∀ (i : Nat) (n : Int) (k : Nat), i + d = xs.length → 0 ≤ n → n ≤ i → d < k → spec_OnesIn.l0 k n xs xs.length i = some (n + ones (xs.drop i), true) := by
  induction d with
  | zero =>
    intro i n k h1 h2 h3 hk
    obtain ⟨k, rfl⟩ : ∃ m, k = m + 1 := ⟨k - 1, by omega⟩
    simp only [spec_OnesIn.l0]
    rw [if_neg (by omega), List.drop_of_length_le (by omega)]
    simp [ones]
  | succ d ih =>
    intro i n k h1 h2 h3 hk
    obtain ⟨k, rfl⟩ : ∃ m, k = m + 1 := ⟨k - 1, by omega⟩
    simp only [spec_OnesIn.l0]
    rw [if_pos (by omega), if_pos (by omega), if_pos (by omega), i_succ i (by omega), rdOf_at _ _ _ (by omega : i < xs.length), drop_cons xs i (by omega)]
    unfold spec_l8Bit.f
    cases hb : xs[i]'(by omega) with
    | true =>
      rw [if_pos rfl]
      simp only [Option.bind_some]
      rw [w64 (by omega) (by omega), ih (i + 1) (n + 1) k (by omega) (by omega) (by omega) (by omega)]
      simp [ones]
      omega
    | false =>
      rw [if_neg (by decide)]
      simp only [Option.bind_some]
      rw [w64 (by omega) (by omega), Int.add_zero, ih (i + 1) n k (by omega) (by omega) (by omega) (by omega)]
      simp [ones]

theorem implOnes_l (xs : List Bool) (hx : xs.length = 64) (d : Nat) : ∀ (i : Nat) (n : Int) (k : Nat), i + d = xs.length → 0 ≤ n → n ≤ i → d < k → impl_OnesIn.l0 k n xs xs.length i = some (n + ones (xs.drop i), true) := by
  induction d with
  | zero =>
    intro i n k h1 h2 h3 hk
    obtain ⟨k, rfl⟩ : ∃ m, k = m + 1 := ⟨k - 1, by omega⟩
    simp only [impl_OnesIn.l0]
    rw [if_neg (by omega), List.drop_of_length_le (by omega)]
    simp [ones]
  | succ d ih =>
    intro i n k h1 h2 h3 hk
    obtain ⟨k, rfl⟩ : ∃ m, k = m + 1 := ⟨k - 1, by omega⟩
    simp only [impl_OnesIn.l0]
    rw [if_pos (by omega), if_pos (by omega), if_pos (by omega), i_succ i (by omega), rdOf_at _ _ _ (by omega : i < xs.length), drop_cons xs i (by omega)]
    cases hb : xs[i]'(by omega) with
    | true =>
      rw [if_pos rfl, w64 (by omega) (by omega), ih (i + 1) (n + 1) k (by omega) (by omega) (by omega) (by omega)]
      simp [ones]
      omega
    | false =>
      rw [if_neg (by decide), ih (i + 1) n k (by omega) (by omega) (by omega) (by omega)]
      simp [ones]

/-- What both answer. -/
def told (xs : List Bool) : Int × Bool := if xs.length = 64 then (ones xs, true) else (0, false)
theorem specOnes (xs : List Bool) (k : Nat) (hk : 64 < k) : spec_OnesIn.f k xs = some (told xs) := by
  unfold spec_OnesIn.f spec_GoodFilter.f told
  simp only [Option.bind_some]
  by_cases h : xs.length = 64
  · rw [if_pos (by simp; omega), if_pos h, show ((0 : Int)) = ((0 : Nat) : Int) from rfl, specOnes_l xs h 64 0 _ k (by omega) (by omega) (by omega) hk]
    simp
  · rw [if_neg (by simp; omega), if_neg h]
theorem implOnes (xs : List Bool) (k : Nat) (hk : 64 < k) : impl_OnesIn.f k xs = some (told xs) := by
  unfold impl_OnesIn.f impl_GoodFilter.f told
  simp only [Option.bind_some]
  by_cases h : xs.length = 64
  · rw [if_pos (by simp; omega), if_pos h, show ((0 : Int)) = ((0 : Nat) : Int) from rfl, implOnes_l xs h 64 0 _ k (by omega) (by omega) (by omega) hk]
    simp
  · rw [if_neg (by simp; omega), if_neg h]

theorem FnExactOnesIn : laws_FnExactOnesIn.Pure := by
  intro xs ⟨hx, _⟩
  unfold maxLen at hx
  refine ⟨1048600, ?_⟩
  unfold laws_FnExactOnesIn.f laws_szFilter.f laws_szBoolS.f
  rw [w64 (by omega) (by omega)]
  by_cases h : (1048576 : Int) - xs.length < 0
  · rw [if_pos h]
    simp
  · rw [if_neg h]
    simp only [Option.bind_some]
    rw [if_neg h]
    simp only [Option.bind_some]
    rw [if_neg h]
    unfold laws_toFilter.f
    rw [toBools xs (by omega) _ (by omega)]
    simp only [Option.bind_some]
    rw [specOnes xs _ (by omega), implOnes xs _ (by omega)]
    simp only [Option.bind_some, if_true]
    simp only [laws_FnExactOnesIn.j0, laws_toFilter.f, laws_eqFilter.f]
    rw [if_neg (by simp), toBools xs (by omega) _ (by omega)]
    simp only [Option.bind_some]
    rw [eqBools xs (by omega) _ (by omega)]
    simp

end Go.Proofs.Ytflmebbcgbejfaa.Pure
