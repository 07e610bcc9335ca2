/- The program's MayHave and the reference's answer the same for every filter and every key. No condition. -/
import Derived.Test.YtlieapaegmjhnaaPureDefFnExactMayHave
import Derived.Test.YtlieapaegmjhnaaLib
import Derived.Test.YtlieapaegmjhnaaSets
namespace Go.Proofs.Ytlieapaegmjhnaa.Pure
open Go.RowKit Go.Proofs.Ytlieapaegmjhnaa.XFnExactMayHave Go.Proofs.YtlieapaegmjhnaaW.PrintWords Go.Proofs.YtlieapaegmjhnaaW.PrintLast Go.Proofs.Ytlieapaegmjhnaa.Lib0
set_option linter.unusedVariables false
set_option linter.unusedSimpArgs false

theorem toBoolS_l (xs : List Bool) (hx : xs.length ≤ 1048576) (d : Nat) : ∀ (i : Nat) (out : List Bool) (k : Nat), i + d = xs.length → out.length = xs.length → d < k → laws_toBoolS.l0 k xs out i = some (out.take i ++ xs.drop i) := by
  induction d with
  | zero =>
    intro i out k h1 h2 hk
    obtain ⟨k, rfl⟩ : ∃ m, k = m + 1 := ⟨k - 1, by omega⟩
    simp only [laws_toBoolS.l0]
    rw [if_neg (by omega), List.take_of_length_le (by omega), List.drop_of_length_le (by omega), List.append_nil]
  | succ d ih =>
    intro i out k h1 h2 hk
    obtain ⟨k, rfl⟩ : ∃ m, k = m + 1 := ⟨k - 1, by omega⟩
    simp only [laws_toBoolS.l0]
    rw [if_pos (by omega), if_pos (by omega), if_pos (by omega), i_succ i (by omega), rdOf_at _ _ _ (by omega : i < xs.length), Int.toNat_natCast, ih (i + 1) _ k (by omega) (by simpa using h2) (by omega), copy_step _ _ _ (by omega) (by omega)]
theorem toBoolS (xs : List Bool) (hx : xs.length ≤ 1048576) : Ev (fun k => laws_toBoolS.f k xs) xs := by
  refine ⟨xs.length + 1, fun k hk => ?_⟩
  simp only [laws_toBoolS.f]
  rw [if_pos (by omega), if_pos (by omega), show ((0 : Int)) = ((0 : Nat) : Int) from rfl, toBoolS_l xs hx xs.length 0 _ k (by omega) (by simp) (by omega)]
  simp

theorem eqBoolS_l (xs : List Bool) (hx : xs.length ≤ 1048576) (d : Nat) : ∀ (i : Nat) (k : Nat), i + d = xs.length → d < k → laws_eqBoolS.l0 k xs xs i = some true := by
  induction d with
  | zero =>
    intro i k h1 hk
    obtain ⟨k, rfl⟩ : ∃ m, k = m + 1 := ⟨k - 1, by omega⟩
    simp only [laws_eqBoolS.l0]
    rw [if_neg (by omega)]
  | succ d ih =>
    intro i k h1 hk
    obtain ⟨k, rfl⟩ : ∃ m, k = m + 1 := ⟨k - 1, by omega⟩
    simp only [laws_eqBoolS.l0]
    rw [if_pos (by omega), if_pos (by omega), if_pos (by omega), if_neg (by simp), i_succ i (by omega), ih (i + 1) k (by omega) (by omega)]
theorem eqBoolS (xs : List Bool) (hx : xs.length ≤ 1048576) : Ev (fun k => laws_eqBoolS.f k xs xs) true := by
  refine ⟨xs.length + 1, fun k hk => ?_⟩
  simp only [laws_eqBoolS.f, if_true]
  exact eqBoolS_l xs hx xs.length 0 k (by omega) (by omega)

theorem l1Put_l (xs : List Int) (n : Int) (hx : xs.length ≤ 1048576) (d : Nat) : ∀ (i : Nat) (k : Nat), i + d = xs.length → d < k → spec_l1Put.l0 k xs n i = some (xs.take i ++ Sets0.put (xs.drop i) n) := by
  induction d with
  | zero =>
    intro i k hi hk
    obtain ⟨k, rfl⟩ : ∃ m, k = m + 1 := ⟨k - 1, by omega⟩
    obtain rfl : i = xs.length := by omega
    simp only [spec_l1Put.l0]
    rw [if_neg (by omega), if_pos (by omega), if_pos (by omega)]
    simp only [Option.bind_some, Int.toNat_natCast, List.take_length, List.drop_length, List.nil_append, Sets0.put]
    rw [if_pos (by simp; omega), if_pos (by omega), if_pos (by simp; omega)]
    simp
  | succ d ih =>
    intro i k hi hk
    obtain ⟨k, rfl⟩ : ∃ m, k = m + 1 := ⟨k - 1, by omega⟩
    simp only [spec_l1Put.l0]
    rw [if_pos (by omega), if_pos (by omega), rd_at _ _ (by omega : i < xs.length), drop_cons xs i (by omega)]
    simp only [Sets0.put]
    by_cases h1 : xs[i]'(by omega) < n
    · rw [if_pos h1, if_pos h1, i_succ i (by omega), ih (i + 1) k (by omega) (by omega), List.take_succ_eq_append_getElem (by omega : i < xs.length), List.append_assoc]
      rfl
    · rw [if_neg h1, if_neg h1]
      by_cases h2 : xs[i]'(by omega) = n
      · rw [if_pos h2, if_pos h2, ← drop_cons xs i (by omega), List.take_append_drop]
      · rw [if_neg h2, if_neg h2, if_pos (by omega)]
        simp only [Option.bind_some, Int.toNat_natCast, List.nil_append]
        rw [if_pos (by simp; omega), if_pos (by simp; omega), if_pos (by simp; omega), ← drop_cons xs i (by omega)]
        simp
theorem l1Put (xs : List Int) (n : Int) (hx : xs.length ≤ 1048576) : Ev (fun k => spec_l1Put.f k xs n) (Sets0.put xs n) := by
  refine ⟨xs.length + 1, fun k hk => ?_⟩
  simp only [spec_l1Put.f]
  have h := l1Put_l xs n hx xs.length 0 k (by omega) (by omega)
  simpa using h

def hb (key i : Int) : Int := (key * (2 * i + 7) + 13 * i) % 61
def bits (key : Int) : List Int := [hb key 0, hb key 1, hb key 2].foldl Sets0.put []
theorem hash_eq (key i : Int) (h0 : 0 ≤ key) (h1 : key ≤ 9999) (hi : i = 0 ∨ i = 1 ∨ i = 2) : Int.tmod (wrap64 ((wrap64 (key * (wrap64 ((wrap64 (2 * i)) + 7)))) + (wrap64 (13 * i)))) 61 = hb key i := by
  unfold hb
  rcases hi with rfl | rfl | rfl
  · rw [show wrap64 (2 * 0) = 0 by decide +kernel, show wrap64 (13 * 0) = 0 by decide +kernel, show wrap64 (0 + 7) = 7 by decide +kernel, w64 (n := key * 7) (by omega) (by omega), w64 (n := key * 7 + 0) (by omega) (by omega), Int.tmod_eq_emod_of_nonneg (by omega)]
    omega
  · rw [show wrap64 (2 * 1) = 2 by decide +kernel, show wrap64 (13 * 1) = 13 by decide +kernel, show wrap64 (2 + 7) = 9 by decide +kernel, w64 (n := key * 9) (by omega) (by omega), w64 (n := key * 9 + 13) (by omega) (by omega), Int.tmod_eq_emod_of_nonneg (by omega)]
    omega
  · rw [show wrap64 (2 * 2) = 4 by decide +kernel, show wrap64 (13 * 2) = 26 by decide +kernel, show wrap64 (4 + 7) = 11 by decide +kernel, w64 (n := key * 11) (by omega) (by omega), w64 (n := key * 11 + 26) (by omega) (by omega), Int.tmod_eq_emod_of_nonneg (by omega)]
    omega
theorem hb_range (key i : Int) : 0 ≤ hb key i ∧ hb key i ≤ 60 := by
  unfold hb
  omega
theorem bits_range (key : Int) : ∀ x ∈ bits key, 0 ≤ x ∧ x ≤ 60 := by
  intro x hx
  unfold bits at hx
  rw [Sets0.fold_mem] at hx
  simp only [List.mem_cons, List.not_mem_nil, or_false] at hx
  rcases hx with rfl | rfl | rfl <;> exact hb_range _ _
theorem bits_len (key : Int) : (bits key).length ≤ 3 := by
  have h := Sets0.fold_length [hb key 0, hb key 1, hb key 2] []
  simpa [bits] using h
theorem up1 : wrap64 (0 + 1) = 1 := by decide +kernel
theorem up2 : wrap64 (1 + 1) = 2 := by decide +kernel
theorem up3 : wrap64 (2 + 1) = 3 := by decide +kernel
theorem specBits (key : Int) (h0 : 0 ≤ key) (h1 : key ≤ 9999) : Ev (fun k => spec_l13Bits.f k key) (bits key) := by
  simp only [spec_l13Bits.f]
  refine Ev.succ ?_
  simp only [spec_l13Bits.l0, hash_eq key 0 h0 h1 (by omega), up1]
  refine Ev.iteT (by decide) (Ev.bind (l1Put [] _ (by simp)) ?_)
  refine Ev.succ ?_
  simp only [spec_l13Bits.l0, hash_eq key 1 h0 h1 (by omega), up2]
  refine Ev.iteT (by decide) (Ev.bind (l1Put _ _ (by have := Sets0.put_length (hb key 0) []; simp at this; omega)) ?_)
  refine Ev.succ ?_
  simp only [spec_l13Bits.l0, hash_eq key 2 h0 h1 (by omega), up3]
  refine Ev.iteT (by decide) (Ev.bind (l1Put _ _ (by have := Sets0.put_length (hb key 0) []; have := Sets0.put_length (hb key 1) (Sets0.put [] (hb key 0)); simp at *; omega)) ?_)
  refine Ev.succ ?_
  simp only [spec_l13Bits.l0]
  exact Ev.iteF (by decide) (Ev.now _)
theorem implBits (key : Int) (h0 : 0 ≤ key) (h1 : key ≤ 9999) : Ev (fun k => impl_bitsFor.f k key) (bits key) := by
  simp only [impl_bitsFor.f]
  refine Ev.succ ?_
  simp only [impl_bitsFor.l0, hash_eq key 0 h0 h1 (by omega), up1]
  refine Ev.iteT (by decide) (Ev.iteT (by simp) ?_)
  refine Ev.succ ?_
  simp only [impl_bitsFor.l0, hash_eq key 1 h0 h1 (by omega), up2]
  refine Ev.iteT (by decide) (Ev.iteT (by simp) ?_)
  refine Ev.succ ?_
  simp only [impl_bitsFor.l0, hash_eq key 2 h0 h1 (by omega), up3]
  refine Ev.iteT (by decide) (Ev.iteT (by simp) ?_)
  refine Ev.succ ?_
  simp only [impl_bitsFor.l0]
  refine Ev.iteF (by decide) ?_
  simp only [slices_Sort_int_int.f, slices_Compact_int_int.f]
  refine Ev.bind0 (x := ([hb key 0, hb key 1, hb key 2] : List Int).mergeSort fun x y => decide (x ≤ y)) (by simp) ?_
  refine Ev.bind0 (x := bits key) ?_ (Ev.now _)
  rw [if_pos (by simp), Sets0.sort_compact]
  rfl

def isKey (x : Int) : Bool := decide (0 ≤ x ∧ x ≤ 9999)
theorem keyIn (x : Int) : spec_l1In.f x 0 9999 = some (isKey x) := by
  unfold spec_l1In.f isKey
  by_cases h : x ≥ 0
  · rw [if_pos h]
    congr 1
    rw [decide_eq_decide]
    omega
  · rw [if_neg h]
    congr 1
    symm
    rw [decide_eq_false_iff_not]
    omega
theorem keyWithin (x : Int) : impl_within.f x 0 9999 = some (isKey x) := keyIn x
theorem isKey_iff (x : Int) : isKey x = true ↔ 0 ≤ x ∧ x ≤ 9999 := by simp [isKey]

theorem specKey (x : Int) : spec_l12Key.f x = some (isKey x) := by
  unfold spec_l12Key.f
  rw [keyIn]
  rfl

theorem implKey (x : Int) : impl_isKey.f x = some (isKey x) := by
  unfold impl_isKey.f
  rw [keyWithin]
  rfl

theorem toFilter (xs : List Bool) (hx : xs.length ≤ 1048576) : Ev (fun k => laws_toFilter.f k xs) xs := by
  simp only [laws_toFilter.f]
  exact Ev.bind (toBoolS xs hx) (Ev.now _)

theorem eqFilter (xs : List Bool) (hx : xs.length ≤ 1048576) : Ev (fun k => laws_eqFilter.f k xs xs) true := by
  simp only [laws_eqFilter.f]
  exact Ev.bind (eqBoolS xs hx) (Ev.iteT rfl (Ev.now _))

theorem szFilter (xs : List Bool) (n : Int) (h0 : 0 ≤ n) (h1 : n ≤ 1048576) (hx : xs.length ≤ maxLen) : laws_szFilter.f xs n = some (if n - xs.length < 0 then -1 else n - xs.length) := by
  unfold maxLen at hx
  unfold laws_szFilter.f laws_szBoolS.f
  rw [w64 (by omega) (by omega)]
  by_cases h : n - (xs.length : Int) < 0
  · rw [if_pos h, if_pos h]
    simp
  · rw [if_neg h, if_neg h]
    simp only [Option.bind_some]
    rw [if_neg h]

theorem specMay_l (bs : List Int) (hb : ∀ x ∈ bs, 0 ≤ x ∧ x ≤ 60) (hl : bs.length ≤ 3) (xs : List Bool) (hx : xs.length = 64) (d : Nat) : ∀ (i : Nat) (k : Nat), i + d = bs.length → d < k → spec_l13May.l0 k bs bs.length i xs = some (!((bs.drop i).any fun b => !(rdOf false xs b))) := by
  induction d with
  | zero =>
    intro i k hi hk
    obtain ⟨k, rfl⟩ : ∃ m, k = m + 1 := ⟨k - 1, by omega⟩
    simp only [spec_l13May.l0]
    rw [if_neg (by omega), List.drop_of_length_le (by omega)]
    rfl
  | succ d ih =>
    intro i k hi hk
    obtain ⟨k, rfl⟩ : ∃ m, k = m + 1 := ⟨k - 1, by omega⟩
    have hr := hb (bs[i]'(by omega)) (List.getElem_mem _)
    simp only [spec_l13May.l0]
    rw [if_pos (by omega), if_pos (by omega), if_pos (by omega), rd_at _ _ (by omega : i < bs.length), if_pos hr.1, if_pos (by omega), i_succ i (by omega), drop_cons bs i (by omega), List.any_cons]
    cases hq : rdOf false xs (bs[i]'(by omega)) with
    | true =>
      rw [if_pos rfl, ih (i + 1) k (by omega) (by omega)]
      simp
    | false =>
      rw [if_neg (by decide)]
      simp
/-- Whether a filter tells a key. -/
def mayTold (xs : List Bool) (key : Int) : Bool × Bool := if xs.length = 64 ∧ isKey key = true then (!((bits key).any fun b => !(rdOf false xs b)), true) else (false, false)
theorem specMay (xs : List Bool) (key : Int) : Ev (fun k => spec_MayHave.f k xs key) (mayTold xs key) := by
  simp only [spec_MayHave.f, spec_GoodFilter.f, Option.bind_some, specKey]
  unfold mayTold
  by_cases h1 : xs.length = 64
  · refine Ev.iteT (by simp; omega) ?_
    by_cases h2 : isKey key = true
    · rw [if_pos ⟨h1, h2⟩]
      have h' := (isKey_iff key).1 h2
      refine Ev.iteT h2 ?_
      have hm : Ev (fun k => spec_l13May.f k xs key) (!((bits key).any fun b => !(rdOf false xs b))) := by
        simp only [spec_l13May.f]
        refine Ev.bind (specBits key h'.1 h'.2) ?_
        have hl := bits_len key
        refine ⟨10, fun k hk => ?_⟩
        have h := specMay_l (bits key) (bits_range key) hl xs h1 (bits key).length 0 k (by omega) (by omega)
        simpa using h
      exact Ev.bind hm (Ev.now _)
    · rw [if_neg (fun h => h2 h.2)]
      exact Ev.iteF h2 (Ev.now _)
  · rw [if_neg (fun h => h1 h.1)]
    exact Ev.iteF (by simp; omega) (Ev.now _)
theorem implMay (xs : List Bool) (key : Int) : Ev (fun k => impl_MayHave.f k xs key) (mayTold xs key) := by
  simp only [impl_MayHave.f, impl_GoodFilter.f, Option.bind_some, implKey]
  unfold mayTold
  by_cases h1 : xs.length = 64
  · refine Ev.iteT (by simp; omega) ?_
    by_cases h2 : isKey key = true
    · rw [if_pos ⟨h1, h2⟩]
      have h' := (isKey_iff key).1 h2
      refine Ev.iteT h2 ?_
      refine Ev.bind (implBits key h'.1 h'.2) ?_
      have hl := bits_len key
      refine Ev.iteT ⟨by omega, fun b hb => ?_⟩ (Ev.now _)
      have := bits_range key b hb
      omega
    · rw [if_neg (fun h => h2 h.2)]
      exact Ev.iteF h2 (Ev.now _)
  · rw [if_neg (fun h => h1 h.1)]
    exact Ev.iteF (by simp; omega) (Ev.now _)

theorem FnExactMayHave : laws_FnExactMayHave.Pure := by
  intro xs key ⟨hx, _⟩ _
  refine Ev.rounds (g := fun k => laws_FnExactMayHave.f k xs key) ?_
  simp only [laws_FnExactMayHave.f]
  refine Ev.bind0 (szFilter xs 1048576 (by omega) (by omega) hx) ?_
  by_cases ha : (1048576 : Int) - xs.length < 0
  · rw [if_pos ha]
    exact Ev.iteT (by omega) (Ev.now _)
  · rw [if_neg ha]
    refine Ev.iteF ha ?_
    have hx' : xs.length ≤ 1048576 := by omega
    refine Ev.bind (toFilter xs hx') ?_
    refine Ev.bind (specMay xs key) ?_
    refine Ev.bind (toFilter xs hx') ?_
    refine Ev.bind (implMay xs key) ?_
    refine Ev.iteF (by simp) ?_
    refine Ev.iteF (by simp) ?_
    refine Ev.bind (toFilter xs hx') ?_
    refine Ev.bind (eqFilter _ hx') ?_
    exact Ev.iteT rfl (Ev.now _)

end Go.Proofs.Ytlieapaegmjhnaa.Pure
