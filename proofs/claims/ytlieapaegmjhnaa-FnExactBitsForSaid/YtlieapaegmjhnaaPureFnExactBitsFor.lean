/- The program's BitsFor and the reference's answer the same for every whole number. No condition. -/
import Derived.Test.YtlieapaegmjhnaaXFnExactBitsForx2
import Derived.Test.YtlieapaegmjhnaaLib
import Derived.Test.YtlieapaegmjhnaaSets
namespace Go.Proofs.Ytlieapaegmjhnaa.Pure
open Go.RowKit Go.Proofs.Ytlieapaegmjhnaa.XFnExactBitsFor Go.Proofs.YtlieapaegmjhnaaW.PrintWords Go.Proofs.YtlieapaegmjhnaaW.PrintLast Go.Proofs.Ytlieapaegmjhnaa.Lib0
set_option linter.unusedVariables false
set_option linter.unusedSimpArgs false

theorem eqIntS_l (xs : List Int) (hx : xs.length ≤ 1048576) (d : Nat) : ∀ (i : Nat) (k : Nat), i + d = xs.length → d < k → laws_eqIntS.l0 k xs xs i = some true := by
  induction d with
  | zero =>
    intro i k h1 hk
    obtain ⟨k, rfl⟩ : ∃ m, k = m + 1 := ⟨k - 1, by omega⟩
    simp only [laws_eqIntS.l0]
    rw [if_neg (by omega)]
  | succ d ih =>
    intro i k h1 hk
    obtain ⟨k, rfl⟩ : ∃ m, k = m + 1 := ⟨k - 1, by omega⟩
    simp only [laws_eqIntS.l0]
    rw [if_pos (by omega), if_pos (by omega), if_pos (by omega), if_pos trivial, i_succ i (by omega), ih (i + 1) k (by omega) (by omega)]
theorem eqIntS (xs : List Int) (hx : xs.length ≤ 1048576) : Ev (fun k => laws_eqIntS.f k xs xs) true := by
  refine ⟨xs.length + 1, fun k hk => ?_⟩
  simp only [laws_eqIntS.f, if_true]
  exact eqIntS_l xs hx xs.length 0 k (by omega) (by omega)

theorem markIntS_l (xs : List Int) (hx : xs.length ≤ 1048576) (n : Int) (h0 : 0 ≤ n) (h1 : n ≤ 1073741824) (d : Nat) : ∀ (i : Nat) (k : Nat), i + d = xs.length → d < k →
    laws_markIntS.l0 k (marks id n i ++ xs.drop i) (n + i) i = some (n + xs.length, marks id n xs.length) := by
  induction d with
  | zero =>
    intro i k hi hk
    obtain ⟨k, rfl⟩ : ∃ m, k = m + 1 := ⟨k - 1, by omega⟩
    obtain rfl : i = xs.length := by omega
    simp only [laws_markIntS.l0]
    rw [if_neg (by simp [marks_length])]
    simp
  | succ d ih =>
    intro i k hi hk
    obtain ⟨k, rfl⟩ : ∃ m, k = m + 1 := ⟨k - 1, by omega⟩
    simp only [laws_markIntS.l0]
    rw [if_pos (by simp [marks_length]; omega), if_pos (by omega), Int.toNat_natCast, set_drop_step _ _ _ _ (by omega) (marks_length _ _ _), i_succ i (by omega), w64 (by omega) (by omega)]
    have e : marks id n i ++ [n + (i : Int)] = marks id n (i + 1) := (marks_snoc id i n).symm
    rw [e, show n + (i : Int) + 1 = n + ((i + 1 : Nat) : Int) by omega]
    exact ih (i + 1) k (by omega) (by omega)
theorem markIntS (xs : List Int) (hx : xs.length ≤ 1048576) (n : Int) (h0 : 0 ≤ n) (h1 : n ≤ 1073741824) : Ev (fun k => laws_markIntS.f k xs n) (n + xs.length, marks id n xs.length) := by
  refine ⟨xs.length + 1, fun k hk => ?_⟩
  simp only [laws_markIntS.f]
  have h := markIntS_l xs hx n h0 h1 xs.length 0 k (by omega) (by omega)
  simpa [marks] using h

theorem heldIntS_l (xs : List Int) (hx : xs.length ≤ 1048576) (n : Int) (h0 : 0 ≤ n) (h1 : n ≤ 1073741824) (hg : ∀ (i : Nat) (h : i < xs.length), xs[i] = n + i) (d : Nat) : ∀ (i : Nat) (k : Nat), i + d = xs.length → d < k →
    laws_heldIntS.l0 k xs (n + i) i = some (n + xs.length) := by
  induction d with
  | zero =>
    intro i k hi hk
    obtain ⟨k, rfl⟩ : ∃ m, k = m + 1 := ⟨k - 1, by omega⟩
    obtain rfl : i = xs.length := by omega
    simp only [laws_heldIntS.l0]
    rw [if_neg (by omega)]
  | succ d ih =>
    intro i k hi hk
    obtain ⟨k, rfl⟩ : ∃ m, k = m + 1 := ⟨k - 1, by omega⟩
    simp only [laws_heldIntS.l0]
    rw [if_pos (by omega), if_pos (by omega), rd_at _ _ (by omega : i < xs.length), hg i (by omega)]
    have ih' := ih (i + 1) k (by omega) (by omega)
    rw [show n + ((i + 1 : Nat) : Int) = n + (i : Int) + 1 by omega] at ih'
    rw [if_pos rfl, i_succ i (by omega), w64 (by omega) (by omega)]
    exact ih'
theorem heldIntS (len : Nat) (hx : len ≤ 1048576) (n : Int) (h0 : 0 ≤ n) (h1 : n ≤ 1073741824) : Ev (fun k => laws_heldIntS.f k (marks id n len) n) (n + len) := by
  refine ⟨len + 1, fun k hk => ?_⟩
  simp only [laws_heldIntS.f]
  have h := heldIntS_l (marks id n len) (by rw [marks_length]; exact hx) n h0 h1 (fun i h => marks_get id len n i h) len 0 k (by rw [marks_length]; omega) (by omega)
  simpa [marks_length] using h

theorem l1Put_l (xs : List Int) (n : Int) (hx : xs.length ≤ 1048576) (d : Nat) : ∀ (i : Nat) (k : Nat), i + d = xs.length → d < k → spec_l1Put.l0 k xs n i = some (xs.take i ++ Sets0.put (xs.drop i) n) := by
  induction d with
  | zero =>
    intro i k hi hk
    obtain ⟨k, rfl⟩ : ∃ m, k = m + 1 := ⟨k - 1, by omega⟩
    obtain rfl : i = xs.length := by omega
    simp only [spec_l1Put.l0]
    rw [if_neg (by omega), if_pos (by omega), if_pos (by omega)]
    simp only [Option.bind_some, Int.toNat_natCast, List.take_length, List.drop_length, List.nil_append, Sets0.put]
    rw [if_pos (by simp; omega), if_pos (by omega), if_pos (by simp; omega)]
    simp
  | succ d ih =>
    intro i k hi hk
    obtain ⟨k, rfl⟩ : ∃ m, k = m + 1 := ⟨k - 1, by omega⟩
    simp only [spec_l1Put.l0]
    rw [if_pos (by omega), if_pos (by omega), rd_at _ _ (by omega : i < xs.length), drop_cons xs i (by omega)]
    simp only [Sets0.put]
    by_cases h1 : xs[i]'(by omega) < n
    · rw [if_pos h1, if_pos h1, i_succ i (by omega), ih (i + 1) k (by omega) (by omega), List.take_succ_eq_append_getElem (by omega : i < xs.length), List.append_assoc]
      rfl
    · rw [if_neg h1, if_neg h1]
      by_cases h2 : xs[i]'(by omega) = n
      · rw [if_pos h2, if_pos h2, ← drop_cons xs i (by omega), List.take_append_drop]
      · rw [if_neg h2, if_neg h2, if_pos (by omega)]
        simp only [Option.bind_some, Int.toNat_natCast, List.nil_append]
        rw [if_pos (by simp; omega), if_pos (by simp; omega), if_pos (by simp; omega), ← drop_cons xs i (by omega)]
        simp
theorem l1Put (xs : List Int) (n : Int) (hx : xs.length ≤ 1048576) : Ev (fun k => spec_l1Put.f k xs n) (Sets0.put xs n) := by
  refine ⟨xs.length + 1, fun k hk => ?_⟩
  simp only [spec_l1Put.f]
  have h := l1Put_l xs n hx xs.length 0 k (by omega) (by omega)
  simpa using h

def hb (key i : Int) : Int := (key * (2 * i + 7) + 13 * i) % 61
def bits (key : Int) : List Int := [hb key 0, hb key 1, hb key 2].foldl Sets0.put []
theorem hash_eq (key i : Int) (h0 : 0 ≤ key) (h1 : key ≤ 9999) (hi : i = 0 ∨ i = 1 ∨ i = 2) : Int.tmod (wrap64 ((wrap64 (key * (wrap64 ((wrap64 (2 * i)) + 7)))) + (wrap64 (13 * i)))) 61 = hb key i := by
  unfold hb
  rcases hi with rfl | rfl | rfl
  · rw [show wrap64 (2 * 0) = 0 by decide +kernel, show wrap64 (13 * 0) = 0 by decide +kernel, show wrap64 (0 + 7) = 7 by decide +kernel, w64 (n := key * 7) (by omega) (by omega), w64 (n := key * 7 + 0) (by omega) (by omega), Int.tmod_eq_emod_of_nonneg (by omega)]
    omega
  · rw [show wrap64 (2 * 1) = 2 by decide +kernel, show wrap64 (13 * 1) = 13 by decide +kernel, show wrap64 (2 + 7) = 9 by decide +kernel, w64 (n := key * 9) (by omega) (by omega), w64 (n := key * 9 + 13) (by omega) (by omega), Int.tmod_eq_emod_of_nonneg (by omega)]
    omega
  · rw [show wrap64 (2 * 2) = 4 by decide +kernel, show wrap64 (13 * 2) = 26 by decide +kernel, show wrap64 (4 + 7) = 11 by decide +kernel, w64 (n := key * 11) (by omega) (by omega), w64 (n := key * 11 + 26) (by omega) (by omega), Int.tmod_eq_emod_of_nonneg (by omega)]
    omega
theorem hb_range (key i : Int) : 0 ≤ hb key i ∧ hb key i ≤ 60 := by
  unfold hb
  omega
theorem bits_range (key : Int) : ∀ x ∈ bits key, 0 ≤ x ∧ x ≤ 60 := by
  intro x hx
  unfold bits at hx
  rw [Sets0.fold_mem] at hx
  simp only [List.mem_cons, List.not_mem_nil, or_false] at hx
  rcases hx with rfl | rfl | rfl <;> exact hb_range _ _
theorem bits_len (key : Int) : (bits key).length ≤ 3 := by
  have h := Sets0.fold_length [hb key 0, hb key 1, hb key 2] []
  simpa [bits] using h
theorem up1 : wrap64 (0 + 1) = 1 := by decide +kernel
theorem up2 : wrap64 (1 + 1) = 2 := by decide +kernel
theorem up3 : wrap64 (2 + 1) = 3 := by decide +kernel
theorem specBits (key : Int) (h0 : 0 ≤ key) (h1 : key ≤ 9999) : Ev (fun k => spec_l13Bits.f k key) (bits key) := by
  simp only [spec_l13Bits.f]
  refine Ev.succ ?_
  simp only [spec_l13Bits.l0, hash_eq key 0 h0 h1 (by omega), up1]
  refine Ev.iteT (by decide) (Ev.bind (l1Put [] _ (by simp)) ?_)
  refine Ev.succ ?_
  simp only [spec_l13Bits.l0, hash_eq key 1 h0 h1 (by omega), up2]
  refine Ev.iteT (by decide) (Ev.bind (l1Put _ _ (by have := Sets0.put_length (hb key 0) []; simp at this; omega)) ?_)
  refine Ev.succ ?_
  simp only [spec_l13Bits.l0, hash_eq key 2 h0 h1 (by omega), up3]
  refine Ev.iteT (by decide) (Ev.bind (l1Put _ _ (by have := Sets0.put_length (hb key 0) []; have := Sets0.put_length (hb key 1) (Sets0.put [] (hb key 0)); simp at *; omega)) ?_)
  refine Ev.succ ?_
  simp only [spec_l13Bits.l0]
  exact Ev.iteF (by decide) (Ev.now _)
theorem implBits (key : Int) (h0 : 0 ≤ key) (h1 : key ≤ 9999) : Ev (fun k => impl_bitsFor.f k key) (bits key) := by
  simp only [impl_bitsFor.f]
  refine Ev.succ ?_
  simp only [impl_bitsFor.l0, hash_eq key 0 h0 h1 (by omega), up1]
  refine Ev.iteT (by decide) (Ev.iteT (by simp) ?_)
  refine Ev.succ ?_
  simp only [impl_bitsFor.l0, hash_eq key 1 h0 h1 (by omega), up2]
  refine Ev.iteT (by decide) (Ev.iteT (by simp) ?_)
  refine Ev.succ ?_
  simp only [impl_bitsFor.l0, hash_eq key 2 h0 h1 (by omega), up3]
  refine Ev.iteT (by decide) (Ev.iteT (by simp) ?_)
  refine Ev.succ ?_
  simp only [impl_bitsFor.l0]
  refine Ev.iteF (by decide) ?_
  simp only [slices_Sort_int_int.f, slices_Compact_int_int.f]
  refine Ev.bind0 (x := ([hb key 0, hb key 1, hb key 2] : List Int).mergeSort fun x y => decide (x ≤ y)) (by simp) ?_
  refine Ev.bind0 (x := bits key) ?_ (Ev.now _)
  rw [if_pos (by simp), Sets0.sort_compact]
  rfl

def isKey (x : Int) : Bool := decide (0 ≤ x ∧ x ≤ 9999)
theorem keyIn (x : Int) : spec_l1In.f x 0 9999 = some (isKey x) := by
  unfold spec_l1In.f isKey
  by_cases h : x ≥ 0
  · rw [if_pos h]
    congr 1
    rw [decide_eq_decide]
    omega
  · rw [if_neg h]
    congr 1
    symm
    rw [decide_eq_false_iff_not]
    omega
theorem keyWithin (x : Int) : impl_within.f x 0 9999 = some (isKey x) := keyIn x
theorem isKey_iff (x : Int) : isKey x = true ↔ 0 ≤ x ∧ x ≤ 9999 := by simp [isKey]

theorem specKey (x : Int) : spec_l12Key.f x = some (isKey x) := by
  unfold spec_l12Key.f
  rw [keyIn]
  rfl

theorem implKey (x : Int) : impl_isKey.f x = some (isKey x) := by
  unfold impl_isKey.f
  rw [keyWithin]
  rfl

def told (key : Int) : List Int × Bool := if isKey key = true then (bits key, true) else ([], false)
theorem told_len (key : Int) : (told key).1.length ≤ 3 := by
  have := bits_len key
  unfold told
  split <;> simp [this]
theorem spec_told (key : Int) : Ev (fun k => spec_BitsFor.f k key) (told key) := by
  simp only [spec_BitsFor.f]
  refine Ev.bind0 (specKey key) ?_
  unfold told
  by_cases h : isKey key = true
  · rw [if_pos h]
    have h' := (isKey_iff key).1 h
    exact Ev.iteT h (Ev.bind (specBits key h'.1 h'.2) (Ev.now _))
  · rw [if_neg h]
    exact Ev.iteF h (Ev.now _)
theorem impl_told (key : Int) : Ev (fun k => impl_BitsFor.f k key) (told key) := by
  simp only [impl_BitsFor.f]
  refine Ev.bind0 (implKey key) ?_
  unfold told
  by_cases h : isKey key = true
  · rw [if_pos h]
    have h' := (isKey_iff key).1 h
    exact Ev.iteT h (Ev.bind (implBits key h'.1 h'.2) (Ev.now _))
  · rw [if_neg h]
    exact Ev.iteF h (Ev.now _)
theorem FnExactBitsFor : laws_FnExactBitsFor.Pure := by
  intro key _
  have hl := told_len key
  refine Ev.rounds (g := fun k => laws_FnExactBitsFor.f k key) ?_
  simp only [laws_FnExactBitsFor.f]
  refine Ev.bind (spec_told key) ?_
  refine Ev.bind (impl_told key) ?_
  refine Ev.bind (eqIntS _ (by omega)) ?_
  refine Ev.iteT rfl ?_
  refine Ev.iteF (by simp) ?_
  refine Ev.bind (markIntS _ (by omega) 1 (by omega) (by omega)) ?_
  refine Ev.bind (heldIntS _ (by omega) 1 (by omega) (by omega)) ?_
  refine Ev.iteF (by omega) ?_
  refine Ev.iteT rfl ?_
  refine Ev.bind (impl_told key) ?_
  refine Ev.bind (eqIntS _ (by omega)) ?_
  refine Ev.iteT rfl ?_
  refine Ev.iteF (by simp) ?_
  refine Ev.bind (heldIntS _ (by omega) 1 (by omega) (by omega)) ?_
  refine Ev.iteF (by omega) ?_
  exact Ev.iteT rfl (Ev.now _)

end Go.Proofs.Ytlieapaegmjhnaa.Pure
