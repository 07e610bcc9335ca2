/- The program's FilterOf and the reference's answer the same for every list of whole numbers. No condition. -/
import Derived.Test.YtlieapaegmjhnaaXFnExactFilterOfx4
import Derived.Test.YtlieapaegmjhnaaLib
import Derived.Test.YtlieapaegmjhnaaSets
namespace Go.Proofs.Ytlieapaegmjhnaa.Pure
open Go.RowKit Go.Proofs.Ytlieapaegmjhnaa.XFnExactFilterOf Go.Proofs.YtlieapaegmjhnaaW.PrintWords Go.Proofs.YtlieapaegmjhnaaW.PrintLast Go.Proofs.Ytlieapaegmjhnaa.Lib0
set_option linter.unusedVariables false
set_option linter.unusedSimpArgs false

theorem toIntS_l (xs : List Int) (hx : xs.length ≤ 1048576) (d : Nat) : ∀ (i : Nat) (out : List Int) (k : Nat), i + d = xs.length → out.length = xs.length → d < k → laws_toIntS.l0 k xs out i = some (out.take i ++ xs.drop i) := by
  induction d with
  | zero =>
    intro i out k h1 h2 hk
    obtain ⟨k, rfl⟩ : ∃ m, k = m + 1 := ⟨k - 1, by omega⟩
    simp only [laws_toIntS.l0]
    rw [if_neg (by omega), List.take_of_length_le (by omega), List.drop_of_length_le (by omega), List.append_nil]
  | succ d ih =>
    intro i out k h1 h2 hk
    obtain ⟨k, rfl⟩ : ∃ m, k = m + 1 := ⟨k - 1, by omega⟩
    simp only [laws_toIntS.l0]
    rw [if_pos (by omega), if_pos (by omega), if_pos (by omega), i_succ i (by omega), rd_at _ _ (by omega : i < xs.length), Int.toNat_natCast, ih (i + 1) _ k (by omega) (by simpa using h2) (by omega), copy_step _ _ _ (by omega) (by omega)]
theorem toIntS (xs : List Int) (hx : xs.length ≤ 1048576) : Ev (fun k => laws_toIntS.f k xs) xs := by
  refine ⟨xs.length + 1, fun k hk => ?_⟩
  simp only [laws_toIntS.f]
  rw [if_pos (by omega), if_pos (by omega), show ((0 : Int)) = ((0 : Nat) : Int) from rfl, toIntS_l xs hx xs.length 0 _ k (by omega) (by simp) (by omega)]
  simp

theorem eqBoolS_l (xs : List Bool) (hx : xs.length ≤ 1048576) (d : Nat) : ∀ (i : Nat) (k : Nat), i + d = xs.length → d < k → laws_eqBoolS.l0 k xs xs i = some true := by
  induction d with
  | zero =>
    intro i k h1 hk
    obtain ⟨k, rfl⟩ : ∃ m, k = m + 1 := ⟨k - 1, by omega⟩
    simp only [laws_eqBoolS.l0]
    rw [if_neg (by omega)]
  | succ d ih =>
    intro i k h1 hk
    obtain ⟨k, rfl⟩ : ∃ m, k = m + 1 := ⟨k - 1, by omega⟩
    simp only [laws_eqBoolS.l0]
    rw [if_pos (by omega), if_pos (by omega), if_pos (by omega), if_neg (by simp), i_succ i (by omega), ih (i + 1) k (by omega) (by omega)]
theorem eqBoolS (xs : List Bool) (hx : xs.length ≤ 1048576) : Ev (fun k => laws_eqBoolS.f k xs xs) true := by
  refine ⟨xs.length + 1, fun k hk => ?_⟩
  simp only [laws_eqBoolS.f, if_true]
  exact eqBoolS_l xs hx xs.length 0 k (by omega) (by omega)

theorem eqIntS_l (xs : List Int) (hx : xs.length ≤ 1048576) (d : Nat) : ∀ (i : Nat) (k : Nat), i + d = xs.length → d < k → laws_eqIntS.l0 k xs xs i = some true := by
  induction d with
  | zero =>
    intro i k h1 hk
    obtain ⟨k, rfl⟩ : ∃ m, k = m + 1 := ⟨k - 1, by omega⟩
    simp only [laws_eqIntS.l0]
    rw [if_neg (by omega)]
  | succ d ih =>
    intro i k h1 hk
    obtain ⟨k, rfl⟩ : ∃ m, k = m + 1 := ⟨k - 1, by omega⟩
    simp only [laws_eqIntS.l0]
    rw [if_pos (by omega), if_pos (by omega), if_pos (by omega), if_pos trivial, i_succ i (by omega), ih (i + 1) k (by omega) (by omega)]
theorem eqIntS (xs : List Int) (hx : xs.length ≤ 1048576) : Ev (fun k => laws_eqIntS.f k xs xs) true := by
  refine ⟨xs.length + 1, fun k hk => ?_⟩
  simp only [laws_eqIntS.f, if_true]
  exact eqIntS_l xs hx xs.length 0 k (by omega) (by omega)

theorem markIntS_l (xs : List Int) (hx : xs.length ≤ 1048576) (n : Int) (h0 : 0 ≤ n) (h1 : n ≤ 1073741824) (d : Nat) : ∀ (i : Nat) (k : Nat), i + d = xs.length → d < k →
    laws_markIntS.l0 k (marks id n i ++ xs.drop i) (n + i) i = some (n + xs.length, marks id n xs.length) := by
  induction d with
  | zero =>
    intro i k hi hk
    obtain ⟨k, rfl⟩ : ∃ m, k = m + 1 := ⟨k - 1, by omega⟩
    obtain rfl : i = xs.length := by omega
    simp only [laws_markIntS.l0]
    rw [if_neg (by simp [marks_length])]
    simp
  | succ d ih =>
    intro i k hi hk
    obtain ⟨k, rfl⟩ : ∃ m, k = m + 1 := ⟨k - 1, by omega⟩
    simp only [laws_markIntS.l0]
    rw [if_pos (by simp [marks_length]; omega), if_pos (by omega), Int.toNat_natCast, set_drop_step _ _ _ _ (by omega) (marks_length _ _ _), i_succ i (by omega), w64 (by omega) (by omega)]
    have e : marks id n i ++ [n + (i : Int)] = marks id n (i + 1) := (marks_snoc id i n).symm
    rw [e, show n + (i : Int) + 1 = n + ((i + 1 : Nat) : Int) by omega]
    exact ih (i + 1) k (by omega) (by omega)
theorem markIntS (xs : List Int) (hx : xs.length ≤ 1048576) (n : Int) (h0 : 0 ≤ n) (h1 : n ≤ 1073741824) : Ev (fun k => laws_markIntS.f k xs n) (n + xs.length, marks id n xs.length) := by
  refine ⟨xs.length + 1, fun k hk => ?_⟩
  simp only [laws_markIntS.f]
  have h := markIntS_l xs hx n h0 h1 xs.length 0 k (by omega) (by omega)
  simpa [marks] using h

theorem markBoolS_l (xs : List Bool) (hx : xs.length ≤ 1048576) (n : Int) (h0 : 0 ≤ n) (h1 : n ≤ 1073741824) (d : Nat) : ∀ (i : Nat) (k : Nat), i + d = xs.length → d < k →
    laws_markBoolS.l0 k (marks (fun z => (Int.tmod z 3) == 0) n i ++ xs.drop i) (n + i) i = some (n + xs.length, marks (fun z => (Int.tmod z 3) == 0) n xs.length) := by
  induction d with
  | zero =>
    intro i k hi hk
    obtain ⟨k, rfl⟩ : ∃ m, k = m + 1 := ⟨k - 1, by omega⟩
    obtain rfl : i = xs.length := by omega
    simp only [laws_markBoolS.l0]
    rw [if_neg (by simp [marks_length])]
    simp
  | succ d ih =>
    intro i k hi hk
    obtain ⟨k, rfl⟩ : ∃ m, k = m + 1 := ⟨k - 1, by omega⟩
    simp only [laws_markBoolS.l0]
    rw [if_pos (by simp [marks_length]; omega), if_pos (by omega), Int.toNat_natCast, set_drop_step _ _ _ _ (by omega) (marks_length _ _ _), i_succ i (by omega), w64 (by omega) (by omega)]
    have e : marks (fun z => (Int.tmod z 3) == 0) n i ++ [(Int.tmod (n + (i : Int)) 3) == 0] = marks (fun z => (Int.tmod z 3) == 0) n (i + 1) := (marks_snoc _ i n).symm
    rw [e, show n + (i : Int) + 1 = n + ((i + 1 : Nat) : Int) by omega]
    exact ih (i + 1) k (by omega) (by omega)
theorem markBoolS (xs : List Bool) (hx : xs.length ≤ 1048576) (n : Int) (h0 : 0 ≤ n) (h1 : n ≤ 1073741824) : Ev (fun k => laws_markBoolS.f k xs n) (n + xs.length, marks (fun z => (Int.tmod z 3) == 0) n xs.length) := by
  refine ⟨xs.length + 1, fun k hk => ?_⟩
  simp only [laws_markBoolS.f]
  have h := markBoolS_l xs hx n h0 h1 xs.length 0 k (by omega) (by omega)
  simpa [marks] using h

theorem heldBoolS_l (xs : List Bool) (hx : xs.length ≤ 1048576) (n : Int) (h0 : 0 ≤ n) (h1 : n ≤ 1073741824) (hg : ∀ (i : Nat) (h : i < xs.length), xs[i] = ((Int.tmod (n + i) 3) == 0)) (d : Nat) : ∀ (i : Nat) (k : Nat), i + d = xs.length → d < k →
    laws_heldBoolS.l0 k xs (n + i) i = some (n + xs.length) := by
  induction d with
  | zero =>
    intro i k hi hk
    obtain ⟨k, rfl⟩ : ∃ m, k = m + 1 := ⟨k - 1, by omega⟩
    obtain rfl : i = xs.length := by omega
    simp only [laws_heldBoolS.l0]
    rw [if_neg (by omega)]
  | succ d ih =>
    intro i k hi hk
    obtain ⟨k, rfl⟩ : ∃ m, k = m + 1 := ⟨k - 1, by omega⟩
    simp only [laws_heldBoolS.l0]
    rw [if_pos (by omega), if_pos (by omega), rdOf_at _ _ _ (by omega : i < xs.length), hg i (by omega), if_neg (by simp), i_succ i (by omega), w64 (by omega) (by omega)]
    have ih' := ih (i + 1) k (by omega) (by omega)
    rwa [show n + ((i + 1 : Nat) : Int) = n + (i : Int) + 1 by omega] at ih'
theorem heldBoolS (len : Nat) (hx : len ≤ 1048576) (n : Int) (h0 : 0 ≤ n) (h1 : n ≤ 1073741824) : Ev (fun k => laws_heldBoolS.f k (marks (fun z => (Int.tmod z 3) == 0) n len) n) (n + len) := by
  refine ⟨len + 1, fun k hk => ?_⟩
  simp only [laws_heldBoolS.f]
  have h := heldBoolS_l (marks (fun z => (Int.tmod z 3) == 0) n len) (by rw [marks_length]; exact hx) n h0 h1 (fun i h => marks_get _ len n i h) len 0 k (by rw [marks_length]; omega) (by omega)
  simpa [marks_length] using h

theorem l1Put_l (xs : List Int) (n : Int) (hx : xs.length ≤ 1048576) (d : Nat) : ∀ (i : Nat) (k : Nat), i + d = xs.length → d < k → spec_l1Put.l0 k xs n i = some (xs.take i ++ Sets0.put (xs.drop i) n) := by
  induction d with
  | zero =>
    intro i k hi hk
    obtain ⟨k, rfl⟩ : ∃ m, k = m + 1 := ⟨k - 1, by omega⟩
    obtain rfl : i = xs.length := by omega
    simp only [spec_l1Put.l0]
    rw [if_neg (by omega), if_pos (by omega), if_pos (by omega)]
    simp only [Option.bind_some, Int.toNat_natCast, List.take_length, List.drop_length, List.nil_append, Sets0.put]
    rw [if_pos (by simp; omega), if_pos (by omega), if_pos (by simp; omega)]
    simp
  | succ d ih =>
    intro i k hi hk
    obtain ⟨k, rfl⟩ : ∃ m, k = m + 1 := ⟨k - 1, by omega⟩
    simp only [spec_l1Put.l0]
    rw [if_pos (by omega), if_pos (by omega), rd_at _ _ (by omega : i < xs.length), drop_cons xs i (by omega)]
    simp only [Sets0.put]
    by_cases h1 : xs[i]'(by omega) < n
    · rw [if_pos h1, if_pos h1, i_succ i (by omega), ih (i + 1) k (by omega) (by omega), List.take_succ_eq_append_getElem (by omega : i < xs.length), List.append_assoc]
      rfl
    · rw [if_neg h1, if_neg h1]
      by_cases h2 : xs[i]'(by omega) = n
      · rw [if_pos h2, if_pos h2, ← drop_cons xs i (by omega), List.take_append_drop]
      · rw [if_neg h2, if_neg h2, if_pos (by omega)]
        simp only [Option.bind_some, Int.toNat_natCast, List.nil_append]
        rw [if_pos (by simp; omega), if_pos (by simp; omega), if_pos (by simp; omega), ← drop_cons xs i (by omega)]
        simp
theorem l1Put (xs : List Int) (n : Int) (hx : xs.length ≤ 1048576) : Ev (fun k => spec_l1Put.f k xs n) (Sets0.put xs n) := by
  refine ⟨xs.length + 1, fun k hk => ?_⟩
  simp only [spec_l1Put.f]
  have h := l1Put_l xs n hx xs.length 0 k (by omega) (by omega)
  simpa using h

def hb (key i : Int) : Int := (key * (2 * i + 7) + 13 * i) % 61
def bits (key : Int) : List Int := [hb key 0, hb key 1, hb key 2].foldl Sets0.put []
theorem hash_eq (key i : Int) (h0 : 0 ≤ key) (h1 : key ≤ 9999) (hi : i = 0 ∨ i = 1 ∨ i = 2) : Int.tmod (wrap64 ((wrap64 (key * (wrap64 ((wrap64 (2 * i)) + 7)))) + (wrap64 (13 * i)))) 61 = hb key i := by
  unfold hb
  rcases hi with rfl | rfl | rfl
  · rw [show wrap64 (2 * 0) = 0 by decide +kernel, show wrap64 (13 * 0) = 0 by decide +kernel, show wrap64 (0 + 7) = 7 by decide +kernel, w64 (n := key * 7) (by omega) (by omega), w64 (n := key * 7 + 0) (by omega) (by omega), Int.tmod_eq_emod_of_nonneg (by omega)]
    omega
  · rw [show wrap64 (2 * 1) = 2 by decide +kernel, show wrap64 (13 * 1) = 13 by decide +kernel, show wrap64 (2 + 7) = 9 by decide +kernel, w64 (n := key * 9) (by omega) (by omega), w64 (n := key * 9 + 13) (by omega) (by omega), Int.tmod_eq_emod_of_nonneg (by omega)]
    omega
  · rw [show wrap64 (2 * 2) = 4 by decide +kernel, show wrap64 (13 * 2) = 26 by decide +kernel, show wrap64 (4 + 7) = 11 by decide +kernel, w64 (n := key * 11) (by omega) (by omega), w64 (n := key * 11 + 26) (by omega) (by omega), Int.tmod_eq_emod_of_nonneg (by omega)]
    omega
theorem hb_range (key i : Int) : 0 ≤ hb key i ∧ hb key i ≤ 60 := by
  unfold hb
  omega
theorem bits_range (key : Int) : ∀ x ∈ bits key, 0 ≤ x ∧ x ≤ 60 := by
  intro x hx
  unfold bits at hx
  rw [Sets0.fold_mem] at hx
  simp only [List.mem_cons, List.not_mem_nil, or_false] at hx
  rcases hx with rfl | rfl | rfl <;> exact hb_range _ _
theorem bits_len (key : Int) : (bits key).length ≤ 3 := by
  have h := Sets0.fold_length [hb key 0, hb key 1, hb key 2] []
  simpa [bits] using h
theorem up1 : wrap64 (0 + 1) = 1 := by decide +kernel
theorem up2 : wrap64 (1 + 1) = 2 := by decide +kernel
theorem up3 : wrap64 (2 + 1) = 3 := by decide +kernel
theorem specBits (key : Int) (h0 : 0 ≤ key) (h1 : key ≤ 9999) : Ev (fun k => spec_l13Bits.f k key) (bits key) := by
  simp only [spec_l13Bits.f]
  refine Ev.succ ?_
  simp only [spec_l13Bits.l0, hash_eq key 0 h0 h1 (by omega), up1]
  refine Ev.iteT (by decide) (Ev.bind (l1Put [] _ (by simp)) ?_)
  refine Ev.succ ?_
  simp only [spec_l13Bits.l0, hash_eq key 1 h0 h1 (by omega), up2]
  refine Ev.iteT (by decide) (Ev.bind (l1Put _ _ (by have := Sets0.put_length (hb key 0) []; simp at this; omega)) ?_)
  refine Ev.succ ?_
  simp only [spec_l13Bits.l0, hash_eq key 2 h0 h1 (by omega), up3]
  refine Ev.iteT (by decide) (Ev.bind (l1Put _ _ (by have := Sets0.put_length (hb key 0) []; have := Sets0.put_length (hb key 1) (Sets0.put [] (hb key 0)); simp at *; omega)) ?_)
  refine Ev.succ ?_
  simp only [spec_l13Bits.l0]
  exact Ev.iteF (by decide) (Ev.now _)
theorem implBits (key : Int) (h0 : 0 ≤ key) (h1 : key ≤ 9999) : Ev (fun k => impl_bitsFor.f k key) (bits key) := by
  simp only [impl_bitsFor.f]
  refine Ev.succ ?_
  simp only [impl_bitsFor.l0, hash_eq key 0 h0 h1 (by omega), up1]
  refine Ev.iteT (by decide) (Ev.iteT (by simp) ?_)
  refine Ev.succ ?_
  simp only [impl_bitsFor.l0, hash_eq key 1 h0 h1 (by omega), up2]
  refine Ev.iteT (by decide) (Ev.iteT (by simp) ?_)
  refine Ev.succ ?_
  simp only [impl_bitsFor.l0, hash_eq key 2 h0 h1 (by omega), up3]
  refine Ev.iteT (by decide) (Ev.iteT (by simp) ?_)
  refine Ev.succ ?_
  simp only [impl_bitsFor.l0]
  refine Ev.iteF (by decide) ?_
  simp only [slices_Sort_int_int.f, slices_Compact_int_int.f]
  refine Ev.bind0 (x := ([hb key 0, hb key 1, hb key 2] : List Int).mergeSort fun x y => decide (x ≤ y)) (by simp) ?_
  refine Ev.bind0 (x := bits key) ?_ (Ev.now _)
  rw [if_pos (by simp), Sets0.sort_compact]
  rfl

def isKey (x : Int) : Bool := decide (0 ≤ x ∧ x ≤ 9999)
theorem keyIn (x : Int) : spec_l1In.f x 0 9999 = some (isKey x) := by
  unfold spec_l1In.f isKey
  by_cases h : x ≥ 0
  · rw [if_pos h]
    congr 1
    rw [decide_eq_decide]
    omega
  · rw [if_neg h]
    congr 1
    symm
    rw [decide_eq_false_iff_not]
    omega
theorem keyWithin (x : Int) : impl_within.f x 0 9999 = some (isKey x) := keyIn x
theorem isKey_iff (x : Int) : isKey x = true ↔ 0 ≤ x ∧ x ≤ 9999 := by simp [isKey]

theorem specKey (x : Int) : spec_l12Key.f x = some (isKey x) := by
  unfold spec_l12Key.f
  rw [keyIn]
  rfl

theorem implKey (x : Int) : impl_isKey.f x = some (isKey x) := by
  unfold impl_isKey.f
  rw [keyWithin]
  rfl

theorem eqFilter (xs : List Bool) (hx : xs.length ≤ 1048576) : Ev (fun k => laws_eqFilter.f k xs xs) true := by
  simp only [laws_eqFilter.f]
  exact Ev.bind (eqBoolS xs hx) (Ev.iteT rfl (Ev.now _))

theorem markFilter (xs : List Bool) (hx : xs.length ≤ 1048576) (n : Int) (h0 : 0 ≤ n) (h1 : n ≤ 1073741824) : Ev (fun k => laws_markFilter.f k xs n) (n + xs.length, marks (fun z => (Int.tmod z 3) == 0) n xs.length) := by
  simp only [laws_markFilter.f]
  exact Ev.bind (markBoolS xs hx n h0 h1) (Ev.now _)

theorem heldFilter (len : Nat) (hx : len ≤ 1048576) (n : Int) (h0 : 0 ≤ n) (h1 : n ≤ 1073741824) : Ev (fun k => laws_heldFilter.f k (marks (fun z => (Int.tmod z 3) == 0) n len) n) (n + len) := by
  simp only [laws_heldFilter.f]
  exact Ev.bind (heldBoolS len hx n h0 h1) (Ev.iteF (by omega) (Ev.now _))

/-- The bits of a list set. -/
def setAll (xs : List Bool) (bs : List Int) : List Bool := bs.foldl (fun l b => l.set b.toNat true) xs
theorem setAll_len (bs : List Int) : ∀ xs : List Bool, (setAll xs bs).length = xs.length := by
  induction bs with
  | nil => intro xs; rfl
  | cons b t ih => intro xs; simp [setAll] at *; rw [ih]; simp
theorem specSet_l (bs : List Int) (hb : ∀ x ∈ bs, 0 ≤ x ∧ x ≤ 60) (hl : bs.length ≤ 3) (d : Nat) : ∀ (i : Nat) (xs : List Bool) (k : Nat), xs.length = 64 → i + d = bs.length → d < k → spec_l13Put.l0 k bs bs.length i xs = some (setAll xs (bs.drop i)) := by
  induction d with
  | zero =>
    intro i xs k hx hi hk
    obtain ⟨k, rfl⟩ : ∃ m, k = m + 1 := ⟨k - 1, by omega⟩
    simp only [spec_l13Put.l0]
    rw [if_neg (by omega), List.drop_of_length_le (by omega)]
    rfl
  | succ d ih =>
    intro i xs k hx hi hk
    obtain ⟨k, rfl⟩ : ∃ m, k = m + 1 := ⟨k - 1, by omega⟩
    have hr := hb (bs[i]'(by omega)) (List.getElem_mem _)
    simp only [spec_l13Put.l0]
    rw [if_pos (by omega), if_pos (by omega), if_pos (by omega), rd_at _ _ (by omega : i < bs.length), if_pos hr.1, if_pos (by omega), i_succ i (by omega), ih (i + 1) _ k (by simpa using hx) (by omega) (by omega), drop_cons bs i (by omega)]
    rfl
theorem specSet (key : Int) (h0 : 0 ≤ key) (h1 : key ≤ 9999) (xs : List Bool) (hx : xs.length = 64) : Ev (fun k => spec_l13Put.f k xs key) (setAll xs (bits key)) := by
  simp only [spec_l13Put.f]
  refine Ev.bind (specBits key h0 h1) ?_
  have hl := bits_len key
  refine ⟨10, fun k hk => ?_⟩
  have h := specSet_l (bits key) (bits_range key) hl (bits key).length 0 xs k hx (by omega) (by omega)
  simpa using h
theorem implSet_l (bs : List Int) (hb : ∀ x ∈ bs, 0 ≤ x ∧ x ≤ 60) (hl : bs.length ≤ 3) (d : Nat) : ∀ (i : Nat) (xs : List Bool) (k : Nat), xs.length = 64 → i + d = bs.length → d < k → impl_PutFilter.l0 k bs bs.length i xs = some (setAll xs (bs.drop i), true) := by
  induction d with
  | zero =>
    intro i xs k hx hi hk
    obtain ⟨k, rfl⟩ : ∃ m, k = m + 1 := ⟨k - 1, by omega⟩
    simp only [impl_PutFilter.l0]
    rw [if_neg (by omega), List.drop_of_length_le (by omega)]
    rfl
  | succ d ih =>
    intro i xs k hx hi hk
    obtain ⟨k, rfl⟩ : ∃ m, k = m + 1 := ⟨k - 1, by omega⟩
    have hr := hb (bs[i]'(by omega)) (List.getElem_mem _)
    simp only [impl_PutFilter.l0]
    rw [if_pos (by omega), if_pos (by omega), if_pos (by omega), rd_at _ _ (by omega : i < bs.length), if_pos hr.1, if_pos (by omega), i_succ i (by omega), ih (i + 1) _ k (by simpa using hx) (by omega) (by omega), drop_cons bs i (by omega)]
    rfl
/-- What putting a key tells. -/
def putTold (xs : List Bool) (key : Int) : List Bool × Bool := if xs.length = 64 ∧ isKey key = true then (setAll xs (bits key), true) else ([], false)
theorem putTold_len (xs : List Bool) (key : Int) : (putTold xs key).1.length ≤ 64 := by
  unfold putTold
  split
  · rename_i h
    rw [setAll_len]
    omega
  · simp
theorem implPut (xs : List Bool) (key : Int) : Ev (fun k => impl_PutFilter.f k xs key) (putTold xs key) := by
  simp only [impl_PutFilter.f, impl_GoodFilter.f, Option.bind_some, implKey]
  unfold putTold
  by_cases h1 : xs.length = 64
  · refine Ev.iteT (by simp; omega) ?_
    by_cases h2 : isKey key = true
    · rw [if_pos ⟨h1, h2⟩]
      have h' := (isKey_iff key).1 h2
      refine Ev.succ ?_
      simp only [impl_PutFilter.j0, h2]
      refine Ev.iteF (by decide) ?_
      simp only [slices_Clone_bool_bool.f, Option.bind_some]
      refine Ev.bind0 (x := xs) (by rw [if_pos (by simp; omega)]; simp) ?_
      refine Ev.bind (implBits key h'.1 h'.2) ?_
      have hl := bits_len key
      refine ⟨10, fun k hk => ?_⟩
      have h := implSet_l (bits key) (bits_range key) hl (bits key).length 0 xs k h1 (by omega) (by omega)
      simpa using h
    · rw [if_neg (fun h => h2 h.2)]
      have h2' : isKey key = false := by simpa using h2
      refine Ev.succ ?_
      simp only [impl_PutFilter.j0, h2']
      exact Ev.iteT (by decide) (Ev.now _)
  · rw [if_neg (fun h => h1 h.1)]
    refine Ev.iteF (by simp; omega) ?_
    refine Ev.succ ?_
    simp only [impl_PutFilter.j0]
    exact Ev.iteT trivial (Ev.now _)

/-- All keys put, one after the other; nothing where one is no key. -/
def putAll : List Int → List Bool → List Bool × Bool
  | [], f => (f, true)
  | x :: t, f => if isKey x = true then putAll t (setAll f (bits x)) else ([], false)
theorem putAll_len (l : List Int) : ∀ f : List Bool, f.length = 64 → (putAll l f).1.length ≤ 64 := by
  induction l with
  | nil => intro f hf; simp [putAll, hf]
  | cons x t ih =>
    intro f hf
    unfold putAll
    split
    · exact ih _ (by rw [setAll_len]; exact hf)
    · simp
def ofTold (l : List Int) : List Bool × Bool := if l.length > 80 then ([], false) else putAll l (List.replicate 64 false)
theorem ofTold_len (l : List Int) : (ofTold l).1.length ≤ 64 := by
  unfold ofTold
  split
  · simp
  · exact putAll_len l _ (by simp)
theorem specOf_l (l : List Int) (hl : l.length ≤ 1048576) (d : Nat) : ∀ (i : Nat) (f : List Bool), f.length = 64 → i + d = l.length →
    Ev (fun k => spec_FilterOf.l0 k l l l.length i f) (if l.length > 80 then ([], false) else putAll (l.drop i) f) := by
  induction d with
  | zero =>
    intro i f hf hi
    refine Ev.succ ?_
    simp only [spec_FilterOf.l0]
    refine Ev.iteF (by omega) ?_
    rw [List.drop_of_length_le (by omega)]
    by_cases h : l.length > 80
    · rw [if_pos h]
      exact Ev.iteT (by omega) (Ev.now _)
    · rw [if_neg h]
      exact Ev.iteF (by omega) (Ev.now _)
  | succ d ih =>
    intro i f hf hi
    refine Ev.succ ?_
    simp only [spec_FilterOf.l0]
    rw [drop_cons l i (by omega)]
    refine Ev.iteT (by omega) (Ev.iteT (by omega) (Ev.iteT (by omega) ?_))
    rw [rd_at _ _ (by omega : i < l.length), specKey, i_succ i (by omega)]
    simp only [Option.bind_some, putAll]
    by_cases h : isKey (l[i]'(by omega)) = true
    · have h' := (isKey_iff _).1 h
      simp only [h, if_true]
      exact Ev.bind (specSet _ h'.1 h'.2 f hf) (ih (i + 1) _ (by rw [setAll_len]; exact hf) (by omega))
    · simp only [h, Bool.false_eq_true, if_false, ite_self]
      exact Ev.now _
theorem spec_told (l : List Int) (hl : l.length ≤ 1048576) : Ev (fun k => spec_FilterOf.f k l) (ofTold l) := by
  simp only [spec_FilterOf.f, spec_NewFilter.f]
  refine Ev.bind0 (x := List.replicate 64 false) (by rw [if_pos (by decide)]) ?_
  exact specOf_l l hl l.length 0 _ (by simp) (by omega)
theorem implOf_l (l : List Int) (hl : l.length ≤ 80) (d : Nat) : ∀ (i : Nat) (f : List Bool), f.length = 64 → i + d = l.length →
    Ev (fun k => impl_FilterOf.l0 k l l.length i f) (putAll (l.drop i) f) := by
  induction d with
  | zero =>
    intro i f hf hi
    refine Ev.succ ?_
    simp only [impl_FilterOf.l0]
    refine Ev.iteF (by omega) ?_
    rw [List.drop_of_length_le (by omega)]
    exact Ev.now _
  | succ d ih =>
    intro i f hf hi
    refine Ev.succ ?_
    simp only [impl_FilterOf.l0]
    rw [drop_cons l i (by omega)]
    refine Ev.iteT (by omega) (Ev.iteT (by omega) (Ev.iteT (by omega) ?_))
    rw [rd_at _ _ (by omega : i < l.length), i_succ i (by omega)]
    refine Ev.bind (implPut f _) ?_
    simp only [putAll]
    unfold putTold
    by_cases h : isKey (l[i]'(by omega)) = true
    · simp only [h, hf, and_self, if_true]
      exact ih (i + 1) _ (by rw [setAll_len]; exact hf) (by omega)
    · simp only [h, and_false, if_false, Bool.false_eq_true]
      exact Ev.now _
theorem impl_told (l : List Int) : Ev (fun k => impl_FilterOf.f k l) (ofTold l) := by
  simp only [impl_FilterOf.f]
  unfold ofTold
  by_cases h : l.length > 80
  · rw [if_pos h]
    exact Ev.iteT (by omega) (Ev.now _)
  · rw [if_neg h]
    refine Ev.iteF (by omega) ?_
    simp only [impl_NewFilter.f]
    refine Ev.bind0 (x := List.replicate 64 false) (by rw [if_pos (by decide)]) ?_
    exact implOf_l l (by omega) l.length 0 _ (by simp) (by omega)

theorem FnExactFilterOf : laws_FnExactFilterOf.Pure := by
  intro xs _ _ _
  refine Ev.rounds (g := fun k => laws_FnExactFilterOf.f k xs) ?_
  simp only [laws_FnExactFilterOf.f]
  by_cases hb : (xs.length : Int) > 1048576
  · exact Ev.iteT hb (Ev.now _)
  · refine Ev.iteF hb ?_
    have hl := ofTold_len xs
    have hx : xs.length ≤ 1048576 := by omega
    refine Ev.bind (toIntS xs hx) ?_
    refine Ev.bind (spec_told xs hx) ?_
    refine Ev.bind (toIntS xs hx) ?_
    refine Ev.bind (impl_told xs) ?_
    refine Ev.bind (eqFilter _ (by omega)) ?_
    refine Ev.iteT rfl ?_
    refine Ev.iteF (by simp) ?_
    refine Ev.bind (toIntS xs hx) ?_
    refine Ev.bind (eqIntS _ hx) ?_
    refine Ev.iteT rfl ?_
    refine Ev.bind (markIntS xs hx 1 (by omega) (by omega)) ?_
    refine Ev.iteF (by simp only; omega) ?_
    refine Ev.bind (eqFilter _ (by omega)) ?_
    refine Ev.iteT rfl ?_
    refine Ev.bind (markFilter _ (by omega) 1 (by omega) (by omega)) ?_
    refine Ev.bind (heldFilter _ (by omega) 1 (by omega) (by omega)) ?_
    refine Ev.iteF (by omega) ?_
    refine Ev.iteT rfl ?_
    refine Ev.bind (toIntS xs hx) ?_
    refine Ev.bind (impl_told xs) ?_
    refine Ev.bind (eqFilter _ (by omega)) ?_
    refine Ev.iteT rfl ?_
    refine Ev.iteF (by simp) ?_
    refine Ev.bind (heldFilter _ (by omega) 1 (by omega) (by omega)) ?_
    refine Ev.iteF (by omega) ?_
    exact Ev.iteT rfl (Ev.now _)

end Go.Proofs.Ytlieapaegmjhnaa.Pure
