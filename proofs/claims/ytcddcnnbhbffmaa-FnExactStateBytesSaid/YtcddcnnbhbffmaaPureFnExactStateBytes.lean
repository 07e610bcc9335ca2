/- The program's StateBytes and the reference's answer the same for every list of whole numbers. No condition. -/
import Derived.Test.YtcddcnnbhbffmaaXFnExactStateBytesx3
import Derived.Test.YtcddcnnbhbffmaaLib
namespace Go.Proofs.Ytcddcnnbhbffmaa.Pure
open Go.RowKit Go.Proofs.Ytcddcnnbhbffmaa.XFnExactStateBytes Go.Proofs.YtcddcnnbhbffmaaW.PrintWords Go.Proofs.YtcddcnnbhbffmaaW.PrintLast Go.Proofs.Ytcddcnnbhbffmaa.Lib0
set_option linter.unusedVariables false
set_option linter.unusedSimpArgs false

theorem toIntS_l (xs : List Int) (hx : xs.length ≤ 1048576) (d : Nat) : ∀ (i : Nat) (out : List Int) (k : Nat), i + d = xs.length → out.length = xs.length → d < k → laws_toIntS.l0 k xs out i = some (out.take i ++ xs.drop i) := by
  induction d with
  | zero =>
    intro i out k h1 h2 hk
    obtain ⟨k, rfl⟩ : ∃ m, k = m + 1 := ⟨k - 1, by omega⟩
    simp only [laws_toIntS.l0]
    rw [if_neg (by omega), List.take_of_length_le (by omega), List.drop_of_length_le (by omega), List.append_nil]
  | succ d ih =>
    intro i out k h1 h2 hk
    obtain ⟨k, rfl⟩ : ∃ m, k = m + 1 := ⟨k - 1, by omega⟩
    simp only [laws_toIntS.l0]
    rw [if_pos (by omega), if_pos (by omega), if_pos (by omega), i_succ i (by omega), rd_at _ _ (by omega : i < xs.length), Int.toNat_natCast, ih (i + 1) _ k (by omega) (by simpa using h2) (by omega), copy_step _ _ _ (by omega) (by omega)]
theorem toIntS (xs : List Int) (hx : xs.length ≤ 1048576) : Ev (fun k => laws_toIntS.f k xs) xs := by
  refine ⟨xs.length + 1, fun k hk => ?_⟩
  simp only [laws_toIntS.f]
  rw [if_pos (by omega), if_pos (by omega), show ((0 : Int)) = ((0 : Nat) : Int) from rfl, toIntS_l xs hx xs.length 0 _ k (by omega) (by simp) (by omega)]
  simp

theorem eqIntS_l (xs : List Int) (hx : xs.length ≤ 1048576) (d : Nat) : ∀ (i : Nat) (k : Nat), i + d = xs.length → d < k → laws_eqIntS.l0 k xs xs i = some true := by
  induction d with
  | zero =>
    intro i k h1 hk
    obtain ⟨k, rfl⟩ : ∃ m, k = m + 1 := ⟨k - 1, by omega⟩
    simp only [laws_eqIntS.l0]
    rw [if_neg (by omega)]
  | succ d ih =>
    intro i k h1 hk
    obtain ⟨k, rfl⟩ : ∃ m, k = m + 1 := ⟨k - 1, by omega⟩
    simp only [laws_eqIntS.l0]
    rw [if_pos (by omega), if_pos (by omega), if_pos (by omega), if_pos trivial, i_succ i (by omega), ih (i + 1) k (by omega) (by omega)]
theorem eqIntS (xs : List Int) (hx : xs.length ≤ 1048576) : Ev (fun k => laws_eqIntS.f k xs xs) true := by
  refine ⟨xs.length + 1, fun k hk => ?_⟩
  simp only [laws_eqIntS.f, if_true]
  exact eqIntS_l xs hx xs.length 0 k (by omega) (by omega)

theorem eqStringS_l (xs : List ByteArray) (hx : xs.length ≤ 1048576) (d : Nat) : ∀ (i : Nat) (k : Nat), i + d = xs.length → d < k → laws_eqStringS.l0 k xs xs i = some true := by
  induction d with
  | zero =>
    intro i k h1 hk
    obtain ⟨k, rfl⟩ : ∃ m, k = m + 1 := ⟨k - 1, by omega⟩
    simp only [laws_eqStringS.l0]
    rw [if_neg (by omega)]
  | succ d ih =>
    intro i k h1 hk
    obtain ⟨k, rfl⟩ : ∃ m, k = m + 1 := ⟨k - 1, by omega⟩
    simp only [laws_eqStringS.l0]
    rw [if_pos (by omega), if_pos (by omega), if_pos (by omega), if_pos trivial, i_succ i (by omega), ih (i + 1) k (by omega) (by omega)]
theorem eqStringS (xs : List ByteArray) (hx : xs.length ≤ 1048576) : Ev (fun k => laws_eqStringS.f k xs xs) true := by
  refine ⟨xs.length + 1, fun k hk => ?_⟩
  simp only [laws_eqStringS.f, if_true]
  exact eqStringS_l xs hx xs.length 0 k (by omega) (by omega)

theorem markIntS_l (xs : List Int) (hx : xs.length ≤ 1048576) (n : Int) (h0 : 0 ≤ n) (h1 : n ≤ 1073741824) (d : Nat) : ∀ (i : Nat) (k : Nat), i + d = xs.length → d < k →
    laws_markIntS.l0 k (marks id n i ++ xs.drop i) (n + i) i = some (n + xs.length, marks id n xs.length) := by
  induction d with
  | zero =>
    intro i k hi hk
    obtain ⟨k, rfl⟩ : ∃ m, k = m + 1 := ⟨k - 1, by omega⟩
    obtain rfl : i = xs.length := by omega
    simp only [laws_markIntS.l0]
    rw [if_neg (by simp [marks_length])]
    simp
  | succ d ih =>
    intro i k hi hk
    obtain ⟨k, rfl⟩ : ∃ m, k = m + 1 := ⟨k - 1, by omega⟩
    simp only [laws_markIntS.l0]
    rw [if_pos (by simp [marks_length]; omega), if_pos (by omega), Int.toNat_natCast, set_drop_step _ _ _ _ (by omega) (marks_length _ _ _), i_succ i (by omega), w64 (by omega) (by omega)]
    have e : marks id n i ++ [n + (i : Int)] = marks id n (i + 1) := (marks_snoc id i n).symm
    rw [e, show n + (i : Int) + 1 = n + ((i + 1 : Nat) : Int) by omega]
    exact ih (i + 1) k (by omega) (by omega)
theorem markIntS (xs : List Int) (hx : xs.length ≤ 1048576) (n : Int) (h0 : 0 ≤ n) (h1 : n ≤ 1073741824) : Ev (fun k => laws_markIntS.f k xs n) (n + xs.length, marks id n xs.length) := by
  refine ⟨xs.length + 1, fun k hk => ?_⟩
  simp only [laws_markIntS.f]
  have h := markIntS_l xs hx n h0 h1 xs.length 0 k (by omega) (by omega)
  simpa [marks] using h

theorem markText_l (j : Nat) : ∀ (n : Int) (out : ByteArray), 0 ≤ n ∧ n ≤ 2147483648 → n < 10 ^ j → out.size + j ≤ 1000 → ∃ t, ∀ k, j < k → laws_markText.l0 k n out = some t := by
  induction j with
  | zero =>
    intro n out h0 h1 h2
    refine ⟨(⟨#[109]⟩ : ByteArray) ++ out, fun k hk => ?_⟩
    obtain ⟨k, rfl⟩ : ∃ m, k = m + 1 := ⟨k - 1, by omega⟩
    simp only [laws_markText.l0]
    rw [if_neg (by simp at h1; omega), if_pos (by omega)]
  | succ j ih =>
    intro n out h0 h1 h2
    by_cases hn : n > 0
    · obtain ⟨t, ht⟩ := ih (n / 10) (strOfNums [wrap64 (48 + Int.tmod n 10) % 256] ++ out) ⟨by omega, by omega⟩ (by rw [Int.pow_succ] at h1; omega) (by rw [ByteArray.size_append, strOfNums_size]; simp; omega)
      refine ⟨t, fun k hk => ?_⟩
      obtain ⟨k, rfl⟩ : ∃ m, k = m + 1 := ⟨k - 1, by omega⟩
      have h := ht k (by omega)
      have e : Int.tdiv n 10 = n / 10 := Int.tdiv_eq_ediv_of_nonneg (by omega)
      simp only [laws_markText.l0]
      rw [if_pos hn]
      simp only [Option.bind_some, e]
      rw [w64 (n := n / 10) (by omega) (by omega)]
      rw [if_pos (by rw [strOfNums_size]; simp; omega)]
      exact h
    · refine ⟨(⟨#[109]⟩ : ByteArray) ++ out, fun k hk => ?_⟩
      obtain ⟨k, rfl⟩ : ∃ m, k = m + 1 := ⟨k - 1, by omega⟩
      simp only [laws_markText.l0]
      rw [if_neg hn, if_pos (by omega)]
theorem markText_some (n : Int) (h0 : 0 ≤ n) (h1 : n ≤ 2147483648) : ∃ t, ∀ k, 20 ≤ k → laws_markText.f k n = some t := by
  by_cases hn : n ≤ 0
  · refine ⟨(⟨#[109, 48]⟩ : ByteArray), fun k _ => ?_⟩
    simp only [laws_markText.f]
    rw [if_pos hn]
  · obtain ⟨t, ht⟩ := markText_l 10 n (⟨#[]⟩ : ByteArray) ⟨h0, h1⟩ (by omega) (by decide)
    refine ⟨t, fun k hk => ?_⟩
    simp only [laws_markText.f]
    rw [if_neg hn]
    exact ht k (by omega)
open Classical in
noncomputable def mtx (n : Int) : ByteArray := if h : ∃ t, ∀ k, 20 ≤ k → laws_markText.f k n = some t then Classical.choose h else ByteArray.empty
theorem markText (n : Int) (h0 : 0 ≤ n) (h1 : n ≤ 2147483648) (k : Nat) (hk : 20 ≤ k) : laws_markText.f k n = some (mtx n) := by
  have h := markText_some n h0 h1
  unfold mtx
  rw [dif_pos h]
  exact Classical.choose_spec h k hk

theorem markStringS_l (xs : List ByteArray) (hx : xs.length ≤ 1048576) (n : Int) (h0 : 0 ≤ n) (h1 : n ≤ 1073741824) (d : Nat) : ∀ (i : Nat) (k : Nat), i + d = xs.length → d + 20 < k →
    laws_markStringS.l0 k (marks mtx n i ++ xs.drop i) (n + i) i = some (n + xs.length, marks mtx n xs.length) := by
  induction d with
  | zero =>
    intro i k hi hk
    obtain ⟨k, rfl⟩ : ∃ m, k = m + 1 := ⟨k - 1, by omega⟩
    obtain rfl : i = xs.length := by omega
    simp only [laws_markStringS.l0]
    rw [if_neg (by simp [marks_length])]
    simp
  | succ d ih =>
    intro i k hi hk
    obtain ⟨k, rfl⟩ : ∃ m, k = m + 1 := ⟨k - 1, by omega⟩
    simp only [laws_markStringS.l0]
    rw [if_pos (by simp [marks_length]; omega), markText _ (by omega) (by omega) k (by omega)]
    simp only [Option.bind_some]
    rw [if_pos (by omega), Int.toNat_natCast, set_drop_step _ _ _ _ (by omega) (marks_length _ _ _), i_succ i (by omega), w64 (by omega) (by omega)]
    have e : marks mtx n i ++ [mtx (n + (i : Int))] = marks mtx n (i + 1) := (marks_snoc mtx i n).symm
    rw [e, show n + (i : Int) + 1 = n + ((i + 1 : Nat) : Int) by omega]
    exact ih (i + 1) k (by omega) (by omega)
theorem markStringS (xs : List ByteArray) (hx : xs.length ≤ 1048576) (n : Int) (h0 : 0 ≤ n) (h1 : n ≤ 1073741824) : Ev (fun k => laws_markStringS.f k xs n) (n + xs.length, marks mtx n xs.length) := by
  refine ⟨xs.length + 21, fun k hk => ?_⟩
  simp only [laws_markStringS.f]
  have h := markStringS_l xs hx n h0 h1 xs.length 0 k (by omega) (by omega)
  simpa [marks] using h

theorem heldStringS_l (xs : List ByteArray) (hx : xs.length ≤ 1048576) (n : Int) (h0 : 0 ≤ n) (h1 : n ≤ 1073741824) (hg : ∀ (i : Nat) (h : i < xs.length), xs[i] = mtx (n + i)) (d : Nat) : ∀ (i : Nat) (k : Nat), i + d = xs.length → d + 20 < k →
    laws_heldStringS.l0 k xs (n + i) i = some (n + xs.length) := by
  induction d with
  | zero =>
    intro i k hi hk
    obtain ⟨k, rfl⟩ : ∃ m, k = m + 1 := ⟨k - 1, by omega⟩
    obtain rfl : i = xs.length := by omega
    simp only [laws_heldStringS.l0]
    rw [if_neg (by omega)]
  | succ d ih =>
    intro i k hi hk
    obtain ⟨k, rfl⟩ : ∃ m, k = m + 1 := ⟨k - 1, by omega⟩
    simp only [laws_heldStringS.l0]
    rw [if_pos (by omega), markText _ (by omega) (by omega) k (by omega)]
    simp only [Option.bind_some]
    rw [if_pos (by omega), rdOf_at _ _ _ (by omega : i < xs.length), hg i (by omega), if_pos rfl, i_succ i (by omega), w64 (by omega) (by omega)]
    have ih' := ih (i + 1) k (by omega) (by omega)
    rwa [show n + ((i + 1 : Nat) : Int) = n + (i : Int) + 1 by omega] at ih'
theorem heldStringS (len : Nat) (hx : len ≤ 1048576) (n : Int) (h0 : 0 ≤ n) (h1 : n ≤ 1073741824) : Ev (fun k => laws_heldStringS.f k (marks mtx n len) n) (n + len) := by
  refine ⟨len + 21, fun k hk => ?_⟩
  simp only [laws_heldStringS.f]
  have h := heldStringS_l (marks mtx n len) (by rw [marks_length]; exact hx) n h0 h1 (fun i h => marks_get mtx len n i h) len 0 k (by rw [marks_length]; omega) (by omega)
  simpa [marks_length] using h

/-- A state: six values of 16 bits. -/
def inr (x : Int) : Bool := decide (0 ≤ x ∧ x ≤ 65535)
def stB (l : List Int) : Bool := decide (l.length = 6) && l.all inr
theorem l1In_inr (x : Int) : spec_l1In.f x 0 65535 = some (inr x) := by
  unfold spec_l1In.f inr
  by_cases h : x ≥ 0
  · rw [if_pos h]
    congr 1
    rw [decide_eq_decide]
    omega
  · rw [if_neg h]
    congr 1
    symm
    rw [decide_eq_false_iff_not]
    omega
theorem within_inr (x : Int) : impl_within.f x 0 65535 = some (inr x) := l1In_inr x
theorem specState_l (xs : List Int) (hx : xs.length ≤ 1048576) (d : Nat) : ∀ (i : Nat) (k : Nat), i + d = xs.length → d < k → spec_l15State.l0 k xs xs xs.length i = some (if (xs.drop i).all inr then decide (xs.length = 6) else false) := by
  induction d with
  | zero =>
    intro i k hi hk
    obtain ⟨k, rfl⟩ : ∃ m, k = m + 1 := ⟨k - 1, by omega⟩
    obtain rfl : i = xs.length := by omega
    simp only [spec_l15State.l0]
    rw [if_neg (by omega)]
    simp only [List.drop_length, List.all_nil, if_true]
    congr 1
    rw [Bool.eq_iff_iff]
    simp
    omega
  | succ d ih =>
    intro i k hi hk
    obtain ⟨k, rfl⟩ : ∃ m, k = m + 1 := ⟨k - 1, by omega⟩
    simp only [spec_l15State.l0]
    rw [if_pos (by omega), if_pos (by omega), if_pos (by omega), rd_at _ _ (by omega : i < xs.length), l1In_inr, drop_cons xs i (by omega)]
    simp only [Option.bind_some, List.all_cons]
    rcases Bool.eq_false_or_eq_true (inr (xs[i]'(by omega))) with hb | hb
    · simp only [hb, if_true, Bool.true_and]
      rw [i_succ i (by omega), ih (i + 1) k (by omega) (by omega)]
    · simp [hb]
theorem specState (xs : List Int) (hx : xs.length ≤ 1048576) : Ev (fun k => spec_l15State.f k xs) (stB xs) := by
  refine ⟨xs.length + 1, fun k hk => ?_⟩
  simp only [spec_l15State.f]
  have h := specState_l xs hx xs.length 0 k (by omega) (by omega)
  simp only [List.drop_zero] at h
  rw [show ((0 : Int)) = ((0 : Nat) : Int) from rfl, h]
  unfold stB
  cases xs.all inr <;> simp
theorem index_l (xs : List Int) (hx : xs.length ≤ 1048576) (d : Nat) : ∀ (i : Nat) (k : Nat), i + d = xs.length → d < k → ∃ j, slices_IndexFunc_int_int.l0 k xs xs.length i = some j ∧ (decide (j ≥ 0) = !(xs.drop i).all inr) := by
  induction d with
  | zero =>
    intro i k hi hk
    obtain ⟨k, rfl⟩ : ∃ m, k = m + 1 := ⟨k - 1, by omega⟩
    obtain rfl : i = xs.length := by omega
    simp only [slices_IndexFunc_int_int.l0]
    rw [if_neg (by omega)]
    exact ⟨_, rfl, by simp⟩
  | succ d ih =>
    intro i k hi hk
    obtain ⟨k, rfl⟩ : ∃ m, k = m + 1 := ⟨k - 1, by omega⟩
    simp only [slices_IndexFunc_int_int.l0, impl_isState_1.f]
    rw [if_pos (by omega), if_pos (by omega), if_pos (by omega), rd_at _ _ (by omega : i < xs.length), within_inr, drop_cons xs i (by omega)]
    simp only [Option.bind_some, List.all_cons]
    rcases Bool.eq_false_or_eq_true (inr (xs[i]'(by omega))) with hb | hb
    · simp only [hb, Bool.not_true, Bool.false_eq_true, if_false, Bool.true_and]
      rw [i_succ i (by omega)]
      exact ih (i + 1) k (by omega) (by omega)
    · simp only [hb, Bool.not_false, if_true, Bool.false_and]
      exact ⟨_, rfl, by simp⟩
theorem implState (xs : List Int) (hx : xs.length ≤ 1048576) : Ev (fun k => impl_isState.f k xs) (stB xs) := by
  refine ⟨xs.length + 1, fun k hk => ?_⟩
  simp only [impl_isState.f, slices_ContainsFunc_int_int.f, slices_IndexFunc_int_int.f]
  unfold stB
  by_cases h6 : xs.length = 6
  · rw [if_pos (by omega)]
    obtain ⟨j, h1, h2⟩ := index_l xs hx xs.length 0 k (by omega) (by omega)
    rw [show ((0 : Int)) = ((0 : Nat) : Int) from rfl, h1]
    simp only [Option.bind_some]
    have h2' : decide (j ≥ ((0 : Nat) : Int)) = !(xs.drop 0).all inr := h2
    rw [h2']
    simp [h6]
  · rw [if_neg (by omega)]
    simp [h6]
theorem stB_parts (xs : List Int) (h : stB xs = true) : ∃ a b c d e f, xs = [a, b, c, d, e, f] ∧ ∀ x ∈ xs, 0 ≤ x ∧ x ≤ 65535 := by
  unfold stB at h
  simp only [Bool.and_eq_true, decide_eq_true_eq, List.all_eq_true] at h
  obtain ⟨h6, hall⟩ := h
  match xs, h6 with
  | [a, b, c, d, e, f], _ => exact ⟨a, b, c, d, e, f, rfl, fun x hx => by simpa [inr] using hall x hx⟩

theorem str_app (xs ys : List Int) : strOfNums xs ++ strOfNums ys = strOfNums (xs ++ ys) := by
  apply ByteArray.ext
  apply Array.toList_inj.1
  rw [ByteArray.data_append, Array.toList_append, strOfNums_data, strOfNums_data, strOfNums_data, List.map_append]
theorem str_extract (xs : List Int) (a b : Nat) : (strOfNums xs).extract a b = strOfNums ((xs.take b).drop a) := by
  apply ByteArray.ext
  apply Array.toList_inj.1
  rw [ByteArray.data_extract, Array.toList_extract, strOfNums_data, strOfNums_data]
  simp [List.extract, List.map_drop, List.map_take, List.drop_take]

theorem l6Bytes2 (x : Int) (h0 : 0 ≤ x) (h1 : x ≤ 65535) (k : Nat) (hk : 3 ≤ k) : spec_l6Bytes.f k x 2 = some (strOfNums [x / 256 % 256, x % 256]) := by
  obtain ⟨k, rfl⟩ : ∃ m, k = m + 3 := ⟨k - 3, by omega⟩
  simp only [spec_l6Bytes.f]
  rw [if_pos (by omega), if_pos (by decide)]
  have e1 : wrap64 (2 - 1) = 1 := by decide +kernel
  have e2 : wrap64 0 = 0 := by decide +kernel
  have e3 : wrap64 (-1) = -1 := by decide +kernel
  simp only [e1]
  simp only [spec_l6Bytes.l0]
  simp [e2, e3]
def two (l : List Int) : List Int := l.flatMap fun x => [x / 256 % 256, x % 256]
theorem two_cons (x : Int) (l : List Int) : two (x :: l) = [x / 256 % 256, x % 256] ++ two l := rfl
def halves (xs : List Int) : List ByteArray := [strOfNums ((two xs).take 6), strOfNums ((two xs).drop 6)]
theorem specBytes_l (xs : List Int) (hx : xs.length = 6) (hr : ∀ x ∈ xs, 0 ≤ x ∧ x ≤ 65535) (d : Nat) : ∀ (i : Nat) (ns : List Int) (k : Nat), i + d = xs.length → ns.length = 2 * i → d + 3 < k →
    spec_l15Bytes.l0 k (strOfNums ns) xs xs.length i = some [strOfNums ((ns ++ two (xs.drop i)).take 6), strOfNums ((ns ++ two (xs.drop i)).drop 6)] := by
  induction d with
  | zero =>
    intro i ns k hi hn hk
    obtain ⟨k, rfl⟩ : ∃ m, k = m + 1 := ⟨k - 1, by omega⟩
    obtain rfl : i = xs.length := by omega
    simp only [spec_l15Bytes.l0]
    rw [if_neg (by omega), if_pos (by decide), if_pos (by rw [strOfNums_size]; omega), str_extract, str_extract, strOfNums_size, List.take_of_length_le (Nat.le_refl ns.length)]
    simp [two]
  | succ d ih =>
    intro i ns k hi hn hk
    obtain ⟨k, rfl⟩ : ∃ m, k = m + 1 := ⟨k - 1, by omega⟩
    have hm := hr (xs[i]'(by omega)) (List.getElem_mem _)
    simp only [spec_l15Bytes.l0]
    rw [if_pos (by omega), if_pos (by omega), if_pos (by omega), rd_at _ _ (by omega : i < xs.length), l6Bytes2 _ hm.1 hm.2 k (by omega), drop_cons xs i (by omega), two_cons]
    simp only [Option.bind_some]
    rw [if_pos (by rw [strOfNums_size, strOfNums_size]; simp; omega), str_app, i_succ i (by omega), ih (i + 1) _ k (by omega) (by simp; omega) (by omega)]
    simp only [List.append_assoc]
theorem specBytes (xs : List Int) (hx : xs.length = 6) (hr : ∀ x ∈ xs, 0 ≤ x ∧ x ≤ 65535) : Ev (fun k => spec_l15Bytes.f k xs) (halves xs) := by
  refine ⟨20, fun k hk => ?_⟩
  have h := specBytes_l xs hx hr 6 0 [] k (by omega) (by simp) (by omega)
  simpa [spec_l15Bytes.f, halves, show strOfNums [] = (⟨#[]⟩ : ByteArray) from rfl] using h
theorem implBytes_l (xs : List Int) (hx : xs.length = 6) (d : Nat) : ∀ (i : Nat) (ns : List Int) (k : Nat), i + d = xs.length → ns.length = 2 * i → d < k →
    impl_stateBytes.l0 k ns xs xs.length i = some [strOfNums ((ns ++ two (xs.drop i)).take 6), strOfNums ((ns ++ two (xs.drop i)).drop 6)] := by
  induction d with
  | zero =>
    intro i ns k hi hn hk
    obtain ⟨k, rfl⟩ : ∃ m, k = m + 1 := ⟨k - 1, by omega⟩
    obtain rfl : i = xs.length := by omega
    simp only [impl_stateBytes.l0]
    rw [if_neg (by omega), if_pos (by omega)]
    simp [two]
  | succ d ih =>
    intro i ns k hi hn hk
    obtain ⟨k, rfl⟩ : ∃ m, k = m + 1 := ⟨k - 1, by omega⟩
    simp only [impl_stateBytes.l0]
    rw [if_pos (by omega), if_pos (by omega), if_pos (by omega), rd_at _ _ (by omega : i < xs.length), drop_cons xs i (by omega), two_cons]
    simp only [Option.bind_some]
    rw [if_pos (by simp; omega), i_succ i (by omega), ih (i + 1) _ k (by omega) (by simp; omega) (by omega)]
    simp only [List.append_assoc]
theorem implBytes (xs : List Int) (hx : xs.length = 6) : Ev (fun k => impl_stateBytes.f k xs) (halves xs) := by
  refine ⟨20, fun k hk => ?_⟩
  have h := implBytes_l xs hx 6 0 [] k (by omega) (by simp) (by omega)
  simpa [impl_stateBytes.f, halves] using h

/-- What both answer. -/
def told (xs : List Int) : List ByteArray × Bool := if stB xs = true then (halves xs, true) else ([], false)
theorem told_len (xs : List Int) : (told xs).1.length ≤ 2 := by
  unfold told
  split <;> simp [halves]
theorem spec_told (xs : List Int) (hx : xs.length ≤ 1048576) : Ev (fun k => spec_StateBytes.f k xs) (told xs) := by
  simp only [spec_StateBytes.f]
  refine Ev.bind (specState xs hx) ?_
  unfold told
  cases h : stB xs with
  | true =>
    obtain ⟨a, b, c, d, e, f, rfl, hr⟩ := stB_parts xs h
    simp only [if_true]
    exact Ev.bind (specBytes _ rfl hr) (Ev.now _)
  | false =>
    simp only [Bool.false_eq_true, if_false]
    exact Ev.now _
theorem impl_told (xs : List Int) (hx : xs.length ≤ 1048576) : Ev (fun k => impl_StateBytes.f k xs) (told xs) := by
  simp only [impl_StateBytes.f]
  refine Ev.bind (implState xs hx) ?_
  unfold told
  cases h : stB xs with
  | true =>
    obtain ⟨a, b, c, d, e, f, rfl, hr⟩ := stB_parts xs h
    simp only [if_true]
    exact Ev.bind (implBytes _ rfl) (Ev.now _)
  | false =>
    simp only [Bool.false_eq_true, if_false]
    exact Ev.now _

theorem FnExactStateBytes : laws_FnExactStateBytes.Pure := by
  intro xs _ _ _
  refine Ev.rounds (g := fun k => laws_FnExactStateBytes.f k xs) ?_
  simp only [laws_FnExactStateBytes.f]
  by_cases hb : (xs.length : Int) > 1048576
  · exact Ev.iteT hb (Ev.now _)
  · have hx : xs.length ≤ 1048576 := by omega
    have hl := told_len xs
    refine Ev.iteF hb ?_
    refine Ev.bind (toIntS xs hx) ?_
    refine Ev.bind (spec_told xs hx) ?_
    refine Ev.bind (toIntS xs hx) ?_
    refine Ev.bind (impl_told xs hx) ?_
    refine Ev.bind (eqStringS _ (by omega)) ?_
    refine Ev.iteT rfl ?_
    refine Ev.iteF (by simp) ?_
    refine Ev.bind (toIntS xs hx) ?_
    refine Ev.bind (eqIntS xs hx) ?_
    refine Ev.iteT rfl ?_
    refine Ev.bind (markIntS xs hx 1 (by omega) (by omega)) ?_
    refine Ev.iteF (by simp only; omega) ?_
    refine Ev.bind (eqStringS _ (by omega)) ?_
    refine Ev.iteT rfl ?_
    refine Ev.bind (markStringS _ (by omega) 1 (by omega) (by omega)) ?_
    refine Ev.bind (heldStringS _ (by omega) 1 (by omega) (by omega)) ?_
    refine Ev.iteF (by omega) ?_
    refine Ev.iteT rfl ?_
    refine Ev.bind (toIntS xs hx) ?_
    refine Ev.bind (impl_told xs hx) ?_
    refine Ev.bind (eqStringS _ (by omega)) ?_
    refine Ev.iteT rfl ?_
    refine Ev.iteF (by simp) ?_
    refine Ev.bind (heldStringS _ (by omega) 1 (by omega) (by omega)) ?_
    refine Ev.iteF (by omega) ?_
    exact Ev.iteT rfl (Ev.now _)

end Go.Proofs.Ytcddcnnbhbffmaa.Pure
