/- The program's UsesIn and the reference's answer the same for every store. No condition. -/
import Derived.Test.YtgnijlfakjjfcaaPureDefFnExactUsesIn
import Derived.Test.YtgnijlfakjjfcaaLib
import Derived.Test.YtgnijlfakjjfcaaSets
namespace Go.Proofs.Ytgnijlfakjjfcaa.Pure
open Go.RowKit Go.Proofs.Ytgnijlfakjjfcaa.XFnExactUsesIn Go.Proofs.YtgnijlfakjjfcaaW.PrintWords Go.Proofs.YtgnijlfakjjfcaaW.PrintLast Go.Proofs.Ytgnijlfakjjfcaa.Lib0
set_option linter.unusedVariables false
set_option linter.unusedSimpArgs false

theorem toBoolS_l (xs : List Bool) (hx : xs.length ≤ 1048576) (d : Nat) : ∀ (i : Nat) (out : List Bool) (k : Nat), i + d = xs.length → out.length = xs.length → d < k → laws_toBoolS.l0 k xs out i = some (out.take i ++ xs.drop i) := by
  induction d with
  | zero =>
    intro i out k h1 h2 hk
    obtain ⟨k, rfl⟩ : ∃ m, k = m + 1 := ⟨k - 1, by omega⟩
    simp only [laws_toBoolS.l0]
    rw [if_neg (by omega), List.take_of_length_le (by omega), List.drop_of_length_le (by omega), List.append_nil]
  | succ d ih =>
    intro i out k h1 h2 hk
    obtain ⟨k, rfl⟩ : ∃ m, k = m + 1 := ⟨k - 1, by omega⟩
    simp only [laws_toBoolS.l0]
    rw [if_pos (by omega), if_pos (by omega), if_pos (by omega), i_succ i (by omega), rdOf_at _ _ _ (by omega : i < xs.length), Int.toNat_natCast, ih (i + 1) _ k (by omega) (by simpa using h2) (by omega), copy_step _ _ _ (by omega) (by omega)]
theorem toBoolS (xs : List Bool) (hx : xs.length ≤ 1048576) : Ev (fun k => laws_toBoolS.f k xs) xs := by
  refine ⟨xs.length + 1, fun k hk => ?_⟩
  simp only [laws_toBoolS.f]
  rw [if_pos (by omega), if_pos (by omega), show ((0 : Int)) = ((0 : Nat) : Int) from rfl, toBoolS_l xs hx xs.length 0 _ k (by omega) (by simp) (by omega)]
  simp

theorem toIntS_l (xs : List Int) (hx : xs.length ≤ 1048576) (d : Nat) : ∀ (i : Nat) (out : List Int) (k : Nat), i + d = xs.length → out.length = xs.length → d < k → laws_toIntS.l0 k xs out i = some (out.take i ++ xs.drop i) := by
  induction d with
  | zero =>
    intro i out k h1 h2 hk
    obtain ⟨k, rfl⟩ : ∃ m, k = m + 1 := ⟨k - 1, by omega⟩
    simp only [laws_toIntS.l0]
    rw [if_neg (by omega), List.take_of_length_le (by omega), List.drop_of_length_le (by omega), List.append_nil]
  | succ d ih =>
    intro i out k h1 h2 hk
    obtain ⟨k, rfl⟩ : ∃ m, k = m + 1 := ⟨k - 1, by omega⟩
    simp only [laws_toIntS.l0]
    rw [if_pos (by omega), if_pos (by omega), if_pos (by omega), i_succ i (by omega), rd_at _ _ (by omega : i < xs.length), Int.toNat_natCast, ih (i + 1) _ k (by omega) (by simpa using h2) (by omega), copy_step _ _ _ (by omega) (by omega)]
theorem toIntS (xs : List Int) (hx : xs.length ≤ 1048576) : Ev (fun k => laws_toIntS.f k xs) xs := by
  refine ⟨xs.length + 1, fun k hk => ?_⟩
  simp only [laws_toIntS.f]
  rw [if_pos (by omega), if_pos (by omega), show ((0 : Int)) = ((0 : Nat) : Int) from rfl, toIntS_l xs hx xs.length 0 _ k (by omega) (by simp) (by omega)]
  simp

theorem toStringS_l (xs : List ByteArray) (hx : xs.length ≤ 1048576) (d : Nat) : ∀ (i : Nat) (out : List ByteArray) (k : Nat), i + d = xs.length → out.length = xs.length → d < k → laws_toStringS.l0 k xs out i = some (out.take i ++ xs.drop i) := by
  induction d with
  | zero =>
    intro i out k h1 h2 hk
    obtain ⟨k, rfl⟩ : ∃ m, k = m + 1 := ⟨k - 1, by omega⟩
    simp only [laws_toStringS.l0]
    rw [if_neg (by omega), List.take_of_length_le (by omega), List.drop_of_length_le (by omega), List.append_nil]
  | succ d ih =>
    intro i out k h1 h2 hk
    obtain ⟨k, rfl⟩ : ∃ m, k = m + 1 := ⟨k - 1, by omega⟩
    simp only [laws_toStringS.l0]
    rw [if_pos (by omega), if_pos (by omega), if_pos (by omega), i_succ i (by omega), rdOf_at _ _ _ (by omega : i < xs.length), Int.toNat_natCast, ih (i + 1) _ k (by omega) (by simpa using h2) (by omega), copy_step _ _ _ (by omega) (by omega)]
theorem toStringS (xs : List ByteArray) (hx : xs.length ≤ 1048576) : Ev (fun k => laws_toStringS.f k xs) xs := by
  refine ⟨xs.length + 1, fun k hk => ?_⟩
  simp only [laws_toStringS.f]
  rw [if_pos (by omega), if_pos (by omega), show ((0 : Int)) = ((0 : Nat) : Int) from rfl, toStringS_l xs hx xs.length 0 _ k (by omega) (by simp) (by omega)]
  simp

theorem eqBoolS_l (xs : List Bool) (hx : xs.length ≤ 1048576) (d : Nat) : ∀ (i : Nat) (k : Nat), i + d = xs.length → d < k → laws_eqBoolS.l0 k xs xs i = some true := by
  induction d with
  | zero =>
    intro i k h1 hk
    obtain ⟨k, rfl⟩ : ∃ m, k = m + 1 := ⟨k - 1, by omega⟩
    simp only [laws_eqBoolS.l0]
    rw [if_neg (by omega)]
  | succ d ih =>
    intro i k h1 hk
    obtain ⟨k, rfl⟩ : ∃ m, k = m + 1 := ⟨k - 1, by omega⟩
    simp only [laws_eqBoolS.l0]
    rw [if_pos (by omega), if_pos (by omega), if_pos (by omega), if_neg (by simp), i_succ i (by omega), ih (i + 1) k (by omega) (by omega)]
theorem eqBoolS (xs : List Bool) (hx : xs.length ≤ 1048576) : Ev (fun k => laws_eqBoolS.f k xs xs) true := by
  refine ⟨xs.length + 1, fun k hk => ?_⟩
  simp only [laws_eqBoolS.f, if_true]
  exact eqBoolS_l xs hx xs.length 0 k (by omega) (by omega)

theorem eqIntS_l (xs : List Int) (hx : xs.length ≤ 1048576) (d : Nat) : ∀ (i : Nat) (k : Nat), i + d = xs.length → d < k → laws_eqIntS.l0 k xs xs i = some true := by
  induction d with
  | zero =>
    intro i k h1 hk
    obtain ⟨k, rfl⟩ : ∃ m, k = m + 1 := ⟨k - 1, by omega⟩
    simp only [laws_eqIntS.l0]
    rw [if_neg (by omega)]
  | succ d ih =>
    intro i k h1 hk
    obtain ⟨k, rfl⟩ : ∃ m, k = m + 1 := ⟨k - 1, by omega⟩
    simp only [laws_eqIntS.l0]
    rw [if_pos (by omega), if_pos (by omega), if_pos (by omega), if_pos trivial, i_succ i (by omega), ih (i + 1) k (by omega) (by omega)]
theorem eqIntS (xs : List Int) (hx : xs.length ≤ 1048576) : Ev (fun k => laws_eqIntS.f k xs xs) true := by
  refine ⟨xs.length + 1, fun k hk => ?_⟩
  simp only [laws_eqIntS.f, if_true]
  exact eqIntS_l xs hx xs.length 0 k (by omega) (by omega)

theorem eqStringS_l (xs : List ByteArray) (hx : xs.length ≤ 1048576) (d : Nat) : ∀ (i : Nat) (k : Nat), i + d = xs.length → d < k → laws_eqStringS.l0 k xs xs i = some true := by
  induction d with
  | zero =>
    intro i k h1 hk
    obtain ⟨k, rfl⟩ : ∃ m, k = m + 1 := ⟨k - 1, by omega⟩
    simp only [laws_eqStringS.l0]
    rw [if_neg (by omega)]
  | succ d ih =>
    intro i k h1 hk
    obtain ⟨k, rfl⟩ : ∃ m, k = m + 1 := ⟨k - 1, by omega⟩
    simp only [laws_eqStringS.l0]
    rw [if_pos (by omega), if_pos (by omega), if_pos (by omega), if_pos trivial, i_succ i (by omega), ih (i + 1) k (by omega) (by omega)]
theorem eqStringS (xs : List ByteArray) (hx : xs.length ≤ 1048576) : Ev (fun k => laws_eqStringS.f k xs xs) true := by
  refine ⟨xs.length + 1, fun k hk => ?_⟩
  simp only [laws_eqStringS.f, if_true]
  exact eqStringS_l xs hx xs.length 0 k (by omega) (by omega)

theorem markIntS_l (xs : List Int) (hx : xs.length ≤ 1048576) (n : Int) (h0 : 0 ≤ n) (h1 : n ≤ 1073741824) (d : Nat) : ∀ (i : Nat) (k : Nat), i + d = xs.length → d < k →
    laws_markIntS.l0 k (marks id n i ++ xs.drop i) (n + i) i = some (n + xs.length, marks id n xs.length) := by
  induction d with
  | zero =>
    intro i k hi hk
    obtain ⟨k, rfl⟩ : ∃ m, k = m + 1 := ⟨k - 1, by omega⟩
    obtain rfl : i = xs.length := by omega
    simp only [laws_markIntS.l0]
    rw [if_neg (by simp [marks_length])]
    simp
  | succ d ih =>
    intro i k hi hk
    obtain ⟨k, rfl⟩ : ∃ m, k = m + 1 := ⟨k - 1, by omega⟩
    simp only [laws_markIntS.l0]
    rw [if_pos (by simp [marks_length]; omega), if_pos (by omega), Int.toNat_natCast, set_drop_step _ _ _ _ (by omega) (marks_length _ _ _), i_succ i (by omega), w64 (by omega) (by omega)]
    have e : marks id n i ++ [n + (i : Int)] = marks id n (i + 1) := (marks_snoc id i n).symm
    rw [e, show n + (i : Int) + 1 = n + ((i + 1 : Nat) : Int) by omega]
    exact ih (i + 1) k (by omega) (by omega)
theorem markIntS (xs : List Int) (hx : xs.length ≤ 1048576) (n : Int) (h0 : 0 ≤ n) (h1 : n ≤ 1073741824) : Ev (fun k => laws_markIntS.f k xs n) (n + xs.length, marks id n xs.length) := by
  refine ⟨xs.length + 1, fun k hk => ?_⟩
  simp only [laws_markIntS.f]
  have h := markIntS_l xs hx n h0 h1 xs.length 0 k (by omega) (by omega)
  simpa [marks] using h

theorem heldIntS_l (xs : List Int) (hx : xs.length ≤ 1048576) (n : Int) (h0 : 0 ≤ n) (h1 : n ≤ 1073741824) (hg : ∀ (i : Nat) (h : i < xs.length), xs[i] = n + i) (d : Nat) : ∀ (i : Nat) (k : Nat), i + d = xs.length → d < k →
    laws_heldIntS.l0 k xs (n + i) i = some (n + xs.length) := by
  induction d with
  | zero =>
    intro i k hi hk
    obtain ⟨k, rfl⟩ : ∃ m, k = m + 1 := ⟨k - 1, by omega⟩
    obtain rfl : i = xs.length := by omega
    simp only [laws_heldIntS.l0]
    rw [if_neg (by omega)]
  | succ d ih =>
    intro i k hi hk
    obtain ⟨k, rfl⟩ : ∃ m, k = m + 1 := ⟨k - 1, by omega⟩
    simp only [laws_heldIntS.l0]
    rw [if_pos (by omega), if_pos (by omega), rd_at _ _ (by omega : i < xs.length), hg i (by omega)]
    have ih' := ih (i + 1) k (by omega) (by omega)
    rw [show n + ((i + 1 : Nat) : Int) = n + (i : Int) + 1 by omega] at ih'
    rw [if_pos rfl, i_succ i (by omega), w64 (by omega) (by omega)]
    exact ih'
theorem heldIntS (len : Nat) (hx : len ≤ 1048576) (n : Int) (h0 : 0 ≤ n) (h1 : n ≤ 1073741824) : Ev (fun k => laws_heldIntS.f k (marks id n len) n) (n + len) := by
  refine ⟨len + 1, fun k hk => ?_⟩
  simp only [laws_heldIntS.f]
  have h := heldIntS_l (marks id n len) (by rw [marks_length]; exact hx) n h0 h1 (fun i h => marks_get id len n i h) len 0 k (by rw [marks_length]; omega) (by omega)
  simpa [marks_length] using h

theorem markBoolS_l (xs : List Bool) (hx : xs.length ≤ 1048576) (n : Int) (h0 : 0 ≤ n) (h1 : n ≤ 1073741824) (d : Nat) : ∀ (i : Nat) (k : Nat), i + d = xs.length → d < k →
    laws_markBoolS.l0 k (marks (fun z => (Int.tmod z 3) == 0) n i ++ xs.drop i) (n + i) i = some (n + xs.length, marks (fun z => (Int.tmod z 3) == 0) n xs.length) := by
  induction d with
  | zero =>
    intro i k hi hk
    obtain ⟨k, rfl⟩ : ∃ m, k = m + 1 := ⟨k - 1, by omega⟩
    obtain rfl : i = xs.length := by omega
    simp only [laws_markBoolS.l0]
    rw [if_neg (by simp [marks_length])]
    simp
  | succ d ih =>
    intro i k hi hk
    obtain ⟨k, rfl⟩ : ∃ m, k = m + 1 := ⟨k - 1, by omega⟩
    simp only [laws_markBoolS.l0]
    rw [if_pos (by simp [marks_length]; omega), if_pos (by omega), Int.toNat_natCast, set_drop_step _ _ _ _ (by omega) (marks_length _ _ _), i_succ i (by omega), w64 (by omega) (by omega)]
    have e : marks (fun z => (Int.tmod z 3) == 0) n i ++ [(Int.tmod (n + (i : Int)) 3) == 0] = marks (fun z => (Int.tmod z 3) == 0) n (i + 1) := (marks_snoc _ i n).symm
    rw [e, show n + (i : Int) + 1 = n + ((i + 1 : Nat) : Int) by omega]
    exact ih (i + 1) k (by omega) (by omega)
theorem markBoolS (xs : List Bool) (hx : xs.length ≤ 1048576) (n : Int) (h0 : 0 ≤ n) (h1 : n ≤ 1073741824) : Ev (fun k => laws_markBoolS.f k xs n) (n + xs.length, marks (fun z => (Int.tmod z 3) == 0) n xs.length) := by
  refine ⟨xs.length + 1, fun k hk => ?_⟩
  simp only [laws_markBoolS.f]
  have h := markBoolS_l xs hx n h0 h1 xs.length 0 k (by omega) (by omega)
  simpa [marks] using h

theorem markText_l (j : Nat) : ∀ (n : Int) (out : ByteArray), 0 ≤ n ∧ n ≤ 2147483648 → n < 10 ^ j → out.size + j ≤ 1000 → ∃ t, ∀ k, j < k → laws_markText.l0 k n out = some t := by
  induction j with
  | zero =>
    intro n out h0 h1 h2
    refine ⟨(⟨#[109]⟩ : ByteArray) ++ out, fun k hk => ?_⟩
    obtain ⟨k, rfl⟩ : ∃ m, k = m + 1 := ⟨k - 1, by omega⟩
    simp only [laws_markText.l0]
    rw [if_neg (by simp at h1; omega), if_pos (by omega)]
  | succ j ih =>
    intro n out h0 h1 h2
    by_cases hn : n > 0
    · obtain ⟨t, ht⟩ := ih (n / 10) (strOfNums [wrap64 (48 + Int.tmod n 10) % 256] ++ out) ⟨by omega, by omega⟩ (by rw [Int.pow_succ] at h1; omega) (by rw [ByteArray.size_append, strOfNums_size]; simp; omega)
      refine ⟨t, fun k hk => ?_⟩
      obtain ⟨k, rfl⟩ : ∃ m, k = m + 1 := ⟨k - 1, by omega⟩
      have h := ht k (by omega)
      have e : Int.tdiv n 10 = n / 10 := Int.tdiv_eq_ediv_of_nonneg (by omega)
      simp only [laws_markText.l0]
      rw [if_pos hn]
      simp only [Option.bind_some, e]
      rw [w64 (n := n / 10) (by omega) (by omega)]
      rw [if_pos (by rw [strOfNums_size]; simp; omega)]
      exact h
    · refine ⟨(⟨#[109]⟩ : ByteArray) ++ out, fun k hk => ?_⟩
      obtain ⟨k, rfl⟩ : ∃ m, k = m + 1 := ⟨k - 1, by omega⟩
      simp only [laws_markText.l0]
      rw [if_neg hn, if_pos (by omega)]
theorem markText_some (n : Int) (h0 : 0 ≤ n) (h1 : n ≤ 2147483648) : ∃ t, ∀ k, 20 ≤ k → laws_markText.f k n = some t := by
  by_cases hn : n ≤ 0
  · refine ⟨(⟨#[109, 48]⟩ : ByteArray), fun k _ => ?_⟩
    simp only [laws_markText.f]
    rw [if_pos hn]
  · obtain ⟨t, ht⟩ := markText_l 10 n (⟨#[]⟩ : ByteArray) ⟨h0, h1⟩ (by omega) (by decide)
    refine ⟨t, fun k hk => ?_⟩
    simp only [laws_markText.f]
    rw [if_neg hn]
    exact ht k (by omega)
open Classical in
noncomputable def mtx (n : Int) : ByteArray := if h : ∃ t, ∀ k, 20 ≤ k → laws_markText.f k n = some t then Classical.choose h else ByteArray.empty
theorem markText (n : Int) (h0 : 0 ≤ n) (h1 : n ≤ 2147483648) (k : Nat) (hk : 20 ≤ k) : laws_markText.f k n = some (mtx n) := by
  have h := markText_some n h0 h1
  unfold mtx
  rw [dif_pos h]
  exact Classical.choose_spec h k hk

theorem markStringS_l (xs : List ByteArray) (hx : xs.length ≤ 1048576) (n : Int) (h0 : 0 ≤ n) (h1 : n ≤ 1073741824) (d : Nat) : ∀ (i : Nat) (k : Nat), i + d = xs.length → d + 20 < k →
    laws_markStringS.l0 k (marks mtx n i ++ xs.drop i) (n + i) i = some (n + xs.length, marks mtx n xs.length) := by
  induction d with
  | zero =>
    intro i k hi hk
    obtain ⟨k, rfl⟩ : ∃ m, k = m + 1 := ⟨k - 1, by omega⟩
    obtain rfl : i = xs.length := by omega
    simp only [laws_markStringS.l0]
    rw [if_neg (by simp [marks_length])]
    simp
  | succ d ih =>
    intro i k hi hk
    obtain ⟨k, rfl⟩ : ∃ m, k = m + 1 := ⟨k - 1, by omega⟩
    simp only [laws_markStringS.l0]
    rw [if_pos (by simp [marks_length]; omega), markText _ (by omega) (by omega) k (by omega)]
    simp only [Option.bind_some]
    rw [if_pos (by omega), Int.toNat_natCast, set_drop_step _ _ _ _ (by omega) (marks_length _ _ _), i_succ i (by omega), w64 (by omega) (by omega)]
    have e : marks mtx n i ++ [mtx (n + (i : Int))] = marks mtx n (i + 1) := (marks_snoc mtx i n).symm
    rw [e, show n + (i : Int) + 1 = n + ((i + 1 : Nat) : Int) by omega]
    exact ih (i + 1) k (by omega) (by omega)
theorem markStringS (xs : List ByteArray) (hx : xs.length ≤ 1048576) (n : Int) (h0 : 0 ≤ n) (h1 : n ≤ 1073741824) : Ev (fun k => laws_markStringS.f k xs n) (n + xs.length, marks mtx n xs.length) := by
  refine ⟨xs.length + 21, fun k hk => ?_⟩
  simp only [laws_markStringS.f]
  have h := markStringS_l xs hx n h0 h1 xs.length 0 k (by omega) (by omega)
  simpa [marks] using h

/-- It comes to some answer at enough rounds. -/
def Ends {α : Type} (g : Nat → Option α) : Prop := ∃ r, Ev g r
theorem Ends.now {α : Type} (r : α) : Ends (fun _ => some r) := ⟨r, Ev.now r⟩
theorem Ends.of {α : Type} {g : Nat → Option α} {r : α} (h : Ev g r) : Ends g := ⟨r, h⟩
theorem Ends.succ {α : Type} {g : Nat → Option α} (h : Ends fun k => g (k + 1)) : Ends g := h.imp fun _ h => Ev.succ h
theorem Ends.ite {α : Type} {p : Prop} [Decidable p] {a b : Nat → Option α} (ha : Ends a) (hb : Ends b) : Ends (fun n => if p then a n else b n) := by
  by_cases h : p
  · exact ha.imp fun _ q => Ev.iteT h q
  · exact hb.imp fun _ q => Ev.iteF h q
theorem Ends.iteT {α : Type} {p : Prop} [Decidable p] {a b : Nat → Option α} (h : p) (ha : Ends a) : Ends (fun n => if p then a n else b n) := ha.imp fun _ q => Ev.iteT h q
theorem Ends.iteF {α : Type} {p : Prop} [Decidable p] {a b : Nat → Option α} (h : ¬ p) (hb : Ends b) : Ends (fun n => if p then a n else b n) := hb.imp fun _ q => Ev.iteF h q
theorem Ends.bind {α β : Type} {a : Nat → Option α} {f : Nat → α → Option β} (ha : Ends a) (h : ∀ r, Ev a r → Ends (fun n => f n r)) : Ends (fun n => (a n).bind (f n)) := by
  obtain ⟨r, hr⟩ := ha
  obtain ⟨q, hq⟩ := h r hr
  exact ⟨q, Ev.bind hr hq⟩
theorem Ends.bind0 {α β : Type} {a : Option α} {x : α} {f : Nat → α → Option β} (h : a = some x) (k : Ends (fun n => f n x)) : Ends (fun n => a.bind (f n)) := k.imp fun _ q => Ev.bind0 h q
/-- What is left of n, or less than nothing; and, if anything, Q. -/
def Sz (g : Nat → Option Int) (n : Int) (Q : Prop) : Prop := ∃ r, Ev g r ∧ (r < 0 ∨ (0 ≤ r ∧ r ≤ n ∧ Q))
theorem Sz.stop {n : Int} (h : 0 ≤ n) : Sz (fun _ => some n) n True := ⟨n, Ev.now n, .inr ⟨h, Int.le_refl n, trivial⟩⟩
theorem Sz.step {a : Nat → Option Int} {f : Nat → Int → Option Int} {n : Int} {Q Q' : Prop} (h : Sz a n Q) (hk : ∀ r, 0 ≤ r → r ≤ n → Sz (fun k => f k r) r Q') : Sz (fun k => (a k).bind fun t => if t < 0 then some (-1) else f k t) n (Q ∧ Q') := by
  obtain ⟨r, hr, h | ⟨h1, h2, q⟩⟩ := h
  · exact ⟨-1, Ev.bind hr (Ev.iteT h (Ev.now _)), .inl (by omega)⟩
  · obtain ⟨s, hs, h' | ⟨h3, h4, q'⟩⟩ := hk r h1 h2
    · exact ⟨s, Ev.bind hr (Ev.iteF (by omega) hs), .inl h'⟩
    · exact ⟨s, Ev.bind hr (Ev.iteF (by omega) hs), .inr ⟨h3, by omega, q, q'⟩⟩

theorem szStringS_l (xs : List ByteArray) (hx : xs.length ≤ 1048576) (hs : ∀ y ∈ xs, y.size ≤ maxLen) (d : Nat) : ∀ (i : Nat) (n : Int), i + d = xs.length → 0 ≤ n → n ≤ 1048576 → Sz (fun k => laws_szStringS.l0 k xs n i) n True := by
  unfold maxLen at hs
  induction d with
  | zero =>
    intro i n hi h0 h1
    refine ⟨n, Ev.succ ?_, .inr ⟨h0, Int.le_refl n, trivial⟩⟩
    simp only [laws_szStringS.l0]
    exact Ev.iteF (by omega) (Ev.now _)
  | succ d ih =>
    intro i n hi h0 h1
    have hb := hs (xs[i]'(by omega)) (List.getElem_mem _)
    by_cases h : n - ((xs[i]'(by omega)).size : Int) < 0
    · refine ⟨-1, Ev.succ ?_, .inl (by omega)⟩
      simp only [laws_szStringS.l0]
      rw [rdOf_at _ _ _ (by omega : i < xs.length), w64 (by omega) (by omega)]
      exact Ev.iteT (by omega) (Ev.iteT (by omega) (Ev.iteT h (Ev.now _)))
    · obtain ⟨r, hr, hq⟩ := ih (i + 1) (n - ((xs[i]'(by omega)).size : Int)) (by omega) (by omega) (by omega)
      refine ⟨r, Ev.succ ?_, hq.imp id (fun ⟨q1, q2, _⟩ => ⟨q1, by omega, trivial⟩)⟩
      simp only [laws_szStringS.l0]
      rw [rdOf_at _ _ _ (by omega : i < xs.length), w64 (by omega) (by omega), i_succ i (by omega)]
      exact Ev.iteT (by omega) (Ev.iteT (by omega) (Ev.iteF h hr))
theorem szStringS (xs : List ByteArray) (n : Int) (h0 : 0 ≤ n) (h1 : n ≤ 1048576) (hx : xs.length ≤ maxLen) (hs : ∀ y ∈ xs, y.size ≤ maxLen) : Sz (fun k => laws_szStringS.f k xs n) n (xs.length ≤ 1048576) := by
  unfold maxLen at hx
  simp only [laws_szStringS.f]
  rw [w64 (by omega) (by omega)]
  by_cases h : n - (xs.length : Int) < 0
  · exact ⟨-1, Ev.iteT h (Ev.now _), .inl (by omega)⟩
  · obtain ⟨r, hr, hq⟩ := szStringS_l xs (by omega) hs xs.length 0 (n - xs.length) (by omega) (by omega) (by omega)
    exact ⟨r, Ev.iteF h hr, hq.imp id (fun ⟨q1, q2, _⟩ => ⟨q1, by omega, by omega⟩)⟩

theorem szBoolS (xs : List Bool) (n : Int) (h0 : 0 ≤ n) (h1 : n ≤ 1048576) (hx : xs.length ≤ maxLen) : Sz (fun _ => laws_szBoolS.f xs n) n (xs.length ≤ 1048576) := by
  unfold maxLen at hx
  simp only [laws_szBoolS.f]
  rw [w64 (by omega) (by omega)]
  by_cases h : n - (xs.length : Int) < 0
  · exact ⟨-1, Ev.iteT h (Ev.now _), .inl (by omega)⟩
  · exact ⟨_, Ev.iteF h (Ev.now _), by omega⟩

theorem szIntS (xs : List Int) (n : Int) (h0 : 0 ≤ n) (h1 : n ≤ 1048576) (hx : xs.length ≤ maxLen) : Sz (fun _ => laws_szIntS.f xs n) n (xs.length ≤ 1048576) := by
  unfold maxLen at hx
  simp only [laws_szIntS.f]
  rw [w64 (by omega) (by omega)]
  by_cases h : n - (xs.length : Int) < 0
  · exact ⟨-1, Ev.iteT h (Ev.now _), .inl (by omega)⟩
  · exact ⟨_, Ev.iteF h (Ev.now _), by omega⟩

theorem l1In (x a b : Int) : spec_l1In.f x a b = some (decide (a ≤ x ∧ x ≤ b)) := by
  unfold spec_l1In.f
  by_cases h : x ≥ a
  · rw [if_pos h]
    simp [show a ≤ x from h]
  · rw [if_neg h]
    simp only [show ¬ a ≤ x from h, false_and, decide_false]

theorem within (x a b : Int) : impl_within.f x a b = some (decide (a ≤ x ∧ x ≤ b)) := by
  unfold impl_within.f
  by_cases h : x ≥ a
  · rw [if_pos h]
    simp [show a ≤ x from h]
  · rw [if_neg h]
    simp only [show ¬ a ≤ x from h, false_and, decide_false]

theorem szDisk (a b : List ByteArray) (c : List Bool) (n : Int) (h0 : 0 ≤ n) (h1 : n ≤ 1048576) (ha : a.length ≤ maxLen ∧ ∀ y ∈ a, y.size ≤ maxLen) (hb : b.length ≤ maxLen ∧ ∀ y ∈ b, y.size ≤ maxLen) (hc : c.length ≤ maxLen) :
    Sz (fun k => laws_szDisk.f k a b c n) n (a.length ≤ 1048576 ∧ b.length ≤ 1048576 ∧ c.length ≤ 1048576 ∧ True) := by
  simp only [laws_szDisk.f]
  refine Sz.step (szStringS a n h0 h1 ha.1 ha.2) (fun r q0 q1 => ?_)
  refine Sz.step (szStringS b r q0 (by omega) hb.1 hb.2) (fun s q2 q3 => ?_)
  exact Sz.step (szBoolS c s q2 (by omega) hc) (fun t q4 q5 => Sz.stop q4)

theorem toDisk (a b : List ByteArray) (c : List Bool) (ha : a.length ≤ 1048576) (hb : b.length ≤ 1048576) (hc : c.length ≤ 1048576) : Ev (fun k => laws_toDisk.f k a b c) (a, b, c) := by
  simp only [laws_toDisk.f]
  exact Ev.bind (toStringS a ha) (Ev.bind (toStringS b hb) (Ev.bind (toBoolS c hc) (Ev.now _)))

theorem eqDisk (a b : List ByteArray) (c : List Bool) (ha : a.length ≤ 1048576) (hb : b.length ≤ 1048576) (hc : c.length ≤ 1048576) : Ev (fun k => laws_eqDisk.f k a b c a b c) true := by
  simp only [laws_eqDisk.f]
  exact Ev.bind (eqStringS a ha) (Ev.iteT rfl (Ev.bind (eqStringS b hb) (Ev.iteT rfl (Ev.bind (eqBoolS c hc) (Ev.iteT rfl (Ev.now _))))))

theorem goodDisk_l (a b : List ByteArray) (c : List Bool) (ha : a.length ≤ 1048576) (hb : b.length = a.length) (hc : c.length = a.length) (d : Nat) : ∀ i : Nat, i + d = a.length → Ends (fun k => spec_GoodDisk.l0 k a.length i a b c) := by
  induction d with
  | zero =>
    intro i hi
    refine Ends.succ ?_
    simp only [spec_GoodDisk.l0]
    exact Ends.iteF (by omega) (Ends.now _)
  | succ d ih =>
    intro i hi
    refine Ends.succ ?_
    simp only [spec_GoodDisk.l0]
    rw [i_succ i (by omega)]
    have hn := ih (i + 1) (by omega)
    exact Ends.iteT (by omega) (Ends.iteT (by omega) (Ends.iteT (by omega) (Ends.ite (Ends.now _) (Ends.iteT (by omega) (Ends.ite (Ends.now _) (Ends.iteT (by omega) (Ends.ite (Ends.ite hn (Ends.now _)) hn)))))))
theorem goodDisk (a b : List ByteArray) (c : List Bool) (ha : a.length ≤ 1048576) : Ends (fun k => spec_GoodDisk.f k a b c) := by
  have no : Ends (fun k => spec_GoodDisk.j0 k true a b c) := by
    refine Ends.succ ?_
    simp only [spec_GoodDisk.j0]
    exact Ends.iteT trivial (Ends.now _)
  simp only [spec_GoodDisk.f]
  refine Ends.bind0 (l1In _ _ _) (Ends.ite ?_ no)
  by_cases hb : (b.length : Int) = (a.length : Int)
  · refine Ends.iteT hb (Ends.succ ?_)
    simp only [spec_GoodDisk.j0]
    by_cases hc : c.length = a.length
    · exact Ends.iteF (by simp [hc]) (goodDisk_l a b c ha (by omega) hc a.length 0 (by omega))
    · exact Ends.iteT (by simp; omega) (Ends.now _)
  · exact Ends.iteF hb no

theorem implDisk_l (a b : List ByteArray) (c : List Bool) (n : Int) : ∀ (k : Nat) (i : Int), impl_GoodDisk.l0 k a n i a b c = spec_GoodDisk.l0 k n i a b c := by
  intro k
  induction k with
  | zero => intro i; rfl
  | succ k ih => intro i; simp only [impl_GoodDisk.l0, spec_GoodDisk.l0, ih]
theorem implDisk_j (a b : List ByteArray) (c : List Bool) (k : Nat) (x : Bool) : impl_GoodDisk.j0 k x a b c = spec_GoodDisk.j0 k x a b c := by
  cases k with
  | zero => rfl
  | succ k => simp only [impl_GoodDisk.j0, spec_GoodDisk.j0, implDisk_l]
theorem implDisk (a b : List ByteArray) (c : List Bool) (k : Nat) : impl_GoodDisk.f k a b c = spec_GoodDisk.f k a b c := by
  simp only [impl_GoodDisk.f, spec_GoodDisk.f, implDisk_j, within, l1In]

theorem szScrub (a b : List ByteArray) (c : List Bool) (e : List Int) (cur men : Int) (n : Int) (h0 : 0 ≤ n) (h1 : n ≤ 1048576) (ha : a.length ≤ maxLen ∧ ∀ y ∈ a, y.size ≤ maxLen) (hb : b.length ≤ maxLen ∧ ∀ y ∈ b, y.size ≤ maxLen) (hc : c.length ≤ maxLen) (he : e.length ≤ maxLen) :
    Sz (fun k => laws_szScrub.f k a b c e cur men n) n ((a.length ≤ 1048576 ∧ b.length ≤ 1048576 ∧ c.length ≤ 1048576 ∧ True) ∧ e.length ≤ 1048576 ∧ True) := by
  simp only [laws_szScrub.f]
  refine Sz.step (szDisk a b c n h0 h1 ha hb hc) (fun r q0 q1 => ?_)
  exact Sz.step (szIntS e r q0 (by omega) he) (fun t q4 q5 => Sz.stop q4)

theorem toScrub (a b : List ByteArray) (c : List Bool) (e : List Int) (cur men : Int) (ha : a.length ≤ 1048576) (hb : b.length ≤ 1048576) (hc : c.length ≤ 1048576) (he : e.length ≤ 1048576) : Ev (fun k => laws_toScrub.f k a b c e cur men) (a, b, c, e, cur, men) := by
  simp only [laws_toScrub.f]
  exact Ev.bind (toDisk a b c ha hb hc) (Ev.bind (toIntS e he) (Ev.now _))

theorem eqScrub (a b : List ByteArray) (c : List Bool) (e : List Int) (cur men : Int) (ha : a.length ≤ 1048576) (hb : b.length ≤ 1048576) (hc : c.length ≤ 1048576) (he : e.length ≤ 1048576) : Ev (fun k => laws_eqScrub.f k a b c e cur men a b c e cur men) true := by
  simp only [laws_eqScrub.f]
  exact Ev.bind (eqDisk a b c ha hb hc) (Ev.iteT rfl (Ev.bind (eqIntS e he) (Ev.iteT rfl (Ev.iteT trivial (Ev.iteT trivial (Ev.now _))))))

def okE (x : Int) : Bool := decide (0 ≤ x ∧ x ≤ 60000)
/-- What is asked of a scrub beside its epochs. -/
def scrubRest (D : Bool) (la n : Nat) (cur men : Int) : Bool := decide (1 ≤ n ∧ n ≤ 4) && D && decide (la = 5 * n) && decide (0 ≤ cur ∧ cur ≤ (n : Int) - 1) && decide (0 ≤ men ∧ men ≤ 10000)
theorem specScrub_l (a b : List ByteArray) (c : List Bool) (e : List Int) (cur men : Int) (he : e.length ≤ 1048576) (D : Bool) (hD : Ev (fun k => spec_GoodDisk.f k a b c) D) (d : Nat) : ∀ i : Nat, i + d = e.length → Ev (fun k => spec_GoodScrub.l0 k e.length e e.length i a b c e cur men) ((e.drop i).all okE && scrubRest D a.length e.length cur men) := by
  induction d with
  | zero =>
    intro i hi
    refine Ev.succ ?_
    simp only [spec_GoodScrub.l0]
    have e1 : wrap64 (5 * (e.length : Int)) = 5 * (e.length : Int) := w64 (by omega) (by omega)
    have e2 : wrap64 ((e.length : Int) - 1) = (e.length : Int) - 1 := w64 (by omega) (by omega)
    rw [List.drop_of_length_le (by omega), e1, e2]
    refine Ev.iteF (by omega) ?_
    simp only [l1In, Option.bind_some, List.all_nil, Bool.true_and, scrubRest]
    by_cases h1 : 1 ≤ e.length ∧ e.length ≤ 4
    · refine Ev.iteT (by simp; omega) (Ev.bind hD ?_)
      cases D with
      | false => exact Ev.iteF (by decide) (by simpa using Ev.now _)
      | true =>
        refine Ev.iteT rfl ?_
        by_cases h2 : a.length = 5 * e.length
        · refine Ev.iteT (by omega) ?_
          by_cases h3 : 0 ≤ cur ∧ cur ≤ (e.length : Int) - 1
          · refine Ev.iteT (by simpa using h3) ?_
            simp only [h1, h2, h3, and_self, decide_true, Bool.and_true, Bool.true_and]
            exact Ev.now _
          · refine Ev.iteF (by simpa using h3) ?_
            simp only [h3, decide_false, Bool.and_false, Bool.false_and]
            exact Ev.now _
        · refine Ev.iteF (by omega) ?_
          simp only [h2, decide_false, Bool.and_false, Bool.false_and]
          exact Ev.now _
    · refine Ev.iteF (by simp; omega) ?_
      simp only [h1, decide_false, Bool.false_and]
      exact Ev.now _
  | succ d ih =>
    intro i hi
    refine Ev.succ ?_
    simp only [spec_GoodScrub.l0]
    rw [i_succ i (by omega), rd_at _ _ (by omega : i < e.length), drop_cons e i (by omega), List.all_cons]
    refine Ev.iteT (by omega) (Ev.iteT (by omega) (Ev.iteT (by omega) (Ev.bind0 (l1In _ _ _) ?_)))
    by_cases h : okE (e[i]'(by omega)) = true
    · rw [h, Bool.true_and]
      exact Ev.iteT h (ih (i + 1) (by omega))
    · have h' : okE (e[i]'(by omega)) = false := by simpa using h
      rw [h', Bool.false_and, Bool.false_and]
      exact Ev.iteF h (Ev.now _)
/-- Whether a scrub is good. -/
def scrubTold (D : Bool) (la : Nat) (e : List Int) (cur men : Int) : Bool := e.all okE && scrubRest D la e.length cur men
theorem specScrub (a b : List ByteArray) (c : List Bool) (e : List Int) (cur men : Int) (he : e.length ≤ 1048576) (D : Bool) (hD : Ev (fun k => spec_GoodDisk.f k a b c) D) : Ev (fun k => spec_GoodScrub.f k a b c e cur men) (scrubTold D a.length e cur men) := by
  simp only [spec_GoodScrub.f]
  exact specScrub_l a b c e cur men he D hD e.length 0 (by omega)
theorem implFind (e : List Int) (he : e.length ≤ 1048576) (d : Nat) : ∀ i : Nat, i + d = e.length → ∃ t, Ev (fun k => slices_IndexFunc_int_int.l0 k e e.length i) t ∧ (decide (t ≥ 0) = !((e.drop i).all okE)) := by
  induction d with
  | zero =>
    intro i hi
    refine ⟨-1, Ev.succ ?_, ?_⟩
    · simp only [slices_IndexFunc_int_int.l0]
      exact Ev.iteF (by omega) (Ev.now _)
    · rw [List.drop_of_length_le (by omega)]
      rfl
  | succ d ih =>
    intro i hi
    obtain ⟨t, ht, hq⟩ := ih (i + 1) (by omega)
    by_cases h : okE (e[i]'(by omega)) = true
    · refine ⟨t, Ev.succ ?_, ?_⟩
      · simp only [slices_IndexFunc_int_int.l0, impl_GoodScrub_1.f, within, Option.bind_some]
        rw [i_succ i (by omega), rd_at _ _ (by omega : i < e.length)]
        refine Ev.iteT (by omega) (Ev.iteT (by omega) (Ev.iteT (by omega) (Ev.iteF ?_ ht)))
        unfold okE at h
        rw [h]
        decide
      · rw [hq, drop_cons e i (by omega), List.all_cons, h, Bool.true_and]
    · have h' : okE (e[i]'(by omega)) = false := by simpa using h
      refine ⟨i, Ev.succ ?_, ?_⟩
      · simp only [slices_IndexFunc_int_int.l0, impl_GoodScrub_1.f, within, Option.bind_some]
        rw [rd_at _ _ (by omega : i < e.length)]
        refine Ev.iteT (by omega) (Ev.iteT (by omega) (Ev.iteT (by omega) (Ev.iteT ?_ (Ev.now _))))
        unfold okE at h'
        rw [h']
        rfl
      · rw [drop_cons e i (by omega), List.all_cons, h']
        simp
theorem implScrub (a b : List ByteArray) (c : List Bool) (e : List Int) (cur men : Int) (he : e.length ≤ 1048576) (D : Bool) (hD : Ev (fun k => spec_GoodDisk.f k a b c) D) : Ev (fun k => impl_GoodScrub.f k a b c e cur men) (scrubTold D a.length e cur men) := by
  simp only [impl_GoodScrub.f, within, Option.bind_some, implDisk, scrubTold, scrubRest]
  have e1 : wrap64 (5 * (e.length : Int)) = 5 * (e.length : Int) := w64 (by omega) (by omega)
  have e2 : wrap64 ((e.length : Int) - 1) = (e.length : Int) - 1 := w64 (by omega) (by omega)
  rw [e1, e2]
  by_cases h1 : 1 ≤ e.length ∧ e.length ≤ 4
  · refine Ev.iteT (by simp; omega) (Ev.bind hD ?_)
    cases D with
    | false => exact Ev.iteF (by decide) (by simpa using Ev.now _)
    | true =>
      refine Ev.iteT rfl ?_
      by_cases h2 : a.length = 5 * e.length
      · refine Ev.iteT (by omega) ?_
        by_cases h3 : 0 ≤ cur ∧ cur ≤ (e.length : Int) - 1
        · refine Ev.iteT (by simpa using h3) ?_
          by_cases h4 : 0 ≤ men ∧ men ≤ 10000
          · refine Ev.iteT (by simpa using h4) ?_
            obtain ⟨t, ht, hq⟩ := implFind e he e.length 0 (by omega)
            have hv : (e.all okE && (decide (1 ≤ e.length ∧ e.length ≤ 4) && true && decide (a.length = 5 * e.length) && decide (0 ≤ cur ∧ cur ≤ (e.length : Int) - 1) && decide (0 ≤ men ∧ men ≤ 10000))) = !(decide (t ≥ 0)) := by
              rw [hq]
              simp only [h1, h2, h3, h4, and_self, decide_true, Bool.and_true, List.drop_zero, Bool.not_not]
            rw [hv]
            simp only [slices_ContainsFunc_int_int_48.f, slices_IndexFunc_int_int.f]
            exact Ev.bind (Ev.bind ht (Ev.now _)) (Ev.now _)
          · refine Ev.iteF (by simpa using h4) ?_
            simp only [h4, decide_false, Bool.and_false]
            exact Ev.now _
        · refine Ev.iteF (by simpa using h3) ?_
          simp only [h3, decide_false, Bool.and_false, Bool.false_and]
          exact Ev.now _
      · refine Ev.iteF (by omega) ?_
        simp only [h2, decide_false, Bool.and_false, Bool.false_and]
        exact Ev.now _
  · refine Ev.iteF (by simp; omega) ?_
    simp only [h1, decide_false, Bool.false_and, Bool.and_false]
    exact Ev.now _

theorem rdL3_at (xs : List (List Int)) (i : Nat) (h : i < xs.length) : rd_L3 xs (i : Int) = xs[i] := by
  unfold rd_L3
  simp [h]
/-- How long all rows are together. -/
def tot (xs : List (List Int)) : Nat := (xs.map List.length).sum
theorem tot_cons (x : List Int) (xs : List (List Int)) : tot (x :: xs) = x.length + tot xs := by simp [tot]
theorem szIntS_eq (xs : List Int) (n : Int) (h0 : 0 ≤ n) (h1 : n ≤ 1048576) (hx : xs.length ≤ maxLen) : laws_szIntS.f xs n = some (if n - xs.length < 0 then -1 else n - xs.length) := by
  unfold maxLen at hx
  unfold laws_szIntS.f
  rw [w64 (by omega) (by omega)]
  by_cases h : n - (xs.length : Int) < 0
  · rw [if_pos h, if_pos h]
  · rw [if_neg h, if_neg h]
theorem szIntSS_l (xs : List (List Int)) (hx : xs.length ≤ 1048576) (hs : ∀ y ∈ xs, y.length ≤ maxLen) (d : Nat) : ∀ (i : Nat) (n : Int), i + d = xs.length → 0 ≤ n → n ≤ 1048576 → Sz (fun k => laws_szIntSS.l0 k xs n i) n ((∀ j, i ≤ j → ∀ (h : j < xs.length), xs[j].length ≤ 1048576) ∧ (tot (xs.drop i) : Int) ≤ n) := by
  induction d with
  | zero =>
    intro i n hi h0 h1
    refine ⟨n, Ev.succ ?_, .inr ⟨h0, Int.le_refl n, fun j h1 h2 => by omega, ?_⟩⟩
    · simp only [laws_szIntSS.l0]
      exact Ev.iteF (by omega) (Ev.now _)
    · rw [List.drop_of_length_le (by omega)]
      simpa [tot] using h0
  | succ d ih =>
    intro i n hi h0 h1
    have hb := hs (xs[i]'(by omega)) (List.getElem_mem _)
    have hr := szIntS_eq (xs[i]'(by omega)) n h0 h1 hb
    by_cases hq : n - ((xs[i]'(by omega)).length : Int) < 0
    · rw [if_pos hq] at hr
      refine ⟨-1, Ev.succ ?_, .inl (by omega)⟩
      simp only [laws_szIntSS.l0]
      rw [rdL3_at _ _ (by omega : i < xs.length)]
      exact Ev.iteT (by omega) (Ev.iteT (by omega) (Ev.bind0 hr (Ev.iteT (by omega) (Ev.now _))))
    · rw [if_neg hq] at hr
      obtain ⟨t, ht, hv⟩ := ih (i + 1) (n - (xs[i]'(by omega)).length) (by omega) (by omega) (by omega)
      refine ⟨t, Ev.succ ?_, hv.imp id (fun ⟨v1, v2, v3, v4⟩ => ⟨v1, by omega, fun j hj hj' => ?_, ?_⟩)⟩
      · simp only [laws_szIntSS.l0]
        rw [rdL3_at _ _ (by omega : i < xs.length), i_succ i (by omega)]
        exact Ev.iteT (by omega) (Ev.iteT (by omega) (Ev.bind0 hr (Ev.iteF (by omega) ht)))
      · by_cases e : j = i
        · subst e
          omega
        · exact v3 j (by omega) hj'
      · rw [drop_cons xs i (by omega), tot_cons]
        omega
theorem szIntSS (xs : List (List Int)) (n : Int) (h0 : 0 ≤ n) (h1 : n ≤ 1048576) (hx : xs.length ≤ maxLen) (hs : ∀ y ∈ xs, y.length ≤ maxLen) : Sz (fun k => laws_szIntSS.f k xs n) n ((xs.length ≤ 1048576 ∧ ∀ r ∈ xs, r.length ≤ 1048576) ∧ tot xs ≤ 1048576) := by
  have hx' := hx
  unfold maxLen at hx'
  simp only [laws_szIntSS.f]
  rw [w64 (by omega) (by omega)]
  by_cases h : n - (xs.length : Int) < 0
  · exact ⟨-1, Ev.iteT h (Ev.now _), .inl (by omega)⟩
  · obtain ⟨r, hr, hq⟩ := szIntSS_l xs (by omega) hs xs.length 0 (n - xs.length) (by omega) (by omega) (by omega)
    refine ⟨r, Ev.iteF h hr, hq.imp id (fun ⟨q1, q2, q3, q4⟩ => ⟨q1, by omega, ⟨by omega, fun y hy => ?_⟩, ?_⟩)⟩
    · obtain ⟨j, hj, rfl⟩ := List.getElem_of_mem hy
      exact q3 j (Nat.zero_le _) hj
    · rw [List.drop_zero] at q4
      omega

theorem toIntSS_l (xs : List (List Int)) (hx : xs.length ≤ 1048576) (hs : ∀ r ∈ xs, r.length ≤ 1048576) (d : Nat) : ∀ (i : Nat) (out : List (List Int)), i + d = xs.length → out.length = xs.length → Ev (fun k => laws_toIntSS.l0 k xs out i) (out.take i ++ xs.drop i) := by
  induction d with
  | zero =>
    intro i out h1 h2
    refine Ev.succ ?_
    simp only [laws_toIntSS.l0]
    rw [List.take_of_length_le (by omega), List.drop_of_length_le (by omega), List.append_nil]
    exact Ev.iteF (by omega) (Ev.now _)
  | succ d ih =>
    intro i out h1 h2
    refine Ev.succ ?_
    simp only [laws_toIntSS.l0]
    rw [i_succ i (by omega), rdL3_at _ _ (by omega : i < xs.length), Int.toNat_natCast, ← copy_step out xs i (by omega) (by omega)]
    exact Ev.iteT (by omega) (Ev.iteT (by omega) (Ev.bind (toIntS _ (hs _ (List.getElem_mem _))) (Ev.iteT (by omega) (ih (i + 1) _ (by omega) (by simpa using h2)))))
theorem toIntSS (xs : List (List Int)) (hx : xs.length ≤ 1048576) (hs : ∀ r ∈ xs, r.length ≤ 1048576) : Ev (fun k => laws_toIntSS.f k xs) xs := by
  simp only [laws_toIntSS.f]
  refine Ev.iteT (by omega) (Ev.iteT (by omega) ?_)
  have h := toIntSS_l xs hx hs xs.length 0 (List.replicate ((xs.length : Int) : Int).toNat []) (by omega) (by simp)
  simpa using h

theorem eqIntSS_l (xs : List (List Int)) (hx : xs.length ≤ 1048576) (hs : ∀ r ∈ xs, r.length ≤ 1048576) (d : Nat) : ∀ (i : Nat), i + d = xs.length → Ev (fun k => laws_eqIntSS.l0 k xs xs i) true := by
  induction d with
  | zero =>
    intro i h1
    refine Ev.succ ?_
    simp only [laws_eqIntSS.l0]
    exact Ev.iteF (by omega) (Ev.now _)
  | succ d ih =>
    intro i h1
    refine Ev.succ ?_
    simp only [laws_eqIntSS.l0]
    rw [i_succ i (by omega), rdL3_at _ _ (by omega : i < xs.length)]
    exact Ev.iteT (by omega) (Ev.iteT (by omega) (Ev.iteT (by omega) (Ev.bind (eqIntS _ (hs _ (List.getElem_mem _))) (Ev.iteT rfl (ih (i + 1) (by omega))))))
theorem eqIntSS (xs : List (List Int)) (hx : xs.length ≤ 1048576) (hs : ∀ r ∈ xs, r.length ≤ 1048576) : Ev (fun k => laws_eqIntSS.f k xs xs) true := by
  simp only [laws_eqIntSS.f]
  exact Ev.iteT trivial (eqIntSS_l xs hx hs xs.length 0 (by omega))

theorem szStore (a b : List ByteArray) (c : List Bool) (e : List Int) (cur men : Int) (v : List (List Int)) (h : List Int) (n : Int) (h0 : 0 ≤ n) (h1 : n ≤ 1048576) (ha : a.length ≤ maxLen ∧ ∀ y ∈ a, y.size ≤ maxLen) (hb : b.length ≤ maxLen ∧ ∀ y ∈ b, y.size ≤ maxLen) (hc : c.length ≤ maxLen) (he : e.length ≤ maxLen) (hv : v.length ≤ maxLen ∧ ∀ y ∈ v, y.length ≤ maxLen) (hh : h.length ≤ maxLen) :
    Sz (fun k => laws_szStore.f k a b c e cur men v h n) n (((a.length ≤ 1048576 ∧ b.length ≤ 1048576 ∧ c.length ≤ 1048576 ∧ True) ∧ e.length ≤ 1048576 ∧ True) ∧ ((v.length ≤ 1048576 ∧ ∀ r ∈ v, r.length ≤ 1048576) ∧ tot v ≤ 1048576) ∧ h.length ≤ 1048576 ∧ True) := by
  simp only [laws_szStore.f]
  refine Sz.step (szScrub a b c e cur men n h0 h1 ha hb hc he) (fun r q0 q1 => ?_)
  refine Sz.step (szIntSS v r q0 (by omega) hv.1 hv.2) (fun s q2 q3 => ?_)
  exact Sz.step (szIntS h s q2 (by omega) hh) (fun t q4 q5 => Sz.stop q4)

theorem toStore (a b : List ByteArray) (c : List Bool) (e : List Int) (cur men : Int) (v : List (List Int)) (h : List Int) (ha : a.length ≤ 1048576) (hb : b.length ≤ 1048576) (hc : c.length ≤ 1048576) (he : e.length ≤ 1048576) (hv : v.length ≤ 1048576 ∧ ∀ r ∈ v, r.length ≤ 1048576) (hh : h.length ≤ 1048576) : Ev (fun k => laws_toStore.f k a b c e cur men v h) (a, b, c, e, cur, men, v, h) := by
  simp only [laws_toStore.f]
  exact Ev.bind (toScrub a b c e cur men ha hb hc he) (Ev.bind (toIntSS v hv.1 hv.2) (Ev.bind (toIntS h hh) (Ev.now _)))

theorem eqStore (a b : List ByteArray) (c : List Bool) (e : List Int) (cur men : Int) (v : List (List Int)) (h : List Int) (ha : a.length ≤ 1048576) (hb : b.length ≤ 1048576) (hc : c.length ≤ 1048576) (he : e.length ≤ 1048576) (hv : v.length ≤ 1048576 ∧ ∀ r ∈ v, r.length ≤ 1048576) (hh : h.length ≤ 1048576) : Ev (fun k => laws_eqStore.f k a b c e cur men v h a b c e cur men v h) true := by
  simp only [laws_eqStore.f]
  exact Ev.bind (eqScrub a b c e cur men ha hb hc he) (Ev.iteT rfl (Ev.bind (eqIntSS v hv.1 hv.2) (Ev.iteT rfl (Ev.bind (eqIntS h hh) (Ev.iteT rfl (Ev.now _))))))

def okR (n : Nat) (r : List Int) : Bool := decide (r.length = 5) && r.all fun x => decide (0 ≤ x ∧ x ≤ (n : Int))
def riseAt (m : Int) (l : List Int) (i : Nat) : Bool := decide (0 ≤ rd l i ∧ rd l i ≤ m - 1) && (decide (i = 0) || decide (rd l ((i - 1 : Nat) : Int) < rd l i))
def riseTo (m : Int) (l : List Int) (i : Nat) : Nat → Bool
  | 0 => true
  | d + 1 => riseAt m l i && riseTo m l (i + 1) d
theorem rise_range (m : Int) (l : List Int) (d : Nat) : ∀ i, riseTo m l i d = true → ∀ j, i ≤ j → j < i + d → 0 ≤ rd l j ∧ rd l j ≤ m - 1 := by
  induction d with
  | zero => intro i _ j h1 h2; omega
  | succ d ih =>
    intro i h j h1 h2
    simp only [riseTo, Bool.and_eq_true] at h
    by_cases e : j = i
    · subst e
      have h' := h.1
      simp only [riseAt, Bool.and_eq_true, decide_eq_true_eq] at h'
      exact h'.1
    · exact ih (i + 1) h.2 j (by omega) (by omega)
/-- How many of a list lie in a stripe. -/
def cnt (s : Nat) (l : List Int) : Nat := l.countP fun x => decide (x / 5 = (s : Int))
theorem cnt_le (s : Nat) (l : List Int) : cnt s l ≤ l.length := List.countP_le_length
def cntOk (n : Nat) (l : List Int) (s : Nat) : Nat → Bool
  | 0 => true
  | d + 1 => decide (cnt s l ≤ 2) && cntOk n l (s + 1) d
theorem cntOk_iff (n : Nat) (l : List Int) (d : Nat) : ∀ s, cntOk n l s d = true ↔ ∀ j, s ≤ j → j < s + d → cnt j l ≤ 2 := by
  induction d with
  | zero => intro s; exact ⟨fun _ j h1 h2 => by omega, fun _ => rfl⟩
  | succ d ih =>
    intro s
    simp only [cntOk, Bool.and_eq_true, decide_eq_true_eq, ih (s + 1)]
    constructor
    · intro ⟨h1, h2⟩ j hj hj'
      by_cases e : j = s
      · subst e
        exact h1
      · exact h2 j (by omega) (by omega)
    · intro h
      exact ⟨h s (Nat.le_refl _) (by omega), fun j h1 h2 => h j (by omega) (by omega)⟩
theorem quo5 (x : Int) (h0 : 0 ≤ x) (h1 : x ≤ 1048576) : wrap64 (Int.tdiv x 5) = x / 5 := by
  rw [Int.tdiv_eq_ediv_of_nonneg h0]
  exact w64 (by omega) (by omega)
theorem specRise (a b : List ByteArray) (c : List Bool) (e : List Int) (cur men : Int) (v : List (List Int)) (h : List Int) (hh : h.length ≤ 1048576) (n : Nat) (hn : n ≤ 4) (C : Bool) (hC : riseTo (5 * n : Int) h 0 h.length = true → Ev (fun k => spec_GoodStore.l3 k e.length 0 a b c e cur men v h) C) (d : Nat) :
    ∀ i : Nat, i + d = h.length → riseTo (5 * n : Int) h 0 h.length = riseTo (5 * n : Int) h i d → Ev (fun k => spec_GoodStore.l2 k n h h.length i a b c e cur men v h) (riseTo (5 * n : Int) h 0 h.length && C) := by
  have e1 : wrap64 (5 * (n : Int)) = 5 * (n : Int) := w64 (by omega) (by omega)
  have e2 : wrap64 (5 * (n : Int) - 1) = 5 * (n : Int) - 1 := w64 (by omega) (by omega)
  induction d with
  | zero =>
    intro i hi hp
    refine Ev.succ ?_
    simp only [spec_GoodStore.l2]
    rw [show riseTo (5 * n : Int) h 0 h.length = true by rw [hp]; rfl, Bool.true_and]
    exact Ev.iteF (by omega) (hC (by rw [hp]; rfl))
  | succ d ih =>
    intro i hi hp
    refine Ev.succ ?_
    simp only [spec_GoodStore.l2]
    rw [e1, e2, i_succ i (by omega)]
    refine Ev.iteT (by omega) (Ev.iteT (by omega) (Ev.iteT (by omega) (Ev.bind0 (l1In _ _ _) ?_)))
    by_cases h1 : 0 ≤ rd h i ∧ rd h i ≤ 5 * (n : Int) - 1
    · refine Ev.iteT (by simpa using h1) ?_
      by_cases h2 : i = 0
      · refine Ev.iteF (by omega) (ih (i + 1) (by omega) ?_)
        rw [hp, riseTo, show riseAt (5 * n : Int) h i = true by unfold riseAt; rw [decide_eq_true h1, decide_eq_true h2]; rfl, Bool.true_and]
      · have e3 : wrap64 ((i : Int) - 1) = ((i - 1 : Nat) : Int) := by
          rw [w64 (by omega) (by omega)]
          omega
        rw [e3]
        refine Ev.iteT (by omega) (Ev.iteT (by omega) (Ev.iteT (by omega) ?_))
        by_cases h3 : rd h ((i - 1 : Nat) : Int) < rd h i
        · refine Ev.iteF (by omega) (ih (i + 1) (by omega) ?_)
          rw [hp, riseTo]
          simp only [riseAt, h1, h2, h3, and_self, decide_true, Bool.or_true, Bool.and_true, Bool.true_and]
        · rw [show riseTo (5 * n : Int) h 0 h.length = false by
            rw [hp, riseTo]
            simp only [riseAt, h2, h3, decide_false, Bool.or_false, Bool.and_false, Bool.false_and], Bool.false_and]
          exact Ev.iteT (by omega) (Ev.now _)
    · rw [show riseTo (5 * n : Int) h 0 h.length = false by
        rw [hp, riseTo]
        simp only [riseAt, h1, decide_false, Bool.false_and], Bool.false_and]
      exact Ev.iteF (by simpa using h1) (Ev.now _)
theorem implRise (l : List Int) (hl : l.length ≤ 1048576) (n : Nat) (hn : n ≤ 4) (d : Nat) : ∀ i : Nat, i + d = l.length → Ev (fun k => impl_isRising.l0 k l (5 * n : Int) l l.length i) (riseTo (5 * n : Int) l i d) := by
  have e2 : wrap64 (5 * (n : Int) - 1) = 5 * (n : Int) - 1 := w64 (by omega) (by omega)
  induction d with
  | zero =>
    intro i hi
    refine Ev.succ ?_
    simp only [impl_isRising.l0]
    exact Ev.iteF (by omega) (Ev.now _)
  | succ d ih =>
    intro i hi
    refine Ev.succ ?_
    simp only [impl_isRising.l0]
    rw [e2, i_succ i (by omega)]
    refine Ev.iteT (by omega) (Ev.iteT (by omega) (Ev.iteT (by omega) (Ev.bind0 (within _ _ _) ?_)))
    rw [riseTo]
    by_cases h1 : 0 ≤ rd l i ∧ rd l i ≤ 5 * (n : Int) - 1
    · refine Ev.iteT (by simpa using h1) ?_
      by_cases h2 : i = 0
      · refine Ev.iteF (by omega) ?_
        rw [show riseAt (5 * n : Int) l i = true by unfold riseAt; rw [decide_eq_true h1, decide_eq_true h2]; rfl, Bool.true_and]
        exact ih (i + 1) (by omega)
      · have e3 : wrap64 ((i : Int) - 1) = ((i - 1 : Nat) : Int) := by
          rw [w64 (by omega) (by omega)]
          omega
        rw [e3]
        refine Ev.iteT (by omega) (Ev.iteT (by omega) (Ev.iteT (by omega) ?_))
        by_cases h3 : rd l ((i - 1 : Nat) : Int) < rd l i
        · refine Ev.iteF (by omega) ?_
          rw [show riseAt (5 * n : Int) l i = true by simp only [riseAt, h1, h2, h3, and_self, decide_true, Bool.or_true, Bool.and_true], Bool.true_and]
          exact ih (i + 1) (by omega)
        · rw [show riseAt (5 * n : Int) l i = false by simp only [riseAt, h2, h3, decide_false, Bool.or_false, Bool.and_false], Bool.false_and]
          exact Ev.iteT (by omega) (Ev.now _)
    · rw [show riseAt (5 * n : Int) l i = false by simp only [riseAt, h1, decide_false, Bool.false_and], Bool.false_and]
      exact Ev.iteF (by simpa using h1) (Ev.now _)
theorem take_succ_cnt (s : Nat) (l : List Int) (i : Nat) (hi : i < l.length) : cnt s (l.take (i + 1)) = cnt s (l.take i) + (if l[i] / 5 = (s : Int) then 1 else 0) := by
  unfold cnt
  rw [List.take_succ_eq_append_getElem hi, List.countP_append]
  simp [List.countP_cons]
theorem specHurt_l (a b : List ByteArray) (c : List Bool) (e : List Int) (cur men : Int) (v : List (List Int)) (h : List Int) (hh : h.length ≤ 1048576) (hr : ∀ j, j < h.length → 0 ≤ rd h (j : Nat) ∧ rd h (j : Nat) ≤ 1048576) (s : Nat) (hs : s ≤ 1048576) (d : Nat) :
    ∀ i : Nat, i + d = h.length → Ev (fun k => spec_l17Hurt.l0 k s (cnt s (h.take i) : Nat) h h.length i) ((cnt s h : Nat) : Int) := by
  induction d with
  | zero =>
    intro i hi
    refine Ev.succ ?_
    simp only [spec_l17Hurt.l0]
    rw [List.take_of_length_le (by omega)]
    exact Ev.iteF (by omega) (Ev.now _)
  | succ d ih =>
    intro i hi
    refine Ev.succ ?_
    have hi' : i < h.length := by omega
    have hx := hr i hi'
    rw [rd_at h i hi'] at hx
    have hc := cnt_le s (h.take i)
    have hlt : (h.take i).length ≤ 1048576 := by simp; omega
    have ht := take_succ_cnt s h i hi'
    have hn := ih (i + 1) (by omega)
    simp only [spec_l17Hurt.l0]
    rw [rd_at h i hi', quo5 _ hx.1 hx.2, i_succ i (by omega)]
    refine Ev.iteT (by omega) (Ev.iteT (by omega) (Ev.iteT (by omega) ?_))
    by_cases hq : h[i] / 5 = (s : Int)
    · rw [if_pos hq] at ht
      have hbq : (h[i] / 5 == (s : Int)) = true := by simpa using hq
      simp only [hbq, spec_l8Bit.f, if_true, Option.bind_some]
      rw [w64 (by omega) (by omega)]
      rw [ht] at hn
      exact_mod_cast hn
    · rw [if_neg hq] at ht
      have hbq : (h[i] / 5 == (s : Int)) = false := by simpa using hq
      simp only [hbq, spec_l8Bit.f, Bool.false_eq_true, if_false, Option.bind_some]
      rw [w64 (by omega) (by omega)]
      rw [ht] at hn
      simpa using hn
theorem specHurt (a b : List ByteArray) (c : List Bool) (e : List Int) (cur men : Int) (v : List (List Int)) (h : List Int) (hh : h.length ≤ 1048576) (hr : ∀ j, j < h.length → 0 ≤ rd h (j : Nat) ∧ rd h (j : Nat) ≤ 1048576) (s : Nat) (hs : s ≤ 1048576) : Ev (fun k => spec_l17Hurt.f k a b c e cur men v h s) ((cnt s h : Nat) : Int) := by
  simp only [spec_l17Hurt.f]
  exact specHurt_l a b c e cur men v h hh hr s hs h.length 0 (by omega)
theorem specCnt (a b : List ByteArray) (c : List Bool) (e : List Int) (cur men : Int) (v : List (List Int)) (h : List Int) (hh : h.length ≤ 1048576) (hr : ∀ j, j < h.length → 0 ≤ rd h (j : Nat) ∧ rd h (j : Nat) ≤ 1048576) (he : e.length ≤ 4) (d : Nat) :
    ∀ i : Nat, i + d = e.length → Ev (fun k => spec_GoodStore.l3 k e.length i a b c e cur men v h) (cntOk e.length h i d) := by
  induction d with
  | zero =>
    intro i hi
    refine Ev.succ ?_
    simp only [spec_GoodStore.l3]
    exact Ev.iteF (by omega) (Ev.now _)
  | succ d ih =>
    intro i hi
    refine Ev.succ ?_
    simp only [spec_GoodStore.l3, cntOk]
    rw [i_succ i (by omega)]
    refine Ev.iteT (by omega) (Ev.bind (specHurt a b c e cur men v h hh hr i (by omega)) ?_)
    by_cases hq : cnt i h ≤ 2
    · rw [decide_eq_true hq, Bool.true_and]
      exact Ev.iteF (by omega) (ih (i + 1) (by omega))
    · rw [decide_eq_false hq, Bool.false_and]
      exact Ev.iteT (by omega) (Ev.now _)
theorem specRow (a b : List ByteArray) (c : List Bool) (e : List Int) (cur men : Int) (v : List (List Int)) (h : List Int) (n : Nat) (row : List Int) (hrow : row.length ≤ 1048576) (i : Nat) (Y : Bool) (hY : Ev (fun k => spec_GoodStore.l0 k n v v.length (wrap64 ((i : Int) + 1)) a b c e cur men v h) Y) (d : Nat) :
    ∀ j : Nat, j + d = row.length → Ev (fun k => spec_GoodStore.l1 k n row v v.length i row row.length j a b c e cur men v h) (((row.drop j).all fun x => decide (0 ≤ x ∧ x ≤ (n : Int))) && (decide (row.length = 5) && Y)) := by
  induction d with
  | zero =>
    intro j hj
    refine Ev.succ ?_
    simp only [spec_GoodStore.l1]
    rw [List.drop_of_length_le (by omega), List.all_nil, Bool.true_and]
    refine Ev.iteF (by omega) ?_
    by_cases h5 : row.length = 5
    · rw [decide_eq_true h5, Bool.true_and]
      exact Ev.iteT (by omega) hY
    · rw [decide_eq_false h5, Bool.false_and]
      exact Ev.iteF (by omega) (Ev.now _)
  | succ d ih =>
    intro j hj
    refine Ev.succ ?_
    simp only [spec_GoodStore.l1]
    rw [i_succ j (by omega), rd_at _ _ (by omega : j < row.length), drop_cons row j (by omega), List.all_cons]
    refine Ev.iteT (by omega) (Ev.iteT (by omega) (Ev.iteT (by omega) (Ev.bind0 (l1In _ _ _) ?_)))
    by_cases h1 : 0 ≤ (row[j]'(by omega)) ∧ (row[j]'(by omega)) ≤ (n : Int)
    · rw [decide_eq_true h1, Bool.true_and]
      exact Ev.iteT rfl (ih (j + 1) (by omega))
    · rw [decide_eq_false h1, Bool.false_and, Bool.false_and]
      exact Ev.iteF (by decide) (Ev.now _)
theorem specRows (a b : List ByteArray) (c : List Bool) (e : List Int) (cur men : Int) (v : List (List Int)) (h : List Int) (hv : v.length ≤ 1048576 ∧ ∀ r ∈ v, r.length ≤ 1048576) (n : Nat) (X : Bool) (hX : Ev (fun k => spec_GoodStore.l2 k n h h.length 0 a b c e cur men v h) X) (d : Nat) :
    ∀ i : Nat, i + d = v.length → Ev (fun k => spec_GoodStore.l0 k n v v.length i a b c e cur men v h) (((v.drop i).all (okR n)) && X) := by
  have hlen := hv.1
  induction d with
  | zero =>
    intro i hi
    refine Ev.succ ?_
    simp only [spec_GoodStore.l0]
    rw [List.drop_of_length_le (by omega), List.all_nil, Bool.true_and]
    exact Ev.iteF (by omega) hX
  | succ d ih =>
    intro i hi
    refine Ev.succ ?_
    simp only [spec_GoodStore.l0]
    rw [rdL3_at _ _ (by omega : i < v.length), drop_cons v i (by omega), List.all_cons]
    refine Ev.iteT (by omega) (Ev.iteT (by omega) (Ev.iteT (by omega) ?_))
    have hn := ih (i + 1) (by omega)
    rw [← i_succ i (by omega)] at hn
    have hr := specRow a b c e cur men v h n (v[i]'(by omega)) (hv.2 _ (List.getElem_mem _)) i _ hn (v[i]'(by omega)).length 0 (by omega)
    have e1 : (okR n (v[i]'(by omega)) && ((v.drop (i + 1)).all (okR n)) && X) = ((((v[i]'(by omega)).drop 0).all fun x => decide (0 ≤ x ∧ x ≤ (n : Int))) && (decide ((v[i]'(by omega)).length = 5) && (((v.drop (i + 1)).all (okR n)) && X))) := by
      unfold okR
      rw [List.drop_zero]
      cases decide ((v[i]'(by omega)).length = 5) <;> simp [Bool.and_assoc]
    rw [e1]
    exact hr
/-- Whether a store is good. -/
def storeTold (D : Bool) (la : Nat) (e : List Int) (cur men : Int) (v : List (List Int)) (h : List Int) : Bool :=
  scrubTold D la e cur men && (decide (1 ≤ v.length ∧ v.length ≤ 4) && (v.all (okR e.length) && (riseTo (5 * e.length : Int) h 0 h.length && cntOk e.length h 0 e.length)))
theorem scrub_len {D : Bool} {la : Nat} {e : List Int} {cur men : Int} (h : scrubTold D la e cur men = true) : 1 ≤ e.length ∧ e.length ≤ 4 := by
  simp only [scrubTold, scrubRest, Bool.and_eq_true, decide_eq_true_eq] at h
  exact h.2.1.1.1.1
theorem specStore (a b : List ByteArray) (c : List Bool) (e : List Int) (cur men : Int) (v : List (List Int)) (h : List Int) (he : e.length ≤ 1048576) (hv : v.length ≤ 1048576 ∧ ∀ r ∈ v, r.length ≤ 1048576) (hh : h.length ≤ 1048576) (D : Bool) (hD : Ev (fun k => spec_GoodDisk.f k a b c) D) : Ev (fun k => spec_GoodStore.f k a b c e cur men v h) (storeTold D a.length e cur men v h) := by
  simp only [spec_GoodStore.f, storeTold]
  refine Ev.bind (specScrub a b c e cur men he D hD) ?_
  by_cases hs : scrubTold D a.length e cur men = true
  · have hn := scrub_len hs
    rw [hs, Bool.true_and]
    refine Ev.iteT rfl (Ev.bind0 (l1In _ _ _) (Ev.succ ?_))
    simp only [spec_GoodStore.j0]
    by_cases h1 : 1 ≤ v.length ∧ v.length ≤ 4
    · rw [decide_eq_true h1, Bool.true_and]
      have h1' : decide (1 ≤ (v.length : Int) ∧ (v.length : Int) ≤ 4) = true := decide_eq_true (by omega)
      rw [h1']
      refine Ev.iteF (by decide) ?_
      refine specRows a b c e cur men v h hv e.length _ ?_ v.length 0 (by omega)
      refine specRise a b c e cur men v h hh e.length hn.2 _ (fun hr => ?_) h.length 0 (by omega) rfl
      have hr' := rise_range _ h h.length 0 hr
      exact specCnt a b c e cur men v h hh (fun j hj => by
        have := hr' j (Nat.zero_le _) (by omega)
        omega) hn.2 e.length 0 (by omega)
    · rw [decide_eq_false h1, Bool.false_and]
      have h1' : decide (1 ≤ (v.length : Int) ∧ (v.length : Int) ≤ 4) = false := decide_eq_false (by omega)
      rw [h1']
      exact Ev.iteT (by decide) (Ev.now _)
  · have hs' : scrubTold D a.length e cur men = false := by simpa using hs
    rw [hs', Bool.false_and]
    refine Ev.iteF (by decide) (Ev.succ ?_)
    simp only [spec_GoodStore.j0]
    exact Ev.iteT trivial (Ev.now _)
theorem implMax_l (l : List Int) (hl : l.length ≤ 1048576) (d : Nat) : ∀ (i : Nat) (m : Int), i + d = l.length → ∃ t, Ev (fun k => slices_Max_int_int.l0 k l m i) t ∧ (t ≤ 2 ↔ m ≤ 2 ∧ ∀ j, i ≤ j → ∀ hj : j < l.length, l[j] ≤ 2) := by
  induction d with
  | zero =>
    intro i m hi
    refine ⟨m, Ev.succ ?_, fun h => ⟨h, fun j h1 h2 => by omega⟩, fun h => h.1⟩
    simp only [slices_Max_int_int.l0]
    exact Ev.iteF (by omega) (Ev.now _)
  | succ d ih =>
    intro i m hi
    obtain ⟨t, ht, hq⟩ := ih (i + 1) (Go.Proofs.YtgnijlfakjjfcaaW.PrintWords.mx m (l[i]'(by omega))) (by omega)
    refine ⟨t, Ev.succ ?_, ?_⟩
    · simp only [slices_Max_int_int.l0]
      rw [i_succ i (by omega), rd_at _ _ (by omega : i < l.length)]
      exact Ev.iteT (by omega) (Ev.iteT (by omega) ht)
    · rw [hq]
      have hm : Go.Proofs.YtgnijlfakjjfcaaW.PrintWords.mx m (l[i]'(by omega)) ≤ 2 ↔ m ≤ 2 ∧ (l[i]'(by omega)) ≤ 2 := by
        unfold Go.Proofs.YtgnijlfakjjfcaaW.PrintWords.mx
        split <;> omega
      rw [hm]
      constructor
      · intro ⟨⟨h1, h2⟩, h3⟩
        refine ⟨h1, fun j hj hj' => ?_⟩
        by_cases e : j = i
        · subst e
          exact h2
        · exact h3 j (by omega) hj'
      · intro ⟨h1, h2⟩
        exact ⟨⟨h1, h2 i (Nat.le_refl _) (by omega)⟩, fun j hj hj' => h2 j (by omega) hj'⟩
theorem implMax (l : List Int) (hl : l.length ≤ 1048576) (h0 : 1 ≤ l.length) : ∃ t, Ev (fun k => slices_Max_int_int.f k l) t ∧ (t ≤ 2 ↔ ∀ j, ∀ hj : j < l.length, l[j] ≤ 2) := by
  obtain ⟨t, ht, hq⟩ := implMax_l l hl (l.length - 1) 1 (rd l 0) (by omega)
  refine ⟨t, ?_, ?_⟩
  · simp only [slices_Max_int_int.f]
    exact Ev.iteF (by omega) (Ev.iteT (by omega) ht)
  · rw [hq, show (0 : Int) = ((0 : Nat) : Int) from rfl, rd_at l 0 (by omega)]
    constructor
    · intro ⟨h1, h2⟩ j hj
      by_cases e : j = 0
      · subst e
        exact h1
      · exact h2 j (by omega) hj
    · intro h
      exact ⟨h 0 (by omega), fun j _ hj => h j hj⟩
theorem any_not {α : Type} (p : α → Bool) (l : List α) : (l.any fun r => !(p r)) = !(l.all p) := by
  induction l with
  | nil => rfl
  | cons x l ih => rw [List.any_cons, List.all_cons, ih, Bool.not_and]
theorem implHist (a b : List ByteArray) (c : List Bool) (e : List Int) (cur men : Int) (v : List (List Int)) (h : List Int) (hv : v.length ≤ 1048576 ∧ ∀ r ∈ v, r.length ≤ 1048576) (hh : h.length ≤ 1048576) (he : 1 ≤ e.length ∧ e.length ≤ 4) (hr : ∀ j, j < h.length → 0 ≤ rd h (j : Nat) ∧ rd h (j : Nat) ≤ 5 * (e.length : Int) - 1) (d : Nat) :
    ∀ (i : Nat) (H : List Int), i + d = h.length → H.length = e.length → (∀ s, ∀ hs : s < H.length, H[s] = ((cnt s (h.take i) : Nat) : Int)) → Ev (fun k => impl_GoodStore.l0 k H h h.length i a b c e cur men v h) (cntOk e.length h 0 e.length && v.all (okR e.length)) := by
  induction d with
  | zero =>
    intro i H hi hH hc
    rw [List.take_of_length_le (by omega)] at hc
    refine Ev.succ ?_
    simp only [impl_GoodStore.l0]
    obtain ⟨t, ht, hq⟩ := implMax H (by omega) (by omega)
    refine Ev.iteF (by omega) (Ev.bind ht ?_)
    have hiff : t ≤ 2 ↔ cntOk e.length h 0 e.length = true := by
      rw [hq, cntOk_iff]
      constructor
      · intro h1 j _ h2
        have h3 := h1 j (by omega)
        rw [hc j (by omega)] at h3
        omega
      · intro h1 j hj
        rw [hc j hj]
        have := h1 j (Nat.zero_le _) (by omega)
        omega
    by_cases ht2 : t ≤ 2
    · rw [hiff.1 ht2, Bool.true_and]
      refine Ev.iteT ht2 (Ev.bind0 (x := (v.any fun r => !(okR e.length r))) ?_ ?_)
      · unfold slices_ContainsFunc_int_int_70.f
        rw [if_pos hv]
        rfl
      · rw [any_not, Bool.not_not]
        exact Ev.now _
    · rw [show cntOk e.length h 0 e.length = false by
        cases hx : cntOk e.length h 0 e.length with
        | false => rfl
        | true => exact absurd (hiff.2 hx) ht2, Bool.false_and]
      exact Ev.iteF ht2 (Ev.now _)
  | succ d ih =>
    intro i H hi hH hc
    have hi' : i < h.length := by omega
    have hx := hr i hi'
    rw [rd_at h i hi'] at hx
    refine Ev.succ ?_
    simp only [impl_GoodStore.l0]
    obtain ⟨s, hs⟩ : ∃ s : Nat, h[i] / 5 = (s : Int) := ⟨(h[i] / 5).toNat, by omega⟩
    have hslt : s < H.length := by omega
    have hcs := hc s hslt
    have hcl := cnt_le s (h.take i)
    have hlt : (h.take i).length ≤ 1048576 := by simp; omega
    rw [rd_at h i hi', quo5 _ hx.1 (by omega), hs, i_succ i (by omega), rd_at H s hslt, hcs, w64 (by omega) (by omega), Int.toNat_natCast]
    refine Ev.iteT (by omega) (Ev.iteT (by omega) (Ev.iteT (by omega) (Ev.iteT (by omega) (Ev.iteT (by omega) (ih (i + 1) _ (by omega) (by simpa using hH) ?_)))))
    intro s' hs'
    rw [take_succ_cnt s' h i hi', List.getElem_set]
    by_cases es : s = s'
    · subst es
      rw [if_pos rfl, if_pos hs]
      omega
    · rw [if_neg es, if_neg (by rw [hs]; omega), Nat.add_zero]
      exact hc s' (by simpa using hs')
theorem implStore (a b : List ByteArray) (c : List Bool) (e : List Int) (cur men : Int) (v : List (List Int)) (h : List Int) (he : e.length ≤ 1048576) (hv : v.length ≤ 1048576 ∧ ∀ r ∈ v, r.length ≤ 1048576) (hh : h.length ≤ 1048576) (D : Bool) (hD : Ev (fun k => spec_GoodDisk.f k a b c) D) : Ev (fun k => impl_GoodStore.f k a b c e cur men v h) (storeTold D a.length e cur men v h) := by
  simp only [impl_GoodStore.f, storeTold]
  refine Ev.bind (implScrub a b c e cur men he D hD) ?_
  have no : Ev (fun k => impl_GoodStore.j0 k true a b c e cur men v h) false := by
    refine Ev.succ ?_
    simp only [impl_GoodStore.j0]
    exact Ev.iteT trivial (Ev.now _)
  by_cases hs : scrubTold D a.length e cur men = true
  · have hn := scrub_len hs
    rw [hs, Bool.true_and]
    refine Ev.iteT rfl (Ev.bind0 (within _ _ _) ?_)
    by_cases h1 : 1 ≤ v.length ∧ v.length ≤ 4
    · rw [decide_eq_true h1, Bool.true_and]
      have h1' : decide (1 ≤ (v.length : Int) ∧ (v.length : Int) ≤ 4) = true := decide_eq_true (by omega)
      rw [h1']
      refine Ev.iteT rfl ?_
      simp only [impl_Store_stripes.f, Option.bind_some]
      rw [w64 (by omega) (by omega)]
      simp only [impl_isRising.f]
      refine Ev.bind (implRise h hh e.length hn.2 h.length 0 (by omega)) (Ev.succ ?_)
      simp only [impl_GoodStore.j0, impl_Store_stripes.f, Option.bind_some]
      cases hr : riseTo (5 * e.length : Int) h 0 h.length with
      | false =>
        rw [Bool.false_and, Bool.and_false]
        exact Ev.iteT (by decide) (Ev.now _)
      | true =>
        rw [Bool.true_and, Bool.and_comm]
        refine Ev.iteF (by decide) (Ev.iteT (by omega) (Ev.iteT (by omega) ?_))
        have hr' := rise_range _ h h.length 0 hr
        refine implHist a b c e cur men v h hv hh hn (fun j hj => hr' j (Nat.zero_le _) (by omega)) h.length 0 _ (by omega) (by simp) (fun s hs' => ?_)
        simp [cnt]
    · rw [decide_eq_false h1, Bool.false_and]
      have h1' : decide (1 ≤ (v.length : Int) ∧ (v.length : Int) ≤ 4) = false := decide_eq_false (by omega)
      rw [h1']
      exact Ev.iteF (by decide) no
  · have hs' : scrubTold D a.length e cur men = false := by simpa using hs
    rw [hs', Bool.false_and]
    exact Ev.iteF (by decide) no

theorem implUses_l : ∀ k : Nat, (∀ H v n i, impl_usesIn.l0 k H v n i = spec_l17Uses.l0 k H v n i) ∧ (∀ H v n i r m j, impl_usesIn.l1 k H v n i r m j = spec_l17Uses.l1 k H v n i r m j) := by
  intro k
  induction k with
  | zero => exact ⟨fun _ _ _ _ => rfl, fun _ _ _ _ _ _ _ => rfl⟩
  | succ k ih =>
    refine ⟨fun H v n i => ?_, fun H v n i r m j => ?_⟩
    · simp only [impl_usesIn.l0, spec_l17Uses.l0, ih.2]
    · simp only [impl_usesIn.l1, spec_l17Uses.l1, ih.1, ih.2]
theorem implUses (k : Nat) (a b : List ByteArray) (c : List Bool) (e : List Int) (cur men : Int) (v : List (List Int)) (h : List Int) : impl_usesIn.f k a b c e cur men v h = spec_l17Uses.f k a b c e cur men v h := by
  simp only [impl_usesIn.f, impl_Store_stripes.f, Option.bind_some, spec_l17Uses.f, (implUses_l k).1]
/-- n counts, none beyond B. -/
def Cnts (n : Nat) (H : List Int) (B : Nat) : Prop := H.length = n ∧ ∀ x ∈ H, 0 ≤ x ∧ x ≤ (B : Int)
theorem Cnts.more {n B B' : Nat} {H : List Int} (h : Cnts n H B) (hb : B ≤ B') : Cnts n H B' := ⟨h.1, fun x hx => by
  have := h.2 x hx
  omega⟩
theorem Cnts.set {n B : Nat} {H : List Int} (h : Cnts n H B) (s : Nat) (hs : s < H.length) : Cnts n (H.set s (H[s] + 1)) (B + 1) := by
  refine ⟨by simpa using h.1, fun x hx => ?_⟩
  rcases List.mem_or_eq_of_mem_set hx with hx | rfl
  · have := h.2 x hx
    omega
  · have := h.2 _ (List.getElem_mem hs)
    omega
def UsesP (n : Nat) (g : Nat → Option (List Int)) : Prop := ∃ U B, Ev g U ∧ Cnts n U B
theorem UsesP.succ {n : Nat} {g : Nat → Option (List Int)} (h : UsesP n fun k => g (k + 1)) : UsesP n g := by
  obtain ⟨U, B, h1, h2⟩ := h
  exact ⟨U, B, Ev.succ h1, h2⟩
theorem UsesP.iteT {n : Nat} {p : Prop} [Decidable p] {a b : Nat → Option (List Int)} (h : p) (ha : UsesP n a) : UsesP n (fun k => if p then a k else b k) := by
  obtain ⟨U, B, h1, h2⟩ := ha
  exact ⟨U, B, Ev.iteT h h1, h2⟩
theorem UsesP.iteF {n : Nat} {p : Prop} [Decidable p] {a b : Nat → Option (List Int)} (h : ¬ p) (ha : UsesP n b) : UsesP n (fun k => if p then a k else b k) := by
  obtain ⟨U, B, h1, h2⟩ := ha
  exact ⟨U, B, Ev.iteF h h1, h2⟩
theorem usesRow (n : Nat) (hn4 : n ≤ 4) (v : List (List Int)) (i : Nat) (row : List Int) (hrow : okR n row = true) (B : Nat) (hB : B ≤ 1000) (hn : ∀ H, Cnts n H (B + 5) → UsesP n (fun k => spec_l17Uses.l0 k H v v.length (wrap64 ((i : Int) + 1)))) (d : Nat) :
    ∀ (j : Nat) (H : List Int), j + d = row.length → Cnts n H (B + j) → UsesP n (fun k => spec_l17Uses.l1 k H v v.length i row row.length j) := by
  simp only [okR, Bool.and_eq_true, decide_eq_true_eq, List.all_eq_true] at hrow
  obtain ⟨h5, hall⟩ := hrow
  induction d with
  | zero =>
    intro j H hj hH
    refine UsesP.succ ?_
    simp only [spec_l17Uses.l1]
    exact UsesP.iteF (by omega) (hn H (hH.more (by omega)))
  | succ d ih =>
    intro j H hj hH
    refine UsesP.succ ?_
    have hx := hall (row[j]'(by omega)) (List.getElem_mem _)
    simp only [spec_l17Uses.l1]
    rw [i_succ j (by omega), rd_at _ _ (by omega : j < row.length)]
    refine UsesP.iteT (by omega) (UsesP.iteT (by omega) (UsesP.iteT (by omega) ?_))
    by_cases h0 : (row[j]'(by omega)) > 0
    · obtain ⟨s, hs⟩ : ∃ s : Nat, (row[j]'(by omega)) - 1 = (s : Int) := ⟨((row[j]'(by omega)) - 1).toNat, by omega⟩
      have hlen := hH.1
      have hslt : s < H.length := by omega
      have hv := hH.2 _ (List.getElem_mem hslt)
      have hc : Cnts n (H.set s (H[s] + 1)) (B + (j + 1)) := hH.set s hslt
      have he : wrap64 ((row[j]'(by omega)) - 1) = (s : Int) := by
        rw [hs]
        exact w64 (by omega) (by omega)
      rw [he, rd_at H s hslt, w64 (by omega) (by omega), Int.toNat_natCast]
      exact UsesP.iteT h0 (UsesP.iteT (by omega) (UsesP.iteT (by omega) (ih (j + 1) _ (by omega) hc)))
    · exact UsesP.iteF h0 (ih (j + 1) H (by omega) (hH.more (by omega)))
theorem usesRows (n : Nat) (hn4 : n ≤ 4) (v : List (List Int)) (hv : v.length ≤ 4) (hall : v.all (okR n) = true) (d : Nat) :
    ∀ (i : Nat) (H : List Int), i + d = v.length → Cnts n H (5 * i) → UsesP n (fun k => spec_l17Uses.l0 k H v v.length i) := by
  induction d with
  | zero =>
    intro i H hi hH
    refine UsesP.succ ?_
    simp only [spec_l17Uses.l0]
    exact UsesP.iteF (by omega) ⟨H, _, Ev.now _, hH⟩
  | succ d ih =>
    intro i H hi hH
    refine UsesP.succ ?_
    simp only [spec_l17Uses.l0]
    rw [rdL3_at _ _ (by omega : i < v.length)]
    refine UsesP.iteT (by omega) (UsesP.iteT (by omega) (UsesP.iteT (by omega) ?_))
    refine usesRow n hn4 v i (v[i]'(by omega)) (List.all_eq_true.1 hall _ (List.getElem_mem _)) (5 * i) (by omega) (fun H' hH' => ?_) (v[i]'(by omega)).length 0 H (by omega) hH
    rw [i_succ i (by omega)]
    exact ih (i + 1) H' (by omega) hH'
theorem specUses (a b : List ByteArray) (c : List Bool) (e : List Int) (cur men : Int) (v : List (List Int)) (h : List Int) (he : e.length ≤ 4) (hv : v.length ≤ 4) (hall : v.all (okR e.length) = true) : UsesP e.length (fun k => spec_l17Uses.f k a b c e cur men v h) := by
  simp only [spec_l17Uses.f]
  refine UsesP.iteT (by omega) (UsesP.iteT (by omega) (usesRows e.length he v hv hall v.length 0 _ (by omega) ⟨by simp, fun x hx => ?_⟩))
  have := List.eq_of_mem_replicate hx
  omega
theorem store_parts {D : Bool} {la : Nat} {e : List Int} {cur men : Int} {v : List (List Int)} {h : List Int} (hs : storeTold D la e cur men v h = true) : (1 ≤ e.length ∧ e.length ≤ 4) ∧ v.length ≤ 4 ∧ v.all (okR e.length) = true := by
  simp only [storeTold, Bool.and_eq_true, decide_eq_true_eq] at hs
  exact ⟨scrub_len hs.1, hs.2.1.2, hs.2.2.1⟩

theorem markIntSS_l (d : Nat) : ∀ (i : Nat) (l : List (List Int)) (a : Int), i + d = l.length → (∀ r ∈ l.drop i, r.length ≤ 1048576) → 0 ≤ a → a + (tot (l.drop i) : Int) ≤ 1073741824 → ∃ l', Ev (fun k => laws_markIntSS.l0 k l a i) (a + (tot (l.drop i) : Int), l') := by
  induction d with
  | zero =>
    intro i l a hi hr h0 h1
    refine ⟨l, Ev.succ ?_⟩
    simp only [laws_markIntSS.l0]
    rw [List.drop_of_length_le (by omega)]
    refine Ev.iteF (by omega) ?_
    simpa [tot] using Ev.now _
  | succ d ih =>
    intro i l a hi hr h0 h1
    have hi' : i < l.length := by omega
    rw [drop_cons l i hi', tot_cons] at h1
    have hm := markIntS l[i] (hr _ (by rw [drop_cons l i hi']; exact List.mem_cons_self ..)) a h0 (by omega)
    have hd : (l.set i (marks id a l[i].length)).drop (i + 1) = l.drop (i + 1) := by
      rw [List.drop_set_of_lt (by omega)]
    obtain ⟨l', hl'⟩ := ih (i + 1) (l.set i (marks id a l[i].length)) (a + l[i].length) (by rw [List.length_set]; omega) (by rw [hd]; exact fun r hr' => hr r (by rw [drop_cons l i hi']; exact List.mem_cons_of_mem _ hr')) (by omega) (by rw [hd]; omega)
    rw [hd] at hl'
    refine ⟨l', Ev.succ ?_⟩
    simp only [laws_markIntSS.l0]
    rw [show l.getD i [] = l[i] by simp [hi'], drop_cons l i hi', tot_cons]
    refine Ev.iteT hi' (Ev.bind hm ?_)
    have e : a + ((l[i].length + tot (l.drop (i + 1)) : Nat) : Int) = a + l[i].length + (tot (l.drop (i + 1)) : Int) := by omega
    rw [e]
    exact hl'
theorem markIntSS (l : List (List Int)) (a : Int) (hr : ∀ r ∈ l, r.length ≤ 1048576) (h0 : 0 ≤ a) (h1 : a + (tot l : Int) ≤ 1073741824) : ∃ l', Ev (fun k => laws_markIntSS.f k l a) (a + (tot l : Int), l') := by
  have h := markIntSS_l l.length 0 l a (by omega) (by simpa using hr) h0 (by simpa using h1)
  simpa [laws_markIntSS.f] using h

theorem markStore (a b : List ByteArray) (c : List Bool) (e : List Int) (cur men : Int) (v : List (List Int)) (h : List Int) (ha : a.length ≤ 1048576) (hb : b.length ≤ 1048576) (hc : c.length ≤ 1048576) (he : e.length ≤ 1048576) (hv : ∀ r ∈ v, r.length ≤ 1048576) (ht : tot v ≤ 1048576) (hh : h.length ≤ 1048576) : ∃ T, Ev (fun k => laws_markStore.f k a b c e cur men v h 1) T ∧ 0 ≤ T.1 := by
  have m1 := markStringS a ha 1 (by omega) (by omega)
  have m2 := markStringS b hb (1 + a.length) (by omega) (by omega)
  have m3 := markBoolS c hc (1 + a.length + b.length) (by omega) (by omega)
  have m4 := markIntS e he (1 + a.length + b.length + c.length) (by omega) (by omega)
  obtain ⟨v', m5⟩ := markIntSS v (1 + a.length + b.length + c.length + e.length) hv (by omega) (by omega)
  have m6 := markIntS h hh (1 + a.length + b.length + c.length + e.length + (tot v : Int)) (by omega) (by omega)
  simp only [laws_markStore.f, laws_markStore_col.f, laws_markScrub.f, laws_markDisk.f]
  exact ⟨_, Ev.bind (Ev.bind (Ev.bind (Ev.bind m1 (Ev.bind m2 (Ev.bind m3 (Ev.now _)))) (Ev.bind m4 (Ev.now _))) (Ev.bind m5 (Ev.bind m6 (Ev.now _)))) (Ev.now _), by simp only; omega⟩

theorem usesBoth (a b : List ByteArray) (c : List Bool) (e : List Int) (cur men : Int) (v : List (List Int)) (h : List Int) (he : e.length ≤ 1048576) (hv : v.length ≤ 1048576 ∧ ∀ r ∈ v, r.length ≤ 1048576) (hh : h.length ≤ 1048576) (D : Bool) (hD : Ev (fun k => spec_GoodDisk.f k a b c) D) : ∃ T, T.1.length ≤ 4 ∧ Ev (fun k => spec_UsesIn.f k a b c e cur men v h) T ∧ Ev (fun k => impl_UsesIn.f k a b c e cur men v h) T := by
  have h1 := specStore a b c e cur men v h he hv hh D hD
  have h2 := implStore a b c e cur men v h he hv hh D hD
  simp only [spec_UsesIn.f, impl_UsesIn.f]
  cases hs : storeTold D a.length e cur men v h with
  | false =>
    rw [hs] at h1 h2
    exact ⟨([], false), by simp, Ev.bind h1 (Ev.iteF (by decide) (Ev.now _)), Ev.bind h2 (Ev.iteF (by decide) (Ev.now _))⟩
  | true =>
    rw [hs] at h1 h2
    obtain ⟨hn, hvl, hall⟩ := store_parts hs
    obtain ⟨U, B, hU, hc⟩ := specUses a b c e cur men v h hn.2 hvl hall
    have hU' : Ev (fun k => impl_usesIn.f k a b c e cur men v h) U := by
      simp only [implUses]
      exact hU
    exact ⟨(U, true), by simp only; rw [hc.1]; exact hn.2, Ev.bind h1 (Ev.iteT rfl (Ev.bind hU (Ev.now _))), Ev.bind h2 (Ev.iteT rfl (Ev.bind hU' (Ev.now _)))⟩

theorem FnExactUsesIn : laws_FnExactUsesIn.Pure := by
  intro a b c e cur men v h ha hb hc he _ _ hv hh
  refine Ev.rounds (g := fun k => laws_FnExactUsesIn.f k a b c e cur men v h) ?_
  simp only [laws_FnExactUsesIn.f]
  obtain ⟨r, hr, hq | ⟨h1, _, ⟨⟨la, lb, lc, _⟩, le, _⟩, ⟨lv, lt⟩, lh, _⟩⟩ := szStore a b c e cur men v h 1048576 (by omega) (by omega) ha hb hc.1 he.1 ⟨hv.1, fun y hy => (hv.2 y hy).1⟩ hh.1
  · exact Ev.bind hr (Ev.iteT hq (Ev.now _))
  · refine Ev.bind hr (Ev.iteF (by omega) ?_)
    obtain ⟨D, hD⟩ := goodDisk a b c la
    obtain ⟨T, hl, hT, hT'⟩ := usesBoth a b c e cur men v h le lv lh D hD
    obtain ⟨M, hM, h0⟩ := markStore a b c e cur men v h la lb lc le lv.2 lt lh
    refine Ev.bind (toStore a b c e cur men v h la lb lc le lv lh) ?_
    refine Ev.bind hT ?_
    refine Ev.bind (toStore a b c e cur men v h la lb lc le lv lh) ?_
    refine Ev.bind hT' ?_
    refine Ev.bind (eqIntS T.1 (by omega)) (Ev.iteT rfl (Ev.iteF (by simp) ?_))
    refine Ev.bind (toStore a b c e cur men v h la lb lc le lv lh) ?_
    refine Ev.bind (eqStore a b c e cur men v h la lb lc le lv lh) (Ev.iteT rfl ?_)
    refine Ev.bind hM (Ev.iteF (by omega) ?_)
    refine Ev.bind (eqIntS T.1 (by omega)) (Ev.iteT rfl ?_)
    refine Ev.bind (markIntS T.1 (by omega) 1 (by omega) (by omega)) ?_
    refine Ev.bind (heldIntS T.1.length (by omega) 1 (by omega) (by omega)) ?_
    refine Ev.iteF (by omega) (Ev.iteT rfl ?_)
    refine Ev.bind (toStore a b c e cur men v h la lb lc le lv lh) ?_
    refine Ev.bind hT' ?_
    refine Ev.bind (eqIntS T.1 (by omega)) (Ev.iteT rfl (Ev.iteF (by simp) ?_))
    refine Ev.bind (heldIntS T.1.length (by omega) 1 (by omega) (by omega)) ?_
    exact Ev.iteF (by omega) (Ev.iteT rfl (Ev.now _))

end Go.Proofs.Ytgnijlfakjjfcaa.Pure
