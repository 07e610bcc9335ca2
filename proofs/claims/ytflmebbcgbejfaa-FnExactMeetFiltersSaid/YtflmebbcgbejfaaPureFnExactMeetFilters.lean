/- The program's MeetFilters and the reference's answer the same for every two filters. No condition. -/
import Derived.Test.YtflmebbcgbejfaaPureDefFnExactMeetFilters
import Derived.Test.YtflmebbcgbejfaaLib
namespace Go.Proofs.Ytflmebbcgbejfaa.Pure
open Go.RowKit Go.Proofs.Ytflmebbcgbejfaa.XFnExactMeetFilters Go.Proofs.YtflmebbcgbejfaaW.PrintWords Go.Proofs.YtflmebbcgbejfaaW.PrintLast Go.Proofs.Ytflmebbcgbejfaa.Lib0
set_option linter.unusedVariables false
set_option linter.unusedSimpArgs false

theorem toBoolS_l (xs : List Bool) (hx : xs.length ≤ 1048576) (d : Nat) : ∀ (i : Nat) (out : List Bool) (k : Nat), i + d = xs.length → out.length = xs.length → d < k → laws_toBoolS.l0 k xs out i = some (out.take i ++ xs.drop i) := by
  induction d with
  | zero =>
    intro i out k h1 h2 hk
    obtain ⟨k, rfl⟩ : ∃ m, k = m + 1 := ⟨k - 1, by omega⟩
    simp only [laws_toBoolS.l0]
    rw [if_neg (by omega), List.take_of_length_le (by omega), List.drop_of_length_le (by omega), List.append_nil]
  | succ d ih =>
    intro i out k h1 h2 hk
    obtain ⟨k, rfl⟩ : ∃ m, k = m + 1 := ⟨k - 1, by omega⟩
    simp only [laws_toBoolS.l0]
    rw [if_pos (by omega), if_pos (by omega), if_pos (by omega), i_succ i (by omega), rdOf_at _ _ _ (by omega : i < xs.length), Int.toNat_natCast, ih (i + 1) _ k (by omega) (by simpa using h2) (by omega), copy_step _ _ _ (by omega) (by omega)]
theorem toBoolS (xs : List Bool) (hx : xs.length ≤ 1048576) : Ev (fun k => laws_toBoolS.f k xs) xs := by
  refine ⟨xs.length + 1, fun k hk => ?_⟩
  simp only [laws_toBoolS.f]
  rw [if_pos (by omega), if_pos (by omega), show ((0 : Int)) = ((0 : Nat) : Int) from rfl, toBoolS_l xs hx xs.length 0 _ k (by omega) (by simp) (by omega)]
  simp

theorem eqBoolS_l (xs : List Bool) (hx : xs.length ≤ 1048576) (d : Nat) : ∀ (i : Nat) (k : Nat), i + d = xs.length → d < k → laws_eqBoolS.l0 k xs xs i = some true := by
  induction d with
  | zero =>
    intro i k h1 hk
    obtain ⟨k, rfl⟩ : ∃ m, k = m + 1 := ⟨k - 1, by omega⟩
    simp only [laws_eqBoolS.l0]
    rw [if_neg (by omega)]
  | succ d ih =>
    intro i k h1 hk
    obtain ⟨k, rfl⟩ : ∃ m, k = m + 1 := ⟨k - 1, by omega⟩
    simp only [laws_eqBoolS.l0]
    rw [if_pos (by omega), if_pos (by omega), if_pos (by omega), if_neg (by simp), i_succ i (by omega), ih (i + 1) k (by omega) (by omega)]
theorem eqBoolS (xs : List Bool) (hx : xs.length ≤ 1048576) : Ev (fun k => laws_eqBoolS.f k xs xs) true := by
  refine ⟨xs.length + 1, fun k hk => ?_⟩
  simp only [laws_eqBoolS.f, if_true]
  exact eqBoolS_l xs hx xs.length 0 k (by omega) (by omega)

theorem markBoolS_l (xs : List Bool) (hx : xs.length ≤ 1048576) (n : Int) (h0 : 0 ≤ n) (h1 : n ≤ 1073741824) (d : Nat) : ∀ (i : Nat) (k : Nat), i + d = xs.length → d < k →
    laws_markBoolS.l0 k (marks (fun z => (Int.tmod z 3) == 0) n i ++ xs.drop i) (n + i) i = some (n + xs.length, marks (fun z => (Int.tmod z 3) == 0) n xs.length) := by
  induction d with
  | zero =>
    intro i k hi hk
    obtain ⟨k, rfl⟩ : ∃ m, k = m + 1 := ⟨k - 1, by omega⟩
    obtain rfl : i = xs.length := by omega
    simp only [laws_markBoolS.l0]
    rw [if_neg (by simp [marks_length])]
    simp
  | succ d ih =>
    intro i k hi hk
    obtain ⟨k, rfl⟩ : ∃ m, k = m + 1 := ⟨k - 1, by omega⟩
    simp only [laws_markBoolS.l0]
    rw [if_pos (by simp [marks_length]; omega), if_pos (by omega), Int.toNat_natCast, set_drop_step _ _ _ _ (by omega) (marks_length _ _ _), i_succ i (by omega), w64 (by omega) (by omega)]
    have e : marks (fun z => (Int.tmod z 3) == 0) n i ++ [(Int.tmod (n + (i : Int)) 3) == 0] = marks (fun z => (Int.tmod z 3) == 0) n (i + 1) := (marks_snoc _ i n).symm
    rw [e, show n + (i : Int) + 1 = n + ((i + 1 : Nat) : Int) by omega]
    exact ih (i + 1) k (by omega) (by omega)
theorem markBoolS (xs : List Bool) (hx : xs.length ≤ 1048576) (n : Int) (h0 : 0 ≤ n) (h1 : n ≤ 1073741824) : Ev (fun k => laws_markBoolS.f k xs n) (n + xs.length, marks (fun z => (Int.tmod z 3) == 0) n xs.length) := by
  refine ⟨xs.length + 1, fun k hk => ?_⟩
  simp only [laws_markBoolS.f]
  have h := markBoolS_l xs hx n h0 h1 xs.length 0 k (by omega) (by omega)
  simpa [marks] using h

theorem heldBoolS_l (xs : List Bool) (hx : xs.length ≤ 1048576) (n : Int) (h0 : 0 ≤ n) (h1 : n ≤ 1073741824) (hg : ∀ (i : Nat) (h : i < xs.length), xs[i] = ((Int.tmod (n + i) 3) == 0)) (d : Nat) : ∀ (i : Nat) (k : Nat), i + d = xs.length → d < k →
    laws_heldBoolS.l0 k xs (n + i) i = some (n + xs.length) := by
  induction d with
  | zero =>
    intro i k hi hk
    obtain ⟨k, rfl⟩ : ∃ m, k = m + 1 := ⟨k - 1, by omega⟩
    obtain rfl : i = xs.length := by omega
    simp only [laws_heldBoolS.l0]
    rw [if_neg (by omega)]
  | succ d ih =>
    intro i k hi hk
    obtain ⟨k, rfl⟩ : ∃ m, k = m + 1 := ⟨k - 1, by omega⟩
    simp only [laws_heldBoolS.l0]
    rw [if_pos (by omega), if_pos (by omega), rdOf_at _ _ _ (by omega : i < xs.length), hg i (by omega), if_neg (by simp), i_succ i (by omega), w64 (by omega) (by omega)]
    have ih' := ih (i + 1) k (by omega) (by omega)
    rwa [show n + ((i + 1 : Nat) : Int) = n + (i : Int) + 1 by omega] at ih'
theorem heldBoolS (len : Nat) (hx : len ≤ 1048576) (n : Int) (h0 : 0 ≤ n) (h1 : n ≤ 1073741824) : Ev (fun k => laws_heldBoolS.f k (marks (fun z => (Int.tmod z 3) == 0) n len) n) (n + len) := by
  refine ⟨len + 1, fun k hk => ?_⟩
  simp only [laws_heldBoolS.f]
  have h := heldBoolS_l (marks (fun z => (Int.tmod z 3) == 0) n len) (by rw [marks_length]; exact hx) n h0 h1 (fun i h => marks_get _ len n i h) len 0 k (by rw [marks_length]; omega) (by omega)
  simpa [marks_length] using h

def both (xs ys : List Bool) : List Bool := List.zipWith (fun x y => x && y) xs ys
theorem both_len (xs ys : List Bool) (h : ys.length = xs.length) : (both xs ys).length = xs.length := by simp [both, h]
theorem both_get (xs ys : List Bool) (i : Nat) (h : i < xs.length) (h' : i < ys.length) (h2 : i < (both xs ys).length) : (both xs ys)[i] = (xs[i] && ys[i]) := by simp [both]
theorem both_step (xs ys zs : List Bool) (i : Nat) (h : i < xs.length) (h' : ys.length = xs.length) (hz : i < zs.length) :
    ((both xs ys).take i ++ zs.drop i).set i (xs[i] && ys[i]) = (both xs ys).take (i + 1) ++ zs.drop (i + 1) := by
  have hb : i < (both xs ys).length := by rw [both_len xs ys h']; exact h
  rw [set_drop_step _ _ _ _ hz (by rw [List.length_take]; omega), List.take_succ_eq_append_getElem hb, both_get xs ys i h (by omega) hb]
theorem mid_get (pre zs : List Bool) (i : Nat) (hp : pre.length = i) (hz : i < zs.length) : rdOf false (pre ++ zs.drop i) (i : Int) = zs[i] := by
  rw [rdOf_at _ _ _ (by simp; omega), List.getElem_append_right (by omega)]
  simp [hp]
theorem spec_l (xs ys : List Bool) (hx : xs.length = 64) (hy : ys.length = 64) (d : Nat) : ∀ (i : Nat) (k : Nat), i + d = ys.length → d < k →
    spec_MeetFilters.l0 k ys ys.length i ((both xs ys).take i ++ xs.drop i) = some (both xs ys, true) := by
  have hb := both_len xs ys (by omega)
  induction d with
  | zero =>
    intro i k hi hk
    obtain ⟨k, rfl⟩ : ∃ m, k = m + 1 := ⟨k - 1, by omega⟩
    simp only [spec_MeetFilters.l0]
    rw [if_neg (by omega), List.take_of_length_le (by omega), List.drop_of_length_le (by omega), List.append_nil]
  | succ d ih =>
    intro i k hi hk
    obtain ⟨k, rfl⟩ : ∃ m, k = m + 1 := ⟨k - 1, by omega⟩
    have st := both_step xs ys xs i (by omega) (by omega) (by omega)
    simp only [spec_MeetFilters.l0]
    rw [if_pos (by omega), if_pos (by omega), if_pos (by omega), if_pos (by simp; omega), mid_get _ _ _ (by rw [List.length_take]; omega) (by omega), rdOf_at _ _ _ (by omega : i < ys.length), Int.toNat_natCast, i_succ i (by omega)]
    cases hv : xs[i]'(by omega) with
    | true =>
      rw [hv] at st
      simp only [Bool.true_or, Bool.true_and] at st
      rw [if_pos rfl, st]
      exact ih (i + 1) k (by omega) (by omega)
    | false =>
      rw [hv] at st
      simp only [Bool.false_or, Bool.false_and] at st
      rw [if_neg (by decide), st]
      exact ih (i + 1) k (by omega) (by omega)
theorem fn_told (x y : Bool) : impl_MeetFilters_1.f x y = some (x && y) := by
  unfold impl_MeetFilters_1.f
  cases x <;> simp
theorem impl_l (xs ys : List Bool) (hx : xs.length = 64) (hy : ys.length = 64) (zs : List Bool) (hz : zs.length = 64) (d : Nat) : ∀ (i : Nat) (k : Nat), i + d = ys.length → d < k →
    impl_combined.l0 k 64 i xs ys ((both xs ys).take i ++ zs.drop i) = some (both xs ys, true) := by
  have hb := both_len xs ys (by omega)
  induction d with
  | zero =>
    intro i k hi hk
    obtain ⟨k, rfl⟩ : ∃ m, k = m + 1 := ⟨k - 1, by omega⟩
    simp only [impl_combined.l0]
    rw [if_neg (by omega), List.take_of_length_le (by omega), List.drop_of_length_le (by omega), List.append_nil]
  | succ d ih =>
    intro i k hi hk
    obtain ⟨k, rfl⟩ : ∃ m, k = m + 1 := ⟨k - 1, by omega⟩
    have st := both_step xs ys zs i (by omega) (by omega) (by omega)
    simp only [impl_combined.l0]
    rw [if_pos (by omega), if_pos (by omega), if_pos (by omega), if_pos (by omega), fn_told, rdOf_at _ _ _ (by omega : i < ys.length), rdOf_at _ _ _ (by omega : i < xs.length)]
    simp only [Option.bind_some]
    rw [if_pos (by simp; omega), Int.toNat_natCast, i_succ i (by omega), st]
    exact ih (i + 1) k (by omega) (by omega)

/-- What both answer. -/
def told (xs ys : List Bool) : List Bool × Bool := if xs.length = 64 ∧ ys.length = 64 then (both xs ys, true) else ([], false)
theorem told_len (xs ys : List Bool) : (told xs ys).1.length ≤ 64 := by
  unfold told
  split
  · rename_i h
    simp [both, h.1, h.2]
  · simp
theorem spec_told (xs ys : List Bool) : Ev (fun k => spec_MeetFilters.f k xs ys) (told xs ys) := by
  simp only [spec_MeetFilters.f, spec_GoodFilter.f, Option.bind_some]
  unfold told
  by_cases h1 : xs.length = 64
  · refine Ev.iteT (by simp; omega) ?_
    by_cases h2 : ys.length = 64
    · rw [if_pos ⟨h1, h2⟩]
      refine ⟨100, fun k hk => ?_⟩
      obtain ⟨k, rfl⟩ : ∃ m, k = m + 1 := ⟨k - 1, by omega⟩
      simp only [spec_MeetFilters.j0]
      rw [if_neg (by simp; omega)]
      simp only [spec_l13Own.f, Option.bind_some]
      rw [if_pos (by simp; omega)]
      simp only [Option.bind_some, List.nil_append]
      have h := spec_l xs ys h1 h2 64 0 k (by omega) (by omega)
      simpa using h
    · rw [if_neg (fun h => h2 h.2)]
      refine ⟨1, fun k hk => ?_⟩
      obtain ⟨k, rfl⟩ : ∃ m, k = m + 1 := ⟨k - 1, by omega⟩
      simp only [spec_MeetFilters.j0]
      rw [if_pos (by simp; omega)]
  · rw [if_neg (fun h => h1 h.1)]
    refine Ev.iteF (by simp; omega) ?_
    refine ⟨1, fun k hk => ?_⟩
    obtain ⟨k, rfl⟩ : ∃ m, k = m + 1 := ⟨k - 1, by omega⟩
    simp only [spec_MeetFilters.j0]
    rw [if_pos trivial]
theorem impl_told (xs ys : List Bool) : Ev (fun k => impl_MeetFilters.f k xs ys) (told xs ys) := by
  simp only [impl_MeetFilters.f]
  refine Ev.bind (a := told xs ys) ?_ (Ev.now _)
  simp only [impl_combined.f, impl_GoodFilter.f, Option.bind_some]
  unfold told
  by_cases h1 : xs.length = 64
  · refine Ev.iteT (by simp; omega) ?_
    by_cases h2 : ys.length = 64
    · rw [if_pos ⟨h1, h2⟩]
      refine ⟨100, fun k hk => ?_⟩
      obtain ⟨k, rfl⟩ : ∃ m, k = m + 1 := ⟨k - 1, by omega⟩
      simp only [impl_combined.j0]
      rw [if_neg (by simp; omega)]
      simp only [impl_NewFilter.f]
      rw [if_pos (by decide)]
      simp only [Option.bind_some]
      have h := impl_l xs ys h1 h2 (List.replicate 64 false) (by simp) 64 0 k (by omega) (by omega)
      simpa using h
    · rw [if_neg (fun h => h2 h.2)]
      refine ⟨1, fun k hk => ?_⟩
      obtain ⟨k, rfl⟩ : ∃ m, k = m + 1 := ⟨k - 1, by omega⟩
      simp only [impl_combined.j0]
      rw [if_pos (by simp; omega)]
  · rw [if_neg (fun h => h1 h.1)]
    refine Ev.iteF (by simp; omega) ?_
    refine ⟨1, fun k hk => ?_⟩
    obtain ⟨k, rfl⟩ : ∃ m, k = m + 1 := ⟨k - 1, by omega⟩
    simp only [impl_combined.j0]
    rw [if_pos trivial]

theorem toFilter (xs : List Bool) (hx : xs.length ≤ 1048576) : Ev (fun k => laws_toFilter.f k xs) xs := by
  simp only [laws_toFilter.f]
  exact Ev.bind (toBoolS xs hx) (Ev.now _)
theorem eqFilter (xs : List Bool) (hx : xs.length ≤ 1048576) : Ev (fun k => laws_eqFilter.f k xs xs) true := by
  simp only [laws_eqFilter.f]
  exact Ev.bind (eqBoolS xs hx) (Ev.iteT rfl (Ev.now _))
theorem markFilter (xs : List Bool) (hx : xs.length ≤ 1048576) (n : Int) (h0 : 0 ≤ n) (h1 : n ≤ 1073741824) : Ev (fun k => laws_markFilter.f k xs n) (n + xs.length, marks (fun z => (Int.tmod z 3) == 0) n xs.length) := by
  simp only [laws_markFilter.f]
  exact Ev.bind (markBoolS xs hx n h0 h1) (Ev.now _)
theorem heldFilter (len : Nat) (hx : len ≤ 1048576) (n : Int) (h0 : 0 ≤ n) (h1 : n ≤ 1073741824) : Ev (fun k => laws_heldFilter.f k (marks (fun z => (Int.tmod z 3) == 0) n len) n) (n + len) := by
  simp only [laws_heldFilter.f]
  exact Ev.bind (heldBoolS len hx n h0 h1) (Ev.iteF (by omega) (Ev.now _))
theorem szFilter (xs : List Bool) (n : Int) (h0 : 0 ≤ n) (h1 : n ≤ 1048576) (hx : xs.length ≤ maxLen) : laws_szFilter.f xs n = some (if n - xs.length < 0 then -1 else n - xs.length) := by
  unfold maxLen at hx
  unfold laws_szFilter.f laws_szBoolS.f
  rw [w64 (by omega) (by omega)]
  by_cases h : n - (xs.length : Int) < 0
  · rw [if_pos h, if_pos h]
    simp
  · rw [if_neg h, if_neg h]
    simp only [Option.bind_some]
    rw [if_neg h]

theorem FnExactMeetFilters : laws_FnExactMeetFilters.Pure := by
  intro xs ys ⟨hx, _⟩ ⟨hy, _⟩
  refine Ev.rounds (g := fun k => laws_FnExactMeetFilters.f k xs ys) ?_
  simp only [laws_FnExactMeetFilters.f]
  refine Ev.bind0 (szFilter xs 1048576 (by omega) (by omega) hx) ?_
  by_cases ha : (1048576 : Int) - xs.length < 0
  · rw [if_pos ha]
    exact Ev.iteT (by omega) (Ev.now _)
  · rw [if_neg ha]
    refine Ev.iteF ha ?_
    refine Ev.bind0 (szFilter ys (1048576 - xs.length) (by omega) (by omega) hy) ?_
    by_cases hb : (1048576 : Int) - xs.length - ys.length < 0
    · rw [if_pos hb]
      exact Ev.iteT (by omega) (Ev.now _)
    · rw [if_neg hb]
      refine Ev.iteF hb ?_
      have hl := told_len xs ys
      have hx' : xs.length ≤ 1048576 := by omega
      have hy' : ys.length ≤ 1048576 := by omega
      refine Ev.bind (toFilter xs hx') ?_
      refine Ev.bind (toFilter ys hy') ?_
      refine Ev.bind (spec_told xs ys) ?_
      refine Ev.bind (toFilter xs hx') ?_
      refine Ev.bind (toFilter ys hy') ?_
      refine Ev.bind (impl_told xs ys) ?_
      refine Ev.bind (eqFilter _ (by omega)) ?_
      refine Ev.iteT rfl ?_
      refine Ev.iteF (by simp) ?_
      refine Ev.bind (toFilter xs hx') ?_
      refine Ev.bind (eqFilter _ hx') ?_
      refine Ev.iteT rfl ?_
      refine Ev.bind (toFilter ys hy') ?_
      refine Ev.bind (eqFilter _ hy') ?_
      refine Ev.iteT rfl ?_
      refine Ev.bind (markFilter xs hx' 1 (by omega) (by omega)) ?_
      refine Ev.bind (markFilter ys hy' (1 + xs.length) (by omega) (by omega)) ?_
      refine Ev.iteF (by simp only; omega) ?_
      refine Ev.bind (eqFilter _ (by omega)) ?_
      refine Ev.iteT rfl ?_
      refine Ev.bind (markFilter _ (by omega) 1 (by omega) (by omega)) ?_
      refine Ev.bind (heldFilter _ (by omega) 1 (by omega) (by omega)) ?_
      refine Ev.iteF (by omega) ?_
      refine Ev.iteT rfl ?_
      refine Ev.bind (toFilter xs hx') ?_
      refine Ev.bind (toFilter ys hy') ?_
      refine Ev.bind (impl_told xs ys) ?_
      refine Ev.bind (eqFilter _ (by omega)) ?_
      refine Ev.iteT rfl ?_
      refine Ev.iteF (by simp) ?_
      refine Ev.bind (heldFilter _ (by omega) 1 (by omega) (by omega)) ?_
      refine Ev.iteF (by omega) ?_
      exact Ev.iteT rfl (Ev.now _)

end Go.Proofs.Ytflmebbcgbejfaa.Pure
