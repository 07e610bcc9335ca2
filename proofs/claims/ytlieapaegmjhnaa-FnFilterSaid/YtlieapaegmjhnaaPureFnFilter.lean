/- What was put into a filter is never denied, and the program's filters are the reference's, for all drawn keys and filters. No condition. -/
import Derived.Test.YtlieapaegmjhnaaXFnFilterx5
import Derived.Test.YtlieapaegmjhnaaLib
import Derived.Laws.Bits64b
import Derived.Test.YtlieapaegmjhnaaSets
namespace Go.Proofs.Ytlieapaegmjhnaa.Pure
open Go.RowKit Go.Proofs.Ytlieapaegmjhnaa.XFnFilter Go.Proofs.YtlieapaegmjhnaaW.PrintWords Go.Proofs.YtlieapaegmjhnaaW.PrintLast Go.Proofs.Ytlieapaegmjhnaa.Lib0
set_option linter.unusedVariables false
set_option linter.unusedSimpArgs false

theorem l1Put_l (xs : List Int) (n : Int) (hx : xs.length ≤ 1048576) (d : Nat) : ∀ (i : Nat) (k : Nat), i + d = xs.length → d < k → spec_l1Put.l0 k xs n i = some (xs.take i ++ Sets0.put (xs.drop i) n) := by
  induction d with
  | zero =>
    intro i k hi hk
    obtain ⟨k, rfl⟩ : ∃ m, k = m + 1 := ⟨k - 1, by omega⟩
    obtain rfl : i = xs.length := by omega
    simp only [spec_l1Put.l0]
    rw [if_neg (by omega), if_pos (by omega), if_pos (by omega)]
    simp only [Option.bind_some, Int.toNat_natCast, List.take_length, List.drop_length, List.nil_append, Sets0.put]
    rw [if_pos (by simp; omega), if_pos (by omega), if_pos (by simp; omega)]
    simp
  | succ d ih =>
    intro i k hi hk
    obtain ⟨k, rfl⟩ : ∃ m, k = m + 1 := ⟨k - 1, by omega⟩
    simp only [spec_l1Put.l0]
    rw [if_pos (by omega), if_pos (by omega), rd_at _ _ (by omega : i < xs.length), drop_cons xs i (by omega)]
    simp only [Sets0.put]
    by_cases h1 : xs[i]'(by omega) < n
    · rw [if_pos h1, if_pos h1, i_succ i (by omega), ih (i + 1) k (by omega) (by omega), List.take_succ_eq_append_getElem (by omega : i < xs.length), List.append_assoc]
      rfl
    · rw [if_neg h1, if_neg h1]
      by_cases h2 : xs[i]'(by omega) = n
      · rw [if_pos h2, if_pos h2, ← drop_cons xs i (by omega), List.take_append_drop]
      · rw [if_neg h2, if_neg h2, if_pos (by omega)]
        simp only [Option.bind_some, Int.toNat_natCast, List.nil_append]
        rw [if_pos (by simp; omega), if_pos (by simp; omega), if_pos (by simp; omega), ← drop_cons xs i (by omega)]
        simp
theorem l1Put (xs : List Int) (n : Int) (hx : xs.length ≤ 1048576) : Ev (fun k => spec_l1Put.f k xs n) (Sets0.put xs n) := by
  refine ⟨xs.length + 1, fun k hk => ?_⟩
  simp only [spec_l1Put.f]
  have h := l1Put_l xs n hx xs.length 0 k (by omega) (by omega)
  simpa using h

def hb (key i : Int) : Int := (key * (2 * i + 7) + 13 * i) % 61
def bits (key : Int) : List Int := [hb key 0, hb key 1, hb key 2].foldl Sets0.put []
theorem hash_eq (key i : Int) (h0 : 0 ≤ key) (h1 : key ≤ 9999) (hi : i = 0 ∨ i = 1 ∨ i = 2) : Int.tmod (wrap64 ((wrap64 (key * (wrap64 ((wrap64 (2 * i)) + 7)))) + (wrap64 (13 * i)))) 61 = hb key i := by
  unfold hb
  rcases hi with rfl | rfl | rfl
  · rw [show wrap64 (2 * 0) = 0 by decide +kernel, show wrap64 (13 * 0) = 0 by decide +kernel, show wrap64 (0 + 7) = 7 by decide +kernel, w64 (n := key * 7) (by omega) (by omega), w64 (n := key * 7 + 0) (by omega) (by omega), Int.tmod_eq_emod_of_nonneg (by omega)]
    omega
  · rw [show wrap64 (2 * 1) = 2 by decide +kernel, show wrap64 (13 * 1) = 13 by decide +kernel, show wrap64 (2 + 7) = 9 by decide +kernel, w64 (n := key * 9) (by omega) (by omega), w64 (n := key * 9 + 13) (by omega) (by omega), Int.tmod_eq_emod_of_nonneg (by omega)]
    omega
  · rw [show wrap64 (2 * 2) = 4 by decide +kernel, show wrap64 (13 * 2) = 26 by decide +kernel, show wrap64 (4 + 7) = 11 by decide +kernel, w64 (n := key * 11) (by omega) (by omega), w64 (n := key * 11 + 26) (by omega) (by omega), Int.tmod_eq_emod_of_nonneg (by omega)]
    omega
theorem hb_range (key i : Int) : 0 ≤ hb key i ∧ hb key i ≤ 60 := by
  unfold hb
  omega
theorem bits_range (key : Int) : ∀ x ∈ bits key, 0 ≤ x ∧ x ≤ 60 := by
  intro x hx
  unfold bits at hx
  rw [Sets0.fold_mem] at hx
  simp only [List.mem_cons, List.not_mem_nil, or_false] at hx
  rcases hx with rfl | rfl | rfl <;> exact hb_range _ _
theorem bits_len (key : Int) : (bits key).length ≤ 3 := by
  have h := Sets0.fold_length [hb key 0, hb key 1, hb key 2] []
  simpa [bits] using h
theorem up1 : wrap64 (0 + 1) = 1 := by decide +kernel
theorem up2 : wrap64 (1 + 1) = 2 := by decide +kernel
theorem up3 : wrap64 (2 + 1) = 3 := by decide +kernel
theorem specBits (key : Int) (h0 : 0 ≤ key) (h1 : key ≤ 9999) : Ev (fun k => spec_l13Bits.f k key) (bits key) := by
  simp only [spec_l13Bits.f]
  refine Ev.succ ?_
  simp only [spec_l13Bits.l0, hash_eq key 0 h0 h1 (by omega), up1]
  refine Ev.iteT (by decide) (Ev.bind (l1Put [] _ (by simp)) ?_)
  refine Ev.succ ?_
  simp only [spec_l13Bits.l0, hash_eq key 1 h0 h1 (by omega), up2]
  refine Ev.iteT (by decide) (Ev.bind (l1Put _ _ (by have := Sets0.put_length (hb key 0) []; simp at this; omega)) ?_)
  refine Ev.succ ?_
  simp only [spec_l13Bits.l0, hash_eq key 2 h0 h1 (by omega), up3]
  refine Ev.iteT (by decide) (Ev.bind (l1Put _ _ (by have := Sets0.put_length (hb key 0) []; have := Sets0.put_length (hb key 1) (Sets0.put [] (hb key 0)); simp at *; omega)) ?_)
  refine Ev.succ ?_
  simp only [spec_l13Bits.l0]
  exact Ev.iteF (by decide) (Ev.now _)
theorem implBits (key : Int) (h0 : 0 ≤ key) (h1 : key ≤ 9999) : Ev (fun k => impl_bitsFor.f k key) (bits key) := by
  simp only [impl_bitsFor.f]
  refine Ev.succ ?_
  simp only [impl_bitsFor.l0, hash_eq key 0 h0 h1 (by omega), up1]
  refine Ev.iteT (by decide) (Ev.iteT (by simp) ?_)
  refine Ev.succ ?_
  simp only [impl_bitsFor.l0, hash_eq key 1 h0 h1 (by omega), up2]
  refine Ev.iteT (by decide) (Ev.iteT (by simp) ?_)
  refine Ev.succ ?_
  simp only [impl_bitsFor.l0, hash_eq key 2 h0 h1 (by omega), up3]
  refine Ev.iteT (by decide) (Ev.iteT (by simp) ?_)
  refine Ev.succ ?_
  simp only [impl_bitsFor.l0]
  refine Ev.iteF (by decide) ?_
  simp only [slices_Sort_int_int.f, slices_Compact_int_int.f]
  refine Ev.bind0 (x := ([hb key 0, hb key 1, hb key 2] : List Int).mergeSort fun x y => decide (x ≤ y)) (by simp) ?_
  refine Ev.bind0 (x := bits key) ?_ (Ev.now _)
  rw [if_pos (by simp), Sets0.sort_compact]
  rfl

def isKey (x : Int) : Bool := decide (0 ≤ x ∧ x ≤ 9999)
theorem keyIn (x : Int) : spec_l1In.f x 0 9999 = some (isKey x) := by
  unfold spec_l1In.f isKey
  by_cases h : x ≥ 0
  · rw [if_pos h]
    congr 1
    rw [decide_eq_decide]
    omega
  · rw [if_neg h]
    congr 1
    symm
    rw [decide_eq_false_iff_not]
    omega
theorem keyWithin (x : Int) : impl_within.f x 0 9999 = some (isKey x) := keyIn x
theorem isKey_iff (x : Int) : isKey x = true ↔ 0 ≤ x ∧ x ≤ 9999 := by simp [isKey]

theorem specKey (x : Int) : spec_l12Key.f x = some (isKey x) := by
  unfold spec_l12Key.f
  rw [keyIn]
  rfl

theorem implKey (x : Int) : impl_isKey.f x = some (isKey x) := by
  unfold impl_isKey.f
  rw [keyWithin]
  rfl

/-- The bits of a list set. -/
def setAll (xs : List Bool) (bs : List Int) : List Bool := bs.foldl (fun l b => l.set b.toNat true) xs
theorem setAll_len (bs : List Int) : ∀ xs : List Bool, (setAll xs bs).length = xs.length := by
  induction bs with
  | nil => intro xs; rfl
  | cons b t ih => intro xs; simp [setAll] at *; rw [ih]; simp
theorem specSet_l (bs : List Int) (hb : ∀ x ∈ bs, 0 ≤ x ∧ x ≤ 60) (hl : bs.length ≤ 3) (d : Nat) : ∀ (i : Nat) (xs : List Bool) (k : Nat), xs.length = 64 → i + d = bs.length → d < k → spec_l13Put.l0 k bs bs.length i xs = some (setAll xs (bs.drop i)) := by
  induction d with
  | zero =>
    intro i xs k hx hi hk
    obtain ⟨k, rfl⟩ : ∃ m, k = m + 1 := ⟨k - 1, by omega⟩
    simp only [spec_l13Put.l0]
    rw [if_neg (by omega), List.drop_of_length_le (by omega)]
    rfl
  | succ d ih =>
    intro i xs k hx hi hk
    obtain ⟨k, rfl⟩ : ∃ m, k = m + 1 := ⟨k - 1, by omega⟩
    have hr := hb (bs[i]'(by omega)) (List.getElem_mem _)
    simp only [spec_l13Put.l0]
    rw [if_pos (by omega), if_pos (by omega), if_pos (by omega), rd_at _ _ (by omega : i < bs.length), if_pos hr.1, if_pos (by omega), i_succ i (by omega), ih (i + 1) _ k (by simpa using hx) (by omega) (by omega), drop_cons bs i (by omega)]
    rfl
theorem specSet (key : Int) (h0 : 0 ≤ key) (h1 : key ≤ 9999) (xs : List Bool) (hx : xs.length = 64) : Ev (fun k => spec_l13Put.f k xs key) (setAll xs (bits key)) := by
  simp only [spec_l13Put.f]
  refine Ev.bind (specBits key h0 h1) ?_
  have hl := bits_len key
  refine ⟨10, fun k hk => ?_⟩
  have h := specSet_l (bits key) (bits_range key) hl (bits key).length 0 xs k hx (by omega) (by omega)
  simpa using h
theorem implSet_l (bs : List Int) (hb : ∀ x ∈ bs, 0 ≤ x ∧ x ≤ 60) (hl : bs.length ≤ 3) (d : Nat) : ∀ (i : Nat) (xs : List Bool) (k : Nat), xs.length = 64 → i + d = bs.length → d < k → impl_PutFilter.l0 k bs bs.length i xs = some (setAll xs (bs.drop i), true) := by
  induction d with
  | zero =>
    intro i xs k hx hi hk
    obtain ⟨k, rfl⟩ : ∃ m, k = m + 1 := ⟨k - 1, by omega⟩
    simp only [impl_PutFilter.l0]
    rw [if_neg (by omega), List.drop_of_length_le (by omega)]
    rfl
  | succ d ih =>
    intro i xs k hx hi hk
    obtain ⟨k, rfl⟩ : ∃ m, k = m + 1 := ⟨k - 1, by omega⟩
    have hr := hb (bs[i]'(by omega)) (List.getElem_mem _)
    simp only [impl_PutFilter.l0]
    rw [if_pos (by omega), if_pos (by omega), if_pos (by omega), rd_at _ _ (by omega : i < bs.length), if_pos hr.1, if_pos (by omega), i_succ i (by omega), ih (i + 1) _ k (by simpa using hx) (by omega) (by omega), drop_cons bs i (by omega)]
    rfl
/-- What putting a key tells. -/
def putTold (xs : List Bool) (key : Int) : List Bool × Bool := if xs.length = 64 ∧ isKey key = true then (setAll xs (bits key), true) else ([], false)
theorem putTold_len (xs : List Bool) (key : Int) : (putTold xs key).1.length ≤ 64 := by
  unfold putTold
  split
  · rename_i h
    rw [setAll_len]
    omega
  · simp
theorem implPut (xs : List Bool) (key : Int) : Ev (fun k => impl_PutFilter.f k xs key) (putTold xs key) := by
  simp only [impl_PutFilter.f, impl_GoodFilter.f, Option.bind_some, implKey]
  unfold putTold
  by_cases h1 : xs.length = 64
  · refine Ev.iteT (by simp; omega) ?_
    by_cases h2 : isKey key = true
    · rw [if_pos ⟨h1, h2⟩]
      have h' := (isKey_iff key).1 h2
      refine Ev.succ ?_
      simp only [impl_PutFilter.j0, h2]
      refine Ev.iteF (by decide) ?_
      simp only [slices_Clone_bool_bool.f, Option.bind_some]
      refine Ev.bind0 (x := xs) (by rw [if_pos (by simp; omega)]; simp) ?_
      refine Ev.bind (implBits key h'.1 h'.2) ?_
      have hl := bits_len key
      refine ⟨10, fun k hk => ?_⟩
      have h := implSet_l (bits key) (bits_range key) hl (bits key).length 0 xs k h1 (by omega) (by omega)
      simpa using h
    · rw [if_neg (fun h => h2 h.2)]
      have h2' : isKey key = false := by simpa using h2
      refine Ev.succ ?_
      simp only [impl_PutFilter.j0, h2']
      exact Ev.iteT (by decide) (Ev.now _)
  · rw [if_neg (fun h => h1 h.1)]
    refine Ev.iteF (by simp; omega) ?_
    refine Ev.succ ?_
    simp only [impl_PutFilter.j0]
    exact Ev.iteT trivial (Ev.now _)

theorem specPut (xs : List Bool) (key : Int) : Ev (fun k => spec_PutFilter.f k xs key) (putTold xs key) := by
  simp only [spec_PutFilter.f, spec_GoodFilter.f, Option.bind_some, specKey]
  unfold putTold
  by_cases h1 : xs.length = 64
  · refine Ev.iteT (by simp; omega) ?_
    by_cases h2 : isKey key = true
    · rw [if_pos ⟨h1, h2⟩]
      have h' := (isKey_iff key).1 h2
      refine Ev.succ ?_
      simp only [spec_PutFilter.j0, h2]
      refine Ev.iteF (by decide) ?_
      simp only [spec_l13Own.f, Option.bind_some]
      refine Ev.bind0 (x := xs) (by rw [if_pos (by simp; omega)]; simp) ?_
      exact Ev.bind (specSet key h'.1 h'.2 xs h1) (Ev.now _)
    · rw [if_neg (fun h => h2 h.2)]
      have h2' : isKey key = false := by simpa using h2
      refine Ev.succ ?_
      simp only [spec_PutFilter.j0, h2']
      exact Ev.iteT (by decide) (Ev.now _)
  · rw [if_neg (fun h => h1 h.1)]
    refine Ev.iteF (by simp; omega) ?_
    refine Ev.succ ?_
    simp only [spec_PutFilter.j0]
    exact Ev.iteT trivial (Ev.now _)

/-- All keys put, one after the other; nothing where one is no key. -/
def putAll : List Int → List Bool → List Bool × Bool
  | [], f => (f, true)
  | x :: t, f => if isKey x = true then putAll t (setAll f (bits x)) else ([], false)
theorem putAll_len (l : List Int) : ∀ f : List Bool, f.length = 64 → (putAll l f).1.length ≤ 64 := by
  induction l with
  | nil => intro f hf; simp [putAll, hf]
  | cons x t ih =>
    intro f hf
    unfold putAll
    split
    · exact ih _ (by rw [setAll_len]; exact hf)
    · simp
def ofTold (l : List Int) : List Bool × Bool := if l.length > 80 then ([], false) else putAll l (List.replicate 64 false)
theorem ofTold_len (l : List Int) : (ofTold l).1.length ≤ 64 := by
  unfold ofTold
  split
  · simp
  · exact putAll_len l _ (by simp)
theorem specOf_l (l : List Int) (hl : l.length ≤ 1048576) (d : Nat) : ∀ (i : Nat) (f : List Bool), f.length = 64 → i + d = l.length →
    Ev (fun k => spec_FilterOf.l0 k l l l.length i f) (if l.length > 80 then ([], false) else putAll (l.drop i) f) := by
  induction d with
  | zero =>
    intro i f hf hi
    refine Ev.succ ?_
    simp only [spec_FilterOf.l0]
    refine Ev.iteF (by omega) ?_
    rw [List.drop_of_length_le (by omega)]
    by_cases h : l.length > 80
    · rw [if_pos h]
      exact Ev.iteT (by omega) (Ev.now _)
    · rw [if_neg h]
      exact Ev.iteF (by omega) (Ev.now _)
  | succ d ih =>
    intro i f hf hi
    refine Ev.succ ?_
    simp only [spec_FilterOf.l0]
    rw [drop_cons l i (by omega)]
    refine Ev.iteT (by omega) (Ev.iteT (by omega) (Ev.iteT (by omega) ?_))
    rw [rd_at _ _ (by omega : i < l.length), specKey, i_succ i (by omega)]
    simp only [Option.bind_some, putAll]
    by_cases h : isKey (l[i]'(by omega)) = true
    · have h' := (isKey_iff _).1 h
      simp only [h, if_true]
      exact Ev.bind (specSet _ h'.1 h'.2 f hf) (ih (i + 1) _ (by rw [setAll_len]; exact hf) (by omega))
    · simp only [h, Bool.false_eq_true, if_false, ite_self]
      exact Ev.now _
theorem spec_told (l : List Int) (hl : l.length ≤ 1048576) : Ev (fun k => spec_FilterOf.f k l) (ofTold l) := by
  simp only [spec_FilterOf.f, spec_NewFilter.f]
  refine Ev.bind0 (x := List.replicate 64 false) (by rw [if_pos (by decide)]) ?_
  exact specOf_l l hl l.length 0 _ (by simp) (by omega)
theorem implOf_l (l : List Int) (hl : l.length ≤ 80) (d : Nat) : ∀ (i : Nat) (f : List Bool), f.length = 64 → i + d = l.length →
    Ev (fun k => impl_FilterOf.l0 k l l.length i f) (putAll (l.drop i) f) := by
  induction d with
  | zero =>
    intro i f hf hi
    refine Ev.succ ?_
    simp only [impl_FilterOf.l0]
    refine Ev.iteF (by omega) ?_
    rw [List.drop_of_length_le (by omega)]
    exact Ev.now _
  | succ d ih =>
    intro i f hf hi
    refine Ev.succ ?_
    simp only [impl_FilterOf.l0]
    rw [drop_cons l i (by omega)]
    refine Ev.iteT (by omega) (Ev.iteT (by omega) (Ev.iteT (by omega) ?_))
    rw [rd_at _ _ (by omega : i < l.length), i_succ i (by omega)]
    refine Ev.bind (implPut f _) ?_
    simp only [putAll]
    unfold putTold
    by_cases h : isKey (l[i]'(by omega)) = true
    · simp only [h, hf, and_self, if_true]
      exact ih (i + 1) _ (by rw [setAll_len]; exact hf) (by omega)
    · simp only [h, and_false, if_false, Bool.false_eq_true]
      exact Ev.now _
theorem impl_told (l : List Int) : Ev (fun k => impl_FilterOf.f k l) (ofTold l) := by
  simp only [impl_FilterOf.f]
  unfold ofTold
  by_cases h : l.length > 80
  · rw [if_pos h]
    exact Ev.iteT (by omega) (Ev.now _)
  · rw [if_neg h]
    refine Ev.iteF (by omega) ?_
    simp only [impl_NewFilter.f]
    refine Ev.bind0 (x := List.replicate 64 false) (by rw [if_pos (by decide)]) ?_
    exact implOf_l l (by omega) l.length 0 _ (by simp) (by omega)

theorem specMay_l (bs : List Int) (hb : ∀ x ∈ bs, 0 ≤ x ∧ x ≤ 60) (hl : bs.length ≤ 3) (xs : List Bool) (hx : xs.length = 64) (d : Nat) : ∀ (i : Nat) (k : Nat), i + d = bs.length → d < k → spec_l13May.l0 k bs bs.length i xs = some (!((bs.drop i).any fun b => !(rdOf false xs b))) := by
  induction d with
  | zero =>
    intro i k hi hk
    obtain ⟨k, rfl⟩ : ∃ m, k = m + 1 := ⟨k - 1, by omega⟩
    simp only [spec_l13May.l0]
    rw [if_neg (by omega), List.drop_of_length_le (by omega)]
    rfl
  | succ d ih =>
    intro i k hi hk
    obtain ⟨k, rfl⟩ : ∃ m, k = m + 1 := ⟨k - 1, by omega⟩
    have hr := hb (bs[i]'(by omega)) (List.getElem_mem _)
    simp only [spec_l13May.l0]
    rw [if_pos (by omega), if_pos (by omega), if_pos (by omega), rd_at _ _ (by omega : i < bs.length), if_pos hr.1, if_pos (by omega), i_succ i (by omega), drop_cons bs i (by omega), List.any_cons]
    cases hq : rdOf false xs (bs[i]'(by omega)) with
    | true =>
      rw [if_pos rfl, ih (i + 1) k (by omega) (by omega)]
      simp
    | false =>
      rw [if_neg (by decide)]
      simp
/-- Whether a filter tells a key. -/
def mayTold (xs : List Bool) (key : Int) : Bool × Bool := if xs.length = 64 ∧ isKey key = true then (!((bits key).any fun b => !(rdOf false xs b)), true) else (false, false)
theorem specMay (xs : List Bool) (key : Int) : Ev (fun k => spec_MayHave.f k xs key) (mayTold xs key) := by
  simp only [spec_MayHave.f, spec_GoodFilter.f, Option.bind_some, specKey]
  unfold mayTold
  by_cases h1 : xs.length = 64
  · refine Ev.iteT (by simp; omega) ?_
    by_cases h2 : isKey key = true
    · rw [if_pos ⟨h1, h2⟩]
      have h' := (isKey_iff key).1 h2
      refine Ev.iteT h2 ?_
      have hm : Ev (fun k => spec_l13May.f k xs key) (!((bits key).any fun b => !(rdOf false xs b))) := by
        simp only [spec_l13May.f]
        refine Ev.bind (specBits key h'.1 h'.2) ?_
        have hl := bits_len key
        refine ⟨10, fun k hk => ?_⟩
        have h := specMay_l (bits key) (bits_range key) hl xs h1 (bits key).length 0 k (by omega) (by omega)
        simpa using h
      exact Ev.bind hm (Ev.now _)
    · rw [if_neg (fun h => h2 h.2)]
      exact Ev.iteF h2 (Ev.now _)
  · rw [if_neg (fun h => h1 h.1)]
    exact Ev.iteF (by simp; omega) (Ev.now _)
theorem implMay (xs : List Bool) (key : Int) : Ev (fun k => impl_MayHave.f k xs key) (mayTold xs key) := by
  simp only [impl_MayHave.f, impl_GoodFilter.f, Option.bind_some, implKey]
  unfold mayTold
  by_cases h1 : xs.length = 64
  · refine Ev.iteT (by simp; omega) ?_
    by_cases h2 : isKey key = true
    · rw [if_pos ⟨h1, h2⟩]
      have h' := (isKey_iff key).1 h2
      refine Ev.iteT h2 ?_
      refine Ev.bind (implBits key h'.1 h'.2) ?_
      have hl := bits_len key
      refine Ev.iteT ⟨by omega, fun b hb => ?_⟩ (Ev.now _)
      have := bits_range key b hb
      omega
    · rw [if_neg (fun h => h2 h.2)]
      exact Ev.iteF h2 (Ev.now _)
  · rw [if_neg (fun h => h1 h.1)]
    exact Ev.iteF (by simp; omega) (Ev.now _)

theorem u64r (x : Int) : 0 ≤ IntKind.u64.wrap x ∧ IntKind.u64.wrap x < 18446744073709551616 := by
  rw [IntKind.wrap_u64]
  omega
theorem low8 (x : Int) (h0 : 0 ≤ x) (h1 : x < 18446744073709551616) : 0 ≤ wrap64 (Go.bits .and .u64 (x / 1099511627776) 255) ∧ wrap64 (Go.bits .and .u64 (x / 1099511627776) 255) ≤ 255 := by
  obtain ⟨m, hm⟩ : ∃ m : Nat, x / 1099511627776 = (m : Int) := ⟨(x / 1099511627776).toNat, by omega⟩
  rw [hm, show (255 : Int) = ((255 : Nat) : Int) from rfl, bits_and_u64_nat _ _ (by omega) (by omega)]
  have h2 : m &&& 255 ≤ 255 := Nat.and_le_right
  rw [w64 (by omega) (by omega)]
  omega
theorem wf_u8 {x : Int} (h : (Lit.int .u8 x).wf = true) : 0 ≤ x ∧ x ≤ 255 := by
  simpa [Lit.wf, IntKind.signed, IntKind.bits, IntKind.min, IntKind.max] using h
/-- A byte that is drawn. -/
theorem next_d (c : List Int) (hc : ∀ x ∈ c, (Lit.int .u8 x).wf = true) (hl : c.length ≤ 1048576) (p s : Int) (h0 : 0 ≤ p) (h1 : p ≤ 1000000000) : ∃ r s', spec_l1Cur_next.f c p s = some (r, p + 1, s') ∧ 0 ≤ r ∧ r ≤ 255 := by
  unfold spec_l1Cur_next.f
  rw [w64 (n := p + 1) (by omega) (by omega)]
  by_cases h : p < (c.length : Int)
  · rw [if_pos h, if_pos h0, if_pos (by omega)]
    have hr : 0 ≤ rd c p ∧ rd c p ≤ 255 := by
      obtain ⟨i, rfl⟩ : ∃ i : Nat, p = (i : Int) := ⟨p.toNat, by omega⟩
      rw [rd_at c i (by omega)]
      exact wf_u8 (hc _ (List.getElem_mem _))
    refine ⟨_, _, rfl, ?_⟩
    rw [w64 (by omega) (by omega)]
    exact hr
  · rw [if_neg h]
    by_cases h2 : p + 1 ≤ (c.length : Int)
    · omega
    · rw [if_neg h2]
      refine ⟨_, _, rfl, ?_⟩
      exact low8 _ (u64r _).1 (u64r _).2

theorem pick_d (c : List Int) (hc : ∀ x ∈ c, (Lit.int .u8 x).wf = true) (hl : c.length ≤ 1048576) (p s : Int) (h0 : 0 ≤ p) (h1 : p ≤ 999999990) (n : Int) : ∃ r p' s', spec_l1Cur_pick.f c p s n = some (r, p', s') ∧ 0 ≤ r ∧ (r = 0 ∨ r < n) ∧ p ≤ p' ∧ p' ≤ p + 2 := by
  unfold spec_l1Cur_pick.f
  by_cases h : n ≤ 1
  · rw [if_pos h]
    exact ⟨_, _, _, rfl, by omega, by omega, by omega, by omega⟩
  · rw [if_neg h]
    obtain ⟨r, s', e, hr⟩ := next_d c hc hl p s h0 (by omega)
    rw [e]
    simp only [Option.bind_some]
    by_cases h2 : n > 200
    · rw [if_pos h2]
      obtain ⟨r2, s2, e2, hr2⟩ := next_d c hc hl (p + 1) s' (by omega) (by omega)
      rw [e2]
      simp only [Option.bind_some]
      rw [if_neg (by omega), w64 (n := r * 256) (by omega) (by omega), w64 (by omega) (by omega)]
      refine ⟨_, _, _, rfl, Int.tmod_nonneg _ (by omega), .inr (Int.tmod_lt_of_pos _ (by omega)), by omega, by omega⟩
    · rw [if_neg h2, if_neg (by omega)]
      refine ⟨_, _, _, rfl, Int.tmod_nonneg _ (by omega), .inr (Int.tmod_lt_of_pos _ (by omega)), by omega, by omega⟩

theorem one_d (c : List Int) (hc : ∀ x ∈ c, (Lit.int .u8 x).wf = true) (hl : c.length ≤ 1048576) (p s : Int) (h0 : 0 ≤ p) (h1 : p ≤ 999999990) (n : Int) : ∃ b p' s', spec_l1Cur_one.f c p s n = some (b, p', s') ∧ p ≤ p' ∧ p' ≤ p + 2 := by
  unfold spec_l1Cur_one.f
  obtain ⟨r, p', s', e, _, _, h2, h3⟩ := pick_d c hc hl p s h0 h1 n
  rw [e]
  exact ⟨_, _, _, rfl, h2, h3⟩

theorem among_d (c : List Int) (hc : ∀ x ∈ c, (Lit.int .u8 x).wf = true) (hl : c.length ≤ 1048576) (p s : Int) (h0 : 0 ≤ p) (h1 : p ≤ 999999990) (l : List Int) (hn : 0 < l.length) : ∃ r p' s', spec_l1Cur_among.f c p s l = some (r, p', s') ∧ r ∈ l ∧ p ≤ p' ∧ p' ≤ p + 2 := by
  unfold spec_l1Cur_among.f
  obtain ⟨r, p', s', e, hr, hr2, h2, h3⟩ := pick_d c hc hl p s h0 h1 (l.length : Int)
  rw [e]
  simp only [Option.bind_some]
  have hlt : r < (l.length : Int) := by omega
  rw [if_pos hr, if_pos hlt]
  refine ⟨_, _, _, rfl, ?_, h2, h3⟩
  obtain ⟨i, rfl⟩ : ∃ i : Nat, r = (i : Int) := ⟨r.toNat, by omega⟩
  rw [rd_at l i (by omega)]
  exact List.getElem_mem _

theorem key12_d (c : List Int) (hc : ∀ x ∈ c, (Lit.int .u8 x).wf = true) (hl : c.length ≤ 1048576) (p s : Int) (h0 : 0 ≤ p) (h1 : p ≤ 999999980) : ∃ r p' s', spec_l1Cur_key12.f c p s = some (r, p', s') ∧ -1 ≤ r ∧ r ≤ 10000 ∧ p ≤ p' ∧ p' ≤ p + 6 := by
  unfold spec_l1Cur_key12.f
  obtain ⟨b, p1, s1, e, h2, h3⟩ := one_d c hc hl p s h0 (by omega) 30
  rw [e]
  simp only [Option.bind_some]
  cases b with
  | true =>
    rw [if_pos rfl]
    obtain ⟨r, p2, s2, e2, hm, h4, h5⟩ := among_d c hc hl p1 s1 (by omega) (by omega) [(-1), 9999, 10000] (by simp)
    rw [e2]
    simp only [Option.bind_some]
    simp only [List.mem_cons, List.not_mem_nil, or_false] at hm
    exact ⟨_, _, _, rfl, by omega, by omega, by omega, by omega⟩
  | false =>
    rw [if_neg (by decide)]
    obtain ⟨r, p2, s2, e2, hr, hr2, h4, h5⟩ := pick_d c hc hl p1 s1 (by omega) (by omega) 30
    rw [e2]
    simp only [Option.bind_some]
    obtain ⟨q, p3, s3, e3, hm, h6, h7⟩ := among_d c hc hl p2 s2 (by omega) (by omega) [1, 1, 11, 121] (by simp)
    rw [e3]
    simp only [Option.bind_some]
    simp only [List.mem_cons, List.not_mem_nil, or_false] at hm
    have hb : r * q = r ∨ r * q = r * 11 ∨ r * q = r * 121 := by
      rcases hm with rfl | rfl | rfl | rfl
      · exact .inl (by omega)
      · exact .inl (by omega)
      · exact .inr (.inl rfl)
      · exact .inr (.inr rfl)
    refine ⟨_, _, _, rfl, ?_, ?_, by omega, by omega⟩
    · rw [w64 (by omega) (by omega)]; omega
    · rw [w64 (by omega) (by omega)]; omega

theorem keys_l (c : List Int) (hc : ∀ x ∈ c, (Lit.int .u8 x).wf = true) (hl : c.length ≤ 1048576) (d : Nat) : ∀ (l : List Int) (p s : Int), 0 ≤ p → p ≤ 100000 - 6 * d → d ≤ 1000 → l.length + d ≤ 1000 →
    ∃ r : List Int, r.length = l.length + d ∧ Ev (fun k => spec_DrawFilterOf.l0 k l (d : Int) c p s) r := by
  induction d with
  | zero =>
    intro l p s _ _ _ _
    refine ⟨l, by omega, Ev.succ ?_⟩
    simp only [spec_DrawFilterOf.l0]
    exact Ev.iteF (by omega) (Ev.now _)
  | succ d ih =>
    intro l p s h0 h1 h2 h3
    obtain ⟨r, p', s', e, _, _, h4, h5⟩ := key12_d c hc hl p s h0 (by omega)
    obtain ⟨q, hq, hev⟩ := ih (l ++ [r]) p' s' (by omega) (by omega) (by omega) (by simp; omega)
    refine ⟨q, by rw [hq]; simp; omega, Ev.succ ?_⟩
    simp only [spec_DrawFilterOf.l0]
    refine Ev.iteT (by omega) (Ev.bind0 e (Ev.iteT (by omega) ?_))
    have hw : wrap64 (((d + 1 : Nat) : Int) - 1) = (d : Int) := by rw [w64 (by omega) (by omega)]; omega
    simp only [hw]
    exact hev
theorem drawKeys (c : List Int) (hc : ∀ x ∈ c, (Lit.int .u8 x).wf = true) (hl : c.length ≤ 1048576) : ∃ r : List Int, r.length ≤ 81 ∧ Ev (fun k => spec_DrawFilterOf.f k c) r := by
  simp only [spec_DrawFilterOf.f]
  obtain ⟨n, p1, s1, e1, hn, hn2, h1, h2⟩ := pick_d c hc hl 0 0 (by omega) (by omega) 8
  obtain ⟨b, p2, s2, e2, h3, h4⟩ := one_d c hc hl p1 s1 (by omega) (by omega) 20
  cases b with
  | true =>
    obtain ⟨m, p3, s3, e3, hm, hm2, h5, h6⟩ := pick_d c hc hl p2 s2 (by omega) (by omega) 2
    obtain ⟨r, hr, hev⟩ := keys_l c hc hl (80 + m).toNat [] p3 s3 (by omega) (by omega) (by omega) (by simp; omega)
    refine ⟨r, by rw [hr]; simp; omega, ?_⟩
    refine Ev.bind0 e1 (Ev.bind0 e2 (Ev.iteT rfl (Ev.bind0 e3 (Ev.succ ?_))))
    simp only [spec_DrawFilterOf.j0]
    rw [w64 (by omega) (by omega), show 80 + m = (((80 + m).toNat : Nat) : Int) by omega]
    exact hev
  | false =>
    obtain ⟨r, hr, hev⟩ := keys_l c hc hl n.toNat [] p2 s2 (by omega) (by omega) (by omega) (by simp; omega)
    refine ⟨r, by rw [hr]; simp; omega, ?_⟩
    refine Ev.bind0 e1 (Ev.bind0 e2 (Ev.iteF (by simp) (Ev.succ ?_)))
    simp only [spec_DrawFilterOf.j0]
    rw [show n = ((n.toNat : Nat) : Int) by omega]
    exact hev

theorem filter_l (c : List Int) (hc : ∀ x ∈ c, (Lit.int .u8 x).wf = true) (hl : c.length ≤ 1048576) (d : Nat) : ∀ (f : List Bool) (p s : Int), f.length = 64 → 0 ≤ p → p ≤ 10000 - 2 * d → d ≤ 100 →
    ∃ (r : List Bool) (p' s' : Int), r.length ≤ 64 ∧ 0 ≤ p' ∧ p' ≤ 10010 ∧ Ev (fun k => spec_l1Cur_filter.l0 k (d : Int) c p s f) (r, p', s') := by
  induction d with
  | zero =>
    intro f p s hf h0 h1 _
    obtain ⟨b, p1, s1, e1, h2, h3⟩ := one_d c hc hl p s h0 (by omega) 30
    cases b with
    | true =>
      refine ⟨f.take 60, p1, s1, by simp; omega, by omega, by omega, Ev.succ ?_⟩
      simp only [spec_l1Cur_filter.l0]
      exact Ev.iteF (by omega) (Ev.bind0 e1 (Ev.iteT rfl (Ev.iteT (by omega) (Ev.now _))))
    | false =>
      refine ⟨f, p1, s1, by omega, by omega, by omega, Ev.succ ?_⟩
      simp only [spec_l1Cur_filter.l0]
      exact Ev.iteF (by omega) (Ev.bind0 e1 (Ev.iteF (by simp) (Ev.now _)))
  | succ d ih =>
    intro f p s hf h0 h1 h2
    obtain ⟨r, p', s', e, hr, hr2, h4, h5⟩ := pick_d c hc hl p s h0 (by omega) 10000
    obtain ⟨q, p2, s2, hq, hq1, hq2, hev⟩ := ih (setAll f (bits r)) p' s' (by rw [setAll_len]; exact hf) (by omega) (by omega) (by omega)
    refine ⟨q, p2, s2, hq, hq1, hq2, Ev.succ ?_⟩
    simp only [spec_l1Cur_filter.l0]
    refine Ev.iteT (by omega) (Ev.bind0 e (Ev.bind (specSet r hr (by omega) f hf) ?_))
    have hw : wrap64 (((d + 1 : Nat) : Int) - 1) = (d : Int) := by rw [w64 (by omega) (by omega)]; omega
    simp only [hw]
    exact hev
theorem drawFilter0 (c : List Int) (hc : ∀ x ∈ c, (Lit.int .u8 x).wf = true) (hl : c.length ≤ 1048576) (p s : Int) (h0 : 0 ≤ p) (h1 : p ≤ 9000) : ∃ (r : List Bool) (p' s' : Int), r.length ≤ 64 ∧ 0 ≤ p' ∧ p' ≤ 10010 ∧ Ev (fun k => spec_l1Cur_filter.f k c p s) (r, p', s') := by
  simp only [spec_l1Cur_filter.f, spec_NewFilter.f]
  obtain ⟨n, p1, s1, e1, hn, hn2, h2, h3⟩ := pick_d c hc hl p s h0 (by omega) 8
  obtain ⟨r, p', s', hr, hr1, hr2, hev⟩ := filter_l c hc hl n.toNat (List.replicate 64 false) p1 s1 (by simp) (by omega) (by omega) (by omega)
  refine ⟨r, p', s', hr, hr1, hr2, ?_⟩
  refine Ev.bind0 (x := List.replicate 64 false) (by rw [if_pos (by decide)]) (Ev.bind0 e1 ?_)
  simp only
  rw [show n = ((n.toNat : Nat) : Int) by omega]
  exact hev

theorem drawPut (c : List Int) (hc : ∀ x ∈ c, (Lit.int .u8 x).wf = true) (hl : c.length ≤ 1048576) : ∃ (r : List Bool) (key : Int), r.length ≤ 64 ∧ Ev (fun k => spec_DrawPutFilter.f k c) (r, key) := by
  simp only [spec_DrawPutFilter.f]
  obtain ⟨r, p', s', hr, hr1, hr2, hev⟩ := drawFilter0 c hc hl 0 0 (by omega) (by omega)
  obtain ⟨q, p2, s2, e2, _, _, _, _⟩ := key12_d c hc hl p' s' (by omega) (by omega)
  exact ⟨r, q, hr, Ev.bind hev (Ev.bind0 e2 (Ev.now _))⟩

theorem sameBools_l (xs ys : List Bool) (hl : xs.length = ys.length) (hx : xs.length ≤ 1048576) (d : Nat) : ∀ (i : Nat) (k : Nat), i + d = xs.length → d < k → xs.take i = ys.take i → laws_sameBools.l0 k xs ys xs.length i = some (decide (xs = ys)) := by
  induction d with
  | zero =>
    intro i k hi hk ht
    obtain ⟨k, rfl⟩ : ∃ m, k = m + 1 := ⟨k - 1, by omega⟩
    simp only [laws_sameBools.l0]
    rw [if_neg (by omega)]
    rw [List.take_of_length_le (by omega), List.take_of_length_le (by omega)] at ht
    simp [ht]
  | succ d ih =>
    intro i k hi hk ht
    obtain ⟨k, rfl⟩ : ∃ m, k = m + 1 := ⟨k - 1, by omega⟩
    simp only [laws_sameBools.l0]
    rw [if_pos (by omega), if_pos (by omega), if_pos (by omega), if_pos (by omega), rdOf_at _ _ _ (by omega : i < xs.length), rdOf_at _ _ _ (by omega : i < ys.length)]
    by_cases h : xs[i]'(by omega) = ys[i]'(by omega)
    · rw [if_neg (by simp [h]), i_succ i (by omega)]
      refine ih (i + 1) k (by omega) (by omega) ?_
      rw [List.take_succ_eq_append_getElem (by omega : i < xs.length), List.take_succ_eq_append_getElem (by omega : i < ys.length), ht, h]
    · rw [if_pos (by simpa using h)]
      have hne : ¬ xs = ys := fun e => h (by subst e; rfl)
      simp [hne]
theorem sameBools (xs ys : List Bool) (hx : xs.length ≤ 1048576) : Ev (fun k => laws_sameBools.f k xs ys) (decide (xs = ys)) := by
  simp only [laws_sameBools.f]
  by_cases h : xs.length = ys.length
  · refine Ev.iteT (by omega) ⟨xs.length + 1, fun k hk => ?_⟩
    exact sameBools_l xs ys h hx xs.length 0 k (by omega) (by omega) (by simp)
  · have hne : ¬ xs = ys := fun e => h (by rw [e])
    refine Ev.iteF (by omega) ?_
    simp only [hne, decide_false]
    exact Ev.now _

/-- How many are set. -/
def ones (l : List Bool) : Int := (l.filter id).length
theorem implOnes_l (xs : List Bool) (hx : xs.length = 64) (d : Nat) : ∀ (i : Nat) (n : Int) (k : Nat), i + d = xs.length → 0 ≤ n → n ≤ i → d < k → impl_OnesIn.l0 k n xs xs.length i = some (n + ones (xs.drop i), true) := by
  induction d with
  | zero =>
    intro i n k h1 h2 h3 hk
    obtain ⟨k, rfl⟩ : ∃ m, k = m + 1 := ⟨k - 1, by omega⟩
    simp only [impl_OnesIn.l0]
    rw [if_neg (by omega), List.drop_of_length_le (by omega)]
    simp [ones]
  | succ d ih =>
    intro i n k h1 h2 h3 hk
    obtain ⟨k, rfl⟩ : ∃ m, k = m + 1 := ⟨k - 1, by omega⟩
    simp only [impl_OnesIn.l0]
    rw [if_pos (by omega), if_pos (by omega), if_pos (by omega), i_succ i (by omega), rdOf_at _ _ _ (by omega : i < xs.length), drop_cons xs i (by omega)]
    cases hb : xs[i]'(by omega) with
    | true =>
      rw [if_pos rfl, w64 (by omega) (by omega), ih (i + 1) (n + 1) k (by omega) (by omega) (by omega) (by omega)]
      simp [ones]
      omega
    | false =>
      rw [if_neg (by decide), ih (i + 1) n k (by omega) (by omega) (by omega) (by omega)]
      simp [ones]
theorem implOnes (xs : List Bool) (hx : xs.length = 64) : Ev (fun k => impl_OnesIn.f k xs) (ones xs, true) := by
  simp only [impl_OnesIn.f, impl_GoodFilter.f, Option.bind_some]
  refine Ev.iteT (by simp; omega) ⟨65, fun k hk => ?_⟩
  have h := implOnes_l xs hx 64 0 0 k (by omega) (by omega) (by omega) (by omega)
  simpa using h
theorem ones_set (xs : List Bool) (i : Nat) : ones (xs.set i true) ≤ ones xs + 1 := by
  unfold ones
  induction xs generalizing i with
  | nil => simp
  | cons x t ih =>
    cases i with
    | zero => cases x <;> simp <;> omega
    | succ i => have h := ih i; cases x <;> simp at * <;> omega
theorem ones_setAll (bs : List Int) : ∀ xs : List Bool, ones (setAll xs bs) ≤ ones xs + bs.length := by
  induction bs with
  | nil => intro xs; simp [setAll]
  | cons b t ih =>
    intro xs
    have h := ih (xs.set b.toNat true)
    have h' := ones_set xs b.toNat
    simp only [setAll, List.foldl_cons, List.length_cons] at *
    omega

/-- Whether all bits of a list are set. -/
def allOn (xs : List Bool) (bs : List Int) : Bool := !(bs.any fun b => !(rdOf false xs b))
theorem allOn_iff (xs : List Bool) (bs : List Int) : allOn xs bs = true ↔ ∀ b ∈ bs, rdOf false xs b = true := by
  unfold allOn
  simp
theorem rdOf_set (xs : List Bool) (i : Nat) (j : Int) (h0 : 0 ≤ j) (h1 : j < xs.length) : rdOf false (xs.set i true) j = (rdOf false xs j || decide (j = (i : Int))) := by
  obtain ⟨n, rfl⟩ : ∃ n : Nat, j = (n : Int) := ⟨j.toNat, by omega⟩
  rw [rdOf_at _ _ n (by simp; omega), rdOf_at _ _ n (by omega)]
  by_cases h : i = n
  · subst h; simp
  · rw [List.getElem_set_ne h]
    have : ¬ ((n : Int) = (i : Int)) := by omega
    simp [this]
theorem setAll_rd (bs : List Int) (hb : ∀ x ∈ bs, 0 ≤ x ∧ x ≤ 60) : ∀ (xs : List Bool) (j : Int), xs.length = 64 → 0 ≤ j → j < 64 → rdOf false (setAll xs bs) j = (rdOf false xs j || decide (j ∈ bs)) := by
  induction bs with
  | nil => intro xs j _ _ _; simp [setAll]
  | cons b t ih =>
    intro xs j hx h0 h1
    have hr := hb b (List.mem_cons_self ..)
    have h := ih (fun x hx => hb x (List.mem_cons_of_mem _ hx)) (xs.set b.toNat true) j (by simpa using hx) h0 h1
    have hs : setAll xs (b :: t) = setAll (xs.set b.toNat true) t := rfl
    rw [hs, h, rdOf_set xs _ j h0 (by omega), show ((b.toNat : Nat) : Int) = b by omega]
    by_cases e : j = b <;> simp [e]
theorem set_ext (xs ys : List Bool) (hl : xs.length = ys.length) (h : ∀ j : Nat, j < xs.length → rdOf false xs (j : Int) = rdOf false ys (j : Int)) : xs = ys := by
  refine List.ext_getElem hl (fun i h1 h2 => ?_)
  have := h i h1
  rwa [rdOf_at _ _ i h1, rdOf_at _ _ i h2] at this
theorem allOn_set (xs : List Bool) (hx : xs.length = 64) (bs : List Int) (hb : ∀ x ∈ bs, 0 ≤ x ∧ x ≤ 60) : allOn (setAll xs bs) bs = true := by
  rw [allOn_iff]
  intro b h
  have hr := hb b h
  rw [setAll_rd bs hb xs b hx hr.1 (by omega)]
  simp [h]
theorem allOn_keep (xs : List Bool) (hx : xs.length = 64) (bs cs : List Int) (hb : ∀ x ∈ bs, 0 ≤ x ∧ x ≤ 60) (hc : ∀ x ∈ cs, 0 ≤ x ∧ x ≤ 60) (h : allOn xs cs = true) : allOn (setAll xs bs) cs = true := by
  rw [allOn_iff] at *
  intro b h2
  have hr := hc b h2
  rw [setAll_rd bs hb xs b hx hr.1 (by omega), h b h2]
  rfl
theorem allOn_same (xs : List Bool) (hx : xs.length = 64) (bs : List Int) (hb : ∀ x ∈ bs, 0 ≤ x ∧ x ≤ 60) : allOn xs bs = decide (setAll xs bs = xs) := by
  by_cases h : setAll xs bs = xs
  · rw [decide_eq_true h]
    have := allOn_set xs hx bs hb
    rwa [h] at this
  · rw [decide_eq_false h]
    rw [Bool.eq_false_iff]
    intro h2
    apply h
    rw [allOn_iff] at h2
    refine set_ext _ _ (setAll_len bs xs) (fun j hj => ?_)
    rw [setAll_len, hx] at hj
    rw [setAll_rd bs hb xs j hx (by omega) (by omega)]
    by_cases e : (j : Int) ∈ bs
    · rw [h2 _ e]; rfl
    · simp [e]

theorem putAll_ones (l : List Int) : ∀ f : List Bool, f.length = 64 → (putAll l f).2 = true → (putAll l f).1.length = 64 ∧ ones (putAll l f).1 ≤ ones f + 3 * l.length := by
  induction l with
  | nil => intro f hf _; simp [putAll, hf]
  | cons x t ih =>
    intro f hf h
    simp only [putAll] at h ⊢
    by_cases hk : isKey x = true
    · rw [if_pos hk] at h ⊢
      have h2 := ih (setAll f (bits x)) (by rw [setAll_len]; exact hf) h
      have h3 := ones_setAll (bits x) f
      have h4 := bits_len x
      refine ⟨h2.1, ?_⟩
      simp only [List.length_cons]
      omega
    · rw [if_neg hk] at h
      cases h
theorem putAll_keep (l : List Int) (cs : List Int) (hc : ∀ x ∈ cs, 0 ≤ x ∧ x ≤ 60) : ∀ f : List Bool, f.length = 64 → (putAll l f).2 = true → allOn f cs = true → allOn (putAll l f).1 cs = true := by
  induction l with
  | nil => intro f _ _ h; simpa [putAll] using h
  | cons x t ih =>
    intro f hf h h2
    simp only [putAll] at h ⊢
    by_cases hk : isKey x = true
    · rw [if_pos hk] at h ⊢
      exact ih _ (by rw [setAll_len]; exact hf) h (allOn_keep f hf _ _ (bits_range x) hc h2)
    · rw [if_neg hk] at h
      cases h
theorem putAll_has (l : List Int) : ∀ f : List Bool, f.length = 64 → (putAll l f).2 = true → ∀ x ∈ l, isKey x = true ∧ allOn (putAll l f).1 (bits x) = true := by
  induction l with
  | nil => intro f _ _ x hx; cases hx
  | cons y t ih =>
    intro f hf h x hx
    simp only [putAll] at h ⊢
    by_cases hk : isKey y = true
    · rw [if_pos hk] at h ⊢
      have hlen : (setAll f (bits y)).length = 64 := by rw [setAll_len]; exact hf
      rcases List.mem_cons.mp hx with rfl | hx
      · exact ⟨hk, putAll_keep t _ (bits_range x) _ hlen h (allOn_set f hf _ (bits_range x))⟩
      · exact ih _ hlen h x hx
    · rw [if_neg hk] at h
      cases h

/-- The law's second half: a filter and a key are drawn. -/
theorem tail (c : List Int) (hc : ∀ x ∈ c, (Lit.int .u8 x).wf = true) (hl : c.length ≤ 1048576) (T : Nat → List Bool × Int → Option Bool)
    (hT : ∀ (g : List Bool) (key : Int), g.length ≤ 64 → Ev (fun k => T k (g, key)) true) : Ev (fun k => (spec_DrawPutFilter.f k c).bind (T k)) true := by
  obtain ⟨g, key, hg, hev⟩ := drawPut c hc hl
  exact Ev.bind hev (hT g key hg)
theorem told64 (g : List Bool) (key : Int) (h : (putTold g key).2 = true) : g.length = 64 ∧ isKey key = true ∧ putTold g key = (setAll g (bits key), true) := by
  unfold putTold at *
  split at h
  · rename_i e
    rw [if_pos e]
    exact ⟨e.1, e.2, rfl⟩
  · cases h
theorem may_allOn (g : List Bool) (key : Int) (h1 : g.length = 64) (h2 : isKey key = true) : mayTold g key = (allOn g (bits key), true) := by
  unfold mayTold allOn
  rw [if_pos ⟨h1, h2⟩]
theorem tailT (g : List Bool) (key : Int) (hg : g.length ≤ 64) : Ev (fun k => (impl_PutFilter.f k g key).bind fun bt344 => ((spec_PutFilter.f k g key).bind fun bt349 => ((impl_MayHave.f k g key).bind fun bt354 => ((spec_MayHave.f k g key).bind fun bt356 => (if (bt344.2 != bt349.2) = true then (none) else ((laws_sameBools.f k bt344.1 bt349.1).bind fun t358 => (if t358 = true then (if (bt354.2 != bt356.2) = true then (none) else (if (bt354.1 != bt356.1) = true then (none) else ((impl_GoodFilter.f g).bind fun t359 => ((spec_GoodFilter.f g).bind fun t360 => (if (t359 != t360) = true then (none) else (if bt344.2 = true then ((impl_MayHave.f k bt344.1 key).bind fun bt361 => (if bt361.2 = true then (if bt361.1 = true then ((laws_sameBools.f k bt344.1 g).bind fun t363 => (some (bt354.1 == t363))) else (none)) else (none))) else (some true))))))) else (none)))))))) true := by
  refine Ev.bind (implPut g key) (Ev.bind (specPut g key) (Ev.bind (implMay g key) (Ev.bind (specMay g key) ?_)))
  refine Ev.iteF (by simp) ?_
  have hp := putTold_len g key
  refine Ev.bind (sameBools _ _ (by omega)) ?_
  refine Ev.iteT (by simp) (Ev.iteF (by simp) (Ev.iteF (by simp) ?_))
  simp only [impl_GoodFilter.f, spec_GoodFilter.f, Option.bind_some]
  refine Ev.iteF (by simp) ?_
  by_cases h : (putTold g key).2 = true
  · refine Ev.iteT h ?_
    obtain ⟨h1, h2, h3⟩ := told64 g key h
    rw [h3]
    have hs : (setAll g (bits key)).length = 64 := by rw [setAll_len]; exact h1
    refine Ev.bind (implMay (setAll g (bits key)) key) ?_
    rw [may_allOn _ _ hs h2, may_allOn _ _ h1 h2, allOn_set g h1 _ (bits_range key)]
    refine Ev.iteT rfl (Ev.iteT rfl (Ev.bind (sameBools _ _ (by simp only; omega)) ?_))
    simp only [allOn_same g h1 _ (bits_range key), BEq.rfl]
    exact Ev.now _
  · exact Ev.iteF h (Ev.now _)
theorem FnFilter : laws_FnFilter.Pure := by
  intro c d hc _ hcw hd _ hdw
  refine Ev.rounds (g := fun k => laws_FnFilter.f k c d) ?_
  unfold maxLen at hc hd
  simp only [laws_FnFilter.f]
  rw [w64 (by omega) (by omega)]
  by_cases hb : (c.length : Int) + (d.length : Int) > 1048576
  · exact Ev.iteT hb (Ev.now _)
  · refine Ev.iteF hb ?_
    obtain ⟨l, hll, hev⟩ := drawKeys c hcw (by omega)
    refine Ev.bind hev (Ev.bind (impl_told l) (Ev.bind (spec_told l (by omega)) (Ev.iteF (by simp) ?_)))
    have hl64 := ofTold_len l
    refine Ev.bind (sameBools _ _ (by omega)) (Ev.iteT (by simp) ?_)
    by_cases h : (ofTold l).2 = true
    · refine Ev.iteT h ?_
      have h80 : ¬ l.length > 80 := by
        intro h8
        unfold ofTold at h
        rw [if_pos h8] at h
        cases h
      have he : ofTold l = putAll l (List.replicate 64 false) := by
        unfold ofTold
        rw [if_neg h80]
      rw [he] at h
      rw [he]
      have hs := putAll_ones l (List.replicate 64 false) (by simp) h
      have hz : ones (List.replicate 64 false) = 0 := by decide
      have hh := putAll_has l (List.replicate 64 false) (by simp) h
      generalize hF : (putAll l (List.replicate 64 false)).1 = F at *
      refine Ev.bind (implOnes F hs.1) ?_
      simp only [impl_GoodFilter.f, Option.bind_some]
      refine Ev.iteT (by simp; omega) (Ev.iteT (by first | rfl | trivial) ?_)
      rw [w64 (by omega) (by omega)]
      refine Ev.iteF (by omega) ?_
      have loop : ∀ (e i : Nat), i + e = l.length → Ev (fun k => laws_FnFilter.l0 k d l l.length i F) true := by
        intro e
        induction e with
        | zero =>
          intro i hi
          refine Ev.succ ?_
          simp only [laws_FnFilter.l0]
          refine Ev.iteF (by omega) ?_
          exact tail d hdw (by omega) _ (fun g key hg => tailT g key hg)
        | succ e ih =>
          intro i hi
          refine Ev.succ ?_
          simp only [laws_FnFilter.l0]
          refine Ev.iteT (by omega) (Ev.iteT (by omega) (Ev.iteT (by omega) ?_))
          rw [rd_at _ _ (by omega : i < l.length), i_succ i (by omega)]
          have hx := hh (l[i]'(by omega)) (List.getElem_mem _)
          refine Ev.bind (implMay F _) ?_
          rw [may_allOn _ _ hs.1 hx.1, hx.2]
          exact Ev.iteT rfl (Ev.iteT rfl (ih (i + 1) (by omega)))
      exact loop l.length 0 (by omega)
    · refine Ev.iteF h ?_
      exact tail d hdw (by omega) _ (fun g key hg => tailT g key hg)

end Go.Proofs.Ytlieapaegmjhnaa.Pure
