/- The program's PlayTable and the reference's answer the same for every seed and every list of whole numbers. No condition. -/
import Derived.Test.YtemnidhllbbjnaaXFnExactPlayTablex8
import Derived.Test.YtemnidhllbbjnaaLib
import Derived.Laws.Bits64b
import Derived.Test.YtemnidhllbbjnaaSets
namespace Go.Proofs.Ytemnidhllbbjnaa.Pure
open Go.RowKit Go.Proofs.Ytemnidhllbbjnaa.XFnExactPlayTable Go.Proofs.YtemnidhllbbjnaaW.PrintWords Go.Proofs.YtemnidhllbbjnaaW.PrintLast Go.Proofs.Ytemnidhllbbjnaa.Lib0
set_option linter.unusedVariables false
set_option linter.unusedSimpArgs false

theorem toIntS_l (xs : List Int) (hx : xs.length ≤ 1048576) (d : Nat) : ∀ (i : Nat) (out : List Int) (k : Nat), i + d = xs.length → out.length = xs.length → d < k → laws_toIntS.l0 k xs out i = some (out.take i ++ xs.drop i) := by
  induction d with
  | zero =>
    intro i out k h1 h2 hk
    obtain ⟨k, rfl⟩ : ∃ m, k = m + 1 := ⟨k - 1, by omega⟩
    simp only [laws_toIntS.l0]
    rw [if_neg (by omega), List.take_of_length_le (by omega), List.drop_of_length_le (by omega), List.append_nil]
  | succ d ih =>
    intro i out k h1 h2 hk
    obtain ⟨k, rfl⟩ : ∃ m, k = m + 1 := ⟨k - 1, by omega⟩
    simp only [laws_toIntS.l0]
    rw [if_pos (by omega), if_pos (by omega), if_pos (by omega), i_succ i (by omega), rd_at _ _ (by omega : i < xs.length), Int.toNat_natCast, ih (i + 1) _ k (by omega) (by simpa using h2) (by omega), copy_step _ _ _ (by omega) (by omega)]
theorem toIntS (xs : List Int) (hx : xs.length ≤ 1048576) : Ev (fun k => laws_toIntS.f k xs) xs := by
  refine ⟨xs.length + 1, fun k hk => ?_⟩
  simp only [laws_toIntS.f]
  rw [if_pos (by omega), if_pos (by omega), show ((0 : Int)) = ((0 : Nat) : Int) from rfl, toIntS_l xs hx xs.length 0 _ k (by omega) (by simp) (by omega)]
  simp

theorem eqBoolS_l (xs : List Bool) (hx : xs.length ≤ 1048576) (d : Nat) : ∀ (i : Nat) (k : Nat), i + d = xs.length → d < k → laws_eqBoolS.l0 k xs xs i = some true := by
  induction d with
  | zero =>
    intro i k h1 hk
    obtain ⟨k, rfl⟩ : ∃ m, k = m + 1 := ⟨k - 1, by omega⟩
    simp only [laws_eqBoolS.l0]
    rw [if_neg (by omega)]
  | succ d ih =>
    intro i k h1 hk
    obtain ⟨k, rfl⟩ : ∃ m, k = m + 1 := ⟨k - 1, by omega⟩
    simp only [laws_eqBoolS.l0]
    rw [if_pos (by omega), if_pos (by omega), if_pos (by omega), if_neg (by simp), i_succ i (by omega), ih (i + 1) k (by omega) (by omega)]
theorem eqBoolS (xs : List Bool) (hx : xs.length ≤ 1048576) : Ev (fun k => laws_eqBoolS.f k xs xs) true := by
  refine ⟨xs.length + 1, fun k hk => ?_⟩
  simp only [laws_eqBoolS.f, if_true]
  exact eqBoolS_l xs hx xs.length 0 k (by omega) (by omega)

theorem eqIntS_l (xs : List Int) (hx : xs.length ≤ 1048576) (d : Nat) : ∀ (i : Nat) (k : Nat), i + d = xs.length → d < k → laws_eqIntS.l0 k xs xs i = some true := by
  induction d with
  | zero =>
    intro i k h1 hk
    obtain ⟨k, rfl⟩ : ∃ m, k = m + 1 := ⟨k - 1, by omega⟩
    simp only [laws_eqIntS.l0]
    rw [if_neg (by omega)]
  | succ d ih =>
    intro i k h1 hk
    obtain ⟨k, rfl⟩ : ∃ m, k = m + 1 := ⟨k - 1, by omega⟩
    simp only [laws_eqIntS.l0]
    rw [if_pos (by omega), if_pos (by omega), if_pos (by omega), if_pos trivial, i_succ i (by omega), ih (i + 1) k (by omega) (by omega)]
theorem eqIntS (xs : List Int) (hx : xs.length ≤ 1048576) : Ev (fun k => laws_eqIntS.f k xs xs) true := by
  refine ⟨xs.length + 1, fun k hk => ?_⟩
  simp only [laws_eqIntS.f, if_true]
  exact eqIntS_l xs hx xs.length 0 k (by omega) (by omega)

theorem markIntS_l (xs : List Int) (hx : xs.length ≤ 1048576) (n : Int) (h0 : 0 ≤ n) (h1 : n ≤ 1073741824) (d : Nat) : ∀ (i : Nat) (k : Nat), i + d = xs.length → d < k →
    laws_markIntS.l0 k (marks id n i ++ xs.drop i) (n + i) i = some (n + xs.length, marks id n xs.length) := by
  induction d with
  | zero =>
    intro i k hi hk
    obtain ⟨k, rfl⟩ : ∃ m, k = m + 1 := ⟨k - 1, by omega⟩
    obtain rfl : i = xs.length := by omega
    simp only [laws_markIntS.l0]
    rw [if_neg (by simp [marks_length])]
    simp
  | succ d ih =>
    intro i k hi hk
    obtain ⟨k, rfl⟩ : ∃ m, k = m + 1 := ⟨k - 1, by omega⟩
    simp only [laws_markIntS.l0]
    rw [if_pos (by simp [marks_length]; omega), if_pos (by omega), Int.toNat_natCast, set_drop_step _ _ _ _ (by omega) (marks_length _ _ _), i_succ i (by omega), w64 (by omega) (by omega)]
    have e : marks id n i ++ [n + (i : Int)] = marks id n (i + 1) := (marks_snoc id i n).symm
    rw [e, show n + (i : Int) + 1 = n + ((i + 1 : Nat) : Int) by omega]
    exact ih (i + 1) k (by omega) (by omega)
theorem markIntS (xs : List Int) (hx : xs.length ≤ 1048576) (n : Int) (h0 : 0 ≤ n) (h1 : n ≤ 1073741824) : Ev (fun k => laws_markIntS.f k xs n) (n + xs.length, marks id n xs.length) := by
  refine ⟨xs.length + 1, fun k hk => ?_⟩
  simp only [laws_markIntS.f]
  have h := markIntS_l xs hx n h0 h1 xs.length 0 k (by omega) (by omega)
  simpa [marks] using h

theorem markBoolS_l (xs : List Bool) (hx : xs.length ≤ 1048576) (n : Int) (h0 : 0 ≤ n) (h1 : n ≤ 1073741824) (d : Nat) : ∀ (i : Nat) (k : Nat), i + d = xs.length → d < k →
    laws_markBoolS.l0 k (marks (fun z => (Int.tmod z 3) == 0) n i ++ xs.drop i) (n + i) i = some (n + xs.length, marks (fun z => (Int.tmod z 3) == 0) n xs.length) := by
  induction d with
  | zero =>
    intro i k hi hk
    obtain ⟨k, rfl⟩ : ∃ m, k = m + 1 := ⟨k - 1, by omega⟩
    obtain rfl : i = xs.length := by omega
    simp only [laws_markBoolS.l0]
    rw [if_neg (by simp [marks_length])]
    simp
  | succ d ih =>
    intro i k hi hk
    obtain ⟨k, rfl⟩ : ∃ m, k = m + 1 := ⟨k - 1, by omega⟩
    simp only [laws_markBoolS.l0]
    rw [if_pos (by simp [marks_length]; omega), if_pos (by omega), Int.toNat_natCast, set_drop_step _ _ _ _ (by omega) (marks_length _ _ _), i_succ i (by omega), w64 (by omega) (by omega)]
    have e : marks (fun z => (Int.tmod z 3) == 0) n i ++ [(Int.tmod (n + (i : Int)) 3) == 0] = marks (fun z => (Int.tmod z 3) == 0) n (i + 1) := (marks_snoc _ i n).symm
    rw [e, show n + (i : Int) + 1 = n + ((i + 1 : Nat) : Int) by omega]
    exact ih (i + 1) k (by omega) (by omega)
theorem markBoolS (xs : List Bool) (hx : xs.length ≤ 1048576) (n : Int) (h0 : 0 ≤ n) (h1 : n ≤ 1073741824) : Ev (fun k => laws_markBoolS.f k xs n) (n + xs.length, marks (fun z => (Int.tmod z 3) == 0) n xs.length) := by
  refine ⟨xs.length + 1, fun k hk => ?_⟩
  simp only [laws_markBoolS.f]
  have h := markBoolS_l xs hx n h0 h1 xs.length 0 k (by omega) (by omega)
  simpa [marks] using h

theorem heldBoolS_l (xs : List Bool) (hx : xs.length ≤ 1048576) (n : Int) (h0 : 0 ≤ n) (h1 : n ≤ 1073741824) (hg : ∀ (i : Nat) (h : i < xs.length), xs[i] = ((Int.tmod (n + i) 3) == 0)) (d : Nat) : ∀ (i : Nat) (k : Nat), i + d = xs.length → d < k →
    laws_heldBoolS.l0 k xs (n + i) i = some (n + xs.length) := by
  induction d with
  | zero =>
    intro i k hi hk
    obtain ⟨k, rfl⟩ : ∃ m, k = m + 1 := ⟨k - 1, by omega⟩
    obtain rfl : i = xs.length := by omega
    simp only [laws_heldBoolS.l0]
    rw [if_neg (by omega)]
  | succ d ih =>
    intro i k hi hk
    obtain ⟨k, rfl⟩ : ∃ m, k = m + 1 := ⟨k - 1, by omega⟩
    simp only [laws_heldBoolS.l0]
    rw [if_pos (by omega), if_pos (by omega), rdOf_at _ _ _ (by omega : i < xs.length), hg i (by omega), if_neg (by simp), i_succ i (by omega), w64 (by omega) (by omega)]
    have ih' := ih (i + 1) k (by omega) (by omega)
    rwa [show n + ((i + 1 : Nat) : Int) = n + (i : Int) + 1 by omega] at ih'
theorem heldBoolS (len : Nat) (hx : len ≤ 1048576) (n : Int) (h0 : 0 ≤ n) (h1 : n ≤ 1073741824) : Ev (fun k => laws_heldBoolS.f k (marks (fun z => (Int.tmod z 3) == 0) n len) n) (n + len) := by
  refine ⟨len + 1, fun k hk => ?_⟩
  simp only [laws_heldBoolS.f]
  have h := heldBoolS_l (marks (fun z => (Int.tmod z 3) == 0) n len) (by rw [marks_length]; exact hx) n h0 h1 (fun i h => marks_get _ len n i h) len 0 k (by rw [marks_length]; omega) (by omega)
  simpa [marks_length] using h

theorem rdT_at (xs : List S79) (i : Nat) (h : i < xs.length) : rd_T79 xs (i : Int) = xs[i] := by
  unfold rd_T79
  simp [h]
theorem eqSlotS_l (xs : List S79) (hx : xs.length ≤ 1048576) (d : Nat) : ∀ (i : Nat) (k : Nat), i + d = xs.length → d < k → laws_eqSlotS.l0 k xs xs i = some true := by
  induction d with
  | zero =>
    intro i k hi hk
    obtain ⟨k, rfl⟩ : ∃ m, k = m + 1 := ⟨k - 1, by omega⟩
    simp only [laws_eqSlotS.l0]
    rw [if_neg (by omega)]
  | succ d ih =>
    intro i k hi hk
    obtain ⟨k, rfl⟩ : ∃ m, k = m + 1 := ⟨k - 1, by omega⟩
    simp only [laws_eqSlotS.l0, laws_eqSlot.f]
    rw [if_pos (by omega), if_pos (by omega), if_pos (by omega), if_neg (by simp), if_pos (by trivial), if_pos (by trivial)]
    simp only [if_true, Option.bind_some]
    rw [i_succ i (by omega)]
    exact ih (i + 1) k (by omega) (by omega)
theorem eqSlotS (xs : List S79) (hx : xs.length ≤ 1048576) : Ev (fun k => laws_eqSlotS.f k xs xs) true := by
  simp only [laws_eqSlotS.f]
  refine Ev.iteT (by trivial) ⟨xs.length + 1, fun k hk => ?_⟩
  exact eqSlotS_l xs hx xs.length 0 k (by omega) (by omega)

theorem eqTable (s : Int) (a b : List S79) (m : Int) (ha : a.length ≤ 1048576) (hb : b.length ≤ 1048576) : Ev (fun k => laws_eqTable.f k s a b m s a b m) true := by
  simp only [laws_eqTable.f]
  exact Ev.iteT (by trivial) (Ev.bind (eqSlotS a ha) (Ev.iteT rfl (Ev.bind (eqSlotS b hb) (Ev.iteT rfl (Ev.iteT (by trivial) (Ev.now _))))))

/-- What a marking leaves in a slot. -/
def slotMark (n : Int) : Int → S79 := fun z => ⟨(Int.tmod (n + 3 * z) 3) == 0, n + 3 * z + 1, n + 3 * z + 2⟩
theorem set_three (xs : List S79) (i : Nat) (h : i < xs.length) (a : Bool) (b c : Int) :
    (((xs.set i ⟨a, (rd_T79 xs i).f1, (rd_T79 xs i).f2⟩).set i ⟨(rd_T79 (xs.set i ⟨a, (rd_T79 xs i).f1, (rd_T79 xs i).f2⟩) i).f0, b, (rd_T79 (xs.set i ⟨a, (rd_T79 xs i).f1, (rd_T79 xs i).f2⟩) i).f2⟩).set i
      ⟨(rd_T79 ((xs.set i ⟨a, (rd_T79 xs i).f1, (rd_T79 xs i).f2⟩).set i ⟨(rd_T79 (xs.set i ⟨a, (rd_T79 xs i).f1, (rd_T79 xs i).f2⟩) i).f0, b, (rd_T79 (xs.set i ⟨a, (rd_T79 xs i).f1, (rd_T79 xs i).f2⟩) i).f2⟩) i).f0,
       (rd_T79 ((xs.set i ⟨a, (rd_T79 xs i).f1, (rd_T79 xs i).f2⟩).set i ⟨(rd_T79 (xs.set i ⟨a, (rd_T79 xs i).f1, (rd_T79 xs i).f2⟩) i).f0, b, (rd_T79 (xs.set i ⟨a, (rd_T79 xs i).f1, (rd_T79 xs i).f2⟩) i).f2⟩) i).f1, c⟩) = xs.set i ⟨a, b, c⟩ := by
  have hr : ∀ (ys : List S79) (x : S79), i < ys.length → rd_T79 (ys.set i x) i = x := by
    intro ys x hy
    rw [rdT_at _ _ (by simpa using hy)]
    simp
  rw [hr xs _ h, hr _ _ (by simpa using h)]
  simp
theorem markSlotS_l (xs : List S79) (hx : xs.length ≤ 1048576) (n : Int) (h0 : 0 ≤ n) (h1 : n ≤ 1073741824) (d : Nat) : ∀ (i : Nat) (k : Nat), i + d = xs.length → d < k →
    laws_markSlotS.l0 k (marks (slotMark n) 0 i ++ xs.drop i) (n + 3 * i) i = some (n + 3 * xs.length, marks (slotMark n) 0 xs.length) := by
  induction d with
  | zero =>
    intro i k hi hk
    obtain ⟨k, rfl⟩ : ∃ m, k = m + 1 := ⟨k - 1, by omega⟩
    obtain rfl : i = xs.length := by omega
    simp only [laws_markSlotS.l0]
    rw [if_neg (by simp [marks_length])]
    simp
  | succ d ih =>
    intro i k hi hk
    obtain ⟨k, rfl⟩ : ∃ m, k = m + 1 := ⟨k - 1, by omega⟩
    simp only [laws_markSlotS.l0, Option.bind_some]
    rw [if_pos (by simp [marks_length]; omega), if_pos (by omega), Int.toNat_natCast, set_three _ i (by simp [marks_length]; omega), set_drop_step _ _ _ _ (by omega) (marks_length _ _ _), i_succ i (by omega), w64 (n := n + 3 * (i : Int) + 1) (by omega) (by omega), w64 (n := n + 3 * (i : Int) + 1 + 1) (by omega) (by omega), w64 (n := n + 3 * (i : Int) + 1 + 1 + 1) (by omega) (by omega)]
    have e : marks (slotMark n) 0 i ++ [(⟨(Int.tmod (n + 3 * (i : Int)) 3) == 0, n + 3 * (i : Int) + 1, n + 3 * (i : Int) + 1 + 1⟩ : S79)] = marks (slotMark n) 0 (i + 1) := by
      rw [marks_snoc]
      simp [slotMark, Int.add_assoc]
    rw [e, show n + 3 * (i : Int) + 1 + 1 + 1 = n + 3 * ((i + 1 : Nat) : Int) by omega]
    exact ih (i + 1) k (by omega) (by omega)
theorem markSlotS (xs : List S79) (hx : xs.length ≤ 1048576) (n : Int) (h0 : 0 ≤ n) (h1 : n ≤ 1073741824) : Ev (fun k => laws_markSlotS.f k xs n) (n + 3 * xs.length, marks (slotMark n) 0 xs.length) := by
  refine ⟨xs.length + 1, fun k hk => ?_⟩
  simp only [laws_markSlotS.f]
  have h := markSlotS_l xs hx n h0 h1 xs.length 0 k (by omega) (by omega)
  simpa [marks] using h

theorem heldSlotS_l (len : Nat) (hx : len ≤ 1048576) (n : Int) (h0 : 0 ≤ n) (h1 : n ≤ 1073741824) (d : Nat) : ∀ (i : Nat) (k : Nat), i + d = len → d < k →
    laws_heldSlotS.l0 k (marks (slotMark n) 0 len) (n + 3 * i) i = some (n + 3 * len) := by
  induction d with
  | zero =>
    intro i k hi hk
    obtain ⟨k, rfl⟩ : ∃ m, k = m + 1 := ⟨k - 1, by omega⟩
    simp only [laws_heldSlotS.l0]
    rw [if_neg (by simp [marks_length]; omega), show (i : Int) = (len : Int) by omega]
  | succ d ih =>
    intro i k hi hk
    obtain ⟨k, rfl⟩ : ∃ m, k = m + 1 := ⟨k - 1, by omega⟩
    have hil : i < (marks (slotMark n) 0 len).length := by rw [marks_length]; omega
    simp only [laws_heldSlotS.l0]
    rw [if_pos (by simp [marks_length]; omega), if_pos (by omega), rdT_at _ i hil, marks_get _ _ _ _ hil, i_succ i (by omega), w64 (n := n + 3 * (i : Int) + 1) (by omega) (by omega), w64 (n := n + 3 * (i : Int) + 1 + 1) (by omega) (by omega), w64 (n := n + 3 * (i : Int) + 1 + 1 + 1) (by omega) (by omega)]
    simp only [slotMark, Int.zero_add]
    rw [if_neg (by simp), if_pos (by trivial), if_pos (by omega)]
    have ih' := ih (i + 1) k (by omega) (by omega)
    rwa [show n + 3 * ((i + 1 : Nat) : Int) = n + 3 * (i : Int) + 1 + 1 + 1 by omega] at ih'
theorem heldSlotS (len : Nat) (hx : len ≤ 1048576) (n : Int) (h0 : 0 ≤ n) (h1 : n ≤ 1073741824) : Ev (fun k => laws_heldSlotS.f k (marks (slotMark n) 0 len) n) (n + 3 * len) := by
  refine ⟨len + 1, fun k hk => ?_⟩
  simp only [laws_heldSlotS.f]
  have h := heldSlotS_l len hx n h0 h1 len 0 k (by omega) (by omega)
  simpa using h

theorem markTable (s : Int) (a b : List S79) (m : Int) (ha : a.length ≤ 1000) (hb : b.length ≤ 1000) : Ev (fun k => laws_markTable.f k s a b m 1) (1 + 3 * a.length + 3 * b.length, marks (slotMark 1) 0 a.length, marks (slotMark (1 + 3 * a.length)) 0 b.length) := by
  simp only [laws_markTable.f]
  exact Ev.bind (markSlotS a (by omega) 1 (by omega) (by omega)) (Ev.bind (markSlotS b (by omega) _ (by simp only; omega) (by simp only; omega)) (Ev.now _))

theorem heldTable (s m : Int) (a b : Nat) (ha : a ≤ 1000) (hb : b ≤ 1000) : Ev (fun k => laws_heldTable.f k s (marks (slotMark 1) 0 a) (marks (slotMark (1 + 3 * a)) 0 b) m 1) (1 + 3 * a + 3 * b) := by
  simp only [laws_heldTable.f]
  exact Ev.bind (heldSlotS a (by omega) 1 (by omega) (by omega)) (Ev.iteF (by omega) (Ev.bind (heldSlotS b (by omega) _ (by omega) (by omega)) (Ev.iteF (by omega) (Ev.now _))))

/-- The two places of a key. -/
def pl1 (s key : Int) : Int := (key + s) % 11
def pl2 (s key : Int) : Int := (key / 11 + 3 * s) % 11
def isK (x : Int) : Prop := 0 ≤ x ∧ x ≤ 9999
/-- A row of eleven slots with keys. -/
def Row11 (l : List S79) : Prop := l.length = 11 ∧ ∀ i : Int, 0 ≤ i → i < 11 → isK (rd_T79 l i).f1
theorem tm1 (s key : Int) (hs : 0 ≤ s ∧ s ≤ 99) (hk : isK key) : Int.tmod (wrap64 (key + s)) 11 = pl1 s key ∧ 0 ≤ pl1 s key ∧ pl1 s key < 11 := by
  obtain ⟨h0, h1⟩ := hk
  unfold pl1
  rw [w64 (by omega) (by omega), Int.tmod_eq_emod_of_nonneg (by omega)]
  omega
theorem tm2 (s key : Int) (hs : 0 ≤ s ∧ s ≤ 99) (hk : isK key) : Int.tmod (wrap64 ((wrap64 (Int.tdiv key 11)) + (wrap64 (3 * s)))) 11 = pl2 s key ∧ 0 ≤ pl2 s key ∧ pl2 s key < 11 := by
  obtain ⟨h0, h1⟩ := hk
  unfold pl2
  rw [Int.tdiv_eq_ediv_of_nonneg h0, w64 (n := key / 11) (by omega) (by omega), w64 (n := 3 * s) (by omega) (by omega), w64 (by omega) (by omega), Int.tmod_eq_emod_of_nonneg (by omega)]
  omega
theorem Row11.set {l : List S79} (h : Row11 l) (i : Int) (h0 : 0 ≤ i) (h1 : i < 11) (x : S79) (hx : isK x.f1) : Row11 (l.set i.toNat x) := by
  refine ⟨by rw [List.length_set]; exact h.1, fun j j0 j1 => ?_⟩
  have hl := h.1
  obtain ⟨m, rfl⟩ : ∃ m : Nat, j = (m : Int) := ⟨j.toNat, by omega⟩
  rw [rdT_at _ m (by rw [List.length_set]; omega)]
  by_cases e : i.toNat = m
  · subst e
    simpa using hx
  · rw [List.getElem_set_ne e]
    have := h.2 (m : Int) j0 j1
    rwa [rdT_at _ m (by omega)] at this
theorem Row11.new : Row11 (List.replicate 11 z79) := by
  refine ⟨by simp, fun j j0 j1 => ?_⟩
  obtain ⟨m, rfl⟩ : ∃ m : Nat, j = (m : Int) := ⟨j.toNat, by omega⟩
  rw [rdT_at _ m (by simp; omega), List.getElem_replicate]
  simp [z79, isK]
def has (l : List S79) (p key : Int) : Bool := (rd_T79 l p).f0 && decide ((rd_T79 l p).f1 = key)
theorem specFirst (s key : Int) : spec_l12First.f s key = some (Int.tmod (wrap64 (key + s)) 11) := rfl
theorem specSecond (s key : Int) : spec_l12Second.f s key = some (Int.tmod (wrap64 ((wrap64 (Int.tdiv key 11)) + (wrap64 (3 * s)))) 11) := rfl
theorem specAt (s : Int) (a b : List S79) (m key : Int) (hs : 0 ≤ s ∧ s ≤ 99) (hk : isK key) (ha : Row11 a) (hb : Row11 b) :
    Ev (fun k => spec_l12At.f k s a b m key) (if has a (pl1 s key) key = true then (pl1 s key, false, true) else if has b (pl2 s key) key = true then (pl2 s key, true, true) else (0, false, false)) := by
  simp only [spec_l12At.f, specFirst, Option.bind_some]
  obtain ⟨e1, p0, p1⟩ := tm1 s key hs hk
  obtain ⟨e2, q0, q1⟩ := tm2 s key hs hk
  have la := ha.1
  have lb := hb.1
  rw [e1]
  refine Ev.iteT p0 (Ev.iteT (by omega) ?_)
  have second : Ev (fun k => spec_l12At.j0 k key (pl1 s key) false s a b m) (if has b (pl2 s key) key = true then (pl2 s key, true, true) else (0, false, false)) := by
    refine Ev.succ ?_
    simp only [spec_l12At.j0, specSecond, Option.bind_some]
    rw [e2]
    refine Ev.iteF (by decide) (Ev.iteT q0 (Ev.iteT (by omega) ?_))
    unfold has
    cases h1 : (rd_T79 b (pl2 s key)).f0 with
    | false => simp only [Bool.false_and, Bool.false_eq_true, if_false]; exact Ev.now _
    | true =>
      by_cases h2 : (rd_T79 b (pl2 s key)).f1 = key
      · simp only [h2, decide_true, Bool.and_self, if_true]; exact Ev.now _
      · simp only [h2, decide_false, Bool.and_false, Bool.false_eq_true, if_false, if_true]; exact Ev.now _
  cases h1 : (rd_T79 a (pl1 s key)).f0 with
  | false =>
    have hf : has a (pl1 s key) key = false := by simp [has, h1]
    simp only [hf, Bool.false_eq_true, if_false]
    exact second
  | true =>
    by_cases h2 : (rd_T79 a (pl1 s key)).f1 = key
    · have hf : has a (pl1 s key) key = true := by simp [has, h1, h2]
      simp only [hf, if_true]
      refine Ev.succ ?_
      simp only [spec_l12At.j0, h2, beq_self_eq_true, if_true]
      exact Ev.now _
    · have hf : has a (pl1 s key) key = false := by simp [has, h2]
      have hb' : ((rd_T79 a (pl1 s key)).f1 == key) = false := by simpa using h2
      simp only [hf, hb', Bool.false_eq_true, if_false, if_true]
      exact second
theorem implFind (s : Int) (a b : List S79) (key : Int) (hs : 0 ≤ s ∧ s ≤ 99) (hk : isK key) (ha : Row11 a) (hb : Row11 b) :
    impl_Table_find.f s a b key = some (if has a (pl1 s key) key = true then (1, pl1 s key) else if has b (pl2 s key) key = true then (2, pl2 s key) else (0, 0)) := by
  obtain ⟨e1, p0, p1⟩ := tm1 s key hs hk
  obtain ⟨e2, q0, q1⟩ := tm2 s key hs hk
  have la := ha.1
  have lb := hb.1
  simp only [impl_Table_find.f, impl_placesOf.f, Option.bind_some]
  rw [e1, e2, if_pos ⟨⟨p0, by omega⟩, q0, by omega⟩]
  simp only [has, Bool.and_eq_true, decide_eq_true_eq]
  split
  · rfl
  · split <;> rfl
theorem implOwn (s : Int) (a b : List S79) (m : Int) (ha : a.length = 11) (hb : b.length = 11) : impl_ownTable.f s a b m = some (s, a, b, m) := by
  simp only [impl_ownTable.f, impl_Slot.f, Option.bind_some]
  rw [if_pos (by simp; omega)]
  simp only [Option.bind_some]
  rw [if_pos (by simp; omega)]
  simp
theorem specOwn (s : Int) (a b : List S79) (m : Int) (ha : a.length = 11) (hb : b.length = 11) : spec_l12Own.f s a b m = some (s, a, b, m) := by
  simp only [spec_l12Own.f, Option.bind_some]
  rw [if_pos (by simp; omega)]
  try simp only [Option.bind_some]
  rw [if_pos (by simp; omega)]
  simp
/-- The kicks: the rows behind them, how many were moved, and whether there were few enough. -/
def kick (s : Int) : Nat → Int → List S79 → List S79 → S79 → List S79 × List S79 × Int × Bool
  | 0, _, a, b, _ => (a, b, 0, false)
  | d + 1, x, a, b, c => if x % 2 = 1 then (if (rd_T79 b (pl2 s c.f1)).f0 = true then kick s d (x + 1) a (b.set (pl2 s c.f1).toNat c) (rd_T79 b (pl2 s c.f1)) else (a, b.set (pl2 s c.f1).toNat c, x, true))
    else (if (rd_T79 a (pl1 s c.f1)).f0 = true then kick s d (x + 1) (a.set (pl1 s c.f1).toNat c) b (rd_T79 a (pl1 s c.f1)) else (a.set (pl1 s c.f1).toNat c, b, x, true))
theorem kick_inv (s : Int) (hs : 0 ≤ s ∧ s ≤ 99) (d : Nat) : ∀ (x : Int) (a b : List S79) (c : S79), Row11 a → Row11 b → isK c.f1 → Row11 (kick s d x a b c).1 ∧ Row11 (kick s d x a b c).2.1 := by
  induction d with
  | zero => intro x a b c ha hb _; exact ⟨ha, hb⟩
  | succ d ih =>
    intro x a b c ha hb hc
    obtain ⟨_, p0, p1⟩ := tm1 s c.f1 hs hc
    obtain ⟨_, q0, q1⟩ := tm2 s c.f1 hs hc
    simp only [kick]
    split
    · split
      · exact ih _ _ _ _ ha (hb.set _ q0 q1 c hc) (hb.2 _ q0 q1)
      · exact ⟨ha, hb.set _ q0 q1 c hc⟩
    · split
      · exact ih _ _ _ _ (ha.set _ p0 p1 c hc) hb (ha.2 _ p0 p1)
      · exact ⟨ha.set _ p0 p1 c hc, hb⟩
theorem implKick (s o1 o4 : Int) (hs : 0 ≤ s ∧ s ≤ 99) (d : Nat) : ∀ (x : Int) (a b : List S79) (c : S79), 0 ≤ x → x + d = 25 → Row11 a → Row11 b → isK c.f1 →
    Ev (fun k => impl_put.l0 k x s a b c.f0 c.f1 c.f2 o1 o4) (if (kick s d x a b c).2.2.2 = true then (o1, (kick s d x a b c).1, (kick s d x a b c).2.1, wrap64 (o4 + 1), (kick s d x a b c).2.2.1, true) else (0, [], [], 0, 0, false)) := by
  induction d with
  | zero =>
    intro x a b c h0 hd _ _ _
    refine Ev.succ ?_
    simp only [impl_put.l0, kick, Bool.false_eq_true, if_false]
    exact Ev.iteF (by omega) (Ev.now _)
  | succ d ih =>
    intro x a b c h0 hd ha hb hc
    obtain ⟨e1, p0, p1⟩ := tm1 s c.f1 hs hc
    obtain ⟨e2, q0, q1⟩ := tm2 s c.f1 hs hc
    have la := ha.1
    have lb := hb.1
    refine Ev.succ ?_
    simp only [impl_put.l0, impl_placesOf.f, Option.bind_some, kick]
    rw [e1, e2, w64 (n := x + 1) (by omega) (by omega), Int.tmod_eq_emod_of_nonneg h0]
    refine Ev.iteT (by omega) (Ev.iteT ⟨⟨p0, by omega⟩, q0, by omega⟩ ?_)
    by_cases hx : x % 2 = 1
    · simp only [if_pos hx]
      by_cases hf : (rd_T79 b (pl2 s c.f1)).f0 = true
      · simp only [if_pos hf]
        exact ih (x + 1) a (b.set (pl2 s c.f1).toNat c) (rd_T79 b (pl2 s c.f1)) (by omega) (by omega) ha (hb.set _ q0 q1 c hc) (hb.2 _ q0 q1)
      · simp only [if_neg hf, if_true]
        exact Ev.now _
    · simp only [if_neg hx]
      by_cases hf : (rd_T79 a (pl1 s c.f1)).f0 = true
      · simp only [if_pos hf]
        exact ih (x + 1) (a.set (pl1 s c.f1).toNat c) b (rd_T79 a (pl1 s c.f1)) (by omega) (by omega) (ha.set _ p0 p1 c hc) hb (ha.2 _ p0 p1)
      · simp only [if_neg hf, if_true]
        exact Ev.now _
theorem specKick (s m : Int) (hs : 0 ≤ s ∧ s ≤ 99) (d : Nat) : ∀ (x : Int) (a b : List S79) (c : S79), 0 ≤ x → x + d = 25 → Row11 a → Row11 b → isK c.f1 →
    Ev (fun k => spec_l12Put.l0 k x s a b m c.f0 c.f1 c.f2) (s, (kick s d x a b c).1, (kick s d x a b c).2.1, m, (kick s d x a b c).2.2.1, (kick s d x a b c).2.2.2) := by
  induction d with
  | zero =>
    intro x a b c h0 hd _ _ _
    refine Ev.succ ?_
    simp only [spec_l12Put.l0, kick]
    exact Ev.iteF (by omega) (Ev.now _)
  | succ d ih =>
    intro x a b c h0 hd ha hb hc
    obtain ⟨e1, p0, p1⟩ := tm1 s c.f1 hs hc
    obtain ⟨e2, q0, q1⟩ := tm2 s c.f1 hs hc
    have la := ha.1
    have lb := hb.1
    refine Ev.succ ?_
    simp only [spec_l12Put.l0, specFirst, specSecond, Option.bind_some, kick]
    rw [e1, e2, w64 (n := x + 1) (by omega) (by omega), Int.tmod_eq_emod_of_nonneg h0]
    refine Ev.iteT (by omega) ?_
    by_cases hx : x % 2 = 1
    · simp only [if_pos hx]
      refine Ev.iteF (by omega) (Ev.iteT q0 (Ev.iteT (by omega) ?_))
      by_cases hf : (rd_T79 b (pl2 s c.f1)).f0 = true
      · simp only [if_pos hf]
        exact ih (x + 1) a (b.set (pl2 s c.f1).toNat c) (rd_T79 b (pl2 s c.f1)) (by omega) (by omega) ha (hb.set _ q0 q1 c hc) (hb.2 _ q0 q1)
      · simp only [if_neg hf]
        exact Ev.now _
    · simp only [if_neg hx]
      refine Ev.iteT (by omega) (Ev.iteT p0 (Ev.iteT (by omega) ?_))
      by_cases hf : (rd_T79 a (pl1 s c.f1)).f0 = true
      · simp only [if_pos hf]
        exact ih (x + 1) (a.set (pl1 s c.f1).toNat c) b (rd_T79 a (pl1 s c.f1)) (by omega) (by omega) (ha.set _ p0 p1 c hc) hb (ha.2 _ p0 p1)
      · simp only [if_neg hf]
        exact Ev.now _
/-- What putting a key tells: the rows, how many, how many were moved, and whether it could be. -/
def putT (s : Int) (a b : List S79) (m key v : Int) : List S79 × List S79 × Int × Int × Bool :=
  if has a (pl1 s key) key = true then (a.set (pl1 s key).toNat ⟨(rd_T79 a (pl1 s key)).f0, (rd_T79 a (pl1 s key)).f1, v⟩, b, m, 0, true)
  else if has b (pl2 s key) key = true then (a, b.set (pl2 s key).toNat ⟨(rd_T79 b (pl2 s key)).f0, (rd_T79 b (pl2 s key)).f1, v⟩, m, 0, true)
  else ((kick s 25 0 a b ⟨true, key, v⟩).1, (kick s 25 0 a b ⟨true, key, v⟩).2.1, wrap64 (m + 1), (kick s 25 0 a b ⟨true, key, v⟩).2.2.1, (kick s 25 0 a b ⟨true, key, v⟩).2.2.2)
theorem putT_inv (s : Int) (a b : List S79) (m key v : Int) (hs : 0 ≤ s ∧ s ≤ 99) (hk : isK key) (ha : Row11 a) (hb : Row11 b) : Row11 (putT s a b m key v).1 ∧ Row11 (putT s a b m key v).2.1 := by
  obtain ⟨_, p0, p1⟩ := tm1 s key hs hk
  obtain ⟨_, q0, q1⟩ := tm2 s key hs hk
  unfold putT
  split
  · exact ⟨ha.set _ p0 p1 _ (ha.2 _ p0 p1), hb⟩
  · split
    · exact ⟨ha, hb.set _ q0 q1 _ (hb.2 _ q0 q1)⟩
    · exact kick_inv s hs 25 0 a b ⟨true, key, v⟩ ha hb hk
theorem implPutT (s : Int) (a b : List S79) (m key v : Int) (hs : 0 ≤ s ∧ s ≤ 99) (hk : isK key) (ha : Row11 a) (hb : Row11 b) :
    Ev (fun k => impl_put.f k s a b m key v) (if (putT s a b m key v).2.2.2.2 = true then (s, (putT s a b m key v).1, (putT s a b m key v).2.1, (putT s a b m key v).2.2.1, (putT s a b m key v).2.2.2.1, true) else (0, [], [], 0, 0, false)) := by
  simp only [impl_put.f, implOwn s a b m ha.1 hb.1, Option.bind_some, implFind s a b key hs hk ha hb]
  unfold putT
  by_cases h1 : has a (pl1 s key) key = true
  · simp only [if_pos h1, if_true]
    exact Ev.now _
  · by_cases h2 : has b (pl2 s key) key = true
    · simp only [if_neg h1, if_pos h2, if_true, show ¬ ((2 : Int) = 1) by decide, if_false]
      exact Ev.now _
    · simp only [if_neg h1, if_neg h2, show ¬ ((0 : Int) = 1) by decide, show ¬ ((0 : Int) = 2) by decide, if_false]
      exact implKick s s m hs 25 0 a b ⟨true, key, v⟩ (by omega) (by omega) ha hb hk
theorem specPutT (s : Int) (a b : List S79) (m key v : Int) (hs : 0 ≤ s ∧ s ≤ 99) (hk : isK key) (ha : Row11 a) (hb : Row11 b) :
    Ev (fun k => spec_l12Put.f k s a b m key v) (s, putT s a b m key v) := by
  simp only [spec_l12Put.f]
  obtain ⟨_, p0, p1⟩ := tm1 s key hs hk
  obtain ⟨_, q0, q1⟩ := tm2 s key hs hk
  have la := ha.1
  have lb := hb.1
  refine Ev.bind (specAt s a b m key hs hk ha hb) ?_
  unfold putT
  by_cases h1 : has a (pl1 s key) key = true
  · simp only [if_pos h1, if_true, Bool.false_eq_true, if_false]
    exact Ev.iteT p0 (Ev.iteT (by omega) (Ev.now _))
  · by_cases h2 : has b (pl2 s key) key = true
    · simp only [if_neg h1, if_pos h2, if_true]
      exact Ev.iteT q0 (Ev.iteT (by omega) (Ev.now _))
    · simp only [if_neg h1, if_neg h2, Bool.false_eq_true, if_false]
      exact specKick s (wrap64 (m + 1)) hs 25 0 a b ⟨true, key, v⟩ (by omega) (by omega) ha hb hk

def dropT (s : Int) (a b : List S79) (m key : Int) : List S79 × List S79 × Int × Bool :=
  if has a (pl1 s key) key = true then (a.set (pl1 s key).toNat ⟨false, 0, 0⟩, b, wrap64 (m - 1), true)
  else if has b (pl2 s key) key = true then (a, b.set (pl2 s key).toNat ⟨false, 0, 0⟩, wrap64 (m - 1), true)
  else (a, b, m, false)
theorem dropT_inv (s : Int) (a b : List S79) (m key : Int) (hs : 0 ≤ s ∧ s ≤ 99) (hk : isK key) (ha : Row11 a) (hb : Row11 b) : Row11 (dropT s a b m key).1 ∧ Row11 (dropT s a b m key).2.1 := by
  obtain ⟨_, p0, p1⟩ := tm1 s key hs hk
  obtain ⟨_, q0, q1⟩ := tm2 s key hs hk
  unfold dropT
  split
  · exact ⟨ha.set _ p0 p1 _ (by simp [isK]), hb⟩
  · split
    · exact ⟨ha, hb.set _ q0 q1 _ (by simp [isK])⟩
    · exact ⟨ha, hb⟩
theorem implDropT (s : Int) (a b : List S79) (m key : Int) (hs : 0 ≤ s ∧ s ≤ 99) (hk : isK key) (ha : Row11 a) (hb : Row11 b) :
    impl_drop.f s a b m key = some (if (dropT s a b m key).2.2.2 = true then (s, (dropT s a b m key).1, (dropT s a b m key).2.1, (dropT s a b m key).2.2.1, true) else (0, [], [], 0, false)) := by
  simp only [impl_drop.f, implOwn s a b m ha.1 hb.1, Option.bind_some, implFind s a b key hs hk ha hb]
  unfold dropT
  by_cases h1 : has a (pl1 s key) key = true
  · simp only [if_pos h1, if_true]
  · by_cases h2 : has b (pl2 s key) key = true
    · simp only [if_neg h1, if_pos h2, if_true, show ¬ ((2 : Int) = 1) by decide, if_false]
    · simp only [if_neg h1, if_neg h2, show ¬ ((0 : Int) = 1) by decide, show ¬ ((0 : Int) = 2) by decide, Bool.false_eq_true, if_false]
theorem specDropT (s : Int) (a b : List S79) (m key : Int) (hs : 0 ≤ s ∧ s ≤ 99) (hk : isK key) (ha : Row11 a) (hb : Row11 b) :
    Ev (fun k => spec_l12Drop.f k s a b m key) (s, dropT s a b m key) := by
  simp only [spec_l12Drop.f]
  obtain ⟨_, p0, p1⟩ := tm1 s key hs hk
  obtain ⟨_, q0, q1⟩ := tm2 s key hs hk
  have la := ha.1
  have lb := hb.1
  refine Ev.bind (specAt s a b m key hs hk ha hb) ?_
  unfold dropT
  by_cases h1 : has a (pl1 s key) key = true
  · simp only [if_pos h1, if_true, Bool.false_eq_true, if_false]
    exact Ev.iteT p0 (Ev.iteT (by omega) (Ev.now _))
  · by_cases h2 : has b (pl2 s key) key = true
    · simp only [if_neg h1, if_pos h2, if_true]
      exact Ev.iteT q0 (Ev.iteT (by omega) (Ev.now _))
    · simp only [if_neg h1, if_neg h2, Bool.false_eq_true, if_false]
      exact Ev.now _

/-- A number that may stand in a list of puts and drops. -/
def inR (n : Int) : Bool := decide (-10000 ≤ n ∧ n ≤ 9999)
/-- The puts and drops of a list from a place on: the rows, how many, and what was done. -/
def play (s : Int) : List Int → Nat → List S79 → List S79 → Int → List Bool → List S79 × List S79 × Int × List Bool
  | [], _, a, b, m, o => (a, b, m, o)
  | n :: t, i, a, b, m, o => if n ≥ 0 then (if (putT s a b m n i).2.2.2.2 = true then play s t (i + 1) (putT s a b m n i).1 (putT s a b m n i).2.1 (putT s a b m n i).2.2.1 (o ++ [true]) else play s t (i + 1) a b m (o ++ [false]))
    else (if (dropT s a b m (-1 - n)).2.2.2 = true then play s t (i + 1) (dropT s a b m (-1 - n)).1 (dropT s a b m (-1 - n)).2.1 (dropT s a b m (-1 - n)).2.2.1 (o ++ [true]) else play s t (i + 1) a b m (o ++ [false]))
theorem inR_iff (n : Int) : inR n = true ↔ -10000 ≤ n ∧ n ≤ 9999 := by simp [inR]
theorem play_inv (s : Int) (hs : 0 ≤ s ∧ s ≤ 99) (l : List Int) : ∀ (i : Nat) (a b : List S79) (m : Int) (o : List Bool), (l.all inR) = true → Row11 a → Row11 b →
    Row11 (play s l i a b m o).1 ∧ Row11 (play s l i a b m o).2.1 ∧ (play s l i a b m o).2.2.2.length = o.length + l.length := by
  induction l with
  | nil => intro i a b m o _ ha hb; exact ⟨ha, hb, by simp [play]⟩
  | cons n t ih =>
    intro i a b m o hl ha hb
    rw [List.all_cons, Bool.and_eq_true] at hl
    obtain ⟨hn, ht⟩ := hl
    rw [inR_iff] at hn
    simp only [play, List.length_cons]
    split
    · rename_i h0
      have hv := putT_inv s a b m n i hs ⟨h0, by omega⟩ ha hb
      split
      · have h := ih (i + 1) _ _ (putT s a b m n i).2.2.1 (o ++ [true]) ht hv.1 hv.2
        exact ⟨h.1, h.2.1, by rw [h.2.2]; simp; omega⟩
      · have h := ih (i + 1) a b m (o ++ [false]) ht ha hb
        exact ⟨h.1, h.2.1, by rw [h.2.2]; simp; omega⟩
    · rename_i h0
      have hv := dropT_inv s a b m (-1 - n) hs ⟨by omega, by omega⟩ ha hb
      split
      · have h := ih (i + 1) _ _ (dropT s a b m (-1 - n)).2.2.1 (o ++ [true]) ht hv.1 hv.2
        exact ⟨h.1, h.2.1, by rw [h.2.2]; simp; omega⟩
      · have h := ih (i + 1) a b m (o ++ [false]) ht ha hb
        exact ⟨h.1, h.2.1, by rw [h.2.2]; simp; omega⟩
theorem specIn (n : Int) : spec_l1In.f n (-10000) 9999 = some (inR n) := by
  unfold spec_l1In.f inR
  by_cases h : n ≥ -10000
  · rw [if_pos h]
    congr 1
    simp
    omega
  · rw [if_neg h]
    congr 1
    simp
    omega
theorem implIn (n : Int) : impl_within.f n (-10000) 9999 = some (inR n) := specIn n
theorem specPlay_l (s : Int) (hs : 0 ≤ s ∧ s ≤ 99) (l : List Int) (hl : l.length ≤ 80) (d : Nat) : ∀ (i : Nat) (a b : List S79) (m : Int) (o : List Bool), i + d = l.length → o.length = i → Row11 a → Row11 b →
    Ev (fun k => spec_PlayTable.l0 k o l l.length i s a b m) (if ((l.drop i).all inR) = true then (s, (play s (l.drop i) i a b m o).1, (play s (l.drop i) i a b m o).2.1, (play s (l.drop i) i a b m o).2.2.1, (play s (l.drop i) i a b m o).2.2.2, true) else (0, [], [], 0, [], false)) := by
  induction d with
  | zero =>
    intro i a b m o hi ho ha hb
    refine Ev.succ ?_
    simp only [spec_PlayTable.l0]
    rw [List.drop_of_length_le (by omega)]
    simp only [List.all_nil, if_true, play]
    exact Ev.iteF (by omega) (Ev.now _)
  | succ d ih =>
    intro i a b m o hi ho ha hb
    refine Ev.succ ?_
    simp only [spec_PlayTable.l0]
    rw [drop_cons l i (by omega), rd_at _ _ (by omega : i < l.length), specIn, i_succ i (by omega)]
    generalize hn : l[i]'(by omega) = n
    simp only [Option.bind_some, List.all_cons, play]
    refine Ev.iteT (by omega) (Ev.iteT (by omega) (Ev.iteT (by omega) ?_))
    by_cases hr : inR n = true
    · have hr' := (inR_iff n).1 hr
      simp only [hr, Bool.true_and, specOwn s a b m ha.1 hb.1, Option.bind_some, if_true]
      by_cases h0 : n ≥ 0
      · simp only [if_pos h0]
        have hv := putT_inv s a b m n i hs ⟨h0, by omega⟩ ha hb
        refine Ev.bind (specPutT s a b m n i hs ⟨h0, by omega⟩ ha hb) ?_
        by_cases hf : (putT s a b m n i).2.2.2.2 = true
        · simp only [hf, if_true]
          exact Ev.iteT (by omega) (ih (i + 1) _ _ _ _ (by omega) (by simp [ho]) hv.1 hv.2)
        · have hf' : (putT s a b m n i).2.2.2.2 = false := by simpa using hf
          simp only [hf', Bool.false_eq_true, if_false]
          exact Ev.iteT (by omega) (ih (i + 1) _ _ _ _ (by omega) (by simp [ho]) ha hb)
      · simp only [if_neg h0]
        rw [w64 (n := -1 - n) (by omega) (by omega)]
        have hv := dropT_inv s a b m (-1 - n) hs ⟨by omega, by omega⟩ ha hb
        refine Ev.bind (specDropT s a b m (-1 - n) hs ⟨by omega, by omega⟩ ha hb) ?_
        by_cases hf : (dropT s a b m (-1 - n)).2.2.2 = true
        · simp only [hf, if_true]
          exact Ev.iteT (by omega) (ih (i + 1) _ _ _ _ (by omega) (by simp [ho]) hv.1 hv.2)
        · have hf' : (dropT s a b m (-1 - n)).2.2.2 = false := by simpa using hf
          simp only [hf', Bool.false_eq_true, if_false]
          exact Ev.iteT (by omega) (ih (i + 1) _ _ _ _ (by omega) (by simp [ho]) ha hb)
    · have hr' : inR n = false := by simpa using hr
      simp only [hr', Bool.false_and, Bool.false_eq_true, if_false]
      exact Ev.now _
theorem implPlay_l (s : Int) (hs : 0 ≤ s ∧ s ≤ 99) (l : List Int) (hl : l.length ≤ 80) (hall : l.all inR = true) (d : Nat) : ∀ (i : Nat) (a b : List S79) (m : Int) (o : List Bool), i + d = l.length → o.length = i → Row11 a → Row11 b →
    Ev (fun k => impl_PlayTable.l0 k o l l.length i s a b m) (s, (play s (l.drop i) i a b m o).1, (play s (l.drop i) i a b m o).2.1, (play s (l.drop i) i a b m o).2.2.1, (play s (l.drop i) i a b m o).2.2.2, true) := by
  induction d with
  | zero =>
    intro i a b m o hi ho ha hb
    refine Ev.succ ?_
    simp only [impl_PlayTable.l0]
    rw [List.drop_of_length_le (by omega)]
    simp only [play]
    exact Ev.iteF (by omega) (Ev.now _)
  | succ d ih =>
    intro i a b m o hi ho ha hb
    refine Ev.succ ?_
    simp only [impl_PlayTable.l0]
    have hr : inR (l[i]'(by omega)) = true := List.all_eq_true.mp hall _ (List.getElem_mem _)
    rw [drop_cons l i (by omega), rd_at _ _ (by omega : i < l.length), i_succ i (by omega)]
    generalize hn : l[i]'(by omega) = n at *
    have hr' := (inR_iff n).1 hr
    simp only [play]
    refine Ev.iteT (by omega) (Ev.iteT (by omega) (Ev.iteT (by omega) ?_))
    by_cases h0 : n ≥ 0
    · simp only [if_pos h0]
      have hv := putT_inv s a b m n i hs ⟨h0, by omega⟩ ha hb
      refine Ev.bind (implPutT s a b m n i hs ⟨h0, by omega⟩ ha hb) ?_
      by_cases hf : (putT s a b m n i).2.2.2.2 = true
      · simp only [hf, if_true]
        exact Ev.iteT (by omega) (ih (i + 1) _ _ _ _ (by omega) (by simp [ho]) hv.1 hv.2)
      · have hf' : (putT s a b m n i).2.2.2.2 = false := by simpa using hf
        simp only [hf', Bool.false_eq_true, if_false]
        exact Ev.iteT (by omega) (ih (i + 1) _ _ _ _ (by omega) (by simp [ho]) ha hb)
    · simp only [if_neg h0]
      rw [w64 (n := -1 - n) (by omega) (by omega), implDropT s a b m (-1 - n) hs ⟨by omega, by omega⟩ ha hb]
      simp only [Option.bind_some]
      have hv := dropT_inv s a b m (-1 - n) hs ⟨by omega, by omega⟩ ha hb
      by_cases hf : (dropT s a b m (-1 - n)).2.2.2 = true
      · simp only [hf, if_true]
        exact Ev.iteT (by omega) (ih (i + 1) _ _ _ _ (by omega) (by simp [ho]) hv.1 hv.2)
      · have hf' : (dropT s a b m (-1 - n)).2.2.2 = false := by simpa using hf
        simp only [hf', Bool.false_eq_true, if_false]
        exact Ev.iteT (by omega) (ih (i + 1) _ _ _ _ (by omega) (by simp [ho]) ha hb)
def isSd (s : Int) : Bool := decide (0 ≤ s ∧ s ≤ 99)
theorem isSd_iff (s : Int) : isSd s = true ↔ 0 ≤ s ∧ s ≤ 99 := by simp [isSd]
theorem seedIn (s : Int) : spec_l1In.f s 0 99 = some (isSd s) := by
  unfold spec_l1In.f isSd
  by_cases h : s ≥ 0
  · rw [if_pos h]
    congr 1
    simp
    omega
  · rw [if_neg h]
    congr 1
    simp
    omega
theorem specSeed (s : Int) : spec_l12Seed.f s = some (isSd s) := by simp only [spec_l12Seed.f, seedIn, Option.bind_some]
theorem implSeed (s : Int) : impl_isSeed.f s = some (isSd s) := by
  have h : impl_within.f s 0 99 = some (isSd s) := seedIn s
  simp only [impl_isSeed.f, h, Option.bind_some]
theorem contains_l (l : List Int) (hl : l.length ≤ 80) (d : Nat) : ∀ (i : Nat), i + d = l.length → ∃ r : Int, Ev (fun k => slices_IndexFunc_int_int.l0 k l l.length i) r ∧ (decide (r ≥ 0) = !((l.drop i).all inR)) := by
  induction d with
  | zero =>
    intro i hi
    refine ⟨-1, Ev.succ ?_, by rw [List.drop_of_length_le (by omega)]; simp⟩
    simp only [slices_IndexFunc_int_int.l0]
    exact Ev.iteF (by omega) (Ev.now _)
  | succ d ih =>
    intro i hi
    obtain ⟨r, hr, hq⟩ := ih (i + 1) (by omega)
    have hf : impl_PlayTable_1.f (l[i]'(by omega)) = some (!(inR (l[i]'(by omega)))) := by
      simp only [impl_PlayTable_1.f, implIn, Option.bind_some]
      try cases inR (l[i]'(by omega)) <;> rfl
    rw [drop_cons l i (by omega)]
    by_cases h : inR (l[i]'(by omega)) = true
    · refine ⟨r, Ev.succ ?_, by rw [hq, List.all_cons, h, Bool.true_and]⟩
      simp only [slices_IndexFunc_int_int.l0]
      rw [rd_at _ _ (by omega : i < l.length), hf, i_succ i (by omega)]
      simp only [h, Option.bind_some]
      exact Ev.iteT (by omega) (Ev.iteT (by omega) (Ev.iteT (by omega) (Ev.iteF (by decide) hr)))
    · have h' : inR (l[i]'(by omega)) = false := by simpa using h
      refine ⟨i, Ev.succ ?_, by rw [List.all_cons, h', Bool.false_and, Bool.not_false]; exact decide_eq_true (by omega)⟩
      simp only [slices_IndexFunc_int_int.l0]
      rw [rd_at _ _ (by omega : i < l.length), hf]
      simp only [h', Option.bind_some]
      exact Ev.iteT (by omega) (Ev.iteT (by omega) (Ev.iteT (by omega) (Ev.iteT (by decide) (Ev.now _))))
theorem contains (l : List Int) (hl : l.length ≤ 80) (z : Int) : Ev (fun k => slices_ContainsFunc_int_int.f k l z) (!(l.all inR)) := by
  simp only [slices_ContainsFunc_int_int.f, slices_IndexFunc_int_int.f]
  obtain ⟨r, hr, hq⟩ := contains_l l hl l.length 0 (by omega)
  refine Ev.bind hr ?_
  simp only [hq, List.drop_zero]
  exact Ev.now _
/-- What the puts and drops of a list tell. -/
def playTold (s : Int) (l : List Int) : Int × List S79 × List S79 × Int × List Bool × Bool :=
  if isSd s = true ∧ l.length ≤ 80 ∧ l.all inR = true then (s, (play s l 0 (List.replicate 11 z79) (List.replicate 11 z79) 0 []).1, (play s l 0 (List.replicate 11 z79) (List.replicate 11 z79) 0 []).2.1, (play s l 0 (List.replicate 11 z79) (List.replicate 11 z79) 0 []).2.2.1, (play s l 0 (List.replicate 11 z79) (List.replicate 11 z79) 0 []).2.2.2, true) else (0, [], [], 0, [], false)
theorem playTold_len (s : Int) (l : List Int) : (playTold s l).2.1.length ≤ 11 ∧ (playTold s l).2.2.1.length ≤ 11 ∧ (playTold s l).2.2.2.2.1.length ≤ 80 := by
  unfold playTold
  split
  · rename_i h
    have hv := play_inv s ((isSd_iff s).1 h.1) l 0 _ _ 0 [] h.2.2 Row11.new Row11.new
    refine ⟨by simp only; have := hv.1.1; omega, by simp only; have := hv.2.1.1; omega, by simp only; rw [hv.2.2]; simp; omega⟩
  · simp
theorem specPlay (s : Int) (l : List Int) : Ev (fun k => spec_PlayTable.f k s l) (playTold s l) := by
  simp only [spec_PlayTable.f, specSeed, Option.bind_some]
  unfold playTold
  by_cases h1 : isSd s = true
  · refine Ev.iteT h1 (Ev.succ ?_)
    simp only [spec_PlayTable.j0, spec_l12New.f]
    by_cases h2 : l.length ≤ 80
    · have e : decide ((l.length : Int) > 80) = false := by simp; omega
      simp only [e, h1, h2, true_and, Bool.false_eq_true, if_false]
      refine Ev.bind0 (x := (s, List.replicate 11 z79, List.replicate 11 z79, 0)) (by rw [if_pos (by decide)]) ?_
      have h := specPlay_l s ((isSd_iff s).1 h1) l h2 l.length 0 _ _ 0 [] (by omega) rfl Row11.new Row11.new
      simpa using h
    · have e : decide ((l.length : Int) > 80) = true := by simp; omega
      simp only [e, h2, false_and, and_false, if_true, if_false]
      exact Ev.now _
  · have h1' : isSd s = false := by simpa using h1
    simp only [h1', Bool.false_eq_true, if_false, false_and]
    refine Ev.succ ?_
    simp only [spec_PlayTable.j0, if_true]
    exact Ev.now _
theorem implPlay (s : Int) (l : List Int) : Ev (fun k => impl_PlayTable.f k s l) (playTold s l) := by
  simp only [impl_PlayTable.f, impl_NewTable.f, implSeed, Option.bind_some]
  unfold playTold
  by_cases h1 : isSd s = true
  · simp only [h1, if_true, true_and]
    refine Ev.bind0 (x := (s, List.replicate 11 z79, List.replicate 11 z79, 0, true)) (by rw [if_pos (by decide)]) ?_
    simp only [if_true]
    by_cases h2 : l.length ≤ 80
    · refine Ev.iteF (by omega) (Ev.bind (contains l h2 _) (Ev.succ ?_))
      simp only [impl_PlayTable.j0]
      by_cases h3 : l.all inR = true
      · simp only [h2, h3, and_self, if_true, Bool.not_true, Bool.false_eq_true, if_false]
        have h := implPlay_l s ((isSd_iff s).1 h1) l h2 h3 l.length 0 _ _ 0 [] (by omega) rfl Row11.new Row11.new
        simpa using h
      · have h3' : l.all inR = false := by simpa using h3
        simp only [h3', Bool.not_false, if_true, Bool.false_eq_true, and_false, if_false]
        exact Ev.now _
    · simp only [h2, false_and, if_false]
      refine Ev.iteT (by omega) (Ev.succ ?_)
      simp only [impl_PlayTable.j0, if_true]
      exact Ev.now _
  · have h1' : isSd s = false := by simpa using h1
    simp only [h1', Bool.false_eq_true, if_false, false_and, Option.bind_some]
    refine Ev.succ ?_
    simp only [impl_PlayTable.j0, if_true]
    exact Ev.now _

theorem FnExactPlayTable : laws_FnExactPlayTable.Pure := by
  intro s l _ hl _ _
  refine Ev.rounds (g := fun k => laws_FnExactPlayTable.f k s l) ?_
  simp only [laws_FnExactPlayTable.f]
  by_cases hb : (l.length : Int) > 1048576
  · exact Ev.iteT hb (Ev.now _)
  · refine Ev.iteF hb ?_
    have hx : l.length ≤ 1048576 := by omega
    obtain ⟨la, lb, lo⟩ := playTold_len s l
    have hspec := specPlay s l
    have himpl := implPlay s l
    generalize playTold s l = T at *
    obtain ⟨s', a, b, m, o, ok⟩ := T
    simp only at la lb lo
    refine Ev.bind (toIntS l hx) (Ev.bind hspec (Ev.bind (toIntS l hx) (Ev.bind himpl ?_)))
    simp only
    refine Ev.bind (eqTable s' a b m (by omega) (by omega)) (Ev.iteT rfl ?_)
    refine Ev.bind (eqBoolS o (by omega)) (Ev.iteT rfl (Ev.iteF (by simp) ?_))
    refine Ev.bind (toIntS l hx) (Ev.bind (eqIntS l hx) (Ev.iteT rfl ?_))
    refine Ev.bind (markIntS l hx 1 (by omega) (by omega)) (Ev.iteF (by simp only; omega) ?_)
    refine Ev.bind (eqTable s' a b m (by omega) (by omega)) (Ev.iteT rfl ?_)
    refine Ev.bind (eqBoolS o (by omega)) (Ev.iteT rfl ?_)
    refine Ev.bind (markTable s' a b m (by omega) (by omega)) ?_
    refine Ev.bind (markBoolS o (by omega) _ (by simp only; omega) (by simp only; omega)) ?_
    refine Ev.bind (heldTable s' m a.length b.length (by omega) (by omega)) (Ev.iteF (by omega) ?_)
    refine Ev.bind (heldBoolS o.length (by omega) _ (by omega) (by omega)) (Ev.iteF (by omega) (Ev.iteT rfl ?_))
    refine Ev.bind (toIntS l hx) (Ev.bind himpl ?_)
    simp only
    refine Ev.bind (eqTable s' a b m (by omega) (by omega)) (Ev.iteT rfl ?_)
    refine Ev.bind (eqBoolS o (by omega)) (Ev.iteT rfl (Ev.iteF (by simp) ?_))
    refine Ev.bind (heldTable s' m a.length b.length (by omega) (by omega)) (Ev.iteF (by omega) ?_)
    refine Ev.bind (heldBoolS o.length (by omega) _ (by omega) (by omega)) (Ev.iteF (by omega) ?_)
    exact Ev.iteT rfl (Ev.now _)

end Go.Proofs.Ytemnidhllbbjnaa.Pure
