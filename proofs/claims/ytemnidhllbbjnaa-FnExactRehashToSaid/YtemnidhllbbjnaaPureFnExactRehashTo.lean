/- The program's RehashTo and the reference's answer the same for every table and seed. No condition. -/
import Derived.Test.YtemnidhllbbjnaaPureDefFnExactRehashTo
import Derived.Test.YtemnidhllbbjnaaLib
import Derived.Laws.Bits64b
import Derived.Test.YtemnidhllbbjnaaSets
namespace Go.Proofs.Ytemnidhllbbjnaa.Pure
open Go.RowKit Go.Proofs.Ytemnidhllbbjnaa.XFnExactRehashTo Go.Proofs.YtemnidhllbbjnaaW.PrintWords Go.Proofs.YtemnidhllbbjnaaW.PrintLast Go.Proofs.Ytemnidhllbbjnaa.Lib0
set_option linter.unusedVariables false
set_option linter.unusedSimpArgs false

/-- It comes to some answer at enough rounds. -/
def Ends {α : Type} (g : Nat → Option α) : Prop := ∃ r, Ev g r
theorem Ends.now {α : Type} (r : α) : Ends (fun _ => some r) := ⟨r, Ev.now r⟩
theorem Ends.of {α : Type} {g : Nat → Option α} {r : α} (h : Ev g r) : Ends g := ⟨r, h⟩
theorem Ends.succ {α : Type} {g : Nat → Option α} (h : Ends fun k => g (k + 1)) : Ends g := h.imp fun _ h => Ev.succ h
theorem Ends.ite {α : Type} {p : Prop} [Decidable p] {a b : Nat → Option α} (ha : Ends a) (hb : Ends b) : Ends (fun n => if p then a n else b n) := by
  by_cases h : p
  · exact ha.imp fun _ q => Ev.iteT h q
  · exact hb.imp fun _ q => Ev.iteF h q
theorem Ends.iteT {α : Type} {p : Prop} [Decidable p] {a b : Nat → Option α} (h : p) (ha : Ends a) : Ends (fun n => if p then a n else b n) := ha.imp fun _ q => Ev.iteT h q
theorem Ends.iteF {α : Type} {p : Prop} [Decidable p] {a b : Nat → Option α} (h : ¬ p) (hb : Ends b) : Ends (fun n => if p then a n else b n) := hb.imp fun _ q => Ev.iteF h q
theorem Ends.bind {α β : Type} {a : Nat → Option α} {f : Nat → α → Option β} (ha : Ends a) (h : ∀ r, Ev a r → Ends (fun n => f n r)) : Ends (fun n => (a n).bind (f n)) := by
  obtain ⟨r, hr⟩ := ha
  obtain ⟨q, hq⟩ := h r hr
  exact ⟨q, Ev.bind hr hq⟩
theorem Ends.bind0 {α β : Type} {a : Option α} {x : α} {f : Nat → α → Option β} (h : a = some x) (k : Ends (fun n => f n x)) : Ends (fun n => a.bind (f n)) := k.imp fun _ q => Ev.bind0 h q
/-- What is left of n, or less than nothing; and, if anything, Q. -/
def Sz (g : Nat → Option Int) (n : Int) (Q : Prop) : Prop := ∃ r, Ev g r ∧ (r < 0 ∨ (0 ≤ r ∧ r ≤ n ∧ Q))
theorem Sz.stop {n : Int} (h : 0 ≤ n) : Sz (fun _ => some n) n True := ⟨n, Ev.now n, .inr ⟨h, Int.le_refl n, trivial⟩⟩
theorem Sz.step {a : Nat → Option Int} {f : Nat → Int → Option Int} {n : Int} {Q Q' : Prop} (h : Sz a n Q) (hk : ∀ r, 0 ≤ r → r ≤ n → Sz (fun k => f k r) r Q') : Sz (fun k => (a k).bind fun t => if t < 0 then some (-1) else f k t) n (Q ∧ Q') := by
  obtain ⟨r, hr, h | ⟨h1, h2, q⟩⟩ := h
  · exact ⟨-1, Ev.bind hr (Ev.iteT h (Ev.now _)), .inl (by omega)⟩
  · obtain ⟨s, hs, h' | ⟨h3, h4, q'⟩⟩ := hk r h1 h2
    · exact ⟨s, Ev.bind hr (Ev.iteF (by omega) hs), .inl h'⟩
    · exact ⟨s, Ev.bind hr (Ev.iteF (by omega) hs), .inr ⟨h3, by omega, q, q'⟩⟩

theorem l1In (x a b : Int) : spec_l1In.f x a b = some (decide (a ≤ x ∧ x ≤ b)) := by
  unfold spec_l1In.f
  by_cases h : x ≥ a
  · rw [if_pos h]
    simp [show a ≤ x from h]
  · rw [if_neg h]
    simp only [show ¬ a ≤ x from h, false_and, decide_false]

theorem within (x a b : Int) : impl_within.f x a b = some (decide (a ≤ x ∧ x ≤ b)) := by
  unfold impl_within.f
  by_cases h : x ≥ a
  · rw [if_pos h]
    simp [show a ≤ x from h]
  · rw [if_neg h]
    simp only [show ¬ a ≤ x from h, false_and, decide_false]

theorem l1Put_l (xs : List Int) (n : Int) (hx : xs.length ≤ 1048576) (d : Nat) : ∀ (i : Nat) (k : Nat), i + d = xs.length → d < k → spec_l1Put.l0 k xs n i = some (xs.take i ++ Sets0.put (xs.drop i) n) := by
  induction d with
  | zero =>
    intro i k hi hk
    obtain ⟨k, rfl⟩ : ∃ m, k = m + 1 := ⟨k - 1, by omega⟩
    obtain rfl : i = xs.length := by omega
    simp only [spec_l1Put.l0]
    rw [if_neg (by omega), if_pos (by omega), if_pos (by omega)]
    simp only [Option.bind_some, Int.toNat_natCast, List.take_length, List.drop_length, List.nil_append, Sets0.put]
    rw [if_pos (by simp; omega), if_pos (by omega), if_pos (by simp; omega)]
    simp
  | succ d ih =>
    intro i k hi hk
    obtain ⟨k, rfl⟩ : ∃ m, k = m + 1 := ⟨k - 1, by omega⟩
    simp only [spec_l1Put.l0]
    rw [if_pos (by omega), if_pos (by omega), rd_at _ _ (by omega : i < xs.length), drop_cons xs i (by omega)]
    simp only [Sets0.put]
    by_cases h1 : xs[i]'(by omega) < n
    · rw [if_pos h1, if_pos h1, i_succ i (by omega), ih (i + 1) k (by omega) (by omega), List.take_succ_eq_append_getElem (by omega : i < xs.length), List.append_assoc]
      rfl
    · rw [if_neg h1, if_neg h1]
      by_cases h2 : xs[i]'(by omega) = n
      · rw [if_pos h2, if_pos h2, ← drop_cons xs i (by omega), List.take_append_drop]
      · rw [if_neg h2, if_neg h2, if_pos (by omega)]
        simp only [Option.bind_some, Int.toNat_natCast, List.nil_append]
        rw [if_pos (by simp; omega), if_pos (by simp; omega), if_pos (by simp; omega), ← drop_cons xs i (by omega)]
        simp
theorem l1Put (xs : List Int) (n : Int) (hx : xs.length ≤ 1048576) : Ev (fun k => spec_l1Put.f k xs n) (Sets0.put xs n) := by
  refine ⟨xs.length + 1, fun k hk => ?_⟩
  simp only [spec_l1Put.f]
  have h := l1Put_l xs n hx xs.length 0 k (by omega) (by omega)
  simpa using h

def isKey (x : Int) : Bool := decide (0 ≤ x ∧ x ≤ 9999)
theorem keyIn (x : Int) : spec_l1In.f x 0 9999 = some (isKey x) := by
  unfold spec_l1In.f isKey
  by_cases h : x ≥ 0
  · rw [if_pos h]
    congr 1
    rw [decide_eq_decide]
    omega
  · rw [if_neg h]
    congr 1
    symm
    rw [decide_eq_false_iff_not]
    omega
theorem keyWithin (x : Int) : impl_within.f x 0 9999 = some (isKey x) := keyIn x
theorem isKey_iff (x : Int) : isKey x = true ↔ 0 ≤ x ∧ x ≤ 9999 := by simp [isKey]

theorem specKey (x : Int) : spec_l12Key.f x = some (isKey x) := by
  unfold spec_l12Key.f
  rw [keyIn]
  rfl

theorem implKey (x : Int) : impl_isKey.f x = some (isKey x) := by
  unfold impl_isKey.f
  rw [keyWithin]
  rfl

theorem rdT_at (xs : List S79) (i : Nat) (h : i < xs.length) : rd_T79 xs (i : Int) = xs[i] := by
  unfold rd_T79
  simp [h]
theorem eqSlotS_l (xs : List S79) (hx : xs.length ≤ 1048576) (d : Nat) : ∀ (i : Nat) (k : Nat), i + d = xs.length → d < k → laws_eqSlotS.l0 k xs xs i = some true := by
  induction d with
  | zero =>
    intro i k hi hk
    obtain ⟨k, rfl⟩ : ∃ m, k = m + 1 := ⟨k - 1, by omega⟩
    simp only [laws_eqSlotS.l0]
    rw [if_neg (by omega)]
  | succ d ih =>
    intro i k hi hk
    obtain ⟨k, rfl⟩ : ∃ m, k = m + 1 := ⟨k - 1, by omega⟩
    simp only [laws_eqSlotS.l0, laws_eqSlot.f]
    rw [if_pos (by omega), if_pos (by omega), if_pos (by omega), if_neg (by simp), if_pos (by trivial), if_pos (by trivial)]
    simp only [if_true, Option.bind_some]
    rw [i_succ i (by omega)]
    exact ih (i + 1) k (by omega) (by omega)
theorem eqSlotS (xs : List S79) (hx : xs.length ≤ 1048576) : Ev (fun k => laws_eqSlotS.f k xs xs) true := by
  simp only [laws_eqSlotS.f]
  refine Ev.iteT (by trivial) ⟨xs.length + 1, fun k hk => ?_⟩
  exact eqSlotS_l xs hx xs.length 0 k (by omega) (by omega)

theorem eqTable (s : Int) (a b : List S79) (m : Int) (ha : a.length ≤ 1048576) (hb : b.length ≤ 1048576) : Ev (fun k => laws_eqTable.f k s a b m s a b m) true := by
  simp only [laws_eqTable.f]
  exact Ev.iteT (by trivial) (Ev.bind (eqSlotS a ha) (Ev.iteT rfl (Ev.bind (eqSlotS b hb) (Ev.iteT rfl (Ev.iteT (by trivial) (Ev.now _))))))

/-- What a marking leaves in a slot. -/
def slotMark (n : Int) : Int → S79 := fun z => ⟨(Int.tmod (n + 3 * z) 3) == 0, n + 3 * z + 1, n + 3 * z + 2⟩
theorem set_three (xs : List S79) (i : Nat) (h : i < xs.length) (a : Bool) (b c : Int) :
    (((xs.set i ⟨a, (rd_T79 xs i).f1, (rd_T79 xs i).f2⟩).set i ⟨(rd_T79 (xs.set i ⟨a, (rd_T79 xs i).f1, (rd_T79 xs i).f2⟩) i).f0, b, (rd_T79 (xs.set i ⟨a, (rd_T79 xs i).f1, (rd_T79 xs i).f2⟩) i).f2⟩).set i
      ⟨(rd_T79 ((xs.set i ⟨a, (rd_T79 xs i).f1, (rd_T79 xs i).f2⟩).set i ⟨(rd_T79 (xs.set i ⟨a, (rd_T79 xs i).f1, (rd_T79 xs i).f2⟩) i).f0, b, (rd_T79 (xs.set i ⟨a, (rd_T79 xs i).f1, (rd_T79 xs i).f2⟩) i).f2⟩) i).f0,
       (rd_T79 ((xs.set i ⟨a, (rd_T79 xs i).f1, (rd_T79 xs i).f2⟩).set i ⟨(rd_T79 (xs.set i ⟨a, (rd_T79 xs i).f1, (rd_T79 xs i).f2⟩) i).f0, b, (rd_T79 (xs.set i ⟨a, (rd_T79 xs i).f1, (rd_T79 xs i).f2⟩) i).f2⟩) i).f1, c⟩) = xs.set i ⟨a, b, c⟩ := by
  have hr : ∀ (ys : List S79) (x : S79), i < ys.length → rd_T79 (ys.set i x) i = x := by
    intro ys x hy
    rw [rdT_at _ _ (by simpa using hy)]
    simp
  rw [hr xs _ h, hr _ _ (by simpa using h)]
  simp
theorem markSlotS_l (xs : List S79) (hx : xs.length ≤ 1048576) (n : Int) (h0 : 0 ≤ n) (h1 : n ≤ 1073741824) (d : Nat) : ∀ (i : Nat) (k : Nat), i + d = xs.length → d < k →
    laws_markSlotS.l0 k (marks (slotMark n) 0 i ++ xs.drop i) (n + 3 * i) i = some (n + 3 * xs.length, marks (slotMark n) 0 xs.length) := by
  induction d with
  | zero =>
    intro i k hi hk
    obtain ⟨k, rfl⟩ : ∃ m, k = m + 1 := ⟨k - 1, by omega⟩
    obtain rfl : i = xs.length := by omega
    simp only [laws_markSlotS.l0]
    rw [if_neg (by simp [marks_length])]
    simp
  | succ d ih =>
    intro i k hi hk
    obtain ⟨k, rfl⟩ : ∃ m, k = m + 1 := ⟨k - 1, by omega⟩
    simp only [laws_markSlotS.l0, Option.bind_some]
    rw [if_pos (by simp [marks_length]; omega), if_pos (by omega), Int.toNat_natCast, set_three _ i (by simp [marks_length]; omega), set_drop_step _ _ _ _ (by omega) (marks_length _ _ _), i_succ i (by omega), w64 (n := n + 3 * (i : Int) + 1) (by omega) (by omega), w64 (n := n + 3 * (i : Int) + 1 + 1) (by omega) (by omega), w64 (n := n + 3 * (i : Int) + 1 + 1 + 1) (by omega) (by omega)]
    have e : marks (slotMark n) 0 i ++ [(⟨(Int.tmod (n + 3 * (i : Int)) 3) == 0, n + 3 * (i : Int) + 1, n + 3 * (i : Int) + 1 + 1⟩ : S79)] = marks (slotMark n) 0 (i + 1) := by
      rw [marks_snoc]
      simp [slotMark, Int.add_assoc]
    rw [e, show n + 3 * (i : Int) + 1 + 1 + 1 = n + 3 * ((i + 1 : Nat) : Int) by omega]
    exact ih (i + 1) k (by omega) (by omega)
theorem markSlotS (xs : List S79) (hx : xs.length ≤ 1048576) (n : Int) (h0 : 0 ≤ n) (h1 : n ≤ 1073741824) : Ev (fun k => laws_markSlotS.f k xs n) (n + 3 * xs.length, marks (slotMark n) 0 xs.length) := by
  refine ⟨xs.length + 1, fun k hk => ?_⟩
  simp only [laws_markSlotS.f]
  have h := markSlotS_l xs hx n h0 h1 xs.length 0 k (by omega) (by omega)
  simpa [marks] using h

theorem heldSlotS_l (len : Nat) (hx : len ≤ 1048576) (n : Int) (h0 : 0 ≤ n) (h1 : n ≤ 1073741824) (d : Nat) : ∀ (i : Nat) (k : Nat), i + d = len → d < k →
    laws_heldSlotS.l0 k (marks (slotMark n) 0 len) (n + 3 * i) i = some (n + 3 * len) := by
  induction d with
  | zero =>
    intro i k hi hk
    obtain ⟨k, rfl⟩ : ∃ m, k = m + 1 := ⟨k - 1, by omega⟩
    simp only [laws_heldSlotS.l0]
    rw [if_neg (by simp [marks_length]; omega), show (i : Int) = (len : Int) by omega]
  | succ d ih =>
    intro i k hi hk
    obtain ⟨k, rfl⟩ : ∃ m, k = m + 1 := ⟨k - 1, by omega⟩
    have hil : i < (marks (slotMark n) 0 len).length := by rw [marks_length]; omega
    simp only [laws_heldSlotS.l0]
    rw [if_pos (by simp [marks_length]; omega), if_pos (by omega), rdT_at _ i hil, marks_get _ _ _ _ hil, i_succ i (by omega), w64 (n := n + 3 * (i : Int) + 1) (by omega) (by omega), w64 (n := n + 3 * (i : Int) + 1 + 1) (by omega) (by omega), w64 (n := n + 3 * (i : Int) + 1 + 1 + 1) (by omega) (by omega)]
    simp only [slotMark, Int.zero_add]
    rw [if_neg (by simp), if_pos (by trivial), if_pos (by omega)]
    have ih' := ih (i + 1) k (by omega) (by omega)
    rwa [show n + 3 * ((i + 1 : Nat) : Int) = n + 3 * (i : Int) + 1 + 1 + 1 by omega] at ih'
theorem heldSlotS (len : Nat) (hx : len ≤ 1048576) (n : Int) (h0 : 0 ≤ n) (h1 : n ≤ 1073741824) : Ev (fun k => laws_heldSlotS.f k (marks (slotMark n) 0 len) n) (n + 3 * len) := by
  refine ⟨len + 1, fun k hk => ?_⟩
  simp only [laws_heldSlotS.f]
  have h := heldSlotS_l len hx n h0 h1 len 0 k (by omega) (by omega)
  simpa using h

theorem markTable (s : Int) (a b : List S79) (m : Int) (ha : a.length ≤ 1048576) (hb : b.length ≤ 1048576) : Ev (fun k => laws_markTable.f k s a b m 1) (1 + 3 * a.length + 3 * b.length, marks (slotMark 1) 0 a.length, marks (slotMark (1 + 3 * a.length)) 0 b.length) := by
  simp only [laws_markTable.f]
  exact Ev.bind (markSlotS a (by omega) 1 (by omega) (by omega)) (Ev.bind (markSlotS b (by omega) _ (by simp only; omega) (by simp only; omega)) (Ev.now _))

theorem heldTable (s m : Int) (a b : Nat) (ha : a ≤ 1048576) (hb : b ≤ 1048576) : Ev (fun k => laws_heldTable.f k s (marks (slotMark 1) 0 a) (marks (slotMark (1 + 3 * a)) 0 b) m 1) (1 + 3 * a + 3 * b) := by
  simp only [laws_heldTable.f]
  exact Ev.bind (heldSlotS a (by omega) 1 (by omega) (by omega)) (Ev.iteF (by omega) (Ev.bind (heldSlotS b (by omega) _ (by omega) (by omega)) (Ev.iteF (by omega) (Ev.now _))))

/-- The two places of a key. -/
def pl1 (s key : Int) : Int := (key + s) % 11
def pl2 (s key : Int) : Int := (key / 11 + 3 * s) % 11
def isK (x : Int) : Prop := 0 ≤ x ∧ x ≤ 9999
/-- A row of eleven slots with keys. -/
def Row11 (l : List S79) : Prop := l.length = 11 ∧ ∀ i : Int, 0 ≤ i → i < 11 → isK (rd_T79 l i).f1
theorem tm1 (s key : Int) (hs : 0 ≤ s ∧ s ≤ 99) (hk : isK key) : Int.tmod (wrap64 (key + s)) 11 = pl1 s key ∧ 0 ≤ pl1 s key ∧ pl1 s key < 11 := by
  obtain ⟨h0, h1⟩ := hk
  unfold pl1
  rw [w64 (by omega) (by omega), Int.tmod_eq_emod_of_nonneg (by omega)]
  omega
theorem tm2 (s key : Int) (hs : 0 ≤ s ∧ s ≤ 99) (hk : isK key) : Int.tmod (wrap64 ((wrap64 (Int.tdiv key 11)) + (wrap64 (3 * s)))) 11 = pl2 s key ∧ 0 ≤ pl2 s key ∧ pl2 s key < 11 := by
  obtain ⟨h0, h1⟩ := hk
  unfold pl2
  rw [Int.tdiv_eq_ediv_of_nonneg h0, w64 (n := key / 11) (by omega) (by omega), w64 (n := 3 * s) (by omega) (by omega), w64 (by omega) (by omega), Int.tmod_eq_emod_of_nonneg (by omega)]
  omega
theorem Row11.set {l : List S79} (h : Row11 l) (i : Int) (h0 : 0 ≤ i) (h1 : i < 11) (x : S79) (hx : isK x.f1) : Row11 (l.set i.toNat x) := by
  refine ⟨by rw [List.length_set]; exact h.1, fun j j0 j1 => ?_⟩
  have hl := h.1
  obtain ⟨m, rfl⟩ : ∃ m : Nat, j = (m : Int) := ⟨j.toNat, by omega⟩
  rw [rdT_at _ m (by rw [List.length_set]; omega)]
  by_cases e : i.toNat = m
  · subst e
    simpa using hx
  · rw [List.getElem_set_ne e]
    have := h.2 (m : Int) j0 j1
    rwa [rdT_at _ m (by omega)] at this
theorem Row11.new : Row11 (List.replicate 11 z79) := by
  refine ⟨by simp, fun j j0 j1 => ?_⟩
  obtain ⟨m, rfl⟩ : ∃ m : Nat, j = (m : Int) := ⟨j.toNat, by omega⟩
  rw [rdT_at _ m (by simp; omega), List.getElem_replicate]
  simp [z79, isK]
def has (l : List S79) (p key : Int) : Bool := (rd_T79 l p).f0 && decide ((rd_T79 l p).f1 = key)
theorem specFirst (s key : Int) : spec_l12First.f s key = some (Int.tmod (wrap64 (key + s)) 11) := rfl
theorem specSecond (s key : Int) : spec_l12Second.f s key = some (Int.tmod (wrap64 ((wrap64 (Int.tdiv key 11)) + (wrap64 (3 * s)))) 11) := rfl
theorem specAt (s : Int) (a b : List S79) (m key : Int) (hs : 0 ≤ s ∧ s ≤ 99) (hk : isK key) (ha : Row11 a) (hb : Row11 b) :
    Ev (fun k => spec_l12At.f k s a b m key) (if has a (pl1 s key) key = true then (pl1 s key, false, true) else if has b (pl2 s key) key = true then (pl2 s key, true, true) else (0, false, false)) := by
  simp only [spec_l12At.f, specFirst, Option.bind_some]
  obtain ⟨e1, p0, p1⟩ := tm1 s key hs hk
  obtain ⟨e2, q0, q1⟩ := tm2 s key hs hk
  have la := ha.1
  have lb := hb.1
  rw [e1]
  refine Ev.iteT p0 (Ev.iteT (by omega) ?_)
  have second : Ev (fun k => spec_l12At.j0 k key (pl1 s key) false s a b m) (if has b (pl2 s key) key = true then (pl2 s key, true, true) else (0, false, false)) := by
    refine Ev.succ ?_
    simp only [spec_l12At.j0, specSecond, Option.bind_some]
    rw [e2]
    refine Ev.iteF (by decide) (Ev.iteT q0 (Ev.iteT (by omega) ?_))
    unfold has
    cases h1 : (rd_T79 b (pl2 s key)).f0 with
    | false => simp only [Bool.false_and, Bool.false_eq_true, if_false]; exact Ev.now _
    | true =>
      by_cases h2 : (rd_T79 b (pl2 s key)).f1 = key
      · simp only [h2, decide_true, Bool.and_self, if_true]; exact Ev.now _
      · simp only [h2, decide_false, Bool.and_false, Bool.false_eq_true, if_false, if_true]; exact Ev.now _
  cases h1 : (rd_T79 a (pl1 s key)).f0 with
  | false =>
    have hf : has a (pl1 s key) key = false := by simp [has, h1]
    simp only [hf, Bool.false_eq_true, if_false]
    exact second
  | true =>
    by_cases h2 : (rd_T79 a (pl1 s key)).f1 = key
    · have hf : has a (pl1 s key) key = true := by simp [has, h1, h2]
      simp only [hf, if_true]
      refine Ev.succ ?_
      simp only [spec_l12At.j0, h2, beq_self_eq_true, if_true]
      exact Ev.now _
    · have hf : has a (pl1 s key) key = false := by simp [has, h2]
      have hb' : ((rd_T79 a (pl1 s key)).f1 == key) = false := by simpa using h2
      simp only [hf, hb', Bool.false_eq_true, if_false, if_true]
      exact second
theorem implFind (s : Int) (a b : List S79) (key : Int) (hs : 0 ≤ s ∧ s ≤ 99) (hk : isK key) (ha : Row11 a) (hb : Row11 b) :
    impl_Table_find.f s a b key = some (if has a (pl1 s key) key = true then (1, pl1 s key) else if has b (pl2 s key) key = true then (2, pl2 s key) else (0, 0)) := by
  obtain ⟨e1, p0, p1⟩ := tm1 s key hs hk
  obtain ⟨e2, q0, q1⟩ := tm2 s key hs hk
  have la := ha.1
  have lb := hb.1
  simp only [impl_Table_find.f, impl_placesOf.f, Option.bind_some]
  rw [e1, e2, if_pos ⟨⟨p0, by omega⟩, q0, by omega⟩]
  simp only [has, Bool.and_eq_true, decide_eq_true_eq]
  split
  · rfl
  · split <;> rfl
theorem implOwn (s : Int) (a b : List S79) (m : Int) (ha : a.length = 11) (hb : b.length = 11) : impl_ownTable.f s a b m = some (s, a, b, m) := by
  simp only [impl_ownTable.f, impl_Slot.f, Option.bind_some]
  rw [if_pos (by simp; omega)]
  simp only [Option.bind_some]
  rw [if_pos (by simp; omega)]
  simp
/-- The kicks: the rows behind them, how many were moved, and whether there were few enough. -/
def kick (s : Int) : Nat → Int → List S79 → List S79 → S79 → List S79 × List S79 × Int × Bool
  | 0, _, a, b, _ => (a, b, 0, false)
  | d + 1, x, a, b, c => if x % 2 = 1 then (if (rd_T79 b (pl2 s c.f1)).f0 = true then kick s d (x + 1) a (b.set (pl2 s c.f1).toNat c) (rd_T79 b (pl2 s c.f1)) else (a, b.set (pl2 s c.f1).toNat c, x, true))
    else (if (rd_T79 a (pl1 s c.f1)).f0 = true then kick s d (x + 1) (a.set (pl1 s c.f1).toNat c) b (rd_T79 a (pl1 s c.f1)) else (a.set (pl1 s c.f1).toNat c, b, x, true))
theorem kick_inv (s : Int) (hs : 0 ≤ s ∧ s ≤ 99) (d : Nat) : ∀ (x : Int) (a b : List S79) (c : S79), Row11 a → Row11 b → isK c.f1 → Row11 (kick s d x a b c).1 ∧ Row11 (kick s d x a b c).2.1 := by
  induction d with
  | zero => intro x a b c ha hb _; exact ⟨ha, hb⟩
  | succ d ih =>
    intro x a b c ha hb hc
    obtain ⟨_, p0, p1⟩ := tm1 s c.f1 hs hc
    obtain ⟨_, q0, q1⟩ := tm2 s c.f1 hs hc
    simp only [kick]
    split
    · split
      · exact ih _ _ _ _ ha (hb.set _ q0 q1 c hc) (hb.2 _ q0 q1)
      · exact ⟨ha, hb.set _ q0 q1 c hc⟩
    · split
      · exact ih _ _ _ _ (ha.set _ p0 p1 c hc) hb (ha.2 _ p0 p1)
      · exact ⟨ha.set _ p0 p1 c hc, hb⟩
theorem implKick (s o1 o4 : Int) (hs : 0 ≤ s ∧ s ≤ 99) (d : Nat) : ∀ (x : Int) (a b : List S79) (c : S79), 0 ≤ x → x + d = 25 → Row11 a → Row11 b → isK c.f1 →
    Ev (fun k => impl_put.l0 k x s a b c.f0 c.f1 c.f2 o1 o4) (if (kick s d x a b c).2.2.2 = true then (o1, (kick s d x a b c).1, (kick s d x a b c).2.1, wrap64 (o4 + 1), (kick s d x a b c).2.2.1, true) else (0, [], [], 0, 0, false)) := by
  induction d with
  | zero =>
    intro x a b c h0 hd _ _ _
    refine Ev.succ ?_
    simp only [impl_put.l0, kick, Bool.false_eq_true, if_false]
    exact Ev.iteF (by omega) (Ev.now _)
  | succ d ih =>
    intro x a b c h0 hd ha hb hc
    obtain ⟨e1, p0, p1⟩ := tm1 s c.f1 hs hc
    obtain ⟨e2, q0, q1⟩ := tm2 s c.f1 hs hc
    have la := ha.1
    have lb := hb.1
    refine Ev.succ ?_
    simp only [impl_put.l0, impl_placesOf.f, Option.bind_some, kick]
    rw [e1, e2, w64 (n := x + 1) (by omega) (by omega), Int.tmod_eq_emod_of_nonneg h0]
    refine Ev.iteT (by omega) (Ev.iteT ⟨⟨p0, by omega⟩, q0, by omega⟩ ?_)
    by_cases hx : x % 2 = 1
    · simp only [if_pos hx]
      by_cases hf : (rd_T79 b (pl2 s c.f1)).f0 = true
      · simp only [if_pos hf]
        exact ih (x + 1) a (b.set (pl2 s c.f1).toNat c) (rd_T79 b (pl2 s c.f1)) (by omega) (by omega) ha (hb.set _ q0 q1 c hc) (hb.2 _ q0 q1)
      · simp only [if_neg hf, if_true]
        exact Ev.now _
    · simp only [if_neg hx]
      by_cases hf : (rd_T79 a (pl1 s c.f1)).f0 = true
      · simp only [if_pos hf]
        exact ih (x + 1) (a.set (pl1 s c.f1).toNat c) b (rd_T79 a (pl1 s c.f1)) (by omega) (by omega) (ha.set _ p0 p1 c hc) hb (ha.2 _ p0 p1)
      · simp only [if_neg hf, if_true]
        exact Ev.now _
theorem specKick (s m : Int) (hs : 0 ≤ s ∧ s ≤ 99) (d : Nat) : ∀ (x : Int) (a b : List S79) (c : S79), 0 ≤ x → x + d = 25 → Row11 a → Row11 b → isK c.f1 →
    Ev (fun k => spec_l12Put.l0 k x s a b m c.f0 c.f1 c.f2) (s, (kick s d x a b c).1, (kick s d x a b c).2.1, m, (kick s d x a b c).2.2.1, (kick s d x a b c).2.2.2) := by
  induction d with
  | zero =>
    intro x a b c h0 hd _ _ _
    refine Ev.succ ?_
    simp only [spec_l12Put.l0, kick]
    exact Ev.iteF (by omega) (Ev.now _)
  | succ d ih =>
    intro x a b c h0 hd ha hb hc
    obtain ⟨e1, p0, p1⟩ := tm1 s c.f1 hs hc
    obtain ⟨e2, q0, q1⟩ := tm2 s c.f1 hs hc
    have la := ha.1
    have lb := hb.1
    refine Ev.succ ?_
    simp only [spec_l12Put.l0, specFirst, specSecond, Option.bind_some, kick]
    rw [e1, e2, w64 (n := x + 1) (by omega) (by omega), Int.tmod_eq_emod_of_nonneg h0]
    refine Ev.iteT (by omega) ?_
    by_cases hx : x % 2 = 1
    · simp only [if_pos hx]
      refine Ev.iteF (by omega) (Ev.iteT q0 (Ev.iteT (by omega) ?_))
      by_cases hf : (rd_T79 b (pl2 s c.f1)).f0 = true
      · simp only [if_pos hf]
        exact ih (x + 1) a (b.set (pl2 s c.f1).toNat c) (rd_T79 b (pl2 s c.f1)) (by omega) (by omega) ha (hb.set _ q0 q1 c hc) (hb.2 _ q0 q1)
      · simp only [if_neg hf]
        exact Ev.now _
    · simp only [if_neg hx]
      refine Ev.iteT (by omega) (Ev.iteT p0 (Ev.iteT (by omega) ?_))
      by_cases hf : (rd_T79 a (pl1 s c.f1)).f0 = true
      · simp only [if_pos hf]
        exact ih (x + 1) (a.set (pl1 s c.f1).toNat c) b (rd_T79 a (pl1 s c.f1)) (by omega) (by omega) (ha.set _ p0 p1 c hc) hb (ha.2 _ p0 p1)
      · simp only [if_neg hf]
        exact Ev.now _
/-- What putting a key tells: the rows, how many, how many were moved, and whether it could be. -/
def putT (s : Int) (a b : List S79) (m key v : Int) : List S79 × List S79 × Int × Int × Bool :=
  if has a (pl1 s key) key = true then (a.set (pl1 s key).toNat ⟨(rd_T79 a (pl1 s key)).f0, (rd_T79 a (pl1 s key)).f1, v⟩, b, m, 0, true)
  else if has b (pl2 s key) key = true then (a, b.set (pl2 s key).toNat ⟨(rd_T79 b (pl2 s key)).f0, (rd_T79 b (pl2 s key)).f1, v⟩, m, 0, true)
  else ((kick s 25 0 a b ⟨true, key, v⟩).1, (kick s 25 0 a b ⟨true, key, v⟩).2.1, wrap64 (m + 1), (kick s 25 0 a b ⟨true, key, v⟩).2.2.1, (kick s 25 0 a b ⟨true, key, v⟩).2.2.2)
theorem putT_inv (s : Int) (a b : List S79) (m key v : Int) (hs : 0 ≤ s ∧ s ≤ 99) (hk : isK key) (ha : Row11 a) (hb : Row11 b) : Row11 (putT s a b m key v).1 ∧ Row11 (putT s a b m key v).2.1 := by
  obtain ⟨_, p0, p1⟩ := tm1 s key hs hk
  obtain ⟨_, q0, q1⟩ := tm2 s key hs hk
  unfold putT
  split
  · exact ⟨ha.set _ p0 p1 _ (ha.2 _ p0 p1), hb⟩
  · split
    · exact ⟨ha, hb.set _ q0 q1 _ (hb.2 _ q0 q1)⟩
    · exact kick_inv s hs 25 0 a b ⟨true, key, v⟩ ha hb hk
theorem implPutT (s : Int) (a b : List S79) (m key v : Int) (hs : 0 ≤ s ∧ s ≤ 99) (hk : isK key) (ha : Row11 a) (hb : Row11 b) :
    Ev (fun k => impl_put.f k s a b m key v) (if (putT s a b m key v).2.2.2.2 = true then (s, (putT s a b m key v).1, (putT s a b m key v).2.1, (putT s a b m key v).2.2.1, (putT s a b m key v).2.2.2.1, true) else (0, [], [], 0, 0, false)) := by
  simp only [impl_put.f, implOwn s a b m ha.1 hb.1, Option.bind_some, implFind s a b key hs hk ha hb]
  unfold putT
  by_cases h1 : has a (pl1 s key) key = true
  · simp only [if_pos h1, if_true]
    exact Ev.now _
  · by_cases h2 : has b (pl2 s key) key = true
    · simp only [if_neg h1, if_pos h2, if_true, show ¬ ((2 : Int) = 1) by decide, if_false]
      exact Ev.now _
    · simp only [if_neg h1, if_neg h2, show ¬ ((0 : Int) = 1) by decide, show ¬ ((0 : Int) = 2) by decide, if_false]
      exact implKick s s m hs 25 0 a b ⟨true, key, v⟩ (by omega) (by omega) ha hb hk
theorem specPutT (s : Int) (a b : List S79) (m key v : Int) (hs : 0 ≤ s ∧ s ≤ 99) (hk : isK key) (ha : Row11 a) (hb : Row11 b) :
    Ev (fun k => spec_l12Put.f k s a b m key v) (s, putT s a b m key v) := by
  simp only [spec_l12Put.f]
  obtain ⟨_, p0, p1⟩ := tm1 s key hs hk
  obtain ⟨_, q0, q1⟩ := tm2 s key hs hk
  have la := ha.1
  have lb := hb.1
  refine Ev.bind (specAt s a b m key hs hk ha hb) ?_
  unfold putT
  by_cases h1 : has a (pl1 s key) key = true
  · simp only [if_pos h1, if_true, Bool.false_eq_true, if_false]
    exact Ev.iteT p0 (Ev.iteT (by omega) (Ev.now _))
  · by_cases h2 : has b (pl2 s key) key = true
    · simp only [if_neg h1, if_pos h2, if_true]
      exact Ev.iteT q0 (Ev.iteT (by omega) (Ev.now _))
    · simp only [if_neg h1, if_neg h2, Bool.false_eq_true, if_false]
      exact specKick s (wrap64 (m + 1)) hs 25 0 a b ⟨true, key, v⟩ (by omega) (by omega) ha hb hk

def isSd (s : Int) : Bool := decide (0 ≤ s ∧ s ≤ 99)
theorem isSd_iff (s : Int) : isSd s = true ↔ 0 ≤ s ∧ s ≤ 99 := by simp [isSd]
theorem seedIn (s : Int) : spec_l1In.f s 0 99 = some (isSd s) := by
  unfold spec_l1In.f isSd
  by_cases h : s ≥ 0
  · rw [if_pos h]
    congr 1
    simp
    omega
  · rw [if_neg h]
    congr 1
    simp
    omega
theorem specSeed (s : Int) : spec_l12Seed.f s = some (isSd s) := by simp only [spec_l12Seed.f, seedIn, Option.bind_some]
theorem implSeed (s : Int) : impl_isSeed.f s = some (isSd s) := by
  have h : impl_within.f s 0 99 = some (isSd s) := seedIn s
  simp only [impl_isSeed.f, h, Option.bind_some]

theorem szSlotS (xs : List S99) (n : Int) (h0 : 0 ≤ n) (h1 : n ≤ 1048576) (hx : xs.length ≤ maxLen) : Sz (fun _ => laws_szSlotS.f xs n) n (xs.length ≤ 1048576) := by
  unfold maxLen at hx
  simp only [laws_szSlotS.f]
  rw [w64 (by omega) (by omega)]
  by_cases h : n - (xs.length : Int) < 0
  · exact ⟨-1, Ev.iteT h (Ev.now _), .inl (by omega)⟩
  · exact ⟨_, Ev.iteF h (Ev.now _), by omega⟩

def conv (x : S99) : S79 := ⟨x.f0, x.f1, x.f2⟩
theorem rdN_at (xs : List S99) (i : Nat) (h : i < xs.length) : rd_T99 xs (i : Int) = xs[i] := by
  unfold rd_T99
  simp [h]
theorem toSlotS_l (xs : List S99) (hx : xs.length ≤ 1048576) (d : Nat) : ∀ (i : Nat) (out : List S79) (k : Nat), i + d = xs.length → out.length = xs.length → d < k → laws_toSlotS.l0 k xs out i = some (out.take i ++ (xs.map conv).drop i) := by
  induction d with
  | zero =>
    intro i out k h1 h2 hk
    obtain ⟨k, rfl⟩ : ∃ m, k = m + 1 := ⟨k - 1, by omega⟩
    simp only [laws_toSlotS.l0]
    rw [if_neg (by omega), List.take_of_length_le (by omega), List.drop_of_length_le (by simp; omega), List.append_nil]
  | succ d ih =>
    intro i out k h1 h2 hk
    obtain ⟨k, rfl⟩ : ∃ m, k = m + 1 := ⟨k - 1, by omega⟩
    simp only [laws_toSlotS.l0, laws_toSlot.f, Option.bind_some]
    rw [if_pos (by omega), if_pos (by omega), if_pos (by omega), rdN_at _ _ (by omega : i < xs.length), i_succ i (by omega), Int.toNat_natCast, ih (i + 1) _ k (by omega) (by simpa using h2) (by omega)]
    have e : (⟨(xs[i]'(by omega)).f0, (xs[i]'(by omega)).f1, (xs[i]'(by omega)).f2⟩ : S79) = (xs.map conv)[i]'(by simp; omega) := by simp [conv]
    rw [e, copy_step _ _ _ (by omega) (by simp; omega)]
theorem toSlotS (xs : List S99) (hx : xs.length ≤ 1048576) : Ev (fun k => laws_toSlotS.f k xs) (xs.map conv) := by
  refine ⟨xs.length + 1, fun k hk => ?_⟩
  simp only [laws_toSlotS.f]
  rw [if_pos (by omega), if_pos (by omega), show ((0 : Int)) = ((0 : Nat) : Int) from rfl, toSlotS_l xs hx xs.length 0 _ k (by omega) (by simp) (by omega)]
  simp

theorem toTable (s : Int) (a b : List S99) (m : Int) (ha : a.length ≤ 1048576) (hb : b.length ≤ 1048576) : Ev (fun k => laws_toTable.f k s a b m) (s, a.map conv, b.map conv, m) := by
  simp only [laws_toTable.f]
  exact Ev.bind (toSlotS a ha) (Ev.bind (toSlotS b hb) (Ev.now _))

theorem szTable (s : Int) (a b : List S99) (m : Int) (ha : a.length ≤ maxLen) (hb : b.length ≤ maxLen) : Sz (fun _ => laws_szTable.f s a b m 1048576) 1048576 (a.length ≤ 1048576 ∧ b.length ≤ 1048576) := by
  simp only [laws_szTable.f]
  obtain ⟨r, hr, hq | ⟨h1, h2, h3⟩⟩ := szSlotS a 1048576 (by omega) (by omega) ha
  · exact ⟨-1, Ev.bind hr (Ev.iteT (by omega) (Ev.now _)), .inl (by omega)⟩
  · obtain ⟨r2, hr2, hq | ⟨h4, h5, h6⟩⟩ := szSlotS b r (by omega) (by omega) hb
    · exact ⟨-1, Ev.bind hr (Ev.iteF (by omega) (Ev.bind hr2 (Ev.iteT (by omega) (Ev.now _)))), .inl (by omega)⟩
    · exact ⟨r2, Ev.bind hr (Ev.iteF (by omega) (Ev.bind hr2 (Ev.iteF (by omega) (Ev.now _)))), .inr ⟨by omega, by omega, h3, h6⟩⟩

def isKB (x : Int) : Bool := decide (0 ≤ x ∧ x ≤ 9999)
theorem isKB_iff (x : Int) : isKB x = true ↔ isK x := by simp [isKB, isK]
theorem keyIn9 (x : Int) : spec_l1In.f x 0 9999 = some (isKB x) := by
  unfold spec_l1In.f isKB
  by_cases h : x ≥ 0
  · rw [if_pos h]
    congr 1
    simp
    omega
  · rw [if_neg h]
    congr 1
    simp
    omega
theorem keyWithin9 (x : Int) : impl_within.f x 0 9999 = some (isKB x) := keyIn9 x
theorem specKey9 (x : Int) : spec_l12Key.f x = some (isKB x) := by simp only [spec_l12Key.f, keyIn9, Option.bind_some]
theorem implKey9 (x : Int) : impl_isKey.f x = some (isKB x) := by simp only [impl_isKey.f, keyWithin9, Option.bind_some]
/-- Whether a slot of a row is good. -/
def okSlot (s : Int) (right : Bool) (i : Nat) (x : S79) : Bool := if x.f0 = true then isKB x.f1 && (isKB x.f2 && decide ((i : Int) = if right = true then pl2 s x.f1 else pl1 s x.f1)) else decide (x.f1 = 0 ∧ x.f2 = 0)
def rowOk (s : Int) (right : Bool) : Nat → List S79 → Bool
  | _, [] => true
  | i, x :: t => okSlot s right i x && rowOk s right (i + 1) t
def used (l : List S79) : List Int := (l.filter fun x => x.f0).map fun x => x.f1
theorem used_cons (x : S79) (t : List S79) : used (x :: t) = if x.f0 = true then x.f1 :: used t else used t := by
  unfold used
  cases h : x.f0 <;> simp [h]
theorem used_len (l : List S79) : (used l).length ≤ l.length := by
  unfold used
  rw [List.length_map]
  exact List.length_filter_le _ _
theorem specRow_l (s : Int) (hs : 0 ≤ s ∧ s ≤ 99) (right : Bool) (a b : List S79) (m : Int) (row : List S79) (hx : row.length ≤ 1048576) (d : Nat) : ∀ (i n : Nat), i + d = row.length → n ≤ i →
    Ev (fun k => spec_l12Row.l0 k row right n row row.length i s a b m) (if rowOk s right i (row.drop i) = true then (((n + (used (row.drop i)).length : Nat) : Int), ((row.length : Int) == 11)) else (0, false)) := by
  induction d with
  | zero =>
    intro i n hi hn
    refine Ev.succ ?_
    simp only [spec_l12Row.l0]
    rw [List.drop_of_length_le (by omega)]
    simp only [rowOk, used, if_true]
    exact Ev.iteF (by omega) (Ev.now _)
  | succ d ih =>
    intro i n hi hn
    refine Ev.succ ?_
    simp only [spec_l12Row.l0]
    rw [drop_cons row i (by omega), rdT_at _ _ (by omega : i < row.length), i_succ i (by omega)]
    generalize row[i]'(by omega) = x
    refine Ev.iteT (by omega) (Ev.iteT (by omega) (Ev.iteT (by omega) ?_))
    simp only [rowOk, used_cons, specFirst, specSecond, Option.bind_some]
    cases hf : x.f0 with
    | false =>
      simp only [Bool.false_eq_true, if_false, okSlot, hf]
      by_cases h1 : x.f1 = 0
      · by_cases h2 : x.f2 = 0
        · simp only [h1, h2, and_self, decide_true, Bool.true_and, if_true]
          exact ih (i + 1) n (by omega) (by omega)
        · simp only [h1, h2, and_false, decide_false, Bool.false_and, Bool.false_eq_true, if_false, if_true]
          exact Ev.now _
      · simp only [h1, false_and, decide_false, Bool.false_and, Bool.false_eq_true, if_false]
        exact Ev.now _
    | true =>
      simp only [if_true, okSlot, hf]
      have body : ∀ at' : Int, (isK x.f1 → at' = if right = true then pl2 s x.f1 else pl1 s x.f1) → Ev (fun k => spec_l12Row.j1 k row right n i at' row row.length i s a b m true x.f1 x.f2) (if (isKB x.f1 && (isKB x.f2 && decide ((i : Int) = if right = true then pl2 s x.f1 else pl1 s x.f1)) && rowOk s right (i + 1) (row.drop (i + 1))) = true then (((n + (x.f1 :: used (row.drop (i + 1))).length : Nat) : Int), ((row.length : Int) == 11)) else (0, false)) := by
        intro at' hat
        refine Ev.succ ?_
        simp only [spec_l12Row.j1, specKey9, keyIn9, Option.bind_some]
        by_cases h1 : isKB x.f1 = true
        · rw [hat ((isKB_iff _).1 h1)]
          by_cases h2 : isKB x.f2 = true
          · simp only [h1, h2, Bool.true_and, if_true]
            by_cases h3 : (if right = true then pl2 s x.f1 else pl1 s x.f1) = (i : Int)
            · have hw : wrap64 ((n : Int) + 1) = ((n + 1 : Nat) : Int) := by rw [w64 (by omega) (by omega)]; omega
              simp only [h3, decide_true, Bool.true_and, if_true, i_succ i (by omega : i ≤ 9223372036854775806), hw]
              have h := ih (i + 1) (n + 1) (by omega) (by omega)
              rwa [show n + 1 + (used (row.drop (i + 1))).length = n + (x.f1 :: used (row.drop (i + 1))).length by simp; omega] at h
            · have h3' : ¬ (i : Int) = (if right = true then pl2 s x.f1 else pl1 s x.f1) := fun e => h3 e.symm
              simp only [h3, h3', decide_false, Bool.false_and, Bool.false_eq_true, if_false]
              first
                | exact Ev.now _
                | exact Ev.iteF h3 (Ev.now _)
          · have h2' : isKB x.f2 = false := by simpa using h2
            simp only [h1, h2', Bool.false_and, Bool.and_false, Bool.false_eq_true, if_false, if_true]
            exact Ev.now _
        · have h1' : isKB x.f1 = false := by simpa using h1
          simp only [h1', Bool.false_and, Bool.false_eq_true, if_false]
          exact Ev.now _
      cases right with
      | false =>
        simp only [Bool.false_eq_true, if_false] at body ⊢
        exact body _ (fun h => (tm1 s x.f1 hs h).1)
      | true =>
        simp only [if_true] at body ⊢
        exact body _ (fun h => (tm2 s x.f1 hs h).1)
theorem specRow (s : Int) (hs : 0 ≤ s ∧ s ≤ 99) (right : Bool) (a b : List S79) (m : Int) (row : List S79) (hx : row.length ≤ 1048576) :
    Ev (fun k => spec_l12Row.f k s a b m row right) (if rowOk s right 0 row = true then (((used row).length : Int), ((row.length : Int) == 11)) else (0, false)) := by
  simp only [spec_l12Row.f]
  have h := specRow_l s hs right a b m row hx row.length 0 0 (by omega) (by omega)
  simpa using h
theorem l1Put_of (xs : List Int) (n : Int) (hx : xs.length ≤ 1000) : Ev (fun k => spec_l1Put.f k xs n) (Sets0.put xs n) := l1Put xs n (by omega)
theorem specKeys1_l (b : List S79) (hb : b.length ≤ 11) (d : Nat) : ∀ (i : Nat) (o : List Int), i + d = b.length → o.length ≤ 11 + i →
    Ev (fun k => spec_l12Keys.l1 k o b b.length i) ((used (b.drop i)).foldl Sets0.put o) := by
  induction d with
  | zero =>
    intro i o hi ho
    refine Ev.succ ?_
    simp only [spec_l12Keys.l1]
    rw [List.drop_of_length_le (by omega)]
    exact Ev.iteF (by omega) (Ev.now _)
  | succ d ih =>
    intro i o hi ho
    refine Ev.succ ?_
    simp only [spec_l12Keys.l1]
    rw [drop_cons b i (by omega), rdT_at _ _ (by omega : i < b.length), i_succ i (by omega), used_cons]
    generalize b[i]'(by omega) = x
    refine Ev.iteT (by omega) (Ev.iteT (by omega) (Ev.iteT (by omega) ?_))
    by_cases h : x.f0 = true
    · simp only [h, if_true, List.foldl_cons]
      have hp := Sets0.put_length x.f1 o
      exact Ev.bind (l1Put_of o x.f1 (by omega)) (ih (i + 1) _ (by omega) (by omega))
    · simp only [h, Bool.false_eq_true, if_false]
      exact ih (i + 1) _ (by omega) (by omega)
theorem specKeys0_l (s m : Int) (a0 a b : List S79) (ha : a.length ≤ 11) (hb : b.length ≤ 11) (d : Nat) : ∀ (i : Nat) (o : List Int), i + d = a.length → o.length ≤ i →
    Ev (fun k => spec_l12Keys.l0 k o a a.length i s a0 b m) ((used (a.drop i) ++ used b).foldl Sets0.put o) := by
  induction d with
  | zero =>
    intro i o hi ho
    refine Ev.succ ?_
    simp only [spec_l12Keys.l0]
    rw [List.drop_of_length_le (by omega)]
    refine Ev.iteF (by omega) ?_
    have h := specKeys1_l b hb b.length 0 o (by omega) (by omega)
    simpa [used] using h
  | succ d ih =>
    intro i o hi ho
    refine Ev.succ ?_
    simp only [spec_l12Keys.l0]
    rw [drop_cons a i (by omega), rdT_at _ _ (by omega : i < a.length), i_succ i (by omega), used_cons]
    generalize a[i]'(by omega) = x
    refine Ev.iteT (by omega) (Ev.iteT (by omega) (Ev.iteT (by omega) ?_))
    by_cases h : x.f0 = true
    · simp only [h, if_true, List.foldl_cons, List.cons_append]
      have hp := Sets0.put_length x.f1 o
      exact Ev.bind (l1Put_of o x.f1 (by omega)) (ih (i + 1) _ (by omega) (by omega))
    · simp only [h, Bool.false_eq_true, if_false]
      exact ih (i + 1) _ (by omega) (by omega)
theorem specKeys (s m : Int) (a b : List S79) (ha : a.length ≤ 11) (hb : b.length ≤ 11) : Ev (fun k => spec_l12Keys.f k s a b m) ((used a ++ used b).foldl Sets0.put []) := by
  simp only [spec_l12Keys.f]
  have h := specKeys0_l s m a a b ha hb a.length 0 [] (by omega) (by simp)
  simpa using h
/-- Whether a table is good. -/
def goodT (s : Int) (a b : List S79) (m : Int) : Bool := isSd s && (decide (a.length = 11) && (decide (b.length = 11) && ((rowOk s false 0 a && rowOk s true 0 b) && (decide ((((used a).length + (used b).length : Nat) : Int) = m) && decide ((((used a ++ used b).foldl Sets0.put []).length : Int) = m)))))
theorem specGood (s : Int) (a b : List S79) (m : Int) (ha : a.length ≤ 1048576) (hb : b.length ≤ 1048576) : Ev (fun k => spec_GoodTable.f k s a b m) (goodT s a b m) := by
  simp only [spec_GoodTable.f, specSeed, Option.bind_some]
  unfold goodT
  by_cases h1 : isSd s = true
  · have hs := (isSd_iff s).1 h1
    refine Ev.iteT h1 (Ev.bind (specRow s hs false a b m a ha) (Ev.bind (specRow s hs true a b m b hb) ?_))
    simp only [h1, Bool.true_and]
    by_cases h2 : rowOk s false 0 a = true
    · simp only [h2, if_true, Bool.true_and]
      by_cases h3 : a.length = 11
      · have e3 : (((a.length : Int)) == 11) = true := by simp; omega
        simp only [e3, decide_eq_true h3, Bool.true_and, if_true]
        by_cases h4 : rowOk s true 0 b = true
        · simp only [h4, if_true, Bool.true_and]
          by_cases h5 : b.length = 11
          · have e5 : (((b.length : Int)) == 11) = true := by simp; omega
            simp only [e5, decide_eq_true h5, Bool.true_and, if_true]
            have u1 := used_len a
            have u2 := used_len b
            rw [w64 (by omega) (by omega)]
            by_cases h6 : ((used a).length : Int) + ((used b).length : Int) = m
            · have h6' : (((used a).length + (used b).length : Nat) : Int) = m := by omega
              refine Ev.iteT h6 (Ev.bind (specKeys s m a b (by omega) (by omega)) ?_)
              simp only [h6', decide_true, Bool.true_and]
              exact Ev.now _
            · have h6' : ¬ (((used a).length + (used b).length : Nat) : Int) = m := by omega
              simp only [h6', decide_false, Bool.false_and]
              exact Ev.iteF h6 (Ev.now _)
          · have e5 : (((b.length : Int)) == 11) = false := by simp; omega
            simp only [e5, h5, decide_false, Bool.false_and, Bool.false_eq_true, if_false]
            exact Ev.now _
        · have h4' : rowOk s true 0 b = false := by simpa using h4
          simp only [h4', Bool.false_and, Bool.and_false, Bool.false_eq_true, if_false]
          exact Ev.now _
      · have e3 : (((a.length : Int)) == 11) = false := by simp; omega
        simp only [e3, h3, decide_false, Bool.false_and, Bool.false_eq_true, if_false]
        exact Ev.now _
    · have h2' : rowOk s false 0 a = false := by simpa using h2
      simp only [h2', Bool.false_and, Bool.and_false, Bool.false_eq_true, if_false]
      exact Ev.now _
  · have h1' : isSd s = false := by simpa using h1
    simp only [h1', Bool.false_and, Bool.false_eq_true, if_false]
    exact Ev.now _
/-- The used keys, place by place. -/
def inter : List S79 → List S79 → List Int
  | x :: t, y :: u => used [x] ++ (used [y] ++ inter t u)
  | _, _ => []
theorem inter_len : ∀ (a b : List S79), a.length = b.length → (inter a b).length = (used a).length + (used b).length
  | [], [], _ => rfl
  | x :: t, y :: u, h => by
    have ih := inter_len t u (by simpa using h)
    simp only [inter, List.length_append, ih, used_cons]
    split <;> split <;> simp [used] <;> omega
  | [], _ :: _, h => by simp at h
  | _ :: _, [], h => by simp at h
theorem inter_mem (z : Int) : ∀ (a b : List S79), a.length = b.length → (z ∈ inter a b ↔ z ∈ used a ∨ z ∈ used b)
  | [], [], _ => by simp [inter, used]
  | x :: t, y :: u, h => by
    have ih := inter_mem z t u (by simpa using h)
    simp only [inter, List.mem_append, ih, used_cons]
    have e : used ([] : List S79) = [] := rfl
    split <;> split <;> simp only [e, List.mem_cons, List.not_mem_nil, false_or, or_false, or_assoc, or_left_comm, or_comm]
  | [], _ :: _, h => by simp at h
  | _ :: _, [], h => by simp at h
theorem used_one (x : S79) : used [x] = if x.f0 = true then [x.f1] else [] := by
  rw [used_cons]
  rfl
theorem pairT (x y : S79) : rd_T79 [x, y] 0 = x ∧ rd_T79 [x, y] 1 = y := ⟨rfl, rfl⟩
theorem implKeys1 (s m : Int) (a b : List S79) (i : Int) (x y : S79) (o r : List Int) (ho : o.length ≤ 1000)
    (hr : Ev (fun k => impl_keysIn.l0 k (o ++ (used [x] ++ used [y])) (wrap64 (i + 1)) s a b m) r) : Ev (fun k => impl_keysIn.l1 k o i [x, y] 2 0 s a b m) r := by
  have u1 := used_len [x]
  simp only [List.length_cons, List.length_nil] at u1
  have step : ∀ o' : List Int, o' = o ++ used [x] → Ev (fun k => impl_keysIn.l1 k o' i [x, y] 2 1 s a b m) r := by
    rintro o' rfl
    refine Ev.succ ?_
    simp only [impl_keysIn.l1, (pairT x y).2, show wrap64 (1 + 1) = 2 by decide +kernel]
    refine Ev.iteT (by decide) (Ev.iteT (by decide) (Ev.iteT (by simp) ?_))
    by_cases h : y.f0 = true
    · refine Ev.iteT h (Ev.iteT (by simp; omega) (Ev.succ ?_))
      simp only [impl_keysIn.l1]
      refine Ev.iteF (by decide) ?_
      rw [used_one y, if_pos h, ← List.append_assoc] at hr
      exact hr
    · refine Ev.iteF h (Ev.succ ?_)
      simp only [impl_keysIn.l1]
      refine Ev.iteF (by decide) ?_
      rw [used_one y, if_neg h, List.append_nil] at hr
      exact hr
  refine Ev.succ ?_
  simp only [impl_keysIn.l1, (pairT x y).1, show wrap64 (0 + 1) = 1 by decide +kernel]
  refine Ev.iteT (by decide) (Ev.iteT (by decide) (Ev.iteT (by simp) ?_))
  by_cases h : x.f0 = true
  · exact Ev.iteT h (Ev.iteT (by omega) (step _ (by rw [used_one, if_pos h])))
  · exact Ev.iteF h (step _ (by rw [used_one, if_neg h, List.append_nil]))
theorem implKeys0_l (s m : Int) (a b : List S79) (ha : a.length = 11) (hb : b.length = 11) (d : Nat) : ∀ (i : Nat) (o : List Int), i + d = 11 → o.length ≤ 2 * i →
    Ev (fun k => impl_keysIn.l0 k o i s a b m) ((o ++ inter (a.drop i) (b.drop i)).mergeSort fun x y => decide (x ≤ y)) := by
  induction d with
  | zero =>
    intro i o hi ho
    refine Ev.succ ?_
    simp only [impl_keysIn.l0]
    rw [List.drop_of_length_le (by omega), List.drop_of_length_le (by omega)]
    refine Ev.iteF (by omega) ?_
    simp only [slices_Sort_int_int.f, inter, List.append_nil]
    refine Ev.bind0 (x := o.mergeSort fun x y => decide (x ≤ y)) (by rw [if_pos (by omega)]) (Ev.now _)
  | succ d ih =>
    intro i o hi ho
    refine Ev.succ ?_
    simp only [impl_keysIn.l0, Option.bind_some]
    rw [drop_cons a i (by omega), drop_cons b i (by omega), rdT_at _ _ (by omega : i < a.length), rdT_at _ _ (by omega : i < b.length)]
    generalize a[i]'(by omega) = x
    generalize b[i]'(by omega) = y
    refine Ev.iteT (by omega) (Ev.iteT (by omega) (Ev.iteT (by omega) (Ev.iteT (by omega) ?_)))
    have u1 := used_len [x]
    have u2 := used_len [y]
    simp only [List.length_cons, List.length_nil] at u1 u2
    have h := ih (i + 1) (o ++ (used [x] ++ used [y])) (by omega) (by simp; omega)
    rw [← i_succ i (by omega)] at h
    have h' := implKeys1 s m a b i x y o _ (by omega) h
    simpa [inter, List.append_assoc] using h'
theorem implKeys (s m : Int) (a b : List S79) (ha : a.length = 11) (hb : b.length = 11) : Ev (fun k => impl_keysIn.f k s a b m) ((inter a b).mergeSort fun x y => decide (x ≤ y)) := by
  simp only [impl_keysIn.f]
  have h := implKeys0_l s m a b ha hb 11 0 [] (by omega) (by simp)
  simpa using h
theorem fold_same (xs ys : List Int) (h : ∀ z, z ∈ xs ↔ z ∈ ys) : xs.foldl Sets0.put [] = ys.foldl Sets0.put [] :=
  Sets0.uniq _ _ (Sets0.fold_up xs [] List.Pairwise.nil) (Sets0.fold_up ys [] List.Pairwise.nil) (fun z => by rw [Sets0.fold_mem, Sets0.fold_mem, h z])
theorem implEnd (s m : Int) (a b : List S79) (ha : a.length = 11) (hb : b.length = 11) :
    Ev (fun k => (impl_keysIn.f k s a b m).bind fun t291 => (if m = (t291.length : Int) then ((slices_Compact_int_int.f t291).bind fun t294 => (some ((t294.length : Int) == m))) else (some false))) (decide ((((used a).length + (used b).length : Nat) : Int) = m) && decide ((((used a ++ used b).foldl Sets0.put []).length : Int) = m)) := by
  refine Ev.bind (implKeys s m a b ha hb) ?_
  have hl : ((inter a b).mergeSort fun x y => decide (x ≤ y)).length = (used a).length + (used b).length := by
    rw [List.length_mergeSort]
    exact inter_len a b (by omega)
  have u1 := used_len a
  have u2 := used_len b
  by_cases h : m = (((used a).length + (used b).length : Nat) : Int)
  · refine Ev.iteT (by rw [hl]; exact h) ?_
    simp only [slices_Compact_int_int.f]
    refine Ev.bind0 (x := (inter a b).foldl Sets0.put []) (by rw [if_pos (by rw [hl]; omega), Sets0.sort_compact]) ?_
    rw [fold_same (inter a b) (used a ++ used b) (fun z => by rw [inter_mem z a b (by omega), List.mem_append])]
    simp only [h.symm, decide_true, Bool.true_and]
    exact Ev.now _
  · have h' : ¬ (((used a).length + (used b).length : Nat) : Int) = m := fun e => h e.symm
    simp only [h', decide_false, Bool.false_and]
    exact Ev.iteF (by rw [hl]; exact h) (Ev.now _)
theorem implSlot (s : Int) (hs : 0 ≤ s ∧ s ≤ 99) (m : Int) (a b : List S79) (i : Nat) (x y z : S79) (j : Int) (right : Bool) (hj : j = 0 ∧ right = false ∧ z = x ∨ j = 1 ∧ right = true ∧ z = y) (r : Bool)
    (hr : Ev (fun k => impl_GoodTable.l1 k i i [x, y] 2 (wrap64 (j + 1)) s a b m) r) : Ev (fun k => impl_GoodTable.l1 k i i [x, y] 2 j s a b m) (if okSlot s right i z = true then r else false) := by
  have hz : rd_T79 [x, y] j = z := by rcases hj with ⟨rfl, _, rfl⟩ | ⟨rfl, _, rfl⟩ <;> rfl
  have hj2 : 0 ≤ j ∧ j < 2 := by omega
  refine Ev.succ ?_
  simp only [impl_GoodTable.l1, hz]
  refine Ev.iteT hj2.2 (Ev.iteT hj2.1 (Ev.iteT (by simp; omega) ?_))
  cases hf : z.f0 with
  | false =>
    simp only [okSlot, hf, Bool.false_eq_true, if_false, Bool.false_or]
    by_cases h1 : z.f1 = 0
    · by_cases h2 : z.f2 = 0
      · simp only [h1, h2, and_self, decide_true, if_true, beq_self_eq_true, Bool.not_true, Bool.or_self, Bool.false_eq_true, if_false]
        exact hr
      · have e2 : (z.f2 == 0) = false := by simpa using h2
        simp only [h1, h2, e2, and_false, decide_false, Bool.false_eq_true, if_false, beq_self_eq_true, Bool.not_true, Bool.not_false, Bool.false_or, if_true]
        exact Ev.now _
    · have e1 : (z.f1 == 0) = false := by simpa using h1
      simp only [h1, e1, false_and, decide_false, Bool.false_eq_true, if_false, Bool.not_false, Bool.true_or, if_true]
      exact Ev.now _
  | true =>
    simp only [okSlot, hf, if_true, implKey9, keyWithin9, Option.bind_some]
    by_cases h1 : isKB z.f1 = true
    · have hk := (isKB_iff _).1 h1
      obtain ⟨e1, _, _⟩ := tm1 s z.f1 hs hk
      obtain ⟨e2, _, _⟩ := tm2 s z.f1 hs hk
      simp only [h1, if_true, Bool.true_and]
      refine Ev.succ ?_
      simp only [impl_GoodTable.j3, impl_placesOf.f, Option.bind_some]
      by_cases h2 : isKB z.f2 = true
      · simp only [h2, Bool.not_true, Bool.false_eq_true, if_false, Bool.true_and]
        rw [e1, e2]
        have hp : rd [pl1 s z.f1, pl2 s z.f1] j = if right = true then pl2 s z.f1 else pl1 s z.f1 := by rcases hj with ⟨rfl, rfl, _⟩ | ⟨rfl, rfl, _⟩ <;> rfl
        rw [hp]
        refine Ev.iteT hj2.1 (Ev.iteT (by simp; omega) ?_)
        by_cases h3 : (i : Int) = if right = true then pl2 s z.f1 else pl1 s z.f1
        · simp only [decide_eq_true h3, if_true]
          exact Ev.iteT h3 hr
        · simp only [decide_eq_false h3, Bool.false_eq_true, if_false]
          exact Ev.iteF h3 (Ev.now _)
      · have h2' : isKB z.f2 = false := by simpa using h2
        simp only [h2', Bool.not_false, if_true, Bool.false_and, Bool.false_eq_true, if_false]
        exact Ev.now _
    · have h1' : isKB z.f1 = false := by simpa using h1
      simp only [h1', Bool.false_eq_true, if_false, Bool.false_and]
      refine Ev.succ ?_
      simp only [impl_GoodTable.j3, if_true]
      exact Ev.now _
theorem implGood_l (s : Int) (hs : 0 ≤ s ∧ s ≤ 99) (m : Int) (a b : List S79) (ha : a.length = 11) (hb : b.length = 11) (d : Nat) : ∀ (i : Nat), i + d = 11 →
    Ev (fun k => impl_GoodTable.l0 k i s a b m) ((rowOk s false i (a.drop i) && rowOk s true i (b.drop i)) && (decide ((((used a).length + (used b).length : Nat) : Int) = m) && decide ((((used a ++ used b).foldl Sets0.put []).length : Int) = m))) := by
  induction d with
  | zero =>
    intro i hi
    refine Ev.succ ?_
    simp only [impl_GoodTable.l0]
    rw [List.drop_of_length_le (by omega), List.drop_of_length_le (by omega)]
    simp only [rowOk, Bool.and_self, Bool.true_and]
    exact Ev.iteF (by omega) (implEnd s m a b ha hb)
  | succ d ih =>
    intro i hi
    refine Ev.succ ?_
    simp only [impl_GoodTable.l0, Option.bind_some]
    rw [drop_cons a i (by omega), drop_cons b i (by omega), rdT_at _ _ (by omega : i < a.length), rdT_at _ _ (by omega : i < b.length)]
    generalize a[i]'(by omega) = x
    generalize b[i]'(by omega) = y
    refine Ev.iteT (by omega) (Ev.iteT (by omega) (Ev.iteT (by omega) (Ev.iteT (by omega) ?_)))
    have h := ih (i + 1) (by omega)
    rw [← i_succ i (by omega)] at h
    generalize hE : (decide ((((used a).length + (used b).length : Nat) : Int) = m) && decide ((((used a ++ used b).foldl Sets0.put []).length : Int) = m)) = E at *
    have h2 : Ev (fun k => impl_GoodTable.l1 k i i [x, y] 2 (wrap64 (1 + 1)) s a b m) ((rowOk s false (i + 1) (a.drop (i + 1)) && rowOk s true (i + 1) (b.drop (i + 1))) && E) := by
      refine Ev.succ ?_
      simp only [impl_GoodTable.l1]
      exact Ev.iteF (by decide +kernel) h
    have h1 := implSlot s hs m a b i x y y 1 true (.inr ⟨rfl, rfl, rfl⟩) _ h2
    have h0 := implSlot s hs m a b i x y x 0 false (.inl ⟨rfl, rfl, rfl⟩) _ (by rw [show wrap64 (0 + 1) = 1 by decide +kernel]; exact h1)
    simp only [rowOk]
    have e : (if okSlot s false i x = true then (if okSlot s true i y = true then ((rowOk s false (i + 1) (a.drop (i + 1)) && rowOk s true (i + 1) (b.drop (i + 1))) && E) else false) else false) = ((okSlot s false i x && rowOk s false (i + 1) (a.drop (i + 1)) && (okSlot s true i y && rowOk s true (i + 1) (b.drop (i + 1)))) && E) := by
      cases okSlot s false i x <;> cases okSlot s true i y <;> simp
    rw [← e]
    exact h0
theorem implGood (s : Int) (a b : List S79) (m : Int) : Ev (fun k => impl_GoodTable.f k s a b m) (goodT s a b m) := by
  simp only [impl_GoodTable.f, implSeed, Option.bind_some]
  unfold goodT
  by_cases h1 : isSd s = true
  · have hs := (isSd_iff s).1 h1
    simp only [h1, Bool.true_and, if_true]
    by_cases h2 : a.length = 11
    · simp only [h2, decide_true, Bool.true_and]
      refine Ev.iteT (by omega) (Ev.succ ?_)
      simp only [impl_GoodTable.j0]
      by_cases h3 : b.length = 11
      · have e3 : ((b.length : Int) != 11) = false := by simp; omega
        simp only [e3, h3, decide_true, Bool.true_and, Bool.false_eq_true, if_false]
        have h := implGood_l s hs m a b h2 h3 11 0 (by omega)
        simpa using h
      · have e3 : ((b.length : Int) != 11) = true := by simp; omega
        simp only [e3, h3, decide_false, Bool.false_and, if_true]
        exact Ev.now _
    · simp only [h2, decide_false, Bool.false_and]
      refine Ev.iteF (by omega) (Ev.succ ?_)
      simp only [impl_GoodTable.j0, if_true]
      exact Ev.now _
  · have h1' : isSd s = false := by simpa using h1
    simp only [h1', Bool.false_and, Bool.false_eq_true, if_false]
    refine Ev.succ ?_
    simp only [impl_GoodTable.j0, if_true]
    exact Ev.now _
theorem rowOk_keys (s : Int) (right : Bool) (l : List S79) : ∀ i, rowOk s right i l = true → ∀ x ∈ l, isK x.f1 := by
  induction l with
  | nil => intro i _ x hx; cases hx
  | cons y t ih =>
    intro i h x hx
    simp only [rowOk, Bool.and_eq_true] at h
    rcases List.mem_cons.mp hx with rfl | hx
    · have h1 := h.1
      unfold okSlot at h1
      split at h1
      · simp only [Bool.and_eq_true] at h1
        exact (isKB_iff _).1 h1.1
      · have := of_decide_eq_true h1
        rw [this.1]
        simp [isK]
    · exact ih _ h.2 x hx
theorem row11_of (s : Int) (right : Bool) (l : List S79) (hl : l.length = 11) (h : rowOk s right 0 l = true) : Row11 l := by
  refine ⟨hl, fun j j0 j1 => ?_⟩
  obtain ⟨m, rfl⟩ : ∃ m : Nat, j = (m : Int) := ⟨j.toNat, by omega⟩
  rw [rdT_at _ m (by omega)]
  exact rowOk_keys s right l 0 h _ (List.getElem_mem _)
theorem good_row (s : Int) (a b : List S79) (m : Int) (h : goodT s a b m = true) : (0 ≤ s ∧ s ≤ 99) ∧ Row11 a ∧ Row11 b := by
  unfold goodT at h
  simp only [Bool.and_eq_true, decide_eq_true_eq] at h
  exact ⟨(isSd_iff s).1 h.1, row11_of s false a h.2.1 h.2.2.2.1.1, row11_of s true b h.2.2.1 h.2.2.2.1.2⟩

theorem compact_self (l : List Int) (h : (Lib.compact l).length = l.length) : Lib.compact l = l := by
  have hc : ∀ (p : Nat → Bool), ((List.range l.length).filter p).length = l.length → (List.range l.length).filter p = List.range l.length := by
    intro p hp
    have hs := List.filter_sublist (p := p) (l := List.range l.length)
    exact hs.eq_of_length (by rw [hp, List.length_range])
  unfold Lib.compact Lib.compactUpTo at *
  rw [List.length_map] at h
  try simp only [List.size_toArray] at *
  rw [hc _ h]
  refine List.ext_getElem (by simp) (fun i h1 h2 => ?_)
  simp [getElem!_pos, h2]
theorem keys_same (s : Int) (a b : List S79) (m : Int) (h : goodT s a b m = true) : ((inter a b).mergeSort fun x y => decide (x ≤ y)) = (used a ++ used b).foldl Sets0.put [] := by
  unfold goodT at h
  simp only [Bool.and_eq_true, decide_eq_true_eq] at h
  obtain ⟨_, la, lb, _, h1, h2⟩ := h
  have hl : ((inter a b).mergeSort fun x y => decide (x ≤ y)).length = (used a).length + (used b).length := by
    rw [List.length_mergeSort]
    exact inter_len a b (by omega)
  have hf : (inter a b).foldl Sets0.put [] = (used a ++ used b).foldl Sets0.put [] := fold_same (inter a b) (used a ++ used b) (fun z => by rw [inter_mem z a b (by omega), List.mem_append])
  have hs := Sets0.sort_compact (inter a b)
  rw [hf] at hs
  rw [← hs]
  exact (compact_self _ (by rw [hs, hl]; omega)).symm
theorem rowOk_at (s : Int) (right : Bool) (l : List S79) : ∀ (n i : Nat) (hi : i < l.length), rowOk s right n l = true → okSlot s right (n + i) (l[i]) = true := by
  induction l with
  | nil => intro n i hi; simp at hi
  | cons y t ih =>
    intro n i hi h
    simp only [rowOk, Bool.and_eq_true] at h
    cases i with
    | zero => simpa using h.1
    | succ i =>
      have := ih (n + 1) i (by simpa using hi) h.2
      simpa [Nat.add_assoc, Nat.add_comm 1 i] using this
theorem used_has (s : Int) (right : Bool) (l : List S79) (hl : l.length = 11) (h : rowOk s right 0 l = true) (key : Int) (hk : key ∈ used l) : isK key ∧ has l (if right = true then pl2 s key else pl1 s key) key = true := by
  unfold used at hk
  obtain ⟨x, hx, rfl⟩ := List.mem_map.mp hk
  obtain ⟨hx1, hx2⟩ := List.mem_filter.mp hx
  obtain ⟨i, hi, rfl⟩ := List.getElem_of_mem hx1
  have ho := rowOk_at s right l 0 i hi h
  simp only [okSlot, hx2, if_true, Bool.and_eq_true, decide_eq_true_eq, Nat.zero_add] at ho
  refine ⟨(isKB_iff _).1 ho.1, ?_⟩
  rw [← ho.2.2]
  unfold has
  rw [rdT_at _ i hi]
  simp [hx2]
/-- The value that a table holds at a key. -/
def valOf (s : Int) (a b : List S79) (key : Int) : Int := if has a (pl1 s key) key = true then (rd_T79 a (pl1 s key)).f2 else if has b (pl2 s key) key = true then (rd_T79 b (pl2 s key)).f2 else 0
theorem key_found (s : Int) (a b : List S79) (m key : Int) (h : goodT s a b m = true) (hk : key ∈ (used a ++ used b).foldl Sets0.put []) : isK key ∧ (has a (pl1 s key) key = true ∨ has b (pl2 s key) key = true) := by
  rw [Sets0.fold_mem] at hk
  unfold goodT at h
  simp only [Bool.and_eq_true, decide_eq_true_eq] at h
  rcases hk with hk | hk
  · rcases List.mem_append.mp hk with hk | hk
    · have := used_has s false a h.2.1 h.2.2.2.1.1 key hk
      simp only [Bool.false_eq_true, if_false] at this
      exact ⟨this.1, .inl this.2⟩
    · have := used_has s true b h.2.2.1 h.2.2.2.1.2 key hk
      simp only [if_true] at this
      exact ⟨this.1, .inr this.2⟩
  · cases hk
/-- The keys put, one after the other. -/
def reh (s2 : Int) (val : Int → Int) : List Int → List S79 → List S79 → Int → List S79 × List S79 × Int × Bool
  | [], p, q, c => (p, q, c, true)
  | k :: t, p, q, c => if (putT s2 p q c k (val k)).2.2.2.2 = true then reh s2 val t (putT s2 p q c k (val k)).1 (putT s2 p q c k (val k)).2.1 (putT s2 p q c k (val k)).2.2.1 else ([], [], 0, false)
theorem reh_len (s2 : Int) (hs : 0 ≤ s2 ∧ s2 ≤ 99) (val : Int → Int) (ks : List Int) : ∀ (p q : List S79) (c : Int), (∀ k ∈ ks, isK k) → Row11 p → Row11 q → (reh s2 val ks p q c).1.length ≤ 11 ∧ (reh s2 val ks p q c).2.1.length ≤ 11 := by
  induction ks with
  | nil => intro p q c _ hp hq; have := hp.1; have := hq.1; simp only [reh]; omega
  | cons k t ih =>
    intro p q c hk hp hq
    simp only [reh]
    split
    · have hv := putT_inv s2 p q c k (val k) hs (hk k (List.mem_cons_self ..)) hp hq
      exact ih _ _ _ (fun z hz => hk z (List.mem_cons_of_mem _ hz)) hv.1 hv.2
    · simp
theorem implReh_l (s s2 : Int) (hs : 0 ≤ s ∧ s ≤ 99) (hs2 : 0 ≤ s2 ∧ s2 ≤ 99) (a b : List S79) (ha : Row11 a) (hb : Row11 b) (ks : List Int) (hn : ks.length ≤ 22) (hks : ∀ k ∈ ks, isK k ∧ (has a (pl1 s k) k = true ∨ has b (pl2 s k) k = true)) (d : Nat) : ∀ (i : Nat) (p q : List S79) (c : Int), i + d = ks.length → Row11 p → Row11 q →
    Ev (fun k => impl_RehashTo.l0 k ks i s a b s2 p q c) (if (reh s2 (valOf s a b) (ks.drop i) p q c).2.2.2 = true then (s2, (reh s2 (valOf s a b) (ks.drop i) p q c).1, (reh s2 (valOf s a b) (ks.drop i) p q c).2.1, (reh s2 (valOf s a b) (ks.drop i) p q c).2.2.1, true) else (0, [], [], 0, false)) := by
  induction d with
  | zero =>
    intro i p q c hi hp hq
    refine Ev.succ ?_
    simp only [impl_RehashTo.l0]
    rw [List.drop_of_length_le (by omega)]
    simp only [reh, if_true]
    exact Ev.iteT (by omega) (Ev.iteF (by omega) (Ev.now _))
  | succ d ih =>
    intro i p q c hi hp hq
    refine Ev.succ ?_
    simp only [impl_RehashTo.l0]
    have hx := hks (ks[i]'(by omega)) (List.getElem_mem _)
    rw [drop_cons ks i (by omega), rd_at _ _ (by omega : i < ks.length), i_succ i (by omega)]
    generalize ks[i]'(by omega) = key at *
    refine Ev.iteT (by omega) (Ev.iteT (by omega) ?_)
    rw [implFind s a b key hs hx.1 ha hb]
    have hval : impl_RehashTo.val a b (if has a (pl1 s key) key = true then (1, pl1 s key) else if has b (pl2 s key) key = true then (2, pl2 s key) else (0, 0)) = some (valOf s a b key) := by
      unfold impl_RehashTo.val valOf
      by_cases h1 : has a (pl1 s key) key = true
      · simp only [if_pos h1, if_true]
      · have h2 : has b (pl2 s key) key = true := hx.2.resolve_left h1
        simp only [if_neg h1, if_pos h2, show ¬ ((2 : Int) = 1) by decide, if_true, if_false]
    simp only [Option.bind_some, hval, reh]
    have hv := putT_inv s2 p q c key (valOf s a b key) hs2 hx.1 hp hq
    refine Ev.bind (implPutT s2 p q c key (valOf s a b key) hs2 hx.1 hp hq) ?_
    by_cases hf : (putT s2 p q c key (valOf s a b key)).2.2.2.2 = true
    · simp only [hf, if_true]
      exact ih (i + 1) _ _ _ (by omega) hv.1 hv.2
    · have hf' : (putT s2 p q c key (valOf s a b key)).2.2.2.2 = false := by simpa using hf
      simp only [hf', Bool.false_eq_true, if_false]
      exact Ev.now _
theorem specFindVal (s : Int) (a b : List S79) (m key : Int) (h : goodT s a b m = true) (hk : isK key) (hf : has a (pl1 s key) key = true ∨ has b (pl2 s key) key = true) : ∃ o : Bool, Ev (fun k => spec_FindKey.f k s a b m key) (valOf s a b key, o) := by
  obtain ⟨hs, ha, hb⟩ := good_row s a b m h
  obtain ⟨_, p0, p1⟩ := tm1 s key hs hk
  obtain ⟨_, q0, q1⟩ := tm2 s key hs hk
  have la := ha.1
  have lb := hb.1
  refine ⟨true, ?_⟩
  simp only [spec_FindKey.f]
  have hg := specGood s a b m (by omega) (by omega)
  rw [h] at hg
  refine Ev.bind hg (Ev.iteT rfl ?_)
  simp only [specKey9, (isKB_iff key).2 hk, Option.bind_some, Bool.not_true]
  refine Ev.succ ?_
  simp only [spec_FindKey.j0, Bool.false_eq_true, if_false]
  refine Ev.bind (specAt s a b m key hs hk ha hb) ?_
  unfold valOf
  by_cases h1 : has a (pl1 s key) key = true
  · simp only [if_pos h1, if_true, Bool.false_eq_true, if_false]
    exact Ev.iteT p0 (Ev.iteT (by omega) (Ev.now _))
  · have h2 : has b (pl2 s key) key = true := hf.resolve_left h1
    simp only [if_neg h1, if_pos h2, if_true]
    exact Ev.iteT q0 (Ev.iteT (by omega) (Ev.now _))
theorem specReh_l (s s2 m : Int) (a b : List S79) (hg : goodT s a b m = true) (hs2 : 0 ≤ s2 ∧ s2 ≤ 99) (ks : List Int) (hn : ks.length ≤ 22) (hks : ∀ k ∈ ks, isK k ∧ (has a (pl1 s k) k = true ∨ has b (pl2 s k) k = true)) (d : Nat) : ∀ (i : Nat) (p q : List S79) (c : Int), i + d = ks.length → Row11 p → Row11 q →
    Ev (fun k => spec_RehashTo.l0 k ks ks.length i s a b m s2 p q c) (if (reh s2 (valOf s a b) (ks.drop i) p q c).2.2.2 = true then (s2, (reh s2 (valOf s a b) (ks.drop i) p q c).1, (reh s2 (valOf s a b) (ks.drop i) p q c).2.1, (reh s2 (valOf s a b) (ks.drop i) p q c).2.2.1, true) else (0, [], [], 0, false)) := by
  induction d with
  | zero =>
    intro i p q c hi hp hq
    refine Ev.succ ?_
    simp only [spec_RehashTo.l0]
    rw [List.drop_of_length_le (by omega)]
    simp only [reh, if_true]
    exact Ev.iteF (by omega) (Ev.now _)
  | succ d ih =>
    intro i p q c hi hp hq
    refine Ev.succ ?_
    simp only [spec_RehashTo.l0]
    have hx := hks (ks[i]'(by omega)) (List.getElem_mem _)
    rw [drop_cons ks i (by omega), rd_at _ _ (by omega : i < ks.length), i_succ i (by omega)]
    generalize ks[i]'(by omega) = key at *
    refine Ev.iteT (by omega) (Ev.iteT (by omega) (Ev.iteT (by omega) ?_))
    obtain ⟨o, hv0⟩ := specFindVal s a b m key hg hx.1 hx.2
    refine Ev.bind hv0 (Ev.bind (specPutT s2 p q c key (valOf s a b key) hs2 hx.1 hp hq) ?_)
    simp only [reh]
    have hv := putT_inv s2 p q c key (valOf s a b key) hs2 hx.1 hp hq
    by_cases hf : (putT s2 p q c key (valOf s a b key)).2.2.2.2 = true
    · simp only [hf, if_true]
      exact ih (i + 1) _ _ _ (by omega) hv.1 hv.2
    · have hf' : (putT s2 p q c key (valOf s a b key)).2.2.2.2 = false := by simpa using hf
      simp only [hf', Bool.false_eq_true, if_false]
      exact Ev.now _
/-- What putting a table's keys anew tells. -/
def rehT (s : Int) (a b : List S79) (m s2 : Int) : Int × List S79 × List S79 × Int × Bool :=
  if goodT s a b m = true ∧ isSd s2 = true ∧ (reh s2 (valOf s a b) ((used a ++ used b).foldl Sets0.put []) (List.replicate 11 z79) (List.replicate 11 z79) 0).2.2.2 = true then (s2, (reh s2 (valOf s a b) ((used a ++ used b).foldl Sets0.put []) (List.replicate 11 z79) (List.replicate 11 z79) 0).1, (reh s2 (valOf s a b) ((used a ++ used b).foldl Sets0.put []) (List.replicate 11 z79) (List.replicate 11 z79) 0).2.1, (reh s2 (valOf s a b) ((used a ++ used b).foldl Sets0.put []) (List.replicate 11 z79) (List.replicate 11 z79) 0).2.2.1, true) else (0, [], [], 0, false)
theorem keys_len (s : Int) (a b : List S79) (m : Int) (h : goodT s a b m = true) : ((used a ++ used b).foldl Sets0.put []).length ≤ 22 := by
  have h1 := Sets0.fold_length (used a ++ used b) []
  have u1 := used_len a
  have u2 := used_len b
  obtain ⟨_, ha, hb⟩ := good_row s a b m h
  have la := ha.1
  have lb := hb.1
  simp only [List.length_append, List.length_nil] at h1
  omega
theorem rehT_len (s : Int) (a b : List S79) (m s2 : Int) : (rehT s a b m s2).2.1.length ≤ 11 ∧ (rehT s a b m s2).2.2.1.length ≤ 11 := by
  unfold rehT
  split
  · rename_i h
    exact reh_len s2 ((isSd_iff s2).1 h.2.1) _ _ _ _ 0 (fun k hk => (key_found s a b m k h.1 hk).1) Row11.new Row11.new
  · simp
theorem implNew (s2 : Int) : impl_NewTable.f s2 = some (if isSd s2 = true then (s2, List.replicate 11 z79, List.replicate 11 z79, 0, true) else (0, [], [], 0, false)) := by
  simp only [impl_NewTable.f, implSeed, Option.bind_some]
  by_cases h : isSd s2 = true
  · rw [if_pos h, if_pos (by decide), if_pos h]
  · rw [if_neg h, if_neg h]
theorem implReh (s : Int) (a b : List S79) (m s2 : Int) : Ev (fun k => impl_RehashTo.f k s a b m s2) (rehT s a b m s2) := by
  simp only [impl_RehashTo.f, implNew, Option.bind_some]
  unfold rehT
  by_cases h2 : isSd s2 = true
  · simp only [h2, if_true, true_and]
    refine Ev.bind (implGood s a b m) ?_
    by_cases h1 : goodT s a b m = true
    · obtain ⟨hs, ha, hb⟩ := good_row s a b m h1
      have la := ha.1
      have lb := hb.1
      simp only [h1, if_true, true_and]
      have hkk := implKeys s m a b la lb
      rw [keys_same s a b m h1] at hkk
      refine Ev.bind hkk ?_
      have h := implReh_l s s2 hs ((isSd_iff s2).1 h2) a b ha hb _ (keys_len s a b m h1) (fun k hk => key_found s a b m k h1 hk) ((used a ++ used b).foldl Sets0.put []).length 0 _ _ 0 (by omega) Row11.new Row11.new
      simpa using h
    · simp only [h1, Bool.false_eq_true, if_false, false_and]
      exact Ev.now _
  · simp only [h2, Bool.false_eq_true, if_false, false_and, and_false]
    exact Ev.now _
theorem specReh (s : Int) (a b : List S79) (m s2 : Int) (ha' : a.length ≤ 1048576) (hb' : b.length ≤ 1048576) : Ev (fun k => spec_RehashTo.f k s a b m s2) (rehT s a b m s2) := by
  have bad : Ev (fun k => spec_RehashTo.j0 k s2 true s a b m) (0, [], [], 0, false) := by
    refine Ev.succ ?_
    simp only [spec_RehashTo.j0, if_true]
    exact Ev.now _
  simp only [spec_RehashTo.f, specSeed, Option.bind_some]
  unfold rehT
  refine Ev.bind (specGood s a b m ha' hb') ?_
  by_cases h1 : goodT s a b m = true
  · obtain ⟨hs, ha, hb⟩ := good_row s a b m h1
    have la := ha.1
    have lb := hb.1
    refine Ev.iteT h1 ?_
    simp only [h1, true_and]
    by_cases h2 : isSd s2 = true
    · refine Ev.succ ?_
      simp only [spec_RehashTo.j0, spec_l12New.f, h2, Bool.not_true, Bool.false_eq_true, if_false, true_and]
      refine Ev.bind0 (x := (s2, List.replicate 11 z79, List.replicate 11 z79, 0)) (by rw [if_pos (by decide)]) ?_
      refine Ev.bind (specKeys s m a b (by omega) (by omega)) ?_
      have h := specReh_l s s2 m a b h1 ((isSd_iff s2).1 h2) _ (keys_len s a b m h1) (fun k hk => key_found s a b m k h1 hk) ((used a ++ used b).foldl Sets0.put []).length 0 _ _ 0 (by omega) Row11.new Row11.new
      simpa using h
    · have h2' : isSd s2 = false := by simpa using h2
      simp only [h2', Bool.not_false, Bool.false_eq_true, if_false, false_and]
      exact bad
  · simp only [h1, Bool.false_eq_true, if_false, false_and]
    exact bad

theorem FnExactRehashTo : laws_FnExactRehashTo.Pure := by
  intro s a b m s2 _ ha hb _ _
  refine Ev.rounds (g := fun k => laws_FnExactRehashTo.f k s a b m s2) ?_
  simp only [laws_FnExactRehashTo.f]
  obtain ⟨r, hr, hq | ⟨h1, _, la, lb⟩⟩ := szTable s a b m ha.1 hb.1
  · exact Ev.bind hr (Ev.iteT hq (Ev.now _))
  · refine Ev.bind hr (Ev.iteF (by omega) ?_)
    have hto := toTable s a b m la lb
    have la' : (a.map conv).length ≤ 1048576 := by simpa using la
    have lb' : (b.map conv).length ≤ 1048576 := by simpa using lb
    generalize a.map conv = x at *
    generalize b.map conv = y at *
    obtain ⟨l1, l2⟩ := rehT_len s x y m s2
    have hspec := specReh s x y m s2 la' lb'
    have himpl := implReh s x y m s2
    generalize rehT s x y m s2 = T at *
    obtain ⟨s', p, q, m', ok⟩ := T
    simp only at l1 l2
    refine Ev.bind hto (Ev.bind hspec (Ev.bind hto (Ev.bind himpl ?_)))
    simp only
    refine Ev.bind (eqTable s' p q m' (by omega) (by omega)) (Ev.iteT rfl (Ev.iteF (by simp) ?_))
    refine Ev.bind hto (Ev.bind (eqTable s x y m la' lb') (Ev.iteT rfl ?_))
    refine Ev.bind (markTable s x y m la' lb') (Ev.iteF (by simp only; omega) ?_)
    refine Ev.bind (eqTable s' p q m' (by omega) (by omega)) (Ev.iteT rfl ?_)
    refine Ev.bind (markTable s' p q m' (by omega) (by omega)) ?_
    refine Ev.bind (heldTable s' m' p.length q.length (by omega) (by omega)) (Ev.iteF (by omega) (Ev.iteT rfl ?_))
    refine Ev.bind hto (Ev.bind himpl ?_)
    simp only
    refine Ev.bind (eqTable s' p q m' (by omega) (by omega)) (Ev.iteT rfl (Ev.iteF (by simp) ?_))
    refine Ev.bind (heldTable s' m' p.length q.length (by omega) (by omega)) (Ev.iteF (by omega) ?_)
    exact Ev.iteT rfl (Ev.now _)

end Go.Proofs.Ytemnidhllbbjnaa.Pure
