/- The program's GoodScrub and the reference's answer the same for every scrub. No condition. -/
import Derived.Test.YtgnijlfakjjfcaaPureDefFnExactGoodScrub
import Derived.Test.YtgnijlfakjjfcaaLib
import Derived.Test.YtgnijlfakjjfcaaSets
namespace Go.Proofs.Ytgnijlfakjjfcaa.Pure
open Go.RowKit Go.Proofs.Ytgnijlfakjjfcaa.XFnExactGoodScrub Go.Proofs.YtgnijlfakjjfcaaW.PrintWords Go.Proofs.YtgnijlfakjjfcaaW.PrintLast Go.Proofs.Ytgnijlfakjjfcaa.Lib0
set_option linter.unusedVariables false
set_option linter.unusedSimpArgs false

theorem toBoolS_l (xs : List Bool) (hx : xs.length ≤ 1048576) (d : Nat) : ∀ (i : Nat) (out : List Bool) (k : Nat), i + d = xs.length → out.length = xs.length → d < k → laws_toBoolS.l0 k xs out i = some (out.take i ++ xs.drop i) := by
  induction d with
  | zero =>
    intro i out k h1 h2 hk
    obtain ⟨k, rfl⟩ : ∃ m, k = m + 1 := ⟨k - 1, by omega⟩
    simp only [laws_toBoolS.l0]
    rw [if_neg (by omega), List.take_of_length_le (by omega), List.drop_of_length_le (by omega), List.append_nil]
  | succ d ih =>
    intro i out k h1 h2 hk
    obtain ⟨k, rfl⟩ : ∃ m, k = m + 1 := ⟨k - 1, by omega⟩
    simp only [laws_toBoolS.l0]
    rw [if_pos (by omega), if_pos (by omega), if_pos (by omega), i_succ i (by omega), rdOf_at _ _ _ (by omega : i < xs.length), Int.toNat_natCast, ih (i + 1) _ k (by omega) (by simpa using h2) (by omega), copy_step _ _ _ (by omega) (by omega)]
theorem toBoolS (xs : List Bool) (hx : xs.length ≤ 1048576) : Ev (fun k => laws_toBoolS.f k xs) xs := by
  refine ⟨xs.length + 1, fun k hk => ?_⟩
  simp only [laws_toBoolS.f]
  rw [if_pos (by omega), if_pos (by omega), show ((0 : Int)) = ((0 : Nat) : Int) from rfl, toBoolS_l xs hx xs.length 0 _ k (by omega) (by simp) (by omega)]
  simp

theorem toIntS_l (xs : List Int) (hx : xs.length ≤ 1048576) (d : Nat) : ∀ (i : Nat) (out : List Int) (k : Nat), i + d = xs.length → out.length = xs.length → d < k → laws_toIntS.l0 k xs out i = some (out.take i ++ xs.drop i) := by
  induction d with
  | zero =>
    intro i out k h1 h2 hk
    obtain ⟨k, rfl⟩ : ∃ m, k = m + 1 := ⟨k - 1, by omega⟩
    simp only [laws_toIntS.l0]
    rw [if_neg (by omega), List.take_of_length_le (by omega), List.drop_of_length_le (by omega), List.append_nil]
  | succ d ih =>
    intro i out k h1 h2 hk
    obtain ⟨k, rfl⟩ : ∃ m, k = m + 1 := ⟨k - 1, by omega⟩
    simp only [laws_toIntS.l0]
    rw [if_pos (by omega), if_pos (by omega), if_pos (by omega), i_succ i (by omega), rd_at _ _ (by omega : i < xs.length), Int.toNat_natCast, ih (i + 1) _ k (by omega) (by simpa using h2) (by omega), copy_step _ _ _ (by omega) (by omega)]
theorem toIntS (xs : List Int) (hx : xs.length ≤ 1048576) : Ev (fun k => laws_toIntS.f k xs) xs := by
  refine ⟨xs.length + 1, fun k hk => ?_⟩
  simp only [laws_toIntS.f]
  rw [if_pos (by omega), if_pos (by omega), show ((0 : Int)) = ((0 : Nat) : Int) from rfl, toIntS_l xs hx xs.length 0 _ k (by omega) (by simp) (by omega)]
  simp

theorem toStringS_l (xs : List ByteArray) (hx : xs.length ≤ 1048576) (d : Nat) : ∀ (i : Nat) (out : List ByteArray) (k : Nat), i + d = xs.length → out.length = xs.length → d < k → laws_toStringS.l0 k xs out i = some (out.take i ++ xs.drop i) := by
  induction d with
  | zero =>
    intro i out k h1 h2 hk
    obtain ⟨k, rfl⟩ : ∃ m, k = m + 1 := ⟨k - 1, by omega⟩
    simp only [laws_toStringS.l0]
    rw [if_neg (by omega), List.take_of_length_le (by omega), List.drop_of_length_le (by omega), List.append_nil]
  | succ d ih =>
    intro i out k h1 h2 hk
    obtain ⟨k, rfl⟩ : ∃ m, k = m + 1 := ⟨k - 1, by omega⟩
    simp only [laws_toStringS.l0]
    rw [if_pos (by omega), if_pos (by omega), if_pos (by omega), i_succ i (by omega), rdOf_at _ _ _ (by omega : i < xs.length), Int.toNat_natCast, ih (i + 1) _ k (by omega) (by simpa using h2) (by omega), copy_step _ _ _ (by omega) (by omega)]
theorem toStringS (xs : List ByteArray) (hx : xs.length ≤ 1048576) : Ev (fun k => laws_toStringS.f k xs) xs := by
  refine ⟨xs.length + 1, fun k hk => ?_⟩
  simp only [laws_toStringS.f]
  rw [if_pos (by omega), if_pos (by omega), show ((0 : Int)) = ((0 : Nat) : Int) from rfl, toStringS_l xs hx xs.length 0 _ k (by omega) (by simp) (by omega)]
  simp

theorem eqBoolS_l (xs : List Bool) (hx : xs.length ≤ 1048576) (d : Nat) : ∀ (i : Nat) (k : Nat), i + d = xs.length → d < k → laws_eqBoolS.l0 k xs xs i = some true := by
  induction d with
  | zero =>
    intro i k h1 hk
    obtain ⟨k, rfl⟩ : ∃ m, k = m + 1 := ⟨k - 1, by omega⟩
    simp only [laws_eqBoolS.l0]
    rw [if_neg (by omega)]
  | succ d ih =>
    intro i k h1 hk
    obtain ⟨k, rfl⟩ : ∃ m, k = m + 1 := ⟨k - 1, by omega⟩
    simp only [laws_eqBoolS.l0]
    rw [if_pos (by omega), if_pos (by omega), if_pos (by omega), if_neg (by simp), i_succ i (by omega), ih (i + 1) k (by omega) (by omega)]
theorem eqBoolS (xs : List Bool) (hx : xs.length ≤ 1048576) : Ev (fun k => laws_eqBoolS.f k xs xs) true := by
  refine ⟨xs.length + 1, fun k hk => ?_⟩
  simp only [laws_eqBoolS.f, if_true]
  exact eqBoolS_l xs hx xs.length 0 k (by omega) (by omega)

theorem eqIntS_l (xs : List Int) (hx : xs.length ≤ 1048576) (d : Nat) : ∀ (i : Nat) (k : Nat), i + d = xs.length → d < k → laws_eqIntS.l0 k xs xs i = some true := by
  induction d with
  | zero =>
    intro i k h1 hk
    obtain ⟨k, rfl⟩ : ∃ m, k = m + 1 := ⟨k - 1, by omega⟩
    simp only [laws_eqIntS.l0]
    rw [if_neg (by omega)]
  | succ d ih =>
    intro i k h1 hk
    obtain ⟨k, rfl⟩ : ∃ m, k = m + 1 := ⟨k - 1, by omega⟩
    simp only [laws_eqIntS.l0]
    rw [if_pos (by omega), if_pos (by omega), if_pos (by omega), if_pos trivial, i_succ i (by omega), ih (i + 1) k (by omega) (by omega)]
theorem eqIntS (xs : List Int) (hx : xs.length ≤ 1048576) : Ev (fun k => laws_eqIntS.f k xs xs) true := by
  refine ⟨xs.length + 1, fun k hk => ?_⟩
  simp only [laws_eqIntS.f, if_true]
  exact eqIntS_l xs hx xs.length 0 k (by omega) (by omega)

theorem eqStringS_l (xs : List ByteArray) (hx : xs.length ≤ 1048576) (d : Nat) : ∀ (i : Nat) (k : Nat), i + d = xs.length → d < k → laws_eqStringS.l0 k xs xs i = some true := by
  induction d with
  | zero =>
    intro i k h1 hk
    obtain ⟨k, rfl⟩ : ∃ m, k = m + 1 := ⟨k - 1, by omega⟩
    simp only [laws_eqStringS.l0]
    rw [if_neg (by omega)]
  | succ d ih =>
    intro i k h1 hk
    obtain ⟨k, rfl⟩ : ∃ m, k = m + 1 := ⟨k - 1, by omega⟩
    simp only [laws_eqStringS.l0]
    rw [if_pos (by omega), if_pos (by omega), if_pos (by omega), if_pos trivial, i_succ i (by omega), ih (i + 1) k (by omega) (by omega)]
theorem eqStringS (xs : List ByteArray) (hx : xs.length ≤ 1048576) : Ev (fun k => laws_eqStringS.f k xs xs) true := by
  refine ⟨xs.length + 1, fun k hk => ?_⟩
  simp only [laws_eqStringS.f, if_true]
  exact eqStringS_l xs hx xs.length 0 k (by omega) (by omega)

/-- It comes to some answer at enough rounds. -/
def Ends {α : Type} (g : Nat → Option α) : Prop := ∃ r, Ev g r
theorem Ends.now {α : Type} (r : α) : Ends (fun _ => some r) := ⟨r, Ev.now r⟩
theorem Ends.of {α : Type} {g : Nat → Option α} {r : α} (h : Ev g r) : Ends g := ⟨r, h⟩
theorem Ends.succ {α : Type} {g : Nat → Option α} (h : Ends fun k => g (k + 1)) : Ends g := h.imp fun _ h => Ev.succ h
theorem Ends.ite {α : Type} {p : Prop} [Decidable p] {a b : Nat → Option α} (ha : Ends a) (hb : Ends b) : Ends (fun n => if p then a n else b n) := by
  by_cases h : p
  · exact ha.imp fun _ q => Ev.iteT h q
  · exact hb.imp fun _ q => Ev.iteF h q
theorem Ends.iteT {α : Type} {p : Prop} [Decidable p] {a b : Nat → Option α} (h : p) (ha : Ends a) : Ends (fun n => if p then a n else b n) := ha.imp fun _ q => Ev.iteT h q
theorem Ends.iteF {α : Type} {p : Prop} [Decidable p] {a b : Nat → Option α} (h : ¬ p) (hb : Ends b) : Ends (fun n => if p then a n else b n) := hb.imp fun _ q => Ev.iteF h q
theorem Ends.bind {α β : Type} {a : Nat → Option α} {f : Nat → α → Option β} (ha : Ends a) (h : ∀ r, Ev a r → Ends (fun n => f n r)) : Ends (fun n => (a n).bind (f n)) := by
  obtain ⟨r, hr⟩ := ha
  obtain ⟨q, hq⟩ := h r hr
  exact ⟨q, Ev.bind hr hq⟩
theorem Ends.bind0 {α β : Type} {a : Option α} {x : α} {f : Nat → α → Option β} (h : a = some x) (k : Ends (fun n => f n x)) : Ends (fun n => a.bind (f n)) := k.imp fun _ q => Ev.bind0 h q
/-- What is left of n, or less than nothing; and, if anything, Q. -/
def Sz (g : Nat → Option Int) (n : Int) (Q : Prop) : Prop := ∃ r, Ev g r ∧ (r < 0 ∨ (0 ≤ r ∧ r ≤ n ∧ Q))
theorem Sz.stop {n : Int} (h : 0 ≤ n) : Sz (fun _ => some n) n True := ⟨n, Ev.now n, .inr ⟨h, Int.le_refl n, trivial⟩⟩
theorem Sz.step {a : Nat → Option Int} {f : Nat → Int → Option Int} {n : Int} {Q Q' : Prop} (h : Sz a n Q) (hk : ∀ r, 0 ≤ r → r ≤ n → Sz (fun k => f k r) r Q') : Sz (fun k => (a k).bind fun t => if t < 0 then some (-1) else f k t) n (Q ∧ Q') := by
  obtain ⟨r, hr, h | ⟨h1, h2, q⟩⟩ := h
  · exact ⟨-1, Ev.bind hr (Ev.iteT h (Ev.now _)), .inl (by omega)⟩
  · obtain ⟨s, hs, h' | ⟨h3, h4, q'⟩⟩ := hk r h1 h2
    · exact ⟨s, Ev.bind hr (Ev.iteF (by omega) hs), .inl h'⟩
    · exact ⟨s, Ev.bind hr (Ev.iteF (by omega) hs), .inr ⟨h3, by omega, q, q'⟩⟩

theorem szStringS_l (xs : List ByteArray) (hx : xs.length ≤ 1048576) (hs : ∀ y ∈ xs, y.size ≤ maxLen) (d : Nat) : ∀ (i : Nat) (n : Int), i + d = xs.length → 0 ≤ n → n ≤ 1048576 → Sz (fun k => laws_szStringS.l0 k xs n i) n True := by
  unfold maxLen at hs
  induction d with
  | zero =>
    intro i n hi h0 h1
    refine ⟨n, Ev.succ ?_, .inr ⟨h0, Int.le_refl n, trivial⟩⟩
    simp only [laws_szStringS.l0]
    exact Ev.iteF (by omega) (Ev.now _)
  | succ d ih =>
    intro i n hi h0 h1
    have hb := hs (xs[i]'(by omega)) (List.getElem_mem _)
    by_cases h : n - ((xs[i]'(by omega)).size : Int) < 0
    · refine ⟨-1, Ev.succ ?_, .inl (by omega)⟩
      simp only [laws_szStringS.l0]
      rw [rdOf_at _ _ _ (by omega : i < xs.length), w64 (by omega) (by omega)]
      exact Ev.iteT (by omega) (Ev.iteT (by omega) (Ev.iteT h (Ev.now _)))
    · obtain ⟨r, hr, hq⟩ := ih (i + 1) (n - ((xs[i]'(by omega)).size : Int)) (by omega) (by omega) (by omega)
      refine ⟨r, Ev.succ ?_, hq.imp id (fun ⟨q1, q2, _⟩ => ⟨q1, by omega, trivial⟩)⟩
      simp only [laws_szStringS.l0]
      rw [rdOf_at _ _ _ (by omega : i < xs.length), w64 (by omega) (by omega), i_succ i (by omega)]
      exact Ev.iteT (by omega) (Ev.iteT (by omega) (Ev.iteF h hr))
theorem szStringS (xs : List ByteArray) (n : Int) (h0 : 0 ≤ n) (h1 : n ≤ 1048576) (hx : xs.length ≤ maxLen) (hs : ∀ y ∈ xs, y.size ≤ maxLen) : Sz (fun k => laws_szStringS.f k xs n) n (xs.length ≤ 1048576) := by
  unfold maxLen at hx
  simp only [laws_szStringS.f]
  rw [w64 (by omega) (by omega)]
  by_cases h : n - (xs.length : Int) < 0
  · exact ⟨-1, Ev.iteT h (Ev.now _), .inl (by omega)⟩
  · obtain ⟨r, hr, hq⟩ := szStringS_l xs (by omega) hs xs.length 0 (n - xs.length) (by omega) (by omega) (by omega)
    exact ⟨r, Ev.iteF h hr, hq.imp id (fun ⟨q1, q2, _⟩ => ⟨q1, by omega, by omega⟩)⟩

theorem szBoolS (xs : List Bool) (n : Int) (h0 : 0 ≤ n) (h1 : n ≤ 1048576) (hx : xs.length ≤ maxLen) : Sz (fun _ => laws_szBoolS.f xs n) n (xs.length ≤ 1048576) := by
  unfold maxLen at hx
  simp only [laws_szBoolS.f]
  rw [w64 (by omega) (by omega)]
  by_cases h : n - (xs.length : Int) < 0
  · exact ⟨-1, Ev.iteT h (Ev.now _), .inl (by omega)⟩
  · exact ⟨_, Ev.iteF h (Ev.now _), by omega⟩

theorem szIntS (xs : List Int) (n : Int) (h0 : 0 ≤ n) (h1 : n ≤ 1048576) (hx : xs.length ≤ maxLen) : Sz (fun _ => laws_szIntS.f xs n) n (xs.length ≤ 1048576) := by
  unfold maxLen at hx
  simp only [laws_szIntS.f]
  rw [w64 (by omega) (by omega)]
  by_cases h : n - (xs.length : Int) < 0
  · exact ⟨-1, Ev.iteT h (Ev.now _), .inl (by omega)⟩
  · exact ⟨_, Ev.iteF h (Ev.now _), by omega⟩

theorem l1In (x a b : Int) : spec_l1In.f x a b = some (decide (a ≤ x ∧ x ≤ b)) := by
  unfold spec_l1In.f
  by_cases h : x ≥ a
  · rw [if_pos h]
    simp [show a ≤ x from h]
  · rw [if_neg h]
    simp only [show ¬ a ≤ x from h, false_and, decide_false]

theorem within (x a b : Int) : impl_within.f x a b = some (decide (a ≤ x ∧ x ≤ b)) := by
  unfold impl_within.f
  by_cases h : x ≥ a
  · rw [if_pos h]
    simp [show a ≤ x from h]
  · rw [if_neg h]
    simp only [show ¬ a ≤ x from h, false_and, decide_false]

theorem szDisk (a b : List ByteArray) (c : List Bool) (n : Int) (h0 : 0 ≤ n) (h1 : n ≤ 1048576) (ha : a.length ≤ maxLen ∧ ∀ y ∈ a, y.size ≤ maxLen) (hb : b.length ≤ maxLen ∧ ∀ y ∈ b, y.size ≤ maxLen) (hc : c.length ≤ maxLen) :
    Sz (fun k => laws_szDisk.f k a b c n) n (a.length ≤ 1048576 ∧ b.length ≤ 1048576 ∧ c.length ≤ 1048576 ∧ True) := by
  simp only [laws_szDisk.f]
  refine Sz.step (szStringS a n h0 h1 ha.1 ha.2) (fun r q0 q1 => ?_)
  refine Sz.step (szStringS b r q0 (by omega) hb.1 hb.2) (fun s q2 q3 => ?_)
  exact Sz.step (szBoolS c s q2 (by omega) hc) (fun t q4 q5 => Sz.stop q4)

theorem toDisk (a b : List ByteArray) (c : List Bool) (ha : a.length ≤ 1048576) (hb : b.length ≤ 1048576) (hc : c.length ≤ 1048576) : Ev (fun k => laws_toDisk.f k a b c) (a, b, c) := by
  simp only [laws_toDisk.f]
  exact Ev.bind (toStringS a ha) (Ev.bind (toStringS b hb) (Ev.bind (toBoolS c hc) (Ev.now _)))

theorem eqDisk (a b : List ByteArray) (c : List Bool) (ha : a.length ≤ 1048576) (hb : b.length ≤ 1048576) (hc : c.length ≤ 1048576) : Ev (fun k => laws_eqDisk.f k a b c a b c) true := by
  simp only [laws_eqDisk.f]
  exact Ev.bind (eqStringS a ha) (Ev.iteT rfl (Ev.bind (eqStringS b hb) (Ev.iteT rfl (Ev.bind (eqBoolS c hc) (Ev.iteT rfl (Ev.now _))))))

theorem goodDisk_l (a b : List ByteArray) (c : List Bool) (ha : a.length ≤ 1048576) (hb : b.length = a.length) (hc : c.length = a.length) (d : Nat) : ∀ i : Nat, i + d = a.length → Ends (fun k => spec_GoodDisk.l0 k a.length i a b c) := by
  induction d with
  | zero =>
    intro i hi
    refine Ends.succ ?_
    simp only [spec_GoodDisk.l0]
    exact Ends.iteF (by omega) (Ends.now _)
  | succ d ih =>
    intro i hi
    refine Ends.succ ?_
    simp only [spec_GoodDisk.l0]
    rw [i_succ i (by omega)]
    have hn := ih (i + 1) (by omega)
    exact Ends.iteT (by omega) (Ends.iteT (by omega) (Ends.iteT (by omega) (Ends.ite (Ends.now _) (Ends.iteT (by omega) (Ends.ite (Ends.now _) (Ends.iteT (by omega) (Ends.ite (Ends.ite hn (Ends.now _)) hn)))))))
theorem goodDisk (a b : List ByteArray) (c : List Bool) (ha : a.length ≤ 1048576) : Ends (fun k => spec_GoodDisk.f k a b c) := by
  have no : Ends (fun k => spec_GoodDisk.j0 k true a b c) := by
    refine Ends.succ ?_
    simp only [spec_GoodDisk.j0]
    exact Ends.iteT trivial (Ends.now _)
  simp only [spec_GoodDisk.f]
  refine Ends.bind0 (l1In _ _ _) (Ends.ite ?_ no)
  by_cases hb : (b.length : Int) = (a.length : Int)
  · refine Ends.iteT hb (Ends.succ ?_)
    simp only [spec_GoodDisk.j0]
    by_cases hc : c.length = a.length
    · exact Ends.iteF (by simp [hc]) (goodDisk_l a b c ha (by omega) hc a.length 0 (by omega))
    · exact Ends.iteT (by simp; omega) (Ends.now _)
  · exact Ends.iteF hb no

theorem implDisk_l (a b : List ByteArray) (c : List Bool) (n : Int) : ∀ (k : Nat) (i : Int), impl_GoodDisk.l0 k a n i a b c = spec_GoodDisk.l0 k n i a b c := by
  intro k
  induction k with
  | zero => intro i; rfl
  | succ k ih => intro i; simp only [impl_GoodDisk.l0, spec_GoodDisk.l0, ih]
theorem implDisk_j (a b : List ByteArray) (c : List Bool) (k : Nat) (x : Bool) : impl_GoodDisk.j0 k x a b c = spec_GoodDisk.j0 k x a b c := by
  cases k with
  | zero => rfl
  | succ k => simp only [impl_GoodDisk.j0, spec_GoodDisk.j0, implDisk_l]
theorem implDisk (a b : List ByteArray) (c : List Bool) (k : Nat) : impl_GoodDisk.f k a b c = spec_GoodDisk.f k a b c := by
  simp only [impl_GoodDisk.f, spec_GoodDisk.f, implDisk_j, within, l1In]

theorem szScrub (a b : List ByteArray) (c : List Bool) (e : List Int) (cur men : Int) (n : Int) (h0 : 0 ≤ n) (h1 : n ≤ 1048576) (ha : a.length ≤ maxLen ∧ ∀ y ∈ a, y.size ≤ maxLen) (hb : b.length ≤ maxLen ∧ ∀ y ∈ b, y.size ≤ maxLen) (hc : c.length ≤ maxLen) (he : e.length ≤ maxLen) :
    Sz (fun k => laws_szScrub.f k a b c e cur men n) n ((a.length ≤ 1048576 ∧ b.length ≤ 1048576 ∧ c.length ≤ 1048576 ∧ True) ∧ e.length ≤ 1048576 ∧ True) := by
  simp only [laws_szScrub.f]
  refine Sz.step (szDisk a b c n h0 h1 ha hb hc) (fun r q0 q1 => ?_)
  exact Sz.step (szIntS e r q0 (by omega) he) (fun t q4 q5 => Sz.stop q4)

theorem toScrub (a b : List ByteArray) (c : List Bool) (e : List Int) (cur men : Int) (ha : a.length ≤ 1048576) (hb : b.length ≤ 1048576) (hc : c.length ≤ 1048576) (he : e.length ≤ 1048576) : Ev (fun k => laws_toScrub.f k a b c e cur men) (a, b, c, e, cur, men) := by
  simp only [laws_toScrub.f]
  exact Ev.bind (toDisk a b c ha hb hc) (Ev.bind (toIntS e he) (Ev.now _))

theorem eqScrub (a b : List ByteArray) (c : List Bool) (e : List Int) (cur men : Int) (ha : a.length ≤ 1048576) (hb : b.length ≤ 1048576) (hc : c.length ≤ 1048576) (he : e.length ≤ 1048576) : Ev (fun k => laws_eqScrub.f k a b c e cur men a b c e cur men) true := by
  simp only [laws_eqScrub.f]
  exact Ev.bind (eqDisk a b c ha hb hc) (Ev.iteT rfl (Ev.bind (eqIntS e he) (Ev.iteT rfl (Ev.iteT trivial (Ev.iteT trivial (Ev.now _))))))

def okE (x : Int) : Bool := decide (0 ≤ x ∧ x ≤ 60000)
/-- What is asked of a scrub beside its epochs. -/
def scrubRest (D : Bool) (la n : Nat) (cur men : Int) : Bool := decide (1 ≤ n ∧ n ≤ 4) && D && decide (la = 5 * n) && decide (0 ≤ cur ∧ cur ≤ (n : Int) - 1) && decide (0 ≤ men ∧ men ≤ 10000)
theorem specScrub_l (a b : List ByteArray) (c : List Bool) (e : List Int) (cur men : Int) (he : e.length ≤ 1048576) (D : Bool) (hD : Ev (fun k => spec_GoodDisk.f k a b c) D) (d : Nat) : ∀ i : Nat, i + d = e.length → Ev (fun k => spec_GoodScrub.l0 k e.length e e.length i a b c e cur men) ((e.drop i).all okE && scrubRest D a.length e.length cur men) := by
  induction d with
  | zero =>
    intro i hi
    refine Ev.succ ?_
    simp only [spec_GoodScrub.l0]
    have e1 : wrap64 (5 * (e.length : Int)) = 5 * (e.length : Int) := w64 (by omega) (by omega)
    have e2 : wrap64 ((e.length : Int) - 1) = (e.length : Int) - 1 := w64 (by omega) (by omega)
    rw [List.drop_of_length_le (by omega), e1, e2]
    refine Ev.iteF (by omega) ?_
    simp only [l1In, Option.bind_some, List.all_nil, Bool.true_and, scrubRest]
    by_cases h1 : 1 ≤ e.length ∧ e.length ≤ 4
    · refine Ev.iteT (by simp; omega) (Ev.bind hD ?_)
      cases D with
      | false => exact Ev.iteF (by decide) (by simpa using Ev.now _)
      | true =>
        refine Ev.iteT rfl ?_
        by_cases h2 : a.length = 5 * e.length
        · refine Ev.iteT (by omega) ?_
          by_cases h3 : 0 ≤ cur ∧ cur ≤ (e.length : Int) - 1
          · refine Ev.iteT (by simpa using h3) ?_
            simp only [h1, h2, h3, and_self, decide_true, Bool.and_true, Bool.true_and]
            exact Ev.now _
          · refine Ev.iteF (by simpa using h3) ?_
            simp only [h3, decide_false, Bool.and_false, Bool.false_and]
            exact Ev.now _
        · refine Ev.iteF (by omega) ?_
          simp only [h2, decide_false, Bool.and_false, Bool.false_and]
          exact Ev.now _
    · refine Ev.iteF (by simp; omega) ?_
      simp only [h1, decide_false, Bool.false_and]
      exact Ev.now _
  | succ d ih =>
    intro i hi
    refine Ev.succ ?_
    simp only [spec_GoodScrub.l0]
    rw [i_succ i (by omega), rd_at _ _ (by omega : i < e.length), drop_cons e i (by omega), List.all_cons]
    refine Ev.iteT (by omega) (Ev.iteT (by omega) (Ev.iteT (by omega) (Ev.bind0 (l1In _ _ _) ?_)))
    by_cases h : okE (e[i]'(by omega)) = true
    · rw [h, Bool.true_and]
      exact Ev.iteT h (ih (i + 1) (by omega))
    · have h' : okE (e[i]'(by omega)) = false := by simpa using h
      rw [h', Bool.false_and, Bool.false_and]
      exact Ev.iteF h (Ev.now _)
/-- Whether a scrub is good. -/
def scrubTold (D : Bool) (la : Nat) (e : List Int) (cur men : Int) : Bool := e.all okE && scrubRest D la e.length cur men
theorem specScrub (a b : List ByteArray) (c : List Bool) (e : List Int) (cur men : Int) (he : e.length ≤ 1048576) (D : Bool) (hD : Ev (fun k => spec_GoodDisk.f k a b c) D) : Ev (fun k => spec_GoodScrub.f k a b c e cur men) (scrubTold D a.length e cur men) := by
  simp only [spec_GoodScrub.f]
  exact specScrub_l a b c e cur men he D hD e.length 0 (by omega)
theorem implFind (e : List Int) (he : e.length ≤ 1048576) (d : Nat) : ∀ i : Nat, i + d = e.length → ∃ t, Ev (fun k => slices_IndexFunc_int_int.l0 k e e.length i) t ∧ (decide (t ≥ 0) = !((e.drop i).all okE)) := by
  induction d with
  | zero =>
    intro i hi
    refine ⟨-1, Ev.succ ?_, ?_⟩
    · simp only [slices_IndexFunc_int_int.l0]
      exact Ev.iteF (by omega) (Ev.now _)
    · rw [List.drop_of_length_le (by omega)]
      rfl
  | succ d ih =>
    intro i hi
    obtain ⟨t, ht, hq⟩ := ih (i + 1) (by omega)
    by_cases h : okE (e[i]'(by omega)) = true
    · refine ⟨t, Ev.succ ?_, ?_⟩
      · simp only [slices_IndexFunc_int_int.l0, impl_GoodScrub_1.f, within, Option.bind_some]
        rw [i_succ i (by omega), rd_at _ _ (by omega : i < e.length)]
        refine Ev.iteT (by omega) (Ev.iteT (by omega) (Ev.iteT (by omega) (Ev.iteF ?_ ht)))
        unfold okE at h
        rw [h]
        decide
      · rw [hq, drop_cons e i (by omega), List.all_cons, h, Bool.true_and]
    · have h' : okE (e[i]'(by omega)) = false := by simpa using h
      refine ⟨i, Ev.succ ?_, ?_⟩
      · simp only [slices_IndexFunc_int_int.l0, impl_GoodScrub_1.f, within, Option.bind_some]
        rw [rd_at _ _ (by omega : i < e.length)]
        refine Ev.iteT (by omega) (Ev.iteT (by omega) (Ev.iteT (by omega) (Ev.iteT ?_ (Ev.now _))))
        unfold okE at h'
        rw [h']
        rfl
      · rw [drop_cons e i (by omega), List.all_cons, h']
        simp
theorem implScrub (a b : List ByteArray) (c : List Bool) (e : List Int) (cur men : Int) (he : e.length ≤ 1048576) (D : Bool) (hD : Ev (fun k => spec_GoodDisk.f k a b c) D) : Ev (fun k => impl_GoodScrub.f k a b c e cur men) (scrubTold D a.length e cur men) := by
  simp only [impl_GoodScrub.f, within, Option.bind_some, implDisk, scrubTold, scrubRest]
  have e1 : wrap64 (5 * (e.length : Int)) = 5 * (e.length : Int) := w64 (by omega) (by omega)
  have e2 : wrap64 ((e.length : Int) - 1) = (e.length : Int) - 1 := w64 (by omega) (by omega)
  rw [e1, e2]
  by_cases h1 : 1 ≤ e.length ∧ e.length ≤ 4
  · refine Ev.iteT (by simp; omega) (Ev.bind hD ?_)
    cases D with
    | false => exact Ev.iteF (by decide) (by simpa using Ev.now _)
    | true =>
      refine Ev.iteT rfl ?_
      by_cases h2 : a.length = 5 * e.length
      · refine Ev.iteT (by omega) ?_
        by_cases h3 : 0 ≤ cur ∧ cur ≤ (e.length : Int) - 1
        · refine Ev.iteT (by simpa using h3) ?_
          by_cases h4 : 0 ≤ men ∧ men ≤ 10000
          · refine Ev.iteT (by simpa using h4) ?_
            obtain ⟨t, ht, hq⟩ := implFind e he e.length 0 (by omega)
            have hv : (e.all okE && (decide (1 ≤ e.length ∧ e.length ≤ 4) && true && decide (a.length = 5 * e.length) && decide (0 ≤ cur ∧ cur ≤ (e.length : Int) - 1) && decide (0 ≤ men ∧ men ≤ 10000))) = !(decide (t ≥ 0)) := by
              rw [hq]
              simp only [h1, h2, h3, h4, and_self, decide_true, Bool.and_true, List.drop_zero, Bool.not_not]
            rw [hv]
            simp only [slices_ContainsFunc_int_int.f, slices_IndexFunc_int_int.f]
            exact Ev.bind (Ev.bind ht (Ev.now _)) (Ev.now _)
          · refine Ev.iteF (by simpa using h4) ?_
            simp only [h4, decide_false, Bool.and_false]
            exact Ev.now _
        · refine Ev.iteF (by simpa using h3) ?_
          simp only [h3, decide_false, Bool.and_false, Bool.false_and]
          exact Ev.now _
      · refine Ev.iteF (by omega) ?_
        simp only [h2, decide_false, Bool.and_false, Bool.false_and]
        exact Ev.now _
  · refine Ev.iteF (by simp; omega) ?_
    simp only [h1, decide_false, Bool.false_and, Bool.and_false]
    exact Ev.now _

theorem FnExactGoodScrub : laws_FnExactGoodScrub.Pure := by
  intro a b c e cur men ha hb hc he _ _
  refine Ev.rounds (g := fun k => laws_FnExactGoodScrub.f k a b c e cur men) ?_
  simp only [laws_FnExactGoodScrub.f]
  obtain ⟨r, hr, h | ⟨h1, _, ⟨la, lb, lc, _⟩, le, _⟩⟩ := szScrub a b c e cur men 1048576 (by omega) (by omega) ha hb hc.1 he.1
  · exact Ev.bind hr (Ev.iteT h (Ev.now _))
  · refine Ev.bind hr (Ev.iteF (by omega) ?_)
    obtain ⟨D, hD⟩ := goodDisk a b c la
    refine Ev.bind (toScrub a b c e cur men la lb lc le) ?_
    refine Ev.bind (specScrub a b c e cur men le D hD) ?_
    refine Ev.bind (toScrub a b c e cur men la lb lc le) ?_
    refine Ev.bind (implScrub a b c e cur men le D hD) ?_
    refine Ev.iteF (by simp) ?_
    refine Ev.bind (toScrub a b c e cur men la lb lc le) ?_
    refine Ev.bind (eqScrub a b c e cur men la lb lc le) ?_
    exact Ev.iteT rfl (Ev.now _)

end Go.Proofs.Ytgnijlfakjjfcaa.Pure
