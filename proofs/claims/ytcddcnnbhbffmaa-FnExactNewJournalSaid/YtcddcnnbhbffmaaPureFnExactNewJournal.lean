/- What the functions of the law come to, in numbers, rows and texts alone. No condition. -/
import Derived.Test.YtcddcnnbhbffmaaFNewJournal
set_option linter.unusedVariables false
set_option linter.unusedSimpArgs false
namespace Go.Proofs.Ytcddcnnbhbffmaa
open Go Go.Proofs.YtcddcnnbhbffmaaE
/-! ### Limits, numbers, rows -/
/-- From some number of rounds on it is r. -/
def Ev {R : Type} (g : Nat → Option R) (r : R) : Prop := ∃ K, ∀ k, K ≤ k → g k = some r
theorem Ev.const {R : Type} {g : Nat → Option R} {r : R} (h : ∀ k, g k = some r) : Ev g r := ⟨0, fun k _ => h k⟩
theorem Ev.of {R : Type} {g : Nat → Option R} {r : R} (K : Nat) (h : ∀ k, K ≤ k → g k = some r) : Ev g r := ⟨K, h⟩
theorem Ev.bind {D R : Type} {f : Nat → Option D} {d : D} {G : Nat → D → Option R} {r : R} (h : Ev f d) (h2 : Ev (fun k => G k d) r) : Ev (fun k => (f k).bind (G k)) r := by
  obtain ⟨K, hK⟩ := h
  obtain ⟨L, hL⟩ := h2
  refine ⟨max K L, fun k hk => ?_⟩
  show (f k).bind (G k) = _
  rw [hK k (by omega)]
  exact hL k (by omega)
theorem Ev.congr {R : Type} {f g : Nat → Option R} {r : R} (h : Ev f r) (e : ∀ k, g k = f k) : Ev g r := by
  obtain ⟨K, hK⟩ := h
  exact ⟨K, fun k hk => by rw [e]; exact hK k hk⟩
theorem cn_t {A : Type} (x y : A) : cn true x y = x := rfl
theorem cn_f {A : Type} (x y : A) : cn false x y = y := rfl
theorem gd_t {A : Type} (x : Option A) : gd true x = x := rfl
theorem cnT {A : Type} {p : Prop} [Decidable p] {x y : A} (h : p) : cn (decide p) x y = x := by rw [decide_eq_true h]; rfl
theorem cnF {A : Type} {p : Prop} [Decidable p] {x y : A} (h : ¬ p) : cn (decide p) x y = y := by rw [decide_eq_false h]; rfl
theorem cnNT {A : Type} {p : Prop} [Decidable p] {x y : A} (h : p) : cn (!decide p) x y = y := by rw [decide_eq_true h]; rfl
theorem cnNF {A : Type} {p : Prop} [Decidable p] {x y : A} (h : ¬ p) : cn (!decide p) x y = x := by rw [decide_eq_false h]; rfl
theorem gdT {A : Type} {p : Prop} [Decidable p] {x : Option A} (h : p) : gd (decide p) x = x := by rw [decide_eq_true h]; rfl
theorem inb_nat {i n : Nat} (h : i < n) : inb (i : Int) n = true := by
  unfold inb
  rw [decide_eq_true (by omega : (0 : Int) ≤ (i : Int)), decide_eq_true (by omega : (i : Int) < (n : Int))]; rfl
theorem wrap_eq {n : Int} (h1 : -9223372036854775808 ≤ n) (h2 : n ≤ 9223372036854775807) : IntKind.i64.wrap n = n := by
  have key : IntKind.i64.wrap n = if n % 18446744073709551616 ≥ 9223372036854775808 then n % 18446744073709551616 - 18446744073709551616 else n % 18446744073709551616 := by
    unfold IntKind.wrap
    simp [IntKind.bits, IntKind.signed]
  rw [key]
  split <;> omega
theorem wrap_succ {n : Nat} (h : n < 9223372036854775807) : IntKind.i64.wrap ((n : Int) + 1) = ((n + 1 : Nat) : Int) := by rw [wrap_eq (by omega) (by omega)]; omega
theorem getAt_lt {A : Type} {d : A} {xs : List A} {i : Nat} (h : i < xs.length) : getAt d xs i = xs[i] := by simp [getAt, h]
theorem maxLen_eq : maxLen = 9223372036854775807 := by decide
/-- A row written over from the front. -/
theorem set_front {A : Type} {d : A} (a h : List A) (j : Nat) (hj : j < a.length) (hl : h.length = a.length) (hh : h.take j = a.take j) : (h.set j (getAt d a j)).take (j + 1) = a.take (j + 1) := by
  rw [getAt_lt hj, List.take_succ_eq_append_getElem hj, List.take_succ_eq_append_getElem (by simp; omega), List.getElem_set_self, List.take_set_of_le (Nat.le_refl j), hh]
def marks (s n : Nat) : List Int := (List.range n).map fun i => ((s + i : Nat) : Int)
theorem w_eqStringS.loop (k : Nat) (a : List ByteArray) (ha : a.length ≤ maxLen) : ∀ (n j m : Nat), j + n = a.length → n < m → w_eqStringS.l0 k m a a j = some true := by
  rw [maxLen_eq] at ha
  intro n
  induction n with
  | zero =>
    intro j m hj hm
    obtain ⟨m, rfl⟩ : ∃ m', m = m' + 1 := ⟨m - 1, by omega⟩
    rw [w_eqStringS.l0_s, cnF (by omega)]
  | succ n ih =>
    intro j m hj hm
    obtain ⟨m, rfl⟩ : ∃ m', m = m' + 1 := ⟨m - 1, by omega⟩
    rw [w_eqStringS.l0_s, cnT (by omega), inb_nat (by omega), gd_t, gd_t, cnNT rfl, wrap_succ (by omega)]
    exact ih (j + 1) m (by omega) (by omega)
theorem w_eqStringS.ev (a : List ByteArray) (ha : a.length ≤ maxLen) : Ev (fun k => w_eqStringS.f k a a) true := .of (a.length + 1) fun k hk => by
  show w_eqStringS.f k a a = _
  rw [w_eqStringS.f_eq, cnNT rfl]
  exact w_eqStringS.loop k a ha a.length 0 k (by omega) (by omega)
theorem w_eqIntS.loop (k : Nat) (a : List Int) (ha : a.length ≤ maxLen) : ∀ (n j m : Nat), j + n = a.length → n < m → w_eqIntS.l0 k m a a j = some true := by
  rw [maxLen_eq] at ha
  intro n
  induction n with
  | zero =>
    intro j m hj hm
    obtain ⟨m, rfl⟩ : ∃ m', m = m' + 1 := ⟨m - 1, by omega⟩
    rw [w_eqIntS.l0_s, cnF (by omega)]
  | succ n ih =>
    intro j m hj hm
    obtain ⟨m, rfl⟩ : ∃ m', m = m' + 1 := ⟨m - 1, by omega⟩
    rw [w_eqIntS.l0_s, cnT (by omega), inb_nat (by omega), gd_t, gd_t, cnNT rfl, wrap_succ (by omega)]
    exact ih (j + 1) m (by omega) (by omega)
theorem w_eqIntS.ev (a : List Int) (ha : a.length ≤ maxLen) : Ev (fun k => w_eqIntS.f k a a) true := .of (a.length + 1) fun k hk => by
  show w_eqIntS.f k a a = _
  rw [w_eqIntS.f_eq, cnNT rfl]
  exact w_eqIntS.loop k a ha a.length 0 k (by omega) (by omega)
theorem w_eqBoolS.loop (k : Nat) (a : List Bool) (ha : a.length ≤ maxLen) : ∀ (n j m : Nat), j + n = a.length → n < m → w_eqBoolS.l0 k m a a j = some true := by
  rw [maxLen_eq] at ha
  intro n
  induction n with
  | zero =>
    intro j m hj hm
    obtain ⟨m, rfl⟩ : ∃ m', m = m' + 1 := ⟨m - 1, by omega⟩
    rw [w_eqBoolS.l0_s, cnF (by omega)]
  | succ n ih =>
    intro j m hj hm
    obtain ⟨m, rfl⟩ : ∃ m', m = m' + 1 := ⟨m - 1, by omega⟩
    rw [w_eqBoolS.l0_s, cnT (by omega), inb_nat (by omega), gd_t, gd_t]
    simp only [beq_self_eq_true, Bool.not_true, cn_f]
    rw [wrap_succ (by omega)]
    exact ih (j + 1) m (by omega) (by omega)
theorem w_eqBoolS.ev (a : List Bool) (ha : a.length ≤ maxLen) : Ev (fun k => w_eqBoolS.f k a a) true := .of (a.length + 1) fun k hk => by
  show w_eqBoolS.f k a a = _
  rw [w_eqBoolS.f_eq, cnNT rfl]
  exact w_eqBoolS.loop k a ha a.length 0 k (by omega) (by omega)
theorem w_markIntS.loop (k : Nat) (s len : Nat) (hs : s + len ≤ 9223372036854775806) : ∀ (n j m : Nat) (h : List Int), j + n = len → h.length = len → h.take j = marks s j → n < m → w_markIntS.l0 k m ((s + j : Nat) : Int) j h = some (((s + len : Nat) : Int), marks s len) := by
  intro n
  induction n with
  | zero =>
    intro j m h hj hl hh hm
    obtain ⟨m, rfl⟩ : ∃ m', m = m' + 1 := ⟨m - 1, by omega⟩
    rw [w_markIntS.l0_s, cnF (by omega)]
    rw [List.take_of_length_le (by omega)] at hh
    rw [hh, show j = len by omega]
  | succ n ih =>
    intro j m h hj hl hh hm
    obtain ⟨m, rfl⟩ : ∃ m', m = m' + 1 := ⟨m - 1, by omega⟩
    rw [w_markIntS.l0_s, cnT (by omega), inb_nat (by omega), gd_t, wrap_succ (by omega), wrap_succ (by omega), Int.toNat_natCast]
    refine ih (j + 1) m _ (by omega) (by simpa using hl) ?_ (by omega)
    rw [List.take_succ_eq_append_getElem (by simp; omega), List.getElem_set_self, List.take_set_of_le (Nat.le_refl j), hh]
    unfold marks
    rw [List.range_succ, List.map_append]; rfl
theorem w_markIntS.ev (a : List Int) (s : Nat) (hs : s + a.length ≤ 9223372036854775806) : Ev (fun k => w_markIntS.f k a (s : Int)) (((s + a.length : Nat) : Int), marks s a.length) := .of (a.length + 1) fun k hk => by
  show w_markIntS.f k a s = _
  rw [w_markIntS.f_eq]
  exact w_markIntS.loop k s a.length hs a.length 0 k a (by omega) rfl (by simp [marks]) (by omega)
theorem w_heldIntS.loop (k : Nat) (s len : Nat) (hs : s + len ≤ 9223372036854775806) : ∀ (n j m : Nat), j + n = len → n < m → w_heldIntS.l0 k m (marks s len) ((s + j : Nat) : Int) j = some ((s + len : Nat) : Int) := by
  have hl : (marks s len).length = len := by simp [marks]
  intro n
  induction n with
  | zero =>
    intro j m hj hm
    obtain ⟨m, rfl⟩ : ∃ m', m = m' + 1 := ⟨m - 1, by omega⟩
    rw [w_heldIntS.l0_s, cnF (by omega), show j = len by omega]
  | succ n ih =>
    intro j m hj hm
    obtain ⟨m, rfl⟩ : ∃ m', m = m' + 1 := ⟨m - 1, by omega⟩
    rw [w_heldIntS.l0_s, cnT (by omega), inb_nat (by omega), gd_t, Int.toNat_natCast, cnNT (by rw [getAt_lt (by omega)]; simp [marks]), wrap_succ (by omega), wrap_succ (by omega)]
    exact ih (j + 1) m (by omega) (by omega)
theorem w_heldIntS.ev (s len : Nat) (hs : s + len ≤ 9223372036854775806) : Ev (fun k => w_heldIntS.f k (marks s len) (s : Int)) ((s + len : Nat) : Int) := .of (len + 1) fun k hk => by
  show w_heldIntS.f k _ s = _
  rw [w_heldIntS.f_eq]
  exact w_heldIntS.loop k s len hs len 0 k (by omega) (by omega)
theorem strOfNums_one (n : Int) : (strOfNums [n]).size = 1 := by simp [strOfNums]; rfl
theorem w_markText.loop : ∀ (n : Nat) (v : Nat) (out : ByteArray), v ≤ n → n + out.size ≤ 140737488355327 → ∃ t, ∀ k m, n < m → w_markText.l0 k m (v : Int) out = some t := by
  intro n
  induction n with
  | zero =>
    intro v out hv ho
    refine ⟨{ data := #[(109 : UInt8)] : ByteArray } ++ out, fun k m hm => ?_⟩
    obtain ⟨m, rfl⟩ : ∃ m', m = m' + 1 := ⟨m - 1, by omega⟩
    rw [w_markText.l0_s, cnF (by omega), gdT (by omega)]
  | succ n ih =>
    intro v out hv ho
    by_cases h0 : v = 0
    · refine ⟨{ data := #[(109 : UInt8)] : ByteArray } ++ out, fun k m hm => ?_⟩
      obtain ⟨m, rfl⟩ : ∃ m', m = m' + 1 := ⟨m - 1, by omega⟩
      rw [w_markText.l0_s, cnF (by omega), gdT (by omega)]
    · have e : IntKind.i64.wrap ((v : Int).tdiv 10) = ((v / 10 : Nat) : Int) := by
        rw [show (v : Int).tdiv 10 = ((v / 10 : Nat) : Int) by rw [Int.tdiv_eq_ediv_of_nonneg (by omega)]; rfl, wrap_eq (by omega) (by omega)]
      obtain ⟨t, ht⟩ := ih (v / 10) (strOfNums [IntKind.u8.wrap (IntKind.i64.wrap ((48 : Int) + (v : Int).tmod (10 : Int)))] ++ out) (by omega) (by rw [ByteArray.size_append, strOfNums_one]; omega)
      refine ⟨t, fun k m hm => ?_⟩
      obtain ⟨m, rfl⟩ : ∃ m', m = m' + 1 := ⟨m - 1, by omega⟩
      rw [w_markText.l0_s, cnT (by omega), gdT (by rw [strOfNums_one]; omega), e]
      exact ht k m (by omega)
theorem w_markText.ev (v : Nat) (hv : v ≤ 140737488355327) : ∃ t, Ev (fun k => w_markText.f k (v : Int)) t := by
  by_cases h0 : v = 0
  · exact ⟨_, .const fun k => by rw [w_markText.f_eq, cnT (by omega)]⟩
  · obtain ⟨t, ht⟩ := w_markText.loop v v ByteArray.empty (Nat.le_refl _) (by simpa using hv)
    exact ⟨t, .of (v + 1) fun k hk => by
      show w_markText.f k v = _
      rw [w_markText.f_eq, cnF (by omega)]
      exact ht k k (by omega)⟩
theorem w_markStringS.loop (s len : Nat) (hs : s + len ≤ 140737488355327) : ∀ (n j : Nat) (h : List ByteArray), j + n = len → h.length = len → ∃ t K, t.length = len ∧ h.take j = t.take j ∧ ∀ k m, K ≤ k → n < m → w_markStringS.l0 k m ((s + j : Nat) : Int) j h = some (((s + len : Nat) : Int), t) := by
  intro n
  induction n with
  | zero =>
    intro j h hj hl
    refine ⟨h, 0, hl, rfl, fun k m _ hm => ?_⟩
    obtain ⟨m, rfl⟩ : ∃ m', m = m' + 1 := ⟨m - 1, by omega⟩
    rw [w_markStringS.l0_s, cnF (by omega), show j = len by omega]
  | succ n ih =>
    intro j h hj hl
    obtain ⟨x, K1, hx⟩ := w_markText.ev (s + j) (by omega)
    have hx : ∀ k, K1 ≤ k → w_markText.f k ((s + j : Nat) : Int) = some x := hx
    obtain ⟨t, K, t1, t2, ht⟩ := ih (j + 1) (h.set j x) (by omega) (by simpa using hl)
    refine ⟨t, max K K1, t1, ?_, fun k m hk hm => ?_⟩
    · have := congrArg (fun l => l.take j) t2
      simp only [List.take_take, Nat.min_eq_left (Nat.le_succ j), List.take_set_of_le (Nat.le_refl j)] at this
      exact this
    · obtain ⟨m, rfl⟩ : ∃ m', m = m' + 1 := ⟨m - 1, by omega⟩
      rw [w_markStringS.l0_s, cnT (by omega), hx k (by omega)]
      simp only [Option.bind_some]
      rw [inb_nat (by omega), gd_t, wrap_succ (by omega), wrap_succ (by omega), Int.toNat_natCast]
      exact ht k m (by omega) (by omega)
theorem w_markStringS.ev (a : List ByteArray) (s : Nat) (hs : s + a.length ≤ 140737488355327) : ∃ t, t.length = a.length ∧ Ev (fun k => w_markStringS.f k a (s : Int)) (((s + a.length : Nat) : Int), t) := by
  obtain ⟨t, K, t1, _, ht⟩ := w_markStringS.loop s a.length hs a.length 0 a (by omega) rfl
  exact ⟨t, t1, .of (max K (a.length + 1)) fun k hk => by
    show w_markStringS.f k a s = _
    rw [w_markStringS.f_eq]
    exact ht k k (by omega) (by omega)⟩
theorem w_markBoolS.loop (s len : Nat) (hs : s + len ≤ 9223372036854775806) : ∀ (n j : Nat) (h : List Bool), j + n = len → h.length = len → ∃ t, t.length = len ∧ ∀ k m, n < m → w_markBoolS.l0 k m ((s + j : Nat) : Int) j h = some (((s + len : Nat) : Int), t) := by
  intro n
  induction n with
  | zero =>
    intro j h hj hl
    refine ⟨h, hl, fun k m hm => ?_⟩
    obtain ⟨m, rfl⟩ : ∃ m', m = m' + 1 := ⟨m - 1, by omega⟩
    rw [w_markBoolS.l0_s, cnF (by omega), show j = len by omega]
  | succ n ih =>
    intro j h hj hl
    obtain ⟨t, t1, ht⟩ := ih (j + 1) (h.set j (decide (((s + j : Nat) : Int).tmod (3 : Int) = (0 : Int)))) (by omega) (by simpa using hl)
    refine ⟨t, t1, fun k m hm => ?_⟩
    obtain ⟨m, rfl⟩ : ∃ m', m = m' + 1 := ⟨m - 1, by omega⟩
    rw [w_markBoolS.l0_s, cnT (by omega), inb_nat (by omega), gd_t, wrap_succ (by omega), wrap_succ (by omega), Int.toNat_natCast]
    exact ht k m (by omega)
theorem w_markBoolS.ev (a : List Bool) (s : Nat) (hs : s + a.length ≤ 9223372036854775806) : ∃ t, t.length = a.length ∧ Ev (fun k => w_markBoolS.f k a (s : Int)) (((s + a.length : Nat) : Int), t) := by
  obtain ⟨t, t1, ht⟩ := w_markBoolS.loop s a.length hs a.length 0 a (by omega) rfl
  exact ⟨t, t1, .of (a.length + 1) fun k hk => by
    show w_markBoolS.f k a s = _
    rw [w_markBoolS.f_eq]
    exact ht k k (by omega)⟩
theorem w_eqDisk.ev (p h : List ByteArray) (b : List Bool) (hp : p.length ≤ maxLen) (hh : h.length ≤ maxLen) (hb : b.length ≤ maxLen) : Ev (fun k => w_eqDisk.f k p h b p h b) true := by
  refine Ev.congr (Ev.bind (w_eqStringS.ev p hp) ?_) (fun k => w_eqDisk.f_eq k p h b p h b)
  simp only [Bool.not_true, cn_f]
  refine Ev.bind (w_eqStringS.ev h hh) ?_
  simp only [Bool.not_true, cn_f]
  refine Ev.bind (w_eqBoolS.ev b hb) ?_
  exact .const fun k => rfl
theorem w_markDisk.ev (p h : List ByteArray) (b : List Bool) (hp : p.length ≤ 1048576) (hh : h.length ≤ 1048576) (hb : b.length ≤ 1048576) (s : Nat) (hs : s ≤ 1048576) : ∃ (r : Nat) (x : _), r ≤ s + 3145728 ∧ Ev (fun k => w_markDisk.f k p h b (s : Int)) ((r : Int), x) := by
  obtain ⟨t1, _, e1⟩ := w_markStringS.ev p s (by omega)
  obtain ⟨t2, _, e2⟩ := w_markStringS.ev h (s + p.length) (by omega)
  obtain ⟨t3, _, e3⟩ := w_markBoolS.ev b (s + p.length + h.length) (by omega)
  exact ⟨s + p.length + h.length + b.length, (t1, t2, t3), by omega, Ev.congr (by
    refine Ev.bind e1 ?_
    refine Ev.bind e2 ?_
    refine Ev.bind e3 ?_
    exact .const fun k => rfl) (fun k => w_markDisk.f_eq k p h b s)⟩
/-- What GoodDisk says of the sectors from j on. -/
def gdAll (p h : List ByteArray) (b : List Bool) : Nat → Nat → Bool
  | 0, _ => true
  | r + 1, j => if (28 : Int) < ((getAt ByteArray.empty p j).size : Int) then false else if (28 : Int) < ((getAt ByteArray.empty h j).size : Int) then false
    else if getAt false b j = true then (if (getAt ByteArray.empty h j).toList = ByteArray.empty.toList then gdAll p h b r (j + 1) else false) else gdAll p h b r (j + 1)
theorem gdAll_s (p h : List ByteArray) (b : List Bool) (r j : Nat) : gdAll p h b (r + 1) j = (if (28 : Int) < ((getAt ByteArray.empty p j).size : Int) then false else if (28 : Int) < ((getAt ByteArray.empty h j).size : Int) then false
    else if getAt false b j = true then (if (getAt ByteArray.empty h j).toList = ByteArray.empty.toList then gdAll p h b r (j + 1) else false) else gdAll p h b r (j + 1)) := rfl
def goodD (p h : List ByteArray) (b : List Bool) : Bool := decide (1 ≤ p.length ∧ p.length ≤ 24 ∧ h.length = p.length ∧ b.length = p.length) && gdAll p h b p.length 0
theorem goodD_no {p h : List ByteArray} {b : List Bool} (g : ¬ (1 ≤ p.length ∧ p.length ≤ 24 ∧ h.length = p.length ∧ b.length = p.length)) : goodD p h b = false := by
  unfold goodD
  rw [decide_eq_false g]; rfl
theorem goodD_yes {p h : List ByteArray} {b : List Bool} (g : 1 ≤ p.length ∧ p.length ≤ 24 ∧ h.length = p.length ∧ b.length = p.length) : goodD p h b = gdAll p h b p.length 0 := by
  unfold goodD
  rw [decide_eq_true g]; rfl
theorem goodD_len {p h : List ByteArray} {b : List Bool} (g : goodD p h b = true) : 1 ≤ p.length ∧ p.length ≤ 24 ∧ h.length = p.length ∧ b.length = p.length := by
  unfold goodD at g
  simp only [Bool.and_eq_true, decide_eq_true_eq] at g
  exact g.1
/-- One byte shifted through, n bits of it. -/
def crcN : Nat → Int → Int
  | 0, x => x
  | n + 1, x => crcN n (cn (decide (IntKind.i64.wrap (↑(BitVec.ofInt (64 : Nat) x &&& BitVec.ofInt (64 : Nat) (1 : Int)).toNat : Int) = (1 : Int))) (IntKind.i64.wrap (↑(BitVec.ofInt (64 : Nat) (x.fdiv ((2 : Int) ^ (1 : Nat))) ^^^ BitVec.ofInt (64 : Nat) (2197175160 : Int)).toNat : Int)) (x.fdiv ((2 : Int) ^ (1 : Nat))))
theorem crcN_s (n : Nat) (x : Int) : crcN (n + 1) x = crcN n (cn (decide (IntKind.i64.wrap (↑(BitVec.ofInt (64 : Nat) x &&& BitVec.ofInt (64 : Nat) (1 : Int)).toNat : Int) = (1 : Int))) (IntKind.i64.wrap (↑(BitVec.ofInt (64 : Nat) (x.fdiv ((2 : Int) ^ (1 : Nat))) ^^^ BitVec.ofInt (64 : Nat) (2197175160 : Int)).toNat : Int)) (x.fdiv ((2 : Int) ^ (1 : Nat)))) := rfl
/-- The sum over n bytes of t from j on. -/
def crcL (t : ByteArray) : Nat → Int → Nat → Int
  | 0, x, _ => IntKind.i64.wrap (↑(BitVec.ofInt (64 : Nat) x ^^^ BitVec.ofInt (64 : Nat) (4294967295 : Int)).toNat : Int)
  | n + 1, x, j => crcL t n (crcN 8 (IntKind.i64.wrap (↑(BitVec.ofInt (64 : Nat) x ^^^ BitVec.ofInt (64 : Nat) (IntKind.i64.wrap (↑(t.data.getD j (0 : UInt8)).toNat : Int))).toNat : Int))) (j + 1)
theorem crcL_s (t : ByteArray) (n : Nat) (x : Int) (j : Nat) : crcL t (n + 1) x j = crcL t n (crcN 8 (IntKind.i64.wrap (↑(BitVec.ofInt (64 : Nat) x ^^^ BitVec.ofInt (64 : Nat) (IntKind.i64.wrap (↑(t.data.getD j (0 : UInt8)).toNat : Int))).toNat : Int))) (j + 1) := rfl
def crc (t : ByteArray) : Int := crcL t t.size (IntKind.i64.wrap (↑(BitVec.ofInt (64 : Nat) (0 : Int) ^^^ BitVec.ofInt (64 : Nat) (4294967295 : Int)).toNat : Int)) 0
theorem i_shifted.loop (k : Nat) : ∀ (n j m : Nat) (x : Int), j + n = 8 → n < m → i_shifted.l0 k m x (j : Int) = some (crcN n x) := by
  intro n
  induction n with
  | zero =>
    intro j m x hj hm
    obtain ⟨m, rfl⟩ : ∃ m', m = m' + 1 := ⟨m - 1, by omega⟩
    rw [i_shifted.l0_s, cnF (by omega)]; rfl
  | succ n ih =>
    intro j m x hj hm
    obtain ⟨m, rfl⟩ : ∃ m', m = m' + 1 := ⟨m - 1, by omega⟩
    rw [i_shifted.l0_s, cnT (by omega), wrap_succ (by omega), ih (j + 1) m _ (by omega) (by omega), ih (j + 1) m _ (by omega) (by omega), crcN_s]
    cases decide (IntKind.i64.wrap (↑(BitVec.ofInt (64 : Nat) x &&& BitVec.ofInt (64 : Nat) (1 : Int)).toNat : Int) = (1 : Int)) <;> rfl
theorem i_shifted.eq (k : Nat) (hk : 9 ≤ k) (x : Int) : i_shifted.f k x = some (crcN 8 x) := by
  rw [i_shifted.f_eq]
  exact i_shifted.loop k 8 0 k x (by omega) (by omega)
theorem s_l5Byte.loop (k : Nat) : ∀ (n j m : Nat) (x : Int), j + n = 8 → n < m → s_l5Byte.l0 k m x (j : Int) = some (crcN n x) := by
  intro n
  induction n with
  | zero =>
    intro j m x hj hm
    obtain ⟨m, rfl⟩ : ∃ m', m = m' + 1 := ⟨m - 1, by omega⟩
    rw [s_l5Byte.l0_s, cnF (by omega)]; rfl
  | succ n ih =>
    intro j m x hj hm
    obtain ⟨m, rfl⟩ : ∃ m', m = m' + 1 := ⟨m - 1, by omega⟩
    rw [s_l5Byte.l0_s, cnT (by omega), wrap_succ (by omega), ih (j + 1) m _ (by omega) (by omega), ih (j + 1) m _ (by omega) (by omega), crcN_s]
    cases decide (IntKind.i64.wrap (↑(BitVec.ofInt (64 : Nat) x &&& BitVec.ofInt (64 : Nat) (1 : Int)).toNat : Int) = (1 : Int)) <;> rfl
theorem s_l5Byte.eq (k : Nat) (hk : 9 ≤ k) (x : Int) : s_l5Byte.f k x = some (crcN 8 x) := by
  rw [s_l5Byte.f_eq]
  exact s_l5Byte.loop k 8 0 k x (by omega) (by omega)
theorem i_sumOn.loop (k : Nat) (hk : 9 ≤ k) (t : ByteArray) (ht : t.size ≤ 140737488355328) : ∀ (n j m : Nat) (x : Int), j + n = t.size → n < m → i_sumOn.l0 k m x t (t.size : Int) (j : Int) = some (crcL t n x j) := by
  intro n
  induction n with
  | zero =>
    intro j m x hj hm
    obtain ⟨m, rfl⟩ : ∃ m', m = m' + 1 := ⟨m - 1, by omega⟩
    rw [i_sumOn.l0_s, cnF (by omega), i_turned.f_eq]; rfl
  | succ n ih =>
    intro j m x hj hm
    obtain ⟨m, rfl⟩ : ∃ m', m = m' + 1 := ⟨m - 1, by omega⟩
    rw [i_sumOn.l0_s, cnT (by omega), inb_nat (by omega), gd_t, i_shifted.eq k hk, Option.bind_some, wrap_succ (by omega), ih (j + 1) m _ (by omega) (by omega), crcL_s, Int.toNat_natCast]
theorem i_sumOn.eq (k : Nat) (t : ByteArray) (ht : t.size ≤ 140737488355328) (hk : t.size + 9 ≤ k) : i_sumOn.f k 0 t = some (crc t) := by
  rw [i_sumOn.f_eq, i_turned.f_eq, Option.bind_some]
  exact i_sumOn.loop k (by omega) t ht t.size 0 k _ (by omega) (by omega)
theorem s_l5On.loop (k : Nat) (hk : 9 ≤ k) (t : ByteArray) (ht : t.size ≤ 140737488355328) : ∀ (n j m : Nat) (x : Int), j + n = t.size → n < m → s_l5On.l0 k m x t (j : Int) = some (crcL t n x j) := by
  intro n
  induction n with
  | zero =>
    intro j m x hj hm
    obtain ⟨m, rfl⟩ : ∃ m', m = m' + 1 := ⟨m - 1, by omega⟩
    rw [s_l5On.l0_s, cnF (by omega)]; rfl
  | succ n ih =>
    intro j m x hj hm
    obtain ⟨m, rfl⟩ : ∃ m', m = m' + 1 := ⟨m - 1, by omega⟩
    rw [s_l5On.l0_s, cnT (by omega), inb_nat (by omega), gd_t, s_l5Byte.eq k hk, Option.bind_some, wrap_succ (by omega), ih (j + 1) m _ (by omega) (by omega), crcL_s, Int.toNat_natCast]
theorem s_l5On.eq (k : Nat) (t : ByteArray) (ht : t.size ≤ 140737488355328) (hk : t.size + 9 ≤ k) : s_l5On.f k 0 t = some (crc t) := by
  rw [s_l5On.f_eq]
  exact s_l5On.loop k (by omega) t ht t.size 0 k _ (by omega) (by omega)
theorem strOfNums_append (a b : List Int) : strOfNums (a ++ b) = strOfNums a ++ strOfNums b := by
  apply ByteArray.ext
  rw [ByteArray.data_append]
  simp [strOfNums]
theorem strOfNums_bytes (s : ByteArray) : strOfNums (bytesL s) = s := by
  apply ByteArray.ext
  simp only [strOfNums, bytesL, List.map_map]
  rw [show ((fun n : Int => UInt8.ofNat n.toNat) ∘ fun b : UInt8 => (b.toNat : Int)) = id by funext b; simp]
  simp
theorem strOfNums_nil : strOfNums [] = ByteArray.empty := rfl
theorem strOfNums_len (xs : List Int) : (strOfNums xs).size = xs.length := by simp [strOfNums, ByteArray.size]
theorem mk1 (n : Nat) (h : n ≤ 70368744177664) : mkOk (n : Int) (n : Int) (Try.prog.bytesOf (5 : Nat)) = true := by
  rw [show Try.prog.bytesOf (5 : Nat) = 1 by kernel_rfl]
  unfold mkOk
  simp; omega
theorem app1 (n : Nat) (h : n ≤ 70368744177664) : appOk n (Try.prog.bytesOf (5 : Nat)) = true := by
  rw [show Try.prog.bytesOf (5 : Nat) = 1 by kernel_rfl]
  unfold appOk
  simp; omega
theorem s_l6Bytes.one (k : Nat) (hk : 2 ≤ k) (n : Int) : s_l6Bytes.f k n 1 = some (strOfNums [IntKind.u8.wrap n]) := by
  rw [s_l6Bytes.f_eq, show mkOk (1 : Int) (1 : Int) (Try.prog.bytesOf (5 : Nat)) = true from mk1 1 (by omega), gd_t]
  obtain ⟨k2, e⟩ : ∃ k2, k = k2 + 2 := ⟨k - 2, by omega⟩
  generalize k = kk at e ⊢
  subst e
  rw [show IntKind.i64.wrap ((1 : Int) - 1) = ((0 : Nat) : Int) from wrap_eq (by decide) (by decide)]
  rw [s_l6Bytes.l0_s, cnT (by decide), inb_nat (by simp), gd_t, show IntKind.i64.wrap (((0 : Nat) : Int) - 1) = -1 from wrap_eq (by decide) (by decide), s_l6Bytes.l0_s, cnF (by decide)]
  rfl
theorem s_l6Bytes.two (k : Nat) (hk : 3 ≤ k) (n : Int) : s_l6Bytes.f k n 2 = some (strOfNums [IntKind.u8.wrap (n.fdiv ((2 : Int) ^ (8 : Nat))), IntKind.u8.wrap n]) := by
  rw [s_l6Bytes.f_eq, show mkOk (2 : Int) (2 : Int) (Try.prog.bytesOf (5 : Nat)) = true from mk1 2 (by omega), gd_t]
  obtain ⟨k2, e⟩ : ∃ k2, k = k2 + 3 := ⟨k - 3, by omega⟩
  generalize k = kk at e ⊢
  subst e
  rw [show IntKind.i64.wrap ((2 : Int) - 1) = ((1 : Nat) : Int) from wrap_eq (by decide) (by decide)]
  rw [s_l6Bytes.l0_s, cnT (by decide), inb_nat (by simp), gd_t, show IntKind.i64.wrap (((1 : Nat) : Int) - 1) = ((0 : Nat) : Int) from wrap_eq (by decide) (by decide)]
  rw [s_l6Bytes.l0_s, cnT (by decide), inb_nat (by simp), gd_t, show IntKind.i64.wrap (((0 : Nat) : Int) - 1) = -1 from wrap_eq (by decide) (by decide), s_l6Bytes.l0_s, cnF (by decide)]
  rfl
def low4 (n : Int) : List Int := [IntKind.u8.wrap n, IntKind.u8.wrap (n.fdiv ((2 : Int) ^ (8 : Nat))), IntKind.u8.wrap (n.fdiv ((2 : Int) ^ (16 : Nat))), IntKind.u8.wrap (n.fdiv ((2 : Int) ^ (24 : Nat)))]
theorem s_l6Low.step (k m : Nat) (hk : 3 ≤ k) (n : Int) (s : ByteArray) (hs : s.size ≤ 10) (j : Nat) (hj : j < 4) : s_l6Low.l0 k (m + 1) n s (j : Int) = s_l6Low.l0 k m n (s ++ strOfNums [IntKind.u8.wrap (n.fdiv ((2 : Int) ^ (8 * j)))]) ((j + 1 : Nat) : Int) := by
  have e : IntKind.u64.wrap (IntKind.i64.wrap ((8 : Int) * (j : Int))) = ((8 * j : Nat) : Int) := by
    rw [wrap_eq (by omega) (by omega)]
    have : j = 0 ∨ j = 1 ∨ j = 2 ∨ j = 3 := by omega
    rcases this with rfl | rfl | rfl | rfl <;> decide
  rw [s_l6Low.l0_s, cnT (by omega), e, gdT (by omega), Int.toNat_natCast, show min (8 * j) 64 = 8 * j by omega, s_l6Bytes.one k (by omega), Option.bind_some, gdT (by rw [strOfNums_len]; simp; omega), wrap_succ (by omega)]
theorem s_l6Low.all (k m : Nat) (hk : 3 ≤ k) (hm : 5 ≤ m) (n : Int) : s_l6Low.l0 k m n ByteArray.empty 0 = some (strOfNums (low4 n)) := by
  obtain ⟨k5, rfl⟩ : ∃ k5, m = k5 + 1 + 1 + 1 + 1 + 1 := ⟨m - 5, by omega⟩
  have e0 : (0 : Int) = ((0 : Nat) : Int) := rfl
  rw [e0, s_l6Low.step k _ hk n _ (by decide) 0 (by omega), s_l6Low.step k _ hk n _ (by simp [strOfNums_len]) 1 (by omega), s_l6Low.step k _ hk n _ (by simp [strOfNums_len]) 2 (by omega), s_l6Low.step k _ hk n _ (by simp [strOfNums_len]) 3 (by omega), s_l6Low.l0_s, cnF (by omega)]
  rw [← strOfNums_nil, ← strOfNums_append, ← strOfNums_append, ← strOfNums_append, ← strOfNums_append]
  unfold low4
  rw [show n.fdiv ((2 : Int) ^ (8 * 0)) = n by simp]
  rfl
theorem s_l6Low.eq (k : Nat) (hk : 5 ≤ k) (n : Int) : s_l6Low.f k n = some (strOfNums (low4 n)) := by
  rw [s_l6Low.f_eq]
  exact s_l6Low.all k k (by omega) hk n
def head6 (kind at_ ep : Int) (body : ByteArray) : List Int := [IntKind.u8.wrap kind, IntKind.u8.wrap (at_.fdiv ((2 : Int) ^ (8 : Nat))), IntKind.u8.wrap at_, IntKind.u8.wrap (ep.fdiv ((2 : Int) ^ (8 : Nat))), IntKind.u8.wrap ep, IntKind.u8.wrap (↑body.size : Int)]
def pad18 (body : ByteArray) : List Int := List.replicate (18 - body.size) (0 : Int)
def front24 (kind at_ ep : Int) (body : ByteArray) : List Int := head6 kind at_ ep body ++ bytesL body ++ pad18 body
def frameL (kind at_ ep : Int) (body : ByteArray) : List Int := front24 kind at_ ep body ++ low4 (crc (strOfNums (front24 kind at_ ep body)))
theorem bytesL_len (s : ByteArray) : (bytesL s).length = s.size := by simp [bytesL]
theorem front24_len (kind at_ ep : Int) (body : ByteArray) (hb : body.size ≤ 16) : (front24 kind at_ ep body).length = 24 := by
  unfold front24 head6 pad18
  simp only [List.length_append, bytesL_len, List.length_replicate, List.length_cons, List.length_nil]
  omega
theorem i_frameBytes.eq (k : Nat) (hk : 40 ≤ k) (kind at_ ep : Int) (body : ByteArray) (hb : body.size ≤ 16) : i_frameBytes.f k kind at_ ep body = some (strOfNums (frameL kind at_ ep body)) := by
  have e : IntKind.i64.wrap (IntKind.i64.wrap ((18 : Int) - (↑body.size : Int))) = ((18 - body.size : Nat) : Int) := by
    rw [wrap_eq (n := 18 - (body.size : Int)) (by omega) (by omega), wrap_eq (by omega) (by omega)]; omega
  rw [i_frameBytes.f_eq, e, Int.toNat_natCast]
  have hL := front24_len kind at_ ep body hb
  unfold front24 head6 pad18 at hL
  rw [app1 _ (by simp only [bytesL_len, List.length_cons, List.length_nil]; omega), gd_t, app1 _ (by rw [← List.length_append, hL]; omega), decide_eq_true (by omega : (0 : Int) ≤ ((18 - body.size : Nat) : Int)), Bool.true_and, gd_t]
  rw [i_sumOn.eq k _ (by rw [strOfNums_len, hL]; omega) (by rw [strOfNums_len, hL]; omega), Option.bind_some, app1 _ (by rw [hL]; simp), gd_t]
  rfl
theorem gd_le {A : Type} {x y : Nat} {z : Option A} (h : x ≤ y) : gd (decide (x ≤ y)) z = z := gdT h
theorem s_l6Frame.eq (k : Nat) (hk : 40 ≤ k) (kind at_ ep : Int) (body : ByteArray) (hb : body.size ≤ 16) : s_l6Frame.f k kind at_ ep body = some (strOfNums (frameL kind at_ ep body)) := by
  have e : IntKind.i64.wrap (IntKind.i64.wrap ((16 : Int) - (↑body.size : Int)) + 2) = ((18 - body.size : Nat) : Int) := by
    rw [wrap_eq (n := 16 - (body.size : Int)) (by omega) (by omega), wrap_eq (by omega) (by omega)]; omega
  have hL := front24_len kind at_ ep body hb
  have eF : strOfNums [IntKind.u8.wrap kind] ++ strOfNums [IntKind.u8.wrap (at_.fdiv ((2 : Int) ^ (8 : Nat))), IntKind.u8.wrap at_] ++ strOfNums [IntKind.u8.wrap (ep.fdiv ((2 : Int) ^ (8 : Nat))), IntKind.u8.wrap ep] ++ strOfNums [IntKind.u8.wrap (body.size : Int)] ++ body ++ strOfNums (List.replicate (18 - body.size) (0 : Int)) = strOfNums (front24 kind at_ ep body) := by
    unfold front24
    rw [strOfNums_append, strOfNums_append, strOfNums_bytes, ← strOfNums_append, ← strOfNums_append, ← strOfNums_append]
    rfl
  have hc := s_l5On.eq k (strOfNums (front24 kind at_ ep body)) (by rw [strOfNums_len, hL]; omega) (by rw [strOfNums_len, hL]; omega)
  rw [s_l6Frame.f_eq]
  simp only [s_l6Bytes.one k (by omega : 2 ≤ k), s_l6Bytes.two k (by omega : 3 ≤ k), Option.bind_some, e, Int.toNat_natCast, mk1 (18 - body.size) (by omega), gd_t, ByteArray.size_append, strOfNums_len, List.length_cons, List.length_nil, List.length_replicate]
  simp (disch := omega) only [gd_le]
  simp only [eF, hc, Option.bind_some, s_l6Low.eq k (by omega : 5 ≤ k), strOfNums_len]
  simp only [show ∀ n, (low4 n).length = 4 from fun _ => rfl]
  simp (disch := omega) only [gd_le, both_self]
  rw [← strOfNums_append]
  rfl
/-- The mark's text. -/
noncomputable def mt (v : Nat) : ByteArray := @dite _ (∃ t, Ev (fun k => w_markText.f k (v : Int)) t) (Classical.propDecidable _) (fun h => Classical.choose h) (fun _ => ByteArray.empty)
theorem mt_ev (v : Nat) (hv : v ≤ 140737488355327) : Ev (fun k => w_markText.f k (v : Int)) (mt v) := by
  have h := w_markText.ev v hv
  unfold mt
  rw [dif_pos h]
  exact Classical.choose_spec h
noncomputable def mks (s n : Nat) : List ByteArray := (List.range n).map fun i => mt (s + i)
theorem mks_len (s n : Nat) : (mks s n).length = n := by simp [mks]
theorem w_markStringS.loop2 (s len : Nat) (hs : s + len ≤ 140737488355327) : ∀ (n j : Nat) (h : List ByteArray), j + n = len → h.length = len → h.take j = mks s j → ∃ K, ∀ k m, K ≤ k → n < m → w_markStringS.l0 k m ((s + j : Nat) : Int) j h = some (((s + len : Nat) : Int), mks s len) := by
  intro n
  induction n with
  | zero =>
    intro j h hj hl hh
    refine ⟨0, fun k m _ hm => ?_⟩
    obtain ⟨m, rfl⟩ : ∃ m', m = m' + 1 := ⟨m - 1, by omega⟩
    rw [List.take_of_length_le (by omega)] at hh
    rw [w_markStringS.l0_s, cnF (by omega), hh, show j = len by omega]
  | succ n ih =>
    intro j h hj hl hh
    obtain ⟨K1, hx⟩ := mt_ev (s + j) (by omega)
    have hx : ∀ k, K1 ≤ k → w_markText.f k ((s + j : Nat) : Int) = some (mt (s + j)) := hx
    obtain ⟨K, ht⟩ := ih (j + 1) (h.set j (mt (s + j))) (by omega) (by simpa using hl) (by
      rw [List.take_succ_eq_append_getElem (by simp; omega), List.getElem_set_self, List.take_set_of_le (Nat.le_refl j), hh]
      unfold mks
      rw [List.range_succ, List.map_append]; rfl)
    refine ⟨max K K1, fun k m hk hm => ?_⟩
    obtain ⟨m, rfl⟩ : ∃ m', m = m' + 1 := ⟨m - 1, by omega⟩
    rw [w_markStringS.l0_s, cnT (by omega), hx k (by omega)]
    simp only [Option.bind_some]
    rw [inb_nat (by omega), gd_t, wrap_succ (by omega), wrap_succ (by omega), Int.toNat_natCast]
    exact ht k m (by omega) (by omega)
theorem w_markStringS.ev2 (a : List ByteArray) (s : Nat) (hs : s + a.length ≤ 140737488355327) : Ev (fun k => w_markStringS.f k a (s : Int)) (((s + a.length : Nat) : Int), mks s a.length) := by
  obtain ⟨K, ht⟩ := w_markStringS.loop2 s a.length hs a.length 0 a (by omega) rfl (by simp [mks])
  exact .of (max K (a.length + 1)) fun k hk => by
    show w_markStringS.f k a s = _
    rw [w_markStringS.f_eq]
    exact ht k k (by omega) (by omega)
theorem w_heldStringS.loop (s len : Nat) (hs : s + len ≤ 140737488355327) : ∀ (n j : Nat), j + n = len → ∃ K, ∀ k m, K ≤ k → n < m → w_heldStringS.l0 k m (mks s len) ((s + j : Nat) : Int) j = some ((s + len : Nat) : Int) := by
  have hl := mks_len s len
  intro n
  induction n with
  | zero =>
    intro j hj
    refine ⟨0, fun k m _ hm => ?_⟩
    obtain ⟨m, rfl⟩ : ∃ m', m = m' + 1 := ⟨m - 1, by omega⟩
    rw [w_heldStringS.l0_s, cnF (by omega), show j = len by omega]
  | succ n ih =>
    intro j hj
    obtain ⟨K1, hx⟩ := mt_ev (s + j) (by omega)
    have hx : ∀ k, K1 ≤ k → w_markText.f k ((s + j : Nat) : Int) = some (mt (s + j)) := hx
    obtain ⟨K, ht⟩ := ih (j + 1) (by omega)
    refine ⟨max K K1, fun k m hk hm => ?_⟩
    obtain ⟨m, rfl⟩ : ∃ m', m = m' + 1 := ⟨m - 1, by omega⟩
    rw [w_heldStringS.l0_s, cnT (by omega), inb_nat (by omega), gd_t, hx k (by omega), Option.bind_some, Int.toNat_natCast, cnNT (by rw [getAt_lt (by omega)]; simp [mks]), wrap_succ (by omega), wrap_succ (by omega)]
    exact ht k m (by omega) (by omega)
theorem w_heldStringS.ev (s len : Nat) (hs : s + len ≤ 140737488355327) : Ev (fun k => w_heldStringS.f k (mks s len) (s : Int)) ((s + len : Nat) : Int) := by
  obtain ⟨K, ht⟩ := w_heldStringS.loop s len hs len 0 (by omega)
  exact .of (max K (len + 1)) fun k hk => by
    show w_heldStringS.f k _ s = _
    rw [w_heldStringS.f_eq]
    exact ht k k (by omega) (by omega)
def mbs (s n : Nat) : List Bool := (List.range n).map fun i => decide (((s + i : Nat) : Int).tmod (3 : Int) = (0 : Int))
theorem mbs_len (s n : Nat) : (mbs s n).length = n := by simp [mbs]
theorem w_markBoolS.loop2 (s len : Nat) (hs : s + len ≤ 9223372036854775806) (k : Nat) : ∀ (n j : Nat) (h : List Bool) (m : Nat), j + n = len → h.length = len → h.take j = mbs s j → n < m → w_markBoolS.l0 k m ((s + j : Nat) : Int) j h = some (((s + len : Nat) : Int), mbs s len) := by
  intro n
  induction n with
  | zero =>
    intro j h m hj hl hh hm
    obtain ⟨m, rfl⟩ : ∃ m', m = m' + 1 := ⟨m - 1, by omega⟩
    rw [List.take_of_length_le (by omega)] at hh
    rw [w_markBoolS.l0_s, cnF (by omega), hh, show j = len by omega]
  | succ n ih =>
    intro j h m hj hl hh hm
    obtain ⟨m, rfl⟩ : ∃ m', m = m' + 1 := ⟨m - 1, by omega⟩
    rw [w_markBoolS.l0_s, cnT (by omega), inb_nat (by omega), gd_t, wrap_succ (by omega), wrap_succ (by omega), Int.toNat_natCast]
    refine ih (j + 1) _ m (by omega) (by simpa using hl) ?_ (by omega)
    rw [List.take_succ_eq_append_getElem (by simp; omega), List.getElem_set_self, List.take_set_of_le (Nat.le_refl j), hh]
    unfold mbs
    rw [List.range_succ, List.map_append]; rfl
theorem w_markBoolS.ev2 (a : List Bool) (s : Nat) (hs : s + a.length ≤ 9223372036854775806) : Ev (fun k => w_markBoolS.f k a (s : Int)) (((s + a.length : Nat) : Int), mbs s a.length) := .of (a.length + 1) fun k hk => by
  show w_markBoolS.f k a s = _
  rw [w_markBoolS.f_eq]
  exact w_markBoolS.loop2 s a.length hs k a.length 0 a k (by omega) rfl (by simp [mbs]) (by omega)
theorem w_heldBoolS.loop (s len : Nat) (hs : s + len ≤ 9223372036854775806) (k : Nat) : ∀ (n j m : Nat), j + n = len → n < m → w_heldBoolS.l0 k m (mbs s len) ((s + j : Nat) : Int) j = some ((s + len : Nat) : Int) := by
  have hl := mbs_len s len
  intro n
  induction n with
  | zero =>
    intro j m hj hm
    obtain ⟨m, rfl⟩ : ∃ m', m = m' + 1 := ⟨m - 1, by omega⟩
    rw [w_heldBoolS.l0_s, cnF (by omega), show j = len by omega]
  | succ n ih =>
    intro j m hj hm
    obtain ⟨m, rfl⟩ : ∃ m', m = m' + 1 := ⟨m - 1, by omega⟩
    have e : (!getAt false (mbs s len) j == decide (((s + j : Nat) : Int).tmod (3 : Int) = (0 : Int))) = false := by
      rw [getAt_lt (by omega)]
      simp only [mbs, List.getElem_map, List.getElem_range]
      cases decide (((s + j : Nat) : Int).tmod (3 : Int) = (0 : Int)) <;> rfl
    rw [w_heldBoolS.l0_s, cnT (by omega), inb_nat (by omega), gd_t, Int.toNat_natCast, e, cn_f, wrap_succ (by omega), wrap_succ (by omega)]
    exact ih (j + 1) m (by omega) (by omega)
theorem w_heldBoolS.ev (s len : Nat) (hs : s + len ≤ 9223372036854775806) : Ev (fun k => w_heldBoolS.f k (mbs s len) (s : Int)) ((s + len : Nat) : Int) := .of (len + 1) fun k hk => by
  show w_heldBoolS.f k _ s = _
  rw [w_heldBoolS.f_eq]
  exact w_heldBoolS.loop s len hs k len 0 k (by omega) (by omega)
theorem w_markDisk.ev2 (p h : List ByteArray) (b : List Bool) (s : Nat) (hs : s + p.length + h.length + b.length ≤ 140737488355327) : Ev (fun k => w_markDisk.f k p h b (s : Int)) (((s + p.length + h.length + b.length : Nat) : Int), mks s p.length, mks (s + p.length) h.length, mbs (s + p.length + h.length) b.length) := by
  refine Ev.congr ?_ (fun k => w_markDisk.f_eq k p h b s)
  refine Ev.bind (w_markStringS.ev2 p s (by omega)) ?_
  refine Ev.bind (w_markStringS.ev2 h (s + p.length) (by omega)) ?_
  refine Ev.bind (w_markBoolS.ev2 b (s + p.length + h.length) (by omega)) ?_
  exact .const fun k => rfl
theorem w_heldDisk.ev (s a b c : Nat) (hs : s + a + b + c ≤ 140737488355327) : Ev (fun k => w_heldDisk.f k (mks s a) (mks (s + a) b) (mbs (s + a + b) c) (s : Int)) ((s + a + b + c : Nat) : Int) := by
  refine Ev.congr ?_ (fun k => w_heldDisk.f_eq k _ _ _ s)
  refine Ev.bind (w_heldStringS.ev s a (by omega)) ?_
  simp only [cnF (show ¬ ((s + a : Nat) : Int) < 0 by omega)]
  refine Ev.bind (w_heldStringS.ev (s + a) b (by omega)) ?_
  simp only [cnF (show ¬ ((s + a + b : Nat) : Int) < 0 by omega)]
  refine Ev.bind (w_heldBoolS.ev (s + a + b) c (by omega)) ?_
  exact .const fun k => by rw [cnF (show ¬ ((s + a + b + c : Nat) : Int) < 0 by omega)]
theorem w_eqJournal.ev (p h : List ByteArray) (b : List Bool) (e ph : Int) (x y : List Int) (hp : p.length ≤ maxLen) (hh : h.length ≤ maxLen) (hb : b.length ≤ maxLen) (hx : x.length ≤ maxLen) (hy : y.length ≤ maxLen) : Ev (fun k => w_eqJournal.f k p h b e ph x y p h b e ph x y) true := by
  refine Ev.congr ?_ (fun k => w_eqJournal.f_eq k p h b e ph x y p h b e ph x y)
  refine Ev.bind (w_eqDisk.ev p h b hp hh hb) ?_
  simp only [Bool.not_true, cn_f, decide_true]
  refine Ev.bind (w_eqIntS.ev x hx) ?_
  simp only [Bool.not_true, cn_f]
  refine Ev.bind (w_eqIntS.ev y hy) ?_
  exact .const fun k => rfl
theorem w_markJournal.ev (p h : List ByteArray) (b : List Bool) (e ph : Int) (x y : List Int) (s : Nat) (hs : s + p.length + h.length + b.length + x.length + y.length ≤ 140737488355327) : Ev (fun k => w_markJournal.f k p h b e ph x y (s : Int))
    (((s + p.length + h.length + b.length + x.length + y.length : Nat) : Int), mks s p.length, mks (s + p.length) h.length, mbs (s + p.length + h.length) b.length, marks (s + p.length + h.length + b.length) x.length, marks (s + p.length + h.length + b.length + x.length) y.length) := by
  refine Ev.congr ?_ (fun k => w_markJournal.f_eq k p h b e ph x y s)
  refine Ev.bind (w_markDisk.ev2 p h b s (by omega)) ?_
  refine Ev.bind (w_markIntS.ev x (s + p.length + h.length + b.length) (by omega)) ?_
  refine Ev.bind (w_markIntS.ev y (s + p.length + h.length + b.length + x.length) (by omega)) ?_
  exact .const fun k => rfl
theorem w_heldJournal.ev (s a b c d f : Nat) (e ph : Int) (hs : s + a + b + c + d + f ≤ 140737488355327) : Ev (fun k => w_heldJournal.f k (mks s a) (mks (s + a) b) (mbs (s + a + b) c) e ph (marks (s + a + b + c) d) (marks (s + a + b + c + d) f) (s : Int)) ((s + a + b + c + d + f : Nat) : Int) := by
  refine Ev.congr ?_ (fun k => w_heldJournal.f_eq k _ _ _ e ph _ _ s)
  refine Ev.bind (w_heldDisk.ev s a b c (by omega)) ?_
  simp only [cnF (show ¬ ((s + a + b + c : Nat) : Int) < 0 by omega)]
  refine Ev.bind (w_heldIntS.ev (s + a + b + c) d (by omega)) ?_
  simp only [cnF (show ¬ ((s + a + b + c + d : Nat) : Int) < 0 by omega)]
  refine Ev.bind (w_heldIntS.ev (s + a + b + c + d) f (by omega)) ?_
  exact .const fun k => by rw [cnF (show ¬ ((s + a + b + c + d + f : Nat) : Int) < 0 by omega)]
theorem mk5s : mkOk (5 : Int) (5 : Int) (Try.prog.bytesOf (9 : Nat)) = true := by
  rw [show Try.prog.bytesOf (9 : Nat) = 16 by kernel_rfl]; decide
theorem mk5b : mkOk (5 : Int) (5 : Int) (Try.prog.bytesOf (4 : Nat)) = true := by
  rw [show Try.prog.bytesOf (4 : Nat) = 1 by kernel_rfl]; decide
theorem i_NewDisk.five (k : Nat) : i_NewDisk.f k 5 = some ((List.replicate 5 ByteArray.empty, List.replicate 5 ByteArray.empty, List.replicate 5 false), true) := by
  rw [i_NewDisk.f_eq, i_within.f_eq, cnT (by decide), Option.bind_some, decide_eq_true (by decide : (5 : Int) ≤ 24)]
  simp only [Bool.not_true, cn_f, mk5s, mk5b, gd_t, both_self]
  rfl
theorem s_NewDisk.five (k : Nat) : s_NewDisk.f k 5 = some ((List.replicate 5 ByteArray.empty, List.replicate 5 ByteArray.empty, List.replicate 5 false), true) := by
  rw [s_NewDisk.f_eq, s_l1In.f_eq, cnT (by decide), Option.bind_some, decide_eq_true (by decide : (5 : Int) ≤ 24)]
  simp only [Bool.not_true, cn_f, mk5s, mk5b, gd_t, both_self]
  rfl
abbrev zz6 : ByteArray := strOfNums (List.replicate 6 (0 : Int))
theorem rep2 (j : Nat) : List.replicate (2 * j) (0 : Int) ++ [0, 0] = List.replicate (2 * (j + 1)) 0 := by
  refine List.eq_replicate_iff.2 ⟨by simp; omega, fun b hb => ?_⟩
  rcases List.mem_append.1 hb with h | h
  · exact List.eq_of_mem_replicate h
  · simpa using h
theorem get0 (j : Nat) : getAt (0 : Int) (List.replicate 6 (0 : Int)) j = 0 := by
  unfold getAt
  rw [List.getD_eq_getElem?_getD, List.getElem?_replicate]
  split <;> rfl
theorem i_stateBytes.loop (k : Nat) : ∀ (n j m : Nat), j + n = 6 → n < m → i_stateBytes.l0 k m (List.replicate 6 0) 6 (j : Int) (List.replicate (2 * j) 0) = some [zz6, zz6] := by
  intro n
  induction n with
  | zero =>
    intro j m hj hm
    obtain ⟨m, rfl⟩ : ∃ m', m = m' + 1 := ⟨m - 1, by omega⟩
    obtain rfl : j = 6 := by omega
    rw [i_stateBytes.l0_s, cnF (by decide), decide_eq_true (by decide : (6 : Int) ≤ ((List.replicate (2 * 6) (0 : Int)).length : Int))]
    simp only [Bool.true_and, gd_t, both_self]
    rfl
  | succ n ih =>
    intro j m hj hm
    obtain ⟨m, rfl⟩ : ∃ m', m = m' + 1 := ⟨m - 1, by omega⟩
    rw [i_stateBytes.l0_s, cnT (by omega), inb_nat (by simp; omega), gd_t, Int.toNat_natCast, get0, app1 _ (by simp; omega), gd_t, wrap_succ (by omega)]
    rw [show [IntKind.u8.wrap ((0 : Int).fdiv ((2 : Int) ^ (8 : Nat))), IntKind.u8.wrap (0 : Int)] = [0, 0] by decide, rep2]
    exact ih (j + 1) m (by omega) (by omega)
theorem i_stateBytes.zero (k : Nat) (hk : 7 ≤ k) : i_stateBytes.f k (List.replicate 6 0) = some [zz6, zz6] := by
  rw [i_stateBytes.f_eq]
  exact i_stateBytes.loop k 6 0 k (by omega) (by omega)
theorem s_l15Bytes.loop (k : Nat) (hk : 3 ≤ k) : ∀ (n j m : Nat), j + n = 6 → n < m → s_l15Bytes.l0 k m (strOfNums (List.replicate (2 * j) 0)) (List.replicate 6 0) 6 (j : Int) = some [zz6, zz6] := by
  intro n
  induction n with
  | zero =>
    intro j m hj hm
    obtain ⟨m, rfl⟩ : ∃ m', m = m' + 1 := ⟨m - 1, by omega⟩
    obtain rfl : j = 6 := by omega
    rw [s_l15Bytes.l0_s, cnF (by decide), decide_eq_true (by rw [strOfNums_len]; decide : (6 : Int) ≤ ((strOfNums (List.replicate (2 * 6) (0 : Int))).size : Int))]
    simp only [Bool.true_and, gd_t]
    rw [show (strOfNums (List.replicate (2 * 6) (0 : Int))).extract 0 6 = zz6 by kernel_rfl, show (strOfNums (List.replicate (2 * 6) (0 : Int))).extract 6 (strOfNums (List.replicate (2 * 6) (0 : Int))).size = zz6 by kernel_rfl]
  | succ n ih =>
    intro j m hj hm
    obtain ⟨m, rfl⟩ : ∃ m', m = m' + 1 := ⟨m - 1, by omega⟩
    rw [s_l15Bytes.l0_s, cnT (by omega), inb_nat (by simp; omega), gd_t, Int.toNat_natCast, get0, s_l6Bytes.two k hk, Option.bind_some, gdT (by rw [strOfNums_len, strOfNums_len]; simp; omega), wrap_succ (by omega)]
    rw [show [IntKind.u8.wrap ((0 : Int).fdiv ((2 : Int) ^ (8 : Nat))), IntKind.u8.wrap (0 : Int)] = [0, 0] by decide, ← strOfNums_append, rep2]
    exact ih (j + 1) m (by omega) (by omega)
theorem s_l15Bytes.zero (k : Nat) (hk : 7 ≤ k) : s_l15Bytes.f k (List.replicate 6 0) = some [zz6, zz6] := by
  rw [s_l15Bytes.f_eq]
  exact s_l15Bytes.loop k (by omega) 6 0 k (by omega) (by omega)
noncomputable abbrev nF1 : ByteArray := strOfNums (frameL 3 1 0 zz6)
noncomputable abbrev nF2 : ByteArray := strOfNums (frameL 3 2 0 zz6)
noncomputable abbrev nF0 : ByteArray := strOfNums (frameL 4 0 0 ByteArray.empty)
theorem zz6_size : zz6.size ≤ 16 := by rw [strOfNums_len]; decide
theorem frame_len (kind at_ ep : Int) (body : ByteArray) (hb : body.size ≤ 16) : (strOfNums (frameL kind at_ ep body)).size = 28 := by
  rw [strOfNums_len]
  unfold frameL
  rw [List.length_append, front24_len kind at_ ep body hb]
  rfl
theorem app16' (n : Nat) (h : n ≤ 1048576) : appOk n (Try.prog.bytesOf (9 : Nat)) = true := by
  rw [show Try.prog.bytesOf (9 : Nat) = 16 by kernel_rfl]
  unfold appOk
  simp; omega
theorem i_sectorsOf.loop (k m : Nat) (hk : 40 ≤ k) : i_sectorsOf.l0 k (m + 3) 0 1 2 0 [] [zz6, zz6] = some ([nF1, nF2], 1) := by
  rw [i_sectorsOf.l0_s, cnT (by decide), show inb (0 : Int) [zz6, zz6].length = true from rfl, gd_t, show getAt ByteArray.empty [zz6, zz6] (0 : Int).toNat = zz6 from rfl, show IntKind.i64.wrap ((1 : Int) + 0) = 1 by decide, i_frameBytes.eq k hk _ _ _ _ zz6_size, Option.bind_some, app16' _ (by simp), gd_t, show IntKind.i64.wrap ((0 : Int) + 1) = 1 by decide]
  rw [i_sectorsOf.l0_s, cnT (by decide), show inb (1 : Int) [zz6, zz6].length = true from rfl, gd_t, show getAt ByteArray.empty [zz6, zz6] (1 : Int).toNat = zz6 from rfl, show IntKind.i64.wrap ((1 : Int) + 1) = 2 by decide, i_frameBytes.eq k hk _ _ _ _ zz6_size, Option.bind_some, app16' _ (by simp), gd_t]
  rw [i_sectorsOf.l0_s, cnF (by decide)]
  rfl
theorem i_sectorsOf.zero (k : Nat) (hk : 40 ≤ k) : i_sectorsOf.f k 0 (List.replicate 6 0) = some ([nF1, nF2], 1) := by
  rw [i_sectorsOf.f_eq, i_halfOf.f_eq, show IntKind.i64.wrap ((1 : Int) + IntKind.i64.wrap ((2 : Int) * (0 : Int).tmod (2 : Int))) = 1 by decide, Option.bind_some, i_stateBytes.zero k (by omega), Option.bind_some]
  have : ∀ m, 3 ≤ m → i_sectorsOf.l0 k m 0 1 2 0 [] [zz6, zz6] = some ([nF1, nF2], 1) := fun m hm => by
    obtain ⟨q, rfl⟩ : ∃ q, m = q + 3 := ⟨m - 3, by omega⟩
    exact i_sectorsOf.loop k q hk
  exact this k (by omega)
abbrev JT : Type := List ByteArray × List ByteArray × List Bool × Int × Int × List Int × List Int
noncomputable abbrev newJ : JT := ([nF0, nF1, nF2, ByteArray.empty, ByteArray.empty], List.replicate 5 ByteArray.empty, List.replicate 5 false, 0, 0, List.replicate 6 0, [])
theorem i_NewJournal.eq (k : Nat) (hk : 40 ≤ k) : i_NewJournal.f k = some newJ := by
  rw [i_NewJournal.f_eq, i_NewDisk.five, Option.bind_some, i_sectorsOf.zero k hk, Option.bind_some, i_rootOf.f_eq, i_frameBytes.eq k hk _ _ _ _ (by decide), Option.bind_some, Option.bind_some]
  rfl
theorem s_l1In.eq2 (k : Nat) (n lo hi : Int) : s_l1In.f k n lo hi = some (decide (lo ≤ n ∧ n ≤ hi)) := by
  rw [s_l1In.f_eq]
  by_cases h : lo ≤ n
  · rw [cnT h]; simp [h]
  · rw [cnF h]; simp [h]
theorem s_l7Step.write (k : Nat) (p h : List ByteArray) (b : List Bool) (j : Nat) (t : ByteArray) (ht : t.size = 28) (hj : j < p.length) (hh : h.length = p.length) (hb : b.length = p.length) (hbad : getAt false b j = false) : s_l7Step.f k p h b 1 (j : Int) t [] = some ((((), (), ()), true), p, h.set j t, b) := by
  rw [s_l7Step.f_eq, cnF (by decide), cnF (by decide), s_l7There.f_eq, cnT (by omega), Option.bind_some, decide_eq_true (by omega : (j : Int) < (p.length : Int))]
  simp only [Bool.not_true, cn_f]
  rw [cnF (by simp)]
  simp only [decide_true, cn_t]
  rw [inb_nat (by omega), gd_t, Int.toNat_natCast, hbad]
  simp only [Bool.not_false, cn_t]
  rw [s_l1In.eq2, Option.bind_some, decide_eq_true (by omega : (1 : Int) ≤ (t.size : Int) ∧ (t.size : Int) ≤ 28), cn_t, inb_nat (by omega), gd_t]
theorem s_l15Write.eq (k : Nat) (hk : 40 ≤ k) (p h : List ByteArray) (b : List Bool) (kind : Int) (j : Nat) (ep : Int) (body : ByteArray) (hbody : body.size ≤ 16) (hj : j < p.length) (hh : h.length = p.length) (hb : b.length = p.length) (hbad : getAt false b j = false) : s_l15Write.f k p h b kind (j : Int) ep body = some (((), (), ()), p, h.set j (strOfNums (frameL kind (j : Int) ep body)), b) := by
  rw [s_l15Write.f_eq]
  simp only [s_l6Frame.eq k hk _ _ _ _ hbody, Option.bind_some, s_l7Step.write k p h b j _ (frame_len _ _ _ _ hbody) hj hh hb hbad, both_self]
theorem s_l15Put.zero (k : Nat) (hk : 40 ≤ k) : s_l15Put.f k (List.replicate 5 ByteArray.empty) (List.replicate 5 ByteArray.empty) (List.replicate 5 false) 0 (List.replicate 6 0) = some (((), (), ()), List.replicate 5 ByteArray.empty, [ByteArray.empty, nF1, nF2, ByteArray.empty, ByteArray.empty], List.replicate 5 false) := by
  have w1 : s_l15Write.f k (List.replicate 5 ByteArray.empty) (List.replicate 5 ByteArray.empty) (List.replicate 5 false) 3 ((1 : Nat) : Int) 0 zz6 = some (((), (), ()), List.replicate 5 ByteArray.empty, (List.replicate 5 ByteArray.empty).set 1 nF1, List.replicate 5 false) := s_l15Write.eq k hk (List.replicate 5 ByteArray.empty) (List.replicate 5 ByteArray.empty) (List.replicate 5 false) 3 1 0 zz6 zz6_size (by decide) (by decide) (by decide) (by decide)
  have w2 : s_l15Write.f k (List.replicate 5 ByteArray.empty) ((List.replicate 5 ByteArray.empty).set 1 nF1) (List.replicate 5 false) 3 ((2 : Nat) : Int) 0 zz6 = some (((), (), ()), List.replicate 5 ByteArray.empty, ((List.replicate 5 ByteArray.empty).set 1 nF1).set 2 nF2, List.replicate 5 false) := s_l15Write.eq k hk (List.replicate 5 ByteArray.empty) ((List.replicate 5 ByteArray.empty).set 1 nF1) (List.replicate 5 false) 3 2 0 zz6 zz6_size (by decide) (by simp) (by decide) (by decide)
  rw [s_l15Put.f_eq, s_l15Half.f_eq, show IntKind.i64.wrap ((1 : Int) + IntKind.i64.wrap ((2 : Int) * (0 : Int).tmod (2 : Int))) = 1 by decide, Option.bind_some, s_l15Bytes.zero k (by omega), Option.bind_some]
  have : ∀ m, 3 ≤ m → s_l15Put.l0 k m 0 1 2 0 (List.replicate 5 ByteArray.empty) (List.replicate 5 ByteArray.empty) (List.replicate 5 false) [zz6, zz6] = some (((), (), ()), List.replicate 5 ByteArray.empty, [ByteArray.empty, nF1, nF2, ByteArray.empty, ByteArray.empty], List.replicate 5 false) := fun m hm => by
    obtain ⟨q, rfl⟩ : ∃ q, m = q + 1 + 1 + 1 := ⟨m - 3, by omega⟩
    rw [s_l15Put.l0_s, cnT (by decide), show inb (0 : Int) [zz6, zz6].length = true from rfl, gd_t, show getAt ByteArray.empty [zz6, zz6] (0 : Int).toNat = zz6 from rfl, show IntKind.i64.wrap ((1 : Int) + 0) = ((1 : Nat) : Int) by decide, w1, Option.bind_some, show IntKind.i64.wrap ((0 : Int) + 1) = 1 by decide]
    rw [s_l15Put.l0_s, cnT (by decide), show inb (1 : Int) [zz6, zz6].length = true from rfl, gd_t, show getAt ByteArray.empty [zz6, zz6] (1 : Int).toNat = zz6 from rfl, show IntKind.i64.wrap ((1 : Int) + 1) = ((2 : Nat) : Int) by decide]
    simp only
    rw [w2, Option.bind_some]
    rw [s_l15Put.l0_s, cnF (by decide)]
    rfl
  exact this k (by omega)
noncomputable abbrev nH : List ByteArray := [nF0, nF1, nF2, ByteArray.empty, ByteArray.empty]
theorem byteArray_eq {a b : ByteArray} (h : a.toList = b.toList) : a = b := by
  rw [ByteArray.toList_eq, ByteArray.toList_eq] at h
  exact ByteArray.ext (Array.ext' h)
theorem ne_empty {t : ByteArray} (h : t.size = 28) : ¬ t.toList = ByteArray.empty.toList := fun e => by
  have := byteArray_eq e
  rw [this] at h
  cases h
theorem app8 (n : Nat) (h : n ≤ 1048576) : appOk n (Try.prog.bytesOf (3 : Nat)) = true := by
  rw [show Try.prog.bytesOf (3 : Nat) = 8 by kernel_rfl]
  unfold appOk
  simp; omega
theorem nF0_ne : ¬ nF0.toList = ByteArray.empty.toList := ne_empty (frame_len _ _ _ _ (by decide))
theorem nF1_ne : ¬ nF1.toList = ByteArray.empty.toList := ne_empty (frame_len _ _ _ _ zz6_size)
theorem nF2_ne : ¬ nF2.toList = ByteArray.empty.toList := ne_empty (frame_len _ _ _ _ zz6_size)
theorem s_l7Held.new (k m : Nat) : s_l7Held.l0 k (m + 1 + 1 + 1 + 1 + 1 + 1) nH 5 0 [] = some [0, 1, 2] := by
  rw [s_l7Held.l0_s, cnT (by decide), show inb (0 : Int) nH.length = true from rfl, gd_t, show getAt ByteArray.empty nH (0 : Int).toNat = nF0 from rfl, cnNF nF0_ne, app8 _ (by simp), gd_t, show IntKind.i64.wrap ((0 : Int) + 1) = 1 by decide]
  rw [s_l7Held.l0_s, cnT (by decide), show inb (1 : Int) nH.length = true from rfl, gd_t, show getAt ByteArray.empty nH (1 : Int).toNat = nF1 from rfl, cnNF nF1_ne, app8 _ (by simp), gd_t, show IntKind.i64.wrap ((1 : Int) + 1) = 2 by decide]
  rw [s_l7Held.l0_s, cnT (by decide), show inb (2 : Int) nH.length = true from rfl, gd_t, show getAt ByteArray.empty nH (2 : Int).toNat = nF2 from rfl, cnNF nF2_ne, app8 _ (by simp), gd_t, show IntKind.i64.wrap ((2 : Int) + 1) = 3 by decide]
  rw [s_l7Held.l0_s, cnT (by decide), show inb (3 : Int) nH.length = true from rfl, gd_t, show getAt ByteArray.empty nH (3 : Int).toNat = ByteArray.empty from rfl, cnNT rfl, show IntKind.i64.wrap ((3 : Int) + 1) = 4 by decide]
  rw [s_l7Held.l0_s, cnT (by decide), show inb (4 : Int) nH.length = true from rfl, gd_t, show getAt ByteArray.empty nH (4 : Int).toNat = ByteArray.empty from rfl, cnNT rfl, show IntKind.i64.wrap ((4 : Int) + 1) = 5 by decide]
  rw [s_l7Held.l0_s, cnF (by decide)]
  rfl
theorem s_l1Has.step (k m : Nat) (n x : Int) (l : List Int) (j : Nat) (hj : j < l.length) (hl : l.length ≤ 1000) (hx : getAt 0 l j = x) : s_l1Has.l0 k (m + 1) n l (l.length : Int) (j : Int) = cn (decide (x = n)) (some true) (s_l1Has.l0 k m n l (l.length : Int) ((j + 1 : Nat) : Int)) := by
  rw [s_l1Has.l0_s, cnT (by omega), inb_nat hj, gd_t, Int.toNat_natCast, hx, wrap_succ (by omega)]
theorem s_l1Has.new (k : Nat) (hk : 4 ≤ k) (n : Int) : s_l1Has.f k [0, 1, 2] n = some (decide (n = 0 ∨ n = 1 ∨ n = 2)) := by
  rw [s_l1Has.f_eq]
  have : ∀ m, 4 ≤ m → s_l1Has.l0 k m n [0, 1, 2] (([0, 1, 2] : List Int).length : Int) ((0 : Nat) : Int) = some (decide (n = 0 ∨ n = 1 ∨ n = 2)) := fun m hm => by
    obtain ⟨q, rfl⟩ : ∃ q, m = q + 1 + 1 + 1 + 1 := ⟨m - 4, by omega⟩
    rw [s_l1Has.step k _ n 0 _ 0 (by decide) (by decide) rfl, s_l1Has.step k _ n 1 _ 1 (by decide) (by decide) rfl, s_l1Has.step k _ n 2 _ 2 (by decide) (by decide) rfl, s_l1Has.l0_s, cnF (show ¬ (((2 + 1 : Nat) : Int) < (([0, 1, 2] : List Int).length : Int)) by decide)]
    by_cases h0 : (0 : Int) = n
    · rw [cnT h0, decide_eq_true (.inl h0.symm)]
    rw [cnF h0]
    by_cases h1 : (1 : Int) = n
    · rw [cnT h1, decide_eq_true (.inr (.inl h1.symm))]
    rw [cnF h1]
    by_cases h2 : (2 : Int) = n
    · rw [cnT h2, decide_eq_true (.inr (.inr h2.symm))]
    rw [cnF h2, decide_eq_false (by omega)]
  exact this k (by omega)
theorem s_l7Crash.step (k m : Nat) (hk : 4 ≤ k) (p h : List ByteArray) (b : List Bool) (j : Nat) (hj : j < 5) (hp : p.length = 5) (hh : h.length = 5) :
    s_l7Crash.l0 k (m + 1) [0, 1, 2] 5 (j : Int) p h b = s_l7Crash.l0 k m [0, 1, 2] 5 ((j + 1 : Nat) : Int) (if j ≤ 2 then p.set j (getAt ByteArray.empty h j) else p) (h.set j ByteArray.empty) b := by
  rw [s_l7Crash.l0_s, cnT (by omega), inb_nat (by omega), gd_t, s_l1Has.new k hk, Option.bind_some, inb_nat (by omega), gd_t, gd_t, Int.toNat_natCast, wrap_succ (by omega), gd_t]
  by_cases h2 : j ≤ 2
  · rw [if_pos h2, decide_eq_true (by omega), cn_t]
  · rw [if_neg h2, decide_eq_false (by omega), cn_f]
theorem s_l7Crash.new (k : Nat) (hk : 40 ≤ k) : s_l7Crash.f k (List.replicate 5 ByteArray.empty) nH (List.replicate 5 false) [0, 1, 2] = some (((), (), ()), nH, List.replicate 5 ByteArray.empty, List.replicate 5 false) := by
  rw [s_l7Crash.f_eq]
  have : ∀ m, 6 ≤ m → s_l7Crash.l0 k m [0, 1, 2] 5 ((0 : Nat) : Int) (List.replicate 5 ByteArray.empty) nH (List.replicate 5 false) = some (((), (), ()), nH, List.replicate 5 ByteArray.empty, List.replicate 5 false) := fun m hm => by
    obtain ⟨q, rfl⟩ : ∃ q, m = q + 1 + 1 + 1 + 1 + 1 + 1 := ⟨m - 6, by omega⟩
    rw [s_l7Crash.step k _ (by omega) _ _ _ 0 (by omega) (by rfl) (by rfl), s_l7Crash.step k _ (by omega) _ _ _ 1 (by omega) (by rfl) (by rfl), s_l7Crash.step k _ (by omega) _ _ _ 2 (by omega) (by rfl) (by rfl), s_l7Crash.step k _ (by omega) _ _ _ 3 (by omega) (by rfl) (by rfl), s_l7Crash.step k _ (by omega) _ _ _ 4 (by omega) (by rfl) (by rfl), s_l7Crash.l0_s, cnF (by decide)]
    rfl
  exact this k (by omega)
theorem s_NewJournal.eq (k : Nat) (hk : 40 ≤ k) : s_NewJournal.f k = some newJ := by
  have w3 := s_l15Write.eq k hk (List.replicate 5 ByteArray.empty) [ByteArray.empty, nF1, nF2, ByteArray.empty, ByteArray.empty] (List.replicate 5 false) 4 0 0 ByteArray.empty (by decide) (by decide) (by rfl) (by decide) (by decide)
  have hd : s_l7Held.f k (List.replicate 5 ByteArray.empty) nH (List.replicate 5 false) = some [0, 1, 2] := by
    rw [s_l7Held.f_eq]
    have : ∀ m, 6 ≤ m → s_l7Held.l0 k m nH 5 0 [] = some [0, 1, 2] := fun m hm => by
      obtain ⟨q, rfl⟩ : ∃ q, m = q + 1 + 1 + 1 + 1 + 1 + 1 := ⟨m - 6, by omega⟩
      exact s_l7Held.new k q
    exact this k (by omega)
  have w3 : s_l15Write.f k (List.replicate 5 ByteArray.empty) [ByteArray.empty, nF1, nF2, ByteArray.empty, ByteArray.empty] (List.replicate 5 false) 4 0 0 ByteArray.empty = some (((), (), ()), List.replicate 5 ByteArray.empty, nH, List.replicate 5 false) := w3
  rw [s_NewJournal.f_eq, s_NewDisk.five, Option.bind_some]
  simp only [s_l15Put.zero k hk, Option.bind_some, w3, hd, s_l7Crash.new k hk, both_self]
theorem lawNewJournal : Ev (fun k => w_FnExactNewJournal.f k) true := by
  refine Ev.congr ?_ (fun k => w_FnExactNewJournal.f_eq k)
  have ss : Ev (fun k => s_NewJournal.f k) newJ := .of 40 fun k hk => s_NewJournal.eq k hk
  have is_ : Ev (fun k => i_NewJournal.f k) newJ := .of 40 fun k hk => i_NewJournal.eq k hk
  have hm : maxLen = 9223372036854775807 := maxLen_eq
  have eqj := w_eqJournal.ev newJ.1 newJ.2.1 newJ.2.2.1 newJ.2.2.2.1 newJ.2.2.2.2.1 newJ.2.2.2.2.2.1 newJ.2.2.2.2.2.2 (by rw [hm]; simp) (by rw [hm]; simp) (by rw [hm]; simp) (by rw [hm]; simp) (by rw [hm]; simp)
  have mk := w_markJournal.ev newJ.1 newJ.2.1 newJ.2.2.1 newJ.2.2.2.1 newJ.2.2.2.2.1 newJ.2.2.2.2.2.1 newJ.2.2.2.2.2.2 1 (by simp)
  have hl := w_heldJournal.ev 1 newJ.1.length newJ.2.1.length newJ.2.2.1.length newJ.2.2.2.2.2.1.length newJ.2.2.2.2.2.2.length newJ.2.2.2.1 newJ.2.2.2.2.1 (by simp)
  refine Ev.bind ss ?_
  refine Ev.bind is_ ?_
  refine Ev.bind eqj ?_
  simp only [Bool.not_true, cn_f]
  refine Ev.bind mk ?_
  refine Ev.bind hl ?_
  simp only [cnF (show ¬ ((1 + newJ.1.length + newJ.2.1.length + newJ.2.2.1.length + newJ.2.2.2.2.2.1.length + newJ.2.2.2.2.2.2.length : Nat) : Int) < 0 by omega), decide_true, Bool.not_true, cn_f]
  refine Ev.bind is_ ?_
  refine Ev.bind eqj ?_
  simp only [Bool.not_true, cn_f]
  refine Ev.bind hl ?_
  exact .const fun k => by simp only [cnF (show ¬ ((1 + newJ.1.length + newJ.2.1.length + newJ.2.2.1.length + newJ.2.2.2.2.2.1.length + newJ.2.2.2.2.2.2.length : Nat) : Int) < 0 by omega), decide_true, Bool.not_true, cn_f]
end Go.Proofs.Ytcddcnnbhbffmaa
