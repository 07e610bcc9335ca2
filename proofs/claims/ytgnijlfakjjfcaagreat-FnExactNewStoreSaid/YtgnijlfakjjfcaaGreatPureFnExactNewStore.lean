/- What the functions of the law come to, in numbers, rows and texts alone. No condition. -/
import Derived.Test.YtgnijlfakjjfcaaGreatFNT
set_option linter.unusedVariables false
set_option linter.unusedSimpArgs false
namespace Go.Proofs.YtgnijlfakjjfcaaGreat
open Go Go.Proofs.YtgnijlfakjjfcaaGreatE
/-! ### Limits, numbers, rows -/
/-- From some number of rounds on it is r. -/
def Ev {R : Type} (g : Nat → Option R) (r : R) : Prop := ∃ K, ∀ k, K ≤ k → g k = some r
theorem Ev.const {R : Type} {g : Nat → Option R} {r : R} (h : ∀ k, g k = some r) : Ev g r := ⟨0, fun k _ => h k⟩
theorem Ev.of {R : Type} {g : Nat → Option R} {r : R} (K : Nat) (h : ∀ k, K ≤ k → g k = some r) : Ev g r := ⟨K, h⟩
theorem Ev.bind {D R : Type} {f : Nat → Option D} {d : D} {G : Nat → D → Option R} {r : R} (h : Ev f d) (h2 : Ev (fun k => G k d) r) : Ev (fun k => (f k).bind (G k)) r := by
  obtain ⟨K, hK⟩ := h
  obtain ⟨L, hL⟩ := h2
  refine ⟨max K L, fun k hk => ?_⟩
  show (f k).bind (G k) = _
  rw [hK k (by omega)]
  exact hL k (by omega)
theorem Ev.congr {R : Type} {f g : Nat → Option R} {r : R} (h : Ev f r) (e : ∀ k, g k = f k) : Ev g r := by
  obtain ⟨K, hK⟩ := h
  exact ⟨K, fun k hk => by rw [e]; exact hK k hk⟩
theorem cn_t {A : Type} (x y : A) : cn true x y = x := rfl
theorem cn_f {A : Type} (x y : A) : cn false x y = y := rfl
theorem gd_t {A : Type} (x : Option A) : gd true x = x := rfl
theorem cnT {A : Type} {p : Prop} [Decidable p] {x y : A} (h : p) : cn (decide p) x y = x := by rw [decide_eq_true h]; rfl
theorem cnF {A : Type} {p : Prop} [Decidable p] {x y : A} (h : ¬ p) : cn (decide p) x y = y := by rw [decide_eq_false h]; rfl
theorem cnNT {A : Type} {p : Prop} [Decidable p] {x y : A} (h : p) : cn (!decide p) x y = y := by rw [decide_eq_true h]; rfl
theorem cnNF {A : Type} {p : Prop} [Decidable p] {x y : A} (h : ¬ p) : cn (!decide p) x y = x := by rw [decide_eq_false h]; rfl
theorem gdT {A : Type} {p : Prop} [Decidable p] {x : Option A} (h : p) : gd (decide p) x = x := by rw [decide_eq_true h]; rfl
theorem inb_nat {i n : Nat} (h : i < n) : inb (i : Int) n = true := by
  unfold inb
  rw [decide_eq_true (by omega : (0 : Int) ≤ (i : Int)), decide_eq_true (by omega : (i : Int) < (n : Int))]; rfl
theorem wrap_eq {n : Int} (h1 : -9223372036854775808 ≤ n) (h2 : n ≤ 9223372036854775807) : IntKind.i64.wrap n = n := by
  have key : IntKind.i64.wrap n = if n % 18446744073709551616 ≥ 9223372036854775808 then n % 18446744073709551616 - 18446744073709551616 else n % 18446744073709551616 := by
    unfold IntKind.wrap
    simp [IntKind.bits, IntKind.signed]
  rw [key]
  split <;> omega
theorem wrap_succ {n : Nat} (h : n < 9223372036854775807) : IntKind.i64.wrap ((n : Int) + 1) = ((n + 1 : Nat) : Int) := by rw [wrap_eq (by omega) (by omega)]; omega
theorem getAt_lt {A : Type} {d : A} {xs : List A} {i : Nat} (h : i < xs.length) : getAt d xs i = xs[i] := by simp [getAt, h]
theorem maxLen_eq : maxLen = 9223372036854775807 := by decide
/-- A row written over from the front. -/
theorem set_front {A : Type} {d : A} (a h : List A) (j : Nat) (hj : j < a.length) (hl : h.length = a.length) (hh : h.take j = a.take j) : (h.set j (getAt d a j)).take (j + 1) = a.take (j + 1) := by
  rw [getAt_lt hj, List.take_succ_eq_append_getElem hj, List.take_succ_eq_append_getElem (by simp; omega), List.getElem_set_self, List.take_set_of_le (Nat.le_refl j), hh]
def marks (s n : Nat) : List Int := (List.range n).map fun i => ((s + i : Nat) : Int)
theorem w_eqStringS.loop (k : Nat) (a : List ByteArray) (ha : a.length ≤ maxLen) : ∀ (n j m : Nat), j + n = a.length → n < m → w_eqStringS.l0 k m a a j = some true := by
  rw [maxLen_eq] at ha
  intro n
  induction n with
  | zero =>
    intro j m hj hm
    obtain ⟨m, rfl⟩ : ∃ m', m = m' + 1 := ⟨m - 1, by omega⟩
    rw [w_eqStringS.l0_s, cnF (by omega)]
  | succ n ih =>
    intro j m hj hm
    obtain ⟨m, rfl⟩ : ∃ m', m = m' + 1 := ⟨m - 1, by omega⟩
    rw [w_eqStringS.l0_s, cnT (by omega), inb_nat (by omega), gd_t, gd_t, cnNT rfl, wrap_succ (by omega)]
    exact ih (j + 1) m (by omega) (by omega)
theorem w_eqStringS.ev (a : List ByteArray) (ha : a.length ≤ maxLen) : Ev (fun k => w_eqStringS.f k a a) true := .of (a.length + 1) fun k hk => by
  show w_eqStringS.f k a a = _
  rw [w_eqStringS.f_eq, cnNT rfl]
  exact w_eqStringS.loop k a ha a.length 0 k (by omega) (by omega)
theorem w_eqIntS.loop (k : Nat) (a : List Int) (ha : a.length ≤ maxLen) : ∀ (n j m : Nat), j + n = a.length → n < m → w_eqIntS.l0 k m a a j = some true := by
  rw [maxLen_eq] at ha
  intro n
  induction n with
  | zero =>
    intro j m hj hm
    obtain ⟨m, rfl⟩ : ∃ m', m = m' + 1 := ⟨m - 1, by omega⟩
    rw [w_eqIntS.l0_s, cnF (by omega)]
  | succ n ih =>
    intro j m hj hm
    obtain ⟨m, rfl⟩ : ∃ m', m = m' + 1 := ⟨m - 1, by omega⟩
    rw [w_eqIntS.l0_s, cnT (by omega), inb_nat (by omega), gd_t, gd_t, cnNT rfl, wrap_succ (by omega)]
    exact ih (j + 1) m (by omega) (by omega)
theorem w_eqIntS.ev (a : List Int) (ha : a.length ≤ maxLen) : Ev (fun k => w_eqIntS.f k a a) true := .of (a.length + 1) fun k hk => by
  show w_eqIntS.f k a a = _
  rw [w_eqIntS.f_eq, cnNT rfl]
  exact w_eqIntS.loop k a ha a.length 0 k (by omega) (by omega)
theorem w_eqBoolS.loop (k : Nat) (a : List Bool) (ha : a.length ≤ maxLen) : ∀ (n j m : Nat), j + n = a.length → n < m → w_eqBoolS.l0 k m a a j = some true := by
  rw [maxLen_eq] at ha
  intro n
  induction n with
  | zero =>
    intro j m hj hm
    obtain ⟨m, rfl⟩ : ∃ m', m = m' + 1 := ⟨m - 1, by omega⟩
    rw [w_eqBoolS.l0_s, cnF (by omega)]
  | succ n ih =>
    intro j m hj hm
    obtain ⟨m, rfl⟩ : ∃ m', m = m' + 1 := ⟨m - 1, by omega⟩
    rw [w_eqBoolS.l0_s, cnT (by omega), inb_nat (by omega), gd_t, gd_t]
    simp only [beq_self_eq_true, Bool.not_true, cn_f]
    rw [wrap_succ (by omega)]
    exact ih (j + 1) m (by omega) (by omega)
theorem w_eqBoolS.ev (a : List Bool) (ha : a.length ≤ maxLen) : Ev (fun k => w_eqBoolS.f k a a) true := .of (a.length + 1) fun k hk => by
  show w_eqBoolS.f k a a = _
  rw [w_eqBoolS.f_eq, cnNT rfl]
  exact w_eqBoolS.loop k a ha a.length 0 k (by omega) (by omega)
theorem w_markIntS.loop (k : Nat) (s len : Nat) (hs : s + len ≤ 9223372036854775806) : ∀ (n j m : Nat) (h : List Int), j + n = len → h.length = len → h.take j = marks s j → n < m → w_markIntS.l0 k m ((s + j : Nat) : Int) j h = some (((s + len : Nat) : Int), marks s len) := by
  intro n
  induction n with
  | zero =>
    intro j m h hj hl hh hm
    obtain ⟨m, rfl⟩ : ∃ m', m = m' + 1 := ⟨m - 1, by omega⟩
    rw [w_markIntS.l0_s, cnF (by omega)]
    rw [List.take_of_length_le (by omega)] at hh
    rw [hh, show j = len by omega]
  | succ n ih =>
    intro j m h hj hl hh hm
    obtain ⟨m, rfl⟩ : ∃ m', m = m' + 1 := ⟨m - 1, by omega⟩
    rw [w_markIntS.l0_s, cnT (by omega), inb_nat (by omega), gd_t, wrap_succ (by omega), wrap_succ (by omega), Int.toNat_natCast]
    refine ih (j + 1) m _ (by omega) (by simpa using hl) ?_ (by omega)
    rw [List.take_succ_eq_append_getElem (by simp; omega), List.getElem_set_self, List.take_set_of_le (Nat.le_refl j), hh]
    unfold marks
    rw [List.range_succ, List.map_append]; rfl
theorem w_markIntS.ev (a : List Int) (s : Nat) (hs : s + a.length ≤ 9223372036854775806) : Ev (fun k => w_markIntS.f k a (s : Int)) (((s + a.length : Nat) : Int), marks s a.length) := .of (a.length + 1) fun k hk => by
  show w_markIntS.f k a s = _
  rw [w_markIntS.f_eq]
  exact w_markIntS.loop k s a.length hs a.length 0 k a (by omega) rfl (by simp [marks]) (by omega)
theorem w_heldIntS.loop (k : Nat) (s len : Nat) (hs : s + len ≤ 9223372036854775806) : ∀ (n j m : Nat), j + n = len → n < m → w_heldIntS.l0 k m (marks s len) ((s + j : Nat) : Int) j = some ((s + len : Nat) : Int) := by
  have hl : (marks s len).length = len := by simp [marks]
  intro n
  induction n with
  | zero =>
    intro j m hj hm
    obtain ⟨m, rfl⟩ : ∃ m', m = m' + 1 := ⟨m - 1, by omega⟩
    rw [w_heldIntS.l0_s, cnF (by omega), show j = len by omega]
  | succ n ih =>
    intro j m hj hm
    obtain ⟨m, rfl⟩ : ∃ m', m = m' + 1 := ⟨m - 1, by omega⟩
    rw [w_heldIntS.l0_s, cnT (by omega), inb_nat (by omega), gd_t, Int.toNat_natCast, cnNT (by rw [getAt_lt (by omega)]; simp [marks]), wrap_succ (by omega), wrap_succ (by omega)]
    exact ih (j + 1) m (by omega) (by omega)
theorem w_heldIntS.ev (s len : Nat) (hs : s + len ≤ 9223372036854775806) : Ev (fun k => w_heldIntS.f k (marks s len) (s : Int)) ((s + len : Nat) : Int) := .of (len + 1) fun k hk => by
  show w_heldIntS.f k _ s = _
  rw [w_heldIntS.f_eq]
  exact w_heldIntS.loop k s len hs len 0 k (by omega) (by omega)
theorem strOfNums_one (n : Int) : (strOfNums [n]).size = 1 := by simp [strOfNums]; rfl
theorem w_markText.loop : ∀ (n : Nat) (v : Nat) (out : ByteArray), v ≤ n → n + out.size ≤ 140737488355327 → ∃ t, ∀ k m, n < m → w_markText.l0 k m (v : Int) out = some t := by
  intro n
  induction n with
  | zero =>
    intro v out hv ho
    refine ⟨{ data := #[(109 : UInt8)] : ByteArray } ++ out, fun k m hm => ?_⟩
    obtain ⟨m, rfl⟩ : ∃ m', m = m' + 1 := ⟨m - 1, by omega⟩
    rw [w_markText.l0_s, cnF (by omega), gdT (by omega)]
  | succ n ih =>
    intro v out hv ho
    by_cases h0 : v = 0
    · refine ⟨{ data := #[(109 : UInt8)] : ByteArray } ++ out, fun k m hm => ?_⟩
      obtain ⟨m, rfl⟩ : ∃ m', m = m' + 1 := ⟨m - 1, by omega⟩
      rw [w_markText.l0_s, cnF (by omega), gdT (by omega)]
    · have e : IntKind.i64.wrap ((v : Int).tdiv 10) = ((v / 10 : Nat) : Int) := by
        rw [show (v : Int).tdiv 10 = ((v / 10 : Nat) : Int) by rw [Int.tdiv_eq_ediv_of_nonneg (by omega)]; rfl, wrap_eq (by omega) (by omega)]
      obtain ⟨t, ht⟩ := ih (v / 10) (strOfNums [IntKind.u8.wrap (IntKind.i64.wrap ((48 : Int) + (v : Int).tmod (10 : Int)))] ++ out) (by omega) (by rw [ByteArray.size_append, strOfNums_one]; omega)
      refine ⟨t, fun k m hm => ?_⟩
      obtain ⟨m, rfl⟩ : ∃ m', m = m' + 1 := ⟨m - 1, by omega⟩
      rw [w_markText.l0_s, cnT (by omega), gdT (by rw [strOfNums_one]; omega), e]
      exact ht k m (by omega)
theorem w_markText.ev (v : Nat) (hv : v ≤ 140737488355327) : ∃ t, Ev (fun k => w_markText.f k (v : Int)) t := by
  by_cases h0 : v = 0
  · exact ⟨_, .const fun k => by rw [w_markText.f_eq, cnT (by omega)]⟩
  · obtain ⟨t, ht⟩ := w_markText.loop v v ByteArray.empty (Nat.le_refl _) (by simpa using hv)
    exact ⟨t, .of (v + 1) fun k hk => by
      show w_markText.f k v = _
      rw [w_markText.f_eq, cnF (by omega)]
      exact ht k k (by omega)⟩
theorem w_markStringS.loop (s len : Nat) (hs : s + len ≤ 140737488355327) : ∀ (n j : Nat) (h : List ByteArray), j + n = len → h.length = len → ∃ t K, t.length = len ∧ h.take j = t.take j ∧ ∀ k m, K ≤ k → n < m → w_markStringS.l0 k m ((s + j : Nat) : Int) j h = some (((s + len : Nat) : Int), t) := by
  intro n
  induction n with
  | zero =>
    intro j h hj hl
    refine ⟨h, 0, hl, rfl, fun k m _ hm => ?_⟩
    obtain ⟨m, rfl⟩ : ∃ m', m = m' + 1 := ⟨m - 1, by omega⟩
    rw [w_markStringS.l0_s, cnF (by omega), show j = len by omega]
  | succ n ih =>
    intro j h hj hl
    obtain ⟨x, K1, hx⟩ := w_markText.ev (s + j) (by omega)
    have hx : ∀ k, K1 ≤ k → w_markText.f k ((s + j : Nat) : Int) = some x := hx
    obtain ⟨t, K, t1, t2, ht⟩ := ih (j + 1) (h.set j x) (by omega) (by simpa using hl)
    refine ⟨t, max K K1, t1, ?_, fun k m hk hm => ?_⟩
    · have := congrArg (fun l => l.take j) t2
      simp only [List.take_take, Nat.min_eq_left (Nat.le_succ j), List.take_set_of_le (Nat.le_refl j)] at this
      exact this
    · obtain ⟨m, rfl⟩ : ∃ m', m = m' + 1 := ⟨m - 1, by omega⟩
      rw [w_markStringS.l0_s, cnT (by omega), hx k (by omega)]
      simp only [Option.bind_some]
      rw [inb_nat (by omega), gd_t, wrap_succ (by omega), wrap_succ (by omega), Int.toNat_natCast]
      exact ht k m (by omega) (by omega)
theorem w_markStringS.ev (a : List ByteArray) (s : Nat) (hs : s + a.length ≤ 140737488355327) : ∃ t, t.length = a.length ∧ Ev (fun k => w_markStringS.f k a (s : Int)) (((s + a.length : Nat) : Int), t) := by
  obtain ⟨t, K, t1, _, ht⟩ := w_markStringS.loop s a.length hs a.length 0 a (by omega) rfl
  exact ⟨t, t1, .of (max K (a.length + 1)) fun k hk => by
    show w_markStringS.f k a s = _
    rw [w_markStringS.f_eq]
    exact ht k k (by omega) (by omega)⟩
theorem w_markBoolS.loop (s len : Nat) (hs : s + len ≤ 9223372036854775806) : ∀ (n j : Nat) (h : List Bool), j + n = len → h.length = len → ∃ t, t.length = len ∧ ∀ k m, n < m → w_markBoolS.l0 k m ((s + j : Nat) : Int) j h = some (((s + len : Nat) : Int), t) := by
  intro n
  induction n with
  | zero =>
    intro j h hj hl
    refine ⟨h, hl, fun k m hm => ?_⟩
    obtain ⟨m, rfl⟩ : ∃ m', m = m' + 1 := ⟨m - 1, by omega⟩
    rw [w_markBoolS.l0_s, cnF (by omega), show j = len by omega]
  | succ n ih =>
    intro j h hj hl
    obtain ⟨t, t1, ht⟩ := ih (j + 1) (h.set j (decide (((s + j : Nat) : Int).tmod (3 : Int) = (0 : Int)))) (by omega) (by simpa using hl)
    refine ⟨t, t1, fun k m hm => ?_⟩
    obtain ⟨m, rfl⟩ : ∃ m', m = m' + 1 := ⟨m - 1, by omega⟩
    rw [w_markBoolS.l0_s, cnT (by omega), inb_nat (by omega), gd_t, wrap_succ (by omega), wrap_succ (by omega), Int.toNat_natCast]
    exact ht k m (by omega)
theorem w_markBoolS.ev (a : List Bool) (s : Nat) (hs : s + a.length ≤ 9223372036854775806) : ∃ t, t.length = a.length ∧ Ev (fun k => w_markBoolS.f k a (s : Int)) (((s + a.length : Nat) : Int), t) := by
  obtain ⟨t, t1, ht⟩ := w_markBoolS.loop s a.length hs a.length 0 a (by omega) rfl
  exact ⟨t, t1, .of (a.length + 1) fun k hk => by
    show w_markBoolS.f k a s = _
    rw [w_markBoolS.f_eq]
    exact ht k k (by omega)⟩
/-! ### Small things -/
theorem byteArray_toList_eq {a b : ByteArray} : a.toList = b.toList ↔ a = b := by
  constructor
  · intro h
    have : a.data.toList = b.data.toList := by rw [ByteArray.toList_eq, ByteArray.toList_eq] at h; exact h
    exact ByteArray.ext (Array.ext' this)
  · rintro rfl; rfl
theorem i_within.eq (k : Nat) (n lo hi : Int) : i_within.f k n lo hi = some (decide (lo ≤ n ∧ n ≤ hi)) := by
  rw [i_within.f_eq]
  by_cases h : lo ≤ n
  · rw [cnT h]; simp [h]
  · rw [cnF h]; simp [h]
theorem s_l1In.eq (k : Nat) (n lo hi : Int) : s_l1In.f k n lo hi = some (decide (lo ≤ n ∧ n ≤ hi)) := by
  rw [s_l1In.f_eq]
  by_cases h : lo ≤ n
  · rw [cnT h]; simp [h]
  · rw [cnF h]; simp [h]
theorem w_eqDisk.ev (p h : List ByteArray) (b : List Bool) (hp : p.length ≤ maxLen) (hh : h.length ≤ maxLen) (hb : b.length ≤ maxLen) : Ev (fun k => w_eqDisk.f k p h b p h b) true := by
  refine Ev.congr (Ev.bind (w_eqStringS.ev p hp) ?_) (fun k => w_eqDisk.f_eq k p h b p h b)
  simp only [Bool.not_true, cn_f]
  refine Ev.bind (w_eqStringS.ev h hh) ?_
  simp only [Bool.not_true, cn_f]
  refine Ev.bind (w_eqBoolS.ev b hb) ?_
  exact .const fun k => rfl
theorem w_markDisk.ev (p h : List ByteArray) (b : List Bool) (hp : p.length ≤ 1048576) (hh : h.length ≤ 1048576) (hb : b.length ≤ 1048576) (s : Nat) (hs : s ≤ 1048576) : ∃ (r : Nat) (x : _), r ≤ s + 3145728 ∧ Ev (fun k => w_markDisk.f k p h b (s : Int)) ((r : Int), x) := by
  obtain ⟨t1, _, e1⟩ := w_markStringS.ev p s (by omega)
  obtain ⟨t2, _, e2⟩ := w_markStringS.ev h (s + p.length) (by omega)
  obtain ⟨t3, _, e3⟩ := w_markBoolS.ev b (s + p.length + h.length) (by omega)
  exact ⟨s + p.length + h.length + b.length, (t1, t2, t3), by omega, Ev.congr (by
    refine Ev.bind e1 ?_
    refine Ev.bind e2 ?_
    refine Ev.bind e3 ?_
    exact .const fun k => rfl) (fun k => w_markDisk.f_eq k p h b s)⟩
/-- What GoodDisk says of the sectors from j on. -/
def gdAll (p h : List ByteArray) (b : List Bool) : Nat → Nat → Bool
  | 0, _ => true
  | r + 1, j => if (28 : Int) < ((getAt ByteArray.empty p j).size : Int) then false else if (28 : Int) < ((getAt ByteArray.empty h j).size : Int) then false
    else if getAt false b j = true then (if (getAt ByteArray.empty h j).toList = ByteArray.empty.toList then gdAll p h b r (j + 1) else false) else gdAll p h b r (j + 1)
theorem gdAll_s (p h : List ByteArray) (b : List Bool) (r j : Nat) : gdAll p h b (r + 1) j = (if (28 : Int) < ((getAt ByteArray.empty p j).size : Int) then false else if (28 : Int) < ((getAt ByteArray.empty h j).size : Int) then false
    else if getAt false b j = true then (if (getAt ByteArray.empty h j).toList = ByteArray.empty.toList then gdAll p h b r (j + 1) else false) else gdAll p h b r (j + 1)) := rfl
def goodD (p h : List ByteArray) (b : List Bool) : Bool := decide (1 ≤ p.length ∧ p.length ≤ 24 ∧ h.length = p.length ∧ b.length = p.length) && gdAll p h b p.length 0
theorem goodD_no {p h : List ByteArray} {b : List Bool} (g : ¬ (1 ≤ p.length ∧ p.length ≤ 24 ∧ h.length = p.length ∧ b.length = p.length)) : goodD p h b = false := by
  unfold goodD
  rw [decide_eq_false g]; rfl
theorem goodD_yes {p h : List ByteArray} {b : List Bool} (g : 1 ≤ p.length ∧ p.length ≤ 24 ∧ h.length = p.length ∧ b.length = p.length) : goodD p h b = gdAll p h b p.length 0 := by
  unfold goodD
  rw [decide_eq_true g]; rfl
theorem goodD_len {p h : List ByteArray} {b : List Bool} (g : goodD p h b = true) : 1 ≤ p.length ∧ p.length ≤ 24 ∧ h.length = p.length ∧ b.length = p.length := by
  unfold goodD at g
  simp only [Bool.and_eq_true, decide_eq_true_eq] at g
  exact g.1
theorem i_GoodDisk.loop (k : Nat) (p h : List ByteArray) (b : List Bool) (hp : p.length ≤ 24) (hh : h.length = p.length) (hb : b.length = p.length) : ∀ (n j m : Nat), j + n = p.length → n < m → i_GoodDisk.l0 k m p (p.length : Int) (j : Int) p h b = some (gdAll p h b n j) := by
  intro n
  induction n with
  | zero =>
    intro j m hj hm
    obtain ⟨m, rfl⟩ : ∃ m', m = m' + 1 := ⟨m - 1, by omega⟩
    rw [i_GoodDisk.l0_s, cnF (by omega)]; rfl
  | succ n ih =>
    intro j m hj hm
    obtain ⟨m, rfl⟩ : ∃ m', m = m' + 1 := ⟨m - 1, by omega⟩
    have := ih (j + 1) m (by omega) (by omega)
    rw [i_GoodDisk.l0_s, cnT (by omega), inb_nat (by omega), gd_t, inb_nat (by omega), gd_t, inb_nat (by omega), gd_t, gd_t, Int.toNat_natCast, wrap_succ (by omega), this]
    rw [gdAll_s]
    by_cases c1 : (28 : Int) < ((getAt ByteArray.empty p j).size : Int)
    · rw [cnT c1, if_pos c1]
    rw [cnF c1, if_neg c1]
    by_cases c2 : (28 : Int) < ((getAt ByteArray.empty h j).size : Int)
    · rw [cnT c2, if_pos c2]
    rw [cnF c2, if_neg c2]
    cases c3 : getAt false b j with
    | false => rw [cn_f, if_neg (by simp)]
    | true =>
      rw [cn_t, if_pos rfl]
      by_cases c4 : (getAt ByteArray.empty h j).toList = ByteArray.empty.toList
      · rw [cnNT c4, if_pos c4]
      · rw [cnNF c4, if_neg c4]
theorem i_GoodDisk.eq (k : Nat) (hk : 25 ≤ k) (p h : List ByteArray) (b : List Bool) : i_GoodDisk.f k p h b = some (goodD p h b) := by
  rw [i_GoodDisk.f_eq, i_within.f_eq]
  by_cases c1 : (1 : Int) ≤ (p.length : Int)
  case neg =>
    rw [cnF c1, goodD_no (by omega)]; rfl
  rw [cnT c1, Option.bind_some]
  by_cases c2 : (p.length : Int) ≤ 24
  case neg =>
    rw [decide_eq_false c2, goodD_no (by omega)]; rfl
  rw [decide_eq_true c2]
  simp only [Bool.not_true, cn_f]
  by_cases c3 : (h.length : Int) = (p.length : Int)
  case neg =>
    rw [cnNF c3, goodD_no (by omega)]
  rw [cnNT c3]
  by_cases c4 : (b.length : Int) = (p.length : Int)
  case neg =>
    rw [cnNF c4, goodD_no (by omega)]
  rw [cnNT c4, goodD_yes (by omega)]
  exact i_GoodDisk.loop k p h b (by omega) (by omega) (by omega) p.length 0 k (by omega) (by omega)
theorem s_GoodDisk.loop (k : Nat) (p h : List ByteArray) (b : List Bool) (hp : p.length ≤ 24) (hh : h.length = p.length) (hb : b.length = p.length) : ∀ (n j m : Nat), j + n = p.length → n < m → s_GoodDisk.l0 k m (p.length : Int) (j : Int) p h b = some (gdAll p h b n j) := by
  intro n
  induction n with
  | zero =>
    intro j m hj hm
    obtain ⟨m, rfl⟩ : ∃ m', m = m' + 1 := ⟨m - 1, by omega⟩
    rw [s_GoodDisk.l0_s, cnF (by omega)]; rfl
  | succ n ih =>
    intro j m hj hm
    obtain ⟨m, rfl⟩ : ∃ m', m = m' + 1 := ⟨m - 1, by omega⟩
    have := ih (j + 1) m (by omega) (by omega)
    rw [s_GoodDisk.l0_s, cnT (by omega), inb_nat (by omega), gd_t, inb_nat (by omega), gd_t, inb_nat (by omega), gd_t, gd_t, Int.toNat_natCast, wrap_succ (by omega), this]
    rw [gdAll_s]
    by_cases c1 : (28 : Int) < ((getAt ByteArray.empty p j).size : Int)
    · rw [cnT c1, if_pos c1]
    rw [cnF c1, if_neg c1]
    by_cases c2 : (28 : Int) < ((getAt ByteArray.empty h j).size : Int)
    · rw [cnT c2, if_pos c2]
    rw [cnF c2, if_neg c2]
    cases c3 : getAt false b j with
    | false => rw [cn_f, if_neg (by simp)]
    | true =>
      rw [cn_t, if_pos rfl]
      by_cases c4 : (getAt ByteArray.empty h j).toList = ByteArray.empty.toList
      · rw [cnNT c4, if_pos c4]
      · rw [cnNF c4, if_neg c4]
theorem s_GoodDisk.eq (k : Nat) (hk : 25 ≤ k) (p h : List ByteArray) (b : List Bool) : s_GoodDisk.f k p h b = some (goodD p h b) := by
  rw [s_GoodDisk.f_eq, s_l1In.f_eq]
  by_cases c1 : (1 : Int) ≤ (p.length : Int)
  case neg =>
    rw [cnF c1, goodD_no (by omega)]; rfl
  rw [cnT c1, Option.bind_some]
  by_cases c2 : (p.length : Int) ≤ 24
  case neg =>
    rw [decide_eq_false c2, goodD_no (by omega)]; rfl
  rw [decide_eq_true c2]
  simp only [Bool.not_true, cn_f]
  by_cases c3 : (h.length : Int) = (p.length : Int)
  case neg =>
    rw [cnNF c3, goodD_no (by omega)]
  rw [cnNT c3]
  by_cases c4 : (b.length : Int) = (p.length : Int)
  case neg =>
    rw [cnNF c4, goodD_no (by omega)]
  rw [cnNT c4, goodD_yes (by omega)]
  exact s_GoodDisk.loop k p h b (by omega) (by omega) (by omega) p.length 0 k (by omega) (by omega)
/-- One byte shifted through, n bits of it. -/
def crcN : Nat → Int → Int
  | 0, x => x
  | n + 1, x => crcN n (cn (decide (IntKind.i64.wrap (↑(BitVec.ofInt (64 : Nat) x &&& BitVec.ofInt (64 : Nat) (1 : Int)).toNat : Int) = (1 : Int))) (IntKind.i64.wrap (↑(BitVec.ofInt (64 : Nat) (x.fdiv ((2 : Int) ^ (1 : Nat))) ^^^ BitVec.ofInt (64 : Nat) (2197175160 : Int)).toNat : Int)) (x.fdiv ((2 : Int) ^ (1 : Nat))))
theorem crcN_s (n : Nat) (x : Int) : crcN (n + 1) x = crcN n (cn (decide (IntKind.i64.wrap (↑(BitVec.ofInt (64 : Nat) x &&& BitVec.ofInt (64 : Nat) (1 : Int)).toNat : Int) = (1 : Int))) (IntKind.i64.wrap (↑(BitVec.ofInt (64 : Nat) (x.fdiv ((2 : Int) ^ (1 : Nat))) ^^^ BitVec.ofInt (64 : Nat) (2197175160 : Int)).toNat : Int)) (x.fdiv ((2 : Int) ^ (1 : Nat)))) := rfl
/-- The sum over n bytes of t from j on. -/
def crcL (t : ByteArray) : Nat → Int → Nat → Int
  | 0, x, _ => IntKind.i64.wrap (↑(BitVec.ofInt (64 : Nat) x ^^^ BitVec.ofInt (64 : Nat) (4294967295 : Int)).toNat : Int)
  | n + 1, x, j => crcL t n (crcN 8 (IntKind.i64.wrap (↑(BitVec.ofInt (64 : Nat) x ^^^ BitVec.ofInt (64 : Nat) (IntKind.i64.wrap (↑(t.data.getD j (0 : UInt8)).toNat : Int))).toNat : Int))) (j + 1)
theorem crcL_s (t : ByteArray) (n : Nat) (x : Int) (j : Nat) : crcL t (n + 1) x j = crcL t n (crcN 8 (IntKind.i64.wrap (↑(BitVec.ofInt (64 : Nat) x ^^^ BitVec.ofInt (64 : Nat) (IntKind.i64.wrap (↑(t.data.getD j (0 : UInt8)).toNat : Int))).toNat : Int))) (j + 1) := rfl
def crc (t : ByteArray) : Int := crcL t t.size (IntKind.i64.wrap (↑(BitVec.ofInt (64 : Nat) (0 : Int) ^^^ BitVec.ofInt (64 : Nat) (4294967295 : Int)).toNat : Int)) 0
theorem i_shifted.loop (k : Nat) : ∀ (n j m : Nat) (x : Int), j + n = 8 → n < m → i_shifted.l0 k m x (j : Int) = some (crcN n x) := by
  intro n
  induction n with
  | zero =>
    intro j m x hj hm
    obtain ⟨m, rfl⟩ : ∃ m', m = m' + 1 := ⟨m - 1, by omega⟩
    rw [i_shifted.l0_s, cnF (by omega)]; rfl
  | succ n ih =>
    intro j m x hj hm
    obtain ⟨m, rfl⟩ : ∃ m', m = m' + 1 := ⟨m - 1, by omega⟩
    rw [i_shifted.l0_s, cnT (by omega), wrap_succ (by omega), ih (j + 1) m _ (by omega) (by omega), ih (j + 1) m _ (by omega) (by omega), crcN_s]
    cases decide (IntKind.i64.wrap (↑(BitVec.ofInt (64 : Nat) x &&& BitVec.ofInt (64 : Nat) (1 : Int)).toNat : Int) = (1 : Int)) <;> rfl
theorem i_shifted.eq (k : Nat) (hk : 9 ≤ k) (x : Int) : i_shifted.f k x = some (crcN 8 x) := by
  rw [i_shifted.f_eq]
  exact i_shifted.loop k 8 0 k x (by omega) (by omega)
theorem s_l5Byte.loop (k : Nat) : ∀ (n j m : Nat) (x : Int), j + n = 8 → n < m → s_l5Byte.l0 k m x (j : Int) = some (crcN n x) := by
  intro n
  induction n with
  | zero =>
    intro j m x hj hm
    obtain ⟨m, rfl⟩ : ∃ m', m = m' + 1 := ⟨m - 1, by omega⟩
    rw [s_l5Byte.l0_s, cnF (by omega)]; rfl
  | succ n ih =>
    intro j m x hj hm
    obtain ⟨m, rfl⟩ : ∃ m', m = m' + 1 := ⟨m - 1, by omega⟩
    rw [s_l5Byte.l0_s, cnT (by omega), wrap_succ (by omega), ih (j + 1) m _ (by omega) (by omega), ih (j + 1) m _ (by omega) (by omega), crcN_s]
    cases decide (IntKind.i64.wrap (↑(BitVec.ofInt (64 : Nat) x &&& BitVec.ofInt (64 : Nat) (1 : Int)).toNat : Int) = (1 : Int)) <;> rfl
theorem s_l5Byte.eq (k : Nat) (hk : 9 ≤ k) (x : Int) : s_l5Byte.f k x = some (crcN 8 x) := by
  rw [s_l5Byte.f_eq]
  exact s_l5Byte.loop k 8 0 k x (by omega) (by omega)
theorem i_sumOn.loop (k : Nat) (hk : 9 ≤ k) (t : ByteArray) (ht : t.size ≤ 140737488355328) : ∀ (n j m : Nat) (x : Int), j + n = t.size → n < m → i_sumOn.l0 k m x t (t.size : Int) (j : Int) = some (crcL t n x j) := by
  intro n
  induction n with
  | zero =>
    intro j m x hj hm
    obtain ⟨m, rfl⟩ : ∃ m', m = m' + 1 := ⟨m - 1, by omega⟩
    rw [i_sumOn.l0_s, cnF (by omega), i_turned.f_eq]; rfl
  | succ n ih =>
    intro j m x hj hm
    obtain ⟨m, rfl⟩ : ∃ m', m = m' + 1 := ⟨m - 1, by omega⟩
    rw [i_sumOn.l0_s, cnT (by omega), inb_nat (by omega), gd_t, i_shifted.eq k hk, Option.bind_some, wrap_succ (by omega), ih (j + 1) m _ (by omega) (by omega), crcL_s, Int.toNat_natCast]
theorem i_sumOn.eq (k : Nat) (t : ByteArray) (ht : t.size ≤ 140737488355328) (hk : t.size + 9 ≤ k) : i_sumOn.f k 0 t = some (crc t) := by
  rw [i_sumOn.f_eq, i_turned.f_eq, Option.bind_some]
  exact i_sumOn.loop k (by omega) t ht t.size 0 k _ (by omega) (by omega)
theorem s_l5On.loop (k : Nat) (hk : 9 ≤ k) (t : ByteArray) (ht : t.size ≤ 140737488355328) : ∀ (n j m : Nat) (x : Int), j + n = t.size → n < m → s_l5On.l0 k m x t (j : Int) = some (crcL t n x j) := by
  intro n
  induction n with
  | zero =>
    intro j m x hj hm
    obtain ⟨m, rfl⟩ : ∃ m', m = m' + 1 := ⟨m - 1, by omega⟩
    rw [s_l5On.l0_s, cnF (by omega)]; rfl
  | succ n ih =>
    intro j m x hj hm
    obtain ⟨m, rfl⟩ : ∃ m', m = m' + 1 := ⟨m - 1, by omega⟩
    rw [s_l5On.l0_s, cnT (by omega), inb_nat (by omega), gd_t, s_l5Byte.eq k hk, Option.bind_some, wrap_succ (by omega), ih (j + 1) m _ (by omega) (by omega), crcL_s, Int.toNat_natCast]
theorem s_l5On.eq (k : Nat) (t : ByteArray) (ht : t.size ≤ 140737488355328) (hk : t.size + 9 ≤ k) : s_l5On.f k 0 t = some (crc t) := by
  rw [s_l5On.f_eq]
  exact s_l5On.loop k (by omega) t ht t.size 0 k _ (by omega) (by omega)
theorem strOfNums_append (a b : List Int) : strOfNums (a ++ b) = strOfNums a ++ strOfNums b := by
  apply ByteArray.ext
  rw [ByteArray.data_append]
  simp [strOfNums]
theorem strOfNums_bytes (s : ByteArray) : strOfNums (bytesL s) = s := by
  apply ByteArray.ext
  simp only [strOfNums, bytesL, List.map_map]
  rw [show ((fun n : Int => UInt8.ofNat n.toNat) ∘ fun b : UInt8 => (b.toNat : Int)) = id by funext b; simp]
  simp
theorem strOfNums_nil : strOfNums [] = ByteArray.empty := rfl
theorem strOfNums_len (xs : List Int) : (strOfNums xs).size = xs.length := by simp [strOfNums, ByteArray.size]
theorem mk1 (n : Nat) (h : n ≤ 70368744177664) : mkOk (n : Int) (n : Int) (Try.prog.bytesOf (5 : Nat)) = true := by
  rw [show Try.prog.bytesOf (5 : Nat) = 1 by kernel_rfl]
  unfold mkOk
  simp; omega
theorem app1 (n : Nat) (h : n ≤ 70368744177664) : appOk n (Try.prog.bytesOf (5 : Nat)) = true := by
  rw [show Try.prog.bytesOf (5 : Nat) = 1 by kernel_rfl]
  unfold appOk
  simp; omega
theorem s_l6Bytes.one (k : Nat) (hk : 2 ≤ k) (n : Int) : s_l6Bytes.f k n 1 = some (strOfNums [IntKind.u8.wrap n]) := by
  rw [s_l6Bytes.f_eq, show mkOk (1 : Int) (1 : Int) (Try.prog.bytesOf (5 : Nat)) = true from mk1 1 (by omega), gd_t]
  obtain ⟨k2, e⟩ : ∃ k2, k = k2 + 2 := ⟨k - 2, by omega⟩
  generalize k = kk at e ⊢
  subst e
  rw [show IntKind.i64.wrap ((1 : Int) - 1) = ((0 : Nat) : Int) from wrap_eq (by decide) (by decide)]
  rw [s_l6Bytes.l0_s, cnT (by decide), inb_nat (by simp), gd_t, show IntKind.i64.wrap (((0 : Nat) : Int) - 1) = -1 from wrap_eq (by decide) (by decide), s_l6Bytes.l0_s, cnF (by decide)]
  rfl
theorem s_l6Bytes.two (k : Nat) (hk : 3 ≤ k) (n : Int) : s_l6Bytes.f k n 2 = some (strOfNums [IntKind.u8.wrap (n.fdiv ((2 : Int) ^ (8 : Nat))), IntKind.u8.wrap n]) := by
  rw [s_l6Bytes.f_eq, show mkOk (2 : Int) (2 : Int) (Try.prog.bytesOf (5 : Nat)) = true from mk1 2 (by omega), gd_t]
  obtain ⟨k2, e⟩ : ∃ k2, k = k2 + 3 := ⟨k - 3, by omega⟩
  generalize k = kk at e ⊢
  subst e
  rw [show IntKind.i64.wrap ((2 : Int) - 1) = ((1 : Nat) : Int) from wrap_eq (by decide) (by decide)]
  rw [s_l6Bytes.l0_s, cnT (by decide), inb_nat (by simp), gd_t, show IntKind.i64.wrap (((1 : Nat) : Int) - 1) = ((0 : Nat) : Int) from wrap_eq (by decide) (by decide)]
  rw [s_l6Bytes.l0_s, cnT (by decide), inb_nat (by simp), gd_t, show IntKind.i64.wrap (((0 : Nat) : Int) - 1) = -1 from wrap_eq (by decide) (by decide), s_l6Bytes.l0_s, cnF (by decide)]
  rfl
def low4 (n : Int) : List Int := [IntKind.u8.wrap n, IntKind.u8.wrap (n.fdiv ((2 : Int) ^ (8 : Nat))), IntKind.u8.wrap (n.fdiv ((2 : Int) ^ (16 : Nat))), IntKind.u8.wrap (n.fdiv ((2 : Int) ^ (24 : Nat)))]
theorem s_l6Low.step (k m : Nat) (hk : 3 ≤ k) (n : Int) (s : ByteArray) (hs : s.size ≤ 10) (j : Nat) (hj : j < 4) : s_l6Low.l0 k (m + 1) n s (j : Int) = s_l6Low.l0 k m n (s ++ strOfNums [IntKind.u8.wrap (n.fdiv ((2 : Int) ^ (8 * j)))]) ((j + 1 : Nat) : Int) := by
  have e : IntKind.u64.wrap (IntKind.i64.wrap ((8 : Int) * (j : Int))) = ((8 * j : Nat) : Int) := by
    rw [wrap_eq (by omega) (by omega)]
    have : j = 0 ∨ j = 1 ∨ j = 2 ∨ j = 3 := by omega
    rcases this with rfl | rfl | rfl | rfl <;> decide
  rw [s_l6Low.l0_s, cnT (by omega), e, gdT (by omega), Int.toNat_natCast, show min (8 * j) 64 = 8 * j by omega, s_l6Bytes.one k (by omega), Option.bind_some, gdT (by rw [strOfNums_len]; simp; omega), wrap_succ (by omega)]
theorem s_l6Low.all (k m : Nat) (hk : 3 ≤ k) (hm : 5 ≤ m) (n : Int) : s_l6Low.l0 k m n ByteArray.empty 0 = some (strOfNums (low4 n)) := by
  obtain ⟨k5, rfl⟩ : ∃ k5, m = k5 + 1 + 1 + 1 + 1 + 1 := ⟨m - 5, by omega⟩
  have e0 : (0 : Int) = ((0 : Nat) : Int) := rfl
  rw [e0, s_l6Low.step k _ hk n _ (by decide) 0 (by omega), s_l6Low.step k _ hk n _ (by simp [strOfNums_len]) 1 (by omega), s_l6Low.step k _ hk n _ (by simp [strOfNums_len]) 2 (by omega), s_l6Low.step k _ hk n _ (by simp [strOfNums_len]) 3 (by omega), s_l6Low.l0_s, cnF (by omega)]
  rw [← strOfNums_nil, ← strOfNums_append, ← strOfNums_append, ← strOfNums_append, ← strOfNums_append]
  unfold low4
  rw [show n.fdiv ((2 : Int) ^ (8 * 0)) = n by simp]
  rfl
theorem s_l6Low.eq (k : Nat) (hk : 5 ≤ k) (n : Int) : s_l6Low.f k n = some (strOfNums (low4 n)) := by
  rw [s_l6Low.f_eq]
  exact s_l6Low.all k k (by omega) hk n
def goodF (kind at_ ep : Int) (body : ByteArray) : Bool := decide (1 ≤ kind ∧ kind ≤ 255 ∧ 0 ≤ at_ ∧ at_ ≤ 60000 ∧ 0 ≤ ep ∧ ep ≤ 60000 ∧ (body.size : Int) ≤ 16)
theorem i_GoodFrame.eq (k : Nat) (kind at_ ep : Int) (body : ByteArray) : i_GoodFrame.f k kind at_ ep body = some (goodF kind at_ ep body) := by
  rw [i_GoodFrame.f_eq]
  simp only [i_within.eq, Option.bind_some]
  unfold goodF
  by_cases h1 : 1 ≤ kind ∧ kind ≤ 255
  case neg => rw [cnF h1, decide_eq_false (fun h => h1 ⟨h.1, h.2.1⟩)]
  rw [cnT h1]
  by_cases h2 : 0 ≤ at_ ∧ at_ ≤ 60000
  case neg => rw [cnF h2, decide_eq_false (fun h => h2 ⟨h.2.2.1, h.2.2.2.1⟩)]
  rw [cnT h2]
  by_cases h3 : 0 ≤ ep ∧ ep ≤ 60000
  case neg => rw [cnF h3, decide_eq_false (fun h => h3 ⟨h.2.2.2.2.1, h.2.2.2.2.2.1⟩)]
  rw [cnT h3]
  congr 1
  apply decide_eq_decide.2
  exact ⟨fun h => ⟨h1.1, h1.2, h2.1, h2.2, h3.1, h3.2, h⟩, fun h => h.2.2.2.2.2.2⟩
def head6 (kind at_ ep : Int) (body : ByteArray) : List Int := [IntKind.u8.wrap kind, IntKind.u8.wrap (at_.fdiv ((2 : Int) ^ (8 : Nat))), IntKind.u8.wrap at_, IntKind.u8.wrap (ep.fdiv ((2 : Int) ^ (8 : Nat))), IntKind.u8.wrap ep, IntKind.u8.wrap (↑body.size : Int)]
def pad18 (body : ByteArray) : List Int := List.replicate (18 - body.size) (0 : Int)
def front24 (kind at_ ep : Int) (body : ByteArray) : List Int := head6 kind at_ ep body ++ bytesL body ++ pad18 body
def frameL (kind at_ ep : Int) (body : ByteArray) : List Int := front24 kind at_ ep body ++ low4 (crc (strOfNums (front24 kind at_ ep body)))
theorem bytesL_len (s : ByteArray) : (bytesL s).length = s.size := by simp [bytesL]
theorem front24_len (kind at_ ep : Int) (body : ByteArray) (hb : body.size ≤ 16) : (front24 kind at_ ep body).length = 24 := by
  unfold front24 head6 pad18
  simp only [List.length_append, bytesL_len, List.length_replicate, List.length_cons, List.length_nil]
  omega
theorem i_frameBytes.eq (k : Nat) (hk : 40 ≤ k) (kind at_ ep : Int) (body : ByteArray) (hb : body.size ≤ 16) : i_frameBytes.f k kind at_ ep body = some (strOfNums (frameL kind at_ ep body)) := by
  have e : IntKind.i64.wrap (IntKind.i64.wrap ((18 : Int) - (↑body.size : Int))) = ((18 - body.size : Nat) : Int) := by
    rw [wrap_eq (n := 18 - (body.size : Int)) (by omega) (by omega), wrap_eq (by omega) (by omega)]; omega
  rw [i_frameBytes.f_eq, e, Int.toNat_natCast]
  have hL := front24_len kind at_ ep body hb
  unfold front24 head6 pad18 at hL
  rw [app1 _ (by simp only [bytesL_len, List.length_cons, List.length_nil]; omega), gd_t, app1 _ (by rw [← List.length_append, hL]; omega), decide_eq_true (by omega : (0 : Int) ≤ ((18 - body.size : Nat) : Int)), Bool.true_and, gd_t]
  rw [i_sumOn.eq k _ (by rw [strOfNums_len, hL]; omega) (by rw [strOfNums_len, hL]; omega), Option.bind_some, app1 _ (by rw [hL]; simp), gd_t]
  rfl
theorem gd_le {A : Type} {x y : Nat} {z : Option A} (h : x ≤ y) : gd (decide (x ≤ y)) z = z := gdT h
theorem s_l6Frame.eq (k : Nat) (hk : 40 ≤ k) (kind at_ ep : Int) (body : ByteArray) (hb : body.size ≤ 16) : s_l6Frame.f k kind at_ ep body = some (strOfNums (frameL kind at_ ep body)) := by
  have e : IntKind.i64.wrap (IntKind.i64.wrap ((16 : Int) - (↑body.size : Int)) + 2) = ((18 - body.size : Nat) : Int) := by
    rw [wrap_eq (n := 16 - (body.size : Int)) (by omega) (by omega), wrap_eq (by omega) (by omega)]; omega
  have hL := front24_len kind at_ ep body hb
  have eF : strOfNums [IntKind.u8.wrap kind] ++ strOfNums [IntKind.u8.wrap (at_.fdiv ((2 : Int) ^ (8 : Nat))), IntKind.u8.wrap at_] ++ strOfNums [IntKind.u8.wrap (ep.fdiv ((2 : Int) ^ (8 : Nat))), IntKind.u8.wrap ep] ++ strOfNums [IntKind.u8.wrap (body.size : Int)] ++ body ++ strOfNums (List.replicate (18 - body.size) (0 : Int)) = strOfNums (front24 kind at_ ep body) := by
    unfold front24
    rw [strOfNums_append, strOfNums_append, strOfNums_bytes, ← strOfNums_append, ← strOfNums_append, ← strOfNums_append]
    rfl
  have hc := s_l5On.eq k (strOfNums (front24 kind at_ ep body)) (by rw [strOfNums_len, hL]; omega) (by rw [strOfNums_len, hL]; omega)
  rw [s_l6Frame.f_eq]
  simp only [s_l6Bytes.one k (by omega : 2 ≤ k), s_l6Bytes.two k (by omega : 3 ≤ k), Option.bind_some, e, Int.toNat_natCast, mk1 (18 - body.size) (by omega), gd_t, ByteArray.size_append, strOfNums_len, List.length_cons, List.length_nil, List.length_replicate]
  simp (disch := omega) only [gd_le]
  simp only [eF, hc, Option.bind_some, s_l6Low.eq k (by omega : 5 ≤ k), strOfNums_len]
  simp only [show ∀ n, (low4 n).length = 4 from fun _ => rfl]
  simp (disch := omega) only [gd_le, both_self, dup_eq]
  rw [← strOfNums_append]
  rfl
/-! ### Loops: rounds to spare -/
def Ev2 {R : Type} (g : Nat → Nat → Option R) (r : R) : Prop := ∃ K, ∀ k m, K ≤ k → K ≤ m → g k m = some r
theorem Ev2.diag {R : Type} {g : Nat → Nat → Option R} {r : R} (h : Ev2 g r) : Ev (fun k => g k k) r := by
  obtain ⟨K, hK⟩ := h
  exact ⟨K, fun k hk => hK k k hk hk⟩
theorem Ev2.step {R : Type} {g g' : Nat → Nat → Option R} {r : R} (h : Ev2 g' r) (e : ∀ k m, g k (m + 1) = g' k m) : Ev2 g r := by
  obtain ⟨K, hK⟩ := h
  refine ⟨K + 1, fun k m hk hm => ?_⟩
  obtain ⟨m, rfl⟩ : ∃ m', m = m' + 1 := ⟨m - 1, by omega⟩
  rw [e]
  exact hK k m (by omega) (by omega)
theorem Ev2.bind {D R : Type} {f : Nat → Option D} {d : D} {G : Nat → Nat → D → Option R} {r : R} (h : Ev f d) (h2 : Ev2 (fun k m => G k m d) r) : Ev2 (fun k m => (f k).bind (G k m)) r := by
  obtain ⟨K, hK⟩ := h
  obtain ⟨L, hL⟩ := h2
  refine ⟨max K L, fun k m hk hm => ?_⟩
  show (f k).bind (G k m) = _
  rw [hK k (by omega)]
  exact hL k m (by omega) (by omega)
theorem Ev2.const {R : Type} {g : Nat → Nat → Option R} {r : R} (h : ∀ k m, g k m = some r) : Ev2 g r := ⟨0, fun k m _ _ => h k m⟩
theorem Ev2.ev {R : Type} {g : Nat → Option R} {r : R} (h : Ev g r) : Ev2 (fun k _ => g k) r := by
  obtain ⟨K, hK⟩ := h
  exact ⟨K, fun k _ hk _ => hK k hk⟩
theorem Ev2.inner {R : Type} {g : Nat → Nat → Option R} {r : R} (h : Ev2 g r) : Ev2 (fun k _ => g k k) r := .ev h.diag
theorem Ev2.congr {R : Type} {f g : Nat → Nat → Option R} {r : R} (h : Ev2 f r) (e : ∀ k m, g k m = f k m) : Ev2 g r := by
  obtain ⟨K, hK⟩ := h
  exact ⟨K, fun k m hk hm => by rw [e]; exact hK k m hk hm⟩
theorem Ev.unique {R : Type} {g : Nat → Option R} {r r' : R} (h : Ev g r) (h' : Ev g r') : r = r' := by
  obtain ⟨K, hK⟩ := h
  obtain ⟨L, hL⟩ := h'
  have a := hK (max K L) (by omega)
  rw [hL (max K L) (by omega)] at a
  exact (Option.some.inj a).symm
/-- Three kinds of rounds. -/
def Ev3 {R : Type} (g : Nat → Nat → Nat → Option R) (r : R) : Prop := ∃ K, ∀ k m n, K ≤ k → K ≤ m → K ≤ n → g k m n = some r
theorem Ev3.diag {R : Type} {g : Nat → Nat → Nat → Option R} {r : R} (h : Ev3 g r) : Ev2 (fun k m => g k m k) r := by
  obtain ⟨K, hK⟩ := h
  exact ⟨K, fun k m hk hm => hK k m k hk hm hk⟩
theorem Ev3.step {R : Type} {g g' : Nat → Nat → Nat → Option R} {r : R} (h : Ev3 g' r) (e : ∀ k m n, g k m (n + 1) = g' k m n) : Ev3 g r := by
  obtain ⟨K, hK⟩ := h
  refine ⟨K + 1, fun k m n hk hm hn => ?_⟩
  obtain ⟨n, rfl⟩ : ∃ m', n = m' + 1 := ⟨n - 1, by omega⟩
  rw [e]
  exact hK k m n (by omega) (by omega) (by omega)
theorem Ev3.bind {D R : Type} {f : Nat → Option D} {d : D} {G : Nat → Nat → Nat → D → Option R} {r : R} (h : Ev f d) (h2 : Ev3 (fun k m n => G k m n d) r) : Ev3 (fun k m n => (f k).bind (G k m n)) r := by
  obtain ⟨K, hK⟩ := h
  obtain ⟨L, hL⟩ := h2
  refine ⟨max K L, fun k m n hk hm hn => ?_⟩
  show (f k).bind (G k m n) = _
  rw [hK k (by omega)]
  exact hL k m n (by omega) (by omega) (by omega)
theorem Ev3.const {R : Type} {g : Nat → Nat → Nat → Option R} {r : R} (h : ∀ k m n, g k m n = some r) : Ev3 g r := ⟨0, fun k m n _ _ _ => h k m n⟩
theorem Ev3.out {R : Type} {g : Nat → Nat → Option R} {r : R} (h : Ev2 g r) : Ev3 (fun k m _ => g k m) r := by
  obtain ⟨K, hK⟩ := h
  exact ⟨K, fun k m _ hk hm _ => hK k m hk hm⟩
theorem drop_cons {A : Type} {d : A} {s : List A} {j : Nat} (h : j < s.length) : s.drop j = getAt d s j :: s.drop (j + 1) := by
  rw [getAt_lt h]; exact List.drop_eq_getElem_cons h
/-- A loop over a row from place j on; what is carried is told by st. -/
theorem Ev2.each {A R S : Type} (s : List A) (d : A) (g : Nat → Nat → Nat → S → Option R) (inv : Nat → S → Prop) (res : List A → Nat → S → R)
    (hnil : ∀ st, inv s.length st → Ev2 (fun k m => g k m s.length st) (res [] s.length st))
    (hcons : ∀ j x l st, s.drop j = x :: l → j < s.length → getAt d s j = x → inv j st → (∀ st', inv (j + 1) st' → Ev2 (fun k m => g k m (j + 1) st') (res l (j + 1) st')) → Ev2 (fun k m => g k m j st) (res (x :: l) j st)) :
    ∀ n j st, j + n = s.length → inv j st → Ev2 (fun k m => g k m j st) (res (s.drop j) j st) := by
  intro n
  induction n with
  | zero =>
    intro j st hj hi
    obtain rfl : j = s.length := by omega
    rw [List.drop_length]
    exact hnil st hi
  | succ n ih =>
    intro j st hj hi
    have hlt : j < s.length := by omega
    have e := drop_cons (d := d) hlt
    rw [e]
    exact hcons j _ _ st e hlt rfl hi fun st' h' => ih (j + 1) st' (by omega) h'
/-- The same where nothing is carried. -/
theorem Ev2.look {A R : Type} (s : List A) (d : A) (g : Nat → Nat → Nat → Option R) (res : List A → Nat → R)
    (hnil : Ev2 (fun k m => g k m s.length) (res [] s.length))
    (hcons : ∀ j x l, s.drop j = x :: l → j < s.length → getAt d s j = x → Ev2 (fun k m => g k m (j + 1)) (res l (j + 1)) → Ev2 (fun k m => g k m j) (res (x :: l) j)) :
    Ev2 (fun k m => g k m 0) (res s 0) :=
  Ev2.each s d (fun k m j (_ : Unit) => g k m j) (fun _ _ => True) (fun l j _ => res l j) (fun _ _ => hnil) (fun j x l _ h1 h2 h3 _ ih => hcons j x l h1 h2 h3 (ih () trivial)) s.length 0 () (by omega) trivial
/-- The first place where p holds, -1 for none. -/
def fidx {A : Type} (p : A → Bool) : List A → Nat → Int
  | [], _ => -1
  | x :: l, j => match p x with | true => (j : Int) | false => fidx p l (j + 1)
theorem fidx_any {A : Type} (p : A → Bool) : ∀ (l : List A) (j : Nat), decide ((0 : Int) ≤ fidx p l j) = l.any p
  | [], _ => by simp [fidx]
  | x :: l, j => by
    cases h : p x with
    | true => simp [fidx, h]
    | false => simp only [fidx, h, List.any_cons, Bool.false_or]; exact fidx_any p l (j + 1)
theorem cn_ite {A : Type} (b : Bool) (x y : A) : cn b x y = if b = true then x else y := by cases b <;> rfl
/-! ### Rows written over from the front -/
def mid {A : Type} (a b : List A) (j : Nat) : List A := a.take j ++ b.drop j
theorem mid_zero {A : Type} (a b : List A) : mid a b 0 = b := by simp [mid]
theorem mid_all {A : Type} {a b : List A} {j : Nat} (h : j = a.length) (hb : b.length = a.length) : mid a b j = a := by
  subst h; unfold mid; rw [List.take_length, List.drop_of_length_le (by omega), List.append_nil]
theorem mid_len {A : Type} {a b : List A} (j : Nat) (hb : b.length = a.length) : (mid a b j).length = a.length := by
  simp [mid]; omega
theorem mid_get {A : Type} {d : A} {a b : List A} {j : Nat} (hb : b.length = a.length) (hj : j < a.length) : getAt d (mid a b j) j = getAt d b j := by
  have hl : (a.take j).length = j := by simp; omega
  rw [getAt_lt (by rw [mid_len j hb]; exact hj), getAt_lt (by omega)]
  unfold mid
  rw [List.getElem_append_right (by omega)]
  simp [hl]
theorem mid_step {A : Type} {d : A} {a b : List A} {j : Nat} (hb : b.length = a.length) (hj : j < a.length) : mid a b (j + 1) = a.take j ++ getAt d a j :: b.drop (j + 1) := by
  rw [getAt_lt hj]
  show a.take (j + 1) ++ b.drop (j + 1) = _
  rw [List.take_succ_eq_append_getElem hj, List.append_assoc]; rfl
theorem mid_set {A : Type} {d x : A} {a b : List A} {j : Nat} (hb : b.length = a.length) (hj : j < a.length) (hx : x = getAt d a j) : (mid a b j).set j x = mid a b (j + 1) := by
  have hl : (a.take j).length = j := by simp; omega
  rw [mid_step (d := d) hb hj]
  unfold mid
  rw [List.set_append_right _ _ (by omega), hl, Nat.sub_self, drop_cons (d := d) (by omega : j < b.length), hx]; rfl
theorem mid_keep {A : Type} {d : A} {a b : List A} {j : Nat} (hb : b.length = a.length) (hj : j < a.length) (hx : getAt d b j = getAt d a j) : mid a b j = mid a b (j + 1) := by
  rw [mid_step (d := d) hb hj, ← hx, ← drop_cons (by omega : j < b.length)]; rfl
theorem getAt_ext {A : Type} (d : A) {a b : List A} (hl : a.length = b.length) (h : ∀ i, i < a.length → getAt d a i = getAt d b i) : a = b := by
  refine List.ext_getElem hl fun i h1 h2 => ?_
  have := h i h1
  rwa [getAt_lt h1, getAt_lt h2] at this
theorem getAt_replicate {A : Type} (d : A) (n i : Nat) : getAt d (List.replicate n d) i = d := by
  unfold getAt
  rw [List.getD_eq_getElem?_getD, List.getElem?_replicate]
  split <;> rfl
theorem appOk_le {n b : Nat} (hb : b ≤ 1024) (h : n ≤ 1073741824) : appOk n b = true := by
  unfold appOk
  have : n * b ≤ 1073741824 * 1024 := Nat.mul_le_mul h hb
  rw [decide_eq_true (by omega : n ≤ 2 ^ 46), decide_eq_true (by omega : n * b ≤ 2 ^ 46)]; rfl
theorem bytes_string : Try.prog.bytesOf (9 : Nat) ≤ 1024 := by rw [show Try.prog.bytesOf (9 : Nat) = 16 by kernel_rfl]; decide
theorem bytes_int : Try.prog.bytesOf (3 : Nat) ≤ 1024 := by rw [show Try.prog.bytesOf (3 : Nat) = 8 by kernel_rfl]; decide
theorem bytes_bool : Try.prog.bytesOf (4 : Nat) ≤ 1024 := by rw [show Try.prog.bytesOf (4 : Nat) = 1 by kernel_rfl]; decide
theorem bytes_uint8 : Try.prog.bytesOf (5 : Nat) ≤ 1024 := by rw [show Try.prog.bytesOf (5 : Nat) = 1 by kernel_rfl]; decide
theorem beq_nt (a b : Bool) : (!a == b) = !decide (a = b) := by cases a <;> cases b <;> rfl
/-! ### Looking through rows -/
theorem any_eq (s : List Int) (v : Int) : s.any (fun x => decide (v = x)) = decide (v ∈ s) := by
  rw [Bool.eq_iff_iff, List.any_eq_true, decide_eq_true_iff]
  constructor
  · rintro ⟨x, hx, h⟩; rw [of_decide_eq_true h]; exact hx
  · exact fun h => ⟨v, h, decide_eq_true rfl⟩
theorem b_Index_int.ev (s : List Int) (v : Int) (hs : s.length < 9223372036854775807) : Ev (fun k => b_Index_int.f k s v) (fidx (fun x => decide (v = x)) s 0) := by
  refine Ev.congr ?_ fun k => b_Index_int.f_eq k s v
  refine Ev2.diag (g := fun k m => b_Index_int.l0 k m s v (s.length : Int) 0) ?_
  refine Ev2.look s 0 (fun k m j => b_Index_int.l0 k m s v (s.length : Int) (j : Int)) (fun l j => fidx (fun x => decide (v = x)) l j) ?_ ?_
  · refine .step ?_ fun k m => b_Index_int.l0_s k m _ _ _ _
    simp (disch := omega) only [Int.toNat_natCast, decide_eq_true, decide_eq_false, Bool.not_true, Bool.not_false, Bool.true_and, Bool.false_and, Bool.and_true, Bool.and_false, cn_t, cn_f, gd_t, inb_nat, wrap_succ, Option.bind_some, both_self, dup_eq, fidx]
    exact .const fun _ _ => rfl
  · intro j x l _ hj hx ih
    refine .step ?_ fun k m => b_Index_int.l0_s k m _ _ _ _
    simp (disch := omega) only [Int.toNat_natCast, decide_eq_true, decide_eq_false, Bool.not_true, Bool.not_false, Bool.true_and, Bool.false_and, Bool.and_true, Bool.and_false, cn_t, cn_f, gd_t, inb_nat, wrap_succ, Option.bind_some, both_self, dup_eq, hx, fidx]
    by_cases h : v = x
    · simp only [decide_eq_true h, cn_t]
      exact .const fun _ _ => rfl
    · simp only [decide_eq_false h, cn_f]
      exact ih
theorem b_Contains_int.ev (s : List Int) (v : Int) (hs : s.length < 9223372036854775807) : Ev (fun k => b_Contains_int.f k s v) (decide (v ∈ s)) := by
  refine Ev.congr ?_ fun k => b_Contains_int.f_eq k s v
  refine Ev.bind (b_Index_int.ev s v hs) ?_
  rw [fidx_any, any_eq]
  exact .const fun _ => rfl
theorem s_l1Has.ev (s : List Int) (v : Int) (hs : s.length < 9223372036854775807) : Ev (fun k => s_l1Has.f k s v) (decide (v ∈ s)) := by
  refine Ev.congr ?_ fun k => s_l1Has.f_eq k s v
  refine Ev2.diag (g := fun k m => s_l1Has.l0 k m v s (s.length : Int) 0) ?_
  refine Ev2.look s 0 (fun k m j => s_l1Has.l0 k m v s (s.length : Int) (j : Int)) (fun l j => decide (v ∈ l)) ?_ ?_
  · refine .step ?_ fun k m => s_l1Has.l0_s k m _ _ _ _
    simp (disch := omega) only [Int.toNat_natCast, decide_eq_true, decide_eq_false, Bool.not_true, Bool.not_false, Bool.true_and, Bool.false_and, Bool.and_true, Bool.and_false, cn_t, cn_f, gd_t, inb_nat, wrap_succ, Option.bind_some, both_self, dup_eq]
    exact .const fun _ _ => by simp
  · intro j x l _ hj hx ih
    refine .step ?_ fun k m => s_l1Has.l0_s k m _ _ _ _
    simp (disch := omega) only [Int.toNat_natCast, decide_eq_true, decide_eq_false, Bool.not_true, Bool.not_false, Bool.true_and, Bool.false_and, Bool.and_true, Bool.and_false, cn_t, cn_f, gd_t, inb_nat, wrap_succ, Option.bind_some, both_self, dup_eq, hx]
    by_cases h : x = v
    · simp only [decide_eq_true h, cn_t]
      exact .const fun _ _ => by simp [h]
    · simp only [decide_eq_false h, cn_f]
      rw [show decide (v ∈ x :: l) = decide (v ∈ l) by simp [Ne.symm h]]
      exact ih
theorem b_Clone_string.eq (k : Nat) (s : List ByteArray) (hs : s.length ≤ 1073741824) : b_Clone_string.f k s = some s := by
  have h : appOk (0 + s.length) (Try.prog.bytesOf (9 : Nat)) = true := appOk_le bytes_string (by omega)
  rw [b_Clone_string.f_eq, h]
  cases s <;> simp only [noEl, cn_t, cn_f, gd_t, List.nil_append, both_self, dup_eq]
theorem b_Clone_bool.eq (k : Nat) (s : List Bool) (hs : s.length ≤ 1073741824) : b_Clone_bool.f k s = some s := by
  have h : appOk (0 + s.length) (Try.prog.bytesOf (4 : Nat)) = true := appOk_le bytes_bool (by omega)
  rw [b_Clone_bool.f_eq, h]
  cases s <;> simp only [noEl, cn_t, cn_f, gd_t, List.nil_append, both_self, dup_eq]
/-! ### A disk after a crash -/
theorem i_ownDisk.eq (k : Nat) (p h : List ByteArray) (b : List Bool) (hp : p.length ≤ 1073741824) (hh : h.length ≤ 1073741824) (hb : b.length ≤ 1073741824) : i_ownDisk.f k p h b = some (p, h, b) := by
  rw [i_ownDisk.f_eq, b_Clone_string.eq k p hp, b_Clone_string.eq k h hh, b_Clone_bool.eq k b hb]; rfl
theorem s_l7Own.eq (k : Nat) (p h : List ByteArray) (b : List Bool) (hp : p.length ≤ 1073741824) (hh : h.length ≤ 1073741824) (hb : b.length ≤ 1073741824) : s_l7Own.f k p h b = some (p, h, b) := by
  have e1 : appOk (0 + p.length) (Try.prog.bytesOf (9 : Nat)) = true := appOk_le bytes_string (by omega)
  have e2 : appOk (0 + h.length) (Try.prog.bytesOf (9 : Nat)) = true := appOk_le bytes_string (by omega)
  have e3 : appOk (0 + b.length) (Try.prog.bytesOf (4 : Nat)) = true := appOk_le bytes_bool (by omega)
  rw [s_l7Own.f_eq]
  simp only [e1, e2, e3, gd_t, List.nil_append, both_self, dup_eq]
/-- What stands on the plate then. -/
def crashP (p h : List ByteArray) (kept : List Int) : List ByteArray := p.mapIdx fun i x => if (i : Int) ∈ kept then getAt ByteArray.empty h i else x
theorem crashP_len (p h : List ByteArray) (kept : List Int) : (crashP p h kept).length = p.length := by simp [crashP]
theorem crashP_get {p h : List ByteArray} {kept : List Int} {i : Nat} (hi : i < p.length) : getAt ByteArray.empty (crashP p h kept) i = if (i : Int) ∈ kept then getAt ByteArray.empty h i else getAt ByteArray.empty p i := by
  rw [getAt_lt (by rw [crashP_len]; exact hi), getAt_lt hi]
  simp [crashP]
theorem crashP_nil (p h : List ByteArray) : crashP p h [] = p :=
  getAt_ext ByteArray.empty (crashP_len p h []) fun i hi => by
    rw [crashP_len] at hi
    rw [crashP_get hi]; simp
abbrev noText (n : Nat) : List ByteArray := List.replicate n ByteArray.empty
theorem i_crashed.ev (p h : List ByteArray) (b : List Bool) (kept : List Int) (hp : p.length ≤ 1073741824) (hh : h.length = p.length) (hb : b.length ≤ 1073741824) (hk : kept.length < 9223372036854775807) : Ev (fun k => i_crashed.f k p h b kept) (crashP p h kept, noText p.length, b) := by
  refine Ev.congr ?_ fun k => i_crashed.f_eq k p h b kept
  simp (disch := omega) only [Int.toNat_natCast, decide_eq_true, decide_eq_false, Bool.not_true, Bool.not_false, Bool.true_and, Bool.false_and, Bool.and_true, Bool.and_false, cn_t, cn_f, gd_t, inb_nat, wrap_succ, Option.bind_some, both_self, dup_eq, i_ownDisk.eq]
  refine Ev2.diag (g := fun k m => i_crashed.l0 k m kept (h.length : Int) 0 p h b) ?_
  have lc := crashP_len p h kept
  have ln : (noText p.length).length = p.length := by simp
  have := Ev2.each (noText p.length) ByteArray.empty (fun k m j (st : List ByteArray × List ByteArray) => i_crashed.l0 k m kept (h.length : Int) (j : Int) st.1 st.2 b) (fun j st => st.1 = mid (crashP p h kept) p j ∧ st.2 = mid (noText p.length) h j) (fun _ _ _ => (crashP p h kept, noText p.length, b)) ?_ ?_ p.length 0 (p, h) (by simp) (by simp [mid_zero])
  · exact this
  · rintro ⟨x, y⟩ ⟨rfl, rfl⟩
    refine .step ?_ fun k m => i_crashed.l0_s k m _ _ _ _ _ _
    simp (disch := omega) only [Int.toNat_natCast, decide_eq_true, decide_eq_false, Bool.not_true, Bool.not_false, Bool.true_and, Bool.false_and, Bool.and_true, Bool.and_false, cn_t, cn_f, gd_t, inb_nat, wrap_succ, Option.bind_some, both_self, dup_eq, ln]
    rw [mid_all (by omega) (by omega), mid_all (by simp) (by simp; omega)]
    exact .const fun _ _ => rfl
  · rintro j x l ⟨y, z⟩ _ hj hx ⟨rfl, rfl⟩ ih
    have hj : j < p.length := by simpa using hj
    have l1 : (mid (crashP p h kept) p j).length = p.length := by rw [mid_len j (by omega), lc]
    have l2 : (mid (noText p.length) h j).length = p.length := by rw [mid_len j (by simp; omega)]; simp
    have s2 : (mid (noText p.length) h j).set j ByteArray.empty = mid (noText p.length) h (j + 1) := mid_set (d := ByteArray.empty) (by simp; omega) (by simpa using hj) (getAt_replicate _ _ _).symm
    have g2 : getAt ByteArray.empty (mid (noText p.length) h j) j = getAt ByteArray.empty h j := mid_get (by simp; omega) (by simpa using hj)
    refine .step ?_ fun k m => i_crashed.l0_s k m _ _ _ _ _ _
    simp (disch := omega) only [Int.toNat_natCast, decide_eq_true, decide_eq_false, Bool.not_true, Bool.not_false, Bool.true_and, Bool.false_and, Bool.and_true, Bool.and_false, cn_t, cn_f, gd_t, inb_nat, wrap_succ, Option.bind_some, both_self, dup_eq]
    refine .bind (b_Contains_int.ev kept j hk) ?_
    by_cases hm : (j : Int) ∈ kept
    · simp (disch := omega) only [Int.toNat_natCast, decide_eq_true, decide_eq_false, Bool.not_true, Bool.not_false, Bool.true_and, Bool.false_and, Bool.and_true, Bool.and_false, cn_t, cn_f, gd_t, inb_nat, wrap_succ, Option.bind_some, both_self, dup_eq, decide_eq_true hm, s2, g2]
      refine ih (_, _) ⟨?_, rfl⟩
      exact mid_set (d := ByteArray.empty) (by omega) (by omega) (by rw [crashP_get hj, if_pos hm])
    · simp (disch := omega) only [Int.toNat_natCast, decide_eq_true, decide_eq_false, Bool.not_true, Bool.not_false, Bool.true_and, Bool.false_and, Bool.and_true, Bool.and_false, cn_t, cn_f, gd_t, inb_nat, wrap_succ, Option.bind_some, both_self, dup_eq, decide_eq_false hm, s2]
      refine ih (_, _) ⟨?_, rfl⟩
      exact mid_keep (d := ByteArray.empty) (by omega) (by omega) (by rw [crashP_get hj, if_neg hm])
theorem s_l7Crash.ev (p h : List ByteArray) (b : List Bool) (kept : List Int) (hp : p.length ≤ 1073741824) (hh : h.length = p.length) (hk : kept.length < 9223372036854775807) : Ev (fun k => s_l7Crash.f k p h b kept) (((), (), ()), crashP p h kept, noText p.length, b) := by
  refine Ev.congr ?_ fun k => s_l7Crash.f_eq k p h b kept
  refine Ev2.diag (g := fun k m => s_l7Crash.l0 k m kept (h.length : Int) 0 p h b) ?_
  have lc := crashP_len p h kept
  have ln : (noText p.length).length = p.length := by simp
  have := Ev2.each (noText p.length) ByteArray.empty (fun k m j (st : List ByteArray × List ByteArray) => s_l7Crash.l0 k m kept (h.length : Int) (j : Int) st.1 st.2 b) (fun j st => st.1 = mid (crashP p h kept) p j ∧ st.2 = mid (noText p.length) h j) (fun _ _ _ => (((), (), ()), crashP p h kept, noText p.length, b)) ?_ ?_ p.length 0 (p, h) (by simp) (by simp [mid_zero])
  · exact this
  · rintro ⟨x, y⟩ ⟨rfl, rfl⟩
    refine .step ?_ fun k m => s_l7Crash.l0_s k m _ _ _ _ _ _
    simp (disch := omega) only [Int.toNat_natCast, decide_eq_true, decide_eq_false, Bool.not_true, Bool.not_false, Bool.true_and, Bool.false_and, Bool.and_true, Bool.and_false, cn_t, cn_f, gd_t, inb_nat, wrap_succ, Option.bind_some, both_self, dup_eq, ln]
    rw [mid_all (by omega) (by omega), mid_all (by simp) (by simp; omega)]
    exact .const fun _ _ => rfl
  · rintro j x l ⟨y, z⟩ _ hj hx ⟨rfl, rfl⟩ ih
    have hj : j < p.length := by simpa using hj
    have l1 : (mid (crashP p h kept) p j).length = p.length := by rw [mid_len j (by omega), lc]
    have l2 : (mid (noText p.length) h j).length = p.length := by rw [mid_len j (by simp; omega)]; simp
    have s2 : (mid (noText p.length) h j).set j ByteArray.empty = mid (noText p.length) h (j + 1) := mid_set (d := ByteArray.empty) (by simp; omega) (by simpa using hj) (getAt_replicate _ _ _).symm
    have g2 : getAt ByteArray.empty (mid (noText p.length) h j) j = getAt ByteArray.empty h j := mid_get (by simp; omega) (by simpa using hj)
    refine .step ?_ fun k m => s_l7Crash.l0_s k m _ _ _ _ _ _
    simp (disch := omega) only [Int.toNat_natCast, decide_eq_true, decide_eq_false, Bool.not_true, Bool.not_false, Bool.true_and, Bool.false_and, Bool.and_true, Bool.and_false, cn_t, cn_f, gd_t, inb_nat, wrap_succ, Option.bind_some, both_self, dup_eq]
    refine .bind (s_l1Has.ev kept j hk) ?_
    by_cases hm : (j : Int) ∈ kept
    · simp (disch := omega) only [Int.toNat_natCast, decide_eq_true, decide_eq_false, Bool.not_true, Bool.not_false, Bool.true_and, Bool.false_and, Bool.and_true, Bool.and_false, cn_t, cn_f, gd_t, inb_nat, wrap_succ, Option.bind_some, both_self, dup_eq, decide_eq_true hm, s2, g2]
      refine ih (_, _) ⟨?_, rfl⟩
      exact mid_set (d := ByteArray.empty) (by omega) (by omega) (by rw [crashP_get hj, if_pos hm])
    · simp (disch := omega) only [Int.toNat_natCast, decide_eq_true, decide_eq_false, Bool.not_true, Bool.not_false, Bool.true_and, Bool.false_and, Bool.and_true, Bool.and_false, cn_t, cn_f, gd_t, inb_nat, wrap_succ, Option.bind_some, both_self, dup_eq, decide_eq_false hm, s2]
      refine ih (_, _) ⟨?_, rfl⟩
      exact mid_keep (d := ByteArray.empty) (by omega) (by omega) (by rw [crashP_get hj, if_neg hm])
theorem gdAll_iff {p h : List ByteArray} {b : List Bool} : ∀ {n j : Nat}, gdAll p h b n j = true ↔ ∀ i, j ≤ i → i < j + n → (getAt ByteArray.empty p i).size ≤ 28 ∧ (getAt ByteArray.empty h i).size ≤ 28 ∧ (getAt false b i = true → getAt ByteArray.empty h i = ByteArray.empty)
  | 0, j => by simp [gdAll]; intro i h1 h2; omega
  | n + 1, j => by
    have ih := gdAll_iff (p := p) (h := h) (b := b) (n := n) (j := j + 1)
    have hs : (∀ i, j ≤ i → i < j + (n + 1) → (getAt ByteArray.empty p i).size ≤ 28 ∧ (getAt ByteArray.empty h i).size ≤ 28 ∧ (getAt false b i = true → getAt ByteArray.empty h i = ByteArray.empty)) ↔
        ((getAt ByteArray.empty p j).size ≤ 28 ∧ (getAt ByteArray.empty h j).size ≤ 28 ∧ (getAt false b j = true → getAt ByteArray.empty h j = ByteArray.empty)) ∧ ∀ i, j + 1 ≤ i → i < j + 1 + n → (getAt ByteArray.empty p i).size ≤ 28 ∧ (getAt ByteArray.empty h i).size ≤ 28 ∧ (getAt false b i = true → getAt ByteArray.empty h i = ByteArray.empty) := by
      constructor
      · exact fun H => ⟨H j (by omega) (by omega), fun i h1 h2 => H i (by omega) (by omega)⟩
      · rintro ⟨h0, H⟩ i h1 h2
        rcases Nat.lt_or_ge j i with h3 | h3
        · exact H i (by omega) (by omega)
        · obtain rfl : i = j := by omega
          exact h0
    rw [hs, gdAll_s, ← ih]
    by_cases h1 : (28 : Int) < ((getAt ByteArray.empty p j).size : Int)
    · rw [if_pos h1]; constructor
      · intro h; cases h
      · rintro ⟨⟨h, _⟩, _⟩; omega
    rw [if_neg h1]
    by_cases h2 : (28 : Int) < ((getAt ByteArray.empty h j).size : Int)
    · rw [if_pos h2]; constructor
      · intro h; cases h
      · rintro ⟨⟨_, h, _⟩, _⟩; omega
    rw [if_neg h2]
    have e : ((getAt ByteArray.empty h j).toList = ByteArray.empty.toList) = (getAt ByteArray.empty h j = ByteArray.empty) := propext byteArray_toList_eq
    cases hb : getAt false b j with
    | false =>
      rw [if_neg (by decide)]; constructor
      · exact fun H => ⟨⟨by omega, by omega, fun h => by cases h⟩, H⟩
      · exact fun H => H.2
    | true =>
      rw [if_pos rfl]
      by_cases h3 : getAt ByteArray.empty h j = ByteArray.empty
      · rw [if_pos (by rw [e]; exact h3)]; constructor
        · exact fun H => ⟨⟨by omega, by omega, fun _ => h3⟩, H⟩
        · exact fun H => H.2
      · rw [if_neg (by rw [e]; exact h3)]; constructor
        · intro h; cases h
        · rintro ⟨⟨_, _, h⟩, _⟩; exact absurd (h rfl) h3
theorem goodD_iff {p h : List ByteArray} {b : List Bool} : goodD p h b = true ↔ (1 ≤ p.length ∧ p.length ≤ 24 ∧ h.length = p.length ∧ b.length = p.length) ∧ ∀ i, i < p.length → (getAt ByteArray.empty p i).size ≤ 28 ∧ (getAt ByteArray.empty h i).size ≤ 28 ∧ (getAt false b i = true → getAt ByteArray.empty h i = ByteArray.empty) := by
  unfold goodD
  rw [Bool.and_eq_true, decide_eq_true_iff, gdAll_iff]
  simp
theorem goodD_crash {p h : List ByteArray} {b : List Bool} (g : goodD p h b = true) (kept : List Int) : goodD (crashP p h kept) (noText p.length) b = true := by
  obtain ⟨⟨g1, g2, g3, g4⟩, g5⟩ := goodD_iff.1 g
  refine goodD_iff.2 ⟨⟨by rw [crashP_len]; omega, by rw [crashP_len]; omega, by rw [crashP_len]; simp, by rw [crashP_len]; omega⟩, fun i hi => ?_⟩
  rw [crashP_len] at hi
  rw [crashP_get hi, getAt_replicate]
  obtain ⟨h1, h2, h3⟩ := g5 i hi
  refine ⟨?_, by decide, fun _ => rfl⟩
  split <;> assumption
/-! ### States -/
def isSt (v : List Int) : Bool := v.all (fun x => decide (0 ≤ x ∧ x ≤ 65535)) && decide (v.length = 6)
/-! ### Frames, read back -/
theorem u8_wrap (n : Int) : IntKind.u8.wrap n = n % 256 := by unfold IntKind.wrap; simp [IntKind.bits, IntKind.signed]
theorem fdiv256 (n : Int) : n.fdiv ((2 : Int) ^ (8 : Nat)) = n / 256 := by rw [Int.fdiv_eq_ediv_of_nonneg _ (by decide)]; rfl
theorem num_get (xs : List Int) (i : Nat) (h : i < xs.length) (h0 : 0 ≤ getAt 0 xs i) (h1 : getAt 0 xs i < 256) : (((strOfNums xs).data.getD i 0).toNat : Int) = getAt 0 xs i := by
  rw [getAt_lt h] at h0 h1 ⊢
  have : (strOfNums xs).data.getD i 0 = UInt8.ofNat xs[i].toNat := by
    unfold strOfNums
    rw [Array.getD_eq_getD_getElem?]
    simp [h]
  rw [this, UInt8.toNat_ofNat']
  omega
theorem or2 (a b : Nat) (ha : a < 256) (hb : b < 256) : IntKind.i64.wrap (↑(BitVec.ofInt (64 : Nat) (IntKind.i64.wrap ((a : Int) * (2 : Int) ^ (8 : Nat))) ||| BitVec.ofInt (64 : Nat) (b : Int)).toNat : Int) = ((a * 256 + b : Nat) : Int) := by
  have e : IntKind.i64.wrap ((a : Int) * (2 : Int) ^ (8 : Nat)) = ((a <<< 8 : Nat) : Int) := by
    rw [Nat.shiftLeft_eq, wrap_eq (by omega) (by omega)]; norm_cast
  have hs : a <<< 8 = a * 256 := Nat.shiftLeft_eq a 8
  rw [e, BitVec.ofInt_natCast, BitVec.ofInt_natCast, BitVec.toNat_or, BitVec.toNat_ofNat, BitVec.toNat_ofNat, Nat.mod_eq_of_lt (by omega), Nat.mod_eq_of_lt (by omega), ← Nat.shiftLeft_add_eq_or_of_lt (by omega : b < 2 ^ 8), hs, wrap_eq (by omega) (by omega)]
theorem ext_left (a b : ByteArray) (n : Nat) (h : n = a.size) : (a ++ b).extract 0 n = a := by
  subst h; exact ByteArray.extract_append_eq_left rfl
theorem ext_right (a b : ByteArray) (n : Nat) (h : n = a.size) : (a ++ b).extract n (a ++ b).size = b := by
  subst h; exact ByteArray.extract_append_eq_right rfl (by rw [ByteArray.size_append])
theorem bytes_back (l : List Int) (h : ∀ x ∈ l, 0 ≤ x ∧ x < 256) : bytesL (strOfNums l) = l := by
  unfold bytesL
  rw [strOfNums_data, List.map_map]
  conv => rhs; rw [← List.map_id l]
  refine List.map_congr_left fun x hx => ?_
  obtain ⟨h0, h1⟩ := h x hx
  simp only [Function.comp, UInt8.toNat_ofNat', id]
  omega
/-! ### What is held -/
def heldFrom : List ByteArray → Nat → List Int
  | [], _ => []
  | t :: l, j => if t = ByteArray.empty then heldFrom l (j + 1) else (j : Int) :: heldFrom l (j + 1)
def heldL (h : List ByteArray) : List Int := heldFrom h 0
theorem heldFrom_len : ∀ (l : List ByteArray) (j : Nat), (heldFrom l j).length ≤ l.length
  | [], _ => Nat.le_refl _
  | t :: l, j => by
    have := heldFrom_len l (j + 1)
    unfold heldFrom
    split <;> simp <;> omega
theorem heldFrom_mem : ∀ {l : List ByteArray} {j : Nat} {v : Int}, v ∈ heldFrom l j ↔ ∃ i : Nat, i < l.length ∧ v = ((j + i : Nat) : Int) ∧ getAt ByteArray.empty l i ≠ ByteArray.empty
  | [], j, v => by simp [heldFrom]
  | t :: l, j, v => by
    have ih := heldFrom_mem (l := l) (j := j + 1) (v := v)
    have key : (∃ i : Nat, i < (t :: l).length ∧ v = ((j + i : Nat) : Int) ∧ getAt ByteArray.empty (t :: l) i ≠ ByteArray.empty) ↔ (v = (j : Int) ∧ t ≠ ByteArray.empty) ∨ ∃ i : Nat, i < l.length ∧ v = ((j + 1 + i : Nat) : Int) ∧ getAt ByteArray.empty l i ≠ ByteArray.empty := by
      constructor
      · rintro ⟨i, h1, h2, h3⟩
        cases i with
        | zero => exact .inl ⟨by omega, h3⟩
        | succ i => exact .inr ⟨i, by simp at h1; omega, by omega, h3⟩
      · rintro (⟨h1, h2⟩ | ⟨i, h1, h2, h3⟩)
        · exact ⟨0, by simp, by omega, h2⟩
        · exact ⟨i + 1, by simp; omega, by omega, h3⟩
    rw [key]
    unfold heldFrom
    by_cases ht : t = ByteArray.empty
    · rw [if_pos ht, ih]
      exact ⟨fun h => .inr h, fun h => h.resolve_left fun h => h.2 ht⟩
    · rw [if_neg ht, List.mem_cons, ih]
      exact ⟨fun h => h.imp (fun h => ⟨h, ht⟩) id, fun h => h.imp (fun h => h.1) id⟩
theorem heldL_mem {h : List ByteArray} {v : Int} : v ∈ heldL h ↔ 0 ≤ v ∧ v < (h.length : Int) ∧ getAt ByteArray.empty h v.toNat ≠ ByteArray.empty := by
  unfold heldL
  rw [heldFrom_mem]
  constructor
  · rintro ⟨i, h1, h2, h3⟩
    exact ⟨by omega, by omega, by rw [h2]; simpa using h3⟩
  · rintro ⟨h1, h2, h3⟩
    exact ⟨v.toNat, by omega, by omega, h3⟩
theorem empty_iff (t : ByteArray) : (t.toList = ByteArray.empty.toList) ↔ t = ByteArray.empty := byteArray_toList_eq
theorem i_heldIn.ev (p h : List ByteArray) (b : List Bool) (hh : h.length ≤ 1048576) : Ev (fun k => i_heldIn.f k p h b) (heldL h) := by
  refine Ev.congr ?_ fun k => i_heldIn.f_eq k p h b
  refine Ev2.diag (g := fun k m => i_heldIn.l0 k m h (h.length : Int) 0 []) ?_
  have := Ev2.each h ByteArray.empty (fun k m j (st : List Int) => i_heldIn.l0 k m h (h.length : Int) (j : Int) st) (fun j st => st.length ≤ j) (fun l j st => st ++ heldFrom l j) ?_ ?_ h.length 0 [] (by simp) (by simp)
  · exact this
  · intro st _
    refine .step ?_ fun k m => i_heldIn.l0_s k m _ _ _ _
    simp (disch := omega) only [Int.toNat_natCast, decide_eq_true, decide_eq_false, Bool.not_true, Bool.not_false, Bool.true_and, Bool.false_and, Bool.and_true, Bool.and_false, cn_t, cn_f, gd_t, inb_nat, wrap_succ, Option.bind_some, both_self, dup_eq, heldFrom, List.append_nil]
    exact .const fun _ _ => rfl
  · intro j t l st _ hj ht hst ih
    refine .step ?_ fun k m => i_heldIn.l0_s k m _ _ _ _
    simp (disch := omega) only [Int.toNat_natCast, decide_eq_true, decide_eq_false, Bool.not_true, Bool.not_false, Bool.true_and, Bool.false_and, Bool.and_true, Bool.and_false, cn_t, cn_f, gd_t, inb_nat, wrap_succ, Option.bind_some, both_self, dup_eq, ht]
    by_cases he : t = ByteArray.empty
    · rw [show heldFrom (t :: l) j = heldFrom l (j + 1) by rw [heldFrom, if_pos he]]
      simp only [cnNT ((empty_iff t).2 he)]
      exact ih st (by omega)
    · rw [show heldFrom (t :: l) j = (j : Int) :: heldFrom l (j + 1) by rw [heldFrom, if_neg he]]
      simp only [cnNF (fun h => he ((empty_iff t).1 h)), appOk_le bytes_int (show st.length + [(j : Int)].length ≤ 1073741824 by simp; omega), gd_t]
      have := ih (st ++ [(j : Int)]) (by simp; omega)
      rwa [List.append_assoc] at this
theorem s_l7Held.ev (p h : List ByteArray) (b : List Bool) (hh : h.length ≤ 1048576) : Ev (fun k => s_l7Held.f k p h b) (heldL h) := by
  refine Ev.congr ?_ fun k => s_l7Held.f_eq k p h b
  refine Ev2.diag (g := fun k m => s_l7Held.l0 k m h (h.length : Int) 0 []) ?_
  have := Ev2.each h ByteArray.empty (fun k m j (st : List Int) => s_l7Held.l0 k m h (h.length : Int) (j : Int) st) (fun j st => st.length ≤ j) (fun l j st => st ++ heldFrom l j) ?_ ?_ h.length 0 [] (by simp) (by simp)
  · exact this
  · intro st _
    refine .step ?_ fun k m => s_l7Held.l0_s k m _ _ _ _
    simp (disch := omega) only [Int.toNat_natCast, decide_eq_true, decide_eq_false, Bool.not_true, Bool.not_false, Bool.true_and, Bool.false_and, Bool.and_true, Bool.and_false, cn_t, cn_f, gd_t, inb_nat, wrap_succ, Option.bind_some, both_self, dup_eq, heldFrom, List.append_nil]
    exact .const fun _ _ => rfl
  · intro j t l st _ hj ht hst ih
    refine .step ?_ fun k m => s_l7Held.l0_s k m _ _ _ _
    simp (disch := omega) only [Int.toNat_natCast, decide_eq_true, decide_eq_false, Bool.not_true, Bool.not_false, Bool.true_and, Bool.false_and, Bool.and_true, Bool.and_false, cn_t, cn_f, gd_t, inb_nat, wrap_succ, Option.bind_some, both_self, dup_eq, ht]
    by_cases he : t = ByteArray.empty
    · rw [show heldFrom (t :: l) j = heldFrom l (j + 1) by rw [heldFrom, if_pos he]]
      simp only [cnNT ((empty_iff t).2 he)]
      exact ih st (by omega)
    · rw [show heldFrom (t :: l) j = (j : Int) :: heldFrom l (j + 1) by rw [heldFrom, if_neg he]]
      simp only [cnNF (fun h => he ((empty_iff t).1 h)), appOk_le bytes_int (show st.length + [(j : Int)].length ≤ 1073741824 by simp; omega), gd_t]
      have := ih (st ++ [(j : Int)]) (by simp; omega)
      rwa [List.append_assoc] at this
/-! ### Numbers that rise -/
/-- They rise from u on, and p holds of each. -/
def rs (p : Int → Bool) : Option Int → List Int → Bool
  | _, [] => true
  | u, v :: l => p v && (match u with | none => true | some u => decide (u < v)) && rs p (some v) l
theorem rs_and (p q : Int → Bool) : ∀ (l : List Int) (u : Option Int), rs (fun v => p v && q v) u l = (rs p u l && l.all q)
  | [], _ => rfl
  | v :: l, u => by
    simp only [rs, List.all_cons, rs_and p q l]
    cases p v <;> cases q v <;> cases rs p (some v) l <;> cases l.all q <;> simp
theorem rs_congr {p q : Int → Bool} (h : ∀ v, p v = q v) (u : Option Int) (l : List Int) : rs p u l = rs q u l := by
  rw [show p = q from funext h]
def prevA (s : List Int) (j : Nat) : Option Int := match j with | 0 => none | i + 1 => some (getAt 0 s i)
theorem i_isRising.ev (s : List Int) (b : Int) (hs : s.length < 9223372036854775807) (h0 : 0 ≤ b) (h1 : b ≤ 1048576) : Ev (fun k => i_isRising.f k s b) (rs (fun v => decide (0 ≤ v ∧ v ≤ b - 1)) none s) := by
  refine Ev.congr ?_ fun k => i_isRising.f_eq k s b
  refine Ev2.diag (g := fun k m => i_isRising.l0 k m s b s (s.length : Int) 0) ?_
  refine Ev2.look s 0 (fun k m j => i_isRising.l0 k m s b s (s.length : Int) (j : Int)) (fun l j => rs (fun v => decide (0 ≤ v ∧ v ≤ b - 1)) (prevA s j) l) ?_ ?_
  · refine .step ?_ fun k m => i_isRising.l0_s k m _ _ _ _ _
    simp (disch := omega) only [Int.toNat_natCast, decide_eq_true, decide_eq_false, Bool.not_true, Bool.not_false, Bool.true_and, Bool.false_and, Bool.and_true, Bool.and_false, cn_t, cn_f, gd_t, inb_nat, wrap_succ, Option.bind_some, both_self, dup_eq, rs]
    exact .const fun _ _ => rfl
  · intro j v l _ hj hv ih
    refine .step ?_ fun k m => i_isRising.l0_s k m _ _ _ _ _
    simp (disch := omega) only [Int.toNat_natCast, decide_eq_true, decide_eq_false, Bool.not_true, Bool.not_false, Bool.true_and, Bool.false_and, Bool.and_true, Bool.and_false, cn_t, cn_f, gd_t, inb_nat, wrap_succ, Option.bind_some, both_self, dup_eq, hv, i_within.eq, show IntKind.i64.wrap (b - 1) = b - 1 from wrap_eq (by omega) (by omega)]
    by_cases hr : 0 ≤ v ∧ v ≤ b - 1
    · simp only [decide_eq_true hr, Bool.not_true, cn_f, rs, Bool.true_and]
      cases j with
      | zero =>
        simp only [cnF (show ¬ (0 : Int) < ((0 : Nat) : Int) by omega), prevA, Bool.true_and]
        have : prevA s (0 + 1) = some v := by rw [← hv]; rfl
        rw [this] at ih
        exact ih
      | succ i =>
        have e : IntKind.i64.wrap (((i + 1 : Nat) : Int) - 1) = (i : Int) := by rw [wrap_eq (by omega) (by omega)]; omega
        simp only [cnT (show (0 : Int) < ((i + 1 : Nat) : Int) by omega), e, inb_nat (show i < s.length by omega), gd_t, Int.toNat_natCast, prevA]
        have : prevA s (i + 1 + 1) = some v := by rw [← hv]; rfl
        rw [this] at ih
        by_cases hlt : v ≤ getAt 0 s i
        · simp only [cnT hlt, decide_eq_false (show ¬ getAt 0 s i < v by omega), Bool.false_and]
          exact .const fun _ _ => rfl
        · simp only [cnF hlt, decide_eq_true (show getAt 0 s i < v by omega), Bool.true_and]
          exact ih
    · simp only [decide_eq_false hr, Bool.not_false, cn_t, rs, Bool.false_and]
      exact .const fun _ _ => rfl
def keptOk (h : List ByteArray) (kept : List Int) : Bool := rs (fun v => decide (v ∈ heldL h)) none kept
theorem s_l7Kept.ev (p h : List ByteArray) (b : List Bool) (s : List Int) (hh : h.length ≤ 1048576) (hs : s.length < 9223372036854775807) : Ev (fun k => s_l7Kept.f k p h b s) (keptOk h s) := by
  refine Ev.congr ?_ fun k => s_l7Kept.f_eq k p h b s
  refine Ev.bind (s_l7Held.ev p h b hh) ?_
  have hl : (heldL h).length < 9223372036854775807 := by have := heldFrom_len h 0; unfold heldL; omega
  unfold keptOk
  generalize heldL h = H at hl ⊢
  refine Ev2.diag (g := fun k m => s_l7Kept.l0 k m s s (s.length : Int) 0 H) ?_
  refine Ev2.look s 0 (fun k m j => s_l7Kept.l0 k m s s (s.length : Int) (j : Int) H) (fun l j => rs (fun v => decide (v ∈ H)) (prevA s j) l) ?_ ?_
  · refine .step ?_ fun k m => s_l7Kept.l0_s k m _ _ _ _ _
    simp (disch := omega) only [Int.toNat_natCast, decide_eq_true, decide_eq_false, Bool.not_true, Bool.not_false, Bool.true_and, Bool.false_and, Bool.and_true, Bool.and_false, cn_t, cn_f, gd_t, inb_nat, wrap_succ, Option.bind_some, both_self, dup_eq, rs]
    exact .const fun _ _ => rfl
  · intro j v l _ hj hv ih
    refine .step ?_ fun k m => s_l7Kept.l0_s k m _ _ _ _ _
    simp (disch := omega) only [Int.toNat_natCast, decide_eq_true, decide_eq_false, Bool.not_true, Bool.not_false, Bool.true_and, Bool.false_and, Bool.and_true, Bool.and_false, cn_t, cn_f, gd_t, inb_nat, wrap_succ, Option.bind_some, both_self, dup_eq, hv]
    refine .bind (s_l1Has.ev H v hl) ?_
    by_cases hr : v ∈ H
    · simp only [decide_eq_true hr, Bool.not_true, cn_f, rs, Bool.true_and]
      cases j with
      | zero =>
        simp only [cnF (show ¬ (0 : Int) < ((0 : Nat) : Int) by omega), prevA, Bool.true_and]
        have : prevA s (0 + 1) = some v := by rw [← hv]; rfl
        rw [this] at ih
        exact ih
      | succ i =>
        have e : IntKind.i64.wrap (((i + 1 : Nat) : Int) - 1) = (i : Int) := by rw [wrap_eq (by omega) (by omega)]; omega
        simp only [cnT (show (0 : Int) < ((i + 1 : Nat) : Int) by omega), e, inb_nat (show i < s.length by omega), gd_t, Int.toNat_natCast, prevA]
        have : prevA s (i + 1 + 1) = some v := by rw [← hv]; rfl
        rw [this] at ih
        by_cases hlt : v ≤ getAt 0 s i
        · simp only [cnT hlt, decide_eq_false (show ¬ getAt 0 s i < v by omega), Bool.false_and]
          exact .const fun _ _ => rfl
        · simp only [cnF hlt, decide_eq_true (show getAt 0 s i < v by omega), Bool.true_and]
          exact ih
    · simp only [decide_eq_false hr, Bool.not_false, cn_t, rs, Bool.false_and]
      exact .const fun _ _ => rfl
theorem b_IndexFunc_int__i_areHeld_1.ev (s : List Int) (p h : List ByteArray) (b : List Bool) (hs : s.length < 9223372036854775807) (hr : ∀ v ∈ s, 0 ≤ v ∧ v < (h.length : Int)) : Ev (fun k => b_IndexFunc_int__i_areHeld_1.f k s p h b) (fidx (fun v => decide (getAt ByteArray.empty h v.toNat = ByteArray.empty)) s 0, p, h, b) := by
  refine Ev.congr ?_ fun k => b_IndexFunc_int__i_areHeld_1.f_eq k s p h b
  refine Ev2.diag (g := fun k m => b_IndexFunc_int__i_areHeld_1.l0 k m s (s.length : Int) 0 p h b) ?_
  refine Ev2.look s 0 (fun k m j => b_IndexFunc_int__i_areHeld_1.l0 k m s (s.length : Int) (j : Int) p h b) (fun l j => (fidx (fun v => decide (getAt ByteArray.empty h v.toNat = ByteArray.empty)) l j, p, h, b)) ?_ ?_
  · refine .step ?_ fun k m => b_IndexFunc_int__i_areHeld_1.l0_s k m _ _ _ _ _ _
    simp (disch := omega) only [Int.toNat_natCast, decide_eq_true, decide_eq_false, Bool.not_true, Bool.not_false, Bool.true_and, Bool.false_and, Bool.and_true, Bool.and_false, cn_t, cn_f, gd_t, inb_nat, wrap_succ, Option.bind_some, both_self, dup_eq, fidx]
    exact .const fun _ _ => rfl
  · intro j v l hd hj hv ih
    have hm : v ∈ s := List.mem_of_mem_drop (by rw [hd]; exact List.mem_cons_self)
    obtain ⟨v0, v1⟩ := hr v hm
    have hib : inb v h.length = true := by
      have := inb_nat (show v.toNat < h.length by omega)
      rwa [show ((v.toNat : Nat) : Int) = v by omega] at this
    refine .step ?_ fun k m => b_IndexFunc_int__i_areHeld_1.l0_s k m _ _ _ _ _ _
    simp (disch := omega) only [Int.toNat_natCast, decide_eq_true, decide_eq_false, Bool.not_true, Bool.not_false, Bool.true_and, Bool.false_and, Bool.and_true, Bool.and_false, cn_t, cn_f, gd_t, inb_nat, wrap_succ, Option.bind_some, both_self, dup_eq, hv, i_areHeld_1.f_eq, hib, fidx]
    by_cases he : getAt ByteArray.empty h v.toNat = ByteArray.empty
    · simp only [decide_eq_true he, cnT ((empty_iff _).2 he)]
      exact .const fun _ _ => rfl
    · simp only [decide_eq_false he, cnF (fun h => he ((empty_iff _).1 h))]
      exact ih
theorem i_areHeld.ev (p h : List ByteArray) (b : List Bool) (s : List Int) (hp : p.length ≤ 1048576) (hh : h.length = p.length) (hs : s.length < 9223372036854775807) : Ev (fun k => i_areHeld.f k p h b s) (keptOk h s) := by
  refine Ev.congr ?_ fun k => i_areHeld.f_eq k p h b s
  refine Ev.bind (i_isRising.ev s (p.length : Int) hs (by omega) (by omega)) ?_
  have e : keptOk h s = (rs (fun v => decide (0 ≤ v ∧ v ≤ (p.length : Int) - 1)) none s && s.all fun v => !decide (getAt ByteArray.empty h v.toNat = ByteArray.empty)) := by
    rw [← rs_and]
    refine rs_congr (fun v => ?_) _ _
    rw [Bool.eq_iff_iff, decide_eq_true_iff, heldL_mem, Bool.and_eq_true, decide_eq_true_iff, Bool.not_eq_true', decide_eq_false_iff_not]
    constructor
    · rintro ⟨a, b, c⟩; exact ⟨⟨a, by omega⟩, c⟩
    · rintro ⟨⟨a, b⟩, c⟩; exact ⟨a, by omega, c⟩
  rw [e]
  cases hr : rs (fun v => decide (0 ≤ v ∧ v ≤ (p.length : Int) - 1)) none s with
  | false => exact .const fun _ => rfl
  | true =>
    have hb : ∀ (l : List Int) (u : Option Int), rs (fun v => decide (0 ≤ v ∧ v ≤ (p.length : Int) - 1)) u l = true → ∀ v ∈ l, 0 ≤ v ∧ v < (h.length : Int) := by
      intro l
      induction l with
      | nil => intro u _ v hv; cases hv
      | cons w l ih =>
        intro u hu v hv
        simp only [rs, Bool.and_eq_true] at hu
        rcases List.mem_cons.1 hv with rfl | hv
        · have := of_decide_eq_true hu.1.1; omega
        · exact ih _ hu.2 v hv
    simp only [cn_t, Bool.true_and]
    refine Ev.bind (Ev.congr (Ev.bind (b_IndexFunc_int__i_areHeld_1.ev s p h b hs (hb s none hr)) (.const fun _ => rfl)) fun k => b_ContainsFunc_int__i_areHeld_1.f_eq k s p h b) ?_
    rw [fidx_any]
    refine .const fun _ => ?_
    rw [List.not_any_eq_all_not]
/-! ### The law's own, of journals -/
/-- The mark's text. -/
noncomputable def mt (v : Nat) : ByteArray := @dite _ (∃ t, Ev (fun k => w_markText.f k (v : Int)) t) (Classical.propDecidable _) (fun h => Classical.choose h) (fun _ => ByteArray.empty)
theorem mt_ev (v : Nat) (hv : v ≤ 140737488355327) : Ev (fun k => w_markText.f k (v : Int)) (mt v) := by
  have h := w_markText.ev v hv
  unfold mt
  rw [dif_pos h]
  exact Classical.choose_spec h
noncomputable def mks (s n : Nat) : List ByteArray := (List.range n).map fun i => mt (s + i)
theorem mks_len (s n : Nat) : (mks s n).length = n := by simp [mks]
theorem w_markStringS.loop2 (s len : Nat) (hs : s + len ≤ 140737488355327) : ∀ (n j : Nat) (h : List ByteArray), j + n = len → h.length = len → h.take j = mks s j → ∃ K, ∀ k m, K ≤ k → n < m → w_markStringS.l0 k m ((s + j : Nat) : Int) j h = some (((s + len : Nat) : Int), mks s len) := by
  intro n
  induction n with
  | zero =>
    intro j h hj hl hh
    refine ⟨0, fun k m _ hm => ?_⟩
    obtain ⟨m, rfl⟩ : ∃ m', m = m' + 1 := ⟨m - 1, by omega⟩
    rw [List.take_of_length_le (by omega)] at hh
    rw [w_markStringS.l0_s, cnF (by omega), hh, show j = len by omega]
  | succ n ih =>
    intro j h hj hl hh
    obtain ⟨K1, hx⟩ := mt_ev (s + j) (by omega)
    have hx : ∀ k, K1 ≤ k → w_markText.f k ((s + j : Nat) : Int) = some (mt (s + j)) := hx
    obtain ⟨K, ht⟩ := ih (j + 1) (h.set j (mt (s + j))) (by omega) (by simpa using hl) (by
      rw [List.take_succ_eq_append_getElem (by simp; omega), List.getElem_set_self, List.take_set_of_le (Nat.le_refl j), hh]
      unfold mks
      rw [List.range_succ, List.map_append]; rfl)
    refine ⟨max K K1, fun k m hk hm => ?_⟩
    obtain ⟨m, rfl⟩ : ∃ m', m = m' + 1 := ⟨m - 1, by omega⟩
    rw [w_markStringS.l0_s, cnT (by omega), hx k (by omega)]
    simp only [Option.bind_some]
    rw [inb_nat (by omega), gd_t, wrap_succ (by omega), wrap_succ (by omega), Int.toNat_natCast]
    exact ht k m (by omega) (by omega)
theorem w_markStringS.ev2 (a : List ByteArray) (s : Nat) (hs : s + a.length ≤ 140737488355327) : Ev (fun k => w_markStringS.f k a (s : Int)) (((s + a.length : Nat) : Int), mks s a.length) := by
  obtain ⟨K, ht⟩ := w_markStringS.loop2 s a.length hs a.length 0 a (by omega) rfl (by simp [mks])
  exact .of (max K (a.length + 1)) fun k hk => by
    show w_markStringS.f k a s = _
    rw [w_markStringS.f_eq]
    exact ht k k (by omega) (by omega)
theorem w_heldStringS.loop (s len : Nat) (hs : s + len ≤ 140737488355327) : ∀ (n j : Nat), j + n = len → ∃ K, ∀ k m, K ≤ k → n < m → w_heldStringS.l0 k m (mks s len) ((s + j : Nat) : Int) j = some ((s + len : Nat) : Int) := by
  have hl := mks_len s len
  intro n
  induction n with
  | zero =>
    intro j hj
    refine ⟨0, fun k m _ hm => ?_⟩
    obtain ⟨m, rfl⟩ : ∃ m', m = m' + 1 := ⟨m - 1, by omega⟩
    rw [w_heldStringS.l0_s, cnF (by omega), show j = len by omega]
  | succ n ih =>
    intro j hj
    obtain ⟨K1, hx⟩ := mt_ev (s + j) (by omega)
    have hx : ∀ k, K1 ≤ k → w_markText.f k ((s + j : Nat) : Int) = some (mt (s + j)) := hx
    obtain ⟨K, ht⟩ := ih (j + 1) (by omega)
    refine ⟨max K K1, fun k m hk hm => ?_⟩
    obtain ⟨m, rfl⟩ : ∃ m', m = m' + 1 := ⟨m - 1, by omega⟩
    rw [w_heldStringS.l0_s, cnT (by omega), inb_nat (by omega), gd_t, hx k (by omega), Option.bind_some, Int.toNat_natCast, cnNT (by rw [getAt_lt (by omega)]; simp [mks]), wrap_succ (by omega), wrap_succ (by omega)]
    exact ht k m (by omega) (by omega)
theorem w_heldStringS.ev (s len : Nat) (hs : s + len ≤ 140737488355327) : Ev (fun k => w_heldStringS.f k (mks s len) (s : Int)) ((s + len : Nat) : Int) := by
  obtain ⟨K, ht⟩ := w_heldStringS.loop s len hs len 0 (by omega)
  exact .of (max K (len + 1)) fun k hk => by
    show w_heldStringS.f k _ s = _
    rw [w_heldStringS.f_eq]
    exact ht k k (by omega) (by omega)
def mbs (s n : Nat) : List Bool := (List.range n).map fun i => decide (((s + i : Nat) : Int).tmod (3 : Int) = (0 : Int))
theorem mbs_len (s n : Nat) : (mbs s n).length = n := by simp [mbs]
theorem w_markBoolS.loop2 (s len : Nat) (hs : s + len ≤ 9223372036854775806) (k : Nat) : ∀ (n j : Nat) (h : List Bool) (m : Nat), j + n = len → h.length = len → h.take j = mbs s j → n < m → w_markBoolS.l0 k m ((s + j : Nat) : Int) j h = some (((s + len : Nat) : Int), mbs s len) := by
  intro n
  induction n with
  | zero =>
    intro j h m hj hl hh hm
    obtain ⟨m, rfl⟩ : ∃ m', m = m' + 1 := ⟨m - 1, by omega⟩
    rw [List.take_of_length_le (by omega)] at hh
    rw [w_markBoolS.l0_s, cnF (by omega), hh, show j = len by omega]
  | succ n ih =>
    intro j h m hj hl hh hm
    obtain ⟨m, rfl⟩ : ∃ m', m = m' + 1 := ⟨m - 1, by omega⟩
    rw [w_markBoolS.l0_s, cnT (by omega), inb_nat (by omega), gd_t, wrap_succ (by omega), wrap_succ (by omega), Int.toNat_natCast]
    refine ih (j + 1) _ m (by omega) (by simpa using hl) ?_ (by omega)
    rw [List.take_succ_eq_append_getElem (by simp; omega), List.getElem_set_self, List.take_set_of_le (Nat.le_refl j), hh]
    unfold mbs
    rw [List.range_succ, List.map_append]; rfl
theorem w_markBoolS.ev2 (a : List Bool) (s : Nat) (hs : s + a.length ≤ 9223372036854775806) : Ev (fun k => w_markBoolS.f k a (s : Int)) (((s + a.length : Nat) : Int), mbs s a.length) := .of (a.length + 1) fun k hk => by
  show w_markBoolS.f k a s = _
  rw [w_markBoolS.f_eq]
  exact w_markBoolS.loop2 s a.length hs k a.length 0 a k (by omega) rfl (by simp [mbs]) (by omega)
theorem w_heldBoolS.loop (s len : Nat) (hs : s + len ≤ 9223372036854775806) (k : Nat) : ∀ (n j m : Nat), j + n = len → n < m → w_heldBoolS.l0 k m (mbs s len) ((s + j : Nat) : Int) j = some ((s + len : Nat) : Int) := by
  have hl := mbs_len s len
  intro n
  induction n with
  | zero =>
    intro j m hj hm
    obtain ⟨m, rfl⟩ : ∃ m', m = m' + 1 := ⟨m - 1, by omega⟩
    rw [w_heldBoolS.l0_s, cnF (by omega), show j = len by omega]
  | succ n ih =>
    intro j m hj hm
    obtain ⟨m, rfl⟩ : ∃ m', m = m' + 1 := ⟨m - 1, by omega⟩
    have e : (!getAt false (mbs s len) j == decide (((s + j : Nat) : Int).tmod (3 : Int) = (0 : Int))) = false := by
      rw [getAt_lt (by omega)]
      simp only [mbs, List.getElem_map, List.getElem_range]
      cases decide (((s + j : Nat) : Int).tmod (3 : Int) = (0 : Int)) <;> rfl
    rw [w_heldBoolS.l0_s, cnT (by omega), inb_nat (by omega), gd_t, Int.toNat_natCast, e, cn_f, wrap_succ (by omega), wrap_succ (by omega)]
    exact ih (j + 1) m (by omega) (by omega)
theorem w_heldBoolS.ev (s len : Nat) (hs : s + len ≤ 9223372036854775806) : Ev (fun k => w_heldBoolS.f k (mbs s len) (s : Int)) ((s + len : Nat) : Int) := .of (len + 1) fun k hk => by
  show w_heldBoolS.f k _ s = _
  rw [w_heldBoolS.f_eq]
  exact w_heldBoolS.loop s len hs k len 0 k (by omega) (by omega)
theorem w_markDisk.ev2 (p h : List ByteArray) (b : List Bool) (s : Nat) (hs : s + p.length + h.length + b.length ≤ 140737488355327) : Ev (fun k => w_markDisk.f k p h b (s : Int)) (((s + p.length + h.length + b.length : Nat) : Int), mks s p.length, mks (s + p.length) h.length, mbs (s + p.length + h.length) b.length) := by
  refine Ev.congr ?_ (fun k => w_markDisk.f_eq k p h b s)
  refine Ev.bind (w_markStringS.ev2 p s (by omega)) ?_
  refine Ev.bind (w_markStringS.ev2 h (s + p.length) (by omega)) ?_
  refine Ev.bind (w_markBoolS.ev2 b (s + p.length + h.length) (by omega)) ?_
  exact .const fun k => rfl
theorem w_heldDisk.ev (s a b c : Nat) (hs : s + a + b + c ≤ 140737488355327) : Ev (fun k => w_heldDisk.f k (mks s a) (mks (s + a) b) (mbs (s + a + b) c) (s : Int)) ((s + a + b + c : Nat) : Int) := by
  refine Ev.congr ?_ (fun k => w_heldDisk.f_eq k _ _ _ s)
  refine Ev.bind (w_heldStringS.ev s a (by omega)) ?_
  simp only [cnF (show ¬ ((s + a : Nat) : Int) < 0 by omega)]
  refine Ev.bind (w_heldStringS.ev (s + a) b (by omega)) ?_
  simp only [cnF (show ¬ ((s + a + b : Nat) : Int) < 0 by omega)]
  refine Ev.bind (w_heldBoolS.ev (s + a + b) c (by omega)) ?_
  exact .const fun k => by rw [cnF (show ¬ ((s + a + b + c : Nat) : Int) < 0 by omega)]
/-! ### Scrubs -/
theorem w_eqScrub.ev (p h : List ByteArray) (b : List Bool) (e : List Int) (c m : Int) (hp : p.length ≤ maxLen) (hh : h.length ≤ maxLen) (hb : b.length ≤ maxLen) (he : e.length ≤ maxLen) : Ev (fun k => w_eqScrub.f k p h b e c m p h b e c m) true := by
  refine Ev.congr ?_ (fun k => w_eqScrub.f_eq k p h b e c m p h b e c m)
  refine Ev.bind (w_eqDisk.ev p h b hp hh hb) ?_
  simp only [Bool.not_true, cn_f, decide_true]
  refine Ev.bind (w_eqIntS.ev e he) ?_
  exact .const fun k => rfl
theorem w_markScrub.ev (p h : List ByteArray) (b : List Bool) (e : List Int) (c m : Int) (s : Nat) (hs : s + p.length + h.length + b.length + e.length ≤ 140737488355327) : Ev (fun k => w_markScrub.f k p h b e c m (s : Int))
    (((s + p.length + h.length + b.length + e.length : Nat) : Int), mks s p.length, mks (s + p.length) h.length, mbs (s + p.length + h.length) b.length, marks (s + p.length + h.length + b.length) e.length) := by
  refine Ev.congr ?_ (fun k => w_markScrub.f_eq k p h b e c m s)
  refine Ev.bind (w_markDisk.ev2 p h b s (by omega)) ?_
  refine Ev.bind (w_markIntS.ev e (s + p.length + h.length + b.length) (by omega)) ?_
  exact .const fun k => rfl
theorem w_heldScrub.ev (s a b c d : Nat) (cu me : Int) (hs : s + a + b + c + d ≤ 140737488355327) : Ev (fun k => w_heldScrub.f k (mks s a) (mks (s + a) b) (mbs (s + a + b) c) (marks (s + a + b + c) d) cu me (s : Int)) ((s + a + b + c + d : Nat) : Int) := by
  refine Ev.congr ?_ (fun k => w_heldScrub.f_eq k _ _ _ _ cu me s)
  refine Ev.bind (w_heldDisk.ev s a b c (by omega)) ?_
  simp only [cnF (show ¬ ((s + a + b + c : Nat) : Int) < 0 by omega)]
  refine Ev.bind (w_heldIntS.ev (s + a + b + c) d (by omega)) ?_
  exact .const fun k => by rw [cnF (show ¬ ((s + a + b + c + d : Nat) : Int) < 0 by omega)]
/-! ### The field of bytes -/
theorem bx64 {x y : Nat} (hx : x < 4294967296) (hy : y < 4294967296) : IntKind.i64.wrap (↑(BitVec.ofInt (64 : Nat) (x : Int) ^^^ BitVec.ofInt (64 : Nat) (y : Int)).toNat : Int) = ((x ^^^ y : Nat) : Int) := by
  rw [BitVec.ofInt_natCast, BitVec.ofInt_natCast, BitVec.toNat_xor, BitVec.toNat_ofNat, BitVec.toNat_ofNat, Nat.mod_eq_of_lt (by omega), Nat.mod_eq_of_lt (by omega)]
  have : x ^^^ y < 2 ^ 32 := Nat.xor_lt_two_pow hx hy
  exact wrap_eq (by omega) (by omega)
theorem ba1 {x : Nat} (hx : x < 4294967296) : IntKind.i64.wrap (↑(BitVec.ofInt (64 : Nat) (x : Int) &&& BitVec.ofInt (64 : Nat) (1 : Int)).toNat : Int) = ((x % 2 : Nat) : Int) := by
  have e : (1 : Int) = ((1 : Nat) : Int) := rfl
  rw [e, BitVec.ofInt_natCast, BitVec.ofInt_natCast, BitVec.toNat_and, BitVec.toNat_ofNat, BitVec.toNat_ofNat, Nat.mod_eq_of_lt (show x < 2 ^ 64 by omega), Nat.mod_eq_of_lt (show 1 < 2 ^ 64 by omega), Nat.and_one_is_mod]
  exact wrap_eq (by omega) (by omega)
def dbl (a : Nat) : Nat := if 256 ≤ a * 2 then (a * 2) ^^^ 285 else a * 2
def gmN : Nat → Nat → Nat → Nat → Nat
  | 0, _, _, o => o
  | n + 1, a, b, o => if b = 0 then o else gmN n (dbl a) (b / 2) (if b % 2 = 1 then o ^^^ a else o)
/-- The product of two elements. -/
def gm (a b : Nat) : Nat := gmN 8 a b 0
theorem dbl_lt {a : Nat} (h : a < 256) : dbl a < 256 := by
  have key : ∀ x, x < 256 → dbl x < 256 := by decide +kernel
  exact key a h
theorem xor_lt {a b : Nat} (ha : a < 256) (hb : b < 256) : a ^^^ b < 256 := Nat.xor_lt_two_pow (n := 8) ha hb
theorem gmN_lt : ∀ (n a b o : Nat), a < 256 → o < 256 → gmN n a b o < 256
  | 0, _, _, _, _, ho => ho
  | n + 1, a, b, o, ha, ho => by
    unfold gmN
    split
    · exact ho
    · refine gmN_lt n _ _ _ (dbl_lt ha) ?_
      split
      · exact xor_lt ho ha
      · exact ho
theorem gm_lt {a b : Nat} (h : a < 256) : gm a b < 256 := gmN_lt 8 a b 0 h (by omega)
theorem half_eq (b : Nat) : (b : Int).fdiv ((2 : Int) ^ (1 : Nat)) = ((b / 2 : Nat) : Int) := by
  rw [show ((2 : Int) ^ (1 : Nat)) = 2 from rfl, Int.fdiv_eq_ediv_of_nonneg _ (by omega)]; omega
theorem two_eq {a : Nat} (h : a < 256) : IntKind.i64.wrap ((a : Int) * (2 : Int) ^ (1 : Nat)) = ((a * 2 : Nat) : Int) := by
  rw [show ((2 : Int) ^ (1 : Nat)) = 2 from rfl, wrap_eq (by omega) (by omega)]; omega
theorem bx285 {a : Nat} (h : a < 256) : IntKind.i64.wrap (↑(BitVec.ofInt (64 : Nat) ((a * 2 : Nat) : Int) ^^^ BitVec.ofInt (64 : Nat) (285 : Int)).toNat : Int) = (((a * 2) ^^^ 285 : Nat) : Int) := bx64 (y := 285) (by omega) (by omega)
theorem i_mul.loop : ∀ (n a b o : Nat), b < 2 ^ n → b < 256 → a < 256 → o < 256 → Ev2 (fun k m => i_mul.l0 k m (a : Int) (b : Int) (o : Int)) ((gmN n a b o : Nat) : Int) := by
  intro n
  induction n with
  | zero =>
    intro a b o hb _ ha ho
    refine .step ?_ fun k m => i_mul.l0_s k m _ _ _
    simp only [cnF (show ¬ (0 : Int) < (b : Int) by omega)]
    exact .const fun _ _ => rfl
  | succ n ih =>
    intro a b o hb hb2 ha ho
    refine .step ?_ fun k m => i_mul.l0_s k m _ _ _
    unfold gmN
    by_cases h0 : b = 0
    · rw [if_pos h0]
      simp only [cnF (show ¬ (0 : Int) < (b : Int) by omega)]
      exact .const fun _ _ => rfl
    rw [if_neg h0]
    have hb3 : b / 2 < 2 ^ n := by rw [Nat.pow_succ] at hb; omega
    simp only [cnT (show (0 : Int) < (b : Int) by omega), ba1 (show b < 4294967296 by omega), two_eq ha, half_eq, bx285 ha, bx64 (show o < 4294967296 by omega) (show a < 4294967296 by omega)]
    have ih1 := ih (dbl a) (b / 2) (o ^^^ a) hb3 (by omega) (dbl_lt ha) (xor_lt ho ha)
    have ih2 := ih (dbl a) (b / 2) o hb3 (by omega) (dbl_lt ha) ho
    unfold dbl at ih1 ih2 ⊢
    by_cases h1 : b % 2 = 1
    · rw [if_pos h1]
      simp only [cnT (show ((b % 2 : Nat) : Int) = 1 by omega)]
      by_cases h2 : 256 ≤ a * 2
      · rw [if_pos h2] at ih1 ⊢
        simp only [cnT (show (256 : Int) ≤ ((a * 2 : Nat) : Int) by omega)]
        exact ih1
      · rw [if_neg h2] at ih1 ⊢
        simp only [cnF (show ¬ (256 : Int) ≤ ((a * 2 : Nat) : Int) by omega)]
        exact ih1
    · rw [if_neg h1]
      simp only [cnF (show ¬ ((b % 2 : Nat) : Int) = 1 by omega)]
      by_cases h2 : 256 ≤ a * 2
      · rw [if_pos h2] at ih2 ⊢
        simp only [cnT (show (256 : Int) ≤ ((a * 2 : Nat) : Int) by omega)]
        exact ih2
      · rw [if_neg h2] at ih2 ⊢
        simp only [cnF (show ¬ (256 : Int) ≤ ((a * 2 : Nat) : Int) by omega)]
        exact ih2
theorem i_mul.ev {a b : Nat} (ha : a < 256) (hb : b < 256) : Ev (fun k => i_mul.f k (a : Int) (b : Int)) ((gm a b : Nat) : Int) :=
  Ev.congr (i_mul.loop 8 a b 0 hb hb ha (by omega)).diag fun k => i_mul.f_eq k _ _
theorem s_l1Mul.loop : ∀ (n a b o : Nat), b < 2 ^ n → b < 256 → a < 256 → o < 256 → Ev2 (fun k m => s_l1Mul.l0 k m (a : Int) (b : Int) (o : Int)) ((gmN n a b o : Nat) : Int) := by
  intro n
  induction n with
  | zero =>
    intro a b o hb _ ha ho
    refine .step ?_ fun k m => s_l1Mul.l0_s k m _ _ _
    simp only [cnF (show ¬ (0 : Int) < (b : Int) by omega)]
    exact .const fun _ _ => rfl
  | succ n ih =>
    intro a b o hb hb2 ha ho
    refine .step ?_ fun k m => s_l1Mul.l0_s k m _ _ _
    unfold gmN
    by_cases h0 : b = 0
    · rw [if_pos h0]
      simp only [cnF (show ¬ (0 : Int) < (b : Int) by omega)]
      exact .const fun _ _ => rfl
    rw [if_neg h0]
    have hb3 : b / 2 < 2 ^ n := by rw [Nat.pow_succ] at hb; omega
    simp only [cnT (show (0 : Int) < (b : Int) by omega), ba1 (show b < 4294967296 by omega), two_eq ha, half_eq, bx285 ha, bx64 (show o < 4294967296 by omega) (show a < 4294967296 by omega)]
    have ih1 := ih (dbl a) (b / 2) (o ^^^ a) hb3 (by omega) (dbl_lt ha) (xor_lt ho ha)
    have ih2 := ih (dbl a) (b / 2) o hb3 (by omega) (dbl_lt ha) ho
    unfold dbl at ih1 ih2 ⊢
    by_cases h1 : b % 2 = 1
    · rw [if_pos h1]
      simp only [cnT (show ((b % 2 : Nat) : Int) = 1 by omega)]
      by_cases h2 : 256 ≤ a * 2
      · rw [if_pos h2] at ih1 ⊢
        simp only [cnT (show (255 : Int) < ((a * 2 : Nat) : Int) by omega)]
        exact ih1
      · rw [if_neg h2] at ih1 ⊢
        simp only [cnF (show ¬ (255 : Int) < ((a * 2 : Nat) : Int) by omega)]
        exact ih1
    · rw [if_neg h1]
      simp only [cnF (show ¬ ((b % 2 : Nat) : Int) = 1 by omega)]
      by_cases h2 : 256 ≤ a * 2
      · rw [if_pos h2] at ih2 ⊢
        simp only [cnT (show (255 : Int) < ((a * 2 : Nat) : Int) by omega)]
        exact ih2
      · rw [if_neg h2] at ih2 ⊢
        simp only [cnF (show ¬ (255 : Int) < ((a * 2 : Nat) : Int) by omega)]
        exact ih2
theorem s_l1Mul.ev {a b : Nat} (ha : a < 256) (hb : b < 256) : Ev (fun k => s_l1Mul.f k (a : Int) (b : Int)) ((gm a b : Nat) : Int) :=
  Ev.congr (s_l1Mul.loop 8 a b 0 hb hb ha (by omega)).diag fun k => s_l1Mul.f_eq k _ _
def pwN : Nat → Nat → Nat → Nat → Nat
  | 0, _, _, o => o
  | n + 1, a, e, o => if e = 0 then o else pwN n (gm a a) (e / 2) (if e % 2 = 1 then gm o a else o)
def gi (a : Nat) : Nat := pwN 8 a 254 1
theorem pwN_lt : ∀ (n a e o : Nat), a < 256 → o < 256 → pwN n a e o < 256
  | 0, _, _, _, _, ho => ho
  | n + 1, a, e, o, ha, ho => by
    unfold pwN
    split
    · exact ho
    · refine pwN_lt n _ _ _ (gm_lt ha) ?_
      split
      · exact gm_lt ho
      · exact ho
theorem gi_lt {a : Nat} (h : a < 256) : gi a < 256 := pwN_lt 8 a 254 1 h (by omega)
theorem i_pow.loop : ∀ (n a e o : Nat), e < 2 ^ n → e < 256 → a < 256 → o < 256 → Ev2 (fun k m => i_pow.l0 k m (a : Int) (e : Int) (o : Int)) ((pwN n a e o : Nat) : Int) := by
  intro n
  induction n with
  | zero =>
    intro a b o hb _ ha ho
    refine .step ?_ fun k m => i_pow.l0_s k m _ _ _
    simp only [cnF (show ¬ (0 : Int) < (b : Int) by omega)]
    exact .const fun _ _ => rfl
  | succ n ih =>
    intro a b o hb hb2 ha ho
    refine .step ?_ fun k m => i_pow.l0_s k m _ _ _
    unfold pwN
    by_cases h0 : b = 0
    · rw [if_pos h0]
      simp only [cnF (show ¬ (0 : Int) < (b : Int) by omega)]
      exact .const fun _ _ => rfl
    rw [if_neg h0]
    have hb3 : b / 2 < 2 ^ n := by rw [Nat.pow_succ] at hb; omega
    simp only [cnT (show (0 : Int) < (b : Int) by omega), ba1 (show b < 4294967296 by omega), half_eq]
    by_cases h1 : b % 2 = 1
    · rw [if_pos h1]
      simp only [cnT (show ((b % 2 : Nat) : Int) = 1 by omega)]
      refine .bind (i_mul.ev ho ha) ?_
      refine .bind (i_mul.ev ha ha) ?_
      exact ih _ _ _ hb3 (by omega) (gm_lt ha) (gm_lt ho)
    · rw [if_neg h1]
      simp only [cnF (show ¬ ((b % 2 : Nat) : Int) = 1 by omega)]
      refine .bind (i_mul.ev ha ha) ?_
      exact ih _ _ _ hb3 (by omega) (gm_lt ha) ho
theorem i_pow.ev {a : Nat} (ha : a < 256) : Ev (fun k => i_pow.f k (a : Int) 254) ((gi a : Nat) : Int) :=
  Ev.congr (i_pow.loop 8 a 254 1 (by omega) (by omega) ha (by omega)).diag fun k => i_pow.f_eq k _ _
theorem i_inverse.ev {a : Nat} (ha : a < 256) : Ev (fun k => i_inverse.f k (a : Int)) ((gi a : Nat) : Int) :=
  Ev.congr (Ev.bind (i_pow.ev ha) (.const fun _ => rfl)) fun k => i_inverse.f_eq k _
theorem s_l1Pow.loop : ∀ (n a e o : Nat), e < 2 ^ n → e < 256 → a < 256 → o < 256 → Ev2 (fun k m => s_l1Pow.l0 k m (a : Int) (e : Int) (o : Int)) ((pwN n a e o : Nat) : Int) := by
  intro n
  induction n with
  | zero =>
    intro a b o hb _ ha ho
    refine .step ?_ fun k m => s_l1Pow.l0_s k m _ _ _
    simp only [cnF (show ¬ (0 : Int) < (b : Int) by omega)]
    exact .const fun _ _ => rfl
  | succ n ih =>
    intro a b o hb hb2 ha ho
    refine .step ?_ fun k m => s_l1Pow.l0_s k m _ _ _
    unfold pwN
    by_cases h0 : b = 0
    · rw [if_pos h0]
      simp only [cnF (show ¬ (0 : Int) < (b : Int) by omega)]
      exact .const fun _ _ => rfl
    rw [if_neg h0]
    have hb3 : b / 2 < 2 ^ n := by rw [Nat.pow_succ] at hb; omega
    simp only [cnT (show (0 : Int) < (b : Int) by omega), ba1 (show b < 4294967296 by omega), half_eq]
    by_cases h1 : b % 2 = 1
    · rw [if_pos h1]
      simp only [cnT (show ((b % 2 : Nat) : Int) = 1 by omega)]
      refine .bind (s_l1Mul.ev ho ha) ?_
      refine .bind (s_l1Mul.ev ha ha) ?_
      exact ih _ _ _ hb3 (by omega) (gm_lt ha) (gm_lt ho)
    · rw [if_neg h1]
      simp only [cnF (show ¬ ((b % 2 : Nat) : Int) = 1 by omega)]
      refine .bind (s_l1Mul.ev ha ha) ?_
      exact ih _ _ _ hb3 (by omega) (gm_lt ha) ho
theorem s_l1Pow.ev {a : Nat} (ha : a < 256) : Ev (fun k => s_l1Pow.f k (a : Int) 254) ((gi a : Nat) : Int) :=
  Ev.congr (s_l1Pow.loop 8 a 254 1 (by omega) (by omega) ha (by omega)).diag fun k => s_l1Pow.f_eq k _ _
theorem s_l1Div.ev {a b : Nat} (ha : a < 256) (hb : b < 256) : Ev (fun k => s_l1Div.f k (a : Int) (b : Int)) ((gm a (gi b) : Nat) : Int) :=
  Ev.congr (Ev.bind (s_l1Pow.ev hb) (Ev.bind (s_l1Mul.ev ha (gi_lt hb)) (.const fun _ => rfl))) fun k => s_l1Div.f_eq k _ _
theorem gm_one : ∀ x, x < 256 → gm 1 x = x := by decide +kernel
/-! ### Matrices of bytes -/
/-- Four kinds of rounds. -/
def Ev4 {R : Type} (g : Nat → Nat → Nat → Nat → Option R) (r : R) : Prop := ∃ K, ∀ k m n o, K ≤ k → K ≤ m → K ≤ n → K ≤ o → g k m n o = some r
theorem Ev4.diag {R : Type} {g : Nat → Nat → Nat → Nat → Option R} {r : R} (h : Ev4 g r) : Ev3 (fun k m n => g k m n k) r := by
  obtain ⟨K, hK⟩ := h
  exact ⟨K, fun k m n hk hm hn => hK k m n k hk hm hn hk⟩
theorem Ev4.step {R : Type} {g g' : Nat → Nat → Nat → Nat → Option R} {r : R} (h : Ev4 g' r) (e : ∀ k m n o, g k m n (o + 1) = g' k m n o) : Ev4 g r := by
  obtain ⟨K, hK⟩ := h
  refine ⟨K + 1, fun k m n o hk hm hn ho => ?_⟩
  obtain ⟨o, rfl⟩ : ∃ m', o = m' + 1 := ⟨o - 1, by omega⟩
  rw [e]
  exact hK k m n o (by omega) (by omega) (by omega) (by omega)
theorem Ev4.bind {D R : Type} {f : Nat → Option D} {d : D} {G : Nat → Nat → Nat → Nat → D → Option R} {r : R} (h : Ev f d) (h2 : Ev4 (fun k m n o => G k m n o d) r) : Ev4 (fun k m n o => (f k).bind (G k m n o)) r := by
  obtain ⟨K, hK⟩ := h
  obtain ⟨L, hL⟩ := h2
  refine ⟨max K L, fun k m n o hk hm hn ho => ?_⟩
  show (f k).bind (G k m n o) = _
  rw [hK k (by omega)]
  exact hL k m n o (by omega) (by omega) (by omega) (by omega)
theorem Ev4.out {R : Type} {g : Nat → Nat → Nat → Option R} {r : R} (h : Ev3 g r) : Ev4 (fun k m n _ => g k m n) r := by
  obtain ⟨K, hK⟩ := h
  exact ⟨K, fun k m n _ hk hm hn _ => hK k m n hk hm hn⟩
/-- Rows of bytes as numbers. -/
def zs (l : List Nat) : List Int := l.map (fun n : Nat => (n : Int))
def zz (m : List (List Nat)) : List (List Int) := m.map zs
theorem zs_len (l : List Nat) : (zs l).length = l.length := by simp [zs]
theorem zz_len (l : List (List Nat)) : (zz l).length = l.length := by simp [zz]
theorem zs_app (a b : List Nat) : zs (a ++ b) = zs a ++ zs b := by simp [zs]
theorem zz_app (a b : List (List Nat)) : zz (a ++ b) = zz a ++ zz b := by simp [zz]
theorem getAt_mid {A : Type} (d x : A) (a b : List A) (n : Nat) (h : n = a.length) : getAt d (a ++ x :: b) n = x := by
  subst h
  rw [getAt_lt (by simp)]
  simp
theorem zs_mid (x : Nat) (a b : List Nat) (n : Nat) (h : n = a.length) : getAt (0 : Int) (zs (a ++ x :: b)) n = (x : Int) := by
  rw [zs_app]; exact getAt_mid _ _ _ _ _ (by rw [zs_len]; exact h)
theorem zz_mid (x : List Nat) (a b : List (List Nat)) (n : Nat) (h : n = a.length) : getAt [] (zz (a ++ x :: b)) n = zs x := by
  rw [zz_app]; exact getAt_mid _ _ _ _ _ (by rw [zz_len]; exact h)
theorem zs_set (x y : Nat) (a b : List Nat) (n : Nat) (h : n = a.length) : (zs (a ++ x :: b)).set n (y : Int) = zs ((a ++ [y]) ++ b) := by
  subst h
  simp [zs]
def sml (l : List Nat) : Prop := ∀ x ∈ l, x < 256
/-- A row and a multiple of another one. -/
def axpy (c : Nat) : List Nat → List Nat → List Nat
  | x :: q, y :: h => (y ^^^ gm c x) :: axpy c q h
  | _, _ => []
theorem axpy_len (c : Nat) : ∀ (q h : List Nat), q.length = h.length → (axpy c q h).length = h.length
  | [], [], _ => rfl
  | x :: q, y :: h, e => by simp only [axpy, List.length_cons]; rw [axpy_len c q h (by simpa using e)]
  | [], _ :: _, e => by simp at e
  | _ :: _, [], e => by simp at e
theorem axpy_sml {c : Nat} (hc : c < 256) : ∀ (q h : List Nat), q.length = h.length → sml q → sml h → sml (axpy c q h)
  | [], [], _, _, _ => fun _ h => by cases h
  | x :: q, y :: h, e, hq, hh => by
    intro z hz
    simp only [axpy, List.mem_cons] at hz
    rcases hz with rfl | hz
    · exact xor_lt (hh y (List.mem_cons_self ..)) (gm_lt hc)
    · exact axpy_sml hc q h (by simpa using e) (fun a ha => hq a (List.mem_cons_of_mem _ ha)) (fun a ha => hh a (List.mem_cons_of_mem _ ha)) z hz
  | [], _ :: _, e, _, _ => by simp at e
  | _ :: _, [], e, _, _ => by simp at e
/-- A row times a matrix. -/
def comb : List Nat → List (List Nat) → List Nat → List Nat
  | c :: r, p :: b, h => comb r b (axpy c p h)
  | _, _, h => h
def tm (a b : List (List Nat)) : List (List Nat) := a.map fun r => comb r b (List.replicate (b.getD 0 []).length 0)
theorem sml_rep (n : Nat) : sml (List.replicate n 0) := fun x h => by rw [List.eq_of_mem_replicate h]; decide
theorem zs_rep (n : Nat) : List.replicate n (0 : Int) = zs (List.replicate n 0) := by simp [zs]
theorem comb_ok {w : Nat} : ∀ (r : List Nat) (b : List (List Nat)) (h : List Nat), sml r → (∀ p ∈ b, p.length = w ∧ sml p) → h.length = w → sml h → (comb r b h).length = w ∧ sml (comb r b h)
  | [], _, _, _, _, h1, h2 => ⟨h1, h2⟩
  | _ :: _, [], _, _, _, h1, h2 => ⟨h1, h2⟩
  | c :: r, p :: b, h, hr, hb, h1, h2 => by
    have hp := hb p (List.mem_cons_self ..)
    exact comb_ok r b _ (fun a ha => hr a (List.mem_cons_of_mem _ ha)) (fun a ha => hb a (List.mem_cons_of_mem _ ha)) (by rw [axpy_len _ _ _ (by omega)]; exact h1) (axpy_sml (hr c (List.mem_cons_self ..)) _ _ (by omega) hp.2 h2)
theorem tm_ok {w : Nat} {a b : List (List Nat)} (ha : ∀ r ∈ a, sml r) (hb : ∀ p ∈ b, p.length = w ∧ sml p) (h0 : b ≠ []) : ∀ p ∈ tm a b, p.length = w ∧ sml p := by
  intro p hp
  obtain ⟨r, hr, rfl⟩ := List.mem_map.1 hp
  have e : (b.getD 0 []).length = w := by
    cases b with
    | nil => exact absurd rfl h0
    | cons x b => exact (hb x (List.mem_cons_self ..)).1
  rw [e]
  exact comb_ok r b _ (ha r hr) hb (by simp) (sml_rep _)
theorem tm_len (a b : List (List Nat)) : (tm a b).length = a.length := by simp [tm]
theorem bytes_row : Try.prog.bytesOf (27 : Nat) ≤ 1024 := by rw [show Try.prog.bytesOf (27 : Nat) = 24 by kernel_rfl]; decide
theorem mk_int {n : Nat} (h : n ≤ 1073741824) : mkOk (n : Int) (n : Int) (Try.prog.bytesOf (3 : Nat)) = true := by
  have e : Try.prog.bytesOf (3 : Nat) = 8 := by kernel_rfl
  rw [e]
  unfold mkOk
  simp
  omega
theorem i_times.l4_ev {r : List (List Int)} (b t14 : List (List Int)) (t15 t16 : Int) (t25 : List Int) (t26 t27 : Int) (h1 : List (List Int)) (c : Nat) (hc : c < 256) :
    ∀ (q hq pp hp : List Nat), q.length = hq.length → pp.length = hp.length → sml q → sml hq → pp.length + q.length ≤ 1048576 →
      Ev3 (fun k n0 n2 => i_times.l2 k n0 n2 b t14 t15 t16 t25 t26 (IntKind.i64.wrap (t27 + (1 : Int))) h1 (zs (hp ++ axpy c q hq))) r →
      Ev4 (fun k n0 n2 m => i_times.l4 k n0 n2 m b (c : Int) t14 t15 t16 t25 t26 t27 (zs (pp ++ q)) ((pp.length + q.length : Nat) : Int) (pp.length : Int) h1 (zs (hp ++ hq))) r := by
  intro q
  induction q with
  | nil =>
    intro hq pp hp e1 e2 _ _ _ h
    refine .step ?_ fun k m n o => i_times.l4_s k m n o _ _ _ _ _ _ _ _ _ _ _ _ _
    simp only [cnF (show ¬ ((pp.length : Nat) : Int) < ((pp.length + ([] : List Nat).length : Nat) : Int) by simp)]
    have e3 : hq = [] := List.length_eq_zero_iff.1 (by simpa using e1.symm)
    subst e3
    exact .out h
  | cons x q ih =>
    intro hq pp hp e1 e2 sq sh hlen h
    cases hq with
    | nil => simp at e1
    | cons y hq =>
      refine .step ?_ fun k m n o => i_times.l4_s k m n o _ _ _ _ _ _ _ _ _ _ _ _ _
      have hx : x < 256 := sq x (List.mem_cons_self ..)
      have hy : y < 256 := sh y (List.mem_cons_self ..)
      simp only [List.length_cons] at e1 hlen
      have ez : (zs (pp ++ x :: q)).length = pp.length + (q.length + 1) := by rw [zs_len]; simp
      have eh : (zs (hp ++ y :: hq)).length = pp.length + (q.length + 1) := by rw [zs_len]; simp; omega
      simp only [cnT (show ((pp.length : Nat) : Int) < ((pp.length + (x :: q).length : Nat) : Int) by simp only [List.length_cons]; omega), Int.toNat_natCast, ez, eh, inb_nat (show pp.length < pp.length + (q.length + 1) by omega), gd_t, zs_mid x pp q pp.length rfl, zs_mid y hp hq pp.length e2, wrap_succ (show pp.length < 9223372036854775807 by omega)]
      refine .bind (i_mul.ev hc hx) ?_
      have hg : gm c x < 256 := gm_lt hc
      simp only [bx64 (show y < 4294967296 by omega) (show gm c x < 4294967296 by omega), zs_set y _ hp hq pp.length e2]
      have := ih hq (pp ++ [x]) (hp ++ [y ^^^ gm c x]) (by omega) (by simp; omega) (fun a ha => sq a (List.mem_cons_of_mem _ ha)) (fun a ha => sh a (List.mem_cons_of_mem _ ha)) (by simp; omega) (by
        simpa [axpy] using h)
      simp only [List.length_append, List.length_cons, List.length_nil, List.append_assoc, List.cons_append, List.nil_append] at this ⊢
      have e4 : pp.length + (0 + 1) + q.length = pp.length + (q.length + 1) := by omega
      rw [e4] at this
      exact this
theorem i_times.l2_ev {r : List (List Int)} {w : Nat} (hw : w ≤ 1048576) (t14 : List (List Int)) (t15 t16 : Int) (h1 : List (List Int)) (hl : h1.length ≤ 1048576) :
    ∀ (rq : List Nat) (bq : List (List Nat)) (rp : List Nat) (bp : List (List Nat)) (h : List Nat), rq.length = bq.length → rp.length = bp.length → sml rq → (∀ p ∈ bq, p.length = w ∧ sml p) → h.length = w → sml h → rp.length + rq.length ≤ 1048576 →
      Ev2 (fun k n0 => i_times.l0 k n0 (zz (bp ++ bq)) t14 t15 (IntKind.i64.wrap (t16 + (1 : Int))) (h1 ++ [zs (comb rq bq h)])) r →
      Ev3 (fun k n0 m => i_times.l2 k n0 m (zz (bp ++ bq)) t14 t15 t16 (zs (rp ++ rq)) ((rp.length + rq.length : Nat) : Int) (rp.length : Int) h1 (zs h)) r := by
  intro rq
  induction rq with
  | nil =>
    intro bq rp bp h e1 e2 _ _ e3 _ hlen hr
    refine .step ?_ fun k m n => i_times.l2_s k m n _ _ _ _ _ _ _ _ _
    simp only [cnF (show ¬ ((rp.length : Nat) : Int) < ((rp.length + ([] : List Nat).length : Nat) : Int) by simp), appOk_le bytes_row (show h1.length + 1 ≤ 1073741824 by omega), gd_t]
    have e4 : bq = [] := List.length_eq_zero_iff.1 (by simpa using e1.symm)
    subst e4
    exact .out hr
  | cons c rq ih =>
    intro bq rp bp h e1 e2 sr hb e3 sh hlen hr
    cases bq with
    | nil => simp at e1
    | cons p bq =>
      refine .step ?_ fun k m n => i_times.l2_s k m n _ _ _ _ _ _ _ _ _
      have hc : c < 256 := sr c (List.mem_cons_self ..)
      have hp := hb p (List.mem_cons_self ..)
      simp only [List.length_cons] at e1 hlen
      have ez : (zs (rp ++ c :: rq)).length = rp.length + (rq.length + 1) := by rw [zs_len]; simp
      have eb : (zz (bp ++ p :: bq)).length = rp.length + (rq.length + 1) := by rw [zz_len]; simp; omega
      simp only [cnT (show ((rp.length : Nat) : Int) < ((rp.length + (c :: rq).length : Nat) : Int) by simp only [List.length_cons]; omega), Int.toNat_natCast, ez, eb, inb_nat (show rp.length < rp.length + (rq.length + 1) by omega), gd_t, zs_mid c rp rq rp.length rfl, zz_mid p bp bq rp.length e2, zs_len]
      have := ih bq (rp ++ [c]) (bp ++ [p]) (axpy c p h) (by omega) (by simp; omega) (fun a ha => sr a (List.mem_cons_of_mem _ ha)) (fun a ha => hb a (List.mem_cons_of_mem _ ha)) (by rw [axpy_len _ _ _ (by omega)]; exact e3) (axpy_sml hc _ _ (by omega) hp.2 sh) (by simp; omega) (by
        simpa [comb] using hr)
      have l4 := i_times.l4_ev (zz (bp ++ p :: bq)) t14 t15 t16 (zs (rp ++ c :: rq)) ((rp.length + (c :: rq).length : Nat) : Int) (rp.length : Int) h1 c hc p h [] [] (by omega) rfl hp.2 sh (by simp; omega) (r := r) (by
        simp only [List.length_append, List.length_cons, List.length_nil, List.append_assoc, List.cons_append, List.nil_append] at this ⊢
        have e4 : rp.length + (0 + 1) + rq.length = rp.length + (rq.length + 1) := by omega
        rw [e4] at this
        rw [wrap_succ (show rp.length < 9223372036854775807 by omega)]
        exact this)
      have l4' := l4.diag
      simp only [List.length_nil, Nat.zero_add, List.nil_append] at l4'
      exact l4'
theorem i_times.ev {w : Nat} (hw : w ≤ 1048576) (b : List (List Nat)) (hb : ∀ p ∈ b, p.length = w ∧ sml p) (h0 : b ≠ []) (hbl : b.length ≤ 1048576) (a : List (List Nat)) (ha : ∀ r ∈ a, r.length = b.length ∧ sml r) (hal : a.length ≤ 1048576) : Ev (fun k => i_times.f k (zz a) (zz b)) (zz (tm a b)) := by
  have key : ∀ (aq ap : List (List Nat)) (o : List (List Nat)), (∀ r ∈ aq, r.length = b.length ∧ sml r) → ap.length = o.length → ap.length + aq.length ≤ 1048576 →
      Ev2 (fun k m => i_times.l0 k m (zz b) (zz (ap ++ aq)) ((ap.length + aq.length : Nat) : Int) (ap.length : Int) (zz o)) (zz (o ++ tm aq b)) := by
    intro aq
    induction aq with
    | nil =>
      intro ap o _ _ _
      refine .step ?_ fun k m => i_times.l0_s k m _ _ _ _ _
      simp only [cnF (show ¬ ((ap.length : Nat) : Int) < ((ap.length + ([] : List (List Nat)).length : Nat) : Int) by simp)]
      exact .const fun _ _ => by simp [tm]
    | cons x aq ih =>
      intro ap o hx e1 hlen
      refine .step ?_ fun k m => i_times.l0_s k m _ _ _ _ _
      have hx0 := hx x (List.mem_cons_self ..)
      simp only [List.length_cons] at hlen
      have ez : (zz (ap ++ x :: aq)).length = ap.length + (aq.length + 1) := by rw [zz_len]; simp
      have hbp : 0 < b.length := by cases b with | nil => exact absurd rfl h0 | cons _ _ => simp
      have eg : getAt [] (zz b) 0 = zs (b.getD 0 []) := by
        cases b with
        | nil => exact absurd rfl h0
        | cons y b => rfl
      have ew : (b.getD 0 []).length = w := by
        cases b with
        | nil => exact absurd rfl h0
        | cons y b => exact (hb y (List.mem_cons_self ..)).1
      have i0 : inb (0 : Int) (zz b).length = true := by rw [zz_len]; exact inb_nat hbp
      simp only [cnT (show ((ap.length : Nat) : Int) < ((ap.length + (x :: aq).length : Nat) : Int) by simp only [List.length_cons]; omega), Int.toNat_natCast, ez, i0, inb_nat (show ap.length < ap.length + (aq.length + 1) by omega), gd_t, zz_mid x ap aq ap.length rfl, eg, zs_len, ew, mk_int (show w ≤ 1073741824 by omega), zs_rep]
      have := ih (ap ++ [x]) (o ++ [comb x b (List.replicate w 0)]) (fun a ha => hx a (List.mem_cons_of_mem _ ha)) (by simp; omega) (by simp; omega)
      have l2 := i_times.l2_ev hw (zz (ap ++ x :: aq)) ((ap.length + (x :: aq).length : Nat) : Int) (ap.length : Int) (zz o) (by rw [zz_len]; omega) x b [] [] (List.replicate w 0) hx0.1 rfl hx0.2 hb (by simp) (sml_rep _) (by simp; omega) (r := zz (o ++ tm (x :: aq) b)) (by
        simp only [List.nil_append]
        rw [wrap_succ (show ap.length < 9223372036854775807 by omega)]
        have e5 : zz o ++ [zs (comb x b (List.replicate w 0))] = zz (o ++ [comb x b (List.replicate w 0)]) := by simp [zz]
        have e6 : o ++ [comb x b (List.replicate w 0)] ++ tm aq b = o ++ tm (x :: aq) b := by
          unfold tm
          rw [ew, List.map_cons, List.append_assoc]; rfl
        rw [e6] at this
        simp only [List.length_append, List.length_cons, List.length_nil, List.append_assoc, List.cons_append, List.nil_append] at this ⊢
        have e4 : ap.length + (0 + 1) + aq.length = ap.length + (aq.length + 1) := by omega
        rw [e4] at this
        simp only [e5]
        exact this)
      have l2' := l2.diag
      simp only [List.length_nil, Nat.zero_add, List.nil_append] at l2'
      exact l2'
  refine Ev.congr ?_ fun k => i_times.f_eq k _ _
  have := (key a [] [] ha rfl (by simpa using hal)).diag
  simp only [List.length_nil, Nat.zero_add, List.nil_append] at this
  rw [zz_len]
  exact this
def Com (c : Nat) : Prop := ∀ x, x < 256 → gm x c = gm c x
instance (c : Nat) : Decidable (Com c) := by unfold Com; infer_instance
theorem s_l2Add.ev {c : Nat} (hc : c < 256) (hcc : Com c) (q h : List Nat) (hl : q.length = h.length) (sq : sml q) (sh : sml h) (hs : q.length ≤ 1048576) : Ev (fun k => s_l2Add.f k (zs h) (zs q) (c : Int)) ((), zs (axpy c q h)) := by
  have key : ∀ (q hq pp hp : List Nat), q.length = hq.length → pp.length = hp.length → sml q → sml hq → pp.length + q.length ≤ 1048576 →
      Ev2 (fun k m => s_l2Add.l0 k m (c : Int) (zs (pp ++ q)) ((pp.length + q.length : Nat) : Int) (pp.length : Int) (zs (hp ++ hq))) ((), zs (hp ++ axpy c q hq)) := by
    intro q
    induction q with
    | nil =>
      intro hq pp hp e1 e2 _ _ _
      refine .step ?_ fun k m => s_l2Add.l0_s k m _ _ _ _ _
      simp only [cnF (show ¬ ((pp.length : Nat) : Int) < ((pp.length + ([] : List Nat).length : Nat) : Int) by simp)]
      have e3 : hq = [] := List.length_eq_zero_iff.1 (by simpa using e1.symm)
      subst e3
      exact .const fun _ _ => rfl
    | cons x q ih =>
      intro hq pp hp e1 e2 sq sh hlen
      cases hq with
      | nil => simp at e1
      | cons y hq =>
        refine .step ?_ fun k m => s_l2Add.l0_s k m _ _ _ _ _
        have hx : x < 256 := sq x (List.mem_cons_self ..)
        have hy : y < 256 := sh y (List.mem_cons_self ..)
        simp only [List.length_cons] at e1 hlen
        have ez : (zs (pp ++ x :: q)).length = pp.length + (q.length + 1) := by rw [zs_len]; simp
        have eh : (zs (hp ++ y :: hq)).length = pp.length + (q.length + 1) := by rw [zs_len]; simp; omega
        simp only [cnT (show ((pp.length : Nat) : Int) < ((pp.length + (x :: q).length : Nat) : Int) by simp only [List.length_cons]; omega), Int.toNat_natCast, ez, eh, inb_nat (show pp.length < pp.length + (q.length + 1) by omega), gd_t, zs_mid x pp q pp.length rfl, zs_mid y hp hq pp.length e2, wrap_succ (show pp.length < 9223372036854775807 by omega)]
        refine .bind (s_l1Mul.ev hx hc) ?_
        rw [hcc x hx]
        have hg : gm c x < 256 := gm_lt hc
        simp only [bx64 (show y < 4294967296 by omega) (show gm c x < 4294967296 by omega), zs_set y _ hp hq pp.length e2]
        have := ih hq (pp ++ [x]) (hp ++ [y ^^^ gm c x]) (by omega) (by simp; omega) (fun a ha => sq a (List.mem_cons_of_mem _ ha)) (fun a ha => sh a (List.mem_cons_of_mem _ ha)) (by simp; omega)
        simp only [List.length_append, List.length_cons, List.length_nil, List.append_assoc, List.cons_append, List.nil_append] at this ⊢
        have e4 : pp.length + (0 + 1) + q.length = pp.length + (q.length + 1) := by omega
        rw [e4] at this
        simpa [axpy] using this
  refine Ev.congr ?_ fun k => s_l2Add.f_eq k _ _ _
  have := (key q h [] [] hl rfl sq sh (by simpa using hs)).diag
  simp only [List.length_nil, Nat.zero_add, List.nil_append] at this
  rw [zs_len]
  exact this
theorem s_l3Times.l2_ev {r : List (List Int)} {w : Nat} (hw : w ≤ 1048576) (t14 : List (List Int)) (t15 t16 : Int) (h1 : List (List Int)) (hl : h1.length ≤ 1048576) :
    ∀ (rq : List Nat) (bq : List (List Nat)) (rp : List Nat) (bp : List (List Nat)) (h : List Nat), rq.length = bq.length → rp.length = bp.length → sml rq → (∀ c ∈ rq, Com c) → (∀ p ∈ bq, p.length = w ∧ sml p) → h.length = w → sml h → rp.length + rq.length ≤ 1048576 →
      Ev2 (fun k n0 => s_l3Times.l0 k n0 (zz (bp ++ bq)) t14 t15 (IntKind.i64.wrap (t16 + (1 : Int))) (h1 ++ [zs (comb rq bq h)])) r →
      Ev3 (fun k n0 m => s_l3Times.l2 k n0 m (zz (bp ++ bq)) t14 t15 t16 (zs (rp ++ rq)) ((rp.length + rq.length : Nat) : Int) (rp.length : Int) h1 (zs h)) r := by
  intro rq
  induction rq with
  | nil =>
    intro bq rp bp h e1 e2 _ _ _ e3 _ hlen hr
    refine .step ?_ fun k m n => s_l3Times.l2_s k m n _ _ _ _ _ _ _ _ _
    simp only [cnF (show ¬ ((rp.length : Nat) : Int) < ((rp.length + ([] : List Nat).length : Nat) : Int) by simp), appOk_le bytes_row (show h1.length + 1 ≤ 1073741824 by omega), gd_t]
    have e4 : bq = [] := List.length_eq_zero_iff.1 (by simpa using e1.symm)
    subst e4
    exact .out hr
  | cons c rq ih =>
    intro bq rp bp h e1 e2 sr scm hb e3 sh hlen hr
    cases bq with
    | nil => simp at e1
    | cons p bq =>
      refine .step ?_ fun k m n => s_l3Times.l2_s k m n _ _ _ _ _ _ _ _ _
      have hc : c < 256 := sr c (List.mem_cons_self ..)
      have hp := hb p (List.mem_cons_self ..)
      simp only [List.length_cons] at e1 hlen
      have ez : (zs (rp ++ c :: rq)).length = rp.length + (rq.length + 1) := by rw [zs_len]; simp
      have eb : (zz (bp ++ p :: bq)).length = rp.length + (rq.length + 1) := by rw [zz_len]; simp; omega
      simp only [cnT (show ((rp.length : Nat) : Int) < ((rp.length + (c :: rq).length : Nat) : Int) by simp only [List.length_cons]; omega), Int.toNat_natCast, ez, eb, inb_nat (show rp.length < rp.length + (rq.length + 1) by omega), gd_t, zs_mid c rp rq rp.length rfl, zz_mid p bp bq rp.length e2, wrap_succ (show rp.length < 9223372036854775807 by omega)]
      refine .bind (s_l2Add.ev hc (scm c (List.mem_cons_self ..)) p h (by omega) hp.2 sh (by omega)) ?_
      have := ih bq (rp ++ [c]) (bp ++ [p]) (axpy c p h) (by omega) (by simp; omega) (fun a ha => sr a (List.mem_cons_of_mem _ ha)) (fun a ha => scm a (List.mem_cons_of_mem _ ha)) (fun a ha => hb a (List.mem_cons_of_mem _ ha)) (by rw [axpy_len _ _ _ (by omega)]; exact e3) (axpy_sml hc _ _ (by omega) hp.2 sh) (by simp; omega) (by
        simpa [comb] using hr)
      simp only [List.length_append, List.length_cons, List.length_nil, List.append_assoc, List.cons_append, List.nil_append] at this ⊢
      have e4 : rp.length + (0 + 1) + rq.length = rp.length + (rq.length + 1) := by omega
      rw [e4] at this
      exact this
theorem s_l3Times.ev {w : Nat} (hw : w ≤ 1048576) (b : List (List Nat)) (hb : ∀ p ∈ b, p.length = w ∧ sml p) (h0 : b ≠ []) (hbl : b.length ≤ 1048576) (a : List (List Nat)) (ha : ∀ r ∈ a, r.length = b.length ∧ sml r ∧ ∀ c ∈ r, Com c) (hal : a.length ≤ 1048576) : Ev (fun k => s_l3Times.f k (zz a) (zz b)) (zz (tm a b)) := by
  have key : ∀ (aq ap : List (List Nat)) (o : List (List Nat)), (∀ r ∈ aq, r.length = b.length ∧ sml r ∧ ∀ c ∈ r, Com c) → ap.length = o.length → ap.length + aq.length ≤ 1048576 →
      Ev2 (fun k m => s_l3Times.l0 k m (zz b) (zz (ap ++ aq)) ((ap.length + aq.length : Nat) : Int) (ap.length : Int) (zz o)) (zz (o ++ tm aq b)) := by
    intro aq
    induction aq with
    | nil =>
      intro ap o _ _ _
      refine .step ?_ fun k m => s_l3Times.l0_s k m _ _ _ _ _
      simp only [cnF (show ¬ ((ap.length : Nat) : Int) < ((ap.length + ([] : List (List Nat)).length : Nat) : Int) by simp)]
      exact .const fun _ _ => by simp [tm]
    | cons x aq ih =>
      intro ap o hx e1 hlen
      refine .step ?_ fun k m => s_l3Times.l0_s k m _ _ _ _ _
      have hx0 := hx x (List.mem_cons_self ..)
      simp only [List.length_cons] at hlen
      have ez : (zz (ap ++ x :: aq)).length = ap.length + (aq.length + 1) := by rw [zz_len]; simp
      have hbp : 0 < b.length := by cases b with | nil => exact absurd rfl h0 | cons _ _ => simp
      have eg : getAt [] (zz b) 0 = zs (b.getD 0 []) := by
        cases b with
        | nil => exact absurd rfl h0
        | cons y b => rfl
      have ew : (b.getD 0 []).length = w := by
        cases b with
        | nil => exact absurd rfl h0
        | cons y b => exact (hb y (List.mem_cons_self ..)).1
      have i0 : inb (0 : Int) (zz b).length = true := by rw [zz_len]; exact inb_nat hbp
      simp only [cnT (show ((ap.length : Nat) : Int) < ((ap.length + (x :: aq).length : Nat) : Int) by simp only [List.length_cons]; omega), Int.toNat_natCast, ez, i0, inb_nat (show ap.length < ap.length + (aq.length + 1) by omega), gd_t, zz_mid x ap aq ap.length rfl, eg, zs_len, ew, mk_int (show w ≤ 1073741824 by omega), zs_rep]
      have := ih (ap ++ [x]) (o ++ [comb x b (List.replicate w 0)]) (fun a ha => hx a (List.mem_cons_of_mem _ ha)) (by simp; omega) (by simp; omega)
      have l2 := s_l3Times.l2_ev hw (zz (ap ++ x :: aq)) ((ap.length + (x :: aq).length : Nat) : Int) (ap.length : Int) (zz o) (by rw [zz_len]; omega) x b [] [] (List.replicate w 0) hx0.1 rfl hx0.2.1 hx0.2.2 hb (by simp) (sml_rep _) (by simp; omega) (r := zz (o ++ tm (x :: aq) b)) (by
        simp only [List.nil_append]
        rw [wrap_succ (show ap.length < 9223372036854775807 by omega)]
        have e5 : zz o ++ [zs (comb x b (List.replicate w 0))] = zz (o ++ [comb x b (List.replicate w 0)]) := by simp [zz]
        have e6 : o ++ [comb x b (List.replicate w 0)] ++ tm aq b = o ++ tm (x :: aq) b := by
          unfold tm
          rw [ew, List.map_cons, List.append_assoc]; rfl
        rw [e6] at this
        simp only [List.length_append, List.length_cons, List.length_nil, List.append_assoc, List.cons_append, List.nil_append] at this ⊢
        have e4 : ap.length + (0 + 1) + aq.length = ap.length + (aq.length + 1) := by omega
        rw [e4] at this
        simp only [e5]
        exact this)
      have l2' := l2.diag
      simp only [List.length_nil, Nat.zero_add, List.nil_append] at l2'
      exact l2'
  refine Ev.congr ?_ fun k => s_l3Times.f_eq k _ _
  have := (key a [] [] ha rfl (by simpa using hal)).diag
  simp only [List.length_nil, Nat.zero_add, List.nil_append] at this
  rw [zz_len]
  exact this
/-! ### The matrix of the code -/
def idL (n : Nat) : List (List Nat) := (List.range n).map fun i => (List.replicate n 0).set i 1
/-- The identity of three rows and two parity rows. -/
def codeM : List (List Nat) := [[1, 0, 0], [0, 1, 0], [0, 0, 1], [gi 2, gi 3, gi 4], [gi 3, gi 2, gi 5]]
theorem i_identity.three (k : Nat) : i_identity.f (k + 4) 3 = some [[1, 0, 0], [0, 1, 0], [0, 0, 1]] :=
  (i_identity.f_eq _ _).trans (show i_identity.l0 (k + 4) (k + 4) 3 3 0 [] = _ by kernel_rfl)
theorem s_l2Identity.three (k : Nat) : s_l2Identity.f (k + 4) 3 = some [[1, 0, 0], [0, 1, 0], [0, 0, 1]] :=
  (s_l2Identity.f_eq _ _).trans (show s_l2Identity.l0 (k + 4) (k + 4) 3 0 [] = _ by kernel_rfl)
theorem i_codeMatrix.raw (k : Nat) : i_codeMatrix.l0 (k + 4) (k + 4) 3 2 2 0 [[1, 0, 0], [0, 1, 0], [0, 0, 1]] =
  (i_inverse.f (k + 4) 2).bind fun a => (i_inverse.f (k + 4) 3).bind fun b => (i_inverse.f (k + 4) 4).bind fun c =>
  (i_inverse.f (k + 4) 3).bind fun d => (i_inverse.f (k + 4) 2).bind fun e => (i_inverse.f (k + 4) 5).bind fun f =>
  some [[1, 0, 0], [0, 1, 0], [0, 0, 1], [a, b, c], [d, e, f]] := by kernel_rfl
theorem Ev.shift {R : Type} {g : Nat → Option R} {r : R} (n : Nat) (h : Ev (fun k => g (k + n)) r) : Ev g r := by
  obtain ⟨K, hK⟩ := h
  refine ⟨K + n, fun k hk => ?_⟩
  have : g (k - n + n) = some r := hK (k - n) (by omega)
  rwa [Nat.sub_add_cancel (by omega)] at this
theorem Ev.up {R : Type} {g : Nat → Option R} {r : R} (n : Nat) (h : Ev g r) : Ev (fun k => g (k + n)) r := by
  obtain ⟨K, hK⟩ := h
  exact ⟨K, fun k hk => hK (k + n) (by omega)⟩
theorem codeM_zz : zz codeM = [[1, 0, 0], [0, 1, 0], [0, 0, 1], [((gi 2 : Nat) : Int), (gi 3 : Nat), (gi 4 : Nat)], [((gi 3 : Nat) : Int), (gi 2 : Nat), (gi 5 : Nat)]] := rfl
theorem i_inverse.up (a : Nat) (z : Int) (hz : z = (a : Int)) (h : a < 256) : Ev (fun k => i_inverse.f (k + 4) z) ((gi a : Nat) : Int) := by
  subst hz
  have := Ev.up 4 (i_inverse.ev h)
  exact this
theorem i_codeMatrix.ev : Ev (fun k => i_codeMatrix.f k 3 2) (zz codeM) := by
  refine Ev.shift 4 ?_
  refine Ev.congr (Ev.congr ?_ i_codeMatrix.raw) fun k => by rw [i_codeMatrix.f_eq, i_identity.three, Option.bind_some]
  refine .bind (i_inverse.up 2 2 rfl (by omega)) ?_
  refine .bind (i_inverse.up 3 3 rfl (by omega)) ?_
  refine .bind (i_inverse.up 4 4 rfl (by omega)) ?_
  refine .bind (i_inverse.up 3 3 rfl (by omega)) ?_
  refine .bind (i_inverse.up 2 2 rfl (by omega)) ?_
  refine .bind (i_inverse.up 5 5 rfl (by omega)) ?_
  exact .const fun _ => rfl
theorem s_l2Cauchy.raw (k : Nat) : s_l2Cauchy.l0 (k + 4) (k + 4) [2, 3, 4] [0, 1] 2 0 [] =
  (s_l1Div.f (k + 4) 1 2).bind fun a => (s_l1Div.f (k + 4) 1 3).bind fun b => (s_l1Div.f (k + 4) 1 4).bind fun c =>
  (s_l1Div.f (k + 4) 1 3).bind fun d => (s_l1Div.f (k + 4) 1 2).bind fun e => (s_l1Div.f (k + 4) 1 5).bind fun f =>
  some [[a, b, c], [d, e, f]] := by kernel_rfl
theorem s_l1Div.one (a : Nat) (z : Int) (hz : z = (a : Int)) (h : a < 256) : Ev (fun k => s_l1Div.f (k + 4) 1 z) ((gi a : Nat) : Int) := by
  subst hz
  have := Ev.up 4 (s_l1Div.ev (a := 1) (b := a) (by omega) h)
  rw [gm_one _ (gi_lt h)] at this
  exact this
theorem s_l3Matrix.raw (k : Nat) : s_l3Matrix.l0 (k + 4) (k + 4) 3 2 0 [] [] =
  (s_l2Identity.f (k + 4) 3).bind fun a => (s_l2Cauchy.f (k + 4) [0, 1] [2, 3, 4]).bind fun b =>
  gd (appOk (List.length a + List.length b) (Try.prog.bytesOf (27 : Nat))) (some (a ++ b)) := by kernel_rfl
theorem s_l3Matrix.ev : Ev (fun k => s_l3Matrix.f k 3 2) (zz codeM) := by
  refine Ev.shift 4 ?_
  refine Ev.congr (Ev.congr ?_ s_l3Matrix.raw) fun k => s_l3Matrix.f_eq (k + 4) 3 2
  simp only [s_l2Identity.three, Option.bind_some, s_l2Cauchy.f_eq]
  refine .bind (d := [[((gi 2 : Nat) : Int), (gi 3 : Nat), (gi 4 : Nat)], [((gi 3 : Nat) : Int), (gi 2 : Nat), (gi 5 : Nat)]]) ?_ ?_
  · refine Ev.congr ?_ s_l2Cauchy.raw
    refine .bind (s_l1Div.one 2 2 rfl (by omega)) ?_
    refine .bind (s_l1Div.one 3 3 rfl (by omega)) ?_
    refine .bind (s_l1Div.one 4 4 rfl (by omega)) ?_
    refine .bind (s_l1Div.one 3 3 rfl (by omega)) ?_
    refine .bind (s_l1Div.one 2 2 rfl (by omega)) ?_
    refine .bind (s_l1Div.one 5 5 rfl (by omega)) ?_
    exact .const fun _ => rfl
  · refine .const fun _ => ?_
    rw [appOk_le bytes_row (by simp), gd_t, codeM_zz]; rfl
theorem codeM_ok : ∀ r ∈ codeM, r.length = 3 ∧ sml r ∧ ∀ c ∈ r, Com c := by
  have h : ∀ c ∈ [0, 1, gi 2, gi 3, gi 4, gi 5], c < 256 ∧ Com c := by decide +kernel
  intro r hr
  have key : r.length = 3 ∧ ∀ c ∈ r, c ∈ [0, 1, gi 2, gi 3, gi 4, gi 5] := by
    simp only [codeM, List.mem_cons, List.not_mem_nil, or_false] at hr
    rcases hr with rfl | rfl | rfl | rfl | rfl <;> exact ⟨rfl, by simp⟩
  exact ⟨key.1, fun c hc => (h c (key.2 c hc)).1, fun c hc => (h c (key.2 c hc)).2⟩
theorem i_encoded.ev {w : Nat} (hw : w ≤ 1048576) (b : List (List Nat)) (hb : ∀ p ∈ b, p.length = w ∧ sml p) (h3 : b.length = 3) : Ev (fun k => i_encoded.f k (zz b) 2) (zz (tm codeM b)) := by
  refine Ev.congr ?_ fun k => i_encoded.f_eq k _ _
  have e : ((zz b).length : Int) = 3 := by rw [zz_len, h3]; rfl
  rw [e]
  refine .bind i_codeMatrix.ev ?_
  refine .bind (i_times.ev hw b hb (by intro h; rw [h] at h3; simp at h3) (by omega) codeM (fun r hr => ⟨by rw [(codeM_ok r hr).1, h3], (codeM_ok r hr).2.1⟩) (by simp [codeM])) ?_
  exact .const fun _ => rfl
theorem s_l3Encode.ev {w : Nat} (hw : w ≤ 1048576) (b : List (List Nat)) (hb : ∀ p ∈ b, p.length = w ∧ sml p) (h3 : b.length = 3) : Ev (fun k => s_l3Encode.f k (zz b) 2) (zz (tm codeM b)) := by
  refine Ev.congr ?_ fun k => s_l3Encode.f_eq k _ _
  have e : ((zz b).length : Int) = 3 := by rw [zz_len, h3]; rfl
  rw [e]
  refine .bind s_l3Matrix.ev ?_
  refine .bind (s_l3Times.ev hw b hb (by intro h; rw [h] at h3; simp at h3) (by omega) codeM (fun r hr => ⟨by rw [(codeM_ok r hr).1, h3], (codeM_ok r hr).2.1, (codeM_ok r hr).2.2⟩) (by simp [codeM])) ?_
  exact .const fun _ => rfl
/-! ### The pieces of a text -/
theorem gdYes {A : Type} {b : Bool} {x : Option A} (h : b = true) : gd b x = x := by subst h; rfl
theorem repL_eq : ∀ n, (⟨(Lib.repeatL [(0 : UInt8)] n).toArray⟩ : ByteArray) = strOfNums (List.replicate n (0 : Int)) := by
  intro n
  unfold strOfNums
  congr 1
  have e : ∀ n, Lib.repeatL [(0 : UInt8)] n = (List.replicate n (0 : Int)).map fun n => UInt8.ofNat n.toNat := by
    intro n
    induction n with
    | zero => rfl
    | succ n ih => rw [Lib.repeatL, ih, List.replicate_succ, List.map_cons]; rfl
  rw [e n]
/-- A text with its length ahead and noughts behind. -/
def padT (t : ByteArray) : ByteArray := strOfNums [IntKind.u8.wrap (t.size : Int)] ++ t ++ strOfNums (List.replicate (47 - t.size) (0 : Int))
theorem padT_size {t : ByteArray} (h : t.size ≤ 47) : (padT t).size = 48 := by
  unfold padT
  rw [ByteArray.size_append, ByteArray.size_append, strOfNums_len, strOfNums_len]
  simp; omega
/-- Bytes of a text as numbers. -/
def nb (s : ByteArray) (i n : Nat) : List Nat := (List.range n).map fun j => (s.data.getD (i + j) 0).toNat
theorem nb_len (s : ByteArray) (i n : Nat) : (nb s i n).length = n := by simp [nb]
theorem nb_sml (s : ByteArray) (i n : Nat) : sml (nb s i n) := by
  intro x hx
  obtain ⟨j, _, rfl⟩ := List.mem_map.1 hx
  exact UInt8.toNat_lt _
theorem nb_succ (s : ByteArray) (i n : Nat) : nb s i (n + 1) = nb s i n ++ [(s.data.getD (i + n) 0).toNat] := by
  unfold nb
  rw [List.range_succ, List.map_append]; rfl
theorem getAt_ge {A : Type} {d : A} {l : List A} {i : Nat} (h : l.length ≤ i) : getAt d l i = d := by
  unfold getAt
  rw [List.getD_eq_getElem?_getD, List.getElem?_eq_none h]; rfl
theorem bytesL_ext (s : ByteArray) (i n : Nat) (h : i + n ≤ s.size) : bytesL (s.extract i (i + n)) = zs (nb s i n) := by
  have hl : (bytesL (s.extract i (i + n))).length = n := by
    unfold bytesL
    rw [List.length_map, Array.length_toList]
    show (s.extract i (i + n)).size = n
    rw [ByteArray.size_extract]; omega
  have hl2 : (zs (nb s i n)).length = n := by rw [zs_len, nb_len]
  unfold bytesL at hl ⊢
  unfold zs nb at hl2 ⊢
  refine List.ext_getElem (by rw [hl, hl2]) fun j h1 h2 => ?_
  rw [hl2] at h2
  simp only [List.getElem_map, List.getElem_range, Array.getElem_toList]
  have hj : i + j < s.data.size := by show i + j < s.size; omega
  have e : s.data.getD (i + j) 0 = s.data[i + j] := by unfold Array.getD; rw [dif_pos hj]; rfl
  rw [e]
  congr 2
  simp only [ByteArray.data_extract, Array.getElem_extract]
theorem zs_nth (l : List Nat) (i : Nat) (h : i < l.length) : getAt (0 : Int) (zs l) i = ((l[i] : Nat) : Int) := by
  rw [getAt_lt (by rw [zs_len]; exact h)]; simp [zs]
/-- The three data pieces. -/
def dataOf (s : ByteArray) : List (List Nat) := [nb s 0 16, nb s 16 16, nb s 32 16]
theorem dataOf_ok (s : ByteArray) : ∀ p ∈ dataOf s, p.length = 16 ∧ sml p := by
  intro p hp
  simp only [dataOf, List.mem_cons, List.not_mem_nil, or_false] at hp
  rcases hp with rfl | rfl | rfl <;> exact ⟨nb_len _ _ _, nb_sml _ _ _⟩
theorem data_eq (s : ByteArray) : (([] : List (List Int)) ++ [zs (nb s (0 * 16) 16)] ++ [zs (nb s (1 * 16) 16)] ++ [zs (nb s (2 * 16) 16)]) = zz (dataOf s) := by simp [zz, dataOf]
/-- The five pieces of a text. -/
def piecesT (t : ByteArray) : List (List Nat) := tm codeM (dataOf (padT t))
theorem piecesT_ok (t : ByteArray) : ∀ p ∈ piecesT t, p.length = 16 ∧ sml p := tm_ok (fun r hr => (codeM_ok r hr).2.1) (dataOf_ok _) (by simp [dataOf])
theorem piecesT_len (t : ByteArray) : (piecesT t).length = 5 := by unfold piecesT; rw [tm_len]; rfl
theorem i_piecesFor.l2_ev {r : List (List Int)} (s : ByteArray) (t : Int) (h1 : List (List Int)) (hl : h1.length ≤ 1048576) (l : List Nat) (hs : sml l) (hll : l.length ≤ 1048576) :
    Ev2 (fun k n0 => i_piecesFor.l0 k n0 s (IntKind.i64.wrap (t + (1 : Int))) (h1 ++ [zs l])) r →
    Ev3 (fun k n0 m => i_piecesFor.l2 k n0 m s t (l.length : Int) (0 : Int) h1 [] (zs l)) r := by
  intro hr
  have key : ∀ n j, j + n = l.length → Ev3 (fun k n0 m => i_piecesFor.l2 k n0 m s t (l.length : Int) (j : Int) h1 (zs (l.take j)) (zs l)) r := by
    intro n
    induction n with
    | zero =>
      intro j hj
      refine .step ?_ fun k m n => i_piecesFor.l2_s k m n _ _ _ _ _ _ _
      simp only [cnF (show ¬ ((j : Nat) : Int) < (l.length : Int) by omega), appOk_le bytes_row (show h1.length + 1 ≤ 1073741824 by omega), gd_t, List.take_of_length_le (show l.length ≤ j by omega)]
      exact .out hr
    | succ n ih =>
      intro j hj
      refine .step ?_ fun k m n => i_piecesFor.l2_s k m n _ _ _ _ _ _ _
      have hj' : j < l.length := by omega
      have hx : l[j] < 256 := hs _ (List.getElem_mem hj')
      have e1 : (zs (l.take j)).length = j := by rw [zs_len, List.length_take]; omega
      simp only [cnT (show ((j : Nat) : Int) < (l.length : Int) by omega), Int.toNat_natCast, zs_len, inb_nat hj', gd_t, zs_nth l j hj', wrap_eq (show (-9223372036854775808 : Int) ≤ ((l[j] : Nat) : Int) by omega) (show ((l[j] : Nat) : Int) ≤ 9223372036854775807 by omega), List.length_singleton, e1, wrap_succ (show j < 9223372036854775807 by omega), List.length_take, Nat.min_eq_left (show j ≤ l.length by omega), appOk_le bytes_int (show j + 1 ≤ 1073741824 by omega)]
      have e2 : zs (l.take j) ++ [((l[j] : Nat) : Int)] = zs (l.take (j + 1)) := by
        rw [List.take_succ_eq_append_getElem hj', zs_app]; rfl
      rw [e2]
      exact ih (j + 1) (by omega)
  exact key l.length 0 (by omega)
theorem i_piecesFor.ev (t : ByteArray) (ht : t.size ≤ 47) : Ev (fun k => i_piecesFor.f k t) (zz (piecesT t)) := by
  refine Ev.congr ?_ fun k => i_piecesFor.f_eq k _
  have hs := padT_size ht
  have e0 : (strOfNums [IntKind.u8.wrap (t.size : Int)]).size = 1 := by rw [strOfNums_len]; rfl
  have e1 : IntKind.i64.wrap ((48 : Int) - ((strOfNums [IntKind.u8.wrap (t.size : Int)] ++ t).size : Int)) = ((47 - t.size : Nat) : Int) := by
    rw [ByteArray.size_append, e0, wrap_eq (by omega) (by omega)]; omega
  simp only [e0, gdT (show 1 + t.size ≤ 140737488355328 by omega), e1]
  refine .bind (d := strOfNums (List.replicate (47 - t.size) (0 : Int))) (.const fun k => ?_) ?_
  · show repF _ _ = _
    unfold repF
    rw [gdT ⟨by omega, by omega, by show 1 ≤ 1000000; decide⟩, Int.toNat_natCast]
    exact congrArg some (repL_eq _)
  have e4 : (strOfNums [IntKind.u8.wrap (t.size : Int)] ++ t).size + (strOfNums (List.replicate (47 - t.size) (0 : Int))).size ≤ 140737488355328 := by
    rw [ByteArray.size_append, strOfNums_len, strOfNums_len]; simp; omega
  simp only [gdT e4]
  show Ev (fun k => i_piecesFor.l0 k k (padT t) 0 []) _
  have ext : ∀ i : Nat, i + 16 ≤ 48 → bytesL ((padT t).extract i (i + 16)) = zs (nb (padT t) i 16) := fun i hi => bytesL_ext _ _ _ (by omega)
  have one : ∀ (j : Nat) (z : Int) (z' : Int) (h1 : List (List Int)) (r : List (List Int)), z = (j : Int) → z' = ((j + 1 : Nat) : Int) → j < 3 → h1.length ≤ 5 → Ev2 (fun k m => i_piecesFor.l0 k m (padT t) z' (h1 ++ [zs (nb (padT t) (j * 16) 16)])) r →
      Ev2 (fun k m => i_piecesFor.l0 k m (padT t) z h1) r := by
    intro j z z' h1 r hz hz' hj hh h
    subst hz hz'
    refine .step ?_ fun k m => i_piecesFor.l0_s k m _ _ _
    have a1 : IntKind.i64.wrap ((j : Int) * 16) = ((j * 16 : Nat) : Int) := by rw [wrap_eq (by omega) (by omega)]; omega
    have a2 : IntKind.i64.wrap (IntKind.i64.wrap ((j : Int) + 1) * 16) = ((j * 16 + 16 : Nat) : Int) := by
      rw [wrap_succ (by omega), wrap_eq (by omega) (by omega)]; omega
    have hx : ((padT t).extract (j * 16) (j * 16 + 16)).size ≤ 70368744177664 := by rw [ByteArray.size_extract]; omega
    simp only [cnT (show (j : Int) < 3 by omega), a1, a2, Int.toNat_natCast, decide_eq_true (show (0 : Int) ≤ ((j * 16 : Nat) : Int) by omega), decide_eq_true (show ((j * 16 : Nat) : Int) ≤ ((j * 16 + 16 : Nat) : Int) by omega), decide_eq_true (show ((j * 16 + 16 : Nat) : Int) ≤ ((padT t).size : Int) by omega), Bool.and_true, gd_t, ext (j * 16) (by omega), gdT hx]
    have := (i_piecesFor.l2_ev (padT t) (j : Int) h1 (by omega) (nb (padT t) (j * 16) 16) (nb_sml _ _ _) (by rw [nb_len]; omega) (r := r) (by
      rw [wrap_succ (by omega)]; exact h)).diag
    rw [zs_len]
    exact this
  have all : Ev2 (fun k m => i_piecesFor.l0 k m (padT t) (0 : Int) []) (zz (piecesT t)) := by
    refine one 0 0 1 [] _ rfl rfl (by omega) (by simp) ?_
    refine one 1 1 2 _ _ rfl rfl (by omega) (by simp) ?_
    refine one 2 2 3 _ _ rfl rfl (by omega) (by simp) ?_
    rw [data_eq]
    refine .step ?_ fun k m => i_piecesFor.l0_s k m _ _ _
    simp only [cnF (show ¬ (3 : Int) < 3 by omega)]
    refine .bind (i_encoded.ev (w := 16) (by omega) (dataOf (padT t)) (dataOf_ok _) rfl) ?_
    exact .const fun _ _ => rfl
  exact all.diag
theorem s_l8Pieces.l2_ev {r : List (List Int)} (s : ByteArray) (hsz : s.size = 48) (j : Nat) (hj : j < 3) (h1 : List (List Int)) (hl : h1.length ≤ 5) :
    Ev2 (fun k n0 => s_l8Pieces.l0 k n0 s (IntKind.i64.wrap ((j : Int) + (1 : Int))) (h1 ++ [zs (nb s (j * 16) 16)])) r →
    Ev3 (fun k n0 m => s_l8Pieces.l2 k n0 m s (j : Int) (0 : Int) h1 []) r := by
  intro hr
  have key : ∀ (n i : Nat), i + n = 16 → Ev3 (fun k n0 m => s_l8Pieces.l2 k n0 m s (j : Int) (i : Int) h1 (zs (nb s (j * 16) i))) r := by
    intro n
    induction n with
    | zero =>
      intro i hi
      obtain rfl : i = 16 := by omega
      refine .step ?_ fun k m n => s_l8Pieces.l2_s k m n _ _ _ _ _
      simp only [cnF (show ¬ ((16 : Nat) : Int) < (16 : Int) by omega), appOk_le bytes_row (show h1.length + 1 ≤ 1073741824 by omega), gd_t]
      exact .out hr
    | succ n ih =>
      intro i hi
      refine .step ?_ fun k m n => s_l8Pieces.l2_s k m n _ _ _ _ _
      have a1 : IntKind.i64.wrap (IntKind.i64.wrap ((j : Int) * 16) + (i : Int)) = ((j * 16 + i : Nat) : Int) := by
        rw [wrap_eq (n := (j : Int) * 16) (by omega) (by omega), wrap_eq (by omega) (by omega)]; omega
      have hb : (s.data.getD (j * 16 + i) 0).toNat < 256 := UInt8.toNat_lt _
      have a2 : IntKind.i64.wrap (((s.data.getD (j * 16 + i) 0).toNat : Nat) : Int) = (((s.data.getD (j * 16 + i) 0).toNat : Nat) : Int) := wrap_eq (by omega) (by omega)
      simp only [cnT (show (i : Int) < 16 by omega), a1, Int.toNat_natCast, inb_nat (show j * 16 + i < s.size by omega), gd_t, a2, List.length_singleton, zs_len, nb_len, appOk_le bytes_int (show i + 1 ≤ 1073741824 by omega), wrap_succ (show i < 9223372036854775807 by omega)]
      have e2 : zs (nb s (j * 16) i) ++ [(((s.data.getD (j * 16 + i) 0).toNat : Nat) : Int)] = zs (nb s (j * 16) (i + 1)) := by
        rw [nb_succ, zs_app]; rfl
      rw [e2]
      exact ih (i + 1) (by omega)
  have := key 16 0 (by omega)
  rw [show zs (nb s (j * 16) 0) = [] from rfl] at this
  exact this
theorem s_l8Pieces.ev (t : ByteArray) (ht : t.size ≤ 47) : Ev (fun k => s_l8Pieces.f k t) (zz (piecesT t)) := by
  refine Ev.shift 2 (Ev.congr ?_ fun k => s_l8Pieces.f_eq (k + 2) _)
  have hs := padT_size ht
  have e0 : (strOfNums [IntKind.u8.wrap (t.size : Int)]).size = 1 := by rw [strOfNums_len]; rfl
  have e1 : IntKind.i64.wrap ((47 : Int) - (t.size : Int)) = ((47 - t.size : Nat) : Int) := by
    rw [wrap_eq (by omega) (by omega)]; omega
  have e3 : mkOk ((47 - t.size : Nat) : Int) ((47 - t.size : Nat) : Int) (Try.prog.bytesOf (5 : Nat)) = true := mk1 _ (by omega)
  have e4 : (strOfNums [IntKind.u8.wrap (t.size : Int)] ++ t).size + (strOfNums (List.replicate (47 - t.size) (0 : Int))).size ≤ 140737488355328 := by
    rw [ByteArray.size_append, strOfNums_len, strOfNums_len]; simp; omega
  have e5 : ∀ k n, s_l6Bytes.f (k + 2) n 1 = some (strOfNums [IntKind.u8.wrap n]) := fun k n => s_l6Bytes.one _ (by omega) n
  simp only [e5, Option.bind_some, e0, gdT (show 1 + t.size ≤ 140737488355328 by omega), e1, gdYes e3, Int.toNat_natCast, gdT e4, both_self, dup_eq]
  show Ev (fun k => s_l8Pieces.l0 (k + 2) (k + 2) (padT t) 0 []) _
  have one : ∀ (j : Nat) (z : Int) (z' : Int) (h1 : List (List Int)) (r : List (List Int)), z = (j : Int) → z' = ((j + 1 : Nat) : Int) → j < 3 → h1.length ≤ 5 → Ev2 (fun k m => s_l8Pieces.l0 k m (padT t) z' (h1 ++ [zs (nb (padT t) (j * 16) 16)])) r →
      Ev2 (fun k m => s_l8Pieces.l0 k m (padT t) z h1) r := by
    intro j z z' h1 r hz hz' hj hh h
    subst hz hz'
    refine .step ?_ fun k m => s_l8Pieces.l0_s k m _ _ _
    simp only [cnT (show (j : Int) < 3 by omega)]
    exact (s_l8Pieces.l2_ev (padT t) hs j hj h1 hh (r := r) (by
      rw [wrap_succ (by omega)]; exact h)).diag
  have all : Ev2 (fun k m => s_l8Pieces.l0 k m (padT t) (0 : Int) []) (zz (piecesT t)) := by
    refine one 0 0 1 [] _ rfl rfl (by omega) (by simp) ?_
    refine one 1 1 2 _ _ rfl rfl (by omega) (by simp) ?_
    refine one 2 2 3 _ _ rfl rfl (by omega) (by simp) ?_
    rw [data_eq]
    refine .step ?_ fun k m => s_l8Pieces.l0_s k m _ _ _
    simp only [cnF (show ¬ (3 : Int) < 3 by omega)]
    refine .bind (s_l3Encode.ev (w := 16) (by omega) (dataOf (padT t)) (dataOf_ok _) rfl) ?_
    exact .const fun _ _ => rfl
  have := Ev.up 2 all.diag
  exact this
/-! ### A stripe is written -/
theorem cnNo {A : Type} {b : Bool} {x y : A} (h : b = false) : cn b x y = y := by subst h; rfl
theorem cnYes {A : Type} {b : Bool} {x y : A} (h : b = true) : cn b x y = x := by subst h; rfl
theorem u8_small {x : Nat} (h : x < 256) : IntKind.u8.wrap (x : Int) = (x : Int) := by rw [u8_wrap]; omega
/-- A piece as bytes. -/
noncomputable def bodyT (l : List Nat) : ByteArray := strOfNums (zs l)
theorem bodyT_size (l : List Nat) : (bodyT l).size = l.length := by unfold bodyT; rw [strOfNums_len, zs_len]
theorem i_bodyOf.ev (l : List Nat) (hs : sml l) (hl : l.length ≤ 1048576) : Ev (fun k => i_bodyOf.f k (zs l)) (bodyT l) := by
  have key : ∀ n j : Nat, j + n = l.length → Ev2 (fun k m => i_bodyOf.l0 k m (zs l) (l.length : Int) (j : Int) (zs (l.take j))) (bodyT l) := by
    intro n
    induction n with
    | zero =>
      intro j hj
      refine .step ?_ fun k m => i_bodyOf.l0_s k m _ _ _ _
      simp only [cnF (show ¬ (j : Int) < (l.length : Int) by omega), List.take_of_length_le (show l.length ≤ j by omega)]
      exact .const fun _ _ => rfl
    | succ n ih =>
      intro j hj
      refine .step ?_ fun k m => i_bodyOf.l0_s k m _ _ _ _
      have hj' : j < l.length := by omega
      have hx : l[j] < 256 := hs _ (List.getElem_mem hj')
      have e2 : zs (l.take j) ++ [((l[j] : Nat) : Int)] = zs (l.take (j + 1)) := by
        rw [List.take_succ_eq_append_getElem hj', zs_app]; rfl
      simp only [cnT (show (j : Int) < (l.length : Int) by omega), Int.toNat_natCast, zs_len, inb_nat hj', gd_t, zs_nth l j hj', u8_small hx, List.length_singleton, wrap_succ (show j < 9223372036854775807 by omega), List.length_take, Nat.min_eq_left (show j ≤ l.length by omega), appOk_le bytes_uint8 (show j + 1 ≤ 1073741824 by omega), e2]
      exact ih (j + 1) (by omega)
  refine Ev.congr ?_ fun k => i_bodyOf.f_eq k _
  rw [zs_len]
  exact (key l.length 0 (by omega)).diag
theorem s_l8Text.ev (l : List Nat) (hs : sml l) (hl : l.length ≤ 1048576) : Ev (fun k => s_l8Text.f k (zs l)) (bodyT l) := by
  have key : ∀ n j : Nat, j + n = l.length → Ev2 (fun k m => s_l8Text.l0 k m (bodyT (l.take j)) (zs l) (l.length : Int) (j : Int)) (bodyT l) := by
    intro n
    induction n with
    | zero =>
      intro j hj
      refine .step ?_ fun k m => s_l8Text.l0_s k m _ _ _ _
      simp only [cnF (show ¬ (j : Int) < (l.length : Int) by omega), List.take_of_length_le (show l.length ≤ j by omega)]
      exact .const fun _ _ => rfl
    | succ n ih =>
      intro j hj
      refine .step ?_ fun k m => s_l8Text.l0_s k m _ _ _ _
      have hj' : j < l.length := by omega
      have hx : l[j] < 256 := hs _ (List.getElem_mem hj')
      have e2 : bodyT (l.take j) ++ strOfNums [((l[j] : Nat) : Int)] = bodyT (l.take (j + 1)) := by
        unfold bodyT
        rw [List.take_succ_eq_append_getElem hj', zs_app, strOfNums_append]; rfl
      have e3 : (bodyT (l.take j)).size + (strOfNums [((l[j] : Nat) : Int)]).size ≤ 140737488355328 := by
        rw [bodyT_size, strOfNums_len, List.length_take, List.length_singleton]; omega
      simp only [cnT (show (j : Int) < (l.length : Int) by omega), Int.toNat_natCast, zs_len, inb_nat hj', gd_t, zs_nth l j hj', u8_small hx, gdT e3, e2, wrap_succ (show j < 9223372036854775807 by omega)]
      exact ih (j + 1) (by omega)
  refine Ev.congr ?_ fun k => s_l8Text.f_eq k _
  rw [zs_len]
  exact (key l.length 0 (by omega)).diag
noncomputable abbrev frT (kind at_ ep : Int) (body : ByteArray) : ByteArray := strOfNums (frameL kind at_ ep body)
theorem frT_size (kind at_ ep : Int) (body : ByteArray) (hb : body.size ≤ 16) : (frT kind at_ ep body).size = 28 := by
  rw [strOfNums_len]
  unfold frameL
  rw [List.length_append, front24_len kind at_ ep body hb]
  rfl
theorem isOnly1 (k : Nat) (at_ : Int) (t : ByteArray) : i_isOnly.f k 1 at_ t [] true true false = some true := by
  rw [i_isOnly.f_eq]
  simp only [cn_t, cn_f]
  rfl
theorem bind3 {A C : Type} (d0 : A) (S : Option C) (L : A → Option C) : ((some true).bind fun d2 => cn (!d2) S (L d0)) = (some d0).bind fun d0 => (some true).bind fun d1 => cn (!d1) S (L d0) := rfl
theorem stepped1 (k : Nat) (p h : List ByteArray) (b : List Bool) (at_ : Int) (t : ByteArray) : i_stepped.f k p h b 1 at_ t [] =
    (i_ownDisk.f k p h b).bind fun d0 => (i_Disk_has.f k p h b at_).bind fun d1 => cn (!d1) (some (([], [], []), false))
      (i_stepped.l1000014 k 0 p h b 1 at_ t [] d0.1 d0.2.1 d0.2.2) := by
  rw [i_stepped.f_eq]
  have e := isOnly1 k at_ t
  generalize i_stepped.l1000014 k 0 p h b 1 at_ t [] = L
  generalize i_Disk_has.f k p h b at_ = H
  generalize i_ownDisk.f k p h b = O
  generalize hI : i_isOnly.f k 1 at_ t [] = I at e ⊢
  cases O with
  | none => rfl
  | some d0 =>
    cases H with
    | none => rfl
    | some d1 =>
      cases d1 with
      | false => rfl
      | true =>
        show (I true true false).bind _ = _
        rw [e]
        exact bind3 d0 _ (fun d => L d.1 d.2.1 d.2.2)
theorem i_stepped.write (p h : List ByteArray) (b : List Bool) (j : Nat) (t : ByteArray) (ht : t.size = 28) (hj : j < p.length) (hp : p.length ≤ 1048576) (hh : h.length = p.length) (hb : b.length = p.length) :
    Ev (fun k => i_stepped.f k p h b 1 (j : Int) t []) ((p, h.set j t, b), !getAt false b j) := by
  refine Ev.congr ?_ fun k => stepped1 k p h b j t
  refine .bind (.const fun k => i_ownDisk.eq k p h b (by omega) (by omega) (by omega)) ?_
  refine .bind (Ev.congr (Ev.bind (.const fun k => i_within.eq k _ _ _) (.const fun _ => rfl)) fun k => i_Disk_has.f_eq k p h b j) ?_
  have hw : IntKind.i64.wrap ((p.length : Int) - 1) = (p.length : Int) - 1 := wrap_eq (by omega) (by omega)
  have e1 : decide ((0 : Int) ≤ (j : Int) ∧ (j : Int) ≤ IntKind.i64.wrap ((p.length : Int) - 1)) = true := by rw [hw]; exact decide_eq_true ⟨by omega, by omega⟩
  simp only [e1, cnNo (show (!true) = false from rfl)]
  refine Ev.congr ?_ fun k => i_stepped.l1000014_s k 0 _ _ _ _ _ _ _ _ _ _
  simp only [cnT (show (1 : Int) = 1 from rfl), Int.toNat_natCast, gdYes (inb_nat (show j < h.length by omega)), gdYes (inb_nat (show j < b.length by omega))]
  cases hbj : getAt false b j with
  | false =>
    simp only [cnYes (show (!false) = true from rfl)]
    refine .bind (.const fun k => i_within.eq k _ _ _) ?_
    exact .const fun _ => by rw [decide_eq_true (show (1 : Int) ≤ (t.size : Int) ∧ (t.size : Int) ≤ 28 by omega)]; rfl
  | true =>
    simp only [cnNo (show (!true) = false from rfl)]
    exact .const fun _ => rfl
theorem i_writePiece.ev (p h : List ByteArray) (b : List Bool) (j : Nat) (ep : Int) (l : List Nat) (hs : sml l) (hl : l.length = 16) (hj : j < p.length) (hp : p.length ≤ 60000) (hh : h.length = p.length) (hb : b.length = p.length) (he : 0 ≤ ep ∧ ep ≤ 60000) :
    Ev (fun k => i_writePiece.f k p h b (j : Int) ep (zs l)) ((p, h.set j (frT 2 (j : Int) ep (bodyT l)), b), !getAt false b j) := by
  refine Ev.congr ?_ fun k => i_writePiece.f_eq k _ _ _ _ _ _
  have hbs : (bodyT l).size = 16 := by rw [bodyT_size, hl]
  refine .bind (i_bodyOf.ev l hs (by omega)) ?_
  refine .bind (.const fun k => i_GoodFrame.eq k _ _ _ _) ?_
  have g : goodF 2 (j : Int) ep (bodyT l) = true := by unfold goodF; rw [hbs]; exact decide_eq_true ⟨by omega, by omega, by omega, by omega, he.1, he.2, by omega⟩
  simp only [g, cnNo (show (!true) = false from rfl)]
  refine .bind (.of 40 fun k hk => i_frameBytes.eq k hk _ _ _ _ (by omega)) ?_
  refine .bind (i_stepped.write p h b j _ (frT_size _ _ _ _ (by omega)) hj (by omega) hh hb) ?_
  exact .const fun _ => rfl
theorem i_writePiece.no (p h : List ByteArray) (b : List Bool) (at_ ep : Int) (l : List Nat) (hs : sml l) (hl : l.length = 16) (he : ¬ (0 ≤ ep ∧ ep ≤ 60000)) :
    Ev (fun k => i_writePiece.f k p h b at_ ep (zs l)) (([], [], []), false) := by
  refine Ev.congr ?_ fun k => i_writePiece.f_eq k _ _ _ _ _ _
  refine .bind (i_bodyOf.ev l hs (by omega)) ?_
  refine .bind (.const fun k => i_GoodFrame.eq k _ _ _ _) ?_
  have g : goodF 2 at_ ep (bodyT l) = false := by unfold goodF; exact decide_eq_false fun h => he ⟨h.2.2.2.2.1, h.2.2.2.2.2.1⟩
  simp only [g, cnYes (show (!false) = true from rfl)]
  exact .const fun _ => rfl
theorem s_l7Step.put (k : Nat) (p h : List ByteArray) (b : List Bool) (j : Nat) (t : ByteArray) (ht : t.size = 28) (hj : j < p.length) (hh : h.length = p.length) (hb : b.length = p.length) (hbad : getAt false b j = false) : s_l7Step.f k p h b 1 (j : Int) t [] = some ((((), (), ()), true), p, h.set j t, b) := by
  rw [s_l7Step.f_eq]
  simp only [cnF (show ¬ (1 : Int) = 2 by decide), cnF (show ¬ (1 : Int) = 3 by decide), s_l7There.f_eq, cnT (show (0 : Int) ≤ (j : Int) by omega), Option.bind_some, decide_eq_true (show (j : Int) < (p.length : Int) by omega), Bool.not_true, cn_f]
  rw [cnF (by simp)]
  simp only [decide_true, cn_t]
  rw [inb_nat (by omega), gd_t, Int.toNat_natCast, hbad]
  simp only [Bool.not_false, cn_t]
  rw [s_l1In.eq, Option.bind_some, decide_eq_true (by omega : (1 : Int) ≤ (t.size : Int) ∧ (t.size : Int) ≤ 28), cn_t, inb_nat (by omega), gd_t]
theorem s_l7Step.putNo (k : Nat) (p h : List ByteArray) (b : List Bool) (j : Nat) (t : ByteArray) (hj : j < p.length) (hh : h.length = p.length) (hb : b.length = p.length) (hbad : getAt false b j = true) : s_l7Step.f k p h b 1 (j : Int) t [] = some ((((), (), ()), false), p, h, b) := by
  rw [s_l7Step.f_eq]
  simp only [cnF (show ¬ (1 : Int) = 2 by decide), cnF (show ¬ (1 : Int) = 3 by decide), cnF (show ¬ (1 : Int) = 4 by decide), cnF (show ¬ (1 : Int) = 5 by decide), cnF (show ¬ (1 : Int) = 6 by decide), s_l7There.f_eq, cnT (show (0 : Int) ≤ (j : Int) by omega), Option.bind_some, decide_eq_true (show (j : Int) < (p.length : Int) by omega), Bool.not_true, cn_f]
  rw [cnF (by simp)]
  simp only [decide_true, cn_t]
  rw [inb_nat (by omega), gd_t, Int.toNat_natCast, hbad]
  simp only [Bool.not_true, cn_f]
theorem s_l8Put.ev (p h : List ByteArray) (b : List Bool) (j : Nat) (ep : Int) (l : List Nat) (hs : sml l) (hl : l.length = 16) (hj : j < p.length) (hh : h.length = p.length) (hb : b.length = p.length) :
    Ev (fun k => s_l8Put.f k p h b (j : Int) ep (zs l)) (if getAt false b j = true then ((((), (), ()), false), p, h, b) else ((((), (), ()), true), p, h.set j (frT 2 (j : Int) ep (bodyT l)), b)) := by
  refine Ev.congr ?_ fun k => s_l8Put.f_eq k _ _ _ _ _ _
  have hbs : (bodyT l).size = 16 := by rw [bodyT_size, hl]
  refine .bind (s_l8Text.ev l hs (by omega)) ?_
  refine .bind (.of 40 fun k hk => s_l6Frame.eq k hk _ _ _ _ (by omega)) ?_
  by_cases hbj : getAt false b j = true
  · rw [if_pos hbj]
    refine .bind (.const fun k => s_l7Step.putNo k p h b j _ hj hh hb hbj) ?_
    exact .const fun _ => rfl
  · rw [if_neg hbj]
    refine .bind (.const fun k => s_l7Step.put k p h b j _ (frT_size _ _ _ _ (by omega)) hj hh hb (by simpa using hbj)) ?_
    exact .const fun _ => rfl
abbrev DkT : Type := List ByteArray × List ByteArray × List Bool
/-- Pieces are written from a sector on. -/
noncomputable def wrR (p : List ByteArray) (b : List Bool) (ep : Int) : List (List Nat) → Nat → List ByteArray → DkT × Bool
  | [], _, h => ((p, h, b), true)
  | q :: l, i, h => if getAt false b i = true then (([], [], []), false) else wrR p b ep l (i + 1) (h.set i (frT 2 (i : Int) ep (bodyT q)))
theorem i_WriteStripe.loop (p : List ByteArray) (b : List Bool) (at_ : Nat) (ep : Int) (he : 0 ≤ ep ∧ ep ≤ 60000) (hp : p.length ≤ 60000) (hb : b.length = p.length) :
    ∀ (l pre : List (List Nat)) (h : List ByteArray), (∀ q ∈ l, q.length = 16 ∧ sml q) → h.length = p.length → at_ + (pre.length + l.length) ≤ p.length →
      Ev2 (fun k m => i_WriteStripe.l0 k m (at_ : Int) ep ((pre.length + l.length : Nat) : Int) (pre.length : Int) p h b (zz (pre ++ l))) (wrR p b ep l (at_ + pre.length) h) := by
  intro l
  induction l with
  | nil =>
    intro pre h _ hh _
    refine .step ?_ fun k m => i_WriteStripe.l0_s k m _ _ _ _ _ _ _ _
    simp only [cnF (show ¬ (pre.length : Int) < ((pre.length + ([] : List (List Nat)).length : Nat) : Int) by simp)]
    exact .const fun _ _ => rfl
  | cons q l ih =>
    intro pre h hq hh hlen
    simp only [List.length_cons] at hlen
    refine .step ?_ fun k m => i_WriteStripe.l0_s k m _ _ _ _ _ _ _ _
    have ez : (zz (pre ++ q :: l)).length = pre.length + (l.length + 1) := by rw [zz_len]; simp
    have ew : IntKind.i64.wrap ((at_ : Int) + (pre.length : Int)) = ((at_ + pre.length : Nat) : Int) := by rw [wrap_eq (by omega) (by omega)]; omega
    have hq0 := hq q (List.mem_cons_self ..)
    simp only [cnT (show ((pre.length : Nat) : Int) < ((pre.length + (q :: l).length : Nat) : Int) by simp only [List.length_cons]; omega), Int.toNat_natCast, ez, gdYes (inb_nat (show pre.length < pre.length + (l.length + 1) by omega)), zz_mid q pre l pre.length rfl, ew, wrap_succ (show pre.length < 9223372036854775807 by omega)]
    refine .bind (i_writePiece.ev p h b (at_ + pre.length) ep q hq0.2 hq0.1 (by omega) hp hh hb he) ?_
    unfold wrR
    cases hbj : getAt false b (at_ + pre.length) with
    | true =>
      rw [if_pos rfl]
      exact .const fun _ _ => rfl
    | false =>
      rw [if_neg (by decide)]
      have := ih (pre ++ [q]) (h.set (at_ + pre.length) (frT 2 ((at_ + pre.length : Nat) : Int) ep (bodyT q))) (fun a ha => hq a (List.mem_cons_of_mem _ ha)) (by simp; omega) (by simp; omega)
      simp only [List.length_append, List.length_cons, List.length_nil, List.append_assoc, List.cons_append, List.nil_append] at this ⊢
      have e4 : pre.length + (0 + 1) + l.length = pre.length + (l.length + 1) := by omega
      rw [e4] at this
      refine Ev2.congr this fun k m => ?_
      exact cnNo rfl
theorem s_WriteStripe.loop (p : List ByteArray) (b : List Bool) (at_ : Nat) (ep : Int) (hp : p.length ≤ 60000) (hb : b.length = p.length) :
    ∀ (l pre : List (List Nat)) (h : List ByteArray), (∀ q ∈ l, q.length = 16 ∧ sml q) → h.length = p.length → at_ + (pre.length + l.length) ≤ p.length →
      Ev2 (fun k m => s_WriteStripe.l0 k m (at_ : Int) ep ((pre.length + l.length : Nat) : Int) (pre.length : Int) p h b (zz (pre ++ l))) (wrR p b ep l (at_ + pre.length) h) := by
  intro l
  induction l with
  | nil =>
    intro pre h _ hh _
    refine .step ?_ fun k m => s_WriteStripe.l0_s k m _ _ _ _ _ _ _ _
    simp only [cnF (show ¬ (pre.length : Int) < ((pre.length + ([] : List (List Nat)).length : Nat) : Int) by simp)]
    exact .const fun _ _ => rfl
  | cons q l ih =>
    intro pre h hq hh hlen
    simp only [List.length_cons] at hlen
    refine .step ?_ fun k m => s_WriteStripe.l0_s k m _ _ _ _ _ _ _ _
    have ez : (zz (pre ++ q :: l)).length = pre.length + (l.length + 1) := by rw [zz_len]; simp
    have ew : IntKind.i64.wrap ((at_ : Int) + (pre.length : Int)) = ((at_ + pre.length : Nat) : Int) := by rw [wrap_eq (by omega) (by omega)]; omega
    have hq0 := hq q (List.mem_cons_self ..)
    simp only [cnT (show ((pre.length : Nat) : Int) < ((pre.length + (q :: l).length : Nat) : Int) by simp only [List.length_cons]; omega), Int.toNat_natCast, ez, gdYes (inb_nat (show pre.length < pre.length + (l.length + 1) by omega)), zz_mid q pre l pre.length rfl, ew, wrap_succ (show pre.length < 9223372036854775807 by omega)]
    refine .bind (s_l8Put.ev p h b (at_ + pre.length) ep q hq0.2 hq0.1 (by omega) hh hb) ?_
    unfold wrR
    by_cases hbj : getAt false b (at_ + pre.length) = true
    · rw [if_pos hbj, if_pos hbj]
      exact .const fun _ _ => rfl
    · rw [if_neg hbj, if_neg hbj]
      have := ih (pre ++ [q]) (h.set (at_ + pre.length) (frT 2 ((at_ + pre.length : Nat) : Int) ep (bodyT q))) (fun a ha => hq a (List.mem_cons_of_mem _ ha)) (by simp; omega) (by simp; omega)
      simp only [List.length_append, List.length_cons, List.length_nil, List.append_assoc, List.cons_append, List.nil_append] at this ⊢
      have e4 : pre.length + (0 + 1) + l.length = pre.length + (l.length + 1) := by omega
      rw [e4] at this
      refine Ev2.congr this fun k m => ?_
      exact cnNo rfl
/-! ### A stripe, a scrub -/
abbrev ScT : Type := List ByteArray × List ByteArray × List Bool × List Int × Int × Int
/-- The disk with a stripe written. -/
noncomputable def wsR (p h : List ByteArray) (b : List Bool) (at_ ep : Int) (t : ByteArray) : DkT × Bool :=
  if goodD p h b = true ∧ (0 ≤ at_ ∧ at_ ≤ (p.length : Int) - 5) ∧ (0 ≤ ep ∧ ep ≤ 60000) ∧ t.size ≤ 47 then wrR p b ep (piecesT t) at_.toNat h else (([], [], []), false)
theorem i_WriteStripe.ev (p h : List ByteArray) (b : List Bool) (at_ ep : Int) (t : ByteArray) (hp : p.length ≤ 1048576) : Ev (fun k => i_WriteStripe.f k p h b at_ ep t) (wsR p h b at_ ep t) := by
  refine Ev.congr ?_ fun k => i_WriteStripe.f_eq k _ _ _ _ _ _
  have hw : IntKind.i64.wrap ((p.length : Int) - 5) = (p.length : Int) - 5 := wrap_eq (by omega) (by omega)
  have ef : Ev (fun k => i_fits.f k p h b at_) (goodD p h b && decide (0 ≤ at_ ∧ at_ ≤ (p.length : Int) - 5)) := by
    refine Ev.congr ?_ fun k => i_fits.f_eq k _ _ _ _
    refine .bind (.of 25 fun k hk => i_GoodDisk.eq k hk p h b) ?_
    cases hg : goodD p h b with
    | false => exact .const fun _ => rfl
    | true =>
      simp only [cnYes (show true = true from rfl)]
      refine .bind (.const fun k => i_within.eq k _ _ _) ?_
      exact .const fun _ => by rw [hw]; rfl
  refine .bind ef ?_
  by_cases hf : goodD p h b = true ∧ (0 ≤ at_ ∧ at_ ≤ (p.length : Int) - 5)
  case neg =>
    have e1 : (goodD p h b && decide (0 ≤ at_ ∧ at_ ≤ (p.length : Int) - 5)) = false := by
      cases hg : goodD p h b with
      | false => rfl
      | true => exact decide_eq_false fun h => hf ⟨hg, h⟩
    simp only [e1, cnYes (show (!false) = true from rfl)]
    unfold wsR
    rw [if_neg (fun h => hf ⟨h.1, h.2.1⟩)]
    exact .const fun _ => rfl
  have e1 : (goodD p h b && decide (0 ≤ at_ ∧ at_ ≤ (p.length : Int) - 5)) = true := by rw [hf.1, decide_eq_true hf.2]; rfl
  simp only [e1, cnNo (show (!true) = false from rfl)]
  by_cases ht : (48 : Int) ≤ (t.size : Int)
  · simp only [cnT ht]
    unfold wsR
    rw [if_neg (fun h => by omega)]
    exact .const fun _ => rfl
  simp only [cnF ht]
  refine .bind (i_piecesFor.ev t (by omega)) ?_
  obtain ⟨⟨g1, g2, g3, g4⟩, g5⟩ := goodD_iff.1 hf.1
  have hl := piecesT_len t
  have hok := piecesT_ok t
  have hu : wsR p h b at_ ep t = if 0 ≤ ep ∧ ep ≤ 60000 then wrR p b ep (piecesT t) at_.toNat h else (([], [], []), false) := by
    unfold wsR
    by_cases he : 0 ≤ ep ∧ ep ≤ 60000
    · rw [if_pos ⟨hf.1, hf.2, he, by omega⟩, if_pos he]
    · rw [if_neg (fun h => he h.2.2.1), if_neg he]
  rw [hu]
  generalize piecesT t = l at hl hok ⊢
  obtain ⟨j, rfl⟩ : ∃ j : Nat, at_ = (j : Int) := ⟨at_.toNat, by omega⟩
  match l, hl with
  | q :: l, hl =>
  simp only [List.length_cons] at hl
  have hq0 := hok q (List.mem_cons_self ..)
  have ez : (zz (q :: l)).length = 5 := by rw [zz_len]; simp; omega
  have eq0 : getAt [] (zz (q :: l)) 0 = zs q := rfl
  have ew : IntKind.i64.wrap ((j : Int) + 0) = (j : Int) := by rw [wrap_eq (by omega) (by omega)]; omega
  have ew1 : IntKind.i64.wrap ((0 : Int) + 1) = 1 := by decide
  simp only [ez, cnT (show (0 : Int) < ((5 : Nat) : Int) by decide), gdT (show (0 : Int) < ((5 : Nat) : Int) by decide), gdYes (show inb (0 : Int) 5 = true from rfl), eq0, ew, ew1]
  by_cases he : 0 ≤ ep ∧ ep ≤ 60000
  case neg =>
    rw [if_neg he]
    refine .bind (i_writePiece.no p h b _ ep q hq0.2 hq0.1 he) ?_
    exact .const fun _ => rfl
  rw [if_pos he]
  refine .bind (i_writePiece.ev p h b j ep q hq0.2 hq0.1 (by omega) (by omega) g3 g4 he) ?_
  rw [Int.toNat_natCast]
  unfold wrR
  cases hbj : getAt false b j with
  | true =>
    rw [if_pos rfl]
    exact .const fun _ => rfl
  | false =>
    rw [if_neg (by decide)]
    have := i_WriteStripe.loop p b j ep he (by omega) g4 l [q] (h.set j (frT 2 (j : Int) ep (bodyT q))) (fun a ha => hok a (List.mem_cons_of_mem _ ha)) (by simp; omega) (by simp; omega)
    have e5 : (([q] : List (List Nat)).length + l.length : Nat) = 5 := by simp; omega
    rw [e5] at this
    refine Ev.congr this.diag fun k => ?_
    exact cnNo rfl
theorem s_WriteStripe.ev (p h : List ByteArray) (b : List Bool) (at_ ep : Int) (t : ByteArray) (hp : p.length ≤ 1048576) : Ev (fun k => s_WriteStripe.f k p h b at_ ep t) (wsR p h b at_ ep t) := by
  refine Ev.congr ?_ fun k => s_WriteStripe.f_eq k _ _ _ _ _ _
  have hw : IntKind.i64.wrap ((p.length : Int) - 5) = (p.length : Int) - 5 := wrap_eq (by omega) (by omega)
  refine .bind (.of 25 fun k hk => s_GoodDisk.eq k hk p h b) ?_
  cases hg : goodD p h b with
  | false =>
    simp only [cnYes (show (!false) = true from rfl)]
    unfold wsR
    rw [if_neg (fun h => by rw [hg] at h; exact absurd h.1 (by decide))]
    exact .const fun _ => rfl
  | true =>
  simp only [cnNo (show (!true) = false from rfl)]
  have ef : Ev (fun k => s_l8Fits.f k p h b at_) (decide (0 ≤ at_ ∧ at_ ≤ (p.length : Int) - 5)) := by
    refine Ev.congr ?_ fun k => s_l8Fits.f_eq k _ _ _ _
    rw [hw]
    by_cases h0 : 0 ≤ at_
    · simp only [cnT h0]
      exact .const fun _ => by simp [h0]
    · simp only [cnF h0]
      exact .const fun _ => by simp [h0]
  refine .bind ef ?_
  by_cases hf : 0 ≤ at_ ∧ at_ ≤ (p.length : Int) - 5
  case neg =>
    simp only [decide_eq_false hf, cnYes (show (!false) = true from rfl)]
    unfold wsR
    rw [if_neg (fun h => hf h.2.1)]
    exact .const fun _ => rfl
  simp only [decide_eq_true hf, cnNo (show (!true) = false from rfl)]
  refine .bind (.const fun k => s_l1In.eq k _ _ _) ?_
  by_cases he : 0 ≤ ep ∧ ep ≤ 60000
  case neg =>
    simp only [decide_eq_false he, cnYes (show (!false) = true from rfl)]
    unfold wsR
    rw [if_neg (fun h => he h.2.2.1)]
    exact .const fun _ => rfl
  simp only [decide_eq_true he, cnNo (show (!true) = false from rfl)]
  by_cases ht : (47 : Int) < (t.size : Int)
  · simp only [cnT ht]
    unfold wsR
    rw [if_neg (fun h => by omega)]
    exact .const fun _ => rfl
  simp only [cnF ht]
  obtain ⟨⟨g1, g2, g3, g4⟩, g5⟩ := goodD_iff.1 hg
  refine .bind (.const fun k => s_l7Own.eq k p h b (by omega) (by omega) (by omega)) ?_
  refine .bind (s_l8Pieces.ev t (by omega)) ?_
  have hl := piecesT_len t
  have hok := piecesT_ok t
  have hu : wsR p h b at_ ep t = wrR p b ep (piecesT t) at_.toNat h := by
    unfold wsR
    rw [if_pos ⟨hg, hf, he, by omega⟩]
  rw [hu]
  generalize piecesT t = l at hl hok ⊢
  obtain ⟨j, rfl⟩ : ∃ j : Nat, at_ = (j : Int) := ⟨at_.toNat, by omega⟩
  rw [Int.toNat_natCast, zz_len]
  have := s_WriteStripe.loop p b j ep (by omega) g4 l [] h hok g3 (by simp; omega)
  simp only [List.length_nil, Nat.zero_add, Nat.add_zero, List.nil_append] at this
  exact this.diag
theorem getAt_set_eq {A : Type} {d : A} {l : List A} {i : Nat} {x : A} (h : i < l.length) : getAt d (l.set i x) i = x := by
  rw [getAt_lt (by simpa using h)]; simp
theorem getAt_set_ne {A : Type} {d : A} {l : List A} {i j : Nat} {x : A} (h : i ≠ j) : getAt d (l.set i x) j = getAt d l j := by
  unfold getAt
  rw [List.getD_eq_getElem?_getD, List.getD_eq_getElem?_getD, List.getElem?_set_ne h]
theorem goodD_put {p h : List ByteArray} {b : List Bool} (g : goodD p h b = true) {i : Nat} (hi : i < p.length) {t : ByteArray} (ht : t.size ≤ 28) (hb : getAt false b i = false) : goodD p (h.set i t) b = true := by
  obtain ⟨⟨g1, g2, g3, g4⟩, g5⟩ := goodD_iff.1 g
  refine goodD_iff.2 ⟨⟨g1, g2, by simpa using g3, g4⟩, fun j hj => ?_⟩
  obtain ⟨h1, h2, h3⟩ := g5 j hj
  by_cases e : i = j
  · subst e
    rw [getAt_set_eq (by omega)]
    exact ⟨h1, ht, fun h => by rw [hb] at h; cases h⟩
  · rw [getAt_set_ne e]
    exact ⟨h1, h2, h3⟩
theorem wrR_ok (p : List ByteArray) (b : List Bool) (ep : Int) : ∀ (l : List (List Nat)) (i : Nat) (h : List ByteArray), (∀ q ∈ l, q.length = 16 ∧ sml q) → goodD p h b = true → i + l.length ≤ p.length →
    wrR p b ep l i h = (([], [], []), false) ∨ ∃ h', wrR p b ep l i h = ((p, h', b), true) ∧ goodD p h' b = true
  | [], i, h, _, g, _ => .inr ⟨h, rfl, g⟩
  | q :: l, i, h, hq, g, hl => by
    unfold wrR
    cases hb : getAt false b i with
    | true => rw [if_pos rfl]; exact .inl rfl
    | false =>
      rw [if_neg (by decide)]
      have hq0 := hq q (List.mem_cons_self ..)
      exact wrR_ok p b ep l (i + 1) _ (fun a ha => hq a (List.mem_cons_of_mem _ ha)) (goodD_put g (by simp at hl; omega) (by rw [frT_size _ _ _ _ (by rw [bodyT_size]; omega)]; decide) hb) (by simp at hl; omega)
theorem wsR_ok (p h : List ByteArray) (b : List Bool) (at_ ep : Int) (t : ByteArray) : wsR p h b at_ ep t = (([], [], []), false) ∨ ∃ h', wsR p h b at_ ep t = ((p, h', b), true) ∧ goodD p h' b = true := by
  unfold wsR
  split
  · rename_i hc
    exact wrR_ok p b ep _ _ h (piecesT_ok t) hc.1 (by rw [piecesT_len]; omega)
  · exact .inl rfl
theorem mk_str {n : Nat} (h : n ≤ 1048576) : mkOk (n : Int) (n : Int) (Try.prog.bytesOf (9 : Nat)) = true := by
  have e : Try.prog.bytesOf (9 : Nat) = 16 := by kernel_rfl
  rw [e]; unfold mkOk; simp; omega
theorem mk_bool {n : Nat} (h : n ≤ 1048576) : mkOk (n : Int) (n : Int) (Try.prog.bytesOf (4 : Nat)) = true := by
  have e : Try.prog.bytesOf (4 : Nat) = 1 := by kernel_rfl
  rw [e]; unfold mkOk; simp; omega
abbrev nDk (n : Nat) : DkT × Bool := ((List.replicate n ByteArray.empty, List.replicate n ByteArray.empty, List.replicate n false), true)
theorem i_NewDisk.some (k n : Nat) (h1 : 1 ≤ n) (h2 : n ≤ 24) : i_NewDisk.f k (n : Int) = some (nDk n) := by
  rw [i_NewDisk.f_eq, i_within.eq, decide_eq_true (show (1 : Int) ≤ (n : Int) ∧ (n : Int) ≤ 24 by omega), Option.bind_some, cnNo (show (!true) = false from rfl)]
  simp only [gdYes (mk_str (n := n) (by omega)), gdYes (mk_bool (n := n) (by omega)), both_self, dup_eq, Int.toNat_natCast]
theorem s_NewDisk.some (k n : Nat) (h1 : 1 ≤ n) (h2 : n ≤ 24) : s_NewDisk.f k (n : Int) = some (nDk n) := by
  rw [s_NewDisk.f_eq, s_l1In.eq, decide_eq_true (show (1 : Int) ≤ (n : Int) ∧ (n : Int) ≤ 24 by omega), Option.bind_some, cnNo (show (!true) = false from rfl)]
  simp only [gdYes (mk_str (n := n) (by omega)), gdYes (mk_bool (n := n) (by omega)), both_self, dup_eq, Int.toNat_natCast]
theorem goodD_new {n : Nat} (h1 : 1 ≤ n) (h2 : n ≤ 24) : goodD (List.replicate n ByteArray.empty) (List.replicate n ByteArray.empty) (List.replicate n false) = true := by
  refine goodD_iff.2 ⟨⟨by simp; omega, by simp; omega, by simp, by simp⟩, fun i _ => ?_⟩
  rw [getAt_replicate]
  exact ⟨by decide, by decide, fun _ => rfl⟩
noncomputable def nsR (p : List ByteArray) (b : List Bool) : List ByteArray → Nat → List ByteArray → List Int → ScT × Bool
  | [], _, h, e => ((crashP p h (heldL h), noText p.length, b, e, 0, 0), true)
  | t :: l, j, h, e => if (wsR p h b ((5 * j : Nat) : Int) 1 t).2 = true then nsR p b l (j + 1) (wsR p h b ((5 * j : Nat) : Int) 1 t).1.2.1 (e ++ [1]) else (([], [], [], [], 0, 0), false)
theorem nsR_len (p : List ByteArray) (b : List Bool) (hp : p.length ≤ 24) (hb : b.length = p.length) : ∀ (l : List ByteArray) (j : Nat) (h : List ByteArray) (e : List Int), e.length + l.length ≤ 10 →
    (nsR p b l j h e).1.1.length ≤ 24 ∧ (nsR p b l j h e).1.2.1.length ≤ 24 ∧ (nsR p b l j h e).1.2.2.1.length ≤ 24 ∧ (nsR p b l j h e).1.2.2.2.1.length ≤ 24
  | [], j, h, e, he => by
    unfold nsR
    refine ⟨by rw [crashP_len]; exact hp, by simp; exact hp, by show b.length ≤ 24; omega, by show e.length ≤ 24; simp at he; omega⟩
  | t :: l, j, h, e, he => by
    unfold nsR
    split
    · exact nsR_len p b hp hb l (j + 1) _ _ (by simp at he ⊢; omega)
    · exact ⟨by simp, by simp, by simp, by simp⟩
theorem i_NewScrub.loop (p : List ByteArray) (b : List Bool) (x y : Int) (a1 a2 : List ByteArray) (a3 : List Bool) : ∀ (l pre : List ByteArray) (h : List ByteArray) (e : List Int), goodD p h b = true → pre.length + l.length ≤ 4 → e.length ≤ pre.length →
    Ev2 (fun k m => i_NewScrub.l0 k m (pre ++ l) ((pre.length + l.length : Nat) : Int) (pre.length : Int) x y p h b a1 a2 a3 e 0 0) (nsR p b l pre.length h e) := by
  intro l
  induction l with
  | nil =>
    intro pre h e g hl he
    obtain ⟨⟨g1, g2, g3, g4⟩, g5⟩ := goodD_iff.1 g
    refine .step ?_ fun k m => i_NewScrub.l0_s k m _ _ _ _ _ _ _ _ _ _ _ _ _ _
    simp only [cnF (show ¬ (pre.length : Int) < ((pre.length + ([] : List ByteArray).length : Nat) : Int) by simp)]
    have es : Ev (fun k => i_synced.f k p h b) (crashP p h (heldL h), noText p.length, b) := by
      refine Ev.congr ?_ fun k => i_synced.f_eq k _ _ _
      refine .bind (i_heldIn.ev p h b (by omega)) ?_
      refine .bind (i_crashed.ev p h b (heldL h) (by omega) g3 (by omega) (by have := heldFrom_len h 0; unfold heldL; omega)) ?_
      exact .const fun _ => rfl
    refine .bind es ?_
    exact .const fun _ _ => rfl
  | cons t l ih =>
    intro pre h e g hl he
    obtain ⟨⟨g1, g2, g3, g4⟩, g5⟩ := goodD_iff.1 g
    simp only [List.length_cons] at hl
    refine .step ?_ fun k m => i_NewScrub.l0_s k m _ _ _ _ _ _ _ _ _ _ _ _ _ _
    have ez : (pre ++ t :: l).length = pre.length + (l.length + 1) := by simp
    have ew : IntKind.i64.wrap ((5 : Int) * (pre.length : Int)) = ((5 * pre.length : Nat) : Int) := by rw [wrap_eq (by omega) (by omega)]; omega
    simp only [cnT (show ((pre.length : Nat) : Int) < ((pre.length + (t :: l).length : Nat) : Int) by simp only [List.length_cons]; omega), Int.toNat_natCast, ez, gdYes (inb_nat (show pre.length < pre.length + (l.length + 1) by omega)), dup_eq, both_self, i_firstOf.f_eq, Option.bind_some, getAt_mid ByteArray.empty t pre l pre.length rfl, ew, gdYes (appOk_le bytes_int (show e.length + 1 ≤ 1073741824 by omega)), wrap_succ (show pre.length < 9223372036854775807 by omega)]
    refine .bind (i_WriteStripe.ev p h b _ 1 t (by omega)) ?_
    unfold nsR
    rcases wsR_ok p h b ((5 * pre.length : Nat) : Int) 1 t with hr | ⟨h', hr, g'⟩
    · simp only [hr]
      rw [if_neg (by decide)]
      exact .const fun _ _ => rfl
    · simp only [hr]
      rw [if_pos trivial]
      have := ih (pre ++ [t]) h' (e ++ [1]) g' (by simp; omega) (by simp; omega)
      simp only [List.length_append, List.length_cons, List.length_nil, List.append_assoc, List.cons_append, List.nil_append] at this ⊢
      have e4 : pre.length + (0 + 1) + l.length = pre.length + (l.length + 1) := by omega
      rw [e4] at this
      refine Ev2.congr this fun k m => ?_
      exact cnNo rfl
theorem s_NewScrub.loop (p : List ByteArray) (b : List Bool) (x y : Int) (a1 a2 : List ByteArray) (a3 : List Bool) : ∀ (l pre : List ByteArray) (h : List ByteArray) (e : List Int), goodD p h b = true → pre.length + l.length ≤ 4 → e.length ≤ pre.length →
    Ev2 (fun k m => s_NewScrub.l0 k m (pre ++ l) ((pre.length + l.length : Nat) : Int) (pre.length : Int) x y a1 a2 a3 e 0 0 p h b) (nsR p b l pre.length h e) := by
  intro l
  induction l with
  | nil =>
    intro pre h e g hl he
    obtain ⟨⟨g1, g2, g3, g4⟩, g5⟩ := goodD_iff.1 g
    refine .step ?_ fun k m => s_NewScrub.l0_s k m _ _ _ _ _ _ _ _ _ _ _ _ _ _
    simp only [cnF (show ¬ (pre.length : Int) < ((pre.length + ([] : List ByteArray).length : Nat) : Int) by simp)]
    refine .bind (.const fun k => s_l7Own.eq k p h b (by omega) (by omega) (by omega)) ?_
    refine .bind (s_l7Held.ev p h b (by omega)) ?_
    refine .bind (s_l7Crash.ev p h b (heldL h) (by omega) g3 (by have := heldFrom_len h 0; unfold heldL; omega)) ?_
    exact .const fun _ _ => rfl
  | cons t l ih =>
    intro pre h e g hl he
    obtain ⟨⟨g1, g2, g3, g4⟩, g5⟩ := goodD_iff.1 g
    simp only [List.length_cons] at hl
    refine .step ?_ fun k m => s_NewScrub.l0_s k m _ _ _ _ _ _ _ _ _ _ _ _ _ _
    have ez : (pre ++ t :: l).length = pre.length + (l.length + 1) := by simp
    have ew : IntKind.i64.wrap ((5 : Int) * (pre.length : Int)) = ((5 * pre.length : Nat) : Int) := by rw [wrap_eq (by omega) (by omega)]; omega
    simp only [cnT (show ((pre.length : Nat) : Int) < ((pre.length + (t :: l).length : Nat) : Int) by simp only [List.length_cons]; omega), Int.toNat_natCast, ez, gdYes (inb_nat (show pre.length < pre.length + (l.length + 1) by omega)), getAt_mid ByteArray.empty t pre l pre.length rfl, ew, gdYes (appOk_le bytes_int (show e.length + 1 ≤ 1073741824 by omega)), wrap_succ (show pre.length < 9223372036854775807 by omega)]
    refine .bind (s_WriteStripe.ev p h b _ 1 t (by omega)) ?_
    unfold nsR
    rcases wsR_ok p h b ((5 * pre.length : Nat) : Int) 1 t with hr | ⟨h', hr, g'⟩
    · simp only [hr]
      rw [if_neg (by decide)]
      exact .const fun _ _ => rfl
    · simp only [hr]
      rw [if_pos trivial]
      have := ih (pre ++ [t]) h' (e ++ [1]) g' (by simp; omega) (by simp; omega)
      simp only [List.length_append, List.length_cons, List.length_nil, List.append_assoc, List.cons_append, List.nil_append] at this ⊢
      have e4 : pre.length + (0 + 1) + l.length = pre.length + (l.length + 1) := by omega
      rw [e4] at this
      refine Ev2.congr this fun k m => ?_
      exact cnNo rfl
theorem newScrub_both (ts : List ByteArray) (hl : ts.length ≤ 1048576) : ∃ r : ScT × Bool, Ev (fun k => i_NewScrub.f k ts) r ∧ Ev (fun k => s_NewScrub.f k ts) r ∧ r.1.1.length ≤ 24 ∧ r.1.2.1.length ≤ 24 ∧ r.1.2.2.1.length ≤ 24 ∧ r.1.2.2.2.1.length ≤ 24 := by
  by_cases hn : (1 : Int) ≤ (ts.length : Int) ∧ (ts.length : Int) ≤ 4
  case neg =>
    refine ⟨(([], [], [], [], 0, 0), false), ?_, ?_, by simp, by simp, by simp, by simp⟩
    · refine Ev.congr (Ev.bind (.const fun k => i_within.eq k _ _ _) ?_) fun k => i_NewScrub.f_eq k _
      simp only [decide_eq_false hn, cnYes (show (!false) = true from rfl)]
      exact .const fun _ => rfl
    · refine Ev.congr (Ev.bind (.const fun k => s_l1In.eq k _ _ _) ?_) fun k => s_NewScrub.f_eq k _
      simp only [decide_eq_false hn, cnYes (show (!false) = true from rfl)]
      exact .const fun _ => rfl
  have hw : IntKind.i64.wrap ((5 : Int) * (ts.length : Int)) = ((5 * ts.length : Nat) : Int) := by rw [wrap_eq (by omega) (by omega)]; omega
  have g := goodD_new (n := 5 * ts.length) (by omega) (by omega)
  refine ⟨nsR (List.replicate (5 * ts.length) ByteArray.empty) (List.replicate (5 * ts.length) false) ts 0 (List.replicate (5 * ts.length) ByteArray.empty) [], ?_, ?_, nsR_len _ _ (by simp; omega) (by simp) _ _ _ _ (by simp; omega)⟩
  · refine Ev.congr (Ev.bind (.const fun k => i_within.eq k _ _ _) ?_) fun k => i_NewScrub.f_eq k _
    simp only [decide_eq_true hn, cnNo (show (!true) = false from rfl), hw]
    refine .bind (.const fun k => i_NewDisk.some k _ (by omega) (by omega)) ?_
    have := i_NewScrub.loop (List.replicate (5 * ts.length) ByteArray.empty) (List.replicate (5 * ts.length) false) 0 0 [] [] [] ts [] (List.replicate (5 * ts.length) ByteArray.empty) [] g (by simp; omega) (by simp)
    simp only [List.length_nil, Nat.zero_add, List.nil_append] at this
    exact this.diag
  · refine Ev.congr (Ev.bind (.const fun k => s_l1In.eq k _ _ _) ?_) fun k => s_NewScrub.f_eq k _
    simp only [decide_eq_true hn, cnNo (show (!true) = false from rfl), hw]
    refine .bind (.const fun k => s_NewDisk.some k _ (by omega) (by omega)) ?_
    have := s_NewScrub.loop (List.replicate (5 * ts.length) ByteArray.empty) (List.replicate (5 * ts.length) false) 0 0 [] [] [] ts [] (List.replicate (5 * ts.length) ByteArray.empty) [] g (by simp; omega) (by simp)
    simp only [List.length_nil, Nat.zero_add, List.nil_append] at this
    exact this.diag
/-! ### A new store -/
abbrev StT : Type := List ByteArray × List ByteArray × List Bool × List Int × Int × Int × List (List Int) × List Int
theorem w_eqIntSS.ev (a : List (List Int)) (ha : a.length ≤ 1048576) (hx : ∀ x ∈ a, x.length ≤ maxLen) : Ev (fun k => w_eqIntSS.f k a a) true := by
  refine Ev.congr ?_ fun k => w_eqIntSS.f_eq k _ _
  simp only [decide_true, cnNo (show (!true) = false from rfl)]
  have key : ∀ n j : Nat, j + n = a.length → Ev2 (fun k m => w_eqIntSS.l0 k m a a (j : Int)) true := by
    intro n
    induction n with
    | zero =>
      intro j hj
      refine .step ?_ fun k m => w_eqIntSS.l0_s k m _ _ _
      simp only [cnF (show ¬ (j : Int) < (a.length : Int) by omega)]
      exact .const fun _ _ => rfl
    | succ n ih =>
      intro j hj
      have hj' : j < a.length := by omega
      refine .step ?_ fun k m => w_eqIntSS.l0_s k m _ _ _
      simp only [cnT (show (j : Int) < (a.length : Int) by omega), Int.toNat_natCast, gdYes (inb_nat hj'), wrap_succ (show j < 9223372036854775807 by omega)]
      refine .bind (w_eqIntS.ev _ (by rw [getAt_lt hj']; exact hx _ (List.getElem_mem hj'))) ?_
      refine Ev2.congr (ih (j + 1) (by omega)) fun k m => ?_
      exact cnNo rfl
  exact (key a.length 0 (by omega)).diag
def sumN : List Nat → Nat
  | [] => 0
  | n :: l => n + sumN l
def mkss : Nat → List Nat → List (List Int)
  | _, [] => []
  | s, n :: l => marks s n :: mkss (s + n) l
theorem mkss_len : ∀ (s : Nat) (l : List Nat), (mkss s l).length = l.length
  | _, [] => rfl
  | s, n :: l => by unfold mkss; simp [mkss_len]
theorem w_markIntSS.ev (a : List (List Int)) (s : Nat) (ha : a.length ≤ 1048576) (hs : s + sumN (a.map List.length) ≤ 9223372036854775806) : Ev (fun k => w_markIntSS.f k a (s : Int)) (((s + sumN (a.map List.length) : Nat) : Int), mkss s (a.map List.length)) := by
  have key : ∀ (rest done : List (List Int)) (s : Nat), done.length + rest.length ≤ 1048576 → s + sumN (rest.map List.length) ≤ 9223372036854775806 →
      Ev2 (fun k m => w_markIntSS.l0 k m (s : Int) (done.length : Int) (done ++ rest)) (((s + sumN (rest.map List.length) : Nat) : Int), done ++ mkss s (rest.map List.length)) := by
    intro rest
    induction rest with
    | nil =>
      intro done s _ _
      refine .step ?_ fun k m => w_markIntSS.l0_s k m _ _ _
      simp only [cnF (show ¬ (done.length : Int) < ((done ++ ([] : List (List Int))).length : Int) by simp)]
      exact .const fun _ _ => rfl
    | cons x rest ih =>
      intro done s hl hs
      simp only [List.length_cons, List.map_cons, sumN] at hl hs
      have ez : (done ++ x :: rest).length = done.length + (rest.length + 1) := by simp
      refine .step ?_ fun k m => w_markIntSS.l0_s k m _ _ _
      simp only [ez, cnT (show (done.length : Int) < ((done.length + (rest.length + 1) : Nat) : Int) by omega), Int.toNat_natCast, gdYes (inb_nat (show done.length < done.length + (rest.length + 1) by omega)), getAt_mid [] x done rest done.length rfl, wrap_succ (show done.length < 9223372036854775807 by omega)]
      refine .bind (w_markIntS.ev x s (by omega)) ?_
      have := ih (done ++ [marks s x.length]) (s + x.length) (by simp; omega) (by omega)
      simp only [List.length_append, List.length_cons, List.length_nil, List.append_assoc, List.cons_append, List.nil_append, List.map_cons, sumN, mkss] at this ⊢
      have e1 : (done ++ x :: rest).set done.length (marks s x.length) = done ++ marks s x.length :: rest := by simp
      have e2 : s + x.length + sumN (rest.map List.length) = s + (x.length + sumN (rest.map List.length)) := by omega
      rw [e1]
      rw [e2] at this
      exact this
  refine Ev.congr ?_ fun k => w_markIntSS.f_eq k _ _
  have := (key a [] s (by simpa using ha) hs).diag
  exact this
theorem w_heldIntSS.ev (l : List Nat) (s : Nat) (hl : l.length ≤ 1048576) (hs : s + sumN l ≤ 9223372036854775806) : Ev (fun k => w_heldIntSS.f k (mkss s l) (s : Int)) ((s + sumN l : Nat) : Int) := by
  have key : ∀ (l : List Nat) (pre : List (List Int)) (s : Nat), pre.length + l.length ≤ 1048576 → s + sumN l ≤ 9223372036854775806 →
      Ev2 (fun k m => w_heldIntSS.l0 k m (pre ++ mkss s l) (s : Int) (pre.length : Int)) ((s + sumN l : Nat) : Int) := by
    intro l
    induction l with
    | nil =>
      intro pre s _ _
      refine .step ?_ fun k m => w_heldIntSS.l0_s k m _ _ _
      simp only [cnF (show ¬ (pre.length : Int) < ((pre ++ mkss s []).length : Int) by simp [mkss])]
      exact .const fun _ _ => rfl
    | cons n l ih =>
      intro pre s hl hs
      simp only [List.length_cons, sumN] at hl hs
      have ez : (pre ++ mkss s (n :: l)).length = pre.length + (l.length + 1) := by rw [List.length_append, mkss_len]; rfl
      refine .step ?_ fun k m => w_heldIntSS.l0_s k m _ _ _
      have eg : getAt [] (pre ++ mkss s (n :: l)) pre.length = marks s n := getAt_mid [] (marks s n) pre (mkss (s + n) l) pre.length rfl
      simp only [ez, cnT (show (pre.length : Int) < ((pre.length + (l.length + 1) : Nat) : Int) by omega), Int.toNat_natCast, gdYes (inb_nat (show pre.length < pre.length + (l.length + 1) by omega)), eg, wrap_succ (show pre.length < 9223372036854775807 by omega)]
      refine .bind (w_heldIntS.ev s n (by omega)) ?_
      simp only [cnF (show ¬ ((s + n : Nat) : Int) < 0 by omega)]
      have := ih (pre ++ [marks s n]) (s + n) (by simp; omega) (by omega)
      simp only [List.length_append, List.length_cons, List.length_nil, List.append_assoc, List.cons_append, List.nil_append] at this
      have e2 : s + n + sumN l = s + sumN (n :: l) := by show s + n + sumN l = s + (n + sumN l); omega
      rw [e2] at this
      exact this
  refine Ev.congr ?_ fun k => w_heldIntSS.f_eq k _ _
  have := (key l [] s (by simpa using hl) hs).diag
  exact this
theorem w_eqStore.ev (p h : List ByteArray) (b : List Bool) (e : List Int) (c m : Int) (v : List (List Int)) (u : List Int) (hp : p.length ≤ maxLen) (hh : h.length ≤ maxLen) (hb : b.length ≤ maxLen) (he : e.length ≤ maxLen) (hv : v.length ≤ 1048576) (hx : ∀ x ∈ v, x.length ≤ maxLen) (hu : u.length ≤ maxLen) :
    Ev (fun k => w_eqStore.f k p h b e c m v u p h b e c m v u) true := by
  refine Ev.congr ?_ (fun k => w_eqStore.f_eq k _ _ _ _ _ _ _ _ _ _ _ _ _ _ _ _)
  refine Ev.bind (w_eqScrub.ev p h b e c m hp hh hb he) ?_
  simp only [cnNo (show (!true) = false from rfl)]
  refine Ev.bind (w_eqIntSS.ev v hv hx) ?_
  simp only [cnNo (show (!true) = false from rfl)]
  refine Ev.bind (w_eqIntS.ev u hu) ?_
  exact .const fun k => rfl
theorem w_markStore.ev (p h : List ByteArray) (b : List Bool) (e : List Int) (c m : Int) (v : List (List Int)) (u : List Int) (s : Nat) (hv : v.length ≤ 1048576) (hs : s + p.length + h.length + b.length + e.length + sumN (v.map List.length) + u.length ≤ 140737488355327) :
    Ev (fun k => w_markStore.f k p h b e c m v u (s : Int)) (((s + p.length + h.length + b.length + e.length + sumN (v.map List.length) + u.length : Nat) : Int), mks s p.length, mks (s + p.length) h.length, mbs (s + p.length + h.length) b.length, marks (s + p.length + h.length + b.length) e.length,
      mkss (s + p.length + h.length + b.length + e.length) (v.map List.length), marks (s + p.length + h.length + b.length + e.length + sumN (v.map List.length)) u.length) := by
  refine Ev.congr ?_ (fun k => w_markStore.f_eq k _ _ _ _ _ _ _ _ _)
  refine Ev.bind (w_markScrub.ev p h b e c m s (by omega)) ?_
  refine Ev.bind (w_markIntSS.ev v _ hv (by omega)) ?_
  refine Ev.bind (w_markIntS.ev u _ (by omega)) ?_
  exact .const fun k => rfl
theorem w_heldStore.ev (s a b c d : Nat) (l : List Nat) (u : Nat) (cu me : Int) (hl : l.length ≤ 1048576) (hs : s + a + b + c + d + sumN l + u ≤ 140737488355327) :
    Ev (fun k => w_heldStore.f k (mks s a) (mks (s + a) b) (mbs (s + a + b) c) (marks (s + a + b + c) d) cu me (mkss (s + a + b + c + d) l) (marks (s + a + b + c + d + sumN l) u) (s : Int)) ((s + a + b + c + d + sumN l + u : Nat) : Int) := by
  refine Ev.congr ?_ (fun k => w_heldStore.f_eq k _ _ _ _ _ _ _ _ _)
  refine Ev.bind (w_heldScrub.ev s a b c d cu me (by omega)) ?_
  simp only [cnF (show ¬ ((s + a + b + c + d : Nat) : Int) < 0 by omega)]
  refine Ev.bind (w_heldIntSS.ev l _ hl (by omega)) ?_
  simp only [cnF (show ¬ ((s + a + b + c + d + sumN l : Nat) : Int) < 0 by omega)]
  refine Ev.bind (w_heldIntS.ev _ u (by omega)) ?_
  exact .const fun k => by rw [cnF (show ¬ ((s + a + b + c + d + sumN l + u : Nat) : Int) < 0 by omega)]
theorem wrR_true (p : List ByteArray) (b : List Bool) (ep : Int) (hb : ∀ i, getAt false b i = false) : ∀ (l : List (List Nat)) (i : Nat) (h : List ByteArray), (wrR p b ep l i h).2 = true
  | [], _, _ => rfl
  | q :: l, i, h => by
    unfold wrR
    rw [hb i, if_neg (by decide)]
    exact wrR_true p b ep hb l (i + 1) _
theorem nsR_true (p : List ByteArray) (b : List Bool) (hb : ∀ i, getAt false b i = false) : ∀ (l : List ByteArray) (j : Nat) (h : List ByteArray) (e : List Int), (∀ t ∈ l, t.size ≤ 47) → goodD p h b = true → 5 * (j + l.length) ≤ p.length → (nsR p b l j h e).2 = true
  | [], _, _, _, _, _, _ => rfl
  | t :: l, j, h, e, hl, g, hj => by
    simp only [List.length_cons] at hj
    have e1 : (wsR p h b ((5 * j : Nat) : Int) 1 t).2 = true := by
      unfold wsR
      rw [if_pos ⟨g, ⟨by omega, by omega⟩, ⟨by decide, by decide⟩, hl t (List.mem_cons_self ..)⟩]
      exact wrR_true p b 1 hb _ _ _
    unfold nsR
    rw [if_pos e1]
    rcases wsR_ok p h b ((5 * j : Nat) : Int) 1 t with hr | ⟨h', hr, g'⟩
    · rw [hr] at e1; cases e1
    · rw [hr]
      exact nsR_true p b hb l (j + 1) _ _ (fun a ha => hl a (List.mem_cons_of_mem _ ha)) g' (by omega)
theorem newScrub_true (ts : List ByteArray) (h1 : 1 ≤ ts.length) (h4 : ts.length ≤ 4) (ht : ∀ t ∈ ts, t.size ≤ 47) (r : ScT × Bool) (hr : Ev (fun k => i_NewScrub.f k ts) r) : r.2 = true := by
  have hw : IntKind.i64.wrap ((5 : Int) * (ts.length : Int)) = ((5 * ts.length : Nat) : Int) := by rw [wrap_eq (by omega) (by omega)]; omega
  have g := goodD_new (n := 5 * ts.length) (by omega) (by omega)
  have hn : (1 : Int) ≤ (ts.length : Int) ∧ (ts.length : Int) ≤ 4 := by omega
  have e : Ev (fun k => i_NewScrub.f k ts) (nsR (List.replicate (5 * ts.length) ByteArray.empty) (List.replicate (5 * ts.length) false) ts 0 (List.replicate (5 * ts.length) ByteArray.empty) []) := by
    refine Ev.congr (Ev.bind (.const fun k => i_within.eq k _ _ _) ?_) fun k => i_NewScrub.f_eq k _
    simp only [decide_eq_true hn, cnNo (show (!true) = false from rfl), hw]
    refine .bind (.const fun k => i_NewDisk.some k _ (by omega) (by omega)) ?_
    have := i_NewScrub.loop (List.replicate (5 * ts.length) ByteArray.empty) (List.replicate (5 * ts.length) false) 0 0 [] [] [] ts [] (List.replicate (5 * ts.length) ByteArray.empty) [] g (by simp; omega) (by simp)
    simp only [List.length_nil, Nat.zero_add, List.nil_append] at this
    exact this.diag
  rw [Ev.unique hr e]
  exact nsR_true _ _ (fun i => getAt_replicate false _ i) ts 0 _ _ ht g (by simp)
theorem newStore_both (n : Int) : ∃ r : StT × Bool, Ev (fun k => i_NewStore.f k n) r ∧ Ev (fun k => s_NewStore.f k n) r ∧ r.1.1.length ≤ 24 ∧ r.1.2.1.length ≤ 24 ∧ r.1.2.2.1.length ≤ 24 ∧ r.1.2.2.2.1.length ≤ 24 ∧ (r.1.2.2.2.2.2.2 = ([], []) ∨ r.1.2.2.2.2.2.2 = ([[0, 0, 0, 0, 0]], [])) := by
  by_cases hn : (1 : Int) ≤ n ∧ n ≤ 4
  case neg =>
    refine ⟨(([], [], [], [], 0, 0, [], []), false), ?_, ?_, by simp, by simp, by simp, by simp, .inl rfl⟩
    · refine Ev.congr (Ev.bind (.const fun k => i_within.eq k _ _ _) ?_) fun k => i_NewStore.f_eq k _
      simp only [decide_eq_false hn, cnYes (show (!false) = true from rfl)]
      exact .const fun _ => rfl
    · refine Ev.congr (Ev.bind (.const fun k => s_l1In.eq k _ _ _) ?_) fun k => s_NewStore.f_eq k _
      simp only [decide_eq_false hn, cnYes (show (!false) = true from rfl)]
      exact .const fun _ => rfl
  obtain ⟨j, rfl⟩ : ∃ i : Nat, n = (i : Int) := ⟨n.toNat, by omega⟩
  have hl : (List.replicate j ByteArray.empty).length = j := by simp
  obtain ⟨r, ei, es, h1, h2, h3, h4⟩ := newScrub_both (List.replicate j ByteArray.empty) (by rw [hl]; omega)
  have hr : r.2 = true := newScrub_true _ (by rw [hl]; omega) (by rw [hl]; omega) (fun t ht => by rw [List.eq_of_mem_replicate ht]; decide) r ei
  refine ⟨((r.1.1, r.1.2.1, r.1.2.2.1, r.1.2.2.2.1, r.1.2.2.2.2.1, r.1.2.2.2.2.2, [[0, 0, 0, 0, 0]], []), true), ?_, ?_, h1, h2, h3, h4, .inr rfl⟩
  · refine Ev.congr (Ev.bind (.const fun k => i_within.eq k _ _ _) ?_) fun k => i_NewStore.f_eq k _
    simp only [decide_eq_true hn, cnNo (show (!true) = false from rfl), gdYes (mk_str (n := j) (by omega)), Int.toNat_natCast]
    refine .bind ei ?_
    exact .const fun _ => rfl
  · refine Ev.congr (Ev.bind (.const fun k => s_l1In.eq k _ _ _) ?_) fun k => s_NewStore.f_eq k _
    simp only [decide_eq_true hn, cnNo (show (!true) = false from rfl), gdYes (mk_str (n := j) (by omega)), Int.toNat_natCast]
    refine .bind es ?_
    exact .const fun _ => by rw [hr]; rfl
theorem lawNewStore (n : Int) (_ : okK (.int .i64) n) : Ev (fun k => w_FnExactNewStore.f k n) true := by
  have hm := maxLen_eq
  refine Ev.congr ?_ fun k => w_FnExactNewStore.f_eq k n
  obtain ⟨r, ei, es, rp, rh, rb, re, rv⟩ := newStore_both n
  obtain ⟨⟨p, h, b, e, c, m, v, u⟩, ok⟩ := r
  simp only at rp rh rb re rv
  have hv : v.length ≤ 1048576 ∧ (∀ x ∈ v, x.length ≤ maxLen) ∧ u.length ≤ 10 ∧ sumN (v.map List.length) ≤ 10 := by
    rcases rv with rv | rv
    · cases rv; exact ⟨by simp, by simp, by simp, by simp [sumN]⟩
    · cases rv; exact ⟨by simp, fun x hx => by simp at hx; subst hx; simp; omega, by simp, by simp [sumN]⟩
  obtain ⟨v1, v2, v3, v4⟩ := hv
  have eqr := w_eqStore.ev p h b e c m v u (by omega) (by omega) (by omega) (by omega) v1 v2 (by omega)
  have mk := w_markStore.ev p h b e c m v u 1 v1 (by omega)
  have hl := w_heldStore.ev 1 p.length h.length b.length e.length (v.map List.length) u.length c m (by simpa using v1) (by omega)
  generalize hS : 1 + p.length + h.length + b.length + e.length + sumN (v.map List.length) + u.length = S at mk hl
  refine Ev.bind es ?_
  refine Ev.bind ei ?_
  refine Ev.bind eqr ?_
  simp only [Bool.not_true, cn_f, beq_self_eq_true]
  refine Ev.bind mk ?_
  refine Ev.bind hl ?_
  simp only [cnF (show ¬ (S : Int) < 0 by omega), decide_true, Bool.not_true, cn_f]
  refine Ev.bind ei ?_
  refine Ev.bind eqr ?_
  simp only [Bool.not_true, cn_f, beq_self_eq_true]
  refine Ev.bind hl ?_
  exact .const fun _ => by simp only [cnF (show ¬ (S : Int) < 0 by omega), decide_true, Bool.not_true, cn_f]
end Go.Proofs.YtgnijlfakjjfcaaGreat
