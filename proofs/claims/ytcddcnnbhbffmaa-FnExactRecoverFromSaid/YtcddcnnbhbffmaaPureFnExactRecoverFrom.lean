/- What the functions of the law come to, in numbers, rows and texts alone. No condition. -/
import Derived.Test.YtcddcnnbhbffmaaFRecoverFrom
set_option linter.unusedVariables false
set_option linter.unusedSimpArgs false
namespace Go.Proofs.Ytcddcnnbhbffmaa
open Go Go.Proofs.YtcddcnnbhbffmaaE
/-! ### Limits, numbers, rows -/
/-- From some number of rounds on it is r. -/
def Ev {R : Type} (g : Nat → Option R) (r : R) : Prop := ∃ K, ∀ k, K ≤ k → g k = some r
theorem Ev.const {R : Type} {g : Nat → Option R} {r : R} (h : ∀ k, g k = some r) : Ev g r := ⟨0, fun k _ => h k⟩
theorem Ev.of {R : Type} {g : Nat → Option R} {r : R} (K : Nat) (h : ∀ k, K ≤ k → g k = some r) : Ev g r := ⟨K, h⟩
theorem Ev.bind {D R : Type} {f : Nat → Option D} {d : D} {G : Nat → D → Option R} {r : R} (h : Ev f d) (h2 : Ev (fun k => G k d) r) : Ev (fun k => (f k).bind (G k)) r := by
  obtain ⟨K, hK⟩ := h
  obtain ⟨L, hL⟩ := h2
  refine ⟨max K L, fun k hk => ?_⟩
  show (f k).bind (G k) = _
  rw [hK k (by omega)]
  exact hL k (by omega)
theorem Ev.congr {R : Type} {f g : Nat → Option R} {r : R} (h : Ev f r) (e : ∀ k, g k = f k) : Ev g r := by
  obtain ⟨K, hK⟩ := h
  exact ⟨K, fun k hk => by rw [e]; exact hK k hk⟩
theorem cn_t {A : Type} (x y : A) : cn true x y = x := rfl
theorem cn_f {A : Type} (x y : A) : cn false x y = y := rfl
theorem gd_t {A : Type} (x : Option A) : gd true x = x := rfl
theorem cnT {A : Type} {p : Prop} [Decidable p] {x y : A} (h : p) : cn (decide p) x y = x := by rw [decide_eq_true h]; rfl
theorem cnF {A : Type} {p : Prop} [Decidable p] {x y : A} (h : ¬ p) : cn (decide p) x y = y := by rw [decide_eq_false h]; rfl
theorem cnNT {A : Type} {p : Prop} [Decidable p] {x y : A} (h : p) : cn (!decide p) x y = y := by rw [decide_eq_true h]; rfl
theorem cnNF {A : Type} {p : Prop} [Decidable p] {x y : A} (h : ¬ p) : cn (!decide p) x y = x := by rw [decide_eq_false h]; rfl
theorem gdT {A : Type} {p : Prop} [Decidable p] {x : Option A} (h : p) : gd (decide p) x = x := by rw [decide_eq_true h]; rfl
theorem inb_nat {i n : Nat} (h : i < n) : inb (i : Int) n = true := by
  unfold inb
  rw [decide_eq_true (by omega : (0 : Int) ≤ (i : Int)), decide_eq_true (by omega : (i : Int) < (n : Int))]; rfl
theorem wrap_eq {n : Int} (h1 : -9223372036854775808 ≤ n) (h2 : n ≤ 9223372036854775807) : IntKind.i64.wrap n = n := by
  have key : IntKind.i64.wrap n = if n % 18446744073709551616 ≥ 9223372036854775808 then n % 18446744073709551616 - 18446744073709551616 else n % 18446744073709551616 := by
    unfold IntKind.wrap
    simp [IntKind.bits, IntKind.signed]
  rw [key]
  split <;> omega
theorem wrap_succ {n : Nat} (h : n < 9223372036854775807) : IntKind.i64.wrap ((n : Int) + 1) = ((n + 1 : Nat) : Int) := by rw [wrap_eq (by omega) (by omega)]; omega
theorem getAt_lt {A : Type} {d : A} {xs : List A} {i : Nat} (h : i < xs.length) : getAt d xs i = xs[i] := by simp [getAt, h]
theorem maxLen_eq : maxLen = 9223372036854775807 := by decide
/-- A row written over from the front. -/
theorem set_front {A : Type} {d : A} (a h : List A) (j : Nat) (hj : j < a.length) (hl : h.length = a.length) (hh : h.take j = a.take j) : (h.set j (getAt d a j)).take (j + 1) = a.take (j + 1) := by
  rw [getAt_lt hj, List.take_succ_eq_append_getElem hj, List.take_succ_eq_append_getElem (by simp; omega), List.getElem_set_self, List.take_set_of_le (Nat.le_refl j), hh]
def marks (s n : Nat) : List Int := (List.range n).map fun i => ((s + i : Nat) : Int)
theorem w_toStringS.loop (k : Nat) (a : List ByteArray) (ha : a.length ≤ maxLen) : ∀ (n j m : Nat) (h : List ByteArray), j + n = a.length → h.length = a.length → h.take j = a.take j → n < m → w_toStringS.l0 k m a j h = some a := by
  rw [maxLen_eq] at ha
  intro n
  induction n with
  | zero =>
    intro j m h hj hl hh hm
    obtain ⟨m, rfl⟩ : ∃ m', m = m' + 1 := ⟨m - 1, by omega⟩
    rw [w_toStringS.l0_s, cnF (by omega)]
    rw [List.take_of_length_le (by omega), List.take_of_length_le (by omega)] at hh
    rw [hh]
  | succ n ih =>
    intro j m h hj hl hh hm
    obtain ⟨m, rfl⟩ : ∃ m', m = m' + 1 := ⟨m - 1, by omega⟩
    rw [w_toStringS.l0_s, cnT (by omega), inb_nat (by omega), gd_t, inb_nat (by omega), gd_t, wrap_succ (by omega), Int.toNat_natCast]
    exact ih (j + 1) m _ (by omega) (by simpa using hl) (set_front a h j (by omega) hl hh) (by omega)
theorem w_toStringS.ev (a : List ByteArray) (ha : a.length ≤ 1048576) : Ev (fun k => w_toStringS.f k a) a := .of (a.length + 1) fun k hk => by
  show w_toStringS.f k a = _
  rw [w_toStringS.f_eq]
  have h1 : mkOk (↑a.length : Int) (↑a.length : Int) (Try.prog.bytesOf (9 : Nat)) = true := by
    rw [show Try.prog.bytesOf (9 : Nat) = 16 by kernel_rfl]
    unfold mkOk
    simp; omega
  rw [h1, gd_t]
  exact w_toStringS.loop k a (by rw [maxLen_eq]; omega) a.length 0 k _ (by omega) (by simp) (by simp) (by omega)
theorem w_toBoolS.loop (k : Nat) (a : List Bool) (ha : a.length ≤ maxLen) : ∀ (n j m : Nat) (h : List Bool), j + n = a.length → h.length = a.length → h.take j = a.take j → n < m → w_toBoolS.l0 k m a j h = some a := by
  rw [maxLen_eq] at ha
  intro n
  induction n with
  | zero =>
    intro j m h hj hl hh hm
    obtain ⟨m, rfl⟩ : ∃ m', m = m' + 1 := ⟨m - 1, by omega⟩
    rw [w_toBoolS.l0_s, cnF (by omega)]
    rw [List.take_of_length_le (by omega), List.take_of_length_le (by omega)] at hh
    rw [hh]
  | succ n ih =>
    intro j m h hj hl hh hm
    obtain ⟨m, rfl⟩ : ∃ m', m = m' + 1 := ⟨m - 1, by omega⟩
    rw [w_toBoolS.l0_s, cnT (by omega), inb_nat (by omega), gd_t, inb_nat (by omega), gd_t, wrap_succ (by omega), Int.toNat_natCast]
    exact ih (j + 1) m _ (by omega) (by simpa using hl) (set_front a h j (by omega) hl hh) (by omega)
theorem w_toBoolS.ev (a : List Bool) (ha : a.length ≤ 1048576) : Ev (fun k => w_toBoolS.f k a) a := .of (a.length + 1) fun k hk => by
  show w_toBoolS.f k a = _
  rw [w_toBoolS.f_eq]
  have h1 : mkOk (↑a.length : Int) (↑a.length : Int) (Try.prog.bytesOf (4 : Nat)) = true := by
    rw [show Try.prog.bytesOf (4 : Nat) = 1 by kernel_rfl]
    unfold mkOk
    simp; omega
  rw [h1, gd_t]
  exact w_toBoolS.loop k a (by rw [maxLen_eq]; omega) a.length 0 k _ (by omega) (by simp) (by simp) (by omega)
theorem w_eqStringS.loop (k : Nat) (a : List ByteArray) (ha : a.length ≤ maxLen) : ∀ (n j m : Nat), j + n = a.length → n < m → w_eqStringS.l0 k m a a j = some true := by
  rw [maxLen_eq] at ha
  intro n
  induction n with
  | zero =>
    intro j m hj hm
    obtain ⟨m, rfl⟩ : ∃ m', m = m' + 1 := ⟨m - 1, by omega⟩
    rw [w_eqStringS.l0_s, cnF (by omega)]
  | succ n ih =>
    intro j m hj hm
    obtain ⟨m, rfl⟩ : ∃ m', m = m' + 1 := ⟨m - 1, by omega⟩
    rw [w_eqStringS.l0_s, cnT (by omega), inb_nat (by omega), gd_t, gd_t, cnNT rfl, wrap_succ (by omega)]
    exact ih (j + 1) m (by omega) (by omega)
theorem w_eqStringS.ev (a : List ByteArray) (ha : a.length ≤ maxLen) : Ev (fun k => w_eqStringS.f k a a) true := .of (a.length + 1) fun k hk => by
  show w_eqStringS.f k a a = _
  rw [w_eqStringS.f_eq, cnNT rfl]
  exact w_eqStringS.loop k a ha a.length 0 k (by omega) (by omega)
theorem w_eqIntS.loop (k : Nat) (a : List Int) (ha : a.length ≤ maxLen) : ∀ (n j m : Nat), j + n = a.length → n < m → w_eqIntS.l0 k m a a j = some true := by
  rw [maxLen_eq] at ha
  intro n
  induction n with
  | zero =>
    intro j m hj hm
    obtain ⟨m, rfl⟩ : ∃ m', m = m' + 1 := ⟨m - 1, by omega⟩
    rw [w_eqIntS.l0_s, cnF (by omega)]
  | succ n ih =>
    intro j m hj hm
    obtain ⟨m, rfl⟩ : ∃ m', m = m' + 1 := ⟨m - 1, by omega⟩
    rw [w_eqIntS.l0_s, cnT (by omega), inb_nat (by omega), gd_t, gd_t, cnNT rfl, wrap_succ (by omega)]
    exact ih (j + 1) m (by omega) (by omega)
theorem w_eqIntS.ev (a : List Int) (ha : a.length ≤ maxLen) : Ev (fun k => w_eqIntS.f k a a) true := .of (a.length + 1) fun k hk => by
  show w_eqIntS.f k a a = _
  rw [w_eqIntS.f_eq, cnNT rfl]
  exact w_eqIntS.loop k a ha a.length 0 k (by omega) (by omega)
theorem w_eqBoolS.loop (k : Nat) (a : List Bool) (ha : a.length ≤ maxLen) : ∀ (n j m : Nat), j + n = a.length → n < m → w_eqBoolS.l0 k m a a j = some true := by
  rw [maxLen_eq] at ha
  intro n
  induction n with
  | zero =>
    intro j m hj hm
    obtain ⟨m, rfl⟩ : ∃ m', m = m' + 1 := ⟨m - 1, by omega⟩
    rw [w_eqBoolS.l0_s, cnF (by omega)]
  | succ n ih =>
    intro j m hj hm
    obtain ⟨m, rfl⟩ : ∃ m', m = m' + 1 := ⟨m - 1, by omega⟩
    rw [w_eqBoolS.l0_s, cnT (by omega), inb_nat (by omega), gd_t, gd_t]
    simp only [beq_self_eq_true, Bool.not_true, cn_f]
    rw [wrap_succ (by omega)]
    exact ih (j + 1) m (by omega) (by omega)
theorem w_eqBoolS.ev (a : List Bool) (ha : a.length ≤ maxLen) : Ev (fun k => w_eqBoolS.f k a a) true := .of (a.length + 1) fun k hk => by
  show w_eqBoolS.f k a a = _
  rw [w_eqBoolS.f_eq, cnNT rfl]
  exact w_eqBoolS.loop k a ha a.length 0 k (by omega) (by omega)
theorem w_szStringS.loop (a : List ByteArray) (ha : a.length ≤ maxLen) (hs : ∀ i, ∀ h : i < a.length, a[i].size ≤ maxLen) : ∀ (n j : Nat) (left : Int), j + n = a.length → 0 ≤ left → left ≤ 1048576 →
    ∃ r : Int, (∀ k m, n < m → w_szStringS.l0 k m a left j = some r) ∧ (r < 0 ∨ (0 ≤ r ∧ r ≤ left ∧ ∀ i, ∀ h : i < a.length, j ≤ i → a[i].size ≤ 1048576)) := by
  rw [maxLen_eq] at ha hs
  intro n
  induction n with
  | zero =>
    intro j left hj h0 h1
    refine ⟨left, fun k m hm => ?_, .inr ⟨h0, Int.le_refl _, fun i h hi => by omega⟩⟩
    obtain ⟨m, rfl⟩ : ∃ m', m = m' + 1 := ⟨m - 1, by omega⟩
    rw [w_szStringS.l0_s, cnF (by omega)]
  | succ n ih =>
    intro j left hj h0 h1
    have hjl : j < a.length := by omega
    have hsz := hs j hjl
    have e : IntKind.i64.wrap (left - (↑(getAt ByteArray.empty a (j : Int).toNat).size : Int)) = left - (a[j].size : Int) := by
      rw [Int.toNat_natCast, getAt_lt hjl, wrap_eq (by omega) (by omega)]
    by_cases hneg : left - (a[j].size : Int) < 0
    · refine ⟨-1, fun k m hm => ?_, .inl (by omega)⟩
      obtain ⟨m, rfl⟩ : ∃ m', m = m' + 1 := ⟨m - 1, by omega⟩
      rw [w_szStringS.l0_s, cnT (by omega), inb_nat hjl, gd_t, e, cnT hneg]
    · obtain ⟨r, hr, hr2⟩ := ih (j + 1) (left - (a[j].size : Int)) (by omega) (by omega) (by omega)
      refine ⟨r, fun k m hm => ?_, hr2.imp id fun ⟨p, q, s⟩ => ⟨p, by omega, fun i h hi => ?_⟩⟩
      · obtain ⟨m, rfl⟩ : ∃ m', m = m' + 1 := ⟨m - 1, by omega⟩
        rw [w_szStringS.l0_s, cnT (by omega), inb_nat hjl, gd_t, e, cnF hneg, wrap_succ (by omega)]
        exact hr k m (by omega)
      · rcases Nat.lt_or_ge i (j + 1) with h2 | h2
        · obtain rfl : i = j := by omega
          omega
        · exact s i h h2
theorem w_szStringS.ev (a : List ByteArray) (ha : a.length ≤ maxLen) (hs : ∀ i, ∀ h : i < a.length, a[i].size ≤ maxLen) (left : Int) (h0 : 0 ≤ left) (h1 : left ≤ 1048576) :
    ∃ r : Int, Ev (fun k => w_szStringS.f k a left) r ∧ (r < 0 ∨ (0 ≤ r ∧ r ≤ left ∧ a.length ≤ 1048576 ∧ ∀ i, ∀ h : i < a.length, a[i].size ≤ 1048576)) := by
  have ha' := ha
  rw [maxLen_eq] at ha'
  have e : IntKind.i64.wrap (left - (↑a.length : Int)) = left - (a.length : Int) := wrap_eq (by omega) (by omega)
  by_cases hneg : left - (a.length : Int) < 0
  · refine ⟨-1, .const fun k => ?_, .inl (by omega)⟩
    rw [w_szStringS.f_eq, e, cnT hneg]
  · obtain ⟨r, hr, hr2⟩ := w_szStringS.loop a ha hs a.length 0 (left - (a.length : Int)) (by omega) (by omega) (by omega)
    refine ⟨r, .of (a.length + 1) fun k hk => ?_, hr2.imp id fun ⟨p, q, s⟩ => ⟨p, by omega, by omega, fun i h => s i h (Nat.zero_le _)⟩⟩
    show w_szStringS.f k a left = _
    rw [w_szStringS.f_eq, e, cnF hneg]
    exact hr k k (by omega)
theorem w_markIntS.loop (k : Nat) (s len : Nat) (hs : s + len ≤ 9223372036854775806) : ∀ (n j m : Nat) (h : List Int), j + n = len → h.length = len → h.take j = marks s j → n < m → w_markIntS.l0 k m ((s + j : Nat) : Int) j h = some (((s + len : Nat) : Int), marks s len) := by
  intro n
  induction n with
  | zero =>
    intro j m h hj hl hh hm
    obtain ⟨m, rfl⟩ : ∃ m', m = m' + 1 := ⟨m - 1, by omega⟩
    rw [w_markIntS.l0_s, cnF (by omega)]
    rw [List.take_of_length_le (by omega)] at hh
    rw [hh, show j = len by omega]
  | succ n ih =>
    intro j m h hj hl hh hm
    obtain ⟨m, rfl⟩ : ∃ m', m = m' + 1 := ⟨m - 1, by omega⟩
    rw [w_markIntS.l0_s, cnT (by omega), inb_nat (by omega), gd_t, wrap_succ (by omega), wrap_succ (by omega), Int.toNat_natCast]
    refine ih (j + 1) m _ (by omega) (by simpa using hl) ?_ (by omega)
    rw [List.take_succ_eq_append_getElem (by simp; omega), List.getElem_set_self, List.take_set_of_le (Nat.le_refl j), hh]
    unfold marks
    rw [List.range_succ, List.map_append]; rfl
theorem w_markIntS.ev (a : List Int) (s : Nat) (hs : s + a.length ≤ 9223372036854775806) : Ev (fun k => w_markIntS.f k a (s : Int)) (((s + a.length : Nat) : Int), marks s a.length) := .of (a.length + 1) fun k hk => by
  show w_markIntS.f k a s = _
  rw [w_markIntS.f_eq]
  exact w_markIntS.loop k s a.length hs a.length 0 k a (by omega) rfl (by simp [marks]) (by omega)
theorem w_heldIntS.loop (k : Nat) (s len : Nat) (hs : s + len ≤ 9223372036854775806) : ∀ (n j m : Nat), j + n = len → n < m → w_heldIntS.l0 k m (marks s len) ((s + j : Nat) : Int) j = some ((s + len : Nat) : Int) := by
  have hl : (marks s len).length = len := by simp [marks]
  intro n
  induction n with
  | zero =>
    intro j m hj hm
    obtain ⟨m, rfl⟩ : ∃ m', m = m' + 1 := ⟨m - 1, by omega⟩
    rw [w_heldIntS.l0_s, cnF (by omega), show j = len by omega]
  | succ n ih =>
    intro j m hj hm
    obtain ⟨m, rfl⟩ : ∃ m', m = m' + 1 := ⟨m - 1, by omega⟩
    rw [w_heldIntS.l0_s, cnT (by omega), inb_nat (by omega), gd_t, Int.toNat_natCast, cnNT (by rw [getAt_lt (by omega)]; simp [marks]), wrap_succ (by omega), wrap_succ (by omega)]
    exact ih (j + 1) m (by omega) (by omega)
theorem w_heldIntS.ev (s len : Nat) (hs : s + len ≤ 9223372036854775806) : Ev (fun k => w_heldIntS.f k (marks s len) (s : Int)) ((s + len : Nat) : Int) := .of (len + 1) fun k hk => by
  show w_heldIntS.f k _ s = _
  rw [w_heldIntS.f_eq]
  exact w_heldIntS.loop k s len hs len 0 k (by omega) (by omega)
theorem strOfNums_one (n : Int) : (strOfNums [n]).size = 1 := by simp [strOfNums]; rfl
theorem w_markText.loop : ∀ (n : Nat) (v : Nat) (out : ByteArray), v ≤ n → n + out.size ≤ 140737488355327 → ∃ t, ∀ k m, n < m → w_markText.l0 k m (v : Int) out = some t := by
  intro n
  induction n with
  | zero =>
    intro v out hv ho
    refine ⟨{ data := #[(109 : UInt8)] : ByteArray } ++ out, fun k m hm => ?_⟩
    obtain ⟨m, rfl⟩ : ∃ m', m = m' + 1 := ⟨m - 1, by omega⟩
    rw [w_markText.l0_s, cnF (by omega), gdT (by omega)]
  | succ n ih =>
    intro v out hv ho
    by_cases h0 : v = 0
    · refine ⟨{ data := #[(109 : UInt8)] : ByteArray } ++ out, fun k m hm => ?_⟩
      obtain ⟨m, rfl⟩ : ∃ m', m = m' + 1 := ⟨m - 1, by omega⟩
      rw [w_markText.l0_s, cnF (by omega), gdT (by omega)]
    · have e : IntKind.i64.wrap ((v : Int).tdiv 10) = ((v / 10 : Nat) : Int) := by
        rw [show (v : Int).tdiv 10 = ((v / 10 : Nat) : Int) by rw [Int.tdiv_eq_ediv_of_nonneg (by omega)]; rfl, wrap_eq (by omega) (by omega)]
      obtain ⟨t, ht⟩ := ih (v / 10) (strOfNums [IntKind.u8.wrap (IntKind.i64.wrap ((48 : Int) + (v : Int).tmod (10 : Int)))] ++ out) (by omega) (by rw [ByteArray.size_append, strOfNums_one]; omega)
      refine ⟨t, fun k m hm => ?_⟩
      obtain ⟨m, rfl⟩ : ∃ m', m = m' + 1 := ⟨m - 1, by omega⟩
      rw [w_markText.l0_s, cnT (by omega), gdT (by rw [strOfNums_one]; omega), e]
      exact ht k m (by omega)
theorem w_markText.ev (v : Nat) (hv : v ≤ 140737488355327) : ∃ t, Ev (fun k => w_markText.f k (v : Int)) t := by
  by_cases h0 : v = 0
  · exact ⟨_, .const fun k => by rw [w_markText.f_eq, cnT (by omega)]⟩
  · obtain ⟨t, ht⟩ := w_markText.loop v v ByteArray.empty (Nat.le_refl _) (by simpa using hv)
    exact ⟨t, .of (v + 1) fun k hk => by
      show w_markText.f k v = _
      rw [w_markText.f_eq, cnF (by omega)]
      exact ht k k (by omega)⟩
theorem w_markStringS.loop (s len : Nat) (hs : s + len ≤ 140737488355327) : ∀ (n j : Nat) (h : List ByteArray), j + n = len → h.length = len → ∃ t K, t.length = len ∧ h.take j = t.take j ∧ ∀ k m, K ≤ k → n < m → w_markStringS.l0 k m ((s + j : Nat) : Int) j h = some (((s + len : Nat) : Int), t) := by
  intro n
  induction n with
  | zero =>
    intro j h hj hl
    refine ⟨h, 0, hl, rfl, fun k m _ hm => ?_⟩
    obtain ⟨m, rfl⟩ : ∃ m', m = m' + 1 := ⟨m - 1, by omega⟩
    rw [w_markStringS.l0_s, cnF (by omega), show j = len by omega]
  | succ n ih =>
    intro j h hj hl
    obtain ⟨x, K1, hx⟩ := w_markText.ev (s + j) (by omega)
    have hx : ∀ k, K1 ≤ k → w_markText.f k ((s + j : Nat) : Int) = some x := hx
    obtain ⟨t, K, t1, t2, ht⟩ := ih (j + 1) (h.set j x) (by omega) (by simpa using hl)
    refine ⟨t, max K K1, t1, ?_, fun k m hk hm => ?_⟩
    · have := congrArg (fun l => l.take j) t2
      simp only [List.take_take, Nat.min_eq_left (Nat.le_succ j), List.take_set_of_le (Nat.le_refl j)] at this
      exact this
    · obtain ⟨m, rfl⟩ : ∃ m', m = m' + 1 := ⟨m - 1, by omega⟩
      rw [w_markStringS.l0_s, cnT (by omega), hx k (by omega)]
      simp only [Option.bind_some]
      rw [inb_nat (by omega), gd_t, wrap_succ (by omega), wrap_succ (by omega), Int.toNat_natCast]
      exact ht k m (by omega) (by omega)
theorem w_markStringS.ev (a : List ByteArray) (s : Nat) (hs : s + a.length ≤ 140737488355327) : ∃ t, t.length = a.length ∧ Ev (fun k => w_markStringS.f k a (s : Int)) (((s + a.length : Nat) : Int), t) := by
  obtain ⟨t, K, t1, _, ht⟩ := w_markStringS.loop s a.length hs a.length 0 a (by omega) rfl
  exact ⟨t, t1, .of (max K (a.length + 1)) fun k hk => by
    show w_markStringS.f k a s = _
    rw [w_markStringS.f_eq]
    exact ht k k (by omega) (by omega)⟩
theorem w_szBoolS.ev (a : List Bool) (ha : a.length ≤ maxLen) (left : Int) (h0 : 0 ≤ left) (h1 : left ≤ 1048576) :
    ∃ r : Int, Ev (fun k => w_szBoolS.f k a left) r ∧ (r < 0 ∨ (0 ≤ r ∧ r ≤ left ∧ a.length ≤ 1048576)) := by
  rw [maxLen_eq] at ha
  have e : IntKind.i64.wrap (left - (↑a.length : Int)) = left - (a.length : Int) := wrap_eq (by omega) (by omega)
  by_cases hneg : left - (a.length : Int) < 0
  · refine ⟨-1, .const fun k => ?_, .inl (by omega)⟩
    rw [w_szBoolS.f_eq, e, cnT hneg]
  · refine ⟨left - (a.length : Int), .const fun k => ?_, .inr ⟨by omega, by omega, by omega⟩⟩
    rw [w_szBoolS.f_eq, e, cnF hneg]
theorem w_markBoolS.loop (s len : Nat) (hs : s + len ≤ 9223372036854775806) : ∀ (n j : Nat) (h : List Bool), j + n = len → h.length = len → ∃ t, t.length = len ∧ ∀ k m, n < m → w_markBoolS.l0 k m ((s + j : Nat) : Int) j h = some (((s + len : Nat) : Int), t) := by
  intro n
  induction n with
  | zero =>
    intro j h hj hl
    refine ⟨h, hl, fun k m hm => ?_⟩
    obtain ⟨m, rfl⟩ : ∃ m', m = m' + 1 := ⟨m - 1, by omega⟩
    rw [w_markBoolS.l0_s, cnF (by omega), show j = len by omega]
  | succ n ih =>
    intro j h hj hl
    obtain ⟨t, t1, ht⟩ := ih (j + 1) (h.set j (decide (((s + j : Nat) : Int).tmod (3 : Int) = (0 : Int)))) (by omega) (by simpa using hl)
    refine ⟨t, t1, fun k m hm => ?_⟩
    obtain ⟨m, rfl⟩ : ∃ m', m = m' + 1 := ⟨m - 1, by omega⟩
    rw [w_markBoolS.l0_s, cnT (by omega), inb_nat (by omega), gd_t, wrap_succ (by omega), wrap_succ (by omega), Int.toNat_natCast]
    exact ht k m (by omega)
theorem w_markBoolS.ev (a : List Bool) (s : Nat) (hs : s + a.length ≤ 9223372036854775806) : ∃ t, t.length = a.length ∧ Ev (fun k => w_markBoolS.f k a (s : Int)) (((s + a.length : Nat) : Int), t) := by
  obtain ⟨t, t1, ht⟩ := w_markBoolS.loop s a.length hs a.length 0 a (by omega) rfl
  exact ⟨t, t1, .of (a.length + 1) fun k hk => by
    show w_markBoolS.f k a s = _
    rw [w_markBoolS.f_eq]
    exact ht k k (by omega)⟩
theorem bytes_get (s : ByteArray) (n : Nat) : getAt (0 : Int) (bytesL s) n = ((s.data.getD n 0).toNat : Int) := by
  unfold getAt bytesL
  rw [List.getD_eq_getElem?_getD, List.getElem?_map, Array.getElem?_toList, Array.getD_eq_getD_getElem?]
  cases s.data[n]? <;> rfl
theorem byte_lt (b : UInt8) : b.toNat < 256 := b.toNat_lt
/-- One byte more. -/
theorem step_zero (b : Int) (h0 : 0 ≤ b) (h1 : b < 256) : IntKind.i64.wrap (↑(BitVec.ofInt 64 (IntKind.i64.wrap ((0 : Int) * (2 : Int) ^ 8)) ||| BitVec.ofInt 64 (IntKind.i64.wrap b)).toNat : Int) = b := by
  have e : IntKind.i64.wrap ((0 : Int) * (2 : Int) ^ 8) = 0 := wrap_eq (by decide) (by decide)
  rw [e, wrap_eq (n := b) (by omega) (by omega)]
  have e2 : (BitVec.ofInt 64 0 ||| BitVec.ofInt 64 b) = BitVec.ofInt 64 b := by
    rw [show BitVec.ofInt 64 0 = 0#64 by decide]; simp
  have p64 : ((2 ^ 64 : Nat) : Int) = 18446744073709551616 := by decide
  rw [e2, BitVec.toNat_ofInt, p64, Int.emod_eq_of_lt h0 (by omega), wrap_eq (by omega) (by omega)]
  omega
theorem s_l6Value.two (t : ByteArray) (h : t.size = 2) (k : Nat) (hk : 3 ≤ k) : s_l6Value.f k t = some (sfVal (bytesL t) 0) := by
  obtain ⟨k3, e⟩ : ∃ k3, k = k3 + 3 := ⟨k - 3, by omega⟩
  rw [s_l6Value.f_eq]
  generalize hm : k = m
  have hm3 : m = k3 + 1 + 1 + 1 := by omega
  rw [hm3, s_l6Value.l0_s, cnT (by omega), show inb (0 : Int) t.size = true from inb_nat (i := 0) (by omega), gd_t]
  have b0 := byte_lt (t.data.getD 0 0)
  have b1 := byte_lt (t.data.getD 1 0)
  rw [show IntKind.i64.wrap ((0 : Int) + 1) = ((1 : Nat) : Int) from wrap_succ (n := 0) (by omega), show (0 : Int).toNat = 0 from rfl, step_zero _ (by omega) (by omega)]
  rw [s_l6Value.l0_s, cnT (by omega), inb_nat (i := 1) (by omega), gd_t, wrap_succ (n := 1) (by omega), s_l6Value.l0_s, cnF (by omega)]
  unfold sfVal
  rw [bytes_get, bytes_get, show 2 * 0 + 0 = 0 from rfl, show 2 * 0 + 1 = 1 from rfl, wrap_eq (n := ((t.data.getD 0 0).toNat : Int)) (by omega) (by omega)]
  rfl
theorem ext_get (s : ByteArray) (a j : Nat) (h : a + 2 ≤ s.size) (hj : j < 2) : (s.extract a (a + 2)).data.getD j 0 = s.data.getD (a + j) 0 := by
  have hs : s.data.size = s.size := rfl
  rw [ByteArray.data_extract, Array.getD_eq_getD_getElem?, Array.getD_eq_getD_getElem?, Array.getElem?_extract]
  rw [if_pos (by omega)]
theorem sfVal_ext (s : ByteArray) (i : Nat) (h : 2 * i + 2 ≤ s.size) : sfVal (bytesL (s.extract (2 * i) (2 * i + 2))) 0 = sfVal (bytesL s) i := by
  unfold sfVal
  rw [bytes_get, bytes_get, bytes_get, bytes_get, show 2 * 0 + 0 = 0 from rfl, show 2 * 0 + 1 = 1 from rfl, ext_get s (2 * i) 0 h (by omega), ext_get s (2 * i) 1 h (by omega)]
theorem s_StateFrom.loop (s : ByteArray) (hs : s.size = 12) (k : Nat) (hk : 3 ≤ k) : ∀ (n j m : Nat), j + n = 6 → n < m → s_StateFrom.l0 k m s j ((List.range j).map (sfVal (bytesL s))) = some ((List.range 6).map (sfVal (bytesL s)), true) := by
  intro n
  induction n with
  | zero =>
    intro j m hj hm
    obtain ⟨m, rfl⟩ : ∃ m', m = m' + 1 := ⟨m - 1, by omega⟩
    rw [s_StateFrom.l0_s, cnF (by omega), show j = 6 by omega]
  | succ n ih =>
    intro j m hj hm
    obtain ⟨m, rfl⟩ : ∃ m', m = m' + 1 := ⟨m - 1, by omega⟩
    have e1 : IntKind.i64.wrap ((2 : Int) * (j : Int)) = ((2 * j : Nat) : Int) := by rw [wrap_eq (by omega) (by omega)]; omega
    have e2 : IntKind.i64.wrap (((2 * j : Nat) : Int) + 2) = ((2 * j + 2 : Nat) : Int) := by rw [wrap_eq (by omega) (by omega)]; omega
    rw [s_StateFrom.l0_s, cnT (by omega), e1, e2, decide_eq_true (by omega : (0 : Int) ≤ ((2 * j : Nat) : Int)), decide_eq_true (by omega : ((2 * j : Nat) : Int) ≤ ((2 * j + 2 : Nat) : Int)), decide_eq_true (by omega : ((2 * j + 2 : Nat) : Int) ≤ (s.size : Int))]
    rw [show (true && (true && true)) = true from rfl, gd_t, Int.toNat_natCast, Int.toNat_natCast, s_l6Value.two _ (by rw [ByteArray.size_extract]; omega) k hk, Option.bind_some]
    have e3 : appOk (((List.range j).map (sfVal (bytesL s))).length + [sfVal (bytesL (s.extract (2 * j) (2 * j + 2))) 0].length) (Try.prog.bytesOf (3 : Nat)) = true := by
      rw [show Try.prog.bytesOf (3 : Nat) = 8 by kernel_rfl]
      simp [appOk]; omega
    rw [e3, gd_t, wrap_succ (by omega), sfVal_ext s j (by omega)]
    have := ih (j + 1) m (by omega) (by omega)
    rw [List.range_succ, List.map_append] at this
    exact this
theorem s_StateFrom.eq (l : List ByteArray) (k : Nat) (hk : 7 ≤ k) : s_StateFrom.f k l = sfF l := by
  rw [s_StateFrom.f_eq]
  unfold sfF
  cases h1 : decide ((l.length : Int) = 2) with
  | false => rfl
  | true =>
    have h1' := of_decide_eq_true h1
    rw [show inb (0 : Int) l.length = true from inb_nat (i := 0) (by omega), show inb (1 : Int) l.length = true from inb_nat (i := 1) (by omega)]
    simp only [gd_t, Bool.not_true, cn_f]
    cases h2 : decide (((getAt ByteArray.empty l 0).size : Int) = 6) with
    | false => rfl
    | true =>
      cases h3 : decide (((getAt ByteArray.empty l 1).size : Int) = 6) with
      | false => rfl
      | true =>
        have h2' := of_decide_eq_true h2
        have h3' := of_decide_eq_true h3
        simp only [Bool.not_true, cn_f, beq_self_eq_true]
        rw [gdT (by omega)]
        exact s_StateFrom.loop _ (by rw [ByteArray.size_append]; omega) k (by omega) 6 0 k (by omega) (by omega)
theorem sfF_some (l : List ByteArray) : ∃ d, sfF l = some d ∧ d.1.length ≤ 6 := by
  unfold sfF
  cases h1 : decide ((l.length : Int) = 2) with
  | false => exact ⟨_, rfl, by simp⟩
  | true =>
    have h1' := of_decide_eq_true h1
    rw [show inb (0 : Int) l.length = true from inb_nat (i := 0) (by omega), show inb (1 : Int) l.length = true from inb_nat (i := 1) (by omega)]
    simp only [gd_t, Bool.not_true, cn_f]
    cases h2 : decide (((getAt ByteArray.empty l 0).size : Int) = 6) with
    | false => exact ⟨_, rfl, by simp⟩
    | true =>
      cases h3 : decide (((getAt ByteArray.empty l 1).size : Int) = 6) with
      | false => exact ⟨_, rfl, by simp⟩
      | true => exact ⟨_, rfl, by simp⟩
theorem w_szDisk.ev (p h : List ByteArray) (b : List Bool) (op : okK (.sl 9 .str) p) (oh : okK (.sl 9 .str) h) (ob : okK (.sl 4 .bool) b) (left : Int) (h0 : 0 ≤ left) (h1 : left ≤ 1048576) :
    ∃ r : Int, Ev (fun k => w_szDisk.f k p h b left) r ∧ (r < 0 ∨ (0 ≤ r ∧ r ≤ left ∧ p.length ≤ 1048576 ∧ h.length ≤ 1048576 ∧ b.length ≤ 1048576)) := by
  obtain ⟨r1, e1, c1⟩ := w_szStringS.ev p op.1 op.2 left h0 h1
  rcases c1 with c1 | ⟨a1, a2, a3, _⟩
  · refine ⟨-1, Ev.congr (Ev.bind e1 ?_) (fun k => w_szDisk.f_eq k p h b left), .inl (by omega)⟩
    exact .const fun k => by rw [cnT c1]
  obtain ⟨r2, e2, c2⟩ := w_szStringS.ev h oh.1 oh.2 r1 a1 (by omega)
  rcases c2 with c2 | ⟨b1, b2, b3, _⟩
  · refine ⟨-1, Ev.congr (Ev.bind e1 ?_) (fun k => w_szDisk.f_eq k p h b left), .inl (by omega)⟩
    simp only [cnF (show ¬ r1 < 0 by omega)]
    exact .bind e2 (.const fun k => by rw [cnT c2])
  obtain ⟨r3, e3, c3⟩ := w_szBoolS.ev b ob.1 r2 b1 (by omega)
  rcases c3 with c3 | ⟨d1, d2, d3⟩
  · refine ⟨-1, Ev.congr (Ev.bind e1 ?_) (fun k => w_szDisk.f_eq k p h b left), .inl (by omega)⟩
    simp only [cnF (show ¬ r1 < 0 by omega)]
    refine .bind e2 ?_
    simp only [cnF (show ¬ r2 < 0 by omega)]
    exact .bind e3 (.const fun k => by rw [cnT c3])
  · refine ⟨r3, Ev.congr (Ev.bind e1 ?_) (fun k => w_szDisk.f_eq k p h b left), .inr ⟨d1, by omega, a3, b3, d3⟩⟩
    simp only [cnF (show ¬ r1 < 0 by omega)]
    refine .bind e2 ?_
    simp only [cnF (show ¬ r2 < 0 by omega)]
    exact .bind e3 (.const fun k => by rw [cnF (show ¬ r3 < 0 by omega)])
theorem w_toDisk.ev (p h : List ByteArray) (b : List Bool) (hp : p.length ≤ 1048576) (hh : h.length ≤ 1048576) (hb : b.length ≤ 1048576) : Ev (fun k => w_toDisk.f k p h b) (p, h, b) :=
  Ev.congr (by
    refine Ev.bind (w_toStringS.ev p hp) ?_
    refine Ev.bind (w_toStringS.ev h hh) ?_
    refine Ev.bind (w_toBoolS.ev b hb) ?_
    exact .const fun k => rfl) (fun k => w_toDisk.f_eq k p h b)
theorem w_eqDisk.ev (p h : List ByteArray) (b : List Bool) (hp : p.length ≤ maxLen) (hh : h.length ≤ maxLen) (hb : b.length ≤ maxLen) : Ev (fun k => w_eqDisk.f k p h b p h b) true := by
  refine Ev.congr (Ev.bind (w_eqStringS.ev p hp) ?_) (fun k => w_eqDisk.f_eq k p h b p h b)
  simp only [Bool.not_true, cn_f]
  refine Ev.bind (w_eqStringS.ev h hh) ?_
  simp only [Bool.not_true, cn_f]
  refine Ev.bind (w_eqBoolS.ev b hb) ?_
  exact .const fun k => rfl
theorem w_markDisk.ev (p h : List ByteArray) (b : List Bool) (hp : p.length ≤ 1048576) (hh : h.length ≤ 1048576) (hb : b.length ≤ 1048576) (s : Nat) (hs : s ≤ 1048576) : ∃ (r : Nat) (x : _), r ≤ s + 3145728 ∧ Ev (fun k => w_markDisk.f k p h b (s : Int)) ((r : Int), x) := by
  obtain ⟨t1, _, e1⟩ := w_markStringS.ev p s (by omega)
  obtain ⟨t2, _, e2⟩ := w_markStringS.ev h (s + p.length) (by omega)
  obtain ⟨t3, _, e3⟩ := w_markBoolS.ev b (s + p.length + h.length) (by omega)
  exact ⟨s + p.length + h.length + b.length, (t1, t2, t3), by omega, Ev.congr (by
    refine Ev.bind e1 ?_
    refine Ev.bind e2 ?_
    refine Ev.bind e3 ?_
    exact .const fun k => rfl) (fun k => w_markDisk.f_eq k p h b s)⟩
/-- What GoodDisk says of the sectors from j on. -/
def gdAll (p h : List ByteArray) (b : List Bool) : Nat → Nat → Bool
  | 0, _ => true
  | r + 1, j => if (28 : Int) < ((getAt ByteArray.empty p j).size : Int) then false else if (28 : Int) < ((getAt ByteArray.empty h j).size : Int) then false
    else if getAt false b j = true then (if (getAt ByteArray.empty h j).toList = ByteArray.empty.toList then gdAll p h b r (j + 1) else false) else gdAll p h b r (j + 1)
theorem gdAll_s (p h : List ByteArray) (b : List Bool) (r j : Nat) : gdAll p h b (r + 1) j = (if (28 : Int) < ((getAt ByteArray.empty p j).size : Int) then false else if (28 : Int) < ((getAt ByteArray.empty h j).size : Int) then false
    else if getAt false b j = true then (if (getAt ByteArray.empty h j).toList = ByteArray.empty.toList then gdAll p h b r (j + 1) else false) else gdAll p h b r (j + 1)) := rfl
def goodD (p h : List ByteArray) (b : List Bool) : Bool := decide (1 ≤ p.length ∧ p.length ≤ 24 ∧ h.length = p.length ∧ b.length = p.length) && gdAll p h b p.length 0
theorem goodD_no {p h : List ByteArray} {b : List Bool} (g : ¬ (1 ≤ p.length ∧ p.length ≤ 24 ∧ h.length = p.length ∧ b.length = p.length)) : goodD p h b = false := by
  unfold goodD
  rw [decide_eq_false g]; rfl
theorem goodD_yes {p h : List ByteArray} {b : List Bool} (g : 1 ≤ p.length ∧ p.length ≤ 24 ∧ h.length = p.length ∧ b.length = p.length) : goodD p h b = gdAll p h b p.length 0 := by
  unfold goodD
  rw [decide_eq_true g]; rfl
theorem goodD_len {p h : List ByteArray} {b : List Bool} (g : goodD p h b = true) : 1 ≤ p.length ∧ p.length ≤ 24 ∧ h.length = p.length ∧ b.length = p.length := by
  unfold goodD at g
  simp only [Bool.and_eq_true, decide_eq_true_eq] at g
  exact g.1
theorem i_GoodDisk.loop (k : Nat) (p h : List ByteArray) (b : List Bool) (hp : p.length ≤ 24) (hh : h.length = p.length) (hb : b.length = p.length) : ∀ (n j m : Nat), j + n = p.length → n < m → i_GoodDisk.l0 k m p (p.length : Int) (j : Int) p h b = some (gdAll p h b n j) := by
  intro n
  induction n with
  | zero =>
    intro j m hj hm
    obtain ⟨m, rfl⟩ : ∃ m', m = m' + 1 := ⟨m - 1, by omega⟩
    rw [i_GoodDisk.l0_s, cnF (by omega)]; rfl
  | succ n ih =>
    intro j m hj hm
    obtain ⟨m, rfl⟩ : ∃ m', m = m' + 1 := ⟨m - 1, by omega⟩
    have := ih (j + 1) m (by omega) (by omega)
    rw [i_GoodDisk.l0_s, cnT (by omega), inb_nat (by omega), gd_t, inb_nat (by omega), gd_t, inb_nat (by omega), gd_t, gd_t, Int.toNat_natCast, wrap_succ (by omega), this]
    rw [gdAll_s]
    by_cases c1 : (28 : Int) < ((getAt ByteArray.empty p j).size : Int)
    · rw [cnT c1, if_pos c1]
    rw [cnF c1, if_neg c1]
    by_cases c2 : (28 : Int) < ((getAt ByteArray.empty h j).size : Int)
    · rw [cnT c2, if_pos c2]
    rw [cnF c2, if_neg c2]
    cases c3 : getAt false b j with
    | false => rw [cn_f, if_neg (by simp)]
    | true =>
      rw [cn_t, if_pos rfl]
      by_cases c4 : (getAt ByteArray.empty h j).toList = ByteArray.empty.toList
      · rw [cnNT c4, if_pos c4]
      · rw [cnNF c4, if_neg c4]
theorem i_GoodDisk.eq (k : Nat) (hk : 25 ≤ k) (p h : List ByteArray) (b : List Bool) : i_GoodDisk.f k p h b = some (goodD p h b) := by
  rw [i_GoodDisk.f_eq, i_within.f_eq]
  by_cases c1 : (1 : Int) ≤ (p.length : Int)
  case neg =>
    rw [cnF c1, goodD_no (by omega)]; rfl
  rw [cnT c1, Option.bind_some]
  by_cases c2 : (p.length : Int) ≤ 24
  case neg =>
    rw [decide_eq_false c2, goodD_no (by omega)]; rfl
  rw [decide_eq_true c2]
  simp only [Bool.not_true, cn_f]
  by_cases c3 : (h.length : Int) = (p.length : Int)
  case neg =>
    rw [cnNF c3, goodD_no (by omega)]
  rw [cnNT c3]
  by_cases c4 : (b.length : Int) = (p.length : Int)
  case neg =>
    rw [cnNF c4, goodD_no (by omega)]
  rw [cnNT c4, goodD_yes (by omega)]
  exact i_GoodDisk.loop k p h b (by omega) (by omega) (by omega) p.length 0 k (by omega) (by omega)
theorem s_GoodDisk.loop (k : Nat) (p h : List ByteArray) (b : List Bool) (hp : p.length ≤ 24) (hh : h.length = p.length) (hb : b.length = p.length) : ∀ (n j m : Nat), j + n = p.length → n < m → s_GoodDisk.l0 k m (p.length : Int) (j : Int) p h b = some (gdAll p h b n j) := by
  intro n
  induction n with
  | zero =>
    intro j m hj hm
    obtain ⟨m, rfl⟩ : ∃ m', m = m' + 1 := ⟨m - 1, by omega⟩
    rw [s_GoodDisk.l0_s, cnF (by omega)]; rfl
  | succ n ih =>
    intro j m hj hm
    obtain ⟨m, rfl⟩ : ∃ m', m = m' + 1 := ⟨m - 1, by omega⟩
    have := ih (j + 1) m (by omega) (by omega)
    rw [s_GoodDisk.l0_s, cnT (by omega), inb_nat (by omega), gd_t, inb_nat (by omega), gd_t, inb_nat (by omega), gd_t, gd_t, Int.toNat_natCast, wrap_succ (by omega), this]
    rw [gdAll_s]
    by_cases c1 : (28 : Int) < ((getAt ByteArray.empty p j).size : Int)
    · rw [cnT c1, if_pos c1]
    rw [cnF c1, if_neg c1]
    by_cases c2 : (28 : Int) < ((getAt ByteArray.empty h j).size : Int)
    · rw [cnT c2, if_pos c2]
    rw [cnF c2, if_neg c2]
    cases c3 : getAt false b j with
    | false => rw [cn_f, if_neg (by simp)]
    | true =>
      rw [cn_t, if_pos rfl]
      by_cases c4 : (getAt ByteArray.empty h j).toList = ByteArray.empty.toList
      · rw [cnNT c4, if_pos c4]
      · rw [cnNF c4, if_neg c4]
theorem s_GoodDisk.eq (k : Nat) (hk : 25 ≤ k) (p h : List ByteArray) (b : List Bool) : s_GoodDisk.f k p h b = some (goodD p h b) := by
  rw [s_GoodDisk.f_eq, s_l1In.f_eq]
  by_cases c1 : (1 : Int) ≤ (p.length : Int)
  case neg =>
    rw [cnF c1, goodD_no (by omega)]; rfl
  rw [cnT c1, Option.bind_some]
  by_cases c2 : (p.length : Int) ≤ 24
  case neg =>
    rw [decide_eq_false c2, goodD_no (by omega)]; rfl
  rw [decide_eq_true c2]
  simp only [Bool.not_true, cn_f]
  by_cases c3 : (h.length : Int) = (p.length : Int)
  case neg =>
    rw [cnNF c3, goodD_no (by omega)]
  rw [cnNT c3]
  by_cases c4 : (b.length : Int) = (p.length : Int)
  case neg =>
    rw [cnNF c4, goodD_no (by omega)]
  rw [cnNT c4, goodD_yes (by omega)]
  exact s_GoodDisk.loop k p h b (by omega) (by omega) (by omega) p.length 0 k (by omega) (by omega)
/-- What is read at a sector. -/
theorem s_l7Read.at (p h : List ByteArray) (b : List Bool) (hh : h.length = p.length) (hb : b.length = p.length) (j : Nat) (hj : j < p.length) : ∃ r : ByteArray × Bool, (∀ k, s_l7Read.f k p h b (j : Int) = some r) ∧ (r.2 = false → r.1 = ByteArray.empty) := by
  have i1 : inb (j : Int) b.length = true := inb_nat (by omega)
  have i2 : inb (j : Int) h.length = true := inb_nat (by omega)
  have i3 : inb (j : Int) p.length = true := inb_nat (by omega)
  cases c1 : getAt false b j with
  | true => exact ⟨(ByteArray.empty, false), fun k => by rw [s_l7Read.f_eq, i1, gd_t, Int.toNat_natCast, c1]; rfl, fun _ => rfl⟩
  | false =>
    by_cases c2 : (getAt ByteArray.empty h j).toList = ByteArray.empty.toList
    · exact ⟨(getAt ByteArray.empty p j, true), fun k => by rw [s_l7Read.f_eq, i1, gd_t, Int.toNat_natCast, c1, cn_f, i2, gd_t, cnNT c2, i3, gd_t], fun h => by cases h⟩
    · exact ⟨(getAt ByteArray.empty h j, true), fun k => by rw [s_l7Read.f_eq, i1, gd_t, Int.toNat_natCast, c1, cn_f, i2, gd_t, cnNF c2, gd_t], fun h => by cases h⟩
theorem i_ReadSector.eq (p h : List ByteArray) (b : List Bool) (g : goodD p h b = true) (j : Nat) (hj : j < p.length) (k : Nat) (hk : 25 ≤ k) : i_ReadSector.f k p h b (j : Int) = s_l7Read.f k p h b (j : Int) := by
  obtain ⟨g1, g2, g3, g4⟩ := goodD_len g
  rw [i_ReadSector.f_eq, i_GoodDisk.eq k hk, g, s_l7Read.f_eq, i_Disk_has.f_eq, i_within.f_eq, cnT (by omega), wrap_eq (by omega) (by omega)]
  simp only [Option.bind_some, Bool.not_true, cn_f]
  rw [decide_eq_true (by omega)]
  simp only [Bool.not_true, cn_f]
/-- One byte shifted through, n bits of it. -/
def crcN : Nat → Int → Int
  | 0, x => x
  | n + 1, x => crcN n (cn (decide (IntKind.i64.wrap (↑(BitVec.ofInt (64 : Nat) x &&& BitVec.ofInt (64 : Nat) (1 : Int)).toNat : Int) = (1 : Int))) (IntKind.i64.wrap (↑(BitVec.ofInt (64 : Nat) (x.fdiv ((2 : Int) ^ (1 : Nat))) ^^^ BitVec.ofInt (64 : Nat) (2197175160 : Int)).toNat : Int)) (x.fdiv ((2 : Int) ^ (1 : Nat))))
theorem crcN_s (n : Nat) (x : Int) : crcN (n + 1) x = crcN n (cn (decide (IntKind.i64.wrap (↑(BitVec.ofInt (64 : Nat) x &&& BitVec.ofInt (64 : Nat) (1 : Int)).toNat : Int) = (1 : Int))) (IntKind.i64.wrap (↑(BitVec.ofInt (64 : Nat) (x.fdiv ((2 : Int) ^ (1 : Nat))) ^^^ BitVec.ofInt (64 : Nat) (2197175160 : Int)).toNat : Int)) (x.fdiv ((2 : Int) ^ (1 : Nat)))) := rfl
/-- The sum over n bytes of t from j on. -/
def crcL (t : ByteArray) : Nat → Int → Nat → Int
  | 0, x, _ => IntKind.i64.wrap (↑(BitVec.ofInt (64 : Nat) x ^^^ BitVec.ofInt (64 : Nat) (4294967295 : Int)).toNat : Int)
  | n + 1, x, j => crcL t n (crcN 8 (IntKind.i64.wrap (↑(BitVec.ofInt (64 : Nat) x ^^^ BitVec.ofInt (64 : Nat) (IntKind.i64.wrap (↑(t.data.getD j (0 : UInt8)).toNat : Int))).toNat : Int))) (j + 1)
theorem crcL_s (t : ByteArray) (n : Nat) (x : Int) (j : Nat) : crcL t (n + 1) x j = crcL t n (crcN 8 (IntKind.i64.wrap (↑(BitVec.ofInt (64 : Nat) x ^^^ BitVec.ofInt (64 : Nat) (IntKind.i64.wrap (↑(t.data.getD j (0 : UInt8)).toNat : Int))).toNat : Int))) (j + 1) := rfl
def crc (t : ByteArray) : Int := crcL t t.size (IntKind.i64.wrap (↑(BitVec.ofInt (64 : Nat) (0 : Int) ^^^ BitVec.ofInt (64 : Nat) (4294967295 : Int)).toNat : Int)) 0
theorem i_shifted.loop (k : Nat) : ∀ (n j m : Nat) (x : Int), j + n = 8 → n < m → i_shifted.l0 k m x (j : Int) = some (crcN n x) := by
  intro n
  induction n with
  | zero =>
    intro j m x hj hm
    obtain ⟨m, rfl⟩ : ∃ m', m = m' + 1 := ⟨m - 1, by omega⟩
    rw [i_shifted.l0_s, cnF (by omega)]; rfl
  | succ n ih =>
    intro j m x hj hm
    obtain ⟨m, rfl⟩ : ∃ m', m = m' + 1 := ⟨m - 1, by omega⟩
    rw [i_shifted.l0_s, cnT (by omega), wrap_succ (by omega), ih (j + 1) m _ (by omega) (by omega), ih (j + 1) m _ (by omega) (by omega), crcN_s]
    cases decide (IntKind.i64.wrap (↑(BitVec.ofInt (64 : Nat) x &&& BitVec.ofInt (64 : Nat) (1 : Int)).toNat : Int) = (1 : Int)) <;> rfl
theorem i_shifted.eq (k : Nat) (hk : 9 ≤ k) (x : Int) : i_shifted.f k x = some (crcN 8 x) := by
  rw [i_shifted.f_eq]
  exact i_shifted.loop k 8 0 k x (by omega) (by omega)
theorem s_l5Byte.loop (k : Nat) : ∀ (n j m : Nat) (x : Int), j + n = 8 → n < m → s_l5Byte.l0 k m x (j : Int) = some (crcN n x) := by
  intro n
  induction n with
  | zero =>
    intro j m x hj hm
    obtain ⟨m, rfl⟩ : ∃ m', m = m' + 1 := ⟨m - 1, by omega⟩
    rw [s_l5Byte.l0_s, cnF (by omega)]; rfl
  | succ n ih =>
    intro j m x hj hm
    obtain ⟨m, rfl⟩ : ∃ m', m = m' + 1 := ⟨m - 1, by omega⟩
    rw [s_l5Byte.l0_s, cnT (by omega), wrap_succ (by omega), ih (j + 1) m _ (by omega) (by omega), ih (j + 1) m _ (by omega) (by omega), crcN_s]
    cases decide (IntKind.i64.wrap (↑(BitVec.ofInt (64 : Nat) x &&& BitVec.ofInt (64 : Nat) (1 : Int)).toNat : Int) = (1 : Int)) <;> rfl
theorem s_l5Byte.eq (k : Nat) (hk : 9 ≤ k) (x : Int) : s_l5Byte.f k x = some (crcN 8 x) := by
  rw [s_l5Byte.f_eq]
  exact s_l5Byte.loop k 8 0 k x (by omega) (by omega)
theorem i_sumOn.loop (k : Nat) (hk : 9 ≤ k) (t : ByteArray) (ht : t.size ≤ 140737488355328) : ∀ (n j m : Nat) (x : Int), j + n = t.size → n < m → i_sumOn.l0 k m x t (t.size : Int) (j : Int) = some (crcL t n x j) := by
  intro n
  induction n with
  | zero =>
    intro j m x hj hm
    obtain ⟨m, rfl⟩ : ∃ m', m = m' + 1 := ⟨m - 1, by omega⟩
    rw [i_sumOn.l0_s, cnF (by omega), i_turned.f_eq]; rfl
  | succ n ih =>
    intro j m x hj hm
    obtain ⟨m, rfl⟩ : ∃ m', m = m' + 1 := ⟨m - 1, by omega⟩
    rw [i_sumOn.l0_s, cnT (by omega), inb_nat (by omega), gd_t, i_shifted.eq k hk, Option.bind_some, wrap_succ (by omega), ih (j + 1) m _ (by omega) (by omega), crcL_s, Int.toNat_natCast]
theorem i_sumOn.eq (k : Nat) (t : ByteArray) (ht : t.size ≤ 140737488355328) (hk : t.size + 9 ≤ k) : i_sumOn.f k 0 t = some (crc t) := by
  rw [i_sumOn.f_eq, i_turned.f_eq, Option.bind_some]
  exact i_sumOn.loop k (by omega) t ht t.size 0 k _ (by omega) (by omega)
theorem s_l5On.loop (k : Nat) (hk : 9 ≤ k) (t : ByteArray) (ht : t.size ≤ 140737488355328) : ∀ (n j m : Nat) (x : Int), j + n = t.size → n < m → s_l5On.l0 k m x t (j : Int) = some (crcL t n x j) := by
  intro n
  induction n with
  | zero =>
    intro j m x hj hm
    obtain ⟨m, rfl⟩ : ∃ m', m = m' + 1 := ⟨m - 1, by omega⟩
    rw [s_l5On.l0_s, cnF (by omega)]; rfl
  | succ n ih =>
    intro j m x hj hm
    obtain ⟨m, rfl⟩ : ∃ m', m = m' + 1 := ⟨m - 1, by omega⟩
    rw [s_l5On.l0_s, cnT (by omega), inb_nat (by omega), gd_t, s_l5Byte.eq k hk, Option.bind_some, wrap_succ (by omega), ih (j + 1) m _ (by omega) (by omega), crcL_s, Int.toNat_natCast]
theorem s_l5On.eq (k : Nat) (t : ByteArray) (ht : t.size ≤ 140737488355328) (hk : t.size + 9 ≤ k) : s_l5On.f k 0 t = some (crc t) := by
  rw [s_l5On.f_eq]
  exact s_l5On.loop k (by omega) t ht t.size 0 k _ (by omega) (by omega)
theorem strOfNums_append (a b : List Int) : strOfNums (a ++ b) = strOfNums a ++ strOfNums b := by
  apply ByteArray.ext
  rw [ByteArray.data_append]
  simp [strOfNums]
theorem strOfNums_bytes (s : ByteArray) : strOfNums (bytesL s) = s := by
  apply ByteArray.ext
  simp only [strOfNums, bytesL, List.map_map]
  rw [show ((fun n : Int => UInt8.ofNat n.toNat) ∘ fun b : UInt8 => (b.toNat : Int)) = id by funext b; simp]
  simp
theorem strOfNums_nil : strOfNums [] = ByteArray.empty := rfl
theorem strOfNums_len (xs : List Int) : (strOfNums xs).size = xs.length := by simp [strOfNums, ByteArray.size]
theorem mk1 (n : Nat) (h : n ≤ 70368744177664) : mkOk (n : Int) (n : Int) (Try.prog.bytesOf (5 : Nat)) = true := by
  rw [show Try.prog.bytesOf (5 : Nat) = 1 by kernel_rfl]
  unfold mkOk
  simp; omega
theorem app1 (n : Nat) (h : n ≤ 70368744177664) : appOk n (Try.prog.bytesOf (5 : Nat)) = true := by
  rw [show Try.prog.bytesOf (5 : Nat) = 1 by kernel_rfl]
  unfold appOk
  simp; omega
theorem s_l6Bytes.one (k : Nat) (hk : 2 ≤ k) (n : Int) : s_l6Bytes.f k n 1 = some (strOfNums [IntKind.u8.wrap n]) := by
  rw [s_l6Bytes.f_eq, show mkOk (1 : Int) (1 : Int) (Try.prog.bytesOf (5 : Nat)) = true from mk1 1 (by omega), gd_t]
  obtain ⟨k2, e⟩ : ∃ k2, k = k2 + 2 := ⟨k - 2, by omega⟩
  generalize k = kk at e ⊢
  subst e
  rw [show IntKind.i64.wrap ((1 : Int) - 1) = ((0 : Nat) : Int) from wrap_eq (by decide) (by decide)]
  rw [s_l6Bytes.l0_s, cnT (by decide), inb_nat (by simp), gd_t, show IntKind.i64.wrap (((0 : Nat) : Int) - 1) = -1 from wrap_eq (by decide) (by decide), s_l6Bytes.l0_s, cnF (by decide)]
  rfl
theorem s_l6Bytes.two (k : Nat) (hk : 3 ≤ k) (n : Int) : s_l6Bytes.f k n 2 = some (strOfNums [IntKind.u8.wrap (n.fdiv ((2 : Int) ^ (8 : Nat))), IntKind.u8.wrap n]) := by
  rw [s_l6Bytes.f_eq, show mkOk (2 : Int) (2 : Int) (Try.prog.bytesOf (5 : Nat)) = true from mk1 2 (by omega), gd_t]
  obtain ⟨k2, e⟩ : ∃ k2, k = k2 + 3 := ⟨k - 3, by omega⟩
  generalize k = kk at e ⊢
  subst e
  rw [show IntKind.i64.wrap ((2 : Int) - 1) = ((1 : Nat) : Int) from wrap_eq (by decide) (by decide)]
  rw [s_l6Bytes.l0_s, cnT (by decide), inb_nat (by simp), gd_t, show IntKind.i64.wrap (((1 : Nat) : Int) - 1) = ((0 : Nat) : Int) from wrap_eq (by decide) (by decide)]
  rw [s_l6Bytes.l0_s, cnT (by decide), inb_nat (by simp), gd_t, show IntKind.i64.wrap (((0 : Nat) : Int) - 1) = -1 from wrap_eq (by decide) (by decide), s_l6Bytes.l0_s, cnF (by decide)]
  rfl
def low4 (n : Int) : List Int := [IntKind.u8.wrap n, IntKind.u8.wrap (n.fdiv ((2 : Int) ^ (8 : Nat))), IntKind.u8.wrap (n.fdiv ((2 : Int) ^ (16 : Nat))), IntKind.u8.wrap (n.fdiv ((2 : Int) ^ (24 : Nat)))]
theorem s_l6Low.step (k m : Nat) (hk : 3 ≤ k) (n : Int) (s : ByteArray) (hs : s.size ≤ 10) (j : Nat) (hj : j < 4) : s_l6Low.l0 k (m + 1) n s (j : Int) = s_l6Low.l0 k m n (s ++ strOfNums [IntKind.u8.wrap (n.fdiv ((2 : Int) ^ (8 * j)))]) ((j + 1 : Nat) : Int) := by
  have e : IntKind.u64.wrap (IntKind.i64.wrap ((8 : Int) * (j : Int))) = ((8 * j : Nat) : Int) := by
    rw [wrap_eq (by omega) (by omega)]
    have : j = 0 ∨ j = 1 ∨ j = 2 ∨ j = 3 := by omega
    rcases this with rfl | rfl | rfl | rfl <;> decide
  rw [s_l6Low.l0_s, cnT (by omega), e, gdT (by omega), Int.toNat_natCast, show min (8 * j) 64 = 8 * j by omega, s_l6Bytes.one k (by omega), Option.bind_some, gdT (by rw [strOfNums_len]; simp; omega), wrap_succ (by omega)]
theorem s_l6Low.all (k m : Nat) (hk : 3 ≤ k) (hm : 5 ≤ m) (n : Int) : s_l6Low.l0 k m n ByteArray.empty 0 = some (strOfNums (low4 n)) := by
  obtain ⟨k5, rfl⟩ : ∃ k5, m = k5 + 1 + 1 + 1 + 1 + 1 := ⟨m - 5, by omega⟩
  have e0 : (0 : Int) = ((0 : Nat) : Int) := rfl
  rw [e0, s_l6Low.step k _ hk n _ (by decide) 0 (by omega), s_l6Low.step k _ hk n _ (by simp [strOfNums_len]) 1 (by omega), s_l6Low.step k _ hk n _ (by simp [strOfNums_len]) 2 (by omega), s_l6Low.step k _ hk n _ (by simp [strOfNums_len]) 3 (by omega), s_l6Low.l0_s, cnF (by omega)]
  rw [← strOfNums_nil, ← strOfNums_append, ← strOfNums_append, ← strOfNums_append, ← strOfNums_append]
  unfold low4
  rw [show n.fdiv ((2 : Int) ^ (8 * 0)) = n by simp]
  rfl
theorem s_l6Low.eq (k : Nat) (hk : 5 ≤ k) (n : Int) : s_l6Low.f k n = some (strOfNums (low4 n)) := by
  rw [s_l6Low.f_eq]
  exact s_l6Low.all k k (by omega) hk n
def goodF (kind at_ ep : Int) (body : ByteArray) : Bool := decide (1 ≤ kind ∧ kind ≤ 255 ∧ 0 ≤ at_ ∧ at_ ≤ 60000 ∧ 0 ≤ ep ∧ ep ≤ 60000 ∧ (body.size : Int) ≤ 16)
theorem i_within.eq (k : Nat) (n lo hi : Int) : i_within.f k n lo hi = some (decide (lo ≤ n ∧ n ≤ hi)) := by
  rw [i_within.f_eq]
  by_cases h : lo ≤ n
  · rw [cnT h]; simp [h]
  · rw [cnF h]; simp [h]
theorem s_l1In.eq (k : Nat) (n lo hi : Int) : s_l1In.f k n lo hi = some (decide (lo ≤ n ∧ n ≤ hi)) := by
  rw [s_l1In.f_eq]
  by_cases h : lo ≤ n
  · rw [cnT h]; simp [h]
  · rw [cnF h]; simp [h]
theorem i_GoodFrame.eq (k : Nat) (kind at_ ep : Int) (body : ByteArray) : i_GoodFrame.f k kind at_ ep body = some (goodF kind at_ ep body) := by
  rw [i_GoodFrame.f_eq]
  simp only [i_within.eq, Option.bind_some]
  unfold goodF
  by_cases h1 : 1 ≤ kind ∧ kind ≤ 255
  case neg => rw [cnF h1, decide_eq_false (fun h => h1 ⟨h.1, h.2.1⟩)]
  rw [cnT h1]
  by_cases h2 : 0 ≤ at_ ∧ at_ ≤ 60000
  case neg => rw [cnF h2, decide_eq_false (fun h => h2 ⟨h.2.2.1, h.2.2.2.1⟩)]
  rw [cnT h2]
  by_cases h3 : 0 ≤ ep ∧ ep ≤ 60000
  case neg => rw [cnF h3, decide_eq_false (fun h => h3 ⟨h.2.2.2.2.1, h.2.2.2.2.2.1⟩)]
  rw [cnT h3]
  congr 1
  apply decide_eq_decide.2
  exact ⟨fun h => ⟨h1.1, h1.2, h2.1, h2.2, h3.1, h3.2, h⟩, fun h => h.2.2.2.2.2.2⟩
theorem s_GoodFrame.eq (k : Nat) (kind at_ ep : Int) (body : ByteArray) : s_GoodFrame.f k kind at_ ep body = some (goodF kind at_ ep body) := by
  rw [s_GoodFrame.f_eq]
  simp only [s_l1In.eq, Option.bind_some]
  unfold goodF
  by_cases h1 : 1 ≤ kind ∧ kind ≤ 255
  case neg => rw [cnF h1, decide_eq_false (fun h => h1 ⟨h.1, h.2.1⟩)]
  rw [cnT h1]
  by_cases h2 : 0 ≤ at_ ∧ at_ ≤ 60000
  case neg => rw [cnF h2, decide_eq_false (fun h => h2 ⟨h.2.2.1, h.2.2.2.1⟩)]
  rw [cnT h2]
  by_cases h3 : 0 ≤ ep ∧ ep ≤ 60000
  case neg => rw [cnF h3, decide_eq_false (fun h => h3 ⟨h.2.2.2.2.1, h.2.2.2.2.2.1⟩)]
  rw [cnT h3]
  congr 1
  apply decide_eq_decide.2
  exact ⟨fun h => ⟨h1.1, h1.2, h2.1, h2.2, h3.1, h3.2, h⟩, fun h => h.2.2.2.2.2.2⟩
def head6 (kind at_ ep : Int) (body : ByteArray) : List Int := [IntKind.u8.wrap kind, IntKind.u8.wrap (at_.fdiv ((2 : Int) ^ (8 : Nat))), IntKind.u8.wrap at_, IntKind.u8.wrap (ep.fdiv ((2 : Int) ^ (8 : Nat))), IntKind.u8.wrap ep, IntKind.u8.wrap (↑body.size : Int)]
def pad18 (body : ByteArray) : List Int := List.replicate (18 - body.size) (0 : Int)
def front24 (kind at_ ep : Int) (body : ByteArray) : List Int := head6 kind at_ ep body ++ bytesL body ++ pad18 body
def frameL (kind at_ ep : Int) (body : ByteArray) : List Int := front24 kind at_ ep body ++ low4 (crc (strOfNums (front24 kind at_ ep body)))
theorem bytesL_len (s : ByteArray) : (bytesL s).length = s.size := by simp [bytesL]
theorem front24_len (kind at_ ep : Int) (body : ByteArray) (hb : body.size ≤ 16) : (front24 kind at_ ep body).length = 24 := by
  unfold front24 head6 pad18
  simp only [List.length_append, bytesL_len, List.length_replicate, List.length_cons, List.length_nil]
  omega
theorem i_frameBytes.eq (k : Nat) (hk : 40 ≤ k) (kind at_ ep : Int) (body : ByteArray) (hb : body.size ≤ 16) : i_frameBytes.f k kind at_ ep body = some (strOfNums (frameL kind at_ ep body)) := by
  have e : IntKind.i64.wrap (IntKind.i64.wrap ((18 : Int) - (↑body.size : Int))) = ((18 - body.size : Nat) : Int) := by
    rw [wrap_eq (n := 18 - (body.size : Int)) (by omega) (by omega), wrap_eq (by omega) (by omega)]; omega
  rw [i_frameBytes.f_eq, e, Int.toNat_natCast]
  have hL := front24_len kind at_ ep body hb
  unfold front24 head6 pad18 at hL
  rw [app1 _ (by simp only [bytesL_len, List.length_cons, List.length_nil]; omega), gd_t, app1 _ (by rw [← List.length_append, hL]; omega), decide_eq_true (by omega : (0 : Int) ≤ ((18 - body.size : Nat) : Int)), Bool.true_and, gd_t]
  rw [i_sumOn.eq k _ (by rw [strOfNums_len, hL]; omega) (by rw [strOfNums_len, hL]; omega), Option.bind_some, app1 _ (by rw [hL]; simp), gd_t]
  rfl
theorem gd_le {A : Type} {x y : Nat} {z : Option A} (h : x ≤ y) : gd (decide (x ≤ y)) z = z := gdT h
theorem s_l6Frame.eq (k : Nat) (hk : 40 ≤ k) (kind at_ ep : Int) (body : ByteArray) (hb : body.size ≤ 16) : s_l6Frame.f k kind at_ ep body = some (strOfNums (frameL kind at_ ep body)) := by
  have e : IntKind.i64.wrap (IntKind.i64.wrap ((16 : Int) - (↑body.size : Int)) + 2) = ((18 - body.size : Nat) : Int) := by
    rw [wrap_eq (n := 16 - (body.size : Int)) (by omega) (by omega), wrap_eq (by omega) (by omega)]; omega
  have hL := front24_len kind at_ ep body hb
  have eF : strOfNums [IntKind.u8.wrap kind] ++ strOfNums [IntKind.u8.wrap (at_.fdiv ((2 : Int) ^ (8 : Nat))), IntKind.u8.wrap at_] ++ strOfNums [IntKind.u8.wrap (ep.fdiv ((2 : Int) ^ (8 : Nat))), IntKind.u8.wrap ep] ++ strOfNums [IntKind.u8.wrap (body.size : Int)] ++ body ++ strOfNums (List.replicate (18 - body.size) (0 : Int)) = strOfNums (front24 kind at_ ep body) := by
    unfold front24
    rw [strOfNums_append, strOfNums_append, strOfNums_bytes, ← strOfNums_append, ← strOfNums_append, ← strOfNums_append]
    rfl
  have hc := s_l5On.eq k (strOfNums (front24 kind at_ ep body)) (by rw [strOfNums_len, hL]; omega) (by rw [strOfNums_len, hL]; omega)
  rw [s_l6Frame.f_eq]
  simp only [s_l6Bytes.one k (by omega : 2 ≤ k), s_l6Bytes.two k (by omega : 3 ≤ k), Option.bind_some, e, Int.toNat_natCast, mk1 (18 - body.size) (by omega), gd_t, ByteArray.size_append, strOfNums_len, List.length_cons, List.length_nil, List.length_replicate]
  simp (disch := omega) only [gd_le]
  simp only [eF, hc, Option.bind_some, s_l6Low.eq k (by omega : 5 ≤ k), strOfNums_len]
  simp only [show ∀ n, (low4 n).length = 4 from fun _ => rfl]
  simp (disch := omega) only [gd_le, both_self]
  rw [← strOfNums_append]
  rfl
theorem s_l6Value.one (t : ByteArray) (h : t.size = 1) (k : Nat) (hk : 2 ≤ k) : s_l6Value.f k t = some (IntKind.i64.wrap (↑(t.data.getD 0 0).toNat : Int)) := by
  obtain ⟨k3, e⟩ : ∃ k3, k = k3 + 2 := ⟨k - 2, by omega⟩
  rw [s_l6Value.f_eq]
  generalize hm : k = m
  have hm3 : m = k3 + 1 + 1 := by omega
  have b0 := byte_lt (t.data.getD 0 0)
  rw [hm3, s_l6Value.l0_s, cnT (by omega), show inb (0 : Int) t.size = true from inb_nat (i := 0) (by omega), gd_t, show (0 : Int).toNat = 0 from rfl, step_zero _ (by omega) (by omega), show IntKind.i64.wrap ((0 : Int) + 1) = ((1 : Nat) : Int) from wrap_succ (n := 0) (by omega), s_l6Value.l0_s, cnF (by omega), wrap_eq (by omega) (by omega)]
theorem s_l6Value.pair (t : ByteArray) (h : t.size = 2) (k : Nat) (hk : 3 ≤ k) : s_l6Value.f k t = some (IntKind.i64.wrap (↑(BitVec.ofInt (64 : Nat) (IntKind.i64.wrap (IntKind.i64.wrap (↑(t.data.getD 0 (0 : UInt8)).toNat : Int) * (2 : Int) ^ (8 : Nat))) ||| BitVec.ofInt (64 : Nat) (IntKind.i64.wrap (↑(t.data.getD 1 (0 : UInt8)).toNat : Int))).toNat : Int)) := by
  obtain ⟨k3, e⟩ : ∃ k3, k = k3 + 3 := ⟨k - 3, by omega⟩
  rw [s_l6Value.f_eq]
  generalize hm : k = m
  have hm3 : m = k3 + 1 + 1 + 1 := by omega
  have b0 := byte_lt (t.data.getD 0 0)
  rw [hm3, s_l6Value.l0_s, cnT (by omega), show inb (0 : Int) t.size = true from inb_nat (i := 0) (by omega), gd_t, show (0 : Int).toNat = 0 from rfl, step_zero _ (by omega) (by omega), show IntKind.i64.wrap ((0 : Int) + 1) = ((1 : Nat) : Int) from wrap_succ (n := 0) (by omega)]
  rw [s_l6Value.l0_s, cnT (by omega), inb_nat (i := 1) (by omega), gd_t, wrap_succ (by omega), s_l6Value.l0_s, cnF (by omega), Int.toNat_natCast]
  congr 7
  rw [wrap_eq (by omega) (by omega)]
theorem ext_getD (s : ByteArray) (a b j : Nat) (h : b ≤ s.size) (hj : a + j < b) : (s.extract a b).data.getD j 0 = s.data.getD (a + j) 0 := by
  have hs : s.data.size = s.size := rfl
  rw [ByteArray.data_extract, Array.getD_eq_getD_getElem?, Array.getD_eq_getD_getElem?, Array.getElem?_extract]
  rw [if_pos (by omega)]
theorem byteArray_toList_eq {a b : ByteArray} : a.toList = b.toList ↔ a = b := by
  constructor
  · intro h
    have : a.data.toList = b.data.toList := by rw [ByteArray.toList_eq, ByteArray.toList_eq] at h; exact h
    exact ByteArray.ext (Array.ext' this)
  · rintro rfl; rfl
abbrev Fr : Type := (Int × Int × Int × ByteArray) × Int × Bool
abbrev noFr (c : Int) : Fr := (((0 : Int), (0 : Int), (0 : Int), ByteArray.empty), c, false)
/-- What a frame's text is read as. -/
theorem readFrame_same (s : ByteArray) : ∃ r : Fr, (∀ k, 40 ≤ k → i_ReadFrame.f k s = some r) ∧ (∀ k, 40 ≤ k → s_ReadFrame.f k s = some r) ∧ (r.2.2 = true → r.2.1 = 0 ∧ 0 ≤ r.1.2.2.1 ∧ r.1.2.2.1 ≤ 60000 ∧ r.1.2.2.2.size ≤ 16) ∧ (r.2.2 = false → r.2.1 ≠ 0) ∧ (s.size ≠ 28 → r.2.2 = false) := by
  by_cases h28 : (s.size : Int) = 28
  case neg =>
    exact ⟨noFr 1, fun k hk => by rw [i_ReadFrame.f_eq, cnNF h28], fun k hk => by rw [s_ReadFrame.f_eq, cnNF h28], fun h => (by cases h), fun _ => (by decide), fun _ => rfl⟩
  have hs : s.size = 28 := by omega
  have h24 : (s.extract 0 24).size = 24 := by rw [ByteArray.size_extract]; omega
  have hi : ∀ k, 40 ≤ k → i_sumOn.f k 0 (s.extract 0 24) = some (crc (s.extract 0 24)) := fun k hk => i_sumOn.eq k _ (by omega) (by omega)
  have ho : ∀ k, 40 ≤ k → s_l5On.f k 0 (s.extract 0 24) = some (crc (s.extract 0 24)) := fun k hk => s_l5On.eq k _ (by omega) (by omega)
  by_cases hsum : (s.extract 24 s.size).toList = (strOfNums (low4 (crc (s.extract 0 24)))).toList
  case neg =>
    refine ⟨noFr 2, fun k hk => ?_, fun k hk => ?_, fun h => (by cases h), fun _ => (by decide), fun h => absurd hs h⟩
    · rw [i_ReadFrame.f_eq, cnNT h28, decide_eq_true (by omega : (24 : Int) ≤ (s.size : Int))]
      simp only [Bool.true_and, gd_t, hi k hk, Option.bind_some]
      exact cnNF hsum
    · rw [s_ReadFrame.f_eq, cnNT h28, decide_eq_true (by omega : (24 : Int) ≤ (s.size : Int))]
      simp only [Bool.true_and, gd_t, ho k hk, Option.bind_some, s_l6Low.eq k (by omega : 5 ≤ k)]
      exact cnNF (fun h => hsum h.symm)
  have v1 : ∀ k, 40 ≤ k → s_l6Value.f k (s.extract 0 1) = some (IntKind.i64.wrap (↑(s.data.getD 0 0).toNat : Int)) := fun k hk => by
    rw [s_l6Value.one _ (by rw [ByteArray.size_extract]; omega) k (by omega), ext_getD s 0 1 0 (by omega) (by omega)]
  have v2 : ∀ k, 40 ≤ k → s_l6Value.f k (s.extract 1 3) = _ := fun k hk => by
    rw [s_l6Value.pair _ (by rw [ByteArray.size_extract]; omega) k (by omega), ext_getD s 1 3 0 (by omega) (by omega), ext_getD s 1 3 1 (by omega) (by omega)]
  have v3 : ∀ k, 40 ≤ k → s_l6Value.f k (s.extract 3 5) = _ := fun k hk => by
    rw [s_l6Value.pair _ (by rw [ByteArray.size_extract]; omega) k (by omega), ext_getD s 3 5 0 (by omega) (by omega), ext_getD s 3 5 1 (by omega) (by omega)]
  generalize hx1 : IntKind.i64.wrap (↑(s.data.getD 0 0).toNat : Int) = x1 at v1
  generalize hx2 : IntKind.i64.wrap (↑(BitVec.ofInt (64 : Nat) (IntKind.i64.wrap (IntKind.i64.wrap (↑(s.data.getD (1 + 0) (0 : UInt8)).toNat : Int) * (2 : Int) ^ (8 : Nat))) ||| BitVec.ofInt (64 : Nat) (IntKind.i64.wrap (↑(s.data.getD (1 + 1) (0 : UInt8)).toNat : Int))).toNat : Int) = x2 at v2
  generalize hx3 : IntKind.i64.wrap (↑(BitVec.ofInt (64 : Nat) (IntKind.i64.wrap (IntKind.i64.wrap (↑(s.data.getD (3 + 0) (0 : UInt8)).toNat : Int) * (2 : Int) ^ (8 : Nat))) ||| BitVec.ofInt (64 : Nat) (IntKind.i64.wrap (↑(s.data.getD (3 + 1) (0 : UInt8)).toNat : Int))).toNat : Int) = x3 at v3
  simp only [Nat.add_zero, Nat.reduceAdd] at hx2 hx3
  have b5 := byte_lt (s.data.getD 5 0)
  have e5 : IntKind.i64.wrap (↑(s.data.getD 5 0).toNat : Int) = ((s.data.getD 5 0).toNat : Int) := wrap_eq (by omega) (by omega)
  have inbs : ∀ j : Nat, j < 28 → inb (j : Int) s.size = true := fun j hj => inb_nat (by omega)
  have g0 := inbs 0 (by omega); have g1 := inbs 1 (by omega); have g2 := inbs 2 (by omega); have g3 := inbs 3 (by omega); have g4 := inbs 4 (by omega); have g5 := inbs 5 (by omega)
  -- the code's reading, down to its frame
  have hI : ∀ k, 40 ≤ k → ∀ n : Nat, n = min (s.data.getD 5 0).toNat 16 → i_ReadFrame.f k s = cn (!goodF x1 x2 x3 (s.extract 6 (6 + n))) (some (noFr 3)) (cn (!decide ((strOfNums (frameL x1 x2 x3 (s.extract 6 (6 + n)))).toList = s.toList)) (some (noFr 3)) (some ((x1, x2, x3, s.extract 6 (6 + n)), 0, true))) := by
    intro k hk n hn
    have hsz : (s.extract 6 (6 + n)).size ≤ 16 := by rw [ByteArray.size_extract]; omega
    have e6 : cn (decide (((s.data.getD 5 0).toNat : Int) < (16 : Int))) (((s.data.getD 5 0).toNat : Int)) (16 : Int) = (n : Int) := by
      by_cases h : ((s.data.getD 5 0).toNat : Int) < 16
      · rw [cnT h]; omega
      · rw [cnF h]; omega
    rw [i_ReadFrame.f_eq, cnNT h28, decide_eq_true (by omega : (24 : Int) ≤ (s.size : Int))]
    simp only [Bool.true_and, gd_t, hi k hk, Option.bind_some]
    rw [show (strOfNums [IntKind.u8.wrap (crc (s.extract 0 24)), IntKind.u8.wrap (Int.fdiv (crc (s.extract 0 24)) ((2 : Int) ^ (8 : Nat))), IntKind.u8.wrap (Int.fdiv (crc (s.extract 0 24)) ((2 : Int) ^ (16 : Nat))), IntKind.u8.wrap (Int.fdiv (crc (s.extract 0 24)) ((2 : Int) ^ (24 : Nat)))]) = strOfNums (low4 (crc (s.extract 0 24))) from rfl, cnNT hsum]
    rw [show inb (0 : Int) s.size = true from g0, show inb (1 : Int) s.size = true from g1, show inb (2 : Int) s.size = true from g2, show inb (3 : Int) s.size = true from g3, show inb (4 : Int) s.size = true from g4, show inb (5 : Int) s.size = true from g5]
    simp only [gd_t]
    rw [e5, e6, wrap_eq (n := 6 + (n : Int)) (by omega) (by omega), decide_eq_true (by omega : (6 : Int) ≤ 6 + (n : Int)), decide_eq_true (by omega : 6 + (n : Int) ≤ (s.size : Int)), hx1, hx2, hx3, show (6 + (n : Int)).toNat = 6 + n by omega]
    simp only [Bool.and_self, gd_t, i_GoodFrame.eq, Option.bind_some, i_frameBytes.eq k hk x1 x2 x3 _ hsz]
  have hS : ∀ k, 40 ≤ k → ∀ n : Nat, n = (s.data.getD 5 0).toNat → n ≤ 16 → s_ReadFrame.f k s = cn (!goodF x1 x2 x3 (s.extract 6 (6 + n))) (some (noFr 3)) (cn (!decide ((strOfNums (frameL x1 x2 x3 (s.extract 6 (6 + n)))).toList = s.toList)) (some (noFr 3)) (some ((x1, x2, x3, s.extract 6 (6 + n)), 0, true))) := by
    intro k hk n hn hn16
    have hsz : (s.extract 6 (6 + n)).size ≤ 16 := by rw [ByteArray.size_extract]; omega
    rw [s_ReadFrame.f_eq, cnNT h28, decide_eq_true (by omega : (24 : Int) ≤ (s.size : Int)), decide_eq_true (by omega : (1 : Int) ≤ (s.size : Int)), decide_eq_true (by omega : (3 : Int) ≤ (s.size : Int)), decide_eq_true (by omega : (5 : Int) ≤ (s.size : Int))]
    simp only [Bool.true_and, gd_t, ho k hk, Option.bind_some, s_l6Low.eq k (by omega : 5 ≤ k)]
    rw [cnNT hsum.symm]
    simp only [v1 k hk, v2 k hk, v3 k hk, Option.bind_some, both_self]
    rw [show inb (5 : Int) s.size = true from g5, e5, cnF (by omega), ← hn, wrap_eq (n := 6 + (n : Int)) (by omega) (by omega), decide_eq_true (by omega : (6 : Int) ≤ 6 + (n : Int)), decide_eq_true (by omega : 6 + (n : Int) ≤ (s.size : Int)), show (6 + (n : Int)).toNat = 6 + n by omega]
    simp only [Bool.and_self, gd_t, s_GoodFrame.eq, Option.bind_some, s_l6Frame.eq k hk x1 x2 x3 _ hsz]
  have hS2 : ∀ k, 40 ≤ k → 16 < (s.data.getD 5 0).toNat → s_ReadFrame.f k s = some (noFr 3) := by
    intro k hk hn16
    rw [s_ReadFrame.f_eq, cnNT h28, decide_eq_true (by omega : (24 : Int) ≤ (s.size : Int)), decide_eq_true (by omega : (1 : Int) ≤ (s.size : Int)), decide_eq_true (by omega : (3 : Int) ≤ (s.size : Int)), decide_eq_true (by omega : (5 : Int) ≤ (s.size : Int))]
    simp only [Bool.true_and, gd_t, ho k hk, Option.bind_some, s_l6Low.eq k (by omega : 5 ≤ k)]
    rw [cnNT hsum.symm]
    simp only [v1 k hk, v2 k hk, v3 k hk, Option.bind_some, both_self]
    rw [show inb (5 : Int) s.size = true from g5, e5, cnT (by omega)]
    simp only [gd_t]
  by_cases hbig : 16 < (s.data.getD 5 0).toNat
  · refine ⟨noFr 3, fun k hk => ?_, fun k hk => hS2 k hk hbig, fun h => (by cases h), fun _ => (by decide), fun _ => rfl⟩
    rw [hI k hk 16 (by omega)]
    cases goodF x1 x2 x3 (s.extract 6 (6 + 16)) with
    | false => rfl
    | true =>
      refine cnNF (fun h => ?_)
      have h2 := byteArray_toList_eq.1 h
      have h3 : (strOfNums (frameL x1 x2 x3 (s.extract 6 (6 + 16)))).data.getD 5 0 = s.data.getD 5 0 := by rw [h2]
      have h4 : (s.extract 6 (6 + 16)).size = 16 := by rw [ByteArray.size_extract]; omega
      have h5 : (strOfNums (frameL x1 x2 x3 (s.extract 6 (6 + 16)))).data.getD 5 0 = 16 := by
        rw [Array.getD_eq_getD_getElem?, ← Array.getElem?_toList, strOfNums_data, List.getElem?_map]
        unfold frameL front24 head6
        rw [h4]
        rfl
      rw [h5] at h3
      rw [← h3] at hbig
      exact absurd hbig (by decide)
  · have hn : (s.data.getD 5 0).toNat = min (s.data.getD 5 0).toNat 16 := by omega
    generalize hnn : (s.data.getD 5 0).toNat = n at hI hS hn hbig
    have hI2 := fun k hk => hI k hk n hn
    have hS2 := fun k hk => hS k hk n rfl (by omega)
    cases hg : goodF x1 x2 x3 (s.extract 6 (6 + n)) with
    | false =>
      rw [hg] at hI2 hS2
      exact ⟨noFr 3, hI2, hS2, fun h => (by cases h), fun _ => (by decide), fun _ => rfl⟩
    | true =>
      rw [hg] at hI2 hS2
      by_cases hf : (strOfNums (frameL x1 x2 x3 (s.extract 6 (6 + n)))).toList = s.toList
      · refine ⟨((x1, x2, x3, s.extract 6 (6 + n)), 0, true), fun k hk => ?_, fun k hk => ?_, fun _ => ?_, fun h => (by cases h), fun h => absurd hs h⟩
        · rw [hI2 k hk]; simp only [Bool.not_true, cn_f]; exact cnNT hf
        · rw [hS2 k hk]; simp only [Bool.not_true, cn_f]; exact cnNT hf
        · unfold goodF at hg
          have hg := of_decide_eq_true hg
          exact ⟨rfl, hg.2.2.2.2.1, hg.2.2.2.2.2.1, by have := hg.2.2.2.2.2.2; show (s.extract 6 (6 + n)).size ≤ 16; omega⟩
      · refine ⟨noFr 3, fun k hk => ?_, fun k hk => ?_, fun h => (by cases h), fun _ => (by decide), fun _ => rfl⟩
        · rw [hI2 k hk]; simp only [Bool.not_true, cn_f]; exact cnNF hf
        · rw [hS2 k hk]; simp only [Bool.not_true, cn_f]; exact cnNF hf
/-- What CheckFrame says of a text. -/
theorem checkFrame_same (s : ByteArray) (kind at_ least : Int) : ∃ r : Fr, (∀ k, 40 ≤ k → i_CheckFrame.f k s kind at_ least = some r) ∧ (∀ k, 40 ≤ k → s_CheckFrame.f k s kind at_ least = some r) ∧ (r.2.2 = true → 0 ≤ r.1.2.2.1 ∧ r.1.2.2.1 ≤ 60000) ∧ (s.size ≠ 28 → r.2.2 = false) := by
  obtain ⟨⟨⟨x1, x2, x3, bd⟩, c, ok⟩, hi, hs, h1, h2, h3⟩ := readFrame_same s
  simp only at h1 h2 h3
  cases ok with
  | false =>
    have hc := h2 rfl
    refine ⟨noFr c, fun k hk => ?_, fun k hk => ?_, fun h => (by cases h), fun _ => rfl⟩
    · rw [i_CheckFrame.f_eq, hi k hk]
      simp only [Option.bind_some, Bool.not_false, cn_t]
      exact cnNF hc
    · rw [s_CheckFrame.f_eq, hs k hk]
      simp only [Option.bind_some, Bool.not_false, cn_t]
  | true =>
    obtain ⟨hc, e1, e2, _⟩ := h1 rfl
    subst hc
    have hi' : ∀ k, 40 ≤ k → i_CheckFrame.f k s kind at_ least = s_CheckFrame.f k s kind at_ least := fun k hk => by
      rw [i_CheckFrame.f_eq, hi k hk, s_CheckFrame.f_eq, hs k hk]
      simp only [Option.bind_some, Bool.not_true, cn_f]
      simp only [decide_true, Bool.not_true, cn_f]
    have hs' : ∀ k, 40 ≤ k → s_CheckFrame.f k s kind at_ least = cn (!decide (x1 = kind)) (some (noFr 3)) (cn (!decide (x2 = at_)) (some (noFr 4)) (cn (decide (x3 < least)) (some (noFr 5)) (some ((x1, x2, x3, bd), 0, true)))) := fun k hk => by
      rw [s_CheckFrame.f_eq, hs k hk]
      simp only [Option.bind_some, Bool.not_true, cn_f]
    have hsz : s.size ≠ 28 → False := fun h => by cases h3 h
    have fin : ∀ r : Fr, (∀ k, 40 ≤ k → s_CheckFrame.f k s kind at_ least = some r) → (r.2.2 = true → 0 ≤ r.1.2.2.1 ∧ r.1.2.2.1 ≤ 60000) → ∃ r : Fr, (∀ k, 40 ≤ k → i_CheckFrame.f k s kind at_ least = some r) ∧ (∀ k, 40 ≤ k → s_CheckFrame.f k s kind at_ least = some r) ∧ (r.2.2 = true → 0 ≤ r.1.2.2.1 ∧ r.1.2.2.1 ≤ 60000) ∧ (s.size ≠ 28 → r.2.2 = false) :=
      fun r ha hb => ⟨r, fun k hk => (hi' k hk).trans (ha k hk), ha, hb, fun h => (hsz h).elim⟩
    by_cases c1 : x1 = kind
    case neg => exact fin (noFr 3) (fun k hk => by rw [hs' k hk, cnNF c1]) (fun h => by cases h)
    by_cases c2 : x2 = at_
    case neg => exact fin (noFr 4) (fun k hk => by rw [hs' k hk, cnNT c1, cnNF c2]) (fun h => by cases h)
    by_cases c3 : x3 < least
    · exact fin (noFr 5) (fun k hk => by rw [hs' k hk, cnNT c1, cnNT c2, cnT c3]) (fun h => by cases h)
    · exact fin ((x1, x2, x3, bd), 0, true) (fun k hk => by rw [hs' k hk, cnNT c1, cnNT c2, cnF c3]) (fun _ => ⟨e1, e2⟩)
theorem app16 (n : Nat) (h : n ≤ 1048576) : appOk n (Try.prog.bytesOf (9 : Nat)) = true := by
  rw [show Try.prog.bytesOf (9 : Nat) = 16 by kernel_rfl]
  unfold appOk
  simp; omega
/-- The rounds of RecoverFrom, n of them left: both tell the same. -/
theorem recover_loop (p h : List ByteArray) (b : List Bool) (g : goodD p h b = true) (hp : p.length = 5) (y1 y2 y3 : Int) (y4 : ByteArray) (e0 : 0 ≤ y3) (e1 : y3 ≤ 60000) :
    ∀ (n j : Nat) (l : List ByteArray), j + n = 2 → l.length = j → ∃ r : List Int × Int × Bool, (∀ k m, 40 ≤ k → n < m → i_RecoverFrom.l0 k m (j : Int) p h b y1 y2 y3 y4 l = some r) ∧
      (∀ k m, 40 ≤ k → n < m → s_l15Recover.l0 k m (1 + 2 * y3.tmod 2) (j : Int) p h b y1 y2 y3 y4 l = some (if r.2.2 = true then (r.1, y3) else ([], -1))) ∧ r.1.length ≤ 6 ∧ (r.2.2 = true → r.2.1 = y3) ∧ (r.2.2 = false → r = ([], 0, false)) := by
  obtain ⟨g1, g2, g3, g4⟩ := goodD_len g
  have ht : y3.tmod 2 = 0 ∨ y3.tmod 2 = 1 := by rw [Int.tmod_eq_emod_of_nonneg e0]; omega
  obtain ⟨q, hq, hq1⟩ : ∃ q : Nat, 1 + 2 * y3.tmod 2 = (q : Int) ∧ q ≤ 3 := by rcases ht with h | h <;> rw [h]; exact ⟨1, rfl, by omega⟩; exact ⟨3, rfl, by omega⟩
  have hw : IntKind.i64.wrap ((1 : Int) + IntKind.i64.wrap ((2 : Int) * y3.tmod (2 : Int))) = (q : Int) := by
    rw [wrap_eq (n := 2 * y3.tmod 2) (by omega) (by omega), wrap_eq (by omega) (by omega)]; omega
  rw [hq]
  intro n
  induction n with
  | zero =>
    intro j l hj hl
    obtain ⟨d, hd, hd6⟩ := sfF_some l
    have ss : ∀ k, 40 ≤ k → s_StateFrom.f k l = some d := fun k hk => by rw [s_StateFrom.eq l k (by omega), hd]
    have is_ : ∀ k, i_StateFrom.f k l = some d := fun k => hd
    cases hok : d.2 with
    | false =>
      refine ⟨([], 0, false), fun k m hk hm => ?_, fun k m hk hm => ?_, by simp, fun h => (by cases h), fun _ => rfl⟩
      · obtain ⟨m, rfl⟩ : ∃ m', m = m' + 1 := ⟨m - 1, by omega⟩
        rw [i_RecoverFrom.l0_s, cnF (by omega), is_ k, Option.bind_some, hok]; rfl
      · obtain ⟨m, rfl⟩ : ∃ m', m = m' + 1 := ⟨m - 1, by omega⟩
        rw [s_l15Recover.l0_s, cnF (by omega), ss k hk, Option.bind_some, hok]; rfl
    | true =>
      refine ⟨(d.1, y3, true), fun k m hk hm => ?_, fun k m hk hm => ?_, hd6, fun _ => rfl, fun h => (by cases h)⟩
      · obtain ⟨m, rfl⟩ : ∃ m', m = m' + 1 := ⟨m - 1, by omega⟩
        rw [i_RecoverFrom.l0_s, cnF (by omega), is_ k, Option.bind_some, hok]; rfl
      · obtain ⟨m, rfl⟩ : ∃ m', m = m' + 1 := ⟨m - 1, by omega⟩
        rw [s_l15Recover.l0_s, cnF (by omega), ss k hk, Option.bind_some, hok]; rfl
  | succ n ih =>
    intro j l hj hl
    have ew : IntKind.i64.wrap ((q : Int) + (j : Int)) = ((q + j : Nat) : Int) := by rw [wrap_eq (by omega) (by omega)]; omega
    obtain ⟨rd, hrd, hrd0⟩ := s_l7Read.at p h b g3 g4 (q + j) (by omega)
    have hird : ∀ k, 40 ≤ k → i_ReadSector.f k p h b ((q + j : Nat) : Int) = some rd := fun k hk => by rw [i_ReadSector.eq p h b g (q + j) (by omega) k (by omega), hrd]
    obtain ⟨cf, hci, hcs, _, hc28⟩ := checkFrame_same rd.1 3 ((q + j : Nat) : Int) y3
    have bad : (∀ k, 40 ≤ k → ∀ m, i_RecoverFrom.l0 k (m + 1) (j : Int) p h b y1 y2 y3 y4 l = some ([], 0, false)) → (∀ k, 40 ≤ k → ∀ m, s_l15Recover.l0 k (m + 1) (q : Int) (j : Int) p h b y1 y2 y3 y4 l = some ([], -1)) →
        ∃ r : List Int × Int × Bool, (∀ k m, 40 ≤ k → n + 1 < m → i_RecoverFrom.l0 k m (j : Int) p h b y1 y2 y3 y4 l = some r) ∧
      (∀ k m, 40 ≤ k → n + 1 < m → s_l15Recover.l0 k m (q : Int) (j : Int) p h b y1 y2 y3 y4 l = some (if r.2.2 = true then (r.1, y3) else ([], -1))) ∧ r.1.length ≤ 6 ∧ (r.2.2 = true → r.2.1 = y3) ∧ (r.2.2 = false → r = ([], 0, false)) := by
      intro ha hb
      refine ⟨([], 0, false), fun k m hk hm => ?_, fun k m hk hm => ?_, by simp, fun h => (by cases h), fun _ => rfl⟩
      · obtain ⟨m, rfl⟩ : ∃ m', m = m' + 1 := ⟨m - 1, by omega⟩
        exact ha k hk m
      · obtain ⟨m, rfl⟩ : ∃ m', m = m' + 1 := ⟨m - 1, by omega⟩
        exact hb k hk m
    have stepI : ∀ k, 40 ≤ k → ∀ m, i_RecoverFrom.l0 k (m + 1) (j : Int) p h b y1 y2 y3 y4 l = cn (!cf.2.2) (some ([], 0, false)) (cn (!decide (cf.1.2.2.1 = y3)) (some ([], 0, false)) (i_RecoverFrom.l0 k m ((j + 1 : Nat) : Int) p h b y1 y2 y3 y4 (l ++ [cf.1.2.2.2]))) := by
      intro k hk m
      rw [i_RecoverFrom.l0_s, cnT (by omega), i_halfOf.f_eq, hw, Option.bind_some, ew, hird k hk, Option.bind_some, hci k hk, Option.bind_some, app16 _ (by simp; omega), gd_t, wrap_succ (by omega)]
    have stepS : ∀ k, 40 ≤ k → ∀ m, s_l15Recover.l0 k (m + 1) (q : Int) (j : Int) p h b y1 y2 y3 y4 l = cn (!rd.2) (some ([], -1)) (cn (!cf.2.2) (some ([], -1)) (cn (!decide (cf.1.2.2.1 = y3)) (some ([], -1)) (s_l15Recover.l0 k m (q : Int) ((j + 1 : Nat) : Int) p h b y1 y2 y3 y4 (l ++ [cf.1.2.2.2])))) := by
      intro k hk m
      rw [s_l15Recover.l0_s, cnT (by omega), ew, hrd, Option.bind_some, hcs k hk, Option.bind_some, app16 _ (by simp; omega), gd_t, wrap_succ (by omega)]
    cases hok : cf.2.2 with
    | false =>
      refine bad (fun k hk m => by rw [stepI k hk m, hok]; rfl) (fun k hk m => ?_)
      rw [stepS k hk m, hok]
      cases rd.2 <;> rfl
    | true =>
      have hrt : rd.2 = true := by
        cases hr : rd.2 with
        | true => rfl
        | false =>
          have := hrd0 hr
          rw [this] at hc28
          have := hc28 (by decide)
          rw [hok] at this; cases this
      by_cases ce : cf.1.2.2.1 = y3
      case neg =>
        exact bad (fun k hk m => by rw [stepI k hk m, hok, cnNF ce]; rfl) (fun k hk m => by rw [stepS k hk m, hok, hrt, cnNF ce]; rfl)
      obtain ⟨r, r1, r2, r3, r4, r5⟩ := ih (j + 1) (l ++ [cf.1.2.2.2]) (by omega) (by simp; omega)
      refine ⟨r, fun k m hk hm => ?_, fun k m hk hm => ?_, r3, r4, r5⟩
      · obtain ⟨m, rfl⟩ : ∃ m', m = m' + 1 := ⟨m - 1, by omega⟩
        rw [stepI k hk m, hok, cnNT ce]
        simp only [Bool.not_true, cn_f]
        exact r1 k m hk (by omega)
      · obtain ⟨m, rfl⟩ : ∃ m', m = m' + 1 := ⟨m - 1, by omega⟩
        rw [stepS k hk m, hok, hrt, cnNT ce]
        simp only [Bool.not_true, cn_f]
        exact r2 k m hk (by omega)
/-- The code's RecoverFrom and the law's own tell the same. -/
theorem recover_same (p h : List ByteArray) (b : List Bool) : ∃ r : List Int × Int × Bool, (∀ k, 40 ≤ k → i_RecoverFrom.f k p h b = some r) ∧ (∀ k, 40 ≤ k → s_RecoverFrom.f k p h b = some r) ∧ r.1.length ≤ 6 := by
  have no : (∀ k, 40 ≤ k → i_RecoverFrom.f k p h b = some ([], 0, false)) → (∀ k, 40 ≤ k → s_RecoverFrom.f k p h b = some ([], 0, false)) → ∃ r : List Int × Int × Bool, (∀ k, 40 ≤ k → i_RecoverFrom.f k p h b = some r) ∧ (∀ k, 40 ≤ k → s_RecoverFrom.f k p h b = some r) ∧ r.1.length ≤ 6 :=
    fun ha hb => ⟨([], 0, false), ha, hb, by simp⟩
  cases g : goodD p h b with
  | false =>
    refine no (fun k hk => ?_) (fun k hk => ?_)
    · rw [i_RecoverFrom.f_eq, i_GoodDisk.eq k (by omega), g]; rfl
    · rw [s_RecoverFrom.f_eq, s_GoodDisk.eq k (by omega), g]; rfl
  | true =>
    by_cases h5 : (p.length : Int) = 5
    case neg =>
      refine no (fun k hk => ?_) (fun k hk => ?_)
      · rw [i_RecoverFrom.f_eq, i_GoodDisk.eq k (by omega), g, cnNF h5]; rfl
      · rw [s_RecoverFrom.f_eq, s_GoodDisk.eq k (by omega), g, cnNF h5]; rfl
    obtain ⟨g1, g2, g3, g4⟩ := goodD_len g
    obtain ⟨rd, hrd, hrd0⟩ := s_l7Read.at p h b g3 g4 0 (by omega)
    have hird : ∀ k, 40 ≤ k → i_ReadSector.f k p h b 0 = some rd := fun k hk => by
      have := i_ReadSector.eq p h b g 0 (by omega) k (by omega)
      rw [show ((0 : Nat) : Int) = 0 from rfl] at this
      rw [this]; exact hrd k
    have hrd : ∀ k, s_l7Read.f k p h b 0 = some rd := hrd
    obtain ⟨cf, hci, hcs, hce, hc28⟩ := checkFrame_same rd.1 4 0 0
    have hI : ∀ k, 40 ≤ k → i_RecoverFrom.f k p h b = cn (!cf.2.2) (some ([], 0, false)) (i_RecoverFrom.l0 k k 0 p h b cf.1.1 cf.1.2.1 cf.1.2.2.1 cf.1.2.2.2 []) := fun k hk => by
      rw [i_RecoverFrom.f_eq, i_GoodDisk.eq k (by omega), g, cnNT h5, Option.bind_some, hird k hk, Option.bind_some, hci k hk, Option.bind_some]; rfl
    have hR : ∀ k, 40 ≤ k → s_l15Recover.f k p h b = cn (!rd.2) (some ([], -1)) (cn (!cf.2.2) (some ([], -1)) (s_l15Recover.l0 k k (IntKind.i64.wrap ((1 : Int) + IntKind.i64.wrap ((2 : Int) * cf.1.2.2.1.tmod (2 : Int)))) 0 p h b cf.1.1 cf.1.2.1 cf.1.2.2.1 cf.1.2.2.2 [])) := fun k hk => by
      rw [s_l15Recover.f_eq, hrd k, Option.bind_some, hcs k hk, Option.bind_some, s_l15Half.f_eq, Option.bind_some]
    have hS : ∀ k, 40 ≤ k → ∀ d, s_l15Recover.f k p h b = some d → s_RecoverFrom.f k p h b = cn (decide (d.2 < 0)) (some ([], 0, false)) (some (d.1, d.2, true)) := fun k hk d hd => by
      rw [s_RecoverFrom.f_eq, s_GoodDisk.eq k (by omega), g, cnNT h5, Option.bind_some, hd, Option.bind_some]; rfl
    cases hok : cf.2.2 with
    | false =>
      refine no (fun k hk => by rw [hI k hk, hok]; rfl) (fun k hk => ?_)
      rw [hS k hk ([], -1) (by rw [hR k hk, hok]; cases rd.2 <;> rfl)]
      exact cnT (by decide)
    | true =>
      have hrt : rd.2 = true := by
        cases hr : rd.2 with
        | true => rfl
        | false =>
          have := hrd0 hr
          rw [this] at hc28
          have := hc28 (by decide)
          rw [hok] at this; cases this
      obtain ⟨c1, c2⟩ := hce hok
      obtain ⟨r, r1, r2, r3, r4, r5⟩ := recover_loop p h b g (by omega) cf.1.1 cf.1.2.1 cf.1.2.2.1 cf.1.2.2.2 c1 c2 2 0 [] (by omega) rfl
      have ht : cf.1.2.2.1.tmod 2 = 0 ∨ cf.1.2.2.1.tmod 2 = 1 := by rw [Int.tmod_eq_emod_of_nonneg c1]; omega
      have hw : IntKind.i64.wrap ((1 : Int) + IntKind.i64.wrap ((2 : Int) * cf.1.2.2.1.tmod (2 : Int))) = 1 + 2 * cf.1.2.2.1.tmod 2 := by
        rw [wrap_eq (n := 2 * cf.1.2.2.1.tmod 2) (by omega) (by omega), wrap_eq (by omega) (by omega)]
      refine ⟨r, fun k hk => ?_, fun k hk => ?_, r3⟩
      · rw [hI k hk, hok]
        simp only [Bool.not_true, cn_f]
        exact r1 k k hk (by omega)
      · rw [hS k hk (if r.2.2 = true then (r.1, cf.1.2.2.1) else ([], -1)) (by rw [hR k hk, hok, hrt, hw]; simp only [Bool.not_true, cn_f]; exact r2 k k hk (by omega))]
        cases hr : r.2.2 with
        | true =>
          rw [if_pos rfl, cnF (by show ¬ cf.1.2.2.1 < 0; omega), ← r4 hr]
          obtain ⟨ra, rb, rc⟩ := r
          simp only at hr; subst hr; rfl
        | false =>
          rw [if_neg (by simp), r5 hr]
          exact cnT (by decide)
theorem lawRecoverFrom (p h : List ByteArray) (b : List Bool) (op : okK (.sl 9 .str) p) (oh : okK (.sl 9 .str) h) (ob : okK (.sl 4 .bool) b) : Ev (fun k => w_FnExactRecoverFrom.f k p h b) true := by
  obtain ⟨r, hr, hr2⟩ := w_szDisk.ev p h b op oh ob 1048576 (by omega) (by omega)
  refine Ev.congr ?_ (fun k => w_FnExactRecoverFrom.f_eq k p h b)
  refine Ev.bind hr ?_
  try dsimp only
  rcases hr2 with hneg | ⟨h0, _, lp, lh, lb⟩
  · exact .const fun k => by rw [cnT hneg]
  · simp only [cnF (show ¬ r < 0 by omega)]
    obtain ⟨d, hi, hs, hdl⟩ := recover_same p h b
    have ts := w_toDisk.ev p h b lp lh lb
    have ss : Ev (fun k => s_RecoverFrom.f k p h b) d := .of 40 hs
    have is_ : Ev (fun k => i_RecoverFrom.f k p h b) d := .of 40 hi
    have eqd := w_eqIntS.ev d.1 (by rw [maxLen_eq]; omega)
    obtain ⟨rm, t, hrm, mt⟩ := w_markDisk.ev p h b lp lh lb 1 (by omega)
    have md := w_markIntS.ev d.1 1 (by omega)
    have hd2 := w_heldIntS.ev 1 d.1.length (by omega)
    refine Ev.bind ts ?_
    refine Ev.bind ss ?_
    refine Ev.bind ts ?_
    refine Ev.bind is_ ?_
    refine Ev.bind eqd ?_
    have e : (!d.2.2 == d.2.2) = false := by cases d.2.2 <;> rfl
    simp only [Bool.not_true, cn_f, decide_true, e]
    refine Ev.bind ts ?_
    refine Ev.bind (w_eqDisk.ev p h b (by rw [maxLen_eq]; omega) (by rw [maxLen_eq]; omega) (by rw [maxLen_eq]; omega)) ?_
    simp only [Bool.not_true, cn_f]
    refine Ev.bind mt ?_
    simp only [cnF (show ¬ ((rm : Nat) : Int) < 0 by omega)]
    refine Ev.bind eqd ?_
    simp only [Bool.not_true, cn_f, decide_true, e]
    refine Ev.bind md ?_
    refine Ev.bind hd2 ?_
    simp only [cnF (show ¬ ((1 + d.1.length : Nat) : Int) < 0 by omega), decide_true, Bool.not_true, cn_f]
    refine Ev.bind ts ?_
    refine Ev.bind is_ ?_
    refine Ev.bind eqd ?_
    simp only [Bool.not_true, cn_f, decide_true, e]
    refine Ev.bind hd2 ?_
    exact .const fun k => by simp only [cnF (show ¬ ((1 + d.1.length : Nat) : Int) < 0 by omega), decide_true, Bool.not_true, cn_f]
end Go.Proofs.Ytcddcnnbhbffmaa
