/- What the functions of the law come to, in numbers, rows and texts alone. No condition. -/
import Derived.Test.YtgnijlfakjjfcaaFRI
set_option linter.unusedVariables false
set_option linter.unusedSimpArgs false
namespace Go.Proofs.Ytgnijlfakjjfcaa
open Go Go.Proofs.YtgnijlfakjjfcaaE
/-! ### Limits, numbers, rows -/
/-- From some number of rounds on it is r. -/
def Ev {R : Type} (g : Nat → Option R) (r : R) : Prop := ∃ K, ∀ k, K ≤ k → g k = some r
theorem Ev.const {R : Type} {g : Nat → Option R} {r : R} (h : ∀ k, g k = some r) : Ev g r := ⟨0, fun k _ => h k⟩
theorem Ev.of {R : Type} {g : Nat → Option R} {r : R} (K : Nat) (h : ∀ k, K ≤ k → g k = some r) : Ev g r := ⟨K, h⟩
theorem Ev.bind {D R : Type} {f : Nat → Option D} {d : D} {G : Nat → D → Option R} {r : R} (h : Ev f d) (h2 : Ev (fun k => G k d) r) : Ev (fun k => (f k).bind (G k)) r := by
  obtain ⟨K, hK⟩ := h
  obtain ⟨L, hL⟩ := h2
  refine ⟨max K L, fun k hk => ?_⟩
  show (f k).bind (G k) = _
  rw [hK k (by omega)]
  exact hL k (by omega)
theorem Ev.congr {R : Type} {f g : Nat → Option R} {r : R} (h : Ev f r) (e : ∀ k, g k = f k) : Ev g r := by
  obtain ⟨K, hK⟩ := h
  exact ⟨K, fun k hk => by rw [e]; exact hK k hk⟩
theorem cn_t {A : Type} (x y : A) : cn true x y = x := rfl
theorem cn_f {A : Type} (x y : A) : cn false x y = y := rfl
theorem gd_t {A : Type} (x : Option A) : gd true x = x := rfl
theorem cnT {A : Type} {p : Prop} [Decidable p] {x y : A} (h : p) : cn (decide p) x y = x := by rw [decide_eq_true h]; rfl
theorem cnF {A : Type} {p : Prop} [Decidable p] {x y : A} (h : ¬ p) : cn (decide p) x y = y := by rw [decide_eq_false h]; rfl
theorem cnNT {A : Type} {p : Prop} [Decidable p] {x y : A} (h : p) : cn (!decide p) x y = y := by rw [decide_eq_true h]; rfl
theorem cnNF {A : Type} {p : Prop} [Decidable p] {x y : A} (h : ¬ p) : cn (!decide p) x y = x := by rw [decide_eq_false h]; rfl
theorem gdT {A : Type} {p : Prop} [Decidable p] {x : Option A} (h : p) : gd (decide p) x = x := by rw [decide_eq_true h]; rfl
theorem inb_nat {i n : Nat} (h : i < n) : inb (i : Int) n = true := by
  unfold inb
  rw [decide_eq_true (by omega : (0 : Int) ≤ (i : Int)), decide_eq_true (by omega : (i : Int) < (n : Int))]; rfl
theorem wrap_eq {n : Int} (h1 : -9223372036854775808 ≤ n) (h2 : n ≤ 9223372036854775807) : IntKind.i64.wrap n = n := by
  have key : IntKind.i64.wrap n = if n % 18446744073709551616 ≥ 9223372036854775808 then n % 18446744073709551616 - 18446744073709551616 else n % 18446744073709551616 := by
    unfold IntKind.wrap
    simp [IntKind.bits, IntKind.signed]
  rw [key]
  split <;> omega
theorem wrap_succ {n : Nat} (h : n < 9223372036854775807) : IntKind.i64.wrap ((n : Int) + 1) = ((n + 1 : Nat) : Int) := by rw [wrap_eq (by omega) (by omega)]; omega
theorem getAt_lt {A : Type} {d : A} {xs : List A} {i : Nat} (h : i < xs.length) : getAt d xs i = xs[i] := by simp [getAt, h]
theorem maxLen_eq : maxLen = 9223372036854775807 := by decide
/-- A row written over from the front. -/
theorem set_front {A : Type} {d : A} (a h : List A) (j : Nat) (hj : j < a.length) (hl : h.length = a.length) (hh : h.take j = a.take j) : (h.set j (getAt d a j)).take (j + 1) = a.take (j + 1) := by
  rw [getAt_lt hj, List.take_succ_eq_append_getElem hj, List.take_succ_eq_append_getElem (by simp; omega), List.getElem_set_self, List.take_set_of_le (Nat.le_refl j), hh]
def marks (s n : Nat) : List Int := (List.range n).map fun i => ((s + i : Nat) : Int)
theorem w_toStringS.loop (k : Nat) (a : List ByteArray) (ha : a.length ≤ maxLen) : ∀ (n j m : Nat) (h : List ByteArray), j + n = a.length → h.length = a.length → h.take j = a.take j → n < m → w_toStringS.l0 k m a j h = some a := by
  rw [maxLen_eq] at ha
  intro n
  induction n with
  | zero =>
    intro j m h hj hl hh hm
    obtain ⟨m, rfl⟩ : ∃ m', m = m' + 1 := ⟨m - 1, by omega⟩
    rw [w_toStringS.l0_s, cnF (by omega)]
    rw [List.take_of_length_le (by omega), List.take_of_length_le (by omega)] at hh
    rw [hh]
  | succ n ih =>
    intro j m h hj hl hh hm
    obtain ⟨m, rfl⟩ : ∃ m', m = m' + 1 := ⟨m - 1, by omega⟩
    rw [w_toStringS.l0_s, cnT (by omega), inb_nat (by omega), gd_t, inb_nat (by omega), gd_t, wrap_succ (by omega), Int.toNat_natCast]
    exact ih (j + 1) m _ (by omega) (by simpa using hl) (set_front a h j (by omega) hl hh) (by omega)
theorem w_toStringS.ev (a : List ByteArray) (ha : a.length ≤ 1048576) : Ev (fun k => w_toStringS.f k a) a := .of (a.length + 1) fun k hk => by
  show w_toStringS.f k a = _
  rw [w_toStringS.f_eq]
  have h1 : mkOk (↑a.length : Int) (↑a.length : Int) (Try.prog.bytesOf (9 : Nat)) = true := by
    rw [show Try.prog.bytesOf (9 : Nat) = 16 by kernel_rfl]
    unfold mkOk
    simp; omega
  rw [h1, gd_t]
  exact w_toStringS.loop k a (by rw [maxLen_eq]; omega) a.length 0 k _ (by omega) (by simp) (by simp) (by omega)
theorem w_toIntS.loop (k : Nat) (a : List Int) (ha : a.length ≤ maxLen) : ∀ (n j m : Nat) (h : List Int), j + n = a.length → h.length = a.length → h.take j = a.take j → n < m → w_toIntS.l0 k m a j h = some a := by
  rw [maxLen_eq] at ha
  intro n
  induction n with
  | zero =>
    intro j m h hj hl hh hm
    obtain ⟨m, rfl⟩ : ∃ m', m = m' + 1 := ⟨m - 1, by omega⟩
    rw [w_toIntS.l0_s, cnF (by omega)]
    rw [List.take_of_length_le (by omega), List.take_of_length_le (by omega)] at hh
    rw [hh]
  | succ n ih =>
    intro j m h hj hl hh hm
    obtain ⟨m, rfl⟩ : ∃ m', m = m' + 1 := ⟨m - 1, by omega⟩
    rw [w_toIntS.l0_s, cnT (by omega), inb_nat (by omega), gd_t, inb_nat (by omega), gd_t, wrap_succ (by omega), Int.toNat_natCast]
    exact ih (j + 1) m _ (by omega) (by simpa using hl) (set_front a h j (by omega) hl hh) (by omega)
theorem w_toIntS.ev (a : List Int) (ha : a.length ≤ 1048576) : Ev (fun k => w_toIntS.f k a) a := .of (a.length + 1) fun k hk => by
  show w_toIntS.f k a = _
  rw [w_toIntS.f_eq]
  have h1 : mkOk (↑a.length : Int) (↑a.length : Int) (Try.prog.bytesOf (3 : Nat)) = true := by
    rw [show Try.prog.bytesOf (3 : Nat) = 8 by kernel_rfl]
    unfold mkOk
    simp; omega
  rw [h1, gd_t]
  exact w_toIntS.loop k a (by rw [maxLen_eq]; omega) a.length 0 k _ (by omega) (by simp) (by simp) (by omega)
theorem w_toBoolS.loop (k : Nat) (a : List Bool) (ha : a.length ≤ maxLen) : ∀ (n j m : Nat) (h : List Bool), j + n = a.length → h.length = a.length → h.take j = a.take j → n < m → w_toBoolS.l0 k m a j h = some a := by
  rw [maxLen_eq] at ha
  intro n
  induction n with
  | zero =>
    intro j m h hj hl hh hm
    obtain ⟨m, rfl⟩ : ∃ m', m = m' + 1 := ⟨m - 1, by omega⟩
    rw [w_toBoolS.l0_s, cnF (by omega)]
    rw [List.take_of_length_le (by omega), List.take_of_length_le (by omega)] at hh
    rw [hh]
  | succ n ih =>
    intro j m h hj hl hh hm
    obtain ⟨m, rfl⟩ : ∃ m', m = m' + 1 := ⟨m - 1, by omega⟩
    rw [w_toBoolS.l0_s, cnT (by omega), inb_nat (by omega), gd_t, inb_nat (by omega), gd_t, wrap_succ (by omega), Int.toNat_natCast]
    exact ih (j + 1) m _ (by omega) (by simpa using hl) (set_front a h j (by omega) hl hh) (by omega)
theorem w_toBoolS.ev (a : List Bool) (ha : a.length ≤ 1048576) : Ev (fun k => w_toBoolS.f k a) a := .of (a.length + 1) fun k hk => by
  show w_toBoolS.f k a = _
  rw [w_toBoolS.f_eq]
  have h1 : mkOk (↑a.length : Int) (↑a.length : Int) (Try.prog.bytesOf (4 : Nat)) = true := by
    rw [show Try.prog.bytesOf (4 : Nat) = 1 by kernel_rfl]
    unfold mkOk
    simp; omega
  rw [h1, gd_t]
  exact w_toBoolS.loop k a (by rw [maxLen_eq]; omega) a.length 0 k _ (by omega) (by simp) (by simp) (by omega)
theorem w_eqStringS.loop (k : Nat) (a : List ByteArray) (ha : a.length ≤ maxLen) : ∀ (n j m : Nat), j + n = a.length → n < m → w_eqStringS.l0 k m a a j = some true := by
  rw [maxLen_eq] at ha
  intro n
  induction n with
  | zero =>
    intro j m hj hm
    obtain ⟨m, rfl⟩ : ∃ m', m = m' + 1 := ⟨m - 1, by omega⟩
    rw [w_eqStringS.l0_s, cnF (by omega)]
  | succ n ih =>
    intro j m hj hm
    obtain ⟨m, rfl⟩ : ∃ m', m = m' + 1 := ⟨m - 1, by omega⟩
    rw [w_eqStringS.l0_s, cnT (by omega), inb_nat (by omega), gd_t, gd_t, cnNT rfl, wrap_succ (by omega)]
    exact ih (j + 1) m (by omega) (by omega)
theorem w_eqStringS.ev (a : List ByteArray) (ha : a.length ≤ maxLen) : Ev (fun k => w_eqStringS.f k a a) true := .of (a.length + 1) fun k hk => by
  show w_eqStringS.f k a a = _
  rw [w_eqStringS.f_eq, cnNT rfl]
  exact w_eqStringS.loop k a ha a.length 0 k (by omega) (by omega)
theorem w_eqIntS.loop (k : Nat) (a : List Int) (ha : a.length ≤ maxLen) : ∀ (n j m : Nat), j + n = a.length → n < m → w_eqIntS.l0 k m a a j = some true := by
  rw [maxLen_eq] at ha
  intro n
  induction n with
  | zero =>
    intro j m hj hm
    obtain ⟨m, rfl⟩ : ∃ m', m = m' + 1 := ⟨m - 1, by omega⟩
    rw [w_eqIntS.l0_s, cnF (by omega)]
  | succ n ih =>
    intro j m hj hm
    obtain ⟨m, rfl⟩ : ∃ m', m = m' + 1 := ⟨m - 1, by omega⟩
    rw [w_eqIntS.l0_s, cnT (by omega), inb_nat (by omega), gd_t, gd_t, cnNT rfl, wrap_succ (by omega)]
    exact ih (j + 1) m (by omega) (by omega)
theorem w_eqIntS.ev (a : List Int) (ha : a.length ≤ maxLen) : Ev (fun k => w_eqIntS.f k a a) true := .of (a.length + 1) fun k hk => by
  show w_eqIntS.f k a a = _
  rw [w_eqIntS.f_eq, cnNT rfl]
  exact w_eqIntS.loop k a ha a.length 0 k (by omega) (by omega)
theorem w_eqBoolS.loop (k : Nat) (a : List Bool) (ha : a.length ≤ maxLen) : ∀ (n j m : Nat), j + n = a.length → n < m → w_eqBoolS.l0 k m a a j = some true := by
  rw [maxLen_eq] at ha
  intro n
  induction n with
  | zero =>
    intro j m hj hm
    obtain ⟨m, rfl⟩ : ∃ m', m = m' + 1 := ⟨m - 1, by omega⟩
    rw [w_eqBoolS.l0_s, cnF (by omega)]
  | succ n ih =>
    intro j m hj hm
    obtain ⟨m, rfl⟩ : ∃ m', m = m' + 1 := ⟨m - 1, by omega⟩
    rw [w_eqBoolS.l0_s, cnT (by omega), inb_nat (by omega), gd_t, gd_t]
    simp only [beq_self_eq_true, Bool.not_true, cn_f]
    rw [wrap_succ (by omega)]
    exact ih (j + 1) m (by omega) (by omega)
theorem w_eqBoolS.ev (a : List Bool) (ha : a.length ≤ maxLen) : Ev (fun k => w_eqBoolS.f k a a) true := .of (a.length + 1) fun k hk => by
  show w_eqBoolS.f k a a = _
  rw [w_eqBoolS.f_eq, cnNT rfl]
  exact w_eqBoolS.loop k a ha a.length 0 k (by omega) (by omega)
theorem w_szStringS.loop (a : List ByteArray) (ha : a.length ≤ maxLen) (hs : ∀ i, ∀ h : i < a.length, a[i].size ≤ maxLen) : ∀ (n j : Nat) (left : Int), j + n = a.length → 0 ≤ left → left ≤ 1048576 →
    ∃ r : Int, (∀ k m, n < m → w_szStringS.l0 k m a left j = some r) ∧ (r < 0 ∨ (0 ≤ r ∧ r ≤ left ∧ ∀ i, ∀ h : i < a.length, j ≤ i → a[i].size ≤ 1048576)) := by
  rw [maxLen_eq] at ha hs
  intro n
  induction n with
  | zero =>
    intro j left hj h0 h1
    refine ⟨left, fun k m hm => ?_, .inr ⟨h0, Int.le_refl _, fun i h hi => by omega⟩⟩
    obtain ⟨m, rfl⟩ : ∃ m', m = m' + 1 := ⟨m - 1, by omega⟩
    rw [w_szStringS.l0_s, cnF (by omega)]
  | succ n ih =>
    intro j left hj h0 h1
    have hjl : j < a.length := by omega
    have hsz := hs j hjl
    have e : IntKind.i64.wrap (left - (↑(getAt ByteArray.empty a (j : Int).toNat).size : Int)) = left - (a[j].size : Int) := by
      rw [Int.toNat_natCast, getAt_lt hjl, wrap_eq (by omega) (by omega)]
    by_cases hneg : left - (a[j].size : Int) < 0
    · refine ⟨-1, fun k m hm => ?_, .inl (by omega)⟩
      obtain ⟨m, rfl⟩ : ∃ m', m = m' + 1 := ⟨m - 1, by omega⟩
      rw [w_szStringS.l0_s, cnT (by omega), inb_nat hjl, gd_t, e, cnT hneg]
    · obtain ⟨r, hr, hr2⟩ := ih (j + 1) (left - (a[j].size : Int)) (by omega) (by omega) (by omega)
      refine ⟨r, fun k m hm => ?_, hr2.imp id fun ⟨p, q, s⟩ => ⟨p, by omega, fun i h hi => ?_⟩⟩
      · obtain ⟨m, rfl⟩ : ∃ m', m = m' + 1 := ⟨m - 1, by omega⟩
        rw [w_szStringS.l0_s, cnT (by omega), inb_nat hjl, gd_t, e, cnF hneg, wrap_succ (by omega)]
        exact hr k m (by omega)
      · rcases Nat.lt_or_ge i (j + 1) with h2 | h2
        · obtain rfl : i = j := by omega
          omega
        · exact s i h h2
theorem w_szStringS.ev (a : List ByteArray) (ha : a.length ≤ maxLen) (hs : ∀ i, ∀ h : i < a.length, a[i].size ≤ maxLen) (left : Int) (h0 : 0 ≤ left) (h1 : left ≤ 1048576) :
    ∃ r : Int, Ev (fun k => w_szStringS.f k a left) r ∧ (r < 0 ∨ (0 ≤ r ∧ r ≤ left ∧ a.length ≤ 1048576 ∧ ∀ i, ∀ h : i < a.length, a[i].size ≤ 1048576)) := by
  have ha' := ha
  rw [maxLen_eq] at ha'
  have e : IntKind.i64.wrap (left - (↑a.length : Int)) = left - (a.length : Int) := wrap_eq (by omega) (by omega)
  by_cases hneg : left - (a.length : Int) < 0
  · refine ⟨-1, .const fun k => ?_, .inl (by omega)⟩
    rw [w_szStringS.f_eq, e, cnT hneg]
  · obtain ⟨r, hr, hr2⟩ := w_szStringS.loop a ha hs a.length 0 (left - (a.length : Int)) (by omega) (by omega) (by omega)
    refine ⟨r, .of (a.length + 1) fun k hk => ?_, hr2.imp id fun ⟨p, q, s⟩ => ⟨p, by omega, by omega, fun i h => s i h (Nat.zero_le _)⟩⟩
    show w_szStringS.f k a left = _
    rw [w_szStringS.f_eq, e, cnF hneg]
    exact hr k k (by omega)
theorem w_markIntS.loop (k : Nat) (s len : Nat) (hs : s + len ≤ 9223372036854775806) : ∀ (n j m : Nat) (h : List Int), j + n = len → h.length = len → h.take j = marks s j → n < m → w_markIntS.l0 k m ((s + j : Nat) : Int) j h = some (((s + len : Nat) : Int), marks s len) := by
  intro n
  induction n with
  | zero =>
    intro j m h hj hl hh hm
    obtain ⟨m, rfl⟩ : ∃ m', m = m' + 1 := ⟨m - 1, by omega⟩
    rw [w_markIntS.l0_s, cnF (by omega)]
    rw [List.take_of_length_le (by omega)] at hh
    rw [hh, show j = len by omega]
  | succ n ih =>
    intro j m h hj hl hh hm
    obtain ⟨m, rfl⟩ : ∃ m', m = m' + 1 := ⟨m - 1, by omega⟩
    rw [w_markIntS.l0_s, cnT (by omega), inb_nat (by omega), gd_t, wrap_succ (by omega), wrap_succ (by omega), Int.toNat_natCast]
    refine ih (j + 1) m _ (by omega) (by simpa using hl) ?_ (by omega)
    rw [List.take_succ_eq_append_getElem (by simp; omega), List.getElem_set_self, List.take_set_of_le (Nat.le_refl j), hh]
    unfold marks
    rw [List.range_succ, List.map_append]; rfl
theorem w_markIntS.ev (a : List Int) (s : Nat) (hs : s + a.length ≤ 9223372036854775806) : Ev (fun k => w_markIntS.f k a (s : Int)) (((s + a.length : Nat) : Int), marks s a.length) := .of (a.length + 1) fun k hk => by
  show w_markIntS.f k a s = _
  rw [w_markIntS.f_eq]
  exact w_markIntS.loop k s a.length hs a.length 0 k a (by omega) rfl (by simp [marks]) (by omega)
theorem w_heldIntS.loop (k : Nat) (s len : Nat) (hs : s + len ≤ 9223372036854775806) : ∀ (n j m : Nat), j + n = len → n < m → w_heldIntS.l0 k m (marks s len) ((s + j : Nat) : Int) j = some ((s + len : Nat) : Int) := by
  have hl : (marks s len).length = len := by simp [marks]
  intro n
  induction n with
  | zero =>
    intro j m hj hm
    obtain ⟨m, rfl⟩ : ∃ m', m = m' + 1 := ⟨m - 1, by omega⟩
    rw [w_heldIntS.l0_s, cnF (by omega), show j = len by omega]
  | succ n ih =>
    intro j m hj hm
    obtain ⟨m, rfl⟩ : ∃ m', m = m' + 1 := ⟨m - 1, by omega⟩
    rw [w_heldIntS.l0_s, cnT (by omega), inb_nat (by omega), gd_t, Int.toNat_natCast, cnNT (by rw [getAt_lt (by omega)]; simp [marks]), wrap_succ (by omega), wrap_succ (by omega)]
    exact ih (j + 1) m (by omega) (by omega)
theorem w_heldIntS.ev (s len : Nat) (hs : s + len ≤ 9223372036854775806) : Ev (fun k => w_heldIntS.f k (marks s len) (s : Int)) ((s + len : Nat) : Int) := .of (len + 1) fun k hk => by
  show w_heldIntS.f k _ s = _
  rw [w_heldIntS.f_eq]
  exact w_heldIntS.loop k s len hs len 0 k (by omega) (by omega)
theorem strOfNums_one (n : Int) : (strOfNums [n]).size = 1 := by simp [strOfNums]; rfl
theorem w_markText.loop : ∀ (n : Nat) (v : Nat) (out : ByteArray), v ≤ n → n + out.size ≤ 140737488355327 → ∃ t, ∀ k m, n < m → w_markText.l0 k m (v : Int) out = some t := by
  intro n
  induction n with
  | zero =>
    intro v out hv ho
    refine ⟨{ data := #[(109 : UInt8)] : ByteArray } ++ out, fun k m hm => ?_⟩
    obtain ⟨m, rfl⟩ : ∃ m', m = m' + 1 := ⟨m - 1, by omega⟩
    rw [w_markText.l0_s, cnF (by omega), gdT (by omega)]
  | succ n ih =>
    intro v out hv ho
    by_cases h0 : v = 0
    · refine ⟨{ data := #[(109 : UInt8)] : ByteArray } ++ out, fun k m hm => ?_⟩
      obtain ⟨m, rfl⟩ : ∃ m', m = m' + 1 := ⟨m - 1, by omega⟩
      rw [w_markText.l0_s, cnF (by omega), gdT (by omega)]
    · have e : IntKind.i64.wrap ((v : Int).tdiv 10) = ((v / 10 : Nat) : Int) := by
        rw [show (v : Int).tdiv 10 = ((v / 10 : Nat) : Int) by rw [Int.tdiv_eq_ediv_of_nonneg (by omega)]; rfl, wrap_eq (by omega) (by omega)]
      obtain ⟨t, ht⟩ := ih (v / 10) (strOfNums [IntKind.u8.wrap (IntKind.i64.wrap ((48 : Int) + (v : Int).tmod (10 : Int)))] ++ out) (by omega) (by rw [ByteArray.size_append, strOfNums_one]; omega)
      refine ⟨t, fun k m hm => ?_⟩
      obtain ⟨m, rfl⟩ : ∃ m', m = m' + 1 := ⟨m - 1, by omega⟩
      rw [w_markText.l0_s, cnT (by omega), gdT (by rw [strOfNums_one]; omega), e]
      exact ht k m (by omega)
theorem w_markText.ev (v : Nat) (hv : v ≤ 140737488355327) : ∃ t, Ev (fun k => w_markText.f k (v : Int)) t := by
  by_cases h0 : v = 0
  · exact ⟨_, .const fun k => by rw [w_markText.f_eq, cnT (by omega)]⟩
  · obtain ⟨t, ht⟩ := w_markText.loop v v ByteArray.empty (Nat.le_refl _) (by simpa using hv)
    exact ⟨t, .of (v + 1) fun k hk => by
      show w_markText.f k v = _
      rw [w_markText.f_eq, cnF (by omega)]
      exact ht k k (by omega)⟩
theorem w_markStringS.loop (s len : Nat) (hs : s + len ≤ 140737488355327) : ∀ (n j : Nat) (h : List ByteArray), j + n = len → h.length = len → ∃ t K, t.length = len ∧ h.take j = t.take j ∧ ∀ k m, K ≤ k → n < m → w_markStringS.l0 k m ((s + j : Nat) : Int) j h = some (((s + len : Nat) : Int), t) := by
  intro n
  induction n with
  | zero =>
    intro j h hj hl
    refine ⟨h, 0, hl, rfl, fun k m _ hm => ?_⟩
    obtain ⟨m, rfl⟩ : ∃ m', m = m' + 1 := ⟨m - 1, by omega⟩
    rw [w_markStringS.l0_s, cnF (by omega), show j = len by omega]
  | succ n ih =>
    intro j h hj hl
    obtain ⟨x, K1, hx⟩ := w_markText.ev (s + j) (by omega)
    have hx : ∀ k, K1 ≤ k → w_markText.f k ((s + j : Nat) : Int) = some x := hx
    obtain ⟨t, K, t1, t2, ht⟩ := ih (j + 1) (h.set j x) (by omega) (by simpa using hl)
    refine ⟨t, max K K1, t1, ?_, fun k m hk hm => ?_⟩
    · have := congrArg (fun l => l.take j) t2
      simp only [List.take_take, Nat.min_eq_left (Nat.le_succ j), List.take_set_of_le (Nat.le_refl j)] at this
      exact this
    · obtain ⟨m, rfl⟩ : ∃ m', m = m' + 1 := ⟨m - 1, by omega⟩
      rw [w_markStringS.l0_s, cnT (by omega), hx k (by omega)]
      simp only [Option.bind_some]
      rw [inb_nat (by omega), gd_t, wrap_succ (by omega), wrap_succ (by omega), Int.toNat_natCast]
      exact ht k m (by omega) (by omega)
theorem w_markStringS.ev (a : List ByteArray) (s : Nat) (hs : s + a.length ≤ 140737488355327) : ∃ t, t.length = a.length ∧ Ev (fun k => w_markStringS.f k a (s : Int)) (((s + a.length : Nat) : Int), t) := by
  obtain ⟨t, K, t1, _, ht⟩ := w_markStringS.loop s a.length hs a.length 0 a (by omega) rfl
  exact ⟨t, t1, .of (max K (a.length + 1)) fun k hk => by
    show w_markStringS.f k a s = _
    rw [w_markStringS.f_eq]
    exact ht k k (by omega) (by omega)⟩
theorem w_szBoolS.ev (a : List Bool) (ha : a.length ≤ maxLen) (left : Int) (h0 : 0 ≤ left) (h1 : left ≤ 1048576) :
    ∃ r : Int, Ev (fun k => w_szBoolS.f k a left) r ∧ (r < 0 ∨ (0 ≤ r ∧ r ≤ left ∧ a.length ≤ 1048576)) := by
  rw [maxLen_eq] at ha
  have e : IntKind.i64.wrap (left - (↑a.length : Int)) = left - (a.length : Int) := wrap_eq (by omega) (by omega)
  by_cases hneg : left - (a.length : Int) < 0
  · refine ⟨-1, .const fun k => ?_, .inl (by omega)⟩
    rw [w_szBoolS.f_eq, e, cnT hneg]
  · refine ⟨left - (a.length : Int), .const fun k => ?_, .inr ⟨by omega, by omega, by omega⟩⟩
    rw [w_szBoolS.f_eq, e, cnF hneg]
theorem w_markBoolS.loop (s len : Nat) (hs : s + len ≤ 9223372036854775806) : ∀ (n j : Nat) (h : List Bool), j + n = len → h.length = len → ∃ t, t.length = len ∧ ∀ k m, n < m → w_markBoolS.l0 k m ((s + j : Nat) : Int) j h = some (((s + len : Nat) : Int), t) := by
  intro n
  induction n with
  | zero =>
    intro j h hj hl
    refine ⟨h, hl, fun k m hm => ?_⟩
    obtain ⟨m, rfl⟩ : ∃ m', m = m' + 1 := ⟨m - 1, by omega⟩
    rw [w_markBoolS.l0_s, cnF (by omega), show j = len by omega]
  | succ n ih =>
    intro j h hj hl
    obtain ⟨t, t1, ht⟩ := ih (j + 1) (h.set j (decide (((s + j : Nat) : Int).tmod (3 : Int) = (0 : Int)))) (by omega) (by simpa using hl)
    refine ⟨t, t1, fun k m hm => ?_⟩
    obtain ⟨m, rfl⟩ : ∃ m', m = m' + 1 := ⟨m - 1, by omega⟩
    rw [w_markBoolS.l0_s, cnT (by omega), inb_nat (by omega), gd_t, wrap_succ (by omega), wrap_succ (by omega), Int.toNat_natCast]
    exact ht k m (by omega)
theorem w_markBoolS.ev (a : List Bool) (s : Nat) (hs : s + a.length ≤ 9223372036854775806) : ∃ t, t.length = a.length ∧ Ev (fun k => w_markBoolS.f k a (s : Int)) (((s + a.length : Nat) : Int), t) := by
  obtain ⟨t, t1, ht⟩ := w_markBoolS.loop s a.length hs a.length 0 a (by omega) rfl
  exact ⟨t, t1, .of (a.length + 1) fun k hk => by
    show w_markBoolS.f k a s = _
    rw [w_markBoolS.f_eq]
    exact ht k k (by omega)⟩
/-! ### Small things -/
theorem byteArray_toList_eq {a b : ByteArray} : a.toList = b.toList ↔ a = b := by
  constructor
  · intro h
    have : a.data.toList = b.data.toList := by rw [ByteArray.toList_eq, ByteArray.toList_eq] at h; exact h
    exact ByteArray.ext (Array.ext' this)
  · rintro rfl; rfl
theorem i_within.eq (k : Nat) (n lo hi : Int) : i_within.f k n lo hi = some (decide (lo ≤ n ∧ n ≤ hi)) := by
  rw [i_within.f_eq]
  by_cases h : lo ≤ n
  · rw [cnT h]; simp [h]
  · rw [cnF h]; simp [h]
theorem s_l1In.eq (k : Nat) (n lo hi : Int) : s_l1In.f k n lo hi = some (decide (lo ≤ n ∧ n ≤ hi)) := by
  rw [s_l1In.f_eq]
  by_cases h : lo ≤ n
  · rw [cnT h]; simp [h]
  · rw [cnF h]; simp [h]
theorem w_szDisk.ev (p h : List ByteArray) (b : List Bool) (op : okK (.sl 9 .str) p) (oh : okK (.sl 9 .str) h) (ob : okK (.sl 4 .bool) b) (left : Int) (h0 : 0 ≤ left) (h1 : left ≤ 1048576) :
    ∃ r : Int, Ev (fun k => w_szDisk.f k p h b left) r ∧ (r < 0 ∨ (0 ≤ r ∧ r ≤ left ∧ p.length ≤ 1048576 ∧ h.length ≤ 1048576 ∧ b.length ≤ 1048576)) := by
  obtain ⟨r1, e1, c1⟩ := w_szStringS.ev p op.1 op.2 left h0 h1
  rcases c1 with c1 | ⟨a1, a2, a3, _⟩
  · refine ⟨-1, Ev.congr (Ev.bind e1 ?_) (fun k => w_szDisk.f_eq k p h b left), .inl (by omega)⟩
    exact .const fun k => by rw [cnT c1]
  obtain ⟨r2, e2, c2⟩ := w_szStringS.ev h oh.1 oh.2 r1 a1 (by omega)
  rcases c2 with c2 | ⟨b1, b2, b3, _⟩
  · refine ⟨-1, Ev.congr (Ev.bind e1 ?_) (fun k => w_szDisk.f_eq k p h b left), .inl (by omega)⟩
    simp only [cnF (show ¬ r1 < 0 by omega)]
    exact .bind e2 (.const fun k => by rw [cnT c2])
  obtain ⟨r3, e3, c3⟩ := w_szBoolS.ev b ob.1 r2 b1 (by omega)
  rcases c3 with c3 | ⟨d1, d2, d3⟩
  · refine ⟨-1, Ev.congr (Ev.bind e1 ?_) (fun k => w_szDisk.f_eq k p h b left), .inl (by omega)⟩
    simp only [cnF (show ¬ r1 < 0 by omega)]
    refine .bind e2 ?_
    simp only [cnF (show ¬ r2 < 0 by omega)]
    exact .bind e3 (.const fun k => by rw [cnT c3])
  · refine ⟨r3, Ev.congr (Ev.bind e1 ?_) (fun k => w_szDisk.f_eq k p h b left), .inr ⟨d1, by omega, a3, b3, d3⟩⟩
    simp only [cnF (show ¬ r1 < 0 by omega)]
    refine .bind e2 ?_
    simp only [cnF (show ¬ r2 < 0 by omega)]
    exact .bind e3 (.const fun k => by rw [cnF (show ¬ r3 < 0 by omega)])
theorem w_toDisk.ev (p h : List ByteArray) (b : List Bool) (hp : p.length ≤ 1048576) (hh : h.length ≤ 1048576) (hb : b.length ≤ 1048576) : Ev (fun k => w_toDisk.f k p h b) (p, h, b) :=
  Ev.congr (by
    refine Ev.bind (w_toStringS.ev p hp) ?_
    refine Ev.bind (w_toStringS.ev h hh) ?_
    refine Ev.bind (w_toBoolS.ev b hb) ?_
    exact .const fun k => rfl) (fun k => w_toDisk.f_eq k p h b)
theorem w_eqDisk.ev (p h : List ByteArray) (b : List Bool) (hp : p.length ≤ maxLen) (hh : h.length ≤ maxLen) (hb : b.length ≤ maxLen) : Ev (fun k => w_eqDisk.f k p h b p h b) true := by
  refine Ev.congr (Ev.bind (w_eqStringS.ev p hp) ?_) (fun k => w_eqDisk.f_eq k p h b p h b)
  simp only [Bool.not_true, cn_f]
  refine Ev.bind (w_eqStringS.ev h hh) ?_
  simp only [Bool.not_true, cn_f]
  refine Ev.bind (w_eqBoolS.ev b hb) ?_
  exact .const fun k => rfl
theorem w_markDisk.ev (p h : List ByteArray) (b : List Bool) (hp : p.length ≤ 1048576) (hh : h.length ≤ 1048576) (hb : b.length ≤ 1048576) (s : Nat) (hs : s ≤ 1048576) : ∃ (r : Nat) (x : _), r ≤ s + 3145728 ∧ Ev (fun k => w_markDisk.f k p h b (s : Int)) ((r : Int), x) := by
  obtain ⟨t1, _, e1⟩ := w_markStringS.ev p s (by omega)
  obtain ⟨t2, _, e2⟩ := w_markStringS.ev h (s + p.length) (by omega)
  obtain ⟨t3, _, e3⟩ := w_markBoolS.ev b (s + p.length + h.length) (by omega)
  exact ⟨s + p.length + h.length + b.length, (t1, t2, t3), by omega, Ev.congr (by
    refine Ev.bind e1 ?_
    refine Ev.bind e2 ?_
    refine Ev.bind e3 ?_
    exact .const fun k => rfl) (fun k => w_markDisk.f_eq k p h b s)⟩
/-- What GoodDisk says of the sectors from j on. -/
def gdAll (p h : List ByteArray) (b : List Bool) : Nat → Nat → Bool
  | 0, _ => true
  | r + 1, j => if (28 : Int) < ((getAt ByteArray.empty p j).size : Int) then false else if (28 : Int) < ((getAt ByteArray.empty h j).size : Int) then false
    else if getAt false b j = true then (if (getAt ByteArray.empty h j).toList = ByteArray.empty.toList then gdAll p h b r (j + 1) else false) else gdAll p h b r (j + 1)
theorem gdAll_s (p h : List ByteArray) (b : List Bool) (r j : Nat) : gdAll p h b (r + 1) j = (if (28 : Int) < ((getAt ByteArray.empty p j).size : Int) then false else if (28 : Int) < ((getAt ByteArray.empty h j).size : Int) then false
    else if getAt false b j = true then (if (getAt ByteArray.empty h j).toList = ByteArray.empty.toList then gdAll p h b r (j + 1) else false) else gdAll p h b r (j + 1)) := rfl
def goodD (p h : List ByteArray) (b : List Bool) : Bool := decide (1 ≤ p.length ∧ p.length ≤ 24 ∧ h.length = p.length ∧ b.length = p.length) && gdAll p h b p.length 0
theorem goodD_no {p h : List ByteArray} {b : List Bool} (g : ¬ (1 ≤ p.length ∧ p.length ≤ 24 ∧ h.length = p.length ∧ b.length = p.length)) : goodD p h b = false := by
  unfold goodD
  rw [decide_eq_false g]; rfl
theorem goodD_yes {p h : List ByteArray} {b : List Bool} (g : 1 ≤ p.length ∧ p.length ≤ 24 ∧ h.length = p.length ∧ b.length = p.length) : goodD p h b = gdAll p h b p.length 0 := by
  unfold goodD
  rw [decide_eq_true g]; rfl
theorem goodD_len {p h : List ByteArray} {b : List Bool} (g : goodD p h b = true) : 1 ≤ p.length ∧ p.length ≤ 24 ∧ h.length = p.length ∧ b.length = p.length := by
  unfold goodD at g
  simp only [Bool.and_eq_true, decide_eq_true_eq] at g
  exact g.1
theorem i_GoodDisk.loop (k : Nat) (p h : List ByteArray) (b : List Bool) (hp : p.length ≤ 24) (hh : h.length = p.length) (hb : b.length = p.length) : ∀ (n j m : Nat), j + n = p.length → n < m → i_GoodDisk.l0 k m p (p.length : Int) (j : Int) p h b = some (gdAll p h b n j) := by
  intro n
  induction n with
  | zero =>
    intro j m hj hm
    obtain ⟨m, rfl⟩ : ∃ m', m = m' + 1 := ⟨m - 1, by omega⟩
    rw [i_GoodDisk.l0_s, cnF (by omega)]; rfl
  | succ n ih =>
    intro j m hj hm
    obtain ⟨m, rfl⟩ : ∃ m', m = m' + 1 := ⟨m - 1, by omega⟩
    have := ih (j + 1) m (by omega) (by omega)
    rw [i_GoodDisk.l0_s, cnT (by omega), inb_nat (by omega), gd_t, inb_nat (by omega), gd_t, inb_nat (by omega), gd_t, gd_t, Int.toNat_natCast, wrap_succ (by omega), this]
    rw [gdAll_s]
    by_cases c1 : (28 : Int) < ((getAt ByteArray.empty p j).size : Int)
    · rw [cnT c1, if_pos c1]
    rw [cnF c1, if_neg c1]
    by_cases c2 : (28 : Int) < ((getAt ByteArray.empty h j).size : Int)
    · rw [cnT c2, if_pos c2]
    rw [cnF c2, if_neg c2]
    cases c3 : getAt false b j with
    | false => rw [cn_f, if_neg (by simp)]
    | true =>
      rw [cn_t, if_pos rfl]
      by_cases c4 : (getAt ByteArray.empty h j).toList = ByteArray.empty.toList
      · rw [cnNT c4, if_pos c4]
      · rw [cnNF c4, if_neg c4]
theorem i_GoodDisk.eq (k : Nat) (hk : 25 ≤ k) (p h : List ByteArray) (b : List Bool) : i_GoodDisk.f k p h b = some (goodD p h b) := by
  rw [i_GoodDisk.f_eq, i_within.f_eq]
  by_cases c1 : (1 : Int) ≤ (p.length : Int)
  case neg =>
    rw [cnF c1, goodD_no (by omega)]; rfl
  rw [cnT c1, Option.bind_some]
  by_cases c2 : (p.length : Int) ≤ 24
  case neg =>
    rw [decide_eq_false c2, goodD_no (by omega)]; rfl
  rw [decide_eq_true c2]
  simp only [Bool.not_true, cn_f]
  by_cases c3 : (h.length : Int) = (p.length : Int)
  case neg =>
    rw [cnNF c3, goodD_no (by omega)]
  rw [cnNT c3]
  by_cases c4 : (b.length : Int) = (p.length : Int)
  case neg =>
    rw [cnNF c4, goodD_no (by omega)]
  rw [cnNT c4, goodD_yes (by omega)]
  exact i_GoodDisk.loop k p h b (by omega) (by omega) (by omega) p.length 0 k (by omega) (by omega)
theorem s_GoodDisk.loop (k : Nat) (p h : List ByteArray) (b : List Bool) (hp : p.length ≤ 24) (hh : h.length = p.length) (hb : b.length = p.length) : ∀ (n j m : Nat), j + n = p.length → n < m → s_GoodDisk.l0 k m (p.length : Int) (j : Int) p h b = some (gdAll p h b n j) := by
  intro n
  induction n with
  | zero =>
    intro j m hj hm
    obtain ⟨m, rfl⟩ : ∃ m', m = m' + 1 := ⟨m - 1, by omega⟩
    rw [s_GoodDisk.l0_s, cnF (by omega)]; rfl
  | succ n ih =>
    intro j m hj hm
    obtain ⟨m, rfl⟩ : ∃ m', m = m' + 1 := ⟨m - 1, by omega⟩
    have := ih (j + 1) m (by omega) (by omega)
    rw [s_GoodDisk.l0_s, cnT (by omega), inb_nat (by omega), gd_t, inb_nat (by omega), gd_t, inb_nat (by omega), gd_t, gd_t, Int.toNat_natCast, wrap_succ (by omega), this]
    rw [gdAll_s]
    by_cases c1 : (28 : Int) < ((getAt ByteArray.empty p j).size : Int)
    · rw [cnT c1, if_pos c1]
    rw [cnF c1, if_neg c1]
    by_cases c2 : (28 : Int) < ((getAt ByteArray.empty h j).size : Int)
    · rw [cnT c2, if_pos c2]
    rw [cnF c2, if_neg c2]
    cases c3 : getAt false b j with
    | false => rw [cn_f, if_neg (by simp)]
    | true =>
      rw [cn_t, if_pos rfl]
      by_cases c4 : (getAt ByteArray.empty h j).toList = ByteArray.empty.toList
      · rw [cnNT c4, if_pos c4]
      · rw [cnNF c4, if_neg c4]
theorem s_GoodDisk.eq (k : Nat) (hk : 25 ≤ k) (p h : List ByteArray) (b : List Bool) : s_GoodDisk.f k p h b = some (goodD p h b) := by
  rw [s_GoodDisk.f_eq, s_l1In.f_eq]
  by_cases c1 : (1 : Int) ≤ (p.length : Int)
  case neg =>
    rw [cnF c1, goodD_no (by omega)]; rfl
  rw [cnT c1, Option.bind_some]
  by_cases c2 : (p.length : Int) ≤ 24
  case neg =>
    rw [decide_eq_false c2, goodD_no (by omega)]; rfl
  rw [decide_eq_true c2]
  simp only [Bool.not_true, cn_f]
  by_cases c3 : (h.length : Int) = (p.length : Int)
  case neg =>
    rw [cnNF c3, goodD_no (by omega)]
  rw [cnNT c3]
  by_cases c4 : (b.length : Int) = (p.length : Int)
  case neg =>
    rw [cnNF c4, goodD_no (by omega)]
  rw [cnNT c4, goodD_yes (by omega)]
  exact s_GoodDisk.loop k p h b (by omega) (by omega) (by omega) p.length 0 k (by omega) (by omega)
/-- One byte shifted through, n bits of it. -/
def crcN : Nat → Int → Int
  | 0, x => x
  | n + 1, x => crcN n (cn (decide (IntKind.i64.wrap (↑(BitVec.ofInt (64 : Nat) x &&& BitVec.ofInt (64 : Nat) (1 : Int)).toNat : Int) = (1 : Int))) (IntKind.i64.wrap (↑(BitVec.ofInt (64 : Nat) (x.fdiv ((2 : Int) ^ (1 : Nat))) ^^^ BitVec.ofInt (64 : Nat) (2197175160 : Int)).toNat : Int)) (x.fdiv ((2 : Int) ^ (1 : Nat))))
theorem crcN_s (n : Nat) (x : Int) : crcN (n + 1) x = crcN n (cn (decide (IntKind.i64.wrap (↑(BitVec.ofInt (64 : Nat) x &&& BitVec.ofInt (64 : Nat) (1 : Int)).toNat : Int) = (1 : Int))) (IntKind.i64.wrap (↑(BitVec.ofInt (64 : Nat) (x.fdiv ((2 : Int) ^ (1 : Nat))) ^^^ BitVec.ofInt (64 : Nat) (2197175160 : Int)).toNat : Int)) (x.fdiv ((2 : Int) ^ (1 : Nat)))) := rfl
/-- The sum over n bytes of t from j on. -/
def crcL (t : ByteArray) : Nat → Int → Nat → Int
  | 0, x, _ => IntKind.i64.wrap (↑(BitVec.ofInt (64 : Nat) x ^^^ BitVec.ofInt (64 : Nat) (4294967295 : Int)).toNat : Int)
  | n + 1, x, j => crcL t n (crcN 8 (IntKind.i64.wrap (↑(BitVec.ofInt (64 : Nat) x ^^^ BitVec.ofInt (64 : Nat) (IntKind.i64.wrap (↑(t.data.getD j (0 : UInt8)).toNat : Int))).toNat : Int))) (j + 1)
theorem crcL_s (t : ByteArray) (n : Nat) (x : Int) (j : Nat) : crcL t (n + 1) x j = crcL t n (crcN 8 (IntKind.i64.wrap (↑(BitVec.ofInt (64 : Nat) x ^^^ BitVec.ofInt (64 : Nat) (IntKind.i64.wrap (↑(t.data.getD j (0 : UInt8)).toNat : Int))).toNat : Int))) (j + 1) := rfl
def crc (t : ByteArray) : Int := crcL t t.size (IntKind.i64.wrap (↑(BitVec.ofInt (64 : Nat) (0 : Int) ^^^ BitVec.ofInt (64 : Nat) (4294967295 : Int)).toNat : Int)) 0
/-! ### Loops: rounds to spare -/
def Ev2 {R : Type} (g : Nat → Nat → Option R) (r : R) : Prop := ∃ K, ∀ k m, K ≤ k → K ≤ m → g k m = some r
theorem Ev2.diag {R : Type} {g : Nat → Nat → Option R} {r : R} (h : Ev2 g r) : Ev (fun k => g k k) r := by
  obtain ⟨K, hK⟩ := h
  exact ⟨K, fun k hk => hK k k hk hk⟩
theorem Ev2.step {R : Type} {g g' : Nat → Nat → Option R} {r : R} (h : Ev2 g' r) (e : ∀ k m, g k (m + 1) = g' k m) : Ev2 g r := by
  obtain ⟨K, hK⟩ := h
  refine ⟨K + 1, fun k m hk hm => ?_⟩
  obtain ⟨m, rfl⟩ : ∃ m', m = m' + 1 := ⟨m - 1, by omega⟩
  rw [e]
  exact hK k m (by omega) (by omega)
theorem Ev2.bind {D R : Type} {f : Nat → Option D} {d : D} {G : Nat → Nat → D → Option R} {r : R} (h : Ev f d) (h2 : Ev2 (fun k m => G k m d) r) : Ev2 (fun k m => (f k).bind (G k m)) r := by
  obtain ⟨K, hK⟩ := h
  obtain ⟨L, hL⟩ := h2
  refine ⟨max K L, fun k m hk hm => ?_⟩
  show (f k).bind (G k m) = _
  rw [hK k (by omega)]
  exact hL k m (by omega) (by omega)
theorem Ev2.const {R : Type} {g : Nat → Nat → Option R} {r : R} (h : ∀ k m, g k m = some r) : Ev2 g r := ⟨0, fun k m _ _ => h k m⟩
theorem Ev2.ev {R : Type} {g : Nat → Option R} {r : R} (h : Ev g r) : Ev2 (fun k _ => g k) r := by
  obtain ⟨K, hK⟩ := h
  exact ⟨K, fun k _ hk _ => hK k hk⟩
theorem Ev2.inner {R : Type} {g : Nat → Nat → Option R} {r : R} (h : Ev2 g r) : Ev2 (fun k _ => g k k) r := .ev h.diag
theorem Ev2.congr {R : Type} {f g : Nat → Nat → Option R} {r : R} (h : Ev2 f r) (e : ∀ k m, g k m = f k m) : Ev2 g r := by
  obtain ⟨K, hK⟩ := h
  exact ⟨K, fun k m hk hm => by rw [e]; exact hK k m hk hm⟩
theorem Ev.unique {R : Type} {g : Nat → Option R} {r r' : R} (h : Ev g r) (h' : Ev g r') : r = r' := by
  obtain ⟨K, hK⟩ := h
  obtain ⟨L, hL⟩ := h'
  have a := hK (max K L) (by omega)
  rw [hL (max K L) (by omega)] at a
  exact (Option.some.inj a).symm
/-- Three kinds of rounds. -/
def Ev3 {R : Type} (g : Nat → Nat → Nat → Option R) (r : R) : Prop := ∃ K, ∀ k m n, K ≤ k → K ≤ m → K ≤ n → g k m n = some r
theorem Ev3.diag {R : Type} {g : Nat → Nat → Nat → Option R} {r : R} (h : Ev3 g r) : Ev2 (fun k m => g k m k) r := by
  obtain ⟨K, hK⟩ := h
  exact ⟨K, fun k m hk hm => hK k m k hk hm hk⟩
theorem Ev3.step {R : Type} {g g' : Nat → Nat → Nat → Option R} {r : R} (h : Ev3 g' r) (e : ∀ k m n, g k m (n + 1) = g' k m n) : Ev3 g r := by
  obtain ⟨K, hK⟩ := h
  refine ⟨K + 1, fun k m n hk hm hn => ?_⟩
  obtain ⟨n, rfl⟩ : ∃ m', n = m' + 1 := ⟨n - 1, by omega⟩
  rw [e]
  exact hK k m n (by omega) (by omega) (by omega)
theorem Ev3.bind {D R : Type} {f : Nat → Option D} {d : D} {G : Nat → Nat → Nat → D → Option R} {r : R} (h : Ev f d) (h2 : Ev3 (fun k m n => G k m n d) r) : Ev3 (fun k m n => (f k).bind (G k m n)) r := by
  obtain ⟨K, hK⟩ := h
  obtain ⟨L, hL⟩ := h2
  refine ⟨max K L, fun k m n hk hm hn => ?_⟩
  show (f k).bind (G k m n) = _
  rw [hK k (by omega)]
  exact hL k m n (by omega) (by omega) (by omega)
theorem Ev3.const {R : Type} {g : Nat → Nat → Nat → Option R} {r : R} (h : ∀ k m n, g k m n = some r) : Ev3 g r := ⟨0, fun k m n _ _ _ => h k m n⟩
theorem Ev3.out {R : Type} {g : Nat → Nat → Option R} {r : R} (h : Ev2 g r) : Ev3 (fun k m _ => g k m) r := by
  obtain ⟨K, hK⟩ := h
  exact ⟨K, fun k m _ hk hm _ => hK k m hk hm⟩
theorem drop_cons {A : Type} {d : A} {s : List A} {j : Nat} (h : j < s.length) : s.drop j = getAt d s j :: s.drop (j + 1) := by
  rw [getAt_lt h]; exact List.drop_eq_getElem_cons h
/-- A loop over a row from place j on; what is carried is told by st. -/
theorem Ev2.each {A R S : Type} (s : List A) (d : A) (g : Nat → Nat → Nat → S → Option R) (inv : Nat → S → Prop) (res : List A → Nat → S → R)
    (hnil : ∀ st, inv s.length st → Ev2 (fun k m => g k m s.length st) (res [] s.length st))
    (hcons : ∀ j x l st, s.drop j = x :: l → j < s.length → getAt d s j = x → inv j st → (∀ st', inv (j + 1) st' → Ev2 (fun k m => g k m (j + 1) st') (res l (j + 1) st')) → Ev2 (fun k m => g k m j st) (res (x :: l) j st)) :
    ∀ n j st, j + n = s.length → inv j st → Ev2 (fun k m => g k m j st) (res (s.drop j) j st) := by
  intro n
  induction n with
  | zero =>
    intro j st hj hi
    obtain rfl : j = s.length := by omega
    rw [List.drop_length]
    exact hnil st hi
  | succ n ih =>
    intro j st hj hi
    have hlt : j < s.length := by omega
    have e := drop_cons (d := d) hlt
    rw [e]
    exact hcons j _ _ st e hlt rfl hi fun st' h' => ih (j + 1) st' (by omega) h'
/-- The same where nothing is carried. -/
theorem Ev2.look {A R : Type} (s : List A) (d : A) (g : Nat → Nat → Nat → Option R) (res : List A → Nat → R)
    (hnil : Ev2 (fun k m => g k m s.length) (res [] s.length))
    (hcons : ∀ j x l, s.drop j = x :: l → j < s.length → getAt d s j = x → Ev2 (fun k m => g k m (j + 1)) (res l (j + 1)) → Ev2 (fun k m => g k m j) (res (x :: l) j)) :
    Ev2 (fun k m => g k m 0) (res s 0) :=
  Ev2.each s d (fun k m j (_ : Unit) => g k m j) (fun _ _ => True) (fun l j _ => res l j) (fun _ _ => hnil) (fun j x l _ h1 h2 h3 _ ih => hcons j x l h1 h2 h3 (ih () trivial)) s.length 0 () (by omega) trivial
/-- The first place where p holds, -1 for none. -/
def fidx {A : Type} (p : A → Bool) : List A → Nat → Int
  | [], _ => -1
  | x :: l, j => match p x with | true => (j : Int) | false => fidx p l (j + 1)
theorem fidx_any {A : Type} (p : A → Bool) : ∀ (l : List A) (j : Nat), decide ((0 : Int) ≤ fidx p l j) = l.any p
  | [], _ => by simp [fidx]
  | x :: l, j => by
    cases h : p x with
    | true => simp [fidx, h]
    | false => simp only [fidx, h, List.any_cons, Bool.false_or]; exact fidx_any p l (j + 1)
theorem cn_ite {A : Type} (b : Bool) (x y : A) : cn b x y = if b = true then x else y := by cases b <;> rfl
/-! ### Rows written over from the front -/
def mid {A : Type} (a b : List A) (j : Nat) : List A := a.take j ++ b.drop j
theorem mid_zero {A : Type} (a b : List A) : mid a b 0 = b := by simp [mid]
theorem mid_all {A : Type} {a b : List A} {j : Nat} (h : j = a.length) (hb : b.length = a.length) : mid a b j = a := by
  subst h; unfold mid; rw [List.take_length, List.drop_of_length_le (by omega), List.append_nil]
theorem mid_len {A : Type} {a b : List A} (j : Nat) (hb : b.length = a.length) : (mid a b j).length = a.length := by
  simp [mid]; omega
theorem mid_get {A : Type} {d : A} {a b : List A} {j : Nat} (hb : b.length = a.length) (hj : j < a.length) : getAt d (mid a b j) j = getAt d b j := by
  have hl : (a.take j).length = j := by simp; omega
  rw [getAt_lt (by rw [mid_len j hb]; exact hj), getAt_lt (by omega)]
  unfold mid
  rw [List.getElem_append_right (by omega)]
  simp [hl]
theorem mid_step {A : Type} {d : A} {a b : List A} {j : Nat} (hb : b.length = a.length) (hj : j < a.length) : mid a b (j + 1) = a.take j ++ getAt d a j :: b.drop (j + 1) := by
  rw [getAt_lt hj]
  show a.take (j + 1) ++ b.drop (j + 1) = _
  rw [List.take_succ_eq_append_getElem hj, List.append_assoc]; rfl
theorem mid_set {A : Type} {d x : A} {a b : List A} {j : Nat} (hb : b.length = a.length) (hj : j < a.length) (hx : x = getAt d a j) : (mid a b j).set j x = mid a b (j + 1) := by
  have hl : (a.take j).length = j := by simp; omega
  rw [mid_step (d := d) hb hj]
  unfold mid
  rw [List.set_append_right _ _ (by omega), hl, Nat.sub_self, drop_cons (d := d) (by omega : j < b.length), hx]; rfl
theorem mid_keep {A : Type} {d : A} {a b : List A} {j : Nat} (hb : b.length = a.length) (hj : j < a.length) (hx : getAt d b j = getAt d a j) : mid a b j = mid a b (j + 1) := by
  rw [mid_step (d := d) hb hj, ← hx, ← drop_cons (by omega : j < b.length)]; rfl
theorem getAt_ext {A : Type} (d : A) {a b : List A} (hl : a.length = b.length) (h : ∀ i, i < a.length → getAt d a i = getAt d b i) : a = b := by
  refine List.ext_getElem hl fun i h1 h2 => ?_
  have := h i h1
  rwa [getAt_lt h1, getAt_lt h2] at this
theorem getAt_replicate {A : Type} (d : A) (n i : Nat) : getAt d (List.replicate n d) i = d := by
  unfold getAt
  rw [List.getD_eq_getElem?_getD, List.getElem?_replicate]
  split <;> rfl
theorem appOk_le {n b : Nat} (hb : b ≤ 1024) (h : n ≤ 1073741824) : appOk n b = true := by
  unfold appOk
  have : n * b ≤ 1073741824 * 1024 := Nat.mul_le_mul h hb
  rw [decide_eq_true (by omega : n ≤ 2 ^ 46), decide_eq_true (by omega : n * b ≤ 2 ^ 46)]; rfl
theorem bytes_string : Try.prog.bytesOf (9 : Nat) ≤ 1024 := by rw [show Try.prog.bytesOf (9 : Nat) = 16 by kernel_rfl]; decide
theorem bytes_int : Try.prog.bytesOf (3 : Nat) ≤ 1024 := by rw [show Try.prog.bytesOf (3 : Nat) = 8 by kernel_rfl]; decide
theorem bytes_bool : Try.prog.bytesOf (4 : Nat) ≤ 1024 := by rw [show Try.prog.bytesOf (4 : Nat) = 1 by kernel_rfl]; decide
theorem bytes_uint8 : Try.prog.bytesOf (5 : Nat) ≤ 1024 := by rw [show Try.prog.bytesOf (5 : Nat) = 1 by kernel_rfl]; decide
theorem beq_nt (a b : Bool) : (!a == b) = !decide (a = b) := by cases a <;> cases b <;> rfl
/-! ### Looking through rows -/
theorem any_eq (s : List Int) (v : Int) : s.any (fun x => decide (v = x)) = decide (v ∈ s) := by
  rw [Bool.eq_iff_iff, List.any_eq_true, decide_eq_true_iff]
  constructor
  · rintro ⟨x, hx, h⟩; rw [of_decide_eq_true h]; exact hx
  · exact fun h => ⟨v, h, decide_eq_true rfl⟩
theorem b_Index_int.ev (s : List Int) (v : Int) (hs : s.length < 9223372036854775807) : Ev (fun k => b_Index_int.f k s v) (fidx (fun x => decide (v = x)) s 0) := by
  refine Ev.congr ?_ fun k => b_Index_int.f_eq k s v
  refine Ev2.diag (g := fun k m => b_Index_int.l0 k m s v (s.length : Int) 0) ?_
  refine Ev2.look s 0 (fun k m j => b_Index_int.l0 k m s v (s.length : Int) (j : Int)) (fun l j => fidx (fun x => decide (v = x)) l j) ?_ ?_
  · refine .step ?_ fun k m => b_Index_int.l0_s k m _ _ _ _
    simp (disch := omega) only [Int.toNat_natCast, decide_eq_true, decide_eq_false, Bool.not_true, Bool.not_false, Bool.true_and, Bool.false_and, Bool.and_true, Bool.and_false, cn_t, cn_f, gd_t, inb_nat, wrap_succ, Option.bind_some, both_self, dup_eq, fidx]
    exact .const fun _ _ => rfl
  · intro j x l _ hj hx ih
    refine .step ?_ fun k m => b_Index_int.l0_s k m _ _ _ _
    simp (disch := omega) only [Int.toNat_natCast, decide_eq_true, decide_eq_false, Bool.not_true, Bool.not_false, Bool.true_and, Bool.false_and, Bool.and_true, Bool.and_false, cn_t, cn_f, gd_t, inb_nat, wrap_succ, Option.bind_some, both_self, dup_eq, hx, fidx]
    by_cases h : v = x
    · simp only [decide_eq_true h, cn_t]
      exact .const fun _ _ => rfl
    · simp only [decide_eq_false h, cn_f]
      exact ih
theorem b_Contains_int.ev (s : List Int) (v : Int) (hs : s.length < 9223372036854775807) : Ev (fun k => b_Contains_int.f k s v) (decide (v ∈ s)) := by
  refine Ev.congr ?_ fun k => b_Contains_int.f_eq k s v
  refine Ev.bind (b_Index_int.ev s v hs) ?_
  rw [fidx_any, any_eq]
  exact .const fun _ => rfl
theorem s_l1Has.ev (s : List Int) (v : Int) (hs : s.length < 9223372036854775807) : Ev (fun k => s_l1Has.f k s v) (decide (v ∈ s)) := by
  refine Ev.congr ?_ fun k => s_l1Has.f_eq k s v
  refine Ev2.diag (g := fun k m => s_l1Has.l0 k m v s (s.length : Int) 0) ?_
  refine Ev2.look s 0 (fun k m j => s_l1Has.l0 k m v s (s.length : Int) (j : Int)) (fun l j => decide (v ∈ l)) ?_ ?_
  · refine .step ?_ fun k m => s_l1Has.l0_s k m _ _ _ _
    simp (disch := omega) only [Int.toNat_natCast, decide_eq_true, decide_eq_false, Bool.not_true, Bool.not_false, Bool.true_and, Bool.false_and, Bool.and_true, Bool.and_false, cn_t, cn_f, gd_t, inb_nat, wrap_succ, Option.bind_some, both_self, dup_eq]
    exact .const fun _ _ => by simp
  · intro j x l _ hj hx ih
    refine .step ?_ fun k m => s_l1Has.l0_s k m _ _ _ _
    simp (disch := omega) only [Int.toNat_natCast, decide_eq_true, decide_eq_false, Bool.not_true, Bool.not_false, Bool.true_and, Bool.false_and, Bool.and_true, Bool.and_false, cn_t, cn_f, gd_t, inb_nat, wrap_succ, Option.bind_some, both_self, dup_eq, hx]
    by_cases h : x = v
    · simp only [decide_eq_true h, cn_t]
      exact .const fun _ _ => by simp [h]
    · simp only [decide_eq_false h, cn_f]
      rw [show decide (v ∈ x :: l) = decide (v ∈ l) by simp [Ne.symm h]]
      exact ih
theorem b_Clone_string.eq (k : Nat) (s : List ByteArray) (hs : s.length ≤ 1073741824) : b_Clone_string.f k s = some s := by
  have h : appOk (0 + s.length) (Try.prog.bytesOf (9 : Nat)) = true := appOk_le bytes_string (by omega)
  rw [b_Clone_string.f_eq, h]
  cases s <;> simp only [noEl, cn_t, cn_f, gd_t, List.nil_append, both_self, dup_eq]
theorem b_Clone_bool.eq (k : Nat) (s : List Bool) (hs : s.length ≤ 1073741824) : b_Clone_bool.f k s = some s := by
  have h : appOk (0 + s.length) (Try.prog.bytesOf (4 : Nat)) = true := appOk_le bytes_bool (by omega)
  rw [b_Clone_bool.f_eq, h]
  cases s <;> simp only [noEl, cn_t, cn_f, gd_t, List.nil_append, both_self, dup_eq]
theorem b_Clone_int.eq (k : Nat) (s : List Int) (hs : s.length ≤ 1073741824) : b_Clone_int.f k s = some s := by
  have h : appOk (0 + s.length) (Try.prog.bytesOf (3 : Nat)) = true := appOk_le bytes_int (by omega)
  rw [b_Clone_int.f_eq, h]
  cases s <;> simp only [noEl, cn_t, cn_f, gd_t, List.nil_append, both_self, dup_eq]
/-! ### A disk after a crash -/
theorem i_ownDisk.eq (k : Nat) (p h : List ByteArray) (b : List Bool) (hp : p.length ≤ 1073741824) (hh : h.length ≤ 1073741824) (hb : b.length ≤ 1073741824) : i_ownDisk.f k p h b = some (p, h, b) := by
  rw [i_ownDisk.f_eq, b_Clone_string.eq k p hp, b_Clone_string.eq k h hh, b_Clone_bool.eq k b hb]; rfl
theorem s_l7Own.eq (k : Nat) (p h : List ByteArray) (b : List Bool) (hp : p.length ≤ 1073741824) (hh : h.length ≤ 1073741824) (hb : b.length ≤ 1073741824) : s_l7Own.f k p h b = some (p, h, b) := by
  have e1 : appOk (0 + p.length) (Try.prog.bytesOf (9 : Nat)) = true := appOk_le bytes_string (by omega)
  have e2 : appOk (0 + h.length) (Try.prog.bytesOf (9 : Nat)) = true := appOk_le bytes_string (by omega)
  have e3 : appOk (0 + b.length) (Try.prog.bytesOf (4 : Nat)) = true := appOk_le bytes_bool (by omega)
  rw [s_l7Own.f_eq]
  simp only [e1, e2, e3, gd_t, List.nil_append, both_self, dup_eq]
/-- What stands on the plate then. -/
def crashP (p h : List ByteArray) (kept : List Int) : List ByteArray := p.mapIdx fun i x => if (i : Int) ∈ kept then getAt ByteArray.empty h i else x
theorem crashP_len (p h : List ByteArray) (kept : List Int) : (crashP p h kept).length = p.length := by simp [crashP]
theorem crashP_get {p h : List ByteArray} {kept : List Int} {i : Nat} (hi : i < p.length) : getAt ByteArray.empty (crashP p h kept) i = if (i : Int) ∈ kept then getAt ByteArray.empty h i else getAt ByteArray.empty p i := by
  rw [getAt_lt (by rw [crashP_len]; exact hi), getAt_lt hi]
  simp [crashP]
theorem crashP_nil (p h : List ByteArray) : crashP p h [] = p :=
  getAt_ext ByteArray.empty (crashP_len p h []) fun i hi => by
    rw [crashP_len] at hi
    rw [crashP_get hi]; simp
abbrev noText (n : Nat) : List ByteArray := List.replicate n ByteArray.empty
theorem i_crashed.ev (p h : List ByteArray) (b : List Bool) (kept : List Int) (hp : p.length ≤ 1073741824) (hh : h.length = p.length) (hb : b.length ≤ 1073741824) (hk : kept.length < 9223372036854775807) : Ev (fun k => i_crashed.f k p h b kept) (crashP p h kept, noText p.length, b) := by
  refine Ev.congr ?_ fun k => i_crashed.f_eq k p h b kept
  simp (disch := omega) only [Int.toNat_natCast, decide_eq_true, decide_eq_false, Bool.not_true, Bool.not_false, Bool.true_and, Bool.false_and, Bool.and_true, Bool.and_false, cn_t, cn_f, gd_t, inb_nat, wrap_succ, Option.bind_some, both_self, dup_eq, i_ownDisk.eq]
  refine Ev2.diag (g := fun k m => i_crashed.l0 k m kept (h.length : Int) 0 p h b) ?_
  have lc := crashP_len p h kept
  have ln : (noText p.length).length = p.length := by simp
  have := Ev2.each (noText p.length) ByteArray.empty (fun k m j (st : List ByteArray × List ByteArray) => i_crashed.l0 k m kept (h.length : Int) (j : Int) st.1 st.2 b) (fun j st => st.1 = mid (crashP p h kept) p j ∧ st.2 = mid (noText p.length) h j) (fun _ _ _ => (crashP p h kept, noText p.length, b)) ?_ ?_ p.length 0 (p, h) (by simp) (by simp [mid_zero])
  · exact this
  · rintro ⟨x, y⟩ ⟨rfl, rfl⟩
    refine .step ?_ fun k m => i_crashed.l0_s k m _ _ _ _ _ _
    simp (disch := omega) only [Int.toNat_natCast, decide_eq_true, decide_eq_false, Bool.not_true, Bool.not_false, Bool.true_and, Bool.false_and, Bool.and_true, Bool.and_false, cn_t, cn_f, gd_t, inb_nat, wrap_succ, Option.bind_some, both_self, dup_eq, ln]
    rw [mid_all (by omega) (by omega), mid_all (by simp) (by simp; omega)]
    exact .const fun _ _ => rfl
  · rintro j x l ⟨y, z⟩ _ hj hx ⟨rfl, rfl⟩ ih
    have hj : j < p.length := by simpa using hj
    have l1 : (mid (crashP p h kept) p j).length = p.length := by rw [mid_len j (by omega), lc]
    have l2 : (mid (noText p.length) h j).length = p.length := by rw [mid_len j (by simp; omega)]; simp
    have s2 : (mid (noText p.length) h j).set j ByteArray.empty = mid (noText p.length) h (j + 1) := mid_set (d := ByteArray.empty) (by simp; omega) (by simpa using hj) (getAt_replicate _ _ _).symm
    have g2 : getAt ByteArray.empty (mid (noText p.length) h j) j = getAt ByteArray.empty h j := mid_get (by simp; omega) (by simpa using hj)
    refine .step ?_ fun k m => i_crashed.l0_s k m _ _ _ _ _ _
    simp (disch := omega) only [Int.toNat_natCast, decide_eq_true, decide_eq_false, Bool.not_true, Bool.not_false, Bool.true_and, Bool.false_and, Bool.and_true, Bool.and_false, cn_t, cn_f, gd_t, inb_nat, wrap_succ, Option.bind_some, both_self, dup_eq]
    refine .bind (b_Contains_int.ev kept j hk) ?_
    by_cases hm : (j : Int) ∈ kept
    · simp (disch := omega) only [Int.toNat_natCast, decide_eq_true, decide_eq_false, Bool.not_true, Bool.not_false, Bool.true_and, Bool.false_and, Bool.and_true, Bool.and_false, cn_t, cn_f, gd_t, inb_nat, wrap_succ, Option.bind_some, both_self, dup_eq, decide_eq_true hm, s2, g2]
      refine ih (_, _) ⟨?_, rfl⟩
      exact mid_set (d := ByteArray.empty) (by omega) (by omega) (by rw [crashP_get hj, if_pos hm])
    · simp (disch := omega) only [Int.toNat_natCast, decide_eq_true, decide_eq_false, Bool.not_true, Bool.not_false, Bool.true_and, Bool.false_and, Bool.and_true, Bool.and_false, cn_t, cn_f, gd_t, inb_nat, wrap_succ, Option.bind_some, both_self, dup_eq, decide_eq_false hm, s2]
      refine ih (_, _) ⟨?_, rfl⟩
      exact mid_keep (d := ByteArray.empty) (by omega) (by omega) (by rw [crashP_get hj, if_neg hm])
theorem s_l7Crash.ev (p h : List ByteArray) (b : List Bool) (kept : List Int) (hp : p.length ≤ 1073741824) (hh : h.length = p.length) (hk : kept.length < 9223372036854775807) : Ev (fun k => s_l7Crash.f k p h b kept) (((), (), ()), crashP p h kept, noText p.length, b) := by
  refine Ev.congr ?_ fun k => s_l7Crash.f_eq k p h b kept
  refine Ev2.diag (g := fun k m => s_l7Crash.l0 k m kept (h.length : Int) 0 p h b) ?_
  have lc := crashP_len p h kept
  have ln : (noText p.length).length = p.length := by simp
  have := Ev2.each (noText p.length) ByteArray.empty (fun k m j (st : List ByteArray × List ByteArray) => s_l7Crash.l0 k m kept (h.length : Int) (j : Int) st.1 st.2 b) (fun j st => st.1 = mid (crashP p h kept) p j ∧ st.2 = mid (noText p.length) h j) (fun _ _ _ => (((), (), ()), crashP p h kept, noText p.length, b)) ?_ ?_ p.length 0 (p, h) (by simp) (by simp [mid_zero])
  · exact this
  · rintro ⟨x, y⟩ ⟨rfl, rfl⟩
    refine .step ?_ fun k m => s_l7Crash.l0_s k m _ _ _ _ _ _
    simp (disch := omega) only [Int.toNat_natCast, decide_eq_true, decide_eq_false, Bool.not_true, Bool.not_false, Bool.true_and, Bool.false_and, Bool.and_true, Bool.and_false, cn_t, cn_f, gd_t, inb_nat, wrap_succ, Option.bind_some, both_self, dup_eq, ln]
    rw [mid_all (by omega) (by omega), mid_all (by simp) (by simp; omega)]
    exact .const fun _ _ => rfl
  · rintro j x l ⟨y, z⟩ _ hj hx ⟨rfl, rfl⟩ ih
    have hj : j < p.length := by simpa using hj
    have l1 : (mid (crashP p h kept) p j).length = p.length := by rw [mid_len j (by omega), lc]
    have l2 : (mid (noText p.length) h j).length = p.length := by rw [mid_len j (by simp; omega)]; simp
    have s2 : (mid (noText p.length) h j).set j ByteArray.empty = mid (noText p.length) h (j + 1) := mid_set (d := ByteArray.empty) (by simp; omega) (by simpa using hj) (getAt_replicate _ _ _).symm
    have g2 : getAt ByteArray.empty (mid (noText p.length) h j) j = getAt ByteArray.empty h j := mid_get (by simp; omega) (by simpa using hj)
    refine .step ?_ fun k m => s_l7Crash.l0_s k m _ _ _ _ _ _
    simp (disch := omega) only [Int.toNat_natCast, decide_eq_true, decide_eq_false, Bool.not_true, Bool.not_false, Bool.true_and, Bool.false_and, Bool.and_true, Bool.and_false, cn_t, cn_f, gd_t, inb_nat, wrap_succ, Option.bind_some, both_self, dup_eq]
    refine .bind (s_l1Has.ev kept j hk) ?_
    by_cases hm : (j : Int) ∈ kept
    · simp (disch := omega) only [Int.toNat_natCast, decide_eq_true, decide_eq_false, Bool.not_true, Bool.not_false, Bool.true_and, Bool.false_and, Bool.and_true, Bool.and_false, cn_t, cn_f, gd_t, inb_nat, wrap_succ, Option.bind_some, both_self, dup_eq, decide_eq_true hm, s2, g2]
      refine ih (_, _) ⟨?_, rfl⟩
      exact mid_set (d := ByteArray.empty) (by omega) (by omega) (by rw [crashP_get hj, if_pos hm])
    · simp (disch := omega) only [Int.toNat_natCast, decide_eq_true, decide_eq_false, Bool.not_true, Bool.not_false, Bool.true_and, Bool.false_and, Bool.and_true, Bool.and_false, cn_t, cn_f, gd_t, inb_nat, wrap_succ, Option.bind_some, both_self, dup_eq, decide_eq_false hm, s2]
      refine ih (_, _) ⟨?_, rfl⟩
      exact mid_keep (d := ByteArray.empty) (by omega) (by omega) (by rw [crashP_get hj, if_neg hm])
theorem gdAll_iff {p h : List ByteArray} {b : List Bool} : ∀ {n j : Nat}, gdAll p h b n j = true ↔ ∀ i, j ≤ i → i < j + n → (getAt ByteArray.empty p i).size ≤ 28 ∧ (getAt ByteArray.empty h i).size ≤ 28 ∧ (getAt false b i = true → getAt ByteArray.empty h i = ByteArray.empty)
  | 0, j => by simp [gdAll]; intro i h1 h2; omega
  | n + 1, j => by
    have ih := gdAll_iff (p := p) (h := h) (b := b) (n := n) (j := j + 1)
    have hs : (∀ i, j ≤ i → i < j + (n + 1) → (getAt ByteArray.empty p i).size ≤ 28 ∧ (getAt ByteArray.empty h i).size ≤ 28 ∧ (getAt false b i = true → getAt ByteArray.empty h i = ByteArray.empty)) ↔
        ((getAt ByteArray.empty p j).size ≤ 28 ∧ (getAt ByteArray.empty h j).size ≤ 28 ∧ (getAt false b j = true → getAt ByteArray.empty h j = ByteArray.empty)) ∧ ∀ i, j + 1 ≤ i → i < j + 1 + n → (getAt ByteArray.empty p i).size ≤ 28 ∧ (getAt ByteArray.empty h i).size ≤ 28 ∧ (getAt false b i = true → getAt ByteArray.empty h i = ByteArray.empty) := by
      constructor
      · exact fun H => ⟨H j (by omega) (by omega), fun i h1 h2 => H i (by omega) (by omega)⟩
      · rintro ⟨h0, H⟩ i h1 h2
        rcases Nat.lt_or_ge j i with h3 | h3
        · exact H i (by omega) (by omega)
        · obtain rfl : i = j := by omega
          exact h0
    rw [hs, gdAll_s, ← ih]
    by_cases h1 : (28 : Int) < ((getAt ByteArray.empty p j).size : Int)
    · rw [if_pos h1]; constructor
      · intro h; cases h
      · rintro ⟨⟨h, _⟩, _⟩; omega
    rw [if_neg h1]
    by_cases h2 : (28 : Int) < ((getAt ByteArray.empty h j).size : Int)
    · rw [if_pos h2]; constructor
      · intro h; cases h
      · rintro ⟨⟨_, h, _⟩, _⟩; omega
    rw [if_neg h2]
    have e : ((getAt ByteArray.empty h j).toList = ByteArray.empty.toList) = (getAt ByteArray.empty h j = ByteArray.empty) := propext byteArray_toList_eq
    cases hb : getAt false b j with
    | false =>
      rw [if_neg (by decide)]; constructor
      · exact fun H => ⟨⟨by omega, by omega, fun h => by cases h⟩, H⟩
      · exact fun H => H.2
    | true =>
      rw [if_pos rfl]
      by_cases h3 : getAt ByteArray.empty h j = ByteArray.empty
      · rw [if_pos (by rw [e]; exact h3)]; constructor
        · exact fun H => ⟨⟨by omega, by omega, fun _ => h3⟩, H⟩
        · exact fun H => H.2
      · rw [if_neg (by rw [e]; exact h3)]; constructor
        · intro h; cases h
        · rintro ⟨⟨_, _, h⟩, _⟩; exact absurd (h rfl) h3
theorem goodD_iff {p h : List ByteArray} {b : List Bool} : goodD p h b = true ↔ (1 ≤ p.length ∧ p.length ≤ 24 ∧ h.length = p.length ∧ b.length = p.length) ∧ ∀ i, i < p.length → (getAt ByteArray.empty p i).size ≤ 28 ∧ (getAt ByteArray.empty h i).size ≤ 28 ∧ (getAt false b i = true → getAt ByteArray.empty h i = ByteArray.empty) := by
  unfold goodD
  rw [Bool.and_eq_true, decide_eq_true_iff, gdAll_iff]
  simp
theorem goodD_crash {p h : List ByteArray} {b : List Bool} (g : goodD p h b = true) (kept : List Int) : goodD (crashP p h kept) (noText p.length) b = true := by
  obtain ⟨⟨g1, g2, g3, g4⟩, g5⟩ := goodD_iff.1 g
  refine goodD_iff.2 ⟨⟨by rw [crashP_len]; omega, by rw [crashP_len]; omega, by rw [crashP_len]; simp, by rw [crashP_len]; omega⟩, fun i hi => ?_⟩
  rw [crashP_len] at hi
  rw [crashP_get hi, getAt_replicate]
  obtain ⟨h1, h2, h3⟩ := g5 i hi
  refine ⟨?_, by decide, fun _ => rfl⟩
  split <;> assumption
/-! ### States -/
def isSt (v : List Int) : Bool := v.all (fun x => decide (0 ≤ x ∧ x ≤ 65535)) && decide (v.length = 6)
/-! ### What is held -/
def heldFrom : List ByteArray → Nat → List Int
  | [], _ => []
  | t :: l, j => if t = ByteArray.empty then heldFrom l (j + 1) else (j : Int) :: heldFrom l (j + 1)
def heldL (h : List ByteArray) : List Int := heldFrom h 0
theorem heldFrom_len : ∀ (l : List ByteArray) (j : Nat), (heldFrom l j).length ≤ l.length
  | [], _ => Nat.le_refl _
  | t :: l, j => by
    have := heldFrom_len l (j + 1)
    unfold heldFrom
    split <;> simp <;> omega
theorem heldFrom_mem : ∀ {l : List ByteArray} {j : Nat} {v : Int}, v ∈ heldFrom l j ↔ ∃ i : Nat, i < l.length ∧ v = ((j + i : Nat) : Int) ∧ getAt ByteArray.empty l i ≠ ByteArray.empty
  | [], j, v => by simp [heldFrom]
  | t :: l, j, v => by
    have ih := heldFrom_mem (l := l) (j := j + 1) (v := v)
    have key : (∃ i : Nat, i < (t :: l).length ∧ v = ((j + i : Nat) : Int) ∧ getAt ByteArray.empty (t :: l) i ≠ ByteArray.empty) ↔ (v = (j : Int) ∧ t ≠ ByteArray.empty) ∨ ∃ i : Nat, i < l.length ∧ v = ((j + 1 + i : Nat) : Int) ∧ getAt ByteArray.empty l i ≠ ByteArray.empty := by
      constructor
      · rintro ⟨i, h1, h2, h3⟩
        cases i with
        | zero => exact .inl ⟨by omega, h3⟩
        | succ i => exact .inr ⟨i, by simp at h1; omega, by omega, h3⟩
      · rintro (⟨h1, h2⟩ | ⟨i, h1, h2, h3⟩)
        · exact ⟨0, by simp, by omega, h2⟩
        · exact ⟨i + 1, by simp; omega, by omega, h3⟩
    rw [key]
    unfold heldFrom
    by_cases ht : t = ByteArray.empty
    · rw [if_pos ht, ih]
      exact ⟨fun h => .inr h, fun h => h.resolve_left fun h => h.2 ht⟩
    · rw [if_neg ht, List.mem_cons, ih]
      exact ⟨fun h => h.imp (fun h => ⟨h, ht⟩) id, fun h => h.imp (fun h => h.1) id⟩
theorem heldL_mem {h : List ByteArray} {v : Int} : v ∈ heldL h ↔ 0 ≤ v ∧ v < (h.length : Int) ∧ getAt ByteArray.empty h v.toNat ≠ ByteArray.empty := by
  unfold heldL
  rw [heldFrom_mem]
  constructor
  · rintro ⟨i, h1, h2, h3⟩
    exact ⟨by omega, by omega, by rw [h2]; simpa using h3⟩
  · rintro ⟨h1, h2, h3⟩
    exact ⟨v.toNat, by omega, by omega, h3⟩
theorem empty_iff (t : ByteArray) : (t.toList = ByteArray.empty.toList) ↔ t = ByteArray.empty := byteArray_toList_eq
theorem i_heldIn.ev (p h : List ByteArray) (b : List Bool) (hh : h.length ≤ 1048576) : Ev (fun k => i_heldIn.f k p h b) (heldL h) := by
  refine Ev.congr ?_ fun k => i_heldIn.f_eq k p h b
  refine Ev2.diag (g := fun k m => i_heldIn.l0 k m h (h.length : Int) 0 []) ?_
  have := Ev2.each h ByteArray.empty (fun k m j (st : List Int) => i_heldIn.l0 k m h (h.length : Int) (j : Int) st) (fun j st => st.length ≤ j) (fun l j st => st ++ heldFrom l j) ?_ ?_ h.length 0 [] (by simp) (by simp)
  · exact this
  · intro st _
    refine .step ?_ fun k m => i_heldIn.l0_s k m _ _ _ _
    simp (disch := omega) only [Int.toNat_natCast, decide_eq_true, decide_eq_false, Bool.not_true, Bool.not_false, Bool.true_and, Bool.false_and, Bool.and_true, Bool.and_false, cn_t, cn_f, gd_t, inb_nat, wrap_succ, Option.bind_some, both_self, dup_eq, heldFrom, List.append_nil]
    exact .const fun _ _ => rfl
  · intro j t l st _ hj ht hst ih
    refine .step ?_ fun k m => i_heldIn.l0_s k m _ _ _ _
    simp (disch := omega) only [Int.toNat_natCast, decide_eq_true, decide_eq_false, Bool.not_true, Bool.not_false, Bool.true_and, Bool.false_and, Bool.and_true, Bool.and_false, cn_t, cn_f, gd_t, inb_nat, wrap_succ, Option.bind_some, both_self, dup_eq, ht]
    by_cases he : t = ByteArray.empty
    · rw [show heldFrom (t :: l) j = heldFrom l (j + 1) by rw [heldFrom, if_pos he]]
      simp only [cnNT ((empty_iff t).2 he)]
      exact ih st (by omega)
    · rw [show heldFrom (t :: l) j = (j : Int) :: heldFrom l (j + 1) by rw [heldFrom, if_neg he]]
      simp only [cnNF (fun h => he ((empty_iff t).1 h)), appOk_le bytes_int (show st.length + [(j : Int)].length ≤ 1073741824 by simp; omega), gd_t]
      have := ih (st ++ [(j : Int)]) (by simp; omega)
      rwa [List.append_assoc] at this
theorem s_l7Held.ev (p h : List ByteArray) (b : List Bool) (hh : h.length ≤ 1048576) : Ev (fun k => s_l7Held.f k p h b) (heldL h) := by
  refine Ev.congr ?_ fun k => s_l7Held.f_eq k p h b
  refine Ev2.diag (g := fun k m => s_l7Held.l0 k m h (h.length : Int) 0 []) ?_
  have := Ev2.each h ByteArray.empty (fun k m j (st : List Int) => s_l7Held.l0 k m h (h.length : Int) (j : Int) st) (fun j st => st.length ≤ j) (fun l j st => st ++ heldFrom l j) ?_ ?_ h.length 0 [] (by simp) (by simp)
  · exact this
  · intro st _
    refine .step ?_ fun k m => s_l7Held.l0_s k m _ _ _ _
    simp (disch := omega) only [Int.toNat_natCast, decide_eq_true, decide_eq_false, Bool.not_true, Bool.not_false, Bool.true_and, Bool.false_and, Bool.and_true, Bool.and_false, cn_t, cn_f, gd_t, inb_nat, wrap_succ, Option.bind_some, both_self, dup_eq, heldFrom, List.append_nil]
    exact .const fun _ _ => rfl
  · intro j t l st _ hj ht hst ih
    refine .step ?_ fun k m => s_l7Held.l0_s k m _ _ _ _
    simp (disch := omega) only [Int.toNat_natCast, decide_eq_true, decide_eq_false, Bool.not_true, Bool.not_false, Bool.true_and, Bool.false_and, Bool.and_true, Bool.and_false, cn_t, cn_f, gd_t, inb_nat, wrap_succ, Option.bind_some, both_self, dup_eq, ht]
    by_cases he : t = ByteArray.empty
    · rw [show heldFrom (t :: l) j = heldFrom l (j + 1) by rw [heldFrom, if_pos he]]
      simp only [cnNT ((empty_iff t).2 he)]
      exact ih st (by omega)
    · rw [show heldFrom (t :: l) j = (j : Int) :: heldFrom l (j + 1) by rw [heldFrom, if_neg he]]
      simp only [cnNF (fun h => he ((empty_iff t).1 h)), appOk_le bytes_int (show st.length + [(j : Int)].length ≤ 1073741824 by simp; omega), gd_t]
      have := ih (st ++ [(j : Int)]) (by simp; omega)
      rwa [List.append_assoc] at this
/-! ### Numbers that rise -/
/-- They rise from u on, and p holds of each. -/
def rs (p : Int → Bool) : Option Int → List Int → Bool
  | _, [] => true
  | u, v :: l => p v && (match u with | none => true | some u => decide (u < v)) && rs p (some v) l
theorem rs_and (p q : Int → Bool) : ∀ (l : List Int) (u : Option Int), rs (fun v => p v && q v) u l = (rs p u l && l.all q)
  | [], _ => rfl
  | v :: l, u => by
    simp only [rs, List.all_cons, rs_and p q l]
    cases p v <;> cases q v <;> cases rs p (some v) l <;> cases l.all q <;> simp
theorem rs_congr {p q : Int → Bool} (h : ∀ v, p v = q v) (u : Option Int) (l : List Int) : rs p u l = rs q u l := by
  rw [show p = q from funext h]
def prevA (s : List Int) (j : Nat) : Option Int := match j with | 0 => none | i + 1 => some (getAt 0 s i)
theorem i_isRising.ev (s : List Int) (b : Int) (hs : s.length < 9223372036854775807) (h0 : 0 ≤ b) (h1 : b ≤ 1048576) : Ev (fun k => i_isRising.f k s b) (rs (fun v => decide (0 ≤ v ∧ v ≤ b - 1)) none s) := by
  refine Ev.congr ?_ fun k => i_isRising.f_eq k s b
  refine Ev2.diag (g := fun k m => i_isRising.l0 k m s b s (s.length : Int) 0) ?_
  refine Ev2.look s 0 (fun k m j => i_isRising.l0 k m s b s (s.length : Int) (j : Int)) (fun l j => rs (fun v => decide (0 ≤ v ∧ v ≤ b - 1)) (prevA s j) l) ?_ ?_
  · refine .step ?_ fun k m => i_isRising.l0_s k m _ _ _ _ _
    simp (disch := omega) only [Int.toNat_natCast, decide_eq_true, decide_eq_false, Bool.not_true, Bool.not_false, Bool.true_and, Bool.false_and, Bool.and_true, Bool.and_false, cn_t, cn_f, gd_t, inb_nat, wrap_succ, Option.bind_some, both_self, dup_eq, rs]
    exact .const fun _ _ => rfl
  · intro j v l _ hj hv ih
    refine .step ?_ fun k m => i_isRising.l0_s k m _ _ _ _ _
    simp (disch := omega) only [Int.toNat_natCast, decide_eq_true, decide_eq_false, Bool.not_true, Bool.not_false, Bool.true_and, Bool.false_and, Bool.and_true, Bool.and_false, cn_t, cn_f, gd_t, inb_nat, wrap_succ, Option.bind_some, both_self, dup_eq, hv, i_within.eq, show IntKind.i64.wrap (b - 1) = b - 1 from wrap_eq (by omega) (by omega)]
    by_cases hr : 0 ≤ v ∧ v ≤ b - 1
    · simp only [decide_eq_true hr, Bool.not_true, cn_f, rs, Bool.true_and]
      cases j with
      | zero =>
        simp only [cnF (show ¬ (0 : Int) < ((0 : Nat) : Int) by omega), prevA, Bool.true_and]
        have : prevA s (0 + 1) = some v := by rw [← hv]; rfl
        rw [this] at ih
        exact ih
      | succ i =>
        have e : IntKind.i64.wrap (((i + 1 : Nat) : Int) - 1) = (i : Int) := by rw [wrap_eq (by omega) (by omega)]; omega
        simp only [cnT (show (0 : Int) < ((i + 1 : Nat) : Int) by omega), e, inb_nat (show i < s.length by omega), gd_t, Int.toNat_natCast, prevA]
        have : prevA s (i + 1 + 1) = some v := by rw [← hv]; rfl
        rw [this] at ih
        by_cases hlt : v ≤ getAt 0 s i
        · simp only [cnT hlt, decide_eq_false (show ¬ getAt 0 s i < v by omega), Bool.false_and]
          exact .const fun _ _ => rfl
        · simp only [cnF hlt, decide_eq_true (show getAt 0 s i < v by omega), Bool.true_and]
          exact ih
    · simp only [decide_eq_false hr, Bool.not_false, cn_t, rs, Bool.false_and]
      exact .const fun _ _ => rfl
def keptOk (h : List ByteArray) (kept : List Int) : Bool := rs (fun v => decide (v ∈ heldL h)) none kept
theorem s_l7Kept.ev (p h : List ByteArray) (b : List Bool) (s : List Int) (hh : h.length ≤ 1048576) (hs : s.length < 9223372036854775807) : Ev (fun k => s_l7Kept.f k p h b s) (keptOk h s) := by
  refine Ev.congr ?_ fun k => s_l7Kept.f_eq k p h b s
  refine Ev.bind (s_l7Held.ev p h b hh) ?_
  have hl : (heldL h).length < 9223372036854775807 := by have := heldFrom_len h 0; unfold heldL; omega
  unfold keptOk
  generalize heldL h = H at hl ⊢
  refine Ev2.diag (g := fun k m => s_l7Kept.l0 k m s s (s.length : Int) 0 H) ?_
  refine Ev2.look s 0 (fun k m j => s_l7Kept.l0 k m s s (s.length : Int) (j : Int) H) (fun l j => rs (fun v => decide (v ∈ H)) (prevA s j) l) ?_ ?_
  · refine .step ?_ fun k m => s_l7Kept.l0_s k m _ _ _ _ _
    simp (disch := omega) only [Int.toNat_natCast, decide_eq_true, decide_eq_false, Bool.not_true, Bool.not_false, Bool.true_and, Bool.false_and, Bool.and_true, Bool.and_false, cn_t, cn_f, gd_t, inb_nat, wrap_succ, Option.bind_some, both_self, dup_eq, rs]
    exact .const fun _ _ => rfl
  · intro j v l _ hj hv ih
    refine .step ?_ fun k m => s_l7Kept.l0_s k m _ _ _ _ _
    simp (disch := omega) only [Int.toNat_natCast, decide_eq_true, decide_eq_false, Bool.not_true, Bool.not_false, Bool.true_and, Bool.false_and, Bool.and_true, Bool.and_false, cn_t, cn_f, gd_t, inb_nat, wrap_succ, Option.bind_some, both_self, dup_eq, hv]
    refine .bind (s_l1Has.ev H v hl) ?_
    by_cases hr : v ∈ H
    · simp only [decide_eq_true hr, Bool.not_true, cn_f, rs, Bool.true_and]
      cases j with
      | zero =>
        simp only [cnF (show ¬ (0 : Int) < ((0 : Nat) : Int) by omega), prevA, Bool.true_and]
        have : prevA s (0 + 1) = some v := by rw [← hv]; rfl
        rw [this] at ih
        exact ih
      | succ i =>
        have e : IntKind.i64.wrap (((i + 1 : Nat) : Int) - 1) = (i : Int) := by rw [wrap_eq (by omega) (by omega)]; omega
        simp only [cnT (show (0 : Int) < ((i + 1 : Nat) : Int) by omega), e, inb_nat (show i < s.length by omega), gd_t, Int.toNat_natCast, prevA]
        have : prevA s (i + 1 + 1) = some v := by rw [← hv]; rfl
        rw [this] at ih
        by_cases hlt : v ≤ getAt 0 s i
        · simp only [cnT hlt, decide_eq_false (show ¬ getAt 0 s i < v by omega), Bool.false_and]
          exact .const fun _ _ => rfl
        · simp only [cnF hlt, decide_eq_true (show getAt 0 s i < v by omega), Bool.true_and]
          exact ih
    · simp only [decide_eq_false hr, Bool.not_false, cn_t, rs, Bool.false_and]
      exact .const fun _ _ => rfl
theorem b_IndexFunc_int__i_areHeld_1.ev (s : List Int) (p h : List ByteArray) (b : List Bool) (hs : s.length < 9223372036854775807) (hr : ∀ v ∈ s, 0 ≤ v ∧ v < (h.length : Int)) : Ev (fun k => b_IndexFunc_int__i_areHeld_1.f k s p h b) (fidx (fun v => decide (getAt ByteArray.empty h v.toNat = ByteArray.empty)) s 0, p, h, b) := by
  refine Ev.congr ?_ fun k => b_IndexFunc_int__i_areHeld_1.f_eq k s p h b
  refine Ev2.diag (g := fun k m => b_IndexFunc_int__i_areHeld_1.l0 k m s (s.length : Int) 0 p h b) ?_
  refine Ev2.look s 0 (fun k m j => b_IndexFunc_int__i_areHeld_1.l0 k m s (s.length : Int) (j : Int) p h b) (fun l j => (fidx (fun v => decide (getAt ByteArray.empty h v.toNat = ByteArray.empty)) l j, p, h, b)) ?_ ?_
  · refine .step ?_ fun k m => b_IndexFunc_int__i_areHeld_1.l0_s k m _ _ _ _ _ _
    simp (disch := omega) only [Int.toNat_natCast, decide_eq_true, decide_eq_false, Bool.not_true, Bool.not_false, Bool.true_and, Bool.false_and, Bool.and_true, Bool.and_false, cn_t, cn_f, gd_t, inb_nat, wrap_succ, Option.bind_some, both_self, dup_eq, fidx]
    exact .const fun _ _ => rfl
  · intro j v l hd hj hv ih
    have hm : v ∈ s := List.mem_of_mem_drop (by rw [hd]; exact List.mem_cons_self)
    obtain ⟨v0, v1⟩ := hr v hm
    have hib : inb v h.length = true := by
      have := inb_nat (show v.toNat < h.length by omega)
      rwa [show ((v.toNat : Nat) : Int) = v by omega] at this
    refine .step ?_ fun k m => b_IndexFunc_int__i_areHeld_1.l0_s k m _ _ _ _ _ _
    simp (disch := omega) only [Int.toNat_natCast, decide_eq_true, decide_eq_false, Bool.not_true, Bool.not_false, Bool.true_and, Bool.false_and, Bool.and_true, Bool.and_false, cn_t, cn_f, gd_t, inb_nat, wrap_succ, Option.bind_some, both_self, dup_eq, hv, i_areHeld_1.f_eq, hib, fidx]
    by_cases he : getAt ByteArray.empty h v.toNat = ByteArray.empty
    · simp only [decide_eq_true he, cnT ((empty_iff _).2 he)]
      exact .const fun _ _ => rfl
    · simp only [decide_eq_false he, cnF (fun h => he ((empty_iff _).1 h))]
      exact ih
theorem i_areHeld.ev (p h : List ByteArray) (b : List Bool) (s : List Int) (hp : p.length ≤ 1048576) (hh : h.length = p.length) (hs : s.length < 9223372036854775807) : Ev (fun k => i_areHeld.f k p h b s) (keptOk h s) := by
  refine Ev.congr ?_ fun k => i_areHeld.f_eq k p h b s
  refine Ev.bind (i_isRising.ev s (p.length : Int) hs (by omega) (by omega)) ?_
  have e : keptOk h s = (rs (fun v => decide (0 ≤ v ∧ v ≤ (p.length : Int) - 1)) none s && s.all fun v => !decide (getAt ByteArray.empty h v.toNat = ByteArray.empty)) := by
    rw [← rs_and]
    refine rs_congr (fun v => ?_) _ _
    rw [Bool.eq_iff_iff, decide_eq_true_iff, heldL_mem, Bool.and_eq_true, decide_eq_true_iff, Bool.not_eq_true', decide_eq_false_iff_not]
    constructor
    · rintro ⟨a, b, c⟩; exact ⟨⟨a, by omega⟩, c⟩
    · rintro ⟨⟨a, b⟩, c⟩; exact ⟨a, by omega, c⟩
  rw [e]
  cases hr : rs (fun v => decide (0 ≤ v ∧ v ≤ (p.length : Int) - 1)) none s with
  | false => exact .const fun _ => rfl
  | true =>
    have hb : ∀ (l : List Int) (u : Option Int), rs (fun v => decide (0 ≤ v ∧ v ≤ (p.length : Int) - 1)) u l = true → ∀ v ∈ l, 0 ≤ v ∧ v < (h.length : Int) := by
      intro l
      induction l with
      | nil => intro u _ v hv; cases hv
      | cons w l ih =>
        intro u hu v hv
        simp only [rs, Bool.and_eq_true] at hu
        rcases List.mem_cons.1 hv with rfl | hv
        · have := of_decide_eq_true hu.1.1; omega
        · exact ih _ hu.2 v hv
    simp only [cn_t, Bool.true_and]
    refine Ev.bind (Ev.congr (Ev.bind (b_IndexFunc_int__i_areHeld_1.ev s p h b hs (hb s none hr)) (.const fun _ => rfl)) fun k => b_ContainsFunc_int__i_areHeld_1.f_eq k s p h b) ?_
    rw [fidx_any]
    refine .const fun _ => ?_
    rw [List.not_any_eq_all_not]
/-! ### The law's own, of journals -/
theorem w_szIntS.ev (a : List Int) (ha : a.length ≤ maxLen) (left : Int) (h0 : 0 ≤ left) (h1 : left ≤ 1048576) :
    ∃ r : Int, Ev (fun k => w_szIntS.f k a left) r ∧ (r < 0 ∨ (0 ≤ r ∧ r ≤ left ∧ a.length ≤ 1048576)) := by
  rw [maxLen_eq] at ha
  by_cases h : left - (a.length : Int) < 0
  · refine ⟨-1, .const fun k => ?_, .inl (by omega)⟩
    rw [w_szIntS.f_eq]
    simp (disch := omega) only [Int.toNat_natCast, decide_eq_true, decide_eq_false, Bool.not_true, Bool.not_false, Bool.true_and, Bool.false_and, Bool.and_true, Bool.and_false, cn_t, cn_f, gd_t, inb_nat, wrap_succ, Option.bind_some, both_self, dup_eq, wrap_eq]
  · refine ⟨left - a.length, .const fun k => ?_, .inr ⟨by omega, by omega, by omega⟩⟩
    rw [w_szIntS.f_eq]
    simp (disch := omega) only [Int.toNat_natCast, decide_eq_true, decide_eq_false, Bool.not_true, Bool.not_false, Bool.true_and, Bool.false_and, Bool.and_true, Bool.and_false, cn_t, cn_f, gd_t, inb_nat, wrap_succ, Option.bind_some, both_self, dup_eq, wrap_eq]
/-- The mark's text. -/
noncomputable def mt (v : Nat) : ByteArray := @dite _ (∃ t, Ev (fun k => w_markText.f k (v : Int)) t) (Classical.propDecidable _) (fun h => Classical.choose h) (fun _ => ByteArray.empty)
theorem mt_ev (v : Nat) (hv : v ≤ 140737488355327) : Ev (fun k => w_markText.f k (v : Int)) (mt v) := by
  have h := w_markText.ev v hv
  unfold mt
  rw [dif_pos h]
  exact Classical.choose_spec h
noncomputable def mks (s n : Nat) : List ByteArray := (List.range n).map fun i => mt (s + i)
theorem mks_len (s n : Nat) : (mks s n).length = n := by simp [mks]
theorem w_markStringS.loop2 (s len : Nat) (hs : s + len ≤ 140737488355327) : ∀ (n j : Nat) (h : List ByteArray), j + n = len → h.length = len → h.take j = mks s j → ∃ K, ∀ k m, K ≤ k → n < m → w_markStringS.l0 k m ((s + j : Nat) : Int) j h = some (((s + len : Nat) : Int), mks s len) := by
  intro n
  induction n with
  | zero =>
    intro j h hj hl hh
    refine ⟨0, fun k m _ hm => ?_⟩
    obtain ⟨m, rfl⟩ : ∃ m', m = m' + 1 := ⟨m - 1, by omega⟩
    rw [List.take_of_length_le (by omega)] at hh
    rw [w_markStringS.l0_s, cnF (by omega), hh, show j = len by omega]
  | succ n ih =>
    intro j h hj hl hh
    obtain ⟨K1, hx⟩ := mt_ev (s + j) (by omega)
    have hx : ∀ k, K1 ≤ k → w_markText.f k ((s + j : Nat) : Int) = some (mt (s + j)) := hx
    obtain ⟨K, ht⟩ := ih (j + 1) (h.set j (mt (s + j))) (by omega) (by simpa using hl) (by
      rw [List.take_succ_eq_append_getElem (by simp; omega), List.getElem_set_self, List.take_set_of_le (Nat.le_refl j), hh]
      unfold mks
      rw [List.range_succ, List.map_append]; rfl)
    refine ⟨max K K1, fun k m hk hm => ?_⟩
    obtain ⟨m, rfl⟩ : ∃ m', m = m' + 1 := ⟨m - 1, by omega⟩
    rw [w_markStringS.l0_s, cnT (by omega), hx k (by omega)]
    simp only [Option.bind_some]
    rw [inb_nat (by omega), gd_t, wrap_succ (by omega), wrap_succ (by omega), Int.toNat_natCast]
    exact ht k m (by omega) (by omega)
theorem w_markStringS.ev2 (a : List ByteArray) (s : Nat) (hs : s + a.length ≤ 140737488355327) : Ev (fun k => w_markStringS.f k a (s : Int)) (((s + a.length : Nat) : Int), mks s a.length) := by
  obtain ⟨K, ht⟩ := w_markStringS.loop2 s a.length hs a.length 0 a (by omega) rfl (by simp [mks])
  exact .of (max K (a.length + 1)) fun k hk => by
    show w_markStringS.f k a s = _
    rw [w_markStringS.f_eq]
    exact ht k k (by omega) (by omega)
theorem w_heldStringS.loop (s len : Nat) (hs : s + len ≤ 140737488355327) : ∀ (n j : Nat), j + n = len → ∃ K, ∀ k m, K ≤ k → n < m → w_heldStringS.l0 k m (mks s len) ((s + j : Nat) : Int) j = some ((s + len : Nat) : Int) := by
  have hl := mks_len s len
  intro n
  induction n with
  | zero =>
    intro j hj
    refine ⟨0, fun k m _ hm => ?_⟩
    obtain ⟨m, rfl⟩ : ∃ m', m = m' + 1 := ⟨m - 1, by omega⟩
    rw [w_heldStringS.l0_s, cnF (by omega), show j = len by omega]
  | succ n ih =>
    intro j hj
    obtain ⟨K1, hx⟩ := mt_ev (s + j) (by omega)
    have hx : ∀ k, K1 ≤ k → w_markText.f k ((s + j : Nat) : Int) = some (mt (s + j)) := hx
    obtain ⟨K, ht⟩ := ih (j + 1) (by omega)
    refine ⟨max K K1, fun k m hk hm => ?_⟩
    obtain ⟨m, rfl⟩ : ∃ m', m = m' + 1 := ⟨m - 1, by omega⟩
    rw [w_heldStringS.l0_s, cnT (by omega), inb_nat (by omega), gd_t, hx k (by omega), Option.bind_some, Int.toNat_natCast, cnNT (by rw [getAt_lt (by omega)]; simp [mks]), wrap_succ (by omega), wrap_succ (by omega)]
    exact ht k m (by omega) (by omega)
theorem w_heldStringS.ev (s len : Nat) (hs : s + len ≤ 140737488355327) : Ev (fun k => w_heldStringS.f k (mks s len) (s : Int)) ((s + len : Nat) : Int) := by
  obtain ⟨K, ht⟩ := w_heldStringS.loop s len hs len 0 (by omega)
  exact .of (max K (len + 1)) fun k hk => by
    show w_heldStringS.f k _ s = _
    rw [w_heldStringS.f_eq]
    exact ht k k (by omega) (by omega)
def mbs (s n : Nat) : List Bool := (List.range n).map fun i => decide (((s + i : Nat) : Int).tmod (3 : Int) = (0 : Int))
theorem mbs_len (s n : Nat) : (mbs s n).length = n := by simp [mbs]
theorem w_markBoolS.loop2 (s len : Nat) (hs : s + len ≤ 9223372036854775806) (k : Nat) : ∀ (n j : Nat) (h : List Bool) (m : Nat), j + n = len → h.length = len → h.take j = mbs s j → n < m → w_markBoolS.l0 k m ((s + j : Nat) : Int) j h = some (((s + len : Nat) : Int), mbs s len) := by
  intro n
  induction n with
  | zero =>
    intro j h m hj hl hh hm
    obtain ⟨m, rfl⟩ : ∃ m', m = m' + 1 := ⟨m - 1, by omega⟩
    rw [List.take_of_length_le (by omega)] at hh
    rw [w_markBoolS.l0_s, cnF (by omega), hh, show j = len by omega]
  | succ n ih =>
    intro j h m hj hl hh hm
    obtain ⟨m, rfl⟩ : ∃ m', m = m' + 1 := ⟨m - 1, by omega⟩
    rw [w_markBoolS.l0_s, cnT (by omega), inb_nat (by omega), gd_t, wrap_succ (by omega), wrap_succ (by omega), Int.toNat_natCast]
    refine ih (j + 1) _ m (by omega) (by simpa using hl) ?_ (by omega)
    rw [List.take_succ_eq_append_getElem (by simp; omega), List.getElem_set_self, List.take_set_of_le (Nat.le_refl j), hh]
    unfold mbs
    rw [List.range_succ, List.map_append]; rfl
theorem w_markBoolS.ev2 (a : List Bool) (s : Nat) (hs : s + a.length ≤ 9223372036854775806) : Ev (fun k => w_markBoolS.f k a (s : Int)) (((s + a.length : Nat) : Int), mbs s a.length) := .of (a.length + 1) fun k hk => by
  show w_markBoolS.f k a s = _
  rw [w_markBoolS.f_eq]
  exact w_markBoolS.loop2 s a.length hs k a.length 0 a k (by omega) rfl (by simp [mbs]) (by omega)
theorem w_heldBoolS.loop (s len : Nat) (hs : s + len ≤ 9223372036854775806) (k : Nat) : ∀ (n j m : Nat), j + n = len → n < m → w_heldBoolS.l0 k m (mbs s len) ((s + j : Nat) : Int) j = some ((s + len : Nat) : Int) := by
  have hl := mbs_len s len
  intro n
  induction n with
  | zero =>
    intro j m hj hm
    obtain ⟨m, rfl⟩ : ∃ m', m = m' + 1 := ⟨m - 1, by omega⟩
    rw [w_heldBoolS.l0_s, cnF (by omega), show j = len by omega]
  | succ n ih =>
    intro j m hj hm
    obtain ⟨m, rfl⟩ : ∃ m', m = m' + 1 := ⟨m - 1, by omega⟩
    have e : (!getAt false (mbs s len) j == decide (((s + j : Nat) : Int).tmod (3 : Int) = (0 : Int))) = false := by
      rw [getAt_lt (by omega)]
      simp only [mbs, List.getElem_map, List.getElem_range]
      cases decide (((s + j : Nat) : Int).tmod (3 : Int) = (0 : Int)) <;> rfl
    rw [w_heldBoolS.l0_s, cnT (by omega), inb_nat (by omega), gd_t, Int.toNat_natCast, e, cn_f, wrap_succ (by omega), wrap_succ (by omega)]
    exact ih (j + 1) m (by omega) (by omega)
theorem w_heldBoolS.ev (s len : Nat) (hs : s + len ≤ 9223372036854775806) : Ev (fun k => w_heldBoolS.f k (mbs s len) (s : Int)) ((s + len : Nat) : Int) := .of (len + 1) fun k hk => by
  show w_heldBoolS.f k _ s = _
  rw [w_heldBoolS.f_eq]
  exact w_heldBoolS.loop s len hs k len 0 k (by omega) (by omega)
theorem w_markDisk.ev2 (p h : List ByteArray) (b : List Bool) (s : Nat) (hs : s + p.length + h.length + b.length ≤ 140737488355327) : Ev (fun k => w_markDisk.f k p h b (s : Int)) (((s + p.length + h.length + b.length : Nat) : Int), mks s p.length, mks (s + p.length) h.length, mbs (s + p.length + h.length) b.length) := by
  refine Ev.congr ?_ (fun k => w_markDisk.f_eq k p h b s)
  refine Ev.bind (w_markStringS.ev2 p s (by omega)) ?_
  refine Ev.bind (w_markStringS.ev2 h (s + p.length) (by omega)) ?_
  refine Ev.bind (w_markBoolS.ev2 b (s + p.length + h.length) (by omega)) ?_
  exact .const fun k => rfl
theorem w_heldDisk.ev (s a b c : Nat) (hs : s + a + b + c ≤ 140737488355327) : Ev (fun k => w_heldDisk.f k (mks s a) (mks (s + a) b) (mbs (s + a + b) c) (s : Int)) ((s + a + b + c : Nat) : Int) := by
  refine Ev.congr ?_ (fun k => w_heldDisk.f_eq k _ _ _ s)
  refine Ev.bind (w_heldStringS.ev s a (by omega)) ?_
  simp only [cnF (show ¬ ((s + a : Nat) : Int) < 0 by omega)]
  refine Ev.bind (w_heldStringS.ev (s + a) b (by omega)) ?_
  simp only [cnF (show ¬ ((s + a + b : Nat) : Int) < 0 by omega)]
  refine Ev.bind (w_heldBoolS.ev (s + a + b) c (by omega)) ?_
  exact .const fun k => by rw [cnF (show ¬ ((s + a + b + c : Nat) : Int) < 0 by omega)]
/-! ### Scrubs -/
def badE (e : List Int) : Bool := e.any fun x => !decide (0 ≤ x ∧ x ≤ 60000)
def goodS (p h : List ByteArray) (b : List Bool) (e : List Int) (c m : Int) : Bool :=
  decide (1 ≤ e.length ∧ e.length ≤ 4) && (goodD p h b && (decide (p.length = 5 * e.length) && (decide (0 ≤ c ∧ c ≤ (e.length : Int) - 1) && (decide (0 ≤ m ∧ m ≤ 10000) && !badE e))))
theorem i_GoodScrub_1.eq (k : Nat) (n : Int) : i_GoodScrub_1.f k n = some (!decide (0 ≤ n ∧ n ≤ 60000)) := by rw [i_GoodScrub_1.f_eq, i_within.eq, Option.bind_some]
theorem b_IndexFunc_int__i_GoodScrub_1.ev (s : List Int) (hs : s.length < 9223372036854775807) : Ev (fun k => b_IndexFunc_int__i_GoodScrub_1.f k s) (fidx (fun x => !decide (0 ≤ x ∧ x ≤ 60000)) s 0) := by
  refine Ev.congr ?_ fun k => b_IndexFunc_int__i_GoodScrub_1.f_eq k s
  refine Ev2.diag (g := fun k m => b_IndexFunc_int__i_GoodScrub_1.l0 k m s (s.length : Int) 0) ?_
  refine Ev2.look s 0 (fun k m j => b_IndexFunc_int__i_GoodScrub_1.l0 k m s (s.length : Int) (j : Int)) (fun l j => fidx (fun x => !decide (0 ≤ x ∧ x ≤ 60000)) l j) ?_ ?_
  · refine .step ?_ fun k m => b_IndexFunc_int__i_GoodScrub_1.l0_s k m _ _ _
    simp (disch := omega) only [Int.toNat_natCast, decide_eq_true, decide_eq_false, Bool.not_true, Bool.not_false, Bool.true_and, Bool.false_and, Bool.and_true, Bool.and_false, cn_t, cn_f, gd_t, inb_nat, wrap_succ, Option.bind_some, both_self, dup_eq, fidx]
    exact .const fun _ _ => rfl
  · intro j x l _ hj hx ih
    refine .step ?_ fun k m => b_IndexFunc_int__i_GoodScrub_1.l0_s k m _ _ _
    simp (disch := omega) only [Int.toNat_natCast, decide_eq_true, decide_eq_false, Bool.not_true, Bool.not_false, Bool.true_and, Bool.false_and, Bool.and_true, Bool.and_false, cn_t, cn_f, gd_t, inb_nat, wrap_succ, Option.bind_some, both_self, dup_eq, hx, fidx, i_GoodScrub_1.eq]
    by_cases h : 0 ≤ x ∧ x ≤ 60000
    · simp only [decide_eq_true h, Bool.not_true, cn_f]
      exact ih
    · simp only [decide_eq_false h, Bool.not_false, cn_t]
      exact .const fun _ _ => rfl
theorem i_GoodScrub.ev (p h : List ByteArray) (b : List Bool) (e : List Int) (c m : Int) (he : e.length < 9223372036854775807) : Ev (fun k => i_GoodScrub.f k p h b e c m) (goodS p h b e c m) := by
  refine Ev.congr ?_ fun k => i_GoodScrub.f_eq k p h b e c m
  refine Ev.bind (.const fun k => i_within.eq k _ _ _) ?_
  unfold goodS
  by_cases h1 : 1 ≤ e.length ∧ e.length ≤ 4
  · simp only [decide_eq_true h1, decide_eq_true (show (1 : Int) ≤ (e.length : Int) ∧ (e.length : Int) ≤ 4 by omega), Bool.not_true, cn_f, Bool.true_and]
    refine Ev.bind (.of 25 fun k hk => i_GoodDisk.eq k hk p h b) ?_
    cases goodD p h b with
    | false => exact .const fun _ => rfl
    | true =>
      have w5 : IntKind.i64.wrap ((5 : Int) * (e.length : Int)) = 5 * (e.length : Int) := wrap_eq (by omega) (by omega)
      have w1 : IntKind.i64.wrap ((e.length : Int) - 1) = (e.length : Int) - 1 := wrap_eq (by omega) (by omega)
      simp only [Bool.not_true, cn_f, Bool.true_and, w5, w1]
      by_cases h2 : p.length = 5 * e.length
      · simp only [decide_eq_true h2, cnNT (show (p.length : Int) = 5 * (e.length : Int) by omega), Bool.true_and]
        refine Ev.bind (.const fun k => i_within.eq k _ _ _) ?_
        by_cases h3 : 0 ≤ c ∧ c ≤ (e.length : Int) - 1
        · simp only [decide_eq_true h3, Bool.not_true, cn_f, Bool.true_and]
          refine Ev.bind (.const fun k => i_within.eq k _ _ _) ?_
          by_cases h4 : 0 ≤ m ∧ m ≤ 10000
          · simp only [decide_eq_true h4, Bool.not_true, cn_f, Bool.true_and]
            refine Ev.bind (Ev.congr (Ev.bind (b_IndexFunc_int__i_GoodScrub_1.ev e he) (.const fun _ => rfl)) fun k => b_ContainsFunc_int__i_GoodScrub_1.f_eq k e) ?_
            rw [fidx_any]
            exact .const fun _ => rfl
          · simp only [decide_eq_false h4, Bool.not_false, cn_t, Bool.false_and]
            exact .const fun _ => rfl
        · simp only [decide_eq_false h3, Bool.not_false, cn_t, Bool.false_and]
          exact .const fun _ => rfl
      · simp only [decide_eq_false h2, cnNF (show ¬ (p.length : Int) = 5 * (e.length : Int) by omega), Bool.false_and]
        exact .const fun _ => rfl
  · simp only [decide_eq_false h1, decide_eq_false (show ¬ ((1 : Int) ≤ (e.length : Int) ∧ (e.length : Int) ≤ 4) by omega), Bool.not_false, cn_t, Bool.false_and]
    exact .const fun _ => rfl
theorem s_GoodScrub.ev (p h : List ByteArray) (b : List Bool) (e : List Int) (c m : Int) (he : e.length < 9223372036854775807) : Ev (fun k => s_GoodScrub.f k p h b e c m) (goodS p h b e c m) := by
  refine Ev.congr ?_ fun k => s_GoodScrub.f_eq k p h b e c m
  refine Ev2.diag (g := fun k q => s_GoodScrub.l0 k q (e.length : Int) e (e.length : Int) 0 p h b e c m) ?_
  have key := Ev2.look e 0 (fun k q j => s_GoodScrub.l0 k q (e.length : Int) e (e.length : Int) (j : Int) p h b e c m) (fun l j => decide (1 ≤ e.length ∧ e.length ≤ 4) && (goodD p h b && (decide (p.length = 5 * e.length) && (decide (0 ≤ c ∧ c ≤ (e.length : Int) - 1) && (decide (0 ≤ m ∧ m ≤ 10000) && !badE l))))) ?_ ?_
  · exact key
  · refine .step ?_ fun k q => s_GoodScrub.l0_s k q _ _ _ _ _ _ _ _ _ _
    simp only [cnF (show ¬ ((e.length : Nat) : Int) < (e.length : Int) by omega)]
    refine .bind (.const fun k => s_l1In.eq k _ _ _) ?_
    by_cases h1 : 1 ≤ e.length ∧ e.length ≤ 4
    · simp only [decide_eq_true h1, decide_eq_true (show (1 : Int) ≤ (e.length : Int) ∧ (e.length : Int) ≤ 4 by omega), cn_t, Bool.true_and]
      refine .bind (.of 25 fun k hk => s_GoodDisk.eq k hk p h b) ?_
      cases goodD p h b with
      | false => exact .const fun _ _ => rfl
      | true =>
        have w5 : IntKind.i64.wrap ((5 : Int) * (e.length : Int)) = 5 * (e.length : Int) := wrap_eq (by omega) (by omega)
        have w1 : IntKind.i64.wrap ((e.length : Int) - 1) = (e.length : Int) - 1 := wrap_eq (by omega) (by omega)
        simp only [cn_t, Bool.true_and, w5, w1]
        by_cases h2 : p.length = 5 * e.length
        · simp only [decide_eq_true h2, cnT (show (p.length : Int) = 5 * (e.length : Int) by omega), Bool.true_and]
          refine .bind (.const fun k => s_l1In.eq k _ _ _) ?_
          by_cases h3 : 0 ≤ c ∧ c ≤ (e.length : Int) - 1
          · simp only [decide_eq_true h3, cn_t, Bool.true_and]
            refine .bind (.const fun k => s_l1In.eq k _ _ _) ?_
            exact .const fun _ _ => by simp [badE]
          · simp only [decide_eq_false h3, cn_f, Bool.false_and]
            exact .const fun _ _ => rfl
        · simp only [decide_eq_false h2, cnF (show ¬ (p.length : Int) = 5 * (e.length : Int) by omega), Bool.false_and]
          exact .const fun _ _ => rfl
    · simp only [decide_eq_false h1, decide_eq_false (show ¬ ((1 : Int) ≤ (e.length : Int) ∧ (e.length : Int) ≤ 4) by omega), cn_f, Bool.false_and]
      exact .const fun _ _ => rfl
  · intro j x l _ hj hx ih
    refine .step ?_ fun k q => s_GoodScrub.l0_s k q _ _ _ _ _ _ _ _ _ _
    simp only [cnT (show (j : Int) < (e.length : Int) by omega), inb_nat hj, gd_t, Int.toNat_natCast, hx, wrap_succ (show j < 9223372036854775807 by omega)]
    refine .bind (.const fun k => s_l1In.eq k _ _ _) ?_
    by_cases h : 0 ≤ x ∧ x ≤ 60000
    · simp only [decide_eq_true h, Bool.not_true, cn_f, badE, List.any_cons, Bool.false_or]
      exact ih
    · simp only [decide_eq_false h, Bool.not_false, cn_t, badE, List.any_cons, Bool.true_or, Bool.not_true, Bool.and_false]
      exact .const fun _ _ => rfl
theorem goodS_parts {p h : List ByteArray} {b : List Bool} {e : List Int} {c m : Int} (g : goodS p h b e c m = true) : (1 ≤ e.length ∧ e.length ≤ 4) ∧ goodD p h b = true ∧ p.length = 5 * e.length ∧ (0 ≤ c ∧ c ≤ (e.length : Int) - 1) ∧ (0 ≤ m ∧ m ≤ 10000) ∧ ∀ x ∈ e, 0 ≤ x ∧ x ≤ 60000 := by
  unfold goodS at g
  simp only [Bool.and_eq_true, decide_eq_true_eq, Bool.not_eq_true'] at g
  obtain ⟨g1, g2, g3, g4, g5, g6⟩ := g
  refine ⟨g1, g2, g3, g4, g5, fun x hx => ?_⟩
  unfold badE at g6
  rw [List.any_eq_false] at g6
  have := g6 x hx
  simpa using this
theorem i_ownScrub.eq (k : Nat) (p h : List ByteArray) (b : List Bool) (e : List Int) (c m : Int) (hp : p.length ≤ 1073741824) (hh : h.length ≤ 1073741824) (hb : b.length ≤ 1073741824) (he : e.length ≤ 1073741824) : i_ownScrub.f k p h b e c m = some (p, h, b, e, c, m) := by
  rw [i_ownScrub.f_eq, i_ownDisk.eq k p h b hp hh hb, b_Clone_int.eq k e he]; rfl
theorem s_l16Own.eq (k : Nat) (p h : List ByteArray) (b : List Bool) (e : List Int) (c m : Int) (hp : p.length ≤ 1073741824) (hh : h.length ≤ 1073741824) (hb : b.length ≤ 1073741824) (he : e.length ≤ 1073741824) : s_l16Own.f k p h b e c m = some (p, h, b, e, c, m) := by
  have e1 : appOk (0 + e.length) (Try.prog.bytesOf (3 : Nat)) = true := appOk_le bytes_int (by omega)
  rw [s_l16Own.f_eq]
  simp only [s_l7Own.eq k p h b hp hh hb, Option.bind_some, e1, gd_t, List.nil_append]
theorem w_szScrub.ev (p h : List ByteArray) (b : List Bool) (e : List Int) (c m : Int) (op : okK (.sl 9 .str) p) (oh : okK (.sl 9 .str) h) (ob : okK (.sl 4 .bool) b) (oe : okK (.sl 3 (.int .i64)) e) (left : Int) (h0 : 0 ≤ left) (h1 : left ≤ 1048576) :
    ∃ r : Int, Ev (fun k => w_szScrub.f k p h b e c m left) r ∧ (r < 0 ∨ (0 ≤ r ∧ r ≤ left ∧ p.length ≤ 1048576 ∧ h.length ≤ 1048576 ∧ b.length ≤ 1048576 ∧ e.length ≤ 1048576)) := by
  obtain ⟨r1, e1, c1⟩ := w_szDisk.ev p h b op oh ob left h0 h1
  rcases c1 with c1 | ⟨a1, a2, a3, a4, a5⟩
  · exact ⟨-1, Ev.congr (Ev.bind e1 (.const fun k => by rw [cnT c1])) (fun k => w_szScrub.f_eq k p h b e c m left), .inl (by omega)⟩
  obtain ⟨r2, e2, c2⟩ := w_szIntS.ev e oe.1 r1 a1 (by omega)
  rcases c2 with c2 | ⟨b1, b2, b3⟩
  · refine ⟨-1, Ev.congr (Ev.bind e1 ?_) (fun k => w_szScrub.f_eq k p h b e c m left), .inl (by omega)⟩
    simp only [cnF (show ¬ r1 < 0 by omega)]
    exact .bind e2 (.const fun k => by rw [cnT c2])
  · refine ⟨r2, Ev.congr (Ev.bind e1 ?_) (fun k => w_szScrub.f_eq k p h b e c m left), .inr ⟨b1, by omega, a3, a4, a5, b3⟩⟩
    simp only [cnF (show ¬ r1 < 0 by omega)]
    exact .bind e2 (.const fun k => by rw [cnF (show ¬ r2 < 0 by omega)])
theorem w_toScrub.ev (p h : List ByteArray) (b : List Bool) (e : List Int) (c m : Int) (hp : p.length ≤ 1048576) (hh : h.length ≤ 1048576) (hb : b.length ≤ 1048576) (he : e.length ≤ 1048576) : Ev (fun k => w_toScrub.f k p h b e c m) (p, h, b, e, c, m) := by
  refine Ev.congr ?_ (fun k => w_toScrub.f_eq k p h b e c m)
  refine Ev.bind (w_toDisk.ev p h b hp hh hb) ?_
  refine Ev.bind (w_toIntS.ev e he) ?_
  exact .const fun k => rfl
theorem w_eqScrub.ev (p h : List ByteArray) (b : List Bool) (e : List Int) (c m : Int) (hp : p.length ≤ maxLen) (hh : h.length ≤ maxLen) (hb : b.length ≤ maxLen) (he : e.length ≤ maxLen) : Ev (fun k => w_eqScrub.f k p h b e c m p h b e c m) true := by
  refine Ev.congr ?_ (fun k => w_eqScrub.f_eq k p h b e c m p h b e c m)
  refine Ev.bind (w_eqDisk.ev p h b hp hh hb) ?_
  simp only [Bool.not_true, cn_f, decide_true]
  refine Ev.bind (w_eqIntS.ev e he) ?_
  exact .const fun k => rfl
theorem w_markScrub.ev (p h : List ByteArray) (b : List Bool) (e : List Int) (c m : Int) (s : Nat) (hs : s + p.length + h.length + b.length + e.length ≤ 140737488355327) : Ev (fun k => w_markScrub.f k p h b e c m (s : Int))
    (((s + p.length + h.length + b.length + e.length : Nat) : Int), mks s p.length, mks (s + p.length) h.length, mbs (s + p.length + h.length) b.length, marks (s + p.length + h.length + b.length) e.length) := by
  refine Ev.congr ?_ (fun k => w_markScrub.f_eq k p h b e c m s)
  refine Ev.bind (w_markDisk.ev2 p h b s (by omega)) ?_
  refine Ev.bind (w_markIntS.ev e (s + p.length + h.length + b.length) (by omega)) ?_
  exact .const fun k => rfl
theorem w_heldScrub.ev (s a b c d : Nat) (cu me : Int) (hs : s + a + b + c + d ≤ 140737488355327) : Ev (fun k => w_heldScrub.f k (mks s a) (mks (s + a) b) (mbs (s + a + b) c) (marks (s + a + b + c) d) cu me (s : Int)) ((s + a + b + c + d : Nat) : Int) := by
  refine Ev.congr ?_ (fun k => w_heldScrub.f_eq k _ _ _ _ cu me s)
  refine Ev.bind (w_heldDisk.ev s a b c (by omega)) ?_
  simp only [cnF (show ¬ ((s + a + b + c : Nat) : Int) < 0 by omega)]
  refine Ev.bind (w_heldIntS.ev (s + a + b + c) d (by omega)) ?_
  exact .const fun k => by rw [cnF (show ¬ ((s + a + b + c + d : Nat) : Int) < 0 by omega)]
/-! ### A sector rots -/
theorem rot_both (mask : ByteArray) (hm : mask.size ≤ 100) (h3 h4 : List ByteArray) (h5 : List Bool) (kind : Int) (at_ : Nat) (kept : List Int) (hat : at_ < h3.length) :
    ∀ (n j : Nat) (h : List Int), j + n = mask.size → mask.size ≤ h.length → ∃ t : List Int, Ev2 (fun k m => s_l7Rot.l0 k m mask (j : Int) h) (strOfNums t) ∧
      Ev2 (fun k m => i_stepped.l2 k m (mask.size : Int) (j : Int) kind (at_ : Int) mask kept h3 h4 h5 h) ((h3.set at_ (strOfNums t), h4, h5), true) := by
  intro n
  induction n with
  | zero =>
    intro j h hj hl
    refine ⟨h, .step ?_ fun k m => s_l7Rot.l0_s k m _ _ _, .step ?_ fun k m => i_stepped.l2_s k m _ _ _ _ _ _ _ _ _ _⟩
    · simp only [cnF (show ¬ (j : Int) < (mask.size : Int) by omega)]
      exact .const fun _ _ => rfl
    · simp only [cnF (show ¬ (j : Int) < (mask.size : Int) by omega), inb_nat hat, gd_t, Int.toNat_natCast]
      exact .const fun _ _ => rfl
  | succ n ih =>
    intro j h hj hl
    obtain ⟨t, e1, e2⟩ := ih (j + 1) (h.set j (IntKind.u8.wrap (↑(BitVec.ofInt (8 : Nat) (getAt (0 : Int) h j) ^^^ BitVec.ofInt (8 : Nat) (↑(mask.data.getD j (0 : UInt8)).toNat : Int)).toNat : Int))) (by omega) (by simpa using hl)
    refine ⟨t, .step ?_ fun k m => s_l7Rot.l0_s k m _ _ _, .step ?_ fun k m => i_stepped.l2_s k m _ _ _ _ _ _ _ _ _ _⟩
    · simp only [cnT (show (j : Int) < (mask.size : Int) by omega), inb_nat (show j < h.length by omega), inb_nat (show j < mask.size by omega), gd_t, Int.toNat_natCast, wrap_succ (show j < 9223372036854775807 by omega)]
      exact e1
    · simp only [cnT (show (j : Int) < (mask.size : Int) by omega), inb_nat (show j < h.length by omega), inb_nat (show j < mask.size by omega), gd_t, Int.toNat_natCast, wrap_succ (show j < 9223372036854775807 by omega)]
      exact e2
theorem isOnly4 (k : Nat) (at_ : Int) (mask : ByteArray) (q : Bool) (h : q = true) : i_isOnly.f k 4 at_ mask [] true q false = some true := by
  subst h
  rw [i_isOnly.f_eq]
  simp only [cn_t, cn_f]
  rfl
theorem cnNo {A : Type} {b : Bool} {x y : A} (h : b = false) : cn b x y = y := by subst h; rfl
theorem cnYes {A : Type} {b : Bool} {x y : A} (h : b = true) : cn b x y = x := by subst h; rfl
theorem bind2 {A C : Type} (d0 : A) (S : Option C) (L : A → Option C) : ((some true).bind fun d2 => cn (!d2) S (L d0)) = (some d0).bind fun d0 => (some true).bind fun d1 => cn (!d1) S (L d0) := rfl
theorem stepped4 (k : Nat) (p h : List ByteArray) (b : List Bool) (at_ : Int) (mask : ByteArray) : i_stepped.f k p h b 4 at_ mask [] =
    (i_ownDisk.f k p h b).bind fun d0 => (i_Disk_has.f k p h b at_).bind fun d1 => cn (!d1) (some (([], [], []), false))
      (i_stepped.l1000014 k 0 p h b 4 at_ mask [] d0.1 d0.2.1 d0.2.2) := by
  rw [i_stepped.f_eq]
  have e : ∀ q : Bool, q = true → i_isOnly.f k 4 at_ mask [] true q false = some true := fun q h => isOnly4 k at_ mask q h
  generalize i_stepped.l1000014 k 0 p h b 4 at_ mask [] = L
  generalize i_Disk_has.f k p h b at_ = H
  generalize i_ownDisk.f k p h b = O
  generalize hI : i_isOnly.f k 4 at_ mask [] = I at e ⊢
  cases O with
  | none => rfl
  | some d0 =>
    cases H with
    | none => rfl
    | some d1 =>
      cases d1 with
      | false => rfl
      | true =>
        have e1 := e (decide ((4 : Int) = 4)) (by decide)
        show (I true (decide ((4 : Int) = 4)) false).bind _ = _
        rw [e1]
        exact bind2 d0 _ (fun d => L d.1 d.2.1 d.2.2)
abbrev ScT : Type := List ByteArray × List ByteArray × List Bool × List Int × Int × Int
theorem bytesL_len (s : ByteArray) : (bytesL s).length = s.size := by simp [bytesL]
theorem bytesEq {a b : ByteArray} (h : a.toList = b.toList) : a = b := byteArray_toList_eq.1 h
theorem rotIn_both (p h : List ByteArray) (b : List Bool) (e : List Int) (c m : Int) (at_ : Int) (mask : ByteArray) (hp : p.length ≤ 1048576) (hh : h.length ≤ 1048576) (hb : b.length ≤ 1048576) (he : e.length ≤ 1048576) (hk : mask.size ≤ 1048576) :
    ∃ r : ScT × Bool, Ev (fun k => i_RotIn.f k p h b e c m at_ mask) r ∧ Ev (fun k => s_RotIn.f k p h b e c m at_ mask) r ∧ r.1.1.length ≤ 100 ∧ r.1.2.1.length ≤ 100 ∧ r.1.2.2.1.length ≤ 100 ∧ r.1.2.2.2.1.length ≤ 100 := by
  have ieq := fun k => i_RotIn.f_eq k p h b e c m at_ mask
  have seq := fun k => s_RotIn.f_eq k p h b e c m at_ mask
  have gi := i_GoodScrub.ev p h b e c m (by omega)
  have gs := s_GoodScrub.ev p h b e c m (by omega)
  have no : Ev (fun k => i_RotIn.f k p h b e c m at_ mask) (([], [], [], [], 0, 0), false) → Ev (fun k => s_RotIn.f k p h b e c m at_ mask) (([], [], [], [], 0, 0), false) →
    ∃ r : ScT × Bool, Ev (fun k => i_RotIn.f k p h b e c m at_ mask) r ∧ Ev (fun k => s_RotIn.f k p h b e c m at_ mask) r ∧ r.1.1.length ≤ 100 ∧ r.1.2.1.length ≤ 100 ∧ r.1.2.2.1.length ≤ 100 ∧ r.1.2.2.2.1.length ≤ 100 :=
    fun h1 h2 => ⟨_, h1, h2, by simp, by simp, by simp, by simp⟩
  cases hg : goodS p h b e c m with
  | false =>
    rw [hg] at gi gs
    exact no (Ev.congr (Ev.bind gi (.const fun _ => rfl)) ieq) (Ev.congr (Ev.bind gs (.const fun _ => rfl)) seq)
  | true =>
    rw [hg] at gi gs
    obtain ⟨g1, g2, g3, _⟩ := goodS_parts hg
    obtain ⟨d1, d2, d3, d4⟩ := goodD_len g2
    by_cases hm : 1 ≤ mask.size ∧ mask.size ≤ 4
    case neg =>
      refine no (Ev.congr (Ev.bind gi ?_) ieq) (Ev.congr (Ev.bind gs ?_) seq)
      · simp only [Bool.not_true, cn_f]
        refine Ev.bind (.const fun k => i_within.eq k _ _ _) ?_
        simp only [decide_eq_false (show ¬ ((1 : Int) ≤ (mask.size : Int) ∧ (mask.size : Int) ≤ 4) by omega)]
        exact .const fun _ => rfl
      · simp only [Bool.not_true, cn_f]
        refine Ev.bind (.const fun k => s_l1In.eq k _ _ _) ?_
        simp only [decide_eq_false (show ¬ ((1 : Int) ≤ (mask.size : Int) ∧ (mask.size : Int) ≤ 4) by omega)]
        exact .const fun _ => rfl
    have f2 : ¬ (4 : Int) = 2 := by decide
    have f3 : ¬ (4 : Int) = 3 := by decide
    have f1 : ¬ (4 : Int) = 1 := by decide
    have f5 : ¬ (4 : Int) = 5 := by decide
    have f6 : ¬ (4 : Int) = 6 := by decide
    have w1 : IntKind.i64.wrap ((p.length : Int) - 1) = (p.length : Int) - 1 := wrap_eq (by omega) (by omega)
    -- both heads
    have iHead : ∀ {r2 : (List ByteArray × List ByteArray × List Bool) × Bool} {r : ScT × Bool}, Ev (fun k => i_stepped.f k p h b 4 at_ mask []) r2 →
        r = (if r2.2 = true then ((r2.1.1, r2.1.2.1, r2.1.2.2, e, c, m), true) else (([], [], [], [], 0, 0), false)) → Ev (fun k => i_RotIn.f k p h b e c m at_ mask) r := fun {r2 r} h1 h2 => by
      subst h2
      refine Ev.congr (Ev.bind gi ?_) ieq
      simp only [Bool.not_true, cn_f]
      refine Ev.bind (.const fun k => i_within.eq k _ _ _) ?_
      simp only [decide_eq_true (show (1 : Int) ≤ (mask.size : Int) ∧ (mask.size : Int) ≤ 4 by omega), Bool.not_true, cn_f]
      have hd : Ev (fun k => i_StepDisk.f k p h b 4 at_ mask []) (if r2.2 = true then r2 else (([], [], []), false)) := by
        refine Ev.congr ?_ fun k => i_StepDisk.f_eq k p h b 4 at_ mask []
        refine Ev.bind (.of 25 fun k hk => i_GoodDisk.eq k hk p h b) ?_
        rw [g2]
        simp only [Bool.not_true, cn_f]
        refine Ev.bind h1 ?_
        cases hr : r2.2 with
        | false => exact .const fun _ => rfl
        | true =>
          simp only [Bool.not_true, cn_f, if_true]
          exact .const fun _ => by rw [← hr]
      refine Ev.bind hd ?_
      cases hr : r2.2 with
      | false => exact .const fun _ => rfl
      | true =>
        simp only [if_true, hr, Bool.not_true, cn_f]
        refine Ev.bind (.const fun k => i_ownScrub.eq k p h b e c m (by omega) (by omega) (by omega) (by omega)) ?_
        exact .const fun _ => rfl
    have sHead : ∀ {r2 : ((Unit × Unit × Unit) × Bool) × List ByteArray × List ByteArray × List Bool} {r : ScT × Bool}, Ev (fun k => s_l7Step.f k p h b 4 at_ mask []) r2 →
        r = (if r2.1.2 = true then ((r2.2.1, r2.2.2.1, r2.2.2.2, e, c, m), true) else (([], [], [], [], 0, 0), false)) → Ev (fun k => s_RotIn.f k p h b e c m at_ mask) r := fun {r2 r} h1 h2 => by
      subst h2
      refine Ev.congr (Ev.bind gs ?_) seq
      simp only [Bool.not_true, cn_f]
      refine Ev.bind (.const fun k => s_l1In.eq k _ _ _) ?_
      simp only [decide_eq_true (show (1 : Int) ≤ (mask.size : Int) ∧ (mask.size : Int) ≤ 4 by omega), Bool.not_true, cn_f]
      refine Ev.bind (.const fun k => s_l16Own.eq k p h b e c m (by omega) (by omega) (by omega) (by omega)) ?_
      refine Ev.bind h1 ?_
      cases hr : r2.1.2 with
      | false => exact .const fun _ => rfl
      | true => exact .const fun _ => rfl
    have iStep : ∀ {r2 : (List ByteArray × List ByteArray × List Bool) × Bool}, (0 ≤ at_ ∧ at_ ≤ (p.length : Int) - 1 → Ev (fun k => i_stepped.l1000014 k 0 p h b 4 at_ mask [] p h b) r2) → (¬ (0 ≤ at_ ∧ at_ ≤ (p.length : Int) - 1) → r2 = (([], [], []), false)) → Ev (fun k => i_stepped.f k p h b 4 at_ mask []) r2 := fun {r2} h1 h2 => by
      refine Ev.congr ?_ fun k => stepped4 k p h b at_ mask
      refine Ev.bind (.const fun k => i_ownDisk.eq k p h b (by omega) (by omega) (by omega)) ?_
      refine Ev.bind (Ev.congr (Ev.bind (.const fun k => i_within.eq k _ _ _) (.const fun _ => rfl)) fun k => i_Disk_has.f_eq k p h b at_) ?_
      by_cases hat : 0 ≤ at_ ∧ at_ ≤ (p.length : Int) - 1
      · exact Ev.congr (h1 hat) fun k => cnNo (by rw [w1, decide_eq_true hat]; rfl)
      · rw [h2 hat]
        exact Ev.congr (.const fun _ => rfl) fun k => cnYes (by rw [w1, decide_eq_false hat]; rfl)
    by_cases hat : 0 ≤ at_ ∧ at_ ≤ (p.length : Int) - 1
    case neg =>
      refine no (iHead (iStep (fun h => absurd h hat) fun _ => rfl) rfl) (sHead (r2 := ((((), (), ()), false), p, h, b)) (Ev.congr ?_ fun k => s_l7Step.f_eq k p h b 4 at_ mask []) rfl)
      simp only [cnF f2, cnF f3]
      refine Ev.bind (d := false) (.const fun k => ?_) (.const fun _ => rfl)
      rw [s_l7There.f_eq]
      by_cases h0 : 0 ≤ at_
      · rw [cnT h0, decide_eq_false (by omega)]
      · rw [cnF h0]
    obtain ⟨j, rfl⟩ : ∃ j : Nat, at_ = (j : Int) := ⟨at_.toNat, by omega⟩
    have hj : j < p.length := by omega
    have th : ∀ k, s_l7There.f k p h b (j : Int) = some true := fun k => by rw [s_l7There.f_eq, cnT (by omega), decide_eq_true (by omega)]
    have sEq : ∀ {r2 : ((Unit × Unit × Unit) × Bool) × List ByteArray × List ByteArray × List Bool}, Ev (fun k => (cn (decide ((getAt ByteArray.empty h j).toList = ByteArray.empty.toList))
          (cn (!decide ((getAt ByteArray.empty p j).toList = ByteArray.empty.toList))
            ((s_l1In.f k (↑mask.size : Int) (1 : Int) (↑(getAt ByteArray.empty p j).size : Int)).bind fun d2 =>
               cn d2 ((s_l7Rot.f k (getAt ByteArray.empty p j) mask).bind fun d3 => some (((((), (), ()), true), p.set j d3, h, b)))
                 (some (((((), (), ()), false), p, h, b))))
            (some (((((), (), ()), false), p, h, b))))
          (some (((((), (), ()), false), p, h, b))))) r2 → Ev (fun k => s_l7Step.f k p h b 4 (j : Int) mask []) r2 := fun {r2} h1 => by
      refine Ev.congr ?_ fun k => s_l7Step.f_eq k p h b 4 (j : Int) mask []
      simp only [cnF f2, cnF f3, th, Option.bind_some, Bool.not_true, cn_f, cnF (show ¬ (0 : Int) < (([] : List Int).length : Int) by decide), cnF f1, cnT rfl, inb_nat (show j < h.length by omega), inb_nat hj, gd_t, Int.toNat_natCast, cnF f5, cnF f6]
      exact h1
    by_cases hh0 : (getAt ByteArray.empty h j).toList = ByteArray.empty.toList
    case neg =>
      refine no (iHead (iStep (r2 := (([], [], []), false)) (fun _ => Ev.congr ?_ fun k => i_stepped.l1000014_s k 0 _ _ _ _ _ _ _ _ _ _) fun h => absurd (by omega) h) rfl) (sHead (sEq (r2 := ((((), (), ()), false), p, h, b)) ?_) rfl)
      · simp only [cnF f1, cnT rfl, inb_nat (show j < h.length by omega), gd_t, Int.toNat_natCast, cnNF hh0]
        exact .const fun _ => rfl
      · simp only [cnF hh0]
        exact .const fun _ => rfl
    by_cases hsz : mask.size ≤ (getAt ByteArray.empty p j).size
    case neg =>
      refine no (iHead (iStep (r2 := (([], [], []), false)) (fun _ => Ev.congr ?_ fun k => i_stepped.l1000014_s k 0 _ _ _ _ _ _ _ _ _ _) fun h => absurd (by omega) h) rfl) (sHead (sEq (r2 := ((((), (), ()), false), p, h, b)) ?_) rfl)
      · simp only [cnF f1, cnT rfl, inb_nat (show j < h.length by omega), inb_nat hj, gd_t, Int.toNat_natCast, cnNT hh0]
        refine Ev.bind (.const fun k => i_within.eq k _ _ _) ?_
        simp only [decide_eq_false (show ¬ ((1 : Int) ≤ (mask.size : Int) ∧ (mask.size : Int) ≤ ((getAt ByteArray.empty p j).size : Int)) by omega)]
        exact .const fun _ => rfl
      · simp only [cnT hh0]
        by_cases hp0 : (getAt ByteArray.empty p j).toList = ByteArray.empty.toList
        · simp only [cnNT hp0]
          exact .const fun _ => rfl
        · simp only [cnNF hp0]
          refine Ev.bind (.const fun k => s_l1In.eq k _ _ _) ?_
          simp only [decide_eq_false (show ¬ ((1 : Int) ≤ (mask.size : Int) ∧ (mask.size : Int) ≤ ((getAt ByteArray.empty p j).size : Int)) by omega)]
          exact .const fun _ => rfl
    have hp28 := ((goodD_iff.1 g2).2 j hj).1
    have hp0 : ¬ (getAt ByteArray.empty p j).toList = ByteArray.empty.toList := fun h => by
      have := bytesEq h
      rw [this] at hsz
      have : ByteArray.empty.size = 0 := rfl
      omega
    have gsz : decide ((getAt ByteArray.empty p j).size ≤ (70368744177664 : Nat)) = true := decide_eq_true (by omega)
    obtain ⟨t, e1, e2⟩ := rot_both mask (by omega) p h b 4 j [] hj mask.size 0 (bytesL (getAt ByteArray.empty p j)) (by omega) (by rw [bytesL_len]; exact hsz)
    refine ⟨((p.set j (strOfNums t), h, b, e, c, m), true), iHead (iStep (r2 := ((p.set j (strOfNums t), h, b), true)) (fun _ => Ev.congr ?_ fun k => i_stepped.l1000014_s k 0 _ _ _ _ _ _ _ _ _ _) fun h => absurd (by omega) h) rfl, sHead (sEq (r2 := ((((), (), ()), true), p.set j (strOfNums t), h, b)) ?_) rfl, by simp; omega, by simp only; omega, by simp only; omega, by simp only; omega⟩
    · simp only [cnF f1, cnT rfl, inb_nat (show j < h.length by omega), inb_nat hj, gd_t, Int.toNat_natCast, cnNT hh0]
      refine Ev.bind (.const fun k => i_within.eq k _ _ _) ?_
      simp only [decide_eq_true (show (1 : Int) ≤ (mask.size : Int) ∧ (mask.size : Int) ≤ ((getAt ByteArray.empty p j).size : Int) by omega), Bool.not_true, cn_f, gsz, gd_t]
      exact e2.diag
    · simp only [cnT hh0, cnNF hp0]
      refine Ev.bind (.const fun k => s_l1In.eq k _ _ _) ?_
      simp only [decide_eq_true (show (1 : Int) ≤ (mask.size : Int) ∧ (mask.size : Int) ≤ ((getAt ByteArray.empty p j).size : Int) by omega), cn_t]
      refine Ev.bind (Ev.congr ?_ fun k => s_l7Rot.f_eq k _ _) (.const fun _ => rfl)
      simp only [gsz, gd_t]
      exact e1.diag
theorem lawRotIn (p h : List ByteArray) (b : List Bool) (e : List Int) (c m : Int) (at_ : Int) (mask : ByteArray) (op : okK (.sl 9 .str) p) (oh : okK (.sl 9 .str) h) (ob : okK (.sl 4 .bool) b) (oe : okK (.sl 3 (.int .i64)) e) (_ : okK (.int .i64) c) (_ : okK (.int .i64) m) (_ : okK (.int .i64) at_) (_ : okK .str mask) : Ev (fun k => w_FnExactRotIn.f k p h b e c m at_ mask) true := by
  have hm := maxLen_eq
  refine Ev.congr ?_ fun k => w_FnExactRotIn.f_eq k p h b e c m at_ mask
  by_cases hbig : (1048576 : Int) < (mask.size : Int)
  · simp only [cnT hbig]
    exact .const fun _ => rfl
  simp only [cnF hbig]
  obtain ⟨d0, e0, c0⟩ := w_szScrub.ev p h b e c m op oh ob oe 1048576 (by omega) (by omega)
  refine Ev.bind e0 ?_
  rcases c0 with c0 | ⟨h0, _, lp, lh, lb, le⟩
  · exact .const fun k => by rw [cnT c0]
  simp only [cnF (show ¬ d0 < 0 by omega)]
  have to := w_toScrub.ev p h b e c m lp lh lb le
  obtain ⟨r, ei, es, rp, rh, rb, re⟩ := rotIn_both p h b e c m at_ mask lp lh lb le (by omega)
  have eqr := w_eqScrub.ev r.1.1 r.1.2.1 r.1.2.2.1 r.1.2.2.2.1 r.1.2.2.2.2.1 r.1.2.2.2.2.2 (by omega) (by omega) (by omega) (by omega)
  have eqx := w_eqScrub.ev p h b e c m (by omega) (by omega) (by omega) (by omega)
  have mkx := w_markScrub.ev p h b e c m 1 (by omega)
  have mk := w_markScrub.ev r.1.1 r.1.2.1 r.1.2.2.1 r.1.2.2.2.1 r.1.2.2.2.2.1 r.1.2.2.2.2.2 1 (by omega)
  have hl := w_heldScrub.ev 1 r.1.1.length r.1.2.1.length r.1.2.2.1.length r.1.2.2.2.1.length r.1.2.2.2.2.1 r.1.2.2.2.2.2 (by omega)
  generalize hS : 1 + r.1.1.length + r.1.2.1.length + r.1.2.2.1.length + r.1.2.2.2.1.length = S at mk hl
  refine Ev.bind to ?_
  refine Ev.bind es ?_
  refine Ev.bind to ?_
  refine Ev.bind ei ?_
  refine Ev.bind eqr ?_
  simp only [Bool.not_true, cn_f, beq_self_eq_true]
  refine Ev.bind to ?_
  refine Ev.bind eqx ?_
  simp only [Bool.not_true, cn_f]
  refine Ev.bind mkx ?_
  simp only [cnF (show ¬ ((1 + p.length + h.length + b.length + e.length : Nat) : Int) < 0 by omega)]
  refine Ev.bind eqr ?_
  simp only [Bool.not_true, cn_f, beq_self_eq_true]
  refine Ev.bind mk ?_
  refine Ev.bind hl ?_
  simp only [cnF (show ¬ (S : Int) < 0 by omega), decide_true, Bool.not_true, cn_f]
  refine Ev.bind to ?_
  refine Ev.bind ei ?_
  refine Ev.bind eqr ?_
  simp only [Bool.not_true, cn_f, beq_self_eq_true]
  refine Ev.bind hl ?_
  exact .const fun _ => by simp only [cnF (show ¬ (S : Int) < 0 by omega), decide_true, Bool.not_true, cn_f]
end Go.Proofs.Ytgnijlfakjjfcaa
