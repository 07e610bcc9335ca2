/- What the functions of the law come to, in numbers, rows and texts alone. No condition. -/
import Derived.Test.YtcddcnnbhbffmaaFGJ
set_option linter.unusedVariables false
set_option linter.unusedSimpArgs false
namespace Go.Proofs.Ytcddcnnbhbffmaa
open Go Go.Proofs.YtcddcnnbhbffmaaE
/-! ### Limits, numbers, rows -/
/-- From some number of rounds on it is r. -/
def Ev {R : Type} (g : Nat → Option R) (r : R) : Prop := ∃ K, ∀ k, K ≤ k → g k = some r
theorem Ev.const {R : Type} {g : Nat → Option R} {r : R} (h : ∀ k, g k = some r) : Ev g r := ⟨0, fun k _ => h k⟩
theorem Ev.of {R : Type} {g : Nat → Option R} {r : R} (K : Nat) (h : ∀ k, K ≤ k → g k = some r) : Ev g r := ⟨K, h⟩
theorem Ev.bind {D R : Type} {f : Nat → Option D} {d : D} {G : Nat → D → Option R} {r : R} (h : Ev f d) (h2 : Ev (fun k => G k d) r) : Ev (fun k => (f k).bind (G k)) r := by
  obtain ⟨K, hK⟩ := h
  obtain ⟨L, hL⟩ := h2
  refine ⟨max K L, fun k hk => ?_⟩
  show (f k).bind (G k) = _
  rw [hK k (by omega)]
  exact hL k (by omega)
theorem Ev.congr {R : Type} {f g : Nat → Option R} {r : R} (h : Ev f r) (e : ∀ k, g k = f k) : Ev g r := by
  obtain ⟨K, hK⟩ := h
  exact ⟨K, fun k hk => by rw [e]; exact hK k hk⟩
theorem cn_t {A : Type} (x y : A) : cn true x y = x := rfl
theorem cn_f {A : Type} (x y : A) : cn false x y = y := rfl
theorem gd_t {A : Type} (x : Option A) : gd true x = x := rfl
theorem cnT {A : Type} {p : Prop} [Decidable p] {x y : A} (h : p) : cn (decide p) x y = x := by rw [decide_eq_true h]; rfl
theorem cnF {A : Type} {p : Prop} [Decidable p] {x y : A} (h : ¬ p) : cn (decide p) x y = y := by rw [decide_eq_false h]; rfl
theorem cnNT {A : Type} {p : Prop} [Decidable p] {x y : A} (h : p) : cn (!decide p) x y = y := by rw [decide_eq_true h]; rfl
theorem cnNF {A : Type} {p : Prop} [Decidable p] {x y : A} (h : ¬ p) : cn (!decide p) x y = x := by rw [decide_eq_false h]; rfl
theorem gdT {A : Type} {p : Prop} [Decidable p] {x : Option A} (h : p) : gd (decide p) x = x := by rw [decide_eq_true h]; rfl
theorem inb_nat {i n : Nat} (h : i < n) : inb (i : Int) n = true := by
  unfold inb
  rw [decide_eq_true (by omega : (0 : Int) ≤ (i : Int)), decide_eq_true (by omega : (i : Int) < (n : Int))]; rfl
theorem wrap_eq {n : Int} (h1 : -9223372036854775808 ≤ n) (h2 : n ≤ 9223372036854775807) : IntKind.i64.wrap n = n := by
  have key : IntKind.i64.wrap n = if n % 18446744073709551616 ≥ 9223372036854775808 then n % 18446744073709551616 - 18446744073709551616 else n % 18446744073709551616 := by
    unfold IntKind.wrap
    simp [IntKind.bits, IntKind.signed]
  rw [key]
  split <;> omega
theorem wrap_succ {n : Nat} (h : n < 9223372036854775807) : IntKind.i64.wrap ((n : Int) + 1) = ((n + 1 : Nat) : Int) := by rw [wrap_eq (by omega) (by omega)]; omega
theorem getAt_lt {A : Type} {d : A} {xs : List A} {i : Nat} (h : i < xs.length) : getAt d xs i = xs[i] := by simp [getAt, h]
theorem maxLen_eq : maxLen = 9223372036854775807 := by decide
/-- A row written over from the front. -/
theorem set_front {A : Type} {d : A} (a h : List A) (j : Nat) (hj : j < a.length) (hl : h.length = a.length) (hh : h.take j = a.take j) : (h.set j (getAt d a j)).take (j + 1) = a.take (j + 1) := by
  rw [getAt_lt hj, List.take_succ_eq_append_getElem hj, List.take_succ_eq_append_getElem (by simp; omega), List.getElem_set_self, List.take_set_of_le (Nat.le_refl j), hh]
def marks (s n : Nat) : List Int := (List.range n).map fun i => ((s + i : Nat) : Int)
theorem w_toStringS.loop (k : Nat) (a : List ByteArray) (ha : a.length ≤ maxLen) : ∀ (n j m : Nat) (h : List ByteArray), j + n = a.length → h.length = a.length → h.take j = a.take j → n < m → w_toStringS.l0 k m a j h = some a := by
  rw [maxLen_eq] at ha
  intro n
  induction n with
  | zero =>
    intro j m h hj hl hh hm
    obtain ⟨m, rfl⟩ : ∃ m', m = m' + 1 := ⟨m - 1, by omega⟩
    rw [w_toStringS.l0_s, cnF (by omega)]
    rw [List.take_of_length_le (by omega), List.take_of_length_le (by omega)] at hh
    rw [hh]
  | succ n ih =>
    intro j m h hj hl hh hm
    obtain ⟨m, rfl⟩ : ∃ m', m = m' + 1 := ⟨m - 1, by omega⟩
    rw [w_toStringS.l0_s, cnT (by omega), inb_nat (by omega), gd_t, inb_nat (by omega), gd_t, wrap_succ (by omega), Int.toNat_natCast]
    exact ih (j + 1) m _ (by omega) (by simpa using hl) (set_front a h j (by omega) hl hh) (by omega)
theorem w_toStringS.ev (a : List ByteArray) (ha : a.length ≤ 1048576) : Ev (fun k => w_toStringS.f k a) a := .of (a.length + 1) fun k hk => by
  show w_toStringS.f k a = _
  rw [w_toStringS.f_eq]
  have h1 : mkOk (↑a.length : Int) (↑a.length : Int) (Try.prog.bytesOf (9 : Nat)) = true := by
    rw [show Try.prog.bytesOf (9 : Nat) = 16 by kernel_rfl]
    unfold mkOk
    simp; omega
  rw [h1, gd_t]
  exact w_toStringS.loop k a (by rw [maxLen_eq]; omega) a.length 0 k _ (by omega) (by simp) (by simp) (by omega)
theorem w_toIntS.loop (k : Nat) (a : List Int) (ha : a.length ≤ maxLen) : ∀ (n j m : Nat) (h : List Int), j + n = a.length → h.length = a.length → h.take j = a.take j → n < m → w_toIntS.l0 k m a j h = some a := by
  rw [maxLen_eq] at ha
  intro n
  induction n with
  | zero =>
    intro j m h hj hl hh hm
    obtain ⟨m, rfl⟩ : ∃ m', m = m' + 1 := ⟨m - 1, by omega⟩
    rw [w_toIntS.l0_s, cnF (by omega)]
    rw [List.take_of_length_le (by omega), List.take_of_length_le (by omega)] at hh
    rw [hh]
  | succ n ih =>
    intro j m h hj hl hh hm
    obtain ⟨m, rfl⟩ : ∃ m', m = m' + 1 := ⟨m - 1, by omega⟩
    rw [w_toIntS.l0_s, cnT (by omega), inb_nat (by omega), gd_t, inb_nat (by omega), gd_t, wrap_succ (by omega), Int.toNat_natCast]
    exact ih (j + 1) m _ (by omega) (by simpa using hl) (set_front a h j (by omega) hl hh) (by omega)
theorem w_toIntS.ev (a : List Int) (ha : a.length ≤ 1048576) : Ev (fun k => w_toIntS.f k a) a := .of (a.length + 1) fun k hk => by
  show w_toIntS.f k a = _
  rw [w_toIntS.f_eq]
  have h1 : mkOk (↑a.length : Int) (↑a.length : Int) (Try.prog.bytesOf (3 : Nat)) = true := by
    rw [show Try.prog.bytesOf (3 : Nat) = 8 by kernel_rfl]
    unfold mkOk
    simp; omega
  rw [h1, gd_t]
  exact w_toIntS.loop k a (by rw [maxLen_eq]; omega) a.length 0 k _ (by omega) (by simp) (by simp) (by omega)
theorem w_toBoolS.loop (k : Nat) (a : List Bool) (ha : a.length ≤ maxLen) : ∀ (n j m : Nat) (h : List Bool), j + n = a.length → h.length = a.length → h.take j = a.take j → n < m → w_toBoolS.l0 k m a j h = some a := by
  rw [maxLen_eq] at ha
  intro n
  induction n with
  | zero =>
    intro j m h hj hl hh hm
    obtain ⟨m, rfl⟩ : ∃ m', m = m' + 1 := ⟨m - 1, by omega⟩
    rw [w_toBoolS.l0_s, cnF (by omega)]
    rw [List.take_of_length_le (by omega), List.take_of_length_le (by omega)] at hh
    rw [hh]
  | succ n ih =>
    intro j m h hj hl hh hm
    obtain ⟨m, rfl⟩ : ∃ m', m = m' + 1 := ⟨m - 1, by omega⟩
    rw [w_toBoolS.l0_s, cnT (by omega), inb_nat (by omega), gd_t, inb_nat (by omega), gd_t, wrap_succ (by omega), Int.toNat_natCast]
    exact ih (j + 1) m _ (by omega) (by simpa using hl) (set_front a h j (by omega) hl hh) (by omega)
theorem w_toBoolS.ev (a : List Bool) (ha : a.length ≤ 1048576) : Ev (fun k => w_toBoolS.f k a) a := .of (a.length + 1) fun k hk => by
  show w_toBoolS.f k a = _
  rw [w_toBoolS.f_eq]
  have h1 : mkOk (↑a.length : Int) (↑a.length : Int) (Try.prog.bytesOf (4 : Nat)) = true := by
    rw [show Try.prog.bytesOf (4 : Nat) = 1 by kernel_rfl]
    unfold mkOk
    simp; omega
  rw [h1, gd_t]
  exact w_toBoolS.loop k a (by rw [maxLen_eq]; omega) a.length 0 k _ (by omega) (by simp) (by simp) (by omega)
theorem w_eqStringS.loop (k : Nat) (a : List ByteArray) (ha : a.length ≤ maxLen) : ∀ (n j m : Nat), j + n = a.length → n < m → w_eqStringS.l0 k m a a j = some true := by
  rw [maxLen_eq] at ha
  intro n
  induction n with
  | zero =>
    intro j m hj hm
    obtain ⟨m, rfl⟩ : ∃ m', m = m' + 1 := ⟨m - 1, by omega⟩
    rw [w_eqStringS.l0_s, cnF (by omega)]
  | succ n ih =>
    intro j m hj hm
    obtain ⟨m, rfl⟩ : ∃ m', m = m' + 1 := ⟨m - 1, by omega⟩
    rw [w_eqStringS.l0_s, cnT (by omega), inb_nat (by omega), gd_t, gd_t, cnNT rfl, wrap_succ (by omega)]
    exact ih (j + 1) m (by omega) (by omega)
theorem w_eqStringS.ev (a : List ByteArray) (ha : a.length ≤ maxLen) : Ev (fun k => w_eqStringS.f k a a) true := .of (a.length + 1) fun k hk => by
  show w_eqStringS.f k a a = _
  rw [w_eqStringS.f_eq, cnNT rfl]
  exact w_eqStringS.loop k a ha a.length 0 k (by omega) (by omega)
theorem w_eqIntS.loop (k : Nat) (a : List Int) (ha : a.length ≤ maxLen) : ∀ (n j m : Nat), j + n = a.length → n < m → w_eqIntS.l0 k m a a j = some true := by
  rw [maxLen_eq] at ha
  intro n
  induction n with
  | zero =>
    intro j m hj hm
    obtain ⟨m, rfl⟩ : ∃ m', m = m' + 1 := ⟨m - 1, by omega⟩
    rw [w_eqIntS.l0_s, cnF (by omega)]
  | succ n ih =>
    intro j m hj hm
    obtain ⟨m, rfl⟩ : ∃ m', m = m' + 1 := ⟨m - 1, by omega⟩
    rw [w_eqIntS.l0_s, cnT (by omega), inb_nat (by omega), gd_t, gd_t, cnNT rfl, wrap_succ (by omega)]
    exact ih (j + 1) m (by omega) (by omega)
theorem w_eqIntS.ev (a : List Int) (ha : a.length ≤ maxLen) : Ev (fun k => w_eqIntS.f k a a) true := .of (a.length + 1) fun k hk => by
  show w_eqIntS.f k a a = _
  rw [w_eqIntS.f_eq, cnNT rfl]
  exact w_eqIntS.loop k a ha a.length 0 k (by omega) (by omega)
theorem w_eqBoolS.loop (k : Nat) (a : List Bool) (ha : a.length ≤ maxLen) : ∀ (n j m : Nat), j + n = a.length → n < m → w_eqBoolS.l0 k m a a j = some true := by
  rw [maxLen_eq] at ha
  intro n
  induction n with
  | zero =>
    intro j m hj hm
    obtain ⟨m, rfl⟩ : ∃ m', m = m' + 1 := ⟨m - 1, by omega⟩
    rw [w_eqBoolS.l0_s, cnF (by omega)]
  | succ n ih =>
    intro j m hj hm
    obtain ⟨m, rfl⟩ : ∃ m', m = m' + 1 := ⟨m - 1, by omega⟩
    rw [w_eqBoolS.l0_s, cnT (by omega), inb_nat (by omega), gd_t, gd_t]
    simp only [beq_self_eq_true, Bool.not_true, cn_f]
    rw [wrap_succ (by omega)]
    exact ih (j + 1) m (by omega) (by omega)
theorem w_eqBoolS.ev (a : List Bool) (ha : a.length ≤ maxLen) : Ev (fun k => w_eqBoolS.f k a a) true := .of (a.length + 1) fun k hk => by
  show w_eqBoolS.f k a a = _
  rw [w_eqBoolS.f_eq, cnNT rfl]
  exact w_eqBoolS.loop k a ha a.length 0 k (by omega) (by omega)
theorem w_szStringS.loop (a : List ByteArray) (ha : a.length ≤ maxLen) (hs : ∀ i, ∀ h : i < a.length, a[i].size ≤ maxLen) : ∀ (n j : Nat) (left : Int), j + n = a.length → 0 ≤ left → left ≤ 1048576 →
    ∃ r : Int, (∀ k m, n < m → w_szStringS.l0 k m a left j = some r) ∧ (r < 0 ∨ (0 ≤ r ∧ r ≤ left ∧ ∀ i, ∀ h : i < a.length, j ≤ i → a[i].size ≤ 1048576)) := by
  rw [maxLen_eq] at ha hs
  intro n
  induction n with
  | zero =>
    intro j left hj h0 h1
    refine ⟨left, fun k m hm => ?_, .inr ⟨h0, Int.le_refl _, fun i h hi => by omega⟩⟩
    obtain ⟨m, rfl⟩ : ∃ m', m = m' + 1 := ⟨m - 1, by omega⟩
    rw [w_szStringS.l0_s, cnF (by omega)]
  | succ n ih =>
    intro j left hj h0 h1
    have hjl : j < a.length := by omega
    have hsz := hs j hjl
    have e : IntKind.i64.wrap (left - (↑(getAt ByteArray.empty a (j : Int).toNat).size : Int)) = left - (a[j].size : Int) := by
      rw [Int.toNat_natCast, getAt_lt hjl, wrap_eq (by omega) (by omega)]
    by_cases hneg : left - (a[j].size : Int) < 0
    · refine ⟨-1, fun k m hm => ?_, .inl (by omega)⟩
      obtain ⟨m, rfl⟩ : ∃ m', m = m' + 1 := ⟨m - 1, by omega⟩
      rw [w_szStringS.l0_s, cnT (by omega), inb_nat hjl, gd_t, e, cnT hneg]
    · obtain ⟨r, hr, hr2⟩ := ih (j + 1) (left - (a[j].size : Int)) (by omega) (by omega) (by omega)
      refine ⟨r, fun k m hm => ?_, hr2.imp id fun ⟨p, q, s⟩ => ⟨p, by omega, fun i h hi => ?_⟩⟩
      · obtain ⟨m, rfl⟩ : ∃ m', m = m' + 1 := ⟨m - 1, by omega⟩
        rw [w_szStringS.l0_s, cnT (by omega), inb_nat hjl, gd_t, e, cnF hneg, wrap_succ (by omega)]
        exact hr k m (by omega)
      · rcases Nat.lt_or_ge i (j + 1) with h2 | h2
        · obtain rfl : i = j := by omega
          omega
        · exact s i h h2
theorem w_szStringS.ev (a : List ByteArray) (ha : a.length ≤ maxLen) (hs : ∀ i, ∀ h : i < a.length, a[i].size ≤ maxLen) (left : Int) (h0 : 0 ≤ left) (h1 : left ≤ 1048576) :
    ∃ r : Int, Ev (fun k => w_szStringS.f k a left) r ∧ (r < 0 ∨ (0 ≤ r ∧ r ≤ left ∧ a.length ≤ 1048576 ∧ ∀ i, ∀ h : i < a.length, a[i].size ≤ 1048576)) := by
  have ha' := ha
  rw [maxLen_eq] at ha'
  have e : IntKind.i64.wrap (left - (↑a.length : Int)) = left - (a.length : Int) := wrap_eq (by omega) (by omega)
  by_cases hneg : left - (a.length : Int) < 0
  · refine ⟨-1, .const fun k => ?_, .inl (by omega)⟩
    rw [w_szStringS.f_eq, e, cnT hneg]
  · obtain ⟨r, hr, hr2⟩ := w_szStringS.loop a ha hs a.length 0 (left - (a.length : Int)) (by omega) (by omega) (by omega)
    refine ⟨r, .of (a.length + 1) fun k hk => ?_, hr2.imp id fun ⟨p, q, s⟩ => ⟨p, by omega, by omega, fun i h => s i h (Nat.zero_le _)⟩⟩
    show w_szStringS.f k a left = _
    rw [w_szStringS.f_eq, e, cnF hneg]
    exact hr k k (by omega)
theorem w_szBoolS.ev (a : List Bool) (ha : a.length ≤ maxLen) (left : Int) (h0 : 0 ≤ left) (h1 : left ≤ 1048576) :
    ∃ r : Int, Ev (fun k => w_szBoolS.f k a left) r ∧ (r < 0 ∨ (0 ≤ r ∧ r ≤ left ∧ a.length ≤ 1048576)) := by
  rw [maxLen_eq] at ha
  have e : IntKind.i64.wrap (left - (↑a.length : Int)) = left - (a.length : Int) := wrap_eq (by omega) (by omega)
  by_cases hneg : left - (a.length : Int) < 0
  · refine ⟨-1, .const fun k => ?_, .inl (by omega)⟩
    rw [w_szBoolS.f_eq, e, cnT hneg]
  · refine ⟨left - (a.length : Int), .const fun k => ?_, .inr ⟨by omega, by omega, by omega⟩⟩
    rw [w_szBoolS.f_eq, e, cnF hneg]
theorem bytes_get (s : ByteArray) (n : Nat) : getAt (0 : Int) (bytesL s) n = ((s.data.getD n 0).toNat : Int) := by
  unfold getAt bytesL
  rw [List.getD_eq_getElem?_getD, List.getElem?_map, Array.getElem?_toList, Array.getD_eq_getD_getElem?]
  cases s.data[n]? <;> rfl
theorem byte_lt (b : UInt8) : b.toNat < 256 := b.toNat_lt
/-- One byte more. -/
theorem step_zero (b : Int) (h0 : 0 ≤ b) (h1 : b < 256) : IntKind.i64.wrap (↑(BitVec.ofInt 64 (IntKind.i64.wrap ((0 : Int) * (2 : Int) ^ 8)) ||| BitVec.ofInt 64 (IntKind.i64.wrap b)).toNat : Int) = b := by
  have e : IntKind.i64.wrap ((0 : Int) * (2 : Int) ^ 8) = 0 := wrap_eq (by decide) (by decide)
  rw [e, wrap_eq (n := b) (by omega) (by omega)]
  have e2 : (BitVec.ofInt 64 0 ||| BitVec.ofInt 64 b) = BitVec.ofInt 64 b := by
    rw [show BitVec.ofInt 64 0 = 0#64 by decide]; simp
  have p64 : ((2 ^ 64 : Nat) : Int) = 18446744073709551616 := by decide
  rw [e2, BitVec.toNat_ofInt, p64, Int.emod_eq_of_lt h0 (by omega), wrap_eq (by omega) (by omega)]
  omega
theorem s_l6Value.two (t : ByteArray) (h : t.size = 2) (k : Nat) (hk : 3 ≤ k) : s_l6Value.f k t = some (sfVal (bytesL t) 0) := by
  obtain ⟨k3, e⟩ : ∃ k3, k = k3 + 3 := ⟨k - 3, by omega⟩
  rw [s_l6Value.f_eq]
  generalize hm : k = m
  have hm3 : m = k3 + 1 + 1 + 1 := by omega
  rw [hm3, s_l6Value.l0_s, cnT (by omega), show inb (0 : Int) t.size = true from inb_nat (i := 0) (by omega), gd_t]
  have b0 := byte_lt (t.data.getD 0 0)
  have b1 := byte_lt (t.data.getD 1 0)
  rw [show IntKind.i64.wrap ((0 : Int) + 1) = ((1 : Nat) : Int) from wrap_succ (n := 0) (by omega), show (0 : Int).toNat = 0 from rfl, step_zero _ (by omega) (by omega)]
  rw [s_l6Value.l0_s, cnT (by omega), inb_nat (i := 1) (by omega), gd_t, wrap_succ (n := 1) (by omega), s_l6Value.l0_s, cnF (by omega)]
  unfold sfVal
  rw [bytes_get, bytes_get, show 2 * 0 + 0 = 0 from rfl, show 2 * 0 + 1 = 1 from rfl, wrap_eq (n := ((t.data.getD 0 0).toNat : Int)) (by omega) (by omega)]
  rfl
theorem ext_get (s : ByteArray) (a j : Nat) (h : a + 2 ≤ s.size) (hj : j < 2) : (s.extract a (a + 2)).data.getD j 0 = s.data.getD (a + j) 0 := by
  have hs : s.data.size = s.size := rfl
  rw [ByteArray.data_extract, Array.getD_eq_getD_getElem?, Array.getD_eq_getD_getElem?, Array.getElem?_extract]
  rw [if_pos (by omega)]
theorem sfVal_ext (s : ByteArray) (i : Nat) (h : 2 * i + 2 ≤ s.size) : sfVal (bytesL (s.extract (2 * i) (2 * i + 2))) 0 = sfVal (bytesL s) i := by
  unfold sfVal
  rw [bytes_get, bytes_get, bytes_get, bytes_get, show 2 * 0 + 0 = 0 from rfl, show 2 * 0 + 1 = 1 from rfl, ext_get s (2 * i) 0 h (by omega), ext_get s (2 * i) 1 h (by omega)]
theorem s_StateFrom.loop (s : ByteArray) (hs : s.size = 12) (k : Nat) (hk : 3 ≤ k) : ∀ (n j m : Nat), j + n = 6 → n < m → s_StateFrom.l0 k m s j ((List.range j).map (sfVal (bytesL s))) = some ((List.range 6).map (sfVal (bytesL s)), true) := by
  intro n
  induction n with
  | zero =>
    intro j m hj hm
    obtain ⟨m, rfl⟩ : ∃ m', m = m' + 1 := ⟨m - 1, by omega⟩
    rw [s_StateFrom.l0_s, cnF (by omega), show j = 6 by omega]
  | succ n ih =>
    intro j m hj hm
    obtain ⟨m, rfl⟩ : ∃ m', m = m' + 1 := ⟨m - 1, by omega⟩
    have e1 : IntKind.i64.wrap ((2 : Int) * (j : Int)) = ((2 * j : Nat) : Int) := by rw [wrap_eq (by omega) (by omega)]; omega
    have e2 : IntKind.i64.wrap (((2 * j : Nat) : Int) + 2) = ((2 * j + 2 : Nat) : Int) := by rw [wrap_eq (by omega) (by omega)]; omega
    rw [s_StateFrom.l0_s, cnT (by omega), e1, e2, decide_eq_true (by omega : (0 : Int) ≤ ((2 * j : Nat) : Int)), decide_eq_true (by omega : ((2 * j : Nat) : Int) ≤ ((2 * j + 2 : Nat) : Int)), decide_eq_true (by omega : ((2 * j + 2 : Nat) : Int) ≤ (s.size : Int))]
    rw [show (true && (true && true)) = true from rfl, gd_t, Int.toNat_natCast, Int.toNat_natCast, s_l6Value.two _ (by rw [ByteArray.size_extract]; omega) k hk, Option.bind_some]
    have e3 : appOk (((List.range j).map (sfVal (bytesL s))).length + [sfVal (bytesL (s.extract (2 * j) (2 * j + 2))) 0].length) (Try.prog.bytesOf (3 : Nat)) = true := by
      rw [show Try.prog.bytesOf (3 : Nat) = 8 by kernel_rfl]
      simp [appOk]; omega
    rw [e3, gd_t, wrap_succ (by omega), sfVal_ext s j (by omega)]
    have := ih (j + 1) m (by omega) (by omega)
    rw [List.range_succ, List.map_append] at this
    exact this
theorem s_StateFrom.eq (l : List ByteArray) (k : Nat) (hk : 7 ≤ k) : s_StateFrom.f k l = sfF l := by
  rw [s_StateFrom.f_eq]
  unfold sfF
  cases h1 : decide ((l.length : Int) = 2) with
  | false => rfl
  | true =>
    have h1' := of_decide_eq_true h1
    rw [show inb (0 : Int) l.length = true from inb_nat (i := 0) (by omega), show inb (1 : Int) l.length = true from inb_nat (i := 1) (by omega)]
    simp only [gd_t, Bool.not_true, cn_f]
    cases h2 : decide (((getAt ByteArray.empty l 0).size : Int) = 6) with
    | false => rfl
    | true =>
      cases h3 : decide (((getAt ByteArray.empty l 1).size : Int) = 6) with
      | false => rfl
      | true =>
        have h2' := of_decide_eq_true h2
        have h3' := of_decide_eq_true h3
        simp only [Bool.not_true, cn_f, beq_self_eq_true]
        rw [gdT (by omega)]
        exact s_StateFrom.loop _ (by rw [ByteArray.size_append]; omega) k (by omega) 6 0 k (by omega) (by omega)
theorem sfF_some (l : List ByteArray) : ∃ d, sfF l = some d ∧ d.1.length ≤ 6 := by
  unfold sfF
  cases h1 : decide ((l.length : Int) = 2) with
  | false => exact ⟨_, rfl, by simp⟩
  | true =>
    have h1' := of_decide_eq_true h1
    rw [show inb (0 : Int) l.length = true from inb_nat (i := 0) (by omega), show inb (1 : Int) l.length = true from inb_nat (i := 1) (by omega)]
    simp only [gd_t, Bool.not_true, cn_f]
    cases h2 : decide (((getAt ByteArray.empty l 0).size : Int) = 6) with
    | false => exact ⟨_, rfl, by simp⟩
    | true =>
      cases h3 : decide (((getAt ByteArray.empty l 1).size : Int) = 6) with
      | false => exact ⟨_, rfl, by simp⟩
      | true => exact ⟨_, rfl, by simp⟩
theorem w_szDisk.ev (p h : List ByteArray) (b : List Bool) (op : okK (.sl 9 .str) p) (oh : okK (.sl 9 .str) h) (ob : okK (.sl 4 .bool) b) (left : Int) (h0 : 0 ≤ left) (h1 : left ≤ 1048576) :
    ∃ r : Int, Ev (fun k => w_szDisk.f k p h b left) r ∧ (r < 0 ∨ (0 ≤ r ∧ r ≤ left ∧ p.length ≤ 1048576 ∧ h.length ≤ 1048576 ∧ b.length ≤ 1048576)) := by
  obtain ⟨r1, e1, c1⟩ := w_szStringS.ev p op.1 op.2 left h0 h1
  rcases c1 with c1 | ⟨a1, a2, a3, _⟩
  · refine ⟨-1, Ev.congr (Ev.bind e1 ?_) (fun k => w_szDisk.f_eq k p h b left), .inl (by omega)⟩
    exact .const fun k => by rw [cnT c1]
  obtain ⟨r2, e2, c2⟩ := w_szStringS.ev h oh.1 oh.2 r1 a1 (by omega)
  rcases c2 with c2 | ⟨b1, b2, b3, _⟩
  · refine ⟨-1, Ev.congr (Ev.bind e1 ?_) (fun k => w_szDisk.f_eq k p h b left), .inl (by omega)⟩
    simp only [cnF (show ¬ r1 < 0 by omega)]
    exact .bind e2 (.const fun k => by rw [cnT c2])
  obtain ⟨r3, e3, c3⟩ := w_szBoolS.ev b ob.1 r2 b1 (by omega)
  rcases c3 with c3 | ⟨d1, d2, d3⟩
  · refine ⟨-1, Ev.congr (Ev.bind e1 ?_) (fun k => w_szDisk.f_eq k p h b left), .inl (by omega)⟩
    simp only [cnF (show ¬ r1 < 0 by omega)]
    refine .bind e2 ?_
    simp only [cnF (show ¬ r2 < 0 by omega)]
    exact .bind e3 (.const fun k => by rw [cnT c3])
  · refine ⟨r3, Ev.congr (Ev.bind e1 ?_) (fun k => w_szDisk.f_eq k p h b left), .inr ⟨d1, by omega, a3, b3, d3⟩⟩
    simp only [cnF (show ¬ r1 < 0 by omega)]
    refine .bind e2 ?_
    simp only [cnF (show ¬ r2 < 0 by omega)]
    exact .bind e3 (.const fun k => by rw [cnF (show ¬ r3 < 0 by omega)])
theorem w_toDisk.ev (p h : List ByteArray) (b : List Bool) (hp : p.length ≤ 1048576) (hh : h.length ≤ 1048576) (hb : b.length ≤ 1048576) : Ev (fun k => w_toDisk.f k p h b) (p, h, b) :=
  Ev.congr (by
    refine Ev.bind (w_toStringS.ev p hp) ?_
    refine Ev.bind (w_toStringS.ev h hh) ?_
    refine Ev.bind (w_toBoolS.ev b hb) ?_
    exact .const fun k => rfl) (fun k => w_toDisk.f_eq k p h b)
theorem w_eqDisk.ev (p h : List ByteArray) (b : List Bool) (hp : p.length ≤ maxLen) (hh : h.length ≤ maxLen) (hb : b.length ≤ maxLen) : Ev (fun k => w_eqDisk.f k p h b p h b) true := by
  refine Ev.congr (Ev.bind (w_eqStringS.ev p hp) ?_) (fun k => w_eqDisk.f_eq k p h b p h b)
  simp only [Bool.not_true, cn_f]
  refine Ev.bind (w_eqStringS.ev h hh) ?_
  simp only [Bool.not_true, cn_f]
  refine Ev.bind (w_eqBoolS.ev b hb) ?_
  exact .const fun k => rfl
/-- What GoodDisk says of the sectors from j on. -/
def gdAll (p h : List ByteArray) (b : List Bool) : Nat → Nat → Bool
  | 0, _ => true
  | r + 1, j => if (28 : Int) < ((getAt ByteArray.empty p j).size : Int) then false else if (28 : Int) < ((getAt ByteArray.empty h j).size : Int) then false
    else if getAt false b j = true then (if (getAt ByteArray.empty h j).toList = ByteArray.empty.toList then gdAll p h b r (j + 1) else false) else gdAll p h b r (j + 1)
theorem gdAll_s (p h : List ByteArray) (b : List Bool) (r j : Nat) : gdAll p h b (r + 1) j = (if (28 : Int) < ((getAt ByteArray.empty p j).size : Int) then false else if (28 : Int) < ((getAt ByteArray.empty h j).size : Int) then false
    else if getAt false b j = true then (if (getAt ByteArray.empty h j).toList = ByteArray.empty.toList then gdAll p h b r (j + 1) else false) else gdAll p h b r (j + 1)) := rfl
def goodD (p h : List ByteArray) (b : List Bool) : Bool := decide (1 ≤ p.length ∧ p.length ≤ 24 ∧ h.length = p.length ∧ b.length = p.length) && gdAll p h b p.length 0
theorem goodD_no {p h : List ByteArray} {b : List Bool} (g : ¬ (1 ≤ p.length ∧ p.length ≤ 24 ∧ h.length = p.length ∧ b.length = p.length)) : goodD p h b = false := by
  unfold goodD
  rw [decide_eq_false g]; rfl
theorem goodD_yes {p h : List ByteArray} {b : List Bool} (g : 1 ≤ p.length ∧ p.length ≤ 24 ∧ h.length = p.length ∧ b.length = p.length) : goodD p h b = gdAll p h b p.length 0 := by
  unfold goodD
  rw [decide_eq_true g]; rfl
theorem goodD_len {p h : List ByteArray} {b : List Bool} (g : goodD p h b = true) : 1 ≤ p.length ∧ p.length ≤ 24 ∧ h.length = p.length ∧ b.length = p.length := by
  unfold goodD at g
  simp only [Bool.and_eq_true, decide_eq_true_eq] at g
  exact g.1
theorem i_GoodDisk.loop (k : Nat) (p h : List ByteArray) (b : List Bool) (hp : p.length ≤ 24) (hh : h.length = p.length) (hb : b.length = p.length) : ∀ (n j m : Nat), j + n = p.length → n < m → i_GoodDisk.l0 k m p (p.length : Int) (j : Int) p h b = some (gdAll p h b n j) := by
  intro n
  induction n with
  | zero =>
    intro j m hj hm
    obtain ⟨m, rfl⟩ : ∃ m', m = m' + 1 := ⟨m - 1, by omega⟩
    rw [i_GoodDisk.l0_s, cnF (by omega)]; rfl
  | succ n ih =>
    intro j m hj hm
    obtain ⟨m, rfl⟩ : ∃ m', m = m' + 1 := ⟨m - 1, by omega⟩
    have := ih (j + 1) m (by omega) (by omega)
    rw [i_GoodDisk.l0_s, cnT (by omega), inb_nat (by omega), gd_t, inb_nat (by omega), gd_t, inb_nat (by omega), gd_t, gd_t, Int.toNat_natCast, wrap_succ (by omega), this]
    rw [gdAll_s]
    by_cases c1 : (28 : Int) < ((getAt ByteArray.empty p j).size : Int)
    · rw [cnT c1, if_pos c1]
    rw [cnF c1, if_neg c1]
    by_cases c2 : (28 : Int) < ((getAt ByteArray.empty h j).size : Int)
    · rw [cnT c2, if_pos c2]
    rw [cnF c2, if_neg c2]
    cases c3 : getAt false b j with
    | false => rw [cn_f, if_neg (by simp)]
    | true =>
      rw [cn_t, if_pos rfl]
      by_cases c4 : (getAt ByteArray.empty h j).toList = ByteArray.empty.toList
      · rw [cnNT c4, if_pos c4]
      · rw [cnNF c4, if_neg c4]
theorem i_GoodDisk.eq (k : Nat) (hk : 25 ≤ k) (p h : List ByteArray) (b : List Bool) : i_GoodDisk.f k p h b = some (goodD p h b) := by
  rw [i_GoodDisk.f_eq, i_within.f_eq]
  by_cases c1 : (1 : Int) ≤ (p.length : Int)
  case neg =>
    rw [cnF c1, goodD_no (by omega)]; rfl
  rw [cnT c1, Option.bind_some]
  by_cases c2 : (p.length : Int) ≤ 24
  case neg =>
    rw [decide_eq_false c2, goodD_no (by omega)]; rfl
  rw [decide_eq_true c2]
  simp only [Bool.not_true, cn_f]
  by_cases c3 : (h.length : Int) = (p.length : Int)
  case neg =>
    rw [cnNF c3, goodD_no (by omega)]
  rw [cnNT c3]
  by_cases c4 : (b.length : Int) = (p.length : Int)
  case neg =>
    rw [cnNF c4, goodD_no (by omega)]
  rw [cnNT c4, goodD_yes (by omega)]
  exact i_GoodDisk.loop k p h b (by omega) (by omega) (by omega) p.length 0 k (by omega) (by omega)
theorem s_GoodDisk.loop (k : Nat) (p h : List ByteArray) (b : List Bool) (hp : p.length ≤ 24) (hh : h.length = p.length) (hb : b.length = p.length) : ∀ (n j m : Nat), j + n = p.length → n < m → s_GoodDisk.l0 k m (p.length : Int) (j : Int) p h b = some (gdAll p h b n j) := by
  intro n
  induction n with
  | zero =>
    intro j m hj hm
    obtain ⟨m, rfl⟩ : ∃ m', m = m' + 1 := ⟨m - 1, by omega⟩
    rw [s_GoodDisk.l0_s, cnF (by omega)]; rfl
  | succ n ih =>
    intro j m hj hm
    obtain ⟨m, rfl⟩ : ∃ m', m = m' + 1 := ⟨m - 1, by omega⟩
    have := ih (j + 1) m (by omega) (by omega)
    rw [s_GoodDisk.l0_s, cnT (by omega), inb_nat (by omega), gd_t, inb_nat (by omega), gd_t, inb_nat (by omega), gd_t, gd_t, Int.toNat_natCast, wrap_succ (by omega), this]
    rw [gdAll_s]
    by_cases c1 : (28 : Int) < ((getAt ByteArray.empty p j).size : Int)
    · rw [cnT c1, if_pos c1]
    rw [cnF c1, if_neg c1]
    by_cases c2 : (28 : Int) < ((getAt ByteArray.empty h j).size : Int)
    · rw [cnT c2, if_pos c2]
    rw [cnF c2, if_neg c2]
    cases c3 : getAt false b j with
    | false => rw [cn_f, if_neg (by simp)]
    | true =>
      rw [cn_t, if_pos rfl]
      by_cases c4 : (getAt ByteArray.empty h j).toList = ByteArray.empty.toList
      · rw [cnNT c4, if_pos c4]
      · rw [cnNF c4, if_neg c4]
theorem s_GoodDisk.eq (k : Nat) (hk : 25 ≤ k) (p h : List ByteArray) (b : List Bool) : s_GoodDisk.f k p h b = some (goodD p h b) := by
  rw [s_GoodDisk.f_eq, s_l1In.f_eq]
  by_cases c1 : (1 : Int) ≤ (p.length : Int)
  case neg =>
    rw [cnF c1, goodD_no (by omega)]; rfl
  rw [cnT c1, Option.bind_some]
  by_cases c2 : (p.length : Int) ≤ 24
  case neg =>
    rw [decide_eq_false c2, goodD_no (by omega)]; rfl
  rw [decide_eq_true c2]
  simp only [Bool.not_true, cn_f]
  by_cases c3 : (h.length : Int) = (p.length : Int)
  case neg =>
    rw [cnNF c3, goodD_no (by omega)]
  rw [cnNT c3]
  by_cases c4 : (b.length : Int) = (p.length : Int)
  case neg =>
    rw [cnNF c4, goodD_no (by omega)]
  rw [cnNT c4, goodD_yes (by omega)]
  exact s_GoodDisk.loop k p h b (by omega) (by omega) (by omega) p.length 0 k (by omega) (by omega)
/-- What is read at a sector. -/
theorem s_l7Read.at (p h : List ByteArray) (b : List Bool) (hh : h.length = p.length) (hb : b.length = p.length) (j : Nat) (hj : j < p.length) : ∃ r : ByteArray × Bool, (∀ k, s_l7Read.f k p h b (j : Int) = some r) ∧ (r.2 = false → r.1 = ByteArray.empty) := by
  have i1 : inb (j : Int) b.length = true := inb_nat (by omega)
  have i2 : inb (j : Int) h.length = true := inb_nat (by omega)
  have i3 : inb (j : Int) p.length = true := inb_nat (by omega)
  cases c1 : getAt false b j with
  | true => exact ⟨(ByteArray.empty, false), fun k => by rw [s_l7Read.f_eq, i1, gd_t, Int.toNat_natCast, c1]; rfl, fun _ => rfl⟩
  | false =>
    by_cases c2 : (getAt ByteArray.empty h j).toList = ByteArray.empty.toList
    · exact ⟨(getAt ByteArray.empty p j, true), fun k => by rw [s_l7Read.f_eq, i1, gd_t, Int.toNat_natCast, c1, cn_f, i2, gd_t, cnNT c2, i3, gd_t], fun h => by cases h⟩
    · exact ⟨(getAt ByteArray.empty h j, true), fun k => by rw [s_l7Read.f_eq, i1, gd_t, Int.toNat_natCast, c1, cn_f, i2, gd_t, cnNF c2, gd_t], fun h => by cases h⟩
theorem i_ReadSector.eq (p h : List ByteArray) (b : List Bool) (g : goodD p h b = true) (j : Nat) (hj : j < p.length) (k : Nat) (hk : 25 ≤ k) : i_ReadSector.f k p h b (j : Int) = s_l7Read.f k p h b (j : Int) := by
  obtain ⟨g1, g2, g3, g4⟩ := goodD_len g
  rw [i_ReadSector.f_eq, i_GoodDisk.eq k hk, g, s_l7Read.f_eq, i_Disk_has.f_eq, i_within.f_eq, cnT (by omega), wrap_eq (by omega) (by omega)]
  simp only [Option.bind_some, Bool.not_true, cn_f]
  rw [decide_eq_true (by omega)]
  simp only [Bool.not_true, cn_f]
/-- One byte shifted through, n bits of it. -/
def crcN : Nat → Int → Int
  | 0, x => x
  | n + 1, x => crcN n (cn (decide (IntKind.i64.wrap (↑(BitVec.ofInt (64 : Nat) x &&& BitVec.ofInt (64 : Nat) (1 : Int)).toNat : Int) = (1 : Int))) (IntKind.i64.wrap (↑(BitVec.ofInt (64 : Nat) (x.fdiv ((2 : Int) ^ (1 : Nat))) ^^^ BitVec.ofInt (64 : Nat) (2197175160 : Int)).toNat : Int)) (x.fdiv ((2 : Int) ^ (1 : Nat))))
theorem crcN_s (n : Nat) (x : Int) : crcN (n + 1) x = crcN n (cn (decide (IntKind.i64.wrap (↑(BitVec.ofInt (64 : Nat) x &&& BitVec.ofInt (64 : Nat) (1 : Int)).toNat : Int) = (1 : Int))) (IntKind.i64.wrap (↑(BitVec.ofInt (64 : Nat) (x.fdiv ((2 : Int) ^ (1 : Nat))) ^^^ BitVec.ofInt (64 : Nat) (2197175160 : Int)).toNat : Int)) (x.fdiv ((2 : Int) ^ (1 : Nat)))) := rfl
/-- The sum over n bytes of t from j on. -/
def crcL (t : ByteArray) : Nat → Int → Nat → Int
  | 0, x, _ => IntKind.i64.wrap (↑(BitVec.ofInt (64 : Nat) x ^^^ BitVec.ofInt (64 : Nat) (4294967295 : Int)).toNat : Int)
  | n + 1, x, j => crcL t n (crcN 8 (IntKind.i64.wrap (↑(BitVec.ofInt (64 : Nat) x ^^^ BitVec.ofInt (64 : Nat) (IntKind.i64.wrap (↑(t.data.getD j (0 : UInt8)).toNat : Int))).toNat : Int))) (j + 1)
theorem crcL_s (t : ByteArray) (n : Nat) (x : Int) (j : Nat) : crcL t (n + 1) x j = crcL t n (crcN 8 (IntKind.i64.wrap (↑(BitVec.ofInt (64 : Nat) x ^^^ BitVec.ofInt (64 : Nat) (IntKind.i64.wrap (↑(t.data.getD j (0 : UInt8)).toNat : Int))).toNat : Int))) (j + 1) := rfl
def crc (t : ByteArray) : Int := crcL t t.size (IntKind.i64.wrap (↑(BitVec.ofInt (64 : Nat) (0 : Int) ^^^ BitVec.ofInt (64 : Nat) (4294967295 : Int)).toNat : Int)) 0
theorem i_shifted.loop (k : Nat) : ∀ (n j m : Nat) (x : Int), j + n = 8 → n < m → i_shifted.l0 k m x (j : Int) = some (crcN n x) := by
  intro n
  induction n with
  | zero =>
    intro j m x hj hm
    obtain ⟨m, rfl⟩ : ∃ m', m = m' + 1 := ⟨m - 1, by omega⟩
    rw [i_shifted.l0_s, cnF (by omega)]; rfl
  | succ n ih =>
    intro j m x hj hm
    obtain ⟨m, rfl⟩ : ∃ m', m = m' + 1 := ⟨m - 1, by omega⟩
    rw [i_shifted.l0_s, cnT (by omega), wrap_succ (by omega), ih (j + 1) m _ (by omega) (by omega), ih (j + 1) m _ (by omega) (by omega), crcN_s]
    cases decide (IntKind.i64.wrap (↑(BitVec.ofInt (64 : Nat) x &&& BitVec.ofInt (64 : Nat) (1 : Int)).toNat : Int) = (1 : Int)) <;> rfl
theorem i_shifted.eq (k : Nat) (hk : 9 ≤ k) (x : Int) : i_shifted.f k x = some (crcN 8 x) := by
  rw [i_shifted.f_eq]
  exact i_shifted.loop k 8 0 k x (by omega) (by omega)
theorem s_l5Byte.loop (k : Nat) : ∀ (n j m : Nat) (x : Int), j + n = 8 → n < m → s_l5Byte.l0 k m x (j : Int) = some (crcN n x) := by
  intro n
  induction n with
  | zero =>
    intro j m x hj hm
    obtain ⟨m, rfl⟩ : ∃ m', m = m' + 1 := ⟨m - 1, by omega⟩
    rw [s_l5Byte.l0_s, cnF (by omega)]; rfl
  | succ n ih =>
    intro j m x hj hm
    obtain ⟨m, rfl⟩ : ∃ m', m = m' + 1 := ⟨m - 1, by omega⟩
    rw [s_l5Byte.l0_s, cnT (by omega), wrap_succ (by omega), ih (j + 1) m _ (by omega) (by omega), ih (j + 1) m _ (by omega) (by omega), crcN_s]
    cases decide (IntKind.i64.wrap (↑(BitVec.ofInt (64 : Nat) x &&& BitVec.ofInt (64 : Nat) (1 : Int)).toNat : Int) = (1 : Int)) <;> rfl
theorem s_l5Byte.eq (k : Nat) (hk : 9 ≤ k) (x : Int) : s_l5Byte.f k x = some (crcN 8 x) := by
  rw [s_l5Byte.f_eq]
  exact s_l5Byte.loop k 8 0 k x (by omega) (by omega)
theorem i_sumOn.loop (k : Nat) (hk : 9 ≤ k) (t : ByteArray) (ht : t.size ≤ 140737488355328) : ∀ (n j m : Nat) (x : Int), j + n = t.size → n < m → i_sumOn.l0 k m x t (t.size : Int) (j : Int) = some (crcL t n x j) := by
  intro n
  induction n with
  | zero =>
    intro j m x hj hm
    obtain ⟨m, rfl⟩ : ∃ m', m = m' + 1 := ⟨m - 1, by omega⟩
    rw [i_sumOn.l0_s, cnF (by omega), i_turned.f_eq]; rfl
  | succ n ih =>
    intro j m x hj hm
    obtain ⟨m, rfl⟩ : ∃ m', m = m' + 1 := ⟨m - 1, by omega⟩
    rw [i_sumOn.l0_s, cnT (by omega), inb_nat (by omega), gd_t, i_shifted.eq k hk, Option.bind_some, wrap_succ (by omega), ih (j + 1) m _ (by omega) (by omega), crcL_s, Int.toNat_natCast]
theorem i_sumOn.eq (k : Nat) (t : ByteArray) (ht : t.size ≤ 140737488355328) (hk : t.size + 9 ≤ k) : i_sumOn.f k 0 t = some (crc t) := by
  rw [i_sumOn.f_eq, i_turned.f_eq, Option.bind_some]
  exact i_sumOn.loop k (by omega) t ht t.size 0 k _ (by omega) (by omega)
theorem s_l5On.loop (k : Nat) (hk : 9 ≤ k) (t : ByteArray) (ht : t.size ≤ 140737488355328) : ∀ (n j m : Nat) (x : Int), j + n = t.size → n < m → s_l5On.l0 k m x t (j : Int) = some (crcL t n x j) := by
  intro n
  induction n with
  | zero =>
    intro j m x hj hm
    obtain ⟨m, rfl⟩ : ∃ m', m = m' + 1 := ⟨m - 1, by omega⟩
    rw [s_l5On.l0_s, cnF (by omega)]; rfl
  | succ n ih =>
    intro j m x hj hm
    obtain ⟨m, rfl⟩ : ∃ m', m = m' + 1 := ⟨m - 1, by omega⟩
    rw [s_l5On.l0_s, cnT (by omega), inb_nat (by omega), gd_t, s_l5Byte.eq k hk, Option.bind_some, wrap_succ (by omega), ih (j + 1) m _ (by omega) (by omega), crcL_s, Int.toNat_natCast]
theorem s_l5On.eq (k : Nat) (t : ByteArray) (ht : t.size ≤ 140737488355328) (hk : t.size + 9 ≤ k) : s_l5On.f k 0 t = some (crc t) := by
  rw [s_l5On.f_eq]
  exact s_l5On.loop k (by omega) t ht t.size 0 k _ (by omega) (by omega)
theorem strOfNums_append (a b : List Int) : strOfNums (a ++ b) = strOfNums a ++ strOfNums b := by
  apply ByteArray.ext
  rw [ByteArray.data_append]
  simp [strOfNums]
theorem strOfNums_bytes (s : ByteArray) : strOfNums (bytesL s) = s := by
  apply ByteArray.ext
  simp only [strOfNums, bytesL, List.map_map]
  rw [show ((fun n : Int => UInt8.ofNat n.toNat) ∘ fun b : UInt8 => (b.toNat : Int)) = id by funext b; simp]
  simp
theorem strOfNums_nil : strOfNums [] = ByteArray.empty := rfl
theorem strOfNums_len (xs : List Int) : (strOfNums xs).size = xs.length := by simp [strOfNums, ByteArray.size]
theorem mk1 (n : Nat) (h : n ≤ 70368744177664) : mkOk (n : Int) (n : Int) (Try.prog.bytesOf (5 : Nat)) = true := by
  rw [show Try.prog.bytesOf (5 : Nat) = 1 by kernel_rfl]
  unfold mkOk
  simp; omega
theorem app1 (n : Nat) (h : n ≤ 70368744177664) : appOk n (Try.prog.bytesOf (5 : Nat)) = true := by
  rw [show Try.prog.bytesOf (5 : Nat) = 1 by kernel_rfl]
  unfold appOk
  simp; omega
theorem s_l6Bytes.one (k : Nat) (hk : 2 ≤ k) (n : Int) : s_l6Bytes.f k n 1 = some (strOfNums [IntKind.u8.wrap n]) := by
  rw [s_l6Bytes.f_eq, show mkOk (1 : Int) (1 : Int) (Try.prog.bytesOf (5 : Nat)) = true from mk1 1 (by omega), gd_t]
  obtain ⟨k2, e⟩ : ∃ k2, k = k2 + 2 := ⟨k - 2, by omega⟩
  generalize k = kk at e ⊢
  subst e
  rw [show IntKind.i64.wrap ((1 : Int) - 1) = ((0 : Nat) : Int) from wrap_eq (by decide) (by decide)]
  rw [s_l6Bytes.l0_s, cnT (by decide), inb_nat (by simp), gd_t, show IntKind.i64.wrap (((0 : Nat) : Int) - 1) = -1 from wrap_eq (by decide) (by decide), s_l6Bytes.l0_s, cnF (by decide)]
  rfl
theorem s_l6Bytes.two (k : Nat) (hk : 3 ≤ k) (n : Int) : s_l6Bytes.f k n 2 = some (strOfNums [IntKind.u8.wrap (n.fdiv ((2 : Int) ^ (8 : Nat))), IntKind.u8.wrap n]) := by
  rw [s_l6Bytes.f_eq, show mkOk (2 : Int) (2 : Int) (Try.prog.bytesOf (5 : Nat)) = true from mk1 2 (by omega), gd_t]
  obtain ⟨k2, e⟩ : ∃ k2, k = k2 + 3 := ⟨k - 3, by omega⟩
  generalize k = kk at e ⊢
  subst e
  rw [show IntKind.i64.wrap ((2 : Int) - 1) = ((1 : Nat) : Int) from wrap_eq (by decide) (by decide)]
  rw [s_l6Bytes.l0_s, cnT (by decide), inb_nat (by simp), gd_t, show IntKind.i64.wrap (((1 : Nat) : Int) - 1) = ((0 : Nat) : Int) from wrap_eq (by decide) (by decide)]
  rw [s_l6Bytes.l0_s, cnT (by decide), inb_nat (by simp), gd_t, show IntKind.i64.wrap (((0 : Nat) : Int) - 1) = -1 from wrap_eq (by decide) (by decide), s_l6Bytes.l0_s, cnF (by decide)]
  rfl
def low4 (n : Int) : List Int := [IntKind.u8.wrap n, IntKind.u8.wrap (n.fdiv ((2 : Int) ^ (8 : Nat))), IntKind.u8.wrap (n.fdiv ((2 : Int) ^ (16 : Nat))), IntKind.u8.wrap (n.fdiv ((2 : Int) ^ (24 : Nat)))]
theorem s_l6Low.step (k m : Nat) (hk : 3 ≤ k) (n : Int) (s : ByteArray) (hs : s.size ≤ 10) (j : Nat) (hj : j < 4) : s_l6Low.l0 k (m + 1) n s (j : Int) = s_l6Low.l0 k m n (s ++ strOfNums [IntKind.u8.wrap (n.fdiv ((2 : Int) ^ (8 * j)))]) ((j + 1 : Nat) : Int) := by
  have e : IntKind.u64.wrap (IntKind.i64.wrap ((8 : Int) * (j : Int))) = ((8 * j : Nat) : Int) := by
    rw [wrap_eq (by omega) (by omega)]
    have : j = 0 ∨ j = 1 ∨ j = 2 ∨ j = 3 := by omega
    rcases this with rfl | rfl | rfl | rfl <;> decide
  rw [s_l6Low.l0_s, cnT (by omega), e, gdT (by omega), Int.toNat_natCast, show min (8 * j) 64 = 8 * j by omega, s_l6Bytes.one k (by omega), Option.bind_some, gdT (by rw [strOfNums_len]; simp; omega), wrap_succ (by omega)]
theorem s_l6Low.all (k m : Nat) (hk : 3 ≤ k) (hm : 5 ≤ m) (n : Int) : s_l6Low.l0 k m n ByteArray.empty 0 = some (strOfNums (low4 n)) := by
  obtain ⟨k5, rfl⟩ : ∃ k5, m = k5 + 1 + 1 + 1 + 1 + 1 := ⟨m - 5, by omega⟩
  have e0 : (0 : Int) = ((0 : Nat) : Int) := rfl
  rw [e0, s_l6Low.step k _ hk n _ (by decide) 0 (by omega), s_l6Low.step k _ hk n _ (by simp [strOfNums_len]) 1 (by omega), s_l6Low.step k _ hk n _ (by simp [strOfNums_len]) 2 (by omega), s_l6Low.step k _ hk n _ (by simp [strOfNums_len]) 3 (by omega), s_l6Low.l0_s, cnF (by omega)]
  rw [← strOfNums_nil, ← strOfNums_append, ← strOfNums_append, ← strOfNums_append, ← strOfNums_append]
  unfold low4
  rw [show n.fdiv ((2 : Int) ^ (8 * 0)) = n by simp]
  rfl
theorem s_l6Low.eq (k : Nat) (hk : 5 ≤ k) (n : Int) : s_l6Low.f k n = some (strOfNums (low4 n)) := by
  rw [s_l6Low.f_eq]
  exact s_l6Low.all k k (by omega) hk n
def goodF (kind at_ ep : Int) (body : ByteArray) : Bool := decide (1 ≤ kind ∧ kind ≤ 255 ∧ 0 ≤ at_ ∧ at_ ≤ 60000 ∧ 0 ≤ ep ∧ ep ≤ 60000 ∧ (body.size : Int) ≤ 16)
theorem i_within.eq (k : Nat) (n lo hi : Int) : i_within.f k n lo hi = some (decide (lo ≤ n ∧ n ≤ hi)) := by
  rw [i_within.f_eq]
  by_cases h : lo ≤ n
  · rw [cnT h]; simp [h]
  · rw [cnF h]; simp [h]
theorem s_l1In.eq (k : Nat) (n lo hi : Int) : s_l1In.f k n lo hi = some (decide (lo ≤ n ∧ n ≤ hi)) := by
  rw [s_l1In.f_eq]
  by_cases h : lo ≤ n
  · rw [cnT h]; simp [h]
  · rw [cnF h]; simp [h]
theorem i_GoodFrame.eq (k : Nat) (kind at_ ep : Int) (body : ByteArray) : i_GoodFrame.f k kind at_ ep body = some (goodF kind at_ ep body) := by
  rw [i_GoodFrame.f_eq]
  simp only [i_within.eq, Option.bind_some]
  unfold goodF
  by_cases h1 : 1 ≤ kind ∧ kind ≤ 255
  case neg => rw [cnF h1, decide_eq_false (fun h => h1 ⟨h.1, h.2.1⟩)]
  rw [cnT h1]
  by_cases h2 : 0 ≤ at_ ∧ at_ ≤ 60000
  case neg => rw [cnF h2, decide_eq_false (fun h => h2 ⟨h.2.2.1, h.2.2.2.1⟩)]
  rw [cnT h2]
  by_cases h3 : 0 ≤ ep ∧ ep ≤ 60000
  case neg => rw [cnF h3, decide_eq_false (fun h => h3 ⟨h.2.2.2.2.1, h.2.2.2.2.2.1⟩)]
  rw [cnT h3]
  congr 1
  apply decide_eq_decide.2
  exact ⟨fun h => ⟨h1.1, h1.2, h2.1, h2.2, h3.1, h3.2, h⟩, fun h => h.2.2.2.2.2.2⟩
theorem s_GoodFrame.eq (k : Nat) (kind at_ ep : Int) (body : ByteArray) : s_GoodFrame.f k kind at_ ep body = some (goodF kind at_ ep body) := by
  rw [s_GoodFrame.f_eq]
  simp only [s_l1In.eq, Option.bind_some]
  unfold goodF
  by_cases h1 : 1 ≤ kind ∧ kind ≤ 255
  case neg => rw [cnF h1, decide_eq_false (fun h => h1 ⟨h.1, h.2.1⟩)]
  rw [cnT h1]
  by_cases h2 : 0 ≤ at_ ∧ at_ ≤ 60000
  case neg => rw [cnF h2, decide_eq_false (fun h => h2 ⟨h.2.2.1, h.2.2.2.1⟩)]
  rw [cnT h2]
  by_cases h3 : 0 ≤ ep ∧ ep ≤ 60000
  case neg => rw [cnF h3, decide_eq_false (fun h => h3 ⟨h.2.2.2.2.1, h.2.2.2.2.2.1⟩)]
  rw [cnT h3]
  congr 1
  apply decide_eq_decide.2
  exact ⟨fun h => ⟨h1.1, h1.2, h2.1, h2.2, h3.1, h3.2, h⟩, fun h => h.2.2.2.2.2.2⟩
def head6 (kind at_ ep : Int) (body : ByteArray) : List Int := [IntKind.u8.wrap kind, IntKind.u8.wrap (at_.fdiv ((2 : Int) ^ (8 : Nat))), IntKind.u8.wrap at_, IntKind.u8.wrap (ep.fdiv ((2 : Int) ^ (8 : Nat))), IntKind.u8.wrap ep, IntKind.u8.wrap (↑body.size : Int)]
def pad18 (body : ByteArray) : List Int := List.replicate (18 - body.size) (0 : Int)
def front24 (kind at_ ep : Int) (body : ByteArray) : List Int := head6 kind at_ ep body ++ bytesL body ++ pad18 body
def frameL (kind at_ ep : Int) (body : ByteArray) : List Int := front24 kind at_ ep body ++ low4 (crc (strOfNums (front24 kind at_ ep body)))
theorem bytesL_len (s : ByteArray) : (bytesL s).length = s.size := by simp [bytesL]
theorem front24_len (kind at_ ep : Int) (body : ByteArray) (hb : body.size ≤ 16) : (front24 kind at_ ep body).length = 24 := by
  unfold front24 head6 pad18
  simp only [List.length_append, bytesL_len, List.length_replicate, List.length_cons, List.length_nil]
  omega
theorem i_frameBytes.eq (k : Nat) (hk : 40 ≤ k) (kind at_ ep : Int) (body : ByteArray) (hb : body.size ≤ 16) : i_frameBytes.f k kind at_ ep body = some (strOfNums (frameL kind at_ ep body)) := by
  have e : IntKind.i64.wrap (IntKind.i64.wrap ((18 : Int) - (↑body.size : Int))) = ((18 - body.size : Nat) : Int) := by
    rw [wrap_eq (n := 18 - (body.size : Int)) (by omega) (by omega), wrap_eq (by omega) (by omega)]; omega
  rw [i_frameBytes.f_eq, e, Int.toNat_natCast]
  have hL := front24_len kind at_ ep body hb
  unfold front24 head6 pad18 at hL
  rw [app1 _ (by simp only [bytesL_len, List.length_cons, List.length_nil]; omega), gd_t, app1 _ (by rw [← List.length_append, hL]; omega), decide_eq_true (by omega : (0 : Int) ≤ ((18 - body.size : Nat) : Int)), Bool.true_and, gd_t]
  rw [i_sumOn.eq k _ (by rw [strOfNums_len, hL]; omega) (by rw [strOfNums_len, hL]; omega), Option.bind_some, app1 _ (by rw [hL]; simp), gd_t]
  rfl
theorem gd_le {A : Type} {x y : Nat} {z : Option A} (h : x ≤ y) : gd (decide (x ≤ y)) z = z := gdT h
theorem s_l6Frame.eq (k : Nat) (hk : 40 ≤ k) (kind at_ ep : Int) (body : ByteArray) (hb : body.size ≤ 16) : s_l6Frame.f k kind at_ ep body = some (strOfNums (frameL kind at_ ep body)) := by
  have e : IntKind.i64.wrap (IntKind.i64.wrap ((16 : Int) - (↑body.size : Int)) + 2) = ((18 - body.size : Nat) : Int) := by
    rw [wrap_eq (n := 16 - (body.size : Int)) (by omega) (by omega), wrap_eq (by omega) (by omega)]; omega
  have hL := front24_len kind at_ ep body hb
  have eF : strOfNums [IntKind.u8.wrap kind] ++ strOfNums [IntKind.u8.wrap (at_.fdiv ((2 : Int) ^ (8 : Nat))), IntKind.u8.wrap at_] ++ strOfNums [IntKind.u8.wrap (ep.fdiv ((2 : Int) ^ (8 : Nat))), IntKind.u8.wrap ep] ++ strOfNums [IntKind.u8.wrap (body.size : Int)] ++ body ++ strOfNums (List.replicate (18 - body.size) (0 : Int)) = strOfNums (front24 kind at_ ep body) := by
    unfold front24
    rw [strOfNums_append, strOfNums_append, strOfNums_bytes, ← strOfNums_append, ← strOfNums_append, ← strOfNums_append]
    rfl
  have hc := s_l5On.eq k (strOfNums (front24 kind at_ ep body)) (by rw [strOfNums_len, hL]; omega) (by rw [strOfNums_len, hL]; omega)
  rw [s_l6Frame.f_eq]
  simp only [s_l6Bytes.one k (by omega : 2 ≤ k), s_l6Bytes.two k (by omega : 3 ≤ k), Option.bind_some, e, Int.toNat_natCast, mk1 (18 - body.size) (by omega), gd_t, ByteArray.size_append, strOfNums_len, List.length_cons, List.length_nil, List.length_replicate]
  simp (disch := omega) only [gd_le]
  simp only [eF, hc, Option.bind_some, s_l6Low.eq k (by omega : 5 ≤ k), strOfNums_len]
  simp only [show ∀ n, (low4 n).length = 4 from fun _ => rfl]
  simp (disch := omega) only [gd_le, both_self]
  rw [← strOfNums_append]
  rfl
theorem s_l6Value.one (t : ByteArray) (h : t.size = 1) (k : Nat) (hk : 2 ≤ k) : s_l6Value.f k t = some (IntKind.i64.wrap (↑(t.data.getD 0 0).toNat : Int)) := by
  obtain ⟨k3, e⟩ : ∃ k3, k = k3 + 2 := ⟨k - 2, by omega⟩
  rw [s_l6Value.f_eq]
  generalize hm : k = m
  have hm3 : m = k3 + 1 + 1 := by omega
  have b0 := byte_lt (t.data.getD 0 0)
  rw [hm3, s_l6Value.l0_s, cnT (by omega), show inb (0 : Int) t.size = true from inb_nat (i := 0) (by omega), gd_t, show (0 : Int).toNat = 0 from rfl, step_zero _ (by omega) (by omega), show IntKind.i64.wrap ((0 : Int) + 1) = ((1 : Nat) : Int) from wrap_succ (n := 0) (by omega), s_l6Value.l0_s, cnF (by omega), wrap_eq (by omega) (by omega)]
theorem s_l6Value.pair (t : ByteArray) (h : t.size = 2) (k : Nat) (hk : 3 ≤ k) : s_l6Value.f k t = some (IntKind.i64.wrap (↑(BitVec.ofInt (64 : Nat) (IntKind.i64.wrap (IntKind.i64.wrap (↑(t.data.getD 0 (0 : UInt8)).toNat : Int) * (2 : Int) ^ (8 : Nat))) ||| BitVec.ofInt (64 : Nat) (IntKind.i64.wrap (↑(t.data.getD 1 (0 : UInt8)).toNat : Int))).toNat : Int)) := by
  obtain ⟨k3, e⟩ : ∃ k3, k = k3 + 3 := ⟨k - 3, by omega⟩
  rw [s_l6Value.f_eq]
  generalize hm : k = m
  have hm3 : m = k3 + 1 + 1 + 1 := by omega
  have b0 := byte_lt (t.data.getD 0 0)
  rw [hm3, s_l6Value.l0_s, cnT (by omega), show inb (0 : Int) t.size = true from inb_nat (i := 0) (by omega), gd_t, show (0 : Int).toNat = 0 from rfl, step_zero _ (by omega) (by omega), show IntKind.i64.wrap ((0 : Int) + 1) = ((1 : Nat) : Int) from wrap_succ (n := 0) (by omega)]
  rw [s_l6Value.l0_s, cnT (by omega), inb_nat (i := 1) (by omega), gd_t, wrap_succ (by omega), s_l6Value.l0_s, cnF (by omega), Int.toNat_natCast]
  congr 7
  rw [wrap_eq (by omega) (by omega)]
theorem ext_getD (s : ByteArray) (a b j : Nat) (h : b ≤ s.size) (hj : a + j < b) : (s.extract a b).data.getD j 0 = s.data.getD (a + j) 0 := by
  have hs : s.data.size = s.size := rfl
  rw [ByteArray.data_extract, Array.getD_eq_getD_getElem?, Array.getD_eq_getD_getElem?, Array.getElem?_extract]
  rw [if_pos (by omega)]
theorem byteArray_toList_eq {a b : ByteArray} : a.toList = b.toList ↔ a = b := by
  constructor
  · intro h
    have : a.data.toList = b.data.toList := by rw [ByteArray.toList_eq, ByteArray.toList_eq] at h; exact h
    exact ByteArray.ext (Array.ext' this)
  · rintro rfl; rfl
abbrev Fr : Type := (Int × Int × Int × ByteArray) × Int × Bool
abbrev noFr (c : Int) : Fr := (((0 : Int), (0 : Int), (0 : Int), ByteArray.empty), c, false)
/-- What a frame's text is read as. -/
theorem readFrame_same (s : ByteArray) : ∃ r : Fr, (∀ k, 40 ≤ k → i_ReadFrame.f k s = some r) ∧ (∀ k, 40 ≤ k → s_ReadFrame.f k s = some r) ∧ (r.2.2 = true → r.2.1 = 0 ∧ 0 ≤ r.1.2.2.1 ∧ r.1.2.2.1 ≤ 60000 ∧ r.1.2.2.2.size ≤ 16) ∧ (r.2.2 = false → r.2.1 ≠ 0) ∧ (s.size ≠ 28 → r.2.2 = false) := by
  by_cases h28 : (s.size : Int) = 28
  case neg =>
    exact ⟨noFr 1, fun k hk => by rw [i_ReadFrame.f_eq, cnNF h28], fun k hk => by rw [s_ReadFrame.f_eq, cnNF h28], fun h => (by cases h), fun _ => (by decide), fun _ => rfl⟩
  have hs : s.size = 28 := by omega
  have h24 : (s.extract 0 24).size = 24 := by rw [ByteArray.size_extract]; omega
  have hi : ∀ k, 40 ≤ k → i_sumOn.f k 0 (s.extract 0 24) = some (crc (s.extract 0 24)) := fun k hk => i_sumOn.eq k _ (by omega) (by omega)
  have ho : ∀ k, 40 ≤ k → s_l5On.f k 0 (s.extract 0 24) = some (crc (s.extract 0 24)) := fun k hk => s_l5On.eq k _ (by omega) (by omega)
  by_cases hsum : (s.extract 24 s.size).toList = (strOfNums (low4 (crc (s.extract 0 24)))).toList
  case neg =>
    refine ⟨noFr 2, fun k hk => ?_, fun k hk => ?_, fun h => (by cases h), fun _ => (by decide), fun h => absurd hs h⟩
    · rw [i_ReadFrame.f_eq, cnNT h28, decide_eq_true (by omega : (24 : Int) ≤ (s.size : Int))]
      simp only [Bool.true_and, gd_t, hi k hk, Option.bind_some]
      exact cnNF hsum
    · rw [s_ReadFrame.f_eq, cnNT h28, decide_eq_true (by omega : (24 : Int) ≤ (s.size : Int))]
      simp only [Bool.true_and, gd_t, ho k hk, Option.bind_some, s_l6Low.eq k (by omega : 5 ≤ k)]
      exact cnNF (fun h => hsum h.symm)
  have v1 : ∀ k, 40 ≤ k → s_l6Value.f k (s.extract 0 1) = some (IntKind.i64.wrap (↑(s.data.getD 0 0).toNat : Int)) := fun k hk => by
    rw [s_l6Value.one _ (by rw [ByteArray.size_extract]; omega) k (by omega), ext_getD s 0 1 0 (by omega) (by omega)]
  have v2 : ∀ k, 40 ≤ k → s_l6Value.f k (s.extract 1 3) = _ := fun k hk => by
    rw [s_l6Value.pair _ (by rw [ByteArray.size_extract]; omega) k (by omega), ext_getD s 1 3 0 (by omega) (by omega), ext_getD s 1 3 1 (by omega) (by omega)]
  have v3 : ∀ k, 40 ≤ k → s_l6Value.f k (s.extract 3 5) = _ := fun k hk => by
    rw [s_l6Value.pair _ (by rw [ByteArray.size_extract]; omega) k (by omega), ext_getD s 3 5 0 (by omega) (by omega), ext_getD s 3 5 1 (by omega) (by omega)]
  generalize hx1 : IntKind.i64.wrap (↑(s.data.getD 0 0).toNat : Int) = x1 at v1
  generalize hx2 : IntKind.i64.wrap (↑(BitVec.ofInt (64 : Nat) (IntKind.i64.wrap (IntKind.i64.wrap (↑(s.data.getD (1 + 0) (0 : UInt8)).toNat : Int) * (2 : Int) ^ (8 : Nat))) ||| BitVec.ofInt (64 : Nat) (IntKind.i64.wrap (↑(s.data.getD (1 + 1) (0 : UInt8)).toNat : Int))).toNat : Int) = x2 at v2
  generalize hx3 : IntKind.i64.wrap (↑(BitVec.ofInt (64 : Nat) (IntKind.i64.wrap (IntKind.i64.wrap (↑(s.data.getD (3 + 0) (0 : UInt8)).toNat : Int) * (2 : Int) ^ (8 : Nat))) ||| BitVec.ofInt (64 : Nat) (IntKind.i64.wrap (↑(s.data.getD (3 + 1) (0 : UInt8)).toNat : Int))).toNat : Int) = x3 at v3
  simp only [Nat.add_zero, Nat.reduceAdd] at hx2 hx3
  have b5 := byte_lt (s.data.getD 5 0)
  have e5 : IntKind.i64.wrap (↑(s.data.getD 5 0).toNat : Int) = ((s.data.getD 5 0).toNat : Int) := wrap_eq (by omega) (by omega)
  have inbs : ∀ j : Nat, j < 28 → inb (j : Int) s.size = true := fun j hj => inb_nat (by omega)
  have g0 := inbs 0 (by omega); have g1 := inbs 1 (by omega); have g2 := inbs 2 (by omega); have g3 := inbs 3 (by omega); have g4 := inbs 4 (by omega); have g5 := inbs 5 (by omega)
  -- the code's reading, down to its frame
  have hI : ∀ k, 40 ≤ k → ∀ n : Nat, n = min (s.data.getD 5 0).toNat 16 → i_ReadFrame.f k s = cn (!goodF x1 x2 x3 (s.extract 6 (6 + n))) (some (noFr 3)) (cn (!decide ((strOfNums (frameL x1 x2 x3 (s.extract 6 (6 + n)))).toList = s.toList)) (some (noFr 3)) (some ((x1, x2, x3, s.extract 6 (6 + n)), 0, true))) := by
    intro k hk n hn
    have hsz : (s.extract 6 (6 + n)).size ≤ 16 := by rw [ByteArray.size_extract]; omega
    have e6 : cn (decide (((s.data.getD 5 0).toNat : Int) < (16 : Int))) (((s.data.getD 5 0).toNat : Int)) (16 : Int) = (n : Int) := by
      by_cases h : ((s.data.getD 5 0).toNat : Int) < 16
      · rw [cnT h]; omega
      · rw [cnF h]; omega
    rw [i_ReadFrame.f_eq, cnNT h28, decide_eq_true (by omega : (24 : Int) ≤ (s.size : Int))]
    simp only [Bool.true_and, gd_t, hi k hk, Option.bind_some]
    rw [show (strOfNums [IntKind.u8.wrap (crc (s.extract 0 24)), IntKind.u8.wrap (Int.fdiv (crc (s.extract 0 24)) ((2 : Int) ^ (8 : Nat))), IntKind.u8.wrap (Int.fdiv (crc (s.extract 0 24)) ((2 : Int) ^ (16 : Nat))), IntKind.u8.wrap (Int.fdiv (crc (s.extract 0 24)) ((2 : Int) ^ (24 : Nat)))]) = strOfNums (low4 (crc (s.extract 0 24))) from rfl, cnNT hsum]
    rw [show inb (0 : Int) s.size = true from g0, show inb (1 : Int) s.size = true from g1, show inb (2 : Int) s.size = true from g2, show inb (3 : Int) s.size = true from g3, show inb (4 : Int) s.size = true from g4, show inb (5 : Int) s.size = true from g5]
    simp only [gd_t]
    rw [e5, e6, wrap_eq (n := 6 + (n : Int)) (by omega) (by omega), decide_eq_true (by omega : (6 : Int) ≤ 6 + (n : Int)), decide_eq_true (by omega : 6 + (n : Int) ≤ (s.size : Int)), hx1, hx2, hx3, show (6 + (n : Int)).toNat = 6 + n by omega]
    simp only [Bool.and_self, gd_t, i_GoodFrame.eq, Option.bind_some, i_frameBytes.eq k hk x1 x2 x3 _ hsz]
  have hS : ∀ k, 40 ≤ k → ∀ n : Nat, n = (s.data.getD 5 0).toNat → n ≤ 16 → s_ReadFrame.f k s = cn (!goodF x1 x2 x3 (s.extract 6 (6 + n))) (some (noFr 3)) (cn (!decide ((strOfNums (frameL x1 x2 x3 (s.extract 6 (6 + n)))).toList = s.toList)) (some (noFr 3)) (some ((x1, x2, x3, s.extract 6 (6 + n)), 0, true))) := by
    intro k hk n hn hn16
    have hsz : (s.extract 6 (6 + n)).size ≤ 16 := by rw [ByteArray.size_extract]; omega
    rw [s_ReadFrame.f_eq, cnNT h28, decide_eq_true (by omega : (24 : Int) ≤ (s.size : Int)), decide_eq_true (by omega : (1 : Int) ≤ (s.size : Int)), decide_eq_true (by omega : (3 : Int) ≤ (s.size : Int)), decide_eq_true (by omega : (5 : Int) ≤ (s.size : Int))]
    simp only [Bool.true_and, gd_t, ho k hk, Option.bind_some, s_l6Low.eq k (by omega : 5 ≤ k)]
    rw [cnNT hsum.symm]
    simp only [v1 k hk, v2 k hk, v3 k hk, Option.bind_some, both_self]
    rw [show inb (5 : Int) s.size = true from g5, e5, cnF (by omega), ← hn, wrap_eq (n := 6 + (n : Int)) (by omega) (by omega), decide_eq_true (by omega : (6 : Int) ≤ 6 + (n : Int)), decide_eq_true (by omega : 6 + (n : Int) ≤ (s.size : Int)), show (6 + (n : Int)).toNat = 6 + n by omega]
    simp only [Bool.and_self, gd_t, s_GoodFrame.eq, Option.bind_some, s_l6Frame.eq k hk x1 x2 x3 _ hsz]
  have hS2 : ∀ k, 40 ≤ k → 16 < (s.data.getD 5 0).toNat → s_ReadFrame.f k s = some (noFr 3) := by
    intro k hk hn16
    rw [s_ReadFrame.f_eq, cnNT h28, decide_eq_true (by omega : (24 : Int) ≤ (s.size : Int)), decide_eq_true (by omega : (1 : Int) ≤ (s.size : Int)), decide_eq_true (by omega : (3 : Int) ≤ (s.size : Int)), decide_eq_true (by omega : (5 : Int) ≤ (s.size : Int))]
    simp only [Bool.true_and, gd_t, ho k hk, Option.bind_some, s_l6Low.eq k (by omega : 5 ≤ k)]
    rw [cnNT hsum.symm]
    simp only [v1 k hk, v2 k hk, v3 k hk, Option.bind_some, both_self]
    rw [show inb (5 : Int) s.size = true from g5, e5, cnT (by omega)]
    simp only [gd_t]
  by_cases hbig : 16 < (s.data.getD 5 0).toNat
  · refine ⟨noFr 3, fun k hk => ?_, fun k hk => hS2 k hk hbig, fun h => (by cases h), fun _ => (by decide), fun _ => rfl⟩
    rw [hI k hk 16 (by omega)]
    cases goodF x1 x2 x3 (s.extract 6 (6 + 16)) with
    | false => rfl
    | true =>
      refine cnNF (fun h => ?_)
      have h2 := byteArray_toList_eq.1 h
      have h3 : (strOfNums (frameL x1 x2 x3 (s.extract 6 (6 + 16)))).data.getD 5 0 = s.data.getD 5 0 := by rw [h2]
      have h4 : (s.extract 6 (6 + 16)).size = 16 := by rw [ByteArray.size_extract]; omega
      have h5 : (strOfNums (frameL x1 x2 x3 (s.extract 6 (6 + 16)))).data.getD 5 0 = 16 := by
        rw [Array.getD_eq_getD_getElem?, ← Array.getElem?_toList, strOfNums_data, List.getElem?_map]
        unfold frameL front24 head6
        rw [h4]
        rfl
      rw [h5] at h3
      rw [← h3] at hbig
      exact absurd hbig (by decide)
  · have hn : (s.data.getD 5 0).toNat = min (s.data.getD 5 0).toNat 16 := by omega
    generalize hnn : (s.data.getD 5 0).toNat = n at hI hS hn hbig
    have hI2 := fun k hk => hI k hk n hn
    have hS2 := fun k hk => hS k hk n rfl (by omega)
    cases hg : goodF x1 x2 x3 (s.extract 6 (6 + n)) with
    | false =>
      rw [hg] at hI2 hS2
      exact ⟨noFr 3, hI2, hS2, fun h => (by cases h), fun _ => (by decide), fun _ => rfl⟩
    | true =>
      rw [hg] at hI2 hS2
      by_cases hf : (strOfNums (frameL x1 x2 x3 (s.extract 6 (6 + n)))).toList = s.toList
      · refine ⟨((x1, x2, x3, s.extract 6 (6 + n)), 0, true), fun k hk => ?_, fun k hk => ?_, fun _ => ?_, fun h => (by cases h), fun h => absurd hs h⟩
        · rw [hI2 k hk]; simp only [Bool.not_true, cn_f]; exact cnNT hf
        · rw [hS2 k hk]; simp only [Bool.not_true, cn_f]; exact cnNT hf
        · unfold goodF at hg
          have hg := of_decide_eq_true hg
          exact ⟨rfl, hg.2.2.2.2.1, hg.2.2.2.2.2.1, by have := hg.2.2.2.2.2.2; show (s.extract 6 (6 + n)).size ≤ 16; omega⟩
      · refine ⟨noFr 3, fun k hk => ?_, fun k hk => ?_, fun h => (by cases h), fun _ => (by decide), fun _ => rfl⟩
        · rw [hI2 k hk]; simp only [Bool.not_true, cn_f]; exact cnNF hf
        · rw [hS2 k hk]; simp only [Bool.not_true, cn_f]; exact cnNF hf
/-- What CheckFrame says of a text. -/
theorem checkFrame_same (s : ByteArray) (kind at_ least : Int) : ∃ r : Fr, (∀ k, 40 ≤ k → i_CheckFrame.f k s kind at_ least = some r) ∧ (∀ k, 40 ≤ k → s_CheckFrame.f k s kind at_ least = some r) ∧ (r.2.2 = true → 0 ≤ r.1.2.2.1 ∧ r.1.2.2.1 ≤ 60000) ∧ (s.size ≠ 28 → r.2.2 = false) := by
  obtain ⟨⟨⟨x1, x2, x3, bd⟩, c, ok⟩, hi, hs, h1, h2, h3⟩ := readFrame_same s
  simp only at h1 h2 h3
  cases ok with
  | false =>
    have hc := h2 rfl
    refine ⟨noFr c, fun k hk => ?_, fun k hk => ?_, fun h => (by cases h), fun _ => rfl⟩
    · rw [i_CheckFrame.f_eq, hi k hk]
      simp only [Option.bind_some, Bool.not_false, cn_t]
      exact cnNF hc
    · rw [s_CheckFrame.f_eq, hs k hk]
      simp only [Option.bind_some, Bool.not_false, cn_t]
  | true =>
    obtain ⟨hc, e1, e2, _⟩ := h1 rfl
    subst hc
    have hi' : ∀ k, 40 ≤ k → i_CheckFrame.f k s kind at_ least = s_CheckFrame.f k s kind at_ least := fun k hk => by
      rw [i_CheckFrame.f_eq, hi k hk, s_CheckFrame.f_eq, hs k hk]
      simp only [Option.bind_some, Bool.not_true, cn_f]
      simp only [decide_true, Bool.not_true, cn_f]
    have hs' : ∀ k, 40 ≤ k → s_CheckFrame.f k s kind at_ least = cn (!decide (x1 = kind)) (some (noFr 3)) (cn (!decide (x2 = at_)) (some (noFr 4)) (cn (decide (x3 < least)) (some (noFr 5)) (some ((x1, x2, x3, bd), 0, true)))) := fun k hk => by
      rw [s_CheckFrame.f_eq, hs k hk]
      simp only [Option.bind_some, Bool.not_true, cn_f]
    have hsz : s.size ≠ 28 → False := fun h => by cases h3 h
    have fin : ∀ r : Fr, (∀ k, 40 ≤ k → s_CheckFrame.f k s kind at_ least = some r) → (r.2.2 = true → 0 ≤ r.1.2.2.1 ∧ r.1.2.2.1 ≤ 60000) → ∃ r : Fr, (∀ k, 40 ≤ k → i_CheckFrame.f k s kind at_ least = some r) ∧ (∀ k, 40 ≤ k → s_CheckFrame.f k s kind at_ least = some r) ∧ (r.2.2 = true → 0 ≤ r.1.2.2.1 ∧ r.1.2.2.1 ≤ 60000) ∧ (s.size ≠ 28 → r.2.2 = false) :=
      fun r ha hb => ⟨r, fun k hk => (hi' k hk).trans (ha k hk), ha, hb, fun h => (hsz h).elim⟩
    by_cases c1 : x1 = kind
    case neg => exact fin (noFr 3) (fun k hk => by rw [hs' k hk, cnNF c1]) (fun h => by cases h)
    by_cases c2 : x2 = at_
    case neg => exact fin (noFr 4) (fun k hk => by rw [hs' k hk, cnNT c1, cnNF c2]) (fun h => by cases h)
    by_cases c3 : x3 < least
    · exact fin (noFr 5) (fun k hk => by rw [hs' k hk, cnNT c1, cnNT c2, cnT c3]) (fun h => by cases h)
    · exact fin ((x1, x2, x3, bd), 0, true) (fun k hk => by rw [hs' k hk, cnNT c1, cnNT c2, cnF c3]) (fun _ => ⟨e1, e2⟩)
theorem app16 (n : Nat) (h : n ≤ 1048576) : appOk n (Try.prog.bytesOf (9 : Nat)) = true := by
  rw [show Try.prog.bytesOf (9 : Nat) = 16 by kernel_rfl]
  unfold appOk
  simp; omega
/-- The rounds of RecoverFrom, n of them left: both tell the same. -/
theorem recover_loop (p h : List ByteArray) (b : List Bool) (g : goodD p h b = true) (hp : p.length = 5) (y1 y2 y3 : Int) (y4 : ByteArray) (e0 : 0 ≤ y3) (e1 : y3 ≤ 60000) :
    ∀ (n j : Nat) (l : List ByteArray), j + n = 2 → l.length = j → ∃ r : List Int × Int × Bool, (∀ k m, 40 ≤ k → n < m → i_RecoverFrom.l0 k m (j : Int) p h b y1 y2 y3 y4 l = some r) ∧
      (∀ k m, 40 ≤ k → n < m → s_l15Recover.l0 k m (1 + 2 * y3.tmod 2) (j : Int) p h b y1 y2 y3 y4 l = some (if r.2.2 = true then (r.1, y3) else ([], -1))) ∧ r.1.length ≤ 6 ∧ (r.2.2 = true → r.2.1 = y3) ∧ (r.2.2 = false → r = ([], 0, false)) := by
  obtain ⟨g1, g2, g3, g4⟩ := goodD_len g
  have ht : y3.tmod 2 = 0 ∨ y3.tmod 2 = 1 := by rw [Int.tmod_eq_emod_of_nonneg e0]; omega
  obtain ⟨q, hq, hq1⟩ : ∃ q : Nat, 1 + 2 * y3.tmod 2 = (q : Int) ∧ q ≤ 3 := by rcases ht with h | h <;> rw [h]; exact ⟨1, rfl, by omega⟩; exact ⟨3, rfl, by omega⟩
  have hw : IntKind.i64.wrap ((1 : Int) + IntKind.i64.wrap ((2 : Int) * y3.tmod (2 : Int))) = (q : Int) := by
    rw [wrap_eq (n := 2 * y3.tmod 2) (by omega) (by omega), wrap_eq (by omega) (by omega)]; omega
  rw [hq]
  intro n
  induction n with
  | zero =>
    intro j l hj hl
    obtain ⟨d, hd, hd6⟩ := sfF_some l
    have ss : ∀ k, 40 ≤ k → s_StateFrom.f k l = some d := fun k hk => by rw [s_StateFrom.eq l k (by omega), hd]
    have is_ : ∀ k, i_StateFrom.f k l = some d := fun k => hd
    cases hok : d.2 with
    | false =>
      refine ⟨([], 0, false), fun k m hk hm => ?_, fun k m hk hm => ?_, by simp, fun h => (by cases h), fun _ => rfl⟩
      · obtain ⟨m, rfl⟩ : ∃ m', m = m' + 1 := ⟨m - 1, by omega⟩
        rw [i_RecoverFrom.l0_s, cnF (by omega), is_ k, Option.bind_some, hok]; rfl
      · obtain ⟨m, rfl⟩ : ∃ m', m = m' + 1 := ⟨m - 1, by omega⟩
        rw [s_l15Recover.l0_s, cnF (by omega), ss k hk, Option.bind_some, hok]; rfl
    | true =>
      refine ⟨(d.1, y3, true), fun k m hk hm => ?_, fun k m hk hm => ?_, hd6, fun _ => rfl, fun h => (by cases h)⟩
      · obtain ⟨m, rfl⟩ : ∃ m', m = m' + 1 := ⟨m - 1, by omega⟩
        rw [i_RecoverFrom.l0_s, cnF (by omega), is_ k, Option.bind_some, hok]; rfl
      · obtain ⟨m, rfl⟩ : ∃ m', m = m' + 1 := ⟨m - 1, by omega⟩
        rw [s_l15Recover.l0_s, cnF (by omega), ss k hk, Option.bind_some, hok]; rfl
  | succ n ih =>
    intro j l hj hl
    have ew : IntKind.i64.wrap ((q : Int) + (j : Int)) = ((q + j : Nat) : Int) := by rw [wrap_eq (by omega) (by omega)]; omega
    obtain ⟨rd, hrd, hrd0⟩ := s_l7Read.at p h b g3 g4 (q + j) (by omega)
    have hird : ∀ k, 40 ≤ k → i_ReadSector.f k p h b ((q + j : Nat) : Int) = some rd := fun k hk => by rw [i_ReadSector.eq p h b g (q + j) (by omega) k (by omega), hrd]
    obtain ⟨cf, hci, hcs, _, hc28⟩ := checkFrame_same rd.1 3 ((q + j : Nat) : Int) y3
    have bad : (∀ k, 40 ≤ k → ∀ m, i_RecoverFrom.l0 k (m + 1) (j : Int) p h b y1 y2 y3 y4 l = some ([], 0, false)) → (∀ k, 40 ≤ k → ∀ m, s_l15Recover.l0 k (m + 1) (q : Int) (j : Int) p h b y1 y2 y3 y4 l = some ([], -1)) →
        ∃ r : List Int × Int × Bool, (∀ k m, 40 ≤ k → n + 1 < m → i_RecoverFrom.l0 k m (j : Int) p h b y1 y2 y3 y4 l = some r) ∧
      (∀ k m, 40 ≤ k → n + 1 < m → s_l15Recover.l0 k m (q : Int) (j : Int) p h b y1 y2 y3 y4 l = some (if r.2.2 = true then (r.1, y3) else ([], -1))) ∧ r.1.length ≤ 6 ∧ (r.2.2 = true → r.2.1 = y3) ∧ (r.2.2 = false → r = ([], 0, false)) := by
      intro ha hb
      refine ⟨([], 0, false), fun k m hk hm => ?_, fun k m hk hm => ?_, by simp, fun h => (by cases h), fun _ => rfl⟩
      · obtain ⟨m, rfl⟩ : ∃ m', m = m' + 1 := ⟨m - 1, by omega⟩
        exact ha k hk m
      · obtain ⟨m, rfl⟩ : ∃ m', m = m' + 1 := ⟨m - 1, by omega⟩
        exact hb k hk m
    have stepI : ∀ k, 40 ≤ k → ∀ m, i_RecoverFrom.l0 k (m + 1) (j : Int) p h b y1 y2 y3 y4 l = cn (!cf.2.2) (some ([], 0, false)) (cn (!decide (cf.1.2.2.1 = y3)) (some ([], 0, false)) (i_RecoverFrom.l0 k m ((j + 1 : Nat) : Int) p h b y1 y2 y3 y4 (l ++ [cf.1.2.2.2]))) := by
      intro k hk m
      rw [i_RecoverFrom.l0_s, cnT (by omega), i_halfOf.f_eq, hw, Option.bind_some, ew, hird k hk, Option.bind_some, hci k hk, Option.bind_some, app16 _ (by simp; omega), gd_t, wrap_succ (by omega)]
    have stepS : ∀ k, 40 ≤ k → ∀ m, s_l15Recover.l0 k (m + 1) (q : Int) (j : Int) p h b y1 y2 y3 y4 l = cn (!rd.2) (some ([], -1)) (cn (!cf.2.2) (some ([], -1)) (cn (!decide (cf.1.2.2.1 = y3)) (some ([], -1)) (s_l15Recover.l0 k m (q : Int) ((j + 1 : Nat) : Int) p h b y1 y2 y3 y4 (l ++ [cf.1.2.2.2])))) := by
      intro k hk m
      rw [s_l15Recover.l0_s, cnT (by omega), ew, hrd, Option.bind_some, hcs k hk, Option.bind_some, app16 _ (by simp; omega), gd_t, wrap_succ (by omega)]
    cases hok : cf.2.2 with
    | false =>
      refine bad (fun k hk m => by rw [stepI k hk m, hok]; rfl) (fun k hk m => ?_)
      rw [stepS k hk m, hok]
      cases rd.2 <;> rfl
    | true =>
      have hrt : rd.2 = true := by
        cases hr : rd.2 with
        | true => rfl
        | false =>
          have := hrd0 hr
          rw [this] at hc28
          have := hc28 (by decide)
          rw [hok] at this; cases this
      by_cases ce : cf.1.2.2.1 = y3
      case neg =>
        exact bad (fun k hk m => by rw [stepI k hk m, hok, cnNF ce]; rfl) (fun k hk m => by rw [stepS k hk m, hok, hrt, cnNF ce]; rfl)
      obtain ⟨r, r1, r2, r3, r4, r5⟩ := ih (j + 1) (l ++ [cf.1.2.2.2]) (by omega) (by simp; omega)
      refine ⟨r, fun k m hk hm => ?_, fun k m hk hm => ?_, r3, r4, r5⟩
      · obtain ⟨m, rfl⟩ : ∃ m', m = m' + 1 := ⟨m - 1, by omega⟩
        rw [stepI k hk m, hok, cnNT ce]
        simp only [Bool.not_true, cn_f]
        exact r1 k m hk (by omega)
      · obtain ⟨m, rfl⟩ : ∃ m', m = m' + 1 := ⟨m - 1, by omega⟩
        rw [stepS k hk m, hok, hrt, cnNT ce]
        simp only [Bool.not_true, cn_f]
        exact r2 k m hk (by omega)
/-! ### Loops: rounds to spare -/
def Ev2 {R : Type} (g : Nat → Nat → Option R) (r : R) : Prop := ∃ K, ∀ k m, K ≤ k → K ≤ m → g k m = some r
theorem Ev2.diag {R : Type} {g : Nat → Nat → Option R} {r : R} (h : Ev2 g r) : Ev (fun k => g k k) r := by
  obtain ⟨K, hK⟩ := h
  exact ⟨K, fun k hk => hK k k hk hk⟩
theorem Ev2.step {R : Type} {g g' : Nat → Nat → Option R} {r : R} (h : Ev2 g' r) (e : ∀ k m, g k (m + 1) = g' k m) : Ev2 g r := by
  obtain ⟨K, hK⟩ := h
  refine ⟨K + 1, fun k m hk hm => ?_⟩
  obtain ⟨m, rfl⟩ : ∃ m', m = m' + 1 := ⟨m - 1, by omega⟩
  rw [e]
  exact hK k m (by omega) (by omega)
theorem Ev2.bind {D R : Type} {f : Nat → Option D} {d : D} {G : Nat → Nat → D → Option R} {r : R} (h : Ev f d) (h2 : Ev2 (fun k m => G k m d) r) : Ev2 (fun k m => (f k).bind (G k m)) r := by
  obtain ⟨K, hK⟩ := h
  obtain ⟨L, hL⟩ := h2
  refine ⟨max K L, fun k m hk hm => ?_⟩
  show (f k).bind (G k m) = _
  rw [hK k (by omega)]
  exact hL k m (by omega) (by omega)
theorem Ev2.const {R : Type} {g : Nat → Nat → Option R} {r : R} (h : ∀ k m, g k m = some r) : Ev2 g r := ⟨0, fun k m _ _ => h k m⟩
theorem Ev2.ev {R : Type} {g : Nat → Option R} {r : R} (h : Ev g r) : Ev2 (fun k _ => g k) r := by
  obtain ⟨K, hK⟩ := h
  exact ⟨K, fun k _ hk _ => hK k hk⟩
theorem Ev2.inner {R : Type} {g : Nat → Nat → Option R} {r : R} (h : Ev2 g r) : Ev2 (fun k _ => g k k) r := .ev h.diag
theorem Ev2.congr {R : Type} {f g : Nat → Nat → Option R} {r : R} (h : Ev2 f r) (e : ∀ k m, g k m = f k m) : Ev2 g r := by
  obtain ⟨K, hK⟩ := h
  exact ⟨K, fun k m hk hm => by rw [e]; exact hK k m hk hm⟩
/-- Three kinds of rounds. -/
def Ev3 {R : Type} (g : Nat → Nat → Nat → Option R) (r : R) : Prop := ∃ K, ∀ k m n, K ≤ k → K ≤ m → K ≤ n → g k m n = some r
theorem Ev3.diag {R : Type} {g : Nat → Nat → Nat → Option R} {r : R} (h : Ev3 g r) : Ev2 (fun k m => g k m k) r := by
  obtain ⟨K, hK⟩ := h
  exact ⟨K, fun k m hk hm => hK k m k hk hm hk⟩
theorem Ev3.step {R : Type} {g g' : Nat → Nat → Nat → Option R} {r : R} (h : Ev3 g' r) (e : ∀ k m n, g k m (n + 1) = g' k m n) : Ev3 g r := by
  obtain ⟨K, hK⟩ := h
  refine ⟨K + 1, fun k m n hk hm hn => ?_⟩
  obtain ⟨n, rfl⟩ : ∃ m', n = m' + 1 := ⟨n - 1, by omega⟩
  rw [e]
  exact hK k m n (by omega) (by omega) (by omega)
theorem Ev3.bind {D R : Type} {f : Nat → Option D} {d : D} {G : Nat → Nat → Nat → D → Option R} {r : R} (h : Ev f d) (h2 : Ev3 (fun k m n => G k m n d) r) : Ev3 (fun k m n => (f k).bind (G k m n)) r := by
  obtain ⟨K, hK⟩ := h
  obtain ⟨L, hL⟩ := h2
  refine ⟨max K L, fun k m n hk hm hn => ?_⟩
  show (f k).bind (G k m n) = _
  rw [hK k (by omega)]
  exact hL k m n (by omega) (by omega) (by omega)
theorem Ev3.const {R : Type} {g : Nat → Nat → Nat → Option R} {r : R} (h : ∀ k m n, g k m n = some r) : Ev3 g r := ⟨0, fun k m n _ _ _ => h k m n⟩
theorem Ev3.out {R : Type} {g : Nat → Nat → Option R} {r : R} (h : Ev2 g r) : Ev3 (fun k m _ => g k m) r := by
  obtain ⟨K, hK⟩ := h
  exact ⟨K, fun k m _ hk hm _ => hK k m hk hm⟩
theorem drop_cons {A : Type} {d : A} {s : List A} {j : Nat} (h : j < s.length) : s.drop j = getAt d s j :: s.drop (j + 1) := by
  rw [getAt_lt h]; exact List.drop_eq_getElem_cons h
/-- A loop over a row from place j on; what is carried is told by st. -/
theorem Ev2.each {A R S : Type} (s : List A) (d : A) (g : Nat → Nat → Nat → S → Option R) (inv : Nat → S → Prop) (res : List A → Nat → S → R)
    (hnil : ∀ st, inv s.length st → Ev2 (fun k m => g k m s.length st) (res [] s.length st))
    (hcons : ∀ j x l st, s.drop j = x :: l → j < s.length → getAt d s j = x → inv j st → (∀ st', inv (j + 1) st' → Ev2 (fun k m => g k m (j + 1) st') (res l (j + 1) st')) → Ev2 (fun k m => g k m j st) (res (x :: l) j st)) :
    ∀ n j st, j + n = s.length → inv j st → Ev2 (fun k m => g k m j st) (res (s.drop j) j st) := by
  intro n
  induction n with
  | zero =>
    intro j st hj hi
    obtain rfl : j = s.length := by omega
    rw [List.drop_length]
    exact hnil st hi
  | succ n ih =>
    intro j st hj hi
    have hlt : j < s.length := by omega
    have e := drop_cons (d := d) hlt
    rw [e]
    exact hcons j _ _ st e hlt rfl hi fun st' h' => ih (j + 1) st' (by omega) h'
/-- The same where nothing is carried. -/
theorem Ev2.look {A R : Type} (s : List A) (d : A) (g : Nat → Nat → Nat → Option R) (res : List A → Nat → R)
    (hnil : Ev2 (fun k m => g k m s.length) (res [] s.length))
    (hcons : ∀ j x l, s.drop j = x :: l → j < s.length → getAt d s j = x → Ev2 (fun k m => g k m (j + 1)) (res l (j + 1)) → Ev2 (fun k m => g k m j) (res (x :: l) j)) :
    Ev2 (fun k m => g k m 0) (res s 0) :=
  Ev2.each s d (fun k m j (_ : Unit) => g k m j) (fun _ _ => True) (fun l j _ => res l j) (fun _ _ => hnil) (fun j x l _ h1 h2 h3 _ ih => hcons j x l h1 h2 h3 (ih () trivial)) s.length 0 () (by omega) trivial
/-- The first place where p holds, -1 for none. -/
def fidx {A : Type} (p : A → Bool) : List A → Nat → Int
  | [], _ => -1
  | x :: l, j => match p x with | true => (j : Int) | false => fidx p l (j + 1)
theorem fidx_any {A : Type} (p : A → Bool) : ∀ (l : List A) (j : Nat), decide ((0 : Int) ≤ fidx p l j) = l.any p
  | [], _ => by simp [fidx]
  | x :: l, j => by
    cases h : p x with
    | true => simp [fidx, h]
    | false => simp only [fidx, h, List.any_cons, Bool.false_or]; exact fidx_any p l (j + 1)
theorem cn_ite {A : Type} (b : Bool) (x y : A) : cn b x y = if b = true then x else y := by cases b <;> rfl
/-! ### Rows written over from the front -/
def mid {A : Type} (a b : List A) (j : Nat) : List A := a.take j ++ b.drop j
theorem mid_zero {A : Type} (a b : List A) : mid a b 0 = b := by simp [mid]
theorem mid_all {A : Type} {a b : List A} {j : Nat} (h : j = a.length) (hb : b.length = a.length) : mid a b j = a := by
  subst h; unfold mid; rw [List.take_length, List.drop_of_length_le (by omega), List.append_nil]
theorem mid_len {A : Type} {a b : List A} (j : Nat) (hb : b.length = a.length) : (mid a b j).length = a.length := by
  simp [mid]; omega
theorem mid_get {A : Type} {d : A} {a b : List A} {j : Nat} (hb : b.length = a.length) (hj : j < a.length) : getAt d (mid a b j) j = getAt d b j := by
  have hl : (a.take j).length = j := by simp; omega
  rw [getAt_lt (by rw [mid_len j hb]; exact hj), getAt_lt (by omega)]
  unfold mid
  rw [List.getElem_append_right (by omega)]
  simp [hl]
theorem mid_step {A : Type} {d : A} {a b : List A} {j : Nat} (hb : b.length = a.length) (hj : j < a.length) : mid a b (j + 1) = a.take j ++ getAt d a j :: b.drop (j + 1) := by
  rw [getAt_lt hj]
  show a.take (j + 1) ++ b.drop (j + 1) = _
  rw [List.take_succ_eq_append_getElem hj, List.append_assoc]; rfl
theorem mid_set {A : Type} {d x : A} {a b : List A} {j : Nat} (hb : b.length = a.length) (hj : j < a.length) (hx : x = getAt d a j) : (mid a b j).set j x = mid a b (j + 1) := by
  have hl : (a.take j).length = j := by simp; omega
  rw [mid_step (d := d) hb hj]
  unfold mid
  rw [List.set_append_right _ _ (by omega), hl, Nat.sub_self, drop_cons (d := d) (by omega : j < b.length), hx]; rfl
theorem mid_keep {A : Type} {d : A} {a b : List A} {j : Nat} (hb : b.length = a.length) (hj : j < a.length) (hx : getAt d b j = getAt d a j) : mid a b j = mid a b (j + 1) := by
  rw [mid_step (d := d) hb hj, ← hx, ← drop_cons (by omega : j < b.length)]; rfl
theorem getAt_ext {A : Type} (d : A) {a b : List A} (hl : a.length = b.length) (h : ∀ i, i < a.length → getAt d a i = getAt d b i) : a = b := by
  refine List.ext_getElem hl fun i h1 h2 => ?_
  have := h i h1
  rwa [getAt_lt h1, getAt_lt h2] at this
theorem getAt_replicate {A : Type} (d : A) (n i : Nat) : getAt d (List.replicate n d) i = d := by
  unfold getAt
  rw [List.getD_eq_getElem?_getD, List.getElem?_replicate]
  split <;> rfl
theorem appOk_le {n b : Nat} (hb : b ≤ 1024) (h : n ≤ 1073741824) : appOk n b = true := by
  unfold appOk
  have : n * b ≤ 1073741824 * 1024 := Nat.mul_le_mul h hb
  rw [decide_eq_true (by omega : n ≤ 2 ^ 46), decide_eq_true (by omega : n * b ≤ 2 ^ 46)]; rfl
theorem bytes_string : Try.prog.bytesOf (9 : Nat) ≤ 1024 := by rw [show Try.prog.bytesOf (9 : Nat) = 16 by kernel_rfl]; decide
theorem bytes_int : Try.prog.bytesOf (3 : Nat) ≤ 1024 := by rw [show Try.prog.bytesOf (3 : Nat) = 8 by kernel_rfl]; decide
theorem bytes_bool : Try.prog.bytesOf (4 : Nat) ≤ 1024 := by rw [show Try.prog.bytesOf (4 : Nat) = 1 by kernel_rfl]; decide
theorem bytes_uint8 : Try.prog.bytesOf (5 : Nat) ≤ 1024 := by rw [show Try.prog.bytesOf (5 : Nat) = 1 by kernel_rfl]; decide
theorem beq_nt (a b : Bool) : (!a == b) = !decide (a = b) := by cases a <;> cases b <;> rfl
/-! ### Looking through rows -/
theorem any_eq (s : List Int) (v : Int) : s.any (fun x => decide (v = x)) = decide (v ∈ s) := by
  rw [Bool.eq_iff_iff, List.any_eq_true, decide_eq_true_iff]
  constructor
  · rintro ⟨x, hx, h⟩; rw [of_decide_eq_true h]; exact hx
  · exact fun h => ⟨v, h, decide_eq_true rfl⟩
theorem b_Index_int.ev (s : List Int) (v : Int) (hs : s.length < 9223372036854775807) : Ev (fun k => b_Index_int.f k s v) (fidx (fun x => decide (v = x)) s 0) := by
  refine Ev.congr ?_ fun k => b_Index_int.f_eq k s v
  refine Ev2.diag (g := fun k m => b_Index_int.l0 k m s v (s.length : Int) 0) ?_
  refine Ev2.look s 0 (fun k m j => b_Index_int.l0 k m s v (s.length : Int) (j : Int)) (fun l j => fidx (fun x => decide (v = x)) l j) ?_ ?_
  · refine .step ?_ fun k m => b_Index_int.l0_s k m _ _ _ _
    simp (disch := omega) only [Int.toNat_natCast, decide_eq_true, decide_eq_false, Bool.not_true, Bool.not_false, Bool.true_and, Bool.false_and, Bool.and_true, Bool.and_false, cn_t, cn_f, gd_t, inb_nat, wrap_succ, wrap_eq, Option.bind_some, both_self, fidx]
    exact .const fun _ _ => rfl
  · intro j x l _ hj hx ih
    refine .step ?_ fun k m => b_Index_int.l0_s k m _ _ _ _
    simp (disch := omega) only [Int.toNat_natCast, decide_eq_true, decide_eq_false, Bool.not_true, Bool.not_false, Bool.true_and, Bool.false_and, Bool.and_true, Bool.and_false, cn_t, cn_f, gd_t, inb_nat, wrap_succ, wrap_eq, Option.bind_some, both_self, hx, fidx]
    by_cases h : v = x
    · simp only [decide_eq_true h, cn_t]
      exact .const fun _ _ => rfl
    · simp only [decide_eq_false h, cn_f]
      exact ih
theorem b_Contains_int.ev (s : List Int) (v : Int) (hs : s.length < 9223372036854775807) : Ev (fun k => b_Contains_int.f k s v) (decide (v ∈ s)) := by
  refine Ev.congr ?_ fun k => b_Contains_int.f_eq k s v
  refine Ev.bind (b_Index_int.ev s v hs) ?_
  rw [fidx_any, any_eq]
  exact .const fun _ => rfl
theorem b_Index_bool.ev (s : List Bool) (v : Bool) (hs : s.length < 9223372036854775807) : Ev (fun k => b_Index_bool.f k s v) (fidx (fun x => v == x) s 0) := by
  refine Ev.congr ?_ fun k => b_Index_bool.f_eq k s v
  refine Ev2.diag (g := fun k m => b_Index_bool.l0 k m s v (s.length : Int) 0) ?_
  refine Ev2.look s false (fun k m j => b_Index_bool.l0 k m s v (s.length : Int) (j : Int)) (fun l j => fidx (fun x => v == x) l j) ?_ ?_
  · refine .step ?_ fun k m => b_Index_bool.l0_s k m _ _ _ _
    simp (disch := omega) only [Int.toNat_natCast, decide_eq_true, decide_eq_false, Bool.not_true, Bool.not_false, Bool.true_and, Bool.false_and, Bool.and_true, Bool.and_false, cn_t, cn_f, gd_t, inb_nat, wrap_succ, wrap_eq, Option.bind_some, both_self, fidx]
    exact .const fun _ _ => rfl
  · intro j x l _ hj hx ih
    refine .step ?_ fun k m => b_Index_bool.l0_s k m _ _ _ _
    simp (disch := omega) only [Int.toNat_natCast, decide_eq_true, decide_eq_false, Bool.not_true, Bool.not_false, Bool.true_and, Bool.false_and, Bool.and_true, Bool.and_false, cn_t, cn_f, gd_t, inb_nat, wrap_succ, wrap_eq, Option.bind_some, both_self, hx, fidx]
    cases h : (v == x) with
    | true => exact .const fun _ _ => rfl
    | false =>
      simp only [cn_f]
      exact ih
theorem b_Contains_bool.ev (s : List Bool) (v : Bool) (hs : s.length < 9223372036854775807) : Ev (fun k => b_Contains_bool.f k s v) (s.any fun x => v == x) := by
  refine Ev.congr ?_ fun k => b_Contains_bool.f_eq k s v
  refine Ev.bind (b_Index_bool.ev s v hs) ?_
  rw [fidx_any]
  exact .const fun _ => rfl
theorem s_l1Has.ev (s : List Int) (v : Int) (hs : s.length < 9223372036854775807) : Ev (fun k => s_l1Has.f k s v) (decide (v ∈ s)) := by
  refine Ev.congr ?_ fun k => s_l1Has.f_eq k s v
  refine Ev2.diag (g := fun k m => s_l1Has.l0 k m v s (s.length : Int) 0) ?_
  refine Ev2.look s 0 (fun k m j => s_l1Has.l0 k m v s (s.length : Int) (j : Int)) (fun l j => decide (v ∈ l)) ?_ ?_
  · refine .step ?_ fun k m => s_l1Has.l0_s k m _ _ _ _
    simp (disch := omega) only [Int.toNat_natCast, decide_eq_true, decide_eq_false, Bool.not_true, Bool.not_false, Bool.true_and, Bool.false_and, Bool.and_true, Bool.and_false, cn_t, cn_f, gd_t, inb_nat, wrap_succ, wrap_eq, Option.bind_some, both_self]
    exact .const fun _ _ => by simp
  · intro j x l _ hj hx ih
    refine .step ?_ fun k m => s_l1Has.l0_s k m _ _ _ _
    simp (disch := omega) only [Int.toNat_natCast, decide_eq_true, decide_eq_false, Bool.not_true, Bool.not_false, Bool.true_and, Bool.false_and, Bool.and_true, Bool.and_false, cn_t, cn_f, gd_t, inb_nat, wrap_succ, wrap_eq, Option.bind_some, both_self, hx]
    by_cases h : x = v
    · simp only [decide_eq_true h, cn_t]
      exact .const fun _ _ => by simp [h]
    · simp only [decide_eq_false h, cn_f]
      rw [show decide (v ∈ x :: l) = decide (v ∈ l) by simp [Ne.symm h]]
      exact ih
theorem b_Equal_int.ev (a b : List Int) (ha : a.length < 9223372036854775807) : Ev (fun k => b_Equal_int.f k a b) (decide (a = b)) := by
  refine Ev.congr ?_ fun k => b_Equal_int.f_eq k a b
  by_cases hl : a.length = b.length
  · simp (disch := omega) only [Int.toNat_natCast, decide_eq_true, decide_eq_false, Bool.not_true, Bool.not_false, Bool.true_and, Bool.false_and, Bool.and_true, Bool.and_false, cn_t, cn_f, gd_t, inb_nat, wrap_succ, wrap_eq, Option.bind_some, both_self]
    refine Ev2.diag (g := fun k m => b_Equal_int.l0 k m a b (a.length : Int) 0) ?_
    have := Ev2.look a 0 (fun k m j => b_Equal_int.l0 k m a b (a.length : Int) (j : Int)) (fun l j => decide (l = b.drop j)) ?_ ?_
    · simpa using this
    · refine .step ?_ fun k m => b_Equal_int.l0_s k m _ _ _ _
      simp (disch := omega) only [Int.toNat_natCast, decide_eq_true, decide_eq_false, Bool.not_true, Bool.not_false, Bool.true_and, Bool.false_and, Bool.and_true, Bool.and_false, cn_t, cn_f, gd_t, inb_nat, wrap_succ, wrap_eq, Option.bind_some, both_self]
      rw [hl, List.drop_length, decide_eq_true rfl]
      exact .const fun _ _ => rfl
    · intro j x l _ hj hx ih
      refine .step ?_ fun k m => b_Equal_int.l0_s k m _ _ _ _
      simp (disch := omega) only [Int.toNat_natCast, decide_eq_true, decide_eq_false, Bool.not_true, Bool.not_false, Bool.true_and, Bool.false_and, Bool.and_true, Bool.and_false, cn_t, cn_f, gd_t, inb_nat, wrap_succ, wrap_eq, Option.bind_some, both_self, hx]
      rw [drop_cons (d := 0) (by omega : j < b.length)]
      by_cases h : x = getAt 0 b j
      · simp only [decide_eq_true h, Bool.not_true, cn_f]
        rw [show decide (x :: l = getAt 0 b j :: b.drop (j + 1)) = decide (l = b.drop (j + 1)) by simp [h]]
        exact ih
      · simp only [decide_eq_false h, Bool.not_false, cn_t]
        exact .const fun _ _ => by simp [h]
  · simp (disch := omega) only [Int.toNat_natCast, decide_eq_true, decide_eq_false, Bool.not_true, Bool.not_false, Bool.true_and, Bool.false_and, Bool.and_true, Bool.and_false, cn_t, cn_f, gd_t, inb_nat, wrap_succ, wrap_eq, Option.bind_some, both_self]
    rw [decide_eq_false (fun e => hl (by rw [e]))]
    exact .const fun _ => rfl
theorem s_l1Same.ev (a b : List Int) (ha : a.length < 9223372036854775807) : Ev (fun k => s_l1Same.f k a b) (decide (a = b)) := by
  refine Ev.congr ?_ fun k => s_l1Same.f_eq k a b
  by_cases hl : a.length = b.length
  · simp (disch := omega) only [Int.toNat_natCast, decide_eq_true, decide_eq_false, Bool.not_true, Bool.not_false, Bool.true_and, Bool.false_and, Bool.and_true, Bool.and_false, cn_t, cn_f, gd_t, inb_nat, wrap_succ, wrap_eq, Option.bind_some, both_self]
    refine Ev2.diag (g := fun k m => s_l1Same.l0 k m a b (a.length : Int) 0) ?_
    have := Ev2.look a 0 (fun k m j => s_l1Same.l0 k m a b (a.length : Int) (j : Int)) (fun l j => decide (l = b.drop j)) ?_ ?_
    · simpa using this
    · refine .step ?_ fun k m => s_l1Same.l0_s k m _ _ _ _
      simp (disch := omega) only [Int.toNat_natCast, decide_eq_true, decide_eq_false, Bool.not_true, Bool.not_false, Bool.true_and, Bool.false_and, Bool.and_true, Bool.and_false, cn_t, cn_f, gd_t, inb_nat, wrap_succ, wrap_eq, Option.bind_some, both_self]
      rw [hl, List.drop_length, decide_eq_true rfl]
      exact .const fun _ _ => rfl
    · intro j x l _ hj hx ih
      refine .step ?_ fun k m => s_l1Same.l0_s k m _ _ _ _
      simp (disch := omega) only [Int.toNat_natCast, decide_eq_true, decide_eq_false, Bool.not_true, Bool.not_false, Bool.true_and, Bool.false_and, Bool.and_true, Bool.and_false, cn_t, cn_f, gd_t, inb_nat, wrap_succ, wrap_eq, Option.bind_some, both_self, hx]
      rw [drop_cons (d := 0) (by omega : j < b.length)]
      by_cases h : x = getAt 0 b j
      · simp only [decide_eq_true h, Bool.not_true, cn_f]
        rw [show decide (x :: l = getAt 0 b j :: b.drop (j + 1)) = decide (l = b.drop (j + 1)) by simp [h]]
        exact ih
      · simp only [decide_eq_false h, Bool.not_false, cn_t]
        exact .const fun _ _ => by simp [h]
  · simp (disch := omega) only [Int.toNat_natCast, decide_eq_true, decide_eq_false, Bool.not_true, Bool.not_false, Bool.true_and, Bool.false_and, Bool.and_true, Bool.and_false, cn_t, cn_f, gd_t, inb_nat, wrap_succ, wrap_eq, Option.bind_some, both_self]
    rw [decide_eq_false (fun e => hl (by rw [e]))]
    exact .const fun _ => rfl
theorem b_Clone_string.eq (k : Nat) (s : List ByteArray) (hs : s.length ≤ 1073741824) : b_Clone_string.f k s = some s := by
  have h : appOk (0 + s.length) (Try.prog.bytesOf (9 : Nat)) = true := appOk_le bytes_string (by omega)
  rw [b_Clone_string.f_eq, h]
  cases s <;> simp only [noEl, cn_t, cn_f, gd_t, List.nil_append, both_self]
theorem b_Clone_bool.eq (k : Nat) (s : List Bool) (hs : s.length ≤ 1073741824) : b_Clone_bool.f k s = some s := by
  have h : appOk (0 + s.length) (Try.prog.bytesOf (4 : Nat)) = true := appOk_le bytes_bool (by omega)
  rw [b_Clone_bool.f_eq, h]
  cases s <;> simp only [noEl, cn_t, cn_f, gd_t, List.nil_append, both_self]
/-! ### A disk after a crash -/
theorem i_ownDisk.eq (k : Nat) (p h : List ByteArray) (b : List Bool) (hp : p.length ≤ 1073741824) (hh : h.length ≤ 1073741824) (hb : b.length ≤ 1073741824) : i_ownDisk.f k p h b = some (p, h, b) := by
  rw [i_ownDisk.f_eq, b_Clone_string.eq k p hp, b_Clone_string.eq k h hh, b_Clone_bool.eq k b hb]; rfl
theorem s_l7Own.eq (k : Nat) (p h : List ByteArray) (b : List Bool) (hp : p.length ≤ 1073741824) (hh : h.length ≤ 1073741824) (hb : b.length ≤ 1073741824) : s_l7Own.f k p h b = some (p, h, b) := by
  have e1 : appOk (0 + p.length) (Try.prog.bytesOf (9 : Nat)) = true := appOk_le bytes_string (by omega)
  have e2 : appOk (0 + h.length) (Try.prog.bytesOf (9 : Nat)) = true := appOk_le bytes_string (by omega)
  have e3 : appOk (0 + b.length) (Try.prog.bytesOf (4 : Nat)) = true := appOk_le bytes_bool (by omega)
  rw [s_l7Own.f_eq]
  simp only [e1, e2, e3, gd_t, List.nil_append, both_self]
/-- What stands on the plate then. -/
def crashP (p h : List ByteArray) (kept : List Int) : List ByteArray := p.mapIdx fun i x => if (i : Int) ∈ kept then getAt ByteArray.empty h i else x
theorem crashP_len (p h : List ByteArray) (kept : List Int) : (crashP p h kept).length = p.length := by simp [crashP]
theorem crashP_get {p h : List ByteArray} {kept : List Int} {i : Nat} (hi : i < p.length) : getAt ByteArray.empty (crashP p h kept) i = if (i : Int) ∈ kept then getAt ByteArray.empty h i else getAt ByteArray.empty p i := by
  rw [getAt_lt (by rw [crashP_len]; exact hi), getAt_lt hi]
  simp [crashP]
theorem crashP_nil (p h : List ByteArray) : crashP p h [] = p :=
  getAt_ext ByteArray.empty (crashP_len p h []) fun i hi => by
    rw [crashP_len] at hi
    rw [crashP_get hi]; simp
abbrev noText (n : Nat) : List ByteArray := List.replicate n ByteArray.empty
theorem i_crashed.ev (p h : List ByteArray) (b : List Bool) (kept : List Int) (hp : p.length ≤ 1073741824) (hh : h.length = p.length) (hb : b.length ≤ 1073741824) (hk : kept.length < 9223372036854775807) : Ev (fun k => i_crashed.f k p h b kept) (crashP p h kept, noText p.length, b) := by
  refine Ev.congr ?_ fun k => i_crashed.f_eq k p h b kept
  simp (disch := omega) only [Int.toNat_natCast, decide_eq_true, decide_eq_false, Bool.not_true, Bool.not_false, Bool.true_and, Bool.false_and, Bool.and_true, Bool.and_false, cn_t, cn_f, gd_t, inb_nat, wrap_succ, wrap_eq, Option.bind_some, both_self, i_ownDisk.eq]
  refine Ev2.diag (g := fun k m => i_crashed.l0 k m kept (h.length : Int) 0 p h b) ?_
  have lc := crashP_len p h kept
  have ln : (noText p.length).length = p.length := by simp
  have := Ev2.each (noText p.length) ByteArray.empty (fun k m j (st : List ByteArray × List ByteArray) => i_crashed.l0 k m kept (h.length : Int) (j : Int) st.1 st.2 b) (fun j st => st.1 = mid (crashP p h kept) p j ∧ st.2 = mid (noText p.length) h j) (fun _ _ _ => (crashP p h kept, noText p.length, b)) ?_ ?_ p.length 0 (p, h) (by simp) (by simp [mid_zero])
  · exact this
  · rintro ⟨x, y⟩ ⟨rfl, rfl⟩
    refine .step ?_ fun k m => i_crashed.l0_s k m _ _ _ _ _ _
    simp (disch := omega) only [Int.toNat_natCast, decide_eq_true, decide_eq_false, Bool.not_true, Bool.not_false, Bool.true_and, Bool.false_and, Bool.and_true, Bool.and_false, cn_t, cn_f, gd_t, inb_nat, wrap_succ, wrap_eq, Option.bind_some, both_self, ln]
    rw [mid_all (by omega) (by omega), mid_all (by simp) (by simp; omega)]
    exact .const fun _ _ => rfl
  · rintro j x l ⟨y, z⟩ _ hj hx ⟨rfl, rfl⟩ ih
    have hj : j < p.length := by simpa using hj
    have l1 : (mid (crashP p h kept) p j).length = p.length := by rw [mid_len j (by omega), lc]
    have l2 : (mid (noText p.length) h j).length = p.length := by rw [mid_len j (by simp; omega)]; simp
    have s2 : (mid (noText p.length) h j).set j ByteArray.empty = mid (noText p.length) h (j + 1) := mid_set (d := ByteArray.empty) (by simp; omega) (by simpa using hj) (getAt_replicate _ _ _).symm
    have g2 : getAt ByteArray.empty (mid (noText p.length) h j) j = getAt ByteArray.empty h j := mid_get (by simp; omega) (by simpa using hj)
    refine .step ?_ fun k m => i_crashed.l0_s k m _ _ _ _ _ _
    simp (disch := omega) only [Int.toNat_natCast, decide_eq_true, decide_eq_false, Bool.not_true, Bool.not_false, Bool.true_and, Bool.false_and, Bool.and_true, Bool.and_false, cn_t, cn_f, gd_t, inb_nat, wrap_succ, wrap_eq, Option.bind_some, both_self]
    refine .bind (b_Contains_int.ev kept j hk) ?_
    by_cases hm : (j : Int) ∈ kept
    · simp (disch := omega) only [Int.toNat_natCast, decide_eq_true, decide_eq_false, Bool.not_true, Bool.not_false, Bool.true_and, Bool.false_and, Bool.and_true, Bool.and_false, cn_t, cn_f, gd_t, inb_nat, wrap_succ, wrap_eq, Option.bind_some, both_self, decide_eq_true hm, s2, g2]
      refine ih (_, _) ⟨?_, rfl⟩
      exact mid_set (d := ByteArray.empty) (by omega) (by omega) (by rw [crashP_get hj, if_pos hm])
    · simp (disch := omega) only [Int.toNat_natCast, decide_eq_true, decide_eq_false, Bool.not_true, Bool.not_false, Bool.true_and, Bool.false_and, Bool.and_true, Bool.and_false, cn_t, cn_f, gd_t, inb_nat, wrap_succ, wrap_eq, Option.bind_some, both_self, decide_eq_false hm, s2]
      refine ih (_, _) ⟨?_, rfl⟩
      exact mid_keep (d := ByteArray.empty) (by omega) (by omega) (by rw [crashP_get hj, if_neg hm])
theorem s_l7Crash.ev (p h : List ByteArray) (b : List Bool) (kept : List Int) (hp : p.length ≤ 1073741824) (hh : h.length = p.length) (hk : kept.length < 9223372036854775807) : Ev (fun k => s_l7Crash.f k p h b kept) (((), (), ()), crashP p h kept, noText p.length, b) := by
  refine Ev.congr ?_ fun k => s_l7Crash.f_eq k p h b kept
  refine Ev2.diag (g := fun k m => s_l7Crash.l0 k m kept (h.length : Int) 0 p h b) ?_
  have lc := crashP_len p h kept
  have ln : (noText p.length).length = p.length := by simp
  have := Ev2.each (noText p.length) ByteArray.empty (fun k m j (st : List ByteArray × List ByteArray) => s_l7Crash.l0 k m kept (h.length : Int) (j : Int) st.1 st.2 b) (fun j st => st.1 = mid (crashP p h kept) p j ∧ st.2 = mid (noText p.length) h j) (fun _ _ _ => (((), (), ()), crashP p h kept, noText p.length, b)) ?_ ?_ p.length 0 (p, h) (by simp) (by simp [mid_zero])
  · exact this
  · rintro ⟨x, y⟩ ⟨rfl, rfl⟩
    refine .step ?_ fun k m => s_l7Crash.l0_s k m _ _ _ _ _ _
    simp (disch := omega) only [Int.toNat_natCast, decide_eq_true, decide_eq_false, Bool.not_true, Bool.not_false, Bool.true_and, Bool.false_and, Bool.and_true, Bool.and_false, cn_t, cn_f, gd_t, inb_nat, wrap_succ, wrap_eq, Option.bind_some, both_self, ln]
    rw [mid_all (by omega) (by omega), mid_all (by simp) (by simp; omega)]
    exact .const fun _ _ => rfl
  · rintro j x l ⟨y, z⟩ _ hj hx ⟨rfl, rfl⟩ ih
    have hj : j < p.length := by simpa using hj
    have l1 : (mid (crashP p h kept) p j).length = p.length := by rw [mid_len j (by omega), lc]
    have l2 : (mid (noText p.length) h j).length = p.length := by rw [mid_len j (by simp; omega)]; simp
    have s2 : (mid (noText p.length) h j).set j ByteArray.empty = mid (noText p.length) h (j + 1) := mid_set (d := ByteArray.empty) (by simp; omega) (by simpa using hj) (getAt_replicate _ _ _).symm
    have g2 : getAt ByteArray.empty (mid (noText p.length) h j) j = getAt ByteArray.empty h j := mid_get (by simp; omega) (by simpa using hj)
    refine .step ?_ fun k m => s_l7Crash.l0_s k m _ _ _ _ _ _
    simp (disch := omega) only [Int.toNat_natCast, decide_eq_true, decide_eq_false, Bool.not_true, Bool.not_false, Bool.true_and, Bool.false_and, Bool.and_true, Bool.and_false, cn_t, cn_f, gd_t, inb_nat, wrap_succ, wrap_eq, Option.bind_some, both_self]
    refine .bind (s_l1Has.ev kept j hk) ?_
    by_cases hm : (j : Int) ∈ kept
    · simp (disch := omega) only [Int.toNat_natCast, decide_eq_true, decide_eq_false, Bool.not_true, Bool.not_false, Bool.true_and, Bool.false_and, Bool.and_true, Bool.and_false, cn_t, cn_f, gd_t, inb_nat, wrap_succ, wrap_eq, Option.bind_some, both_self, decide_eq_true hm, s2, g2]
      refine ih (_, _) ⟨?_, rfl⟩
      exact mid_set (d := ByteArray.empty) (by omega) (by omega) (by rw [crashP_get hj, if_pos hm])
    · simp (disch := omega) only [Int.toNat_natCast, decide_eq_true, decide_eq_false, Bool.not_true, Bool.not_false, Bool.true_and, Bool.false_and, Bool.and_true, Bool.and_false, cn_t, cn_f, gd_t, inb_nat, wrap_succ, wrap_eq, Option.bind_some, both_self, decide_eq_false hm, s2]
      refine ih (_, _) ⟨?_, rfl⟩
      exact mid_keep (d := ByteArray.empty) (by omega) (by omega) (by rw [crashP_get hj, if_neg hm])
theorem gdAll_iff {p h : List ByteArray} {b : List Bool} : ∀ {n j : Nat}, gdAll p h b n j = true ↔ ∀ i, j ≤ i → i < j + n → (getAt ByteArray.empty p i).size ≤ 28 ∧ (getAt ByteArray.empty h i).size ≤ 28 ∧ (getAt false b i = true → getAt ByteArray.empty h i = ByteArray.empty)
  | 0, j => by simp [gdAll]; intro i h1 h2; omega
  | n + 1, j => by
    have ih := gdAll_iff (p := p) (h := h) (b := b) (n := n) (j := j + 1)
    have hs : (∀ i, j ≤ i → i < j + (n + 1) → (getAt ByteArray.empty p i).size ≤ 28 ∧ (getAt ByteArray.empty h i).size ≤ 28 ∧ (getAt false b i = true → getAt ByteArray.empty h i = ByteArray.empty)) ↔
        ((getAt ByteArray.empty p j).size ≤ 28 ∧ (getAt ByteArray.empty h j).size ≤ 28 ∧ (getAt false b j = true → getAt ByteArray.empty h j = ByteArray.empty)) ∧ ∀ i, j + 1 ≤ i → i < j + 1 + n → (getAt ByteArray.empty p i).size ≤ 28 ∧ (getAt ByteArray.empty h i).size ≤ 28 ∧ (getAt false b i = true → getAt ByteArray.empty h i = ByteArray.empty) := by
      constructor
      · exact fun H => ⟨H j (by omega) (by omega), fun i h1 h2 => H i (by omega) (by omega)⟩
      · rintro ⟨h0, H⟩ i h1 h2
        rcases Nat.lt_or_ge j i with h3 | h3
        · exact H i (by omega) (by omega)
        · obtain rfl : i = j := by omega
          exact h0
    rw [hs, gdAll_s, ← ih]
    by_cases h1 : (28 : Int) < ((getAt ByteArray.empty p j).size : Int)
    · rw [if_pos h1]; constructor
      · intro h; cases h
      · rintro ⟨⟨h, _⟩, _⟩; omega
    rw [if_neg h1]
    by_cases h2 : (28 : Int) < ((getAt ByteArray.empty h j).size : Int)
    · rw [if_pos h2]; constructor
      · intro h; cases h
      · rintro ⟨⟨_, h, _⟩, _⟩; omega
    rw [if_neg h2]
    have e : ((getAt ByteArray.empty h j).toList = ByteArray.empty.toList) = (getAt ByteArray.empty h j = ByteArray.empty) := propext byteArray_toList_eq
    cases hb : getAt false b j with
    | false =>
      rw [if_neg (by decide)]; constructor
      · exact fun H => ⟨⟨by omega, by omega, fun h => by cases h⟩, H⟩
      · exact fun H => H.2
    | true =>
      rw [if_pos rfl]
      by_cases h3 : getAt ByteArray.empty h j = ByteArray.empty
      · rw [if_pos (by rw [e]; exact h3)]; constructor
        · exact fun H => ⟨⟨by omega, by omega, fun _ => h3⟩, H⟩
        · exact fun H => H.2
      · rw [if_neg (by rw [e]; exact h3)]; constructor
        · intro h; cases h
        · rintro ⟨⟨_, _, h⟩, _⟩; exact absurd (h rfl) h3
theorem goodD_iff {p h : List ByteArray} {b : List Bool} : goodD p h b = true ↔ (1 ≤ p.length ∧ p.length ≤ 24 ∧ h.length = p.length ∧ b.length = p.length) ∧ ∀ i, i < p.length → (getAt ByteArray.empty p i).size ≤ 28 ∧ (getAt ByteArray.empty h i).size ≤ 28 ∧ (getAt false b i = true → getAt ByteArray.empty h i = ByteArray.empty) := by
  unfold goodD
  rw [Bool.and_eq_true, decide_eq_true_iff, gdAll_iff]
  simp
theorem goodD_crash {p h : List ByteArray} {b : List Bool} (g : goodD p h b = true) (kept : List Int) : goodD (crashP p h kept) (noText p.length) b = true := by
  obtain ⟨⟨g1, g2, g3, g4⟩, g5⟩ := goodD_iff.1 g
  refine goodD_iff.2 ⟨⟨by rw [crashP_len]; omega, by rw [crashP_len]; omega, by rw [crashP_len]; simp, by rw [crashP_len]; omega⟩, fun i hi => ?_⟩
  rw [crashP_len] at hi
  rw [crashP_get hi, getAt_replicate]
  obtain ⟨h1, h2, h3⟩ := g5 i hi
  refine ⟨?_, by decide, fun _ => rfl⟩
  split <;> assumption
/-! ### States -/
def isSt (v : List Int) : Bool := v.all (fun x => decide (0 ≤ x ∧ x ≤ 65535)) && decide (v.length = 6)
theorem i_isState_1.eq (k : Nat) (n : Int) : i_isState_1.f k n = some (!decide (0 ≤ n ∧ n ≤ 65535)) := by rw [i_isState_1.f_eq, i_within.eq, Option.bind_some]
theorem b_IndexFunc_int__i_isState_1.ev (s : List Int) (hs : s.length < 9223372036854775807) : Ev (fun k => b_IndexFunc_int__i_isState_1.f k s) (fidx (fun x => !decide (0 ≤ x ∧ x ≤ 65535)) s 0) := by
  refine Ev.congr ?_ fun k => b_IndexFunc_int__i_isState_1.f_eq k s
  refine Ev2.diag (g := fun k m => b_IndexFunc_int__i_isState_1.l0 k m s (s.length : Int) 0) ?_
  refine Ev2.look s 0 (fun k m j => b_IndexFunc_int__i_isState_1.l0 k m s (s.length : Int) (j : Int)) (fun l j => fidx (fun x => !decide (0 ≤ x ∧ x ≤ 65535)) l j) ?_ ?_
  · refine .step ?_ fun k m => b_IndexFunc_int__i_isState_1.l0_s k m _ _ _
    simp (disch := omega) only [Int.toNat_natCast, decide_eq_true, decide_eq_false, Bool.not_true, Bool.not_false, Bool.true_and, Bool.false_and, Bool.and_true, Bool.and_false, cn_t, cn_f, gd_t, inb_nat, wrap_succ, wrap_eq, Option.bind_some, both_self, fidx]
    exact .const fun _ _ => rfl
  · intro j x l _ hj hx ih
    refine .step ?_ fun k m => b_IndexFunc_int__i_isState_1.l0_s k m _ _ _
    simp (disch := omega) only [Int.toNat_natCast, decide_eq_true, decide_eq_false, Bool.not_true, Bool.not_false, Bool.true_and, Bool.false_and, Bool.and_true, Bool.and_false, cn_t, cn_f, gd_t, inb_nat, wrap_succ, wrap_eq, Option.bind_some, both_self, hx, fidx, i_isState_1.eq]
    by_cases h : 0 ≤ x ∧ x ≤ 65535
    · simp only [decide_eq_true h, Bool.not_true, cn_f]
      exact ih
    · simp only [decide_eq_false h, Bool.not_false, cn_t]
      exact .const fun _ _ => rfl
theorem i_isState.ev (v : List Int) (hs : v.length < 9223372036854775807) : Ev (fun k => i_isState.f k v) (isSt v) := by
  refine Ev.congr ?_ fun k => i_isState.f_eq k v
  unfold isSt
  by_cases h : v.length = 6
  · simp (disch := omega) only [Int.toNat_natCast, decide_eq_true, decide_eq_false, Bool.not_true, Bool.not_false, Bool.true_and, Bool.false_and, Bool.and_true, Bool.and_false, cn_t, cn_f, gd_t, inb_nat, wrap_succ, wrap_eq, Option.bind_some, both_self]
    refine Ev.bind (Ev.congr (Ev.bind (b_IndexFunc_int__i_isState_1.ev v hs) (.const fun _ => rfl)) fun k => b_ContainsFunc_int__i_isState_1.f_eq k v) ?_
    rw [fidx_any]
    refine .const fun _ => ?_
    rw [List.not_any_eq_all_not]
    simp only [Bool.not_not]
  · simp (disch := omega) only [Int.toNat_natCast, decide_eq_true, decide_eq_false, Bool.not_true, Bool.not_false, Bool.true_and, Bool.false_and, Bool.and_true, Bool.and_false, cn_t, cn_f, gd_t, inb_nat, wrap_succ, wrap_eq, Option.bind_some, both_self]
    exact .const fun _ => rfl
theorem s_l15State.ev (v : List Int) (hs : v.length < 9223372036854775807) : Ev (fun k => s_l15State.f k v) (isSt v) := by
  refine Ev.congr ?_ fun k => s_l15State.f_eq k v
  refine Ev2.diag (g := fun k m => s_l15State.l0 k m v v (v.length : Int) 0) ?_
  refine Ev2.look v 0 (fun k m j => s_l15State.l0 k m v v (v.length : Int) (j : Int)) (fun l j => l.all (fun x => decide (0 ≤ x ∧ x ≤ 65535)) && decide (v.length = 6)) ?_ ?_
  · refine .step ?_ fun k m => s_l15State.l0_s k m _ _ _ _
    simp (disch := omega) only [Int.toNat_natCast, decide_eq_true, decide_eq_false, Bool.not_true, Bool.not_false, Bool.true_and, Bool.false_and, Bool.and_true, Bool.and_false, cn_t, cn_f, gd_t, inb_nat, wrap_succ, wrap_eq, Option.bind_some, both_self]
    refine .const fun _ _ => ?_
    rw [List.all_nil, Bool.true_and]
    exact congrArg some (Bool.eq_iff_iff.2 (by rw [decide_eq_true_iff, decide_eq_true_iff]; omega))
  · intro j x l _ hj hx ih
    refine .step ?_ fun k m => s_l15State.l0_s k m _ _ _ _
    simp (disch := omega) only [Int.toNat_natCast, decide_eq_true, decide_eq_false, Bool.not_true, Bool.not_false, Bool.true_and, Bool.false_and, Bool.and_true, Bool.and_false, cn_t, cn_f, gd_t, inb_nat, wrap_succ, wrap_eq, Option.bind_some, both_self, hx, s_l1In.eq]
    by_cases h : 0 ≤ x ∧ x ≤ 65535
    · simp only [decide_eq_true h, Bool.not_true, cn_f, List.all_cons, Bool.true_and]
      exact ih
    · simp only [decide_eq_false h, Bool.not_false, cn_t, List.all_cons, Bool.false_and]
      exact .const fun _ _ => rfl
/-! ### The law's own, of journals -/
theorem w_szIntS.ev (a : List Int) (ha : a.length ≤ maxLen) (left : Int) (h0 : 0 ≤ left) (h1 : left ≤ 1048576) :
    ∃ r : Int, Ev (fun k => w_szIntS.f k a left) r ∧ (r < 0 ∨ (0 ≤ r ∧ r ≤ left ∧ a.length ≤ 1048576)) := by
  rw [maxLen_eq] at ha
  by_cases h : left - (a.length : Int) < 0
  · refine ⟨-1, .const fun k => ?_, .inl (by omega)⟩
    rw [w_szIntS.f_eq]
    simp (disch := omega) only [Int.toNat_natCast, decide_eq_true, decide_eq_false, Bool.not_true, Bool.not_false, Bool.true_and, Bool.false_and, Bool.and_true, Bool.and_false, cn_t, cn_f, gd_t, inb_nat, wrap_succ, wrap_eq, Option.bind_some, both_self]
  · refine ⟨left - a.length, .const fun k => ?_, .inr ⟨by omega, by omega, by omega⟩⟩
    rw [w_szIntS.f_eq]
    simp (disch := omega) only [Int.toNat_natCast, decide_eq_true, decide_eq_false, Bool.not_true, Bool.not_false, Bool.true_and, Bool.false_and, Bool.and_true, Bool.and_false, cn_t, cn_f, gd_t, inb_nat, wrap_succ, wrap_eq, Option.bind_some, both_self]
theorem w_szJournal.ev (p h : List ByteArray) (b : List Bool) (e ph : Int) (x y : List Int) (op : okK (.sl 9 .str) p) (oh : okK (.sl 9 .str) h) (ob : okK (.sl 4 .bool) b) (ox : okK (.sl 3 (.int .i64)) x) (oy : okK (.sl 3 (.int .i64)) y) (left : Int) (h0 : 0 ≤ left) (h1 : left ≤ 1048576) :
    ∃ r : Int, Ev (fun k => w_szJournal.f k p h b e ph x y left) r ∧ (r < 0 ∨ (0 ≤ r ∧ r ≤ left ∧ p.length ≤ 1048576 ∧ h.length ≤ 1048576 ∧ b.length ≤ 1048576 ∧ x.length ≤ 1048576 ∧ y.length ≤ 1048576)) := by
  obtain ⟨r1, e1, c1⟩ := w_szDisk.ev p h b op oh ob left h0 h1
  rcases c1 with c1 | ⟨a1, a2, a3, a4, a5⟩
  · exact ⟨-1, Ev.congr (Ev.bind e1 (.const fun k => by rw [cnT c1])) (fun k => w_szJournal.f_eq k p h b e ph x y left), .inl (by omega)⟩
  obtain ⟨r2, e2, c2⟩ := w_szIntS.ev x ox.1 r1 a1 (by omega)
  rcases c2 with c2 | ⟨b1, b2, b3⟩
  · refine ⟨-1, Ev.congr (Ev.bind e1 ?_) (fun k => w_szJournal.f_eq k p h b e ph x y left), .inl (by omega)⟩
    simp (disch := omega) only [Int.toNat_natCast, decide_eq_true, decide_eq_false, Bool.not_true, Bool.not_false, Bool.true_and, Bool.false_and, Bool.and_true, Bool.and_false, cn_t, cn_f, gd_t, inb_nat, wrap_succ, wrap_eq, Option.bind_some, both_self]
    exact .bind e2 (.const fun k => by rw [cnT c2])
  obtain ⟨r3, e3, c3⟩ := w_szIntS.ev y oy.1 r2 b1 (by omega)
  rcases c3 with c3 | ⟨d1, d2, d3⟩
  · refine ⟨-1, Ev.congr (Ev.bind e1 ?_) (fun k => w_szJournal.f_eq k p h b e ph x y left), .inl (by omega)⟩
    simp (disch := omega) only [Int.toNat_natCast, decide_eq_true, decide_eq_false, Bool.not_true, Bool.not_false, Bool.true_and, Bool.false_and, Bool.and_true, Bool.and_false, cn_t, cn_f, gd_t, inb_nat, wrap_succ, wrap_eq, Option.bind_some, both_self]
    refine .bind e2 ?_
    simp (disch := omega) only [Int.toNat_natCast, decide_eq_true, decide_eq_false, Bool.not_true, Bool.not_false, Bool.true_and, Bool.false_and, Bool.and_true, Bool.and_false, cn_t, cn_f, gd_t, inb_nat, wrap_succ, wrap_eq, Option.bind_some, both_self]
    exact .bind e3 (.const fun k => by rw [cnT c3])
  · refine ⟨r3, Ev.congr (Ev.bind e1 ?_) (fun k => w_szJournal.f_eq k p h b e ph x y left), .inr ⟨d1, by omega, a3, a4, a5, b3, d3⟩⟩
    simp (disch := omega) only [Int.toNat_natCast, decide_eq_true, decide_eq_false, Bool.not_true, Bool.not_false, Bool.true_and, Bool.false_and, Bool.and_true, Bool.and_false, cn_t, cn_f, gd_t, inb_nat, wrap_succ, wrap_eq, Option.bind_some, both_self]
    refine .bind e2 ?_
    simp (disch := omega) only [Int.toNat_natCast, decide_eq_true, decide_eq_false, Bool.not_true, Bool.not_false, Bool.true_and, Bool.false_and, Bool.and_true, Bool.and_false, cn_t, cn_f, gd_t, inb_nat, wrap_succ, wrap_eq, Option.bind_some, both_self]
    exact .bind e3 (.const fun k => by rw [cnF (show ¬ r3 < 0 by omega)])
theorem w_toJournal.ev (p h : List ByteArray) (b : List Bool) (e ph : Int) (x y : List Int) (hp : p.length ≤ 1048576) (hh : h.length ≤ 1048576) (hb : b.length ≤ 1048576) (hx : x.length ≤ 1048576) (hy : y.length ≤ 1048576) : Ev (fun k => w_toJournal.f k p h b e ph x y) (p, h, b, e, ph, x, y) := by
  refine Ev.congr ?_ (fun k => w_toJournal.f_eq k p h b e ph x y)
  refine Ev.bind (w_toDisk.ev p h b hp hh hb) ?_
  refine Ev.bind (w_toIntS.ev x hx) ?_
  refine Ev.bind (w_toIntS.ev y hy) ?_
  exact .const fun k => rfl
theorem w_eqJournal.ev (p h : List ByteArray) (b : List Bool) (e ph : Int) (x y : List Int) (hp : p.length ≤ maxLen) (hh : h.length ≤ maxLen) (hb : b.length ≤ maxLen) (hx : x.length ≤ maxLen) (hy : y.length ≤ maxLen) : Ev (fun k => w_eqJournal.f k p h b e ph x y p h b e ph x y) true := by
  refine Ev.congr ?_ (fun k => w_eqJournal.f_eq k p h b e ph x y p h b e ph x y)
  refine Ev.bind (w_eqDisk.ev p h b hp hh hb) ?_
  simp only [Bool.not_true, cn_f, decide_true]
  refine Ev.bind (w_eqIntS.ev x hx) ?_
  simp only [Bool.not_true, cn_f]
  refine Ev.bind (w_eqIntS.ev y hy) ?_
  exact .const fun k => rfl
/-! ### Journals that are good -/
theorem recover_both (p h : List ByteArray) (b : List Bool) (g : goodD p h b = true) (h5 : p.length = 5) : ∃ r : List Int × Int × Bool, (∀ k, 40 ≤ k → i_RecoverFrom.f k p h b = some r) ∧ (∀ k, 40 ≤ k → s_l15Recover.f k p h b = some (if r.2.2 = true then (r.1, r.2.1) else ([], -1))) ∧ r.1.length ≤ 6 ∧ (r.2.2 = true → 0 ≤ r.2.1 ∧ r.2.1 ≤ 60000) ∧ (r.2.2 = false → r = ([], 0, false)) := by
  obtain ⟨g1, g2, g3, g4⟩ := goodD_len g
  obtain ⟨rd, hrd, hrd0⟩ := s_l7Read.at p h b g3 g4 0 (by omega)
  have hird : ∀ k, 40 ≤ k → i_ReadSector.f k p h b 0 = some rd := fun k hk => by
    have := i_ReadSector.eq p h b g 0 (by omega) k (by omega)
    rw [show ((0 : Nat) : Int) = 0 from rfl] at this
    rw [this]; exact hrd k
  have hrd : ∀ k, s_l7Read.f k p h b 0 = some rd := hrd
  obtain ⟨cf, hci, hcs, hce, hc28⟩ := checkFrame_same rd.1 4 0 0
  have hI : ∀ k, 40 ≤ k → i_RecoverFrom.f k p h b = cn (!cf.2.2) (some ([], 0, false)) (i_RecoverFrom.l0 k k 0 p h b cf.1.1 cf.1.2.1 cf.1.2.2.1 cf.1.2.2.2 []) := fun k hk => by
    rw [i_RecoverFrom.f_eq, i_GoodDisk.eq k (by omega), g, cnNT (show (p.length : Int) = 5 by omega), Option.bind_some, hird k hk, Option.bind_some, hci k hk, Option.bind_some]; rfl
  have hR : ∀ k, 40 ≤ k → s_l15Recover.f k p h b = cn (!rd.2) (some ([], -1)) (cn (!cf.2.2) (some ([], -1)) (s_l15Recover.l0 k k (IntKind.i64.wrap ((1 : Int) + IntKind.i64.wrap ((2 : Int) * cf.1.2.2.1.tmod (2 : Int)))) 0 p h b cf.1.1 cf.1.2.1 cf.1.2.2.1 cf.1.2.2.2 [])) := fun k hk => by
    rw [s_l15Recover.f_eq, hrd k, Option.bind_some, hcs k hk, Option.bind_some, s_l15Half.f_eq, Option.bind_some]
  cases hok : cf.2.2 with
  | false => exact ⟨([], 0, false), fun k hk => by rw [hI k hk, hok]; rfl, fun k hk => by rw [hR k hk, hok]; cases rd.2 <;> rfl, by simp, fun h => (by cases h), fun _ => rfl⟩
  | true =>
    have hrt : rd.2 = true := by
      cases hr : rd.2 with
      | true => rfl
      | false =>
        have := hrd0 hr
        rw [this] at hc28
        have := hc28 (by decide)
        rw [hok] at this; cases this
    obtain ⟨c1, c2⟩ := hce hok
    obtain ⟨r, r1, r2, r3, r4, r5⟩ := recover_loop p h b g (by omega) cf.1.1 cf.1.2.1 cf.1.2.2.1 cf.1.2.2.2 c1 c2 2 0 [] (by omega) rfl
    have ht : cf.1.2.2.1.tmod 2 = 0 ∨ cf.1.2.2.1.tmod 2 = 1 := by rw [Int.tmod_eq_emod_of_nonneg c1]; omega
    have hw : IntKind.i64.wrap ((1 : Int) + IntKind.i64.wrap ((2 : Int) * cf.1.2.2.1.tmod (2 : Int))) = 1 + 2 * cf.1.2.2.1.tmod 2 := by
      rw [wrap_eq (n := 2 * cf.1.2.2.1.tmod 2) (by omega) (by omega), wrap_eq (by omega) (by omega)]
    refine ⟨r, fun k hk => ?_, fun k hk => ?_, r3, fun h => by rw [r4 h]; exact ⟨c1, c2⟩, r5⟩
    · rw [hI k hk, hok]
      simp only [Bool.not_true, cn_f]
      exact r1 k k hk (by omega)
    · rw [hR k hk, hok, hrt, hw]
      simp only [Bool.not_true, cn_f]
      rw [show s_l15Recover.l0 k k (1 + 2 * cf.1.2.2.1.tmod 2) 0 p h b cf.1.1 cf.1.2.1 cf.1.2.2.1 cf.1.2.2.2 [] = _ from r2 k k hk (by omega)]
      cases hr : r.2.2 with
      | true => rw [if_pos rfl, if_pos rfl, r4 hr]
      | false => rfl
/-- What a disk of five sectors tells. -/
noncomputable def recD (p h : List ByteArray) (b : List Bool) : List Int × Int × Bool := @dite _ (goodD p h b = true ∧ p.length = 5) (Classical.propDecidable _) (fun h => (recover_both _ _ _ h.1 h.2).choose) (fun _ => ([], 0, false))
theorem recD_spec {p h : List ByteArray} {b : List Bool} (g : goodD p h b = true) (h5 : p.length = 5) : (∀ k, 40 ≤ k → i_RecoverFrom.f k p h b = some (recD p h b)) ∧ (∀ k, 40 ≤ k → s_l15Recover.f k p h b = some (if (recD p h b).2.2 = true then ((recD p h b).1, (recD p h b).2.1) else ([], -1))) ∧ (recD p h b).1.length ≤ 6 ∧ ((recD p h b).2.2 = true → 0 ≤ (recD p h b).2.1 ∧ (recD p h b).2.1 ≤ 60000) ∧ ((recD p h b).2.2 = false → recD p h b = ([], 0, false)) := by
  unfold recD
  rw [dif_pos ⟨g, h5⟩]
  exact (recover_both _ _ _ g h5).choose_spec
theorem recD_i {p h : List ByteArray} {b : List Bool} (g : goodD p h b = true) (h5 : p.length = 5) : Ev (fun k => i_RecoverFrom.f k p h b) (recD p h b) := .of 40 (recD_spec g h5).1
theorem recD_l {p h : List ByteArray} {b : List Bool} (g : goodD p h b = true) (h5 : p.length = 5) : Ev (fun k => s_l15Recover.f k p h b) (if (recD p h b).2.2 = true then ((recD p h b).1, (recD p h b).2.1) else ([], -1)) := .of 40 (recD_spec g h5).2.1
noncomputable def goodJ (p h : List ByteArray) (b : List Bool) (e ph : Int) (x y : List Int) : Bool :=
  goodD p h b && decide (p.length = 5) && !(b.any fun v => true == v) && decide (0 ≤ ph ∧ ph ≤ 3) && isSt x && (if ph = 0 then decide (y.length = 0) else isSt y) &&
    ((recD p (noText p.length) b).2.2 && decide ((recD p (noText p.length) b).2.1 = e) && decide ((recD p (noText p.length) b).1 = x))
theorem i_GoodJournal.ev (p h : List ByteArray) (b : List Bool) (e ph : Int) (x y : List Int) (hp : p.length ≤ maxLen) (hb : b.length ≤ maxLen) (hx : x.length < maxLen) (hy : y.length < maxLen) : Ev (fun k => i_GoodJournal.f k p h b e ph x y) (goodJ p h b e ph x y) := by
  rw [maxLen_eq] at hp hb hx hy
  refine Ev.congr ?_ fun k => i_GoodJournal.f_eq k p h b e ph x y
  refine Ev.bind (.of 25 fun k hk => i_GoodDisk.eq k hk p h b) ?_
  unfold goodJ
  cases g : goodD p h b with
  | false => exact .const fun _ => rfl
  | true =>
    obtain ⟨g1, g2, g3, g4⟩ := goodD_len g
    simp only [Bool.not_true, cn_f, Bool.true_and]
    by_cases h5 : p.length = 5
    case neg => simp (disch := omega) only [Int.toNat_natCast, decide_eq_true, decide_eq_false, Bool.not_true, Bool.not_false, Bool.true_and, Bool.false_and, Bool.and_true, Bool.and_false, cn_t, cn_f, gd_t, inb_nat, wrap_succ, wrap_eq, Option.bind_some, both_self]; exact .const fun _ => rfl
    simp (disch := omega) only [Int.toNat_natCast, decide_eq_true, decide_eq_false, Bool.not_true, Bool.not_false, Bool.true_and, Bool.false_and, Bool.and_true, Bool.and_false, cn_t, cn_f, gd_t, inb_nat, wrap_succ, wrap_eq, Option.bind_some, both_self]
    refine Ev.bind (b_Contains_bool.ev b true (by omega)) ?_
    cases hbad : b.any fun v => true == v with
    | true => exact .const fun _ => rfl
    | false =>
    simp only [cn_f, Bool.not_false, Bool.true_and, i_within.eq, Option.bind_some]
    by_cases hph : 0 ≤ ph ∧ ph ≤ 3
    case neg => simp only [decide_eq_false hph, Bool.not_false, cn_t, Bool.false_and]; exact .const fun _ => rfl
    simp only [decide_eq_true hph, Bool.not_true, cn_f, Bool.true_and]
    refine Ev.bind (i_isState.ev x (by omega)) ?_
    cases hst : isSt x with
    | false => exact .const fun _ => rfl
    | true =>
    simp only [Bool.not_true, cn_f, Bool.true_and]
    have tail : Ev (fun k => (i_crashed.f k p h b []).bind fun d11 => (i_RecoverFrom.f k d11.fst d11.snd.fst d11.snd.snd).bind fun d12 => cn d12.snd.snd (cn (decide (d12.snd.fst = e)) ((b_Equal_int.f k d12.fst x).bind fun d13 => some d13) (some false)) (some false))
        ((recD p (noText p.length) b).2.2 && decide ((recD p (noText p.length) b).2.1 = e) && decide ((recD p (noText p.length) b).1 = x)) := by
      refine Ev.bind (i_crashed.ev p h b [] (by omega) g3 (by omega) (by simp)) ?_
      simp only [crashP_nil]
      have gc := goodD_crash g []
      rw [crashP_nil] at gc
      refine Ev.bind (recD_i gc h5) ?_
      have hl := (recD_spec gc h5).2.2.1
      generalize recD p (noText p.length) b = r at hl ⊢
      cases h1 : r.2.2 with
      | false => exact .const fun _ => rfl
      | true =>
        by_cases h2 : r.2.1 = e
        case neg => simp only [decide_eq_false h2, cn_t, cn_f, Bool.true_and, Bool.false_and]; exact .const fun _ => rfl
        simp only [decide_eq_true h2, cn_t, Bool.true_and]
        exact Ev.bind (b_Equal_int.ev r.1 x (by omega)) (.const fun _ => rfl)
    by_cases h0 : ph = 0
    · simp only [decide_eq_true h0, cn_t, if_pos h0]
      by_cases hy0 : y.length = 0
      · simp (disch := omega) only [Int.toNat_natCast, decide_eq_true, decide_eq_false, Bool.not_true, Bool.not_false, Bool.true_and, Bool.false_and, Bool.and_true, Bool.and_false, cn_t, cn_f, gd_t, inb_nat, wrap_succ, wrap_eq, Option.bind_some, both_self]
        exact tail
      · simp (disch := omega) only [Int.toNat_natCast, decide_eq_true, decide_eq_false, Bool.not_true, Bool.not_false, Bool.true_and, Bool.false_and, Bool.and_true, Bool.and_false, cn_t, cn_f, gd_t, inb_nat, wrap_succ, wrap_eq, Option.bind_some, both_self]
        exact .const fun _ => rfl
    · simp only [decide_eq_false h0, cn_f, if_neg h0]
      simp (disch := omega) only [Int.toNat_natCast, decide_eq_true, decide_eq_false, Bool.not_true, Bool.not_false, Bool.true_and, Bool.false_and, Bool.and_true, Bool.and_false, cn_t, cn_f, gd_t, inb_nat, wrap_succ, wrap_eq, Option.bind_some, both_self]
      refine Ev.bind (i_isState.ev y (by omega)) ?_
      cases hsy : isSt y with
      | false => exact .const fun _ => rfl
      | true =>
        simp only [Bool.not_true, cn_f, Bool.true_and]
        exact tail
theorem s_GoodJournal.ev (p h : List ByteArray) (b : List Bool) (e ph : Int) (x y : List Int) (hp : p.length ≤ maxLen) (hb : b.length ≤ maxLen) (hx : x.length < maxLen) (hy : y.length < maxLen) : Ev (fun k => s_GoodJournal.f k p h b e ph x y) (goodJ p h b e ph x y) := by
  rw [maxLen_eq] at hp hb hx hy
  refine Ev.congr ?_ fun k => s_GoodJournal.f_eq k p h b e ph x y
  refine Ev.bind (.of 25 fun k hk => s_GoodDisk.eq k hk p h b) ?_
  unfold goodJ
  cases g : goodD p h b with
  | false => exact .const fun _ => rfl
  | true =>
    obtain ⟨g1, g2, g3, g4⟩ := goodD_len g
    simp only [Bool.not_true, cn_f, Bool.true_and]
    by_cases h5 : p.length = 5
    case neg => simp (disch := omega) only [Int.toNat_natCast, decide_eq_true, decide_eq_false, Bool.not_true, Bool.not_false, Bool.true_and, Bool.false_and, Bool.and_true, Bool.and_false, cn_t, cn_f, gd_t, inb_nat, wrap_succ, wrap_eq, Option.bind_some, both_self]; exact .const fun _ => rfl
    simp (disch := omega) only [Int.toNat_natCast, decide_eq_true, decide_eq_false, Bool.not_true, Bool.not_false, Bool.true_and, Bool.false_and, Bool.and_true, Bool.and_false, cn_t, cn_f, gd_t, inb_nat, wrap_succ, wrap_eq, Option.bind_some, both_self]
    have tail : ∀ R : Bool, R = ((recD p (noText p.length) b).2.2 && decide ((recD p (noText p.length) b).2.1 = e) && decide ((recD p (noText p.length) b).1 = x)) → Ev (fun k => s_GoodJournal.l0 k k b (b.length : Int) 0 p h b e ph x y) (!(b.any fun v => true == v) && R) := by
      intro R hR
      refine Ev2.diag (g := fun k m => s_GoodJournal.l0 k m b (b.length : Int) 0 p h b e ph x y) ?_
      refine Ev2.look b false (fun k m j => s_GoodJournal.l0 k m b (b.length : Int) (j : Int) p h b e ph x y) (fun l j => !(l.any fun v => true == v) && R) ?_ ?_
      · refine .step ?_ fun k m => s_GoodJournal.l0_s k m _ _ _ _ _ _ _ _ _ _
        simp (disch := omega) only [Int.toNat_natCast, decide_eq_true, decide_eq_false, Bool.not_true, Bool.not_false, Bool.true_and, Bool.false_and, Bool.and_true, Bool.and_false, cn_t, cn_f, gd_t, inb_nat, wrap_succ, wrap_eq, Option.bind_some, both_self, List.any_nil, s_l7Own.eq]
        refine .bind (s_l7Crash.ev p h b [] (by omega) g3 (by simp)) ?_
        simp only [crashP_nil]
        have gc := goodD_crash g []
        rw [crashP_nil] at gc
        refine .bind (recD_l gc h5) ?_
        obtain ⟨_, _, hl, hl2, _⟩ := recD_spec gc h5
        subst hR
        generalize recD p (noText p.length) b = z at hl hl2 ⊢
        cases ht : z.2.2 with
        | false =>
          simp only [if_neg (show ¬ (false = true) by decide), Bool.false_and]
          by_cases he : (-1 : Int) = e
          · subst he
            exact .const fun _ _ => rfl
          · simp only [decide_eq_false he, cn_f]
            exact .const fun _ _ => rfl
        | true =>
          obtain ⟨hl3, _⟩ := hl2 ht
          simp only [if_true, Bool.true_and]
          by_cases he : z.2.1 = e
          · simp only [decide_eq_true he, decide_eq_true hl3, cn_t, Bool.true_and]
            exact .bind (s_l1Same.ev z.1 x (by omega)) (.const fun _ _ => rfl)
          · simp only [decide_eq_false he, cn_f, Bool.false_and]
            exact .const fun _ _ => rfl
      · intro j v l _ hj hv ih
        refine .step ?_ fun k m => s_GoodJournal.l0_s k m _ _ _ _ _ _ _ _ _ _
        simp (disch := omega) only [Int.toNat_natCast, decide_eq_true, decide_eq_false, Bool.not_true, Bool.not_false, Bool.true_and, Bool.false_and, Bool.and_true, Bool.and_false, cn_t, cn_f, gd_t, inb_nat, wrap_succ, wrap_eq, Option.bind_some, both_self, hv, List.any_cons]
        cases v with
        | true => exact .const fun _ _ => rfl
        | false =>
          simp only [cn_f]
          exact ih
    refine Ev.bind (s_l15State.ev x (by omega)) ?_
    cases hst : isSt x with
    | false => simp only [Bool.not_false, cn_t, Bool.and_false, Bool.false_and]; exact .const fun _ => rfl
    | true =>
    simp only [Bool.not_true, cn_f, Bool.and_true, s_l1In.eq, Option.bind_some]
    by_cases hph : 0 ≤ ph ∧ ph ≤ 3
    case neg => simp only [decide_eq_false hph, Bool.not_false, cn_t, Bool.and_false, Bool.false_and]; exact .const fun _ => rfl
    simp only [decide_eq_true hph, Bool.not_true, cn_f, Bool.and_true]
    by_cases h0 : ph = 0
    · simp only [decide_eq_true h0, cn_t, if_pos h0]
      by_cases hy0 : y.length = 0
      · simp (disch := omega) only [Int.toNat_natCast, decide_eq_true, decide_eq_false, Bool.not_true, Bool.not_false, Bool.true_and, Bool.false_and, Bool.and_true, Bool.and_false, cn_t, cn_f, gd_t, inb_nat, wrap_succ, wrap_eq, Option.bind_some, both_self]
        exact tail _ rfl
      · simp (disch := omega) only [Int.toNat_natCast, decide_eq_true, decide_eq_false, Bool.not_true, Bool.not_false, Bool.true_and, Bool.false_and, Bool.and_true, Bool.and_false, cn_t, cn_f, gd_t, inb_nat, wrap_succ, wrap_eq, Option.bind_some, both_self]
        exact .const fun _ => rfl
    · simp only [decide_eq_false h0, cn_f, if_neg h0]
      simp (disch := omega) only [Int.toNat_natCast, decide_eq_true, decide_eq_false, Bool.not_true, Bool.not_false, Bool.true_and, Bool.false_and, Bool.and_true, Bool.and_false, cn_t, cn_f, gd_t, inb_nat, wrap_succ, wrap_eq, Option.bind_some, both_self]
      refine Ev.bind (s_l15State.ev y (by omega)) ?_
      cases hsy : isSt y with
      | false => simp only [Bool.not_false, cn_t, Bool.and_false, Bool.false_and]; exact .const fun _ => rfl
      | true =>
        simp only [Bool.not_true, cn_f, Bool.and_true]
        exact tail _ rfl
theorem lawGoodJournal (p h : List ByteArray) (b : List Bool) (e ph : Int) (x y : List Int) (op : okK (.sl 9 .str) p) (oh : okK (.sl 9 .str) h) (ob : okK (.sl 4 .bool) b) (oe : okK (.int .i64) e) (oph : okK (.int .i64) ph) (ox : okK (.sl 3 (.int .i64)) x) (oy : okK (.sl 3 (.int .i64)) y) : Ev (fun k => w_FnExactGoodJournal.f k p h b e ph x y) true := by
  obtain ⟨r, hr, hr2⟩ := w_szJournal.ev p h b e ph x y op oh ob ox oy 1048576 (by omega) (by omega)
  refine Ev.congr ?_ (fun k => w_FnExactGoodJournal.f_eq k p h b e ph x y)
  refine Ev.bind hr ?_
  rcases hr2 with hneg | ⟨h0, _, lp, lh, lb, lx, ly⟩
  · exact .const fun k => by rw [cnT hneg]
  · simp only [cnF (show ¬ r < 0 by omega)]
    have ts := w_toJournal.ev p h b e ph x y lp lh lb lx ly
    have hm := maxLen_eq
    refine Ev.bind ts ?_
    refine Ev.bind (s_GoodJournal.ev p h b e ph x y (by omega) (by omega) (by omega) (by omega)) ?_
    refine Ev.bind ts ?_
    refine Ev.bind (i_GoodJournal.ev p h b e ph x y (by omega) (by omega) (by omega) (by omega)) ?_
    simp only [beq_self_eq_true, Bool.not_true, cn_f]
    refine Ev.bind ts ?_
    refine Ev.bind (w_eqJournal.ev p h b e ph x y (by omega) (by omega) (by omega) (by omega) (by omega)) ?_
    exact .const fun k => rfl
end Go.Proofs.Ytcddcnnbhbffmaa
