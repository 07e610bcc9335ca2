/- What the functions of the law come to, in numbers, rows and texts alone. No condition. -/
import Derived.Test.YtcddcnnbhbffmaaFStateFrom
set_option linter.unusedVariables false
set_option linter.unusedSimpArgs false
namespace Go.Proofs.Ytcddcnnbhbffmaa
open Go Go.Proofs.YtcddcnnbhbffmaaE
/-! ### Limits, numbers, rows -/
/-- From some number of rounds on it is r. -/
def Ev {R : Type} (g : Nat → Option R) (r : R) : Prop := ∃ K, ∀ k, K ≤ k → g k = some r
theorem Ev.const {R : Type} {g : Nat → Option R} {r : R} (h : ∀ k, g k = some r) : Ev g r := ⟨0, fun k _ => h k⟩
theorem Ev.of {R : Type} {g : Nat → Option R} {r : R} (K : Nat) (h : ∀ k, K ≤ k → g k = some r) : Ev g r := ⟨K, h⟩
theorem Ev.bind {D R : Type} {f : Nat → Option D} {d : D} {G : Nat → D → Option R} {r : R} (h : Ev f d) (h2 : Ev (fun k => G k d) r) : Ev (fun k => (f k).bind (G k)) r := by
  obtain ⟨K, hK⟩ := h
  obtain ⟨L, hL⟩ := h2
  refine ⟨max K L, fun k hk => ?_⟩
  show (f k).bind (G k) = _
  rw [hK k (by omega)]
  exact hL k (by omega)
theorem Ev.congr {R : Type} {f g : Nat → Option R} {r : R} (h : Ev f r) (e : ∀ k, g k = f k) : Ev g r := by
  obtain ⟨K, hK⟩ := h
  exact ⟨K, fun k hk => by rw [e]; exact hK k hk⟩
theorem cn_t {A : Type} (x y : A) : cn true x y = x := rfl
theorem cn_f {A : Type} (x y : A) : cn false x y = y := rfl
theorem gd_t {A : Type} (x : Option A) : gd true x = x := rfl
theorem cnT {A : Type} {p : Prop} [Decidable p] {x y : A} (h : p) : cn (decide p) x y = x := by rw [decide_eq_true h]; rfl
theorem cnF {A : Type} {p : Prop} [Decidable p] {x y : A} (h : ¬ p) : cn (decide p) x y = y := by rw [decide_eq_false h]; rfl
theorem cnNT {A : Type} {p : Prop} [Decidable p] {x y : A} (h : p) : cn (!decide p) x y = y := by rw [decide_eq_true h]; rfl
theorem cnNF {A : Type} {p : Prop} [Decidable p] {x y : A} (h : ¬ p) : cn (!decide p) x y = x := by rw [decide_eq_false h]; rfl
theorem gdT {A : Type} {p : Prop} [Decidable p] {x : Option A} (h : p) : gd (decide p) x = x := by rw [decide_eq_true h]; rfl
theorem inb_nat {i n : Nat} (h : i < n) : inb (i : Int) n = true := by
  unfold inb
  rw [decide_eq_true (by omega : (0 : Int) ≤ (i : Int)), decide_eq_true (by omega : (i : Int) < (n : Int))]; rfl
theorem wrap_eq {n : Int} (h1 : -9223372036854775808 ≤ n) (h2 : n ≤ 9223372036854775807) : IntKind.i64.wrap n = n := by
  have key : IntKind.i64.wrap n = if n % 18446744073709551616 ≥ 9223372036854775808 then n % 18446744073709551616 - 18446744073709551616 else n % 18446744073709551616 := by
    unfold IntKind.wrap
    simp [IntKind.bits, IntKind.signed]
  rw [key]
  split <;> omega
theorem wrap_succ {n : Nat} (h : n < 9223372036854775807) : IntKind.i64.wrap ((n : Int) + 1) = ((n + 1 : Nat) : Int) := by rw [wrap_eq (by omega) (by omega)]; omega
theorem getAt_lt {A : Type} {d : A} {xs : List A} {i : Nat} (h : i < xs.length) : getAt d xs i = xs[i] := by simp [getAt, h]
theorem maxLen_eq : maxLen = 9223372036854775807 := by decide
/-- A row written over from the front. -/
theorem set_front {A : Type} {d : A} (a h : List A) (j : Nat) (hj : j < a.length) (hl : h.length = a.length) (hh : h.take j = a.take j) : (h.set j (getAt d a j)).take (j + 1) = a.take (j + 1) := by
  rw [getAt_lt hj, List.take_succ_eq_append_getElem hj, List.take_succ_eq_append_getElem (by simp; omega), List.getElem_set_self, List.take_set_of_le (Nat.le_refl j), hh]
def marks (s n : Nat) : List Int := (List.range n).map fun i => ((s + i : Nat) : Int)
theorem w_toStringS.loop (k : Nat) (a : List ByteArray) (ha : a.length ≤ maxLen) : ∀ (n j m : Nat) (h : List ByteArray), j + n = a.length → h.length = a.length → h.take j = a.take j → n < m → w_toStringS.l0 k m a j h = some a := by
  rw [maxLen_eq] at ha
  intro n
  induction n with
  | zero =>
    intro j m h hj hl hh hm
    obtain ⟨m, rfl⟩ : ∃ m', m = m' + 1 := ⟨m - 1, by omega⟩
    rw [w_toStringS.l0_s, cnF (by omega)]
    rw [List.take_of_length_le (by omega), List.take_of_length_le (by omega)] at hh
    rw [hh]
  | succ n ih =>
    intro j m h hj hl hh hm
    obtain ⟨m, rfl⟩ : ∃ m', m = m' + 1 := ⟨m - 1, by omega⟩
    rw [w_toStringS.l0_s, cnT (by omega), inb_nat (by omega), gd_t, inb_nat (by omega), gd_t, wrap_succ (by omega), Int.toNat_natCast]
    exact ih (j + 1) m _ (by omega) (by simpa using hl) (set_front a h j (by omega) hl hh) (by omega)
theorem w_toStringS.ev (a : List ByteArray) (ha : a.length ≤ 1048576) : Ev (fun k => w_toStringS.f k a) a := .of (a.length + 1) fun k hk => by
  show w_toStringS.f k a = _
  rw [w_toStringS.f_eq]
  have h1 : mkOk (↑a.length : Int) (↑a.length : Int) (Try.prog.bytesOf (9 : Nat)) = true := by
    rw [show Try.prog.bytesOf (9 : Nat) = 16 by kernel_rfl]
    unfold mkOk
    simp; omega
  rw [h1, gd_t]
  exact w_toStringS.loop k a (by rw [maxLen_eq]; omega) a.length 0 k _ (by omega) (by simp) (by simp) (by omega)
theorem w_eqStringS.loop (k : Nat) (a : List ByteArray) (ha : a.length ≤ maxLen) : ∀ (n j m : Nat), j + n = a.length → n < m → w_eqStringS.l0 k m a a j = some true := by
  rw [maxLen_eq] at ha
  intro n
  induction n with
  | zero =>
    intro j m hj hm
    obtain ⟨m, rfl⟩ : ∃ m', m = m' + 1 := ⟨m - 1, by omega⟩
    rw [w_eqStringS.l0_s, cnF (by omega)]
  | succ n ih =>
    intro j m hj hm
    obtain ⟨m, rfl⟩ : ∃ m', m = m' + 1 := ⟨m - 1, by omega⟩
    rw [w_eqStringS.l0_s, cnT (by omega), inb_nat (by omega), gd_t, gd_t, cnNT rfl, wrap_succ (by omega)]
    exact ih (j + 1) m (by omega) (by omega)
theorem w_eqStringS.ev (a : List ByteArray) (ha : a.length ≤ maxLen) : Ev (fun k => w_eqStringS.f k a a) true := .of (a.length + 1) fun k hk => by
  show w_eqStringS.f k a a = _
  rw [w_eqStringS.f_eq, cnNT rfl]
  exact w_eqStringS.loop k a ha a.length 0 k (by omega) (by omega)
theorem w_eqIntS.loop (k : Nat) (a : List Int) (ha : a.length ≤ maxLen) : ∀ (n j m : Nat), j + n = a.length → n < m → w_eqIntS.l0 k m a a j = some true := by
  rw [maxLen_eq] at ha
  intro n
  induction n with
  | zero =>
    intro j m hj hm
    obtain ⟨m, rfl⟩ : ∃ m', m = m' + 1 := ⟨m - 1, by omega⟩
    rw [w_eqIntS.l0_s, cnF (by omega)]
  | succ n ih =>
    intro j m hj hm
    obtain ⟨m, rfl⟩ : ∃ m', m = m' + 1 := ⟨m - 1, by omega⟩
    rw [w_eqIntS.l0_s, cnT (by omega), inb_nat (by omega), gd_t, gd_t, cnNT rfl, wrap_succ (by omega)]
    exact ih (j + 1) m (by omega) (by omega)
theorem w_eqIntS.ev (a : List Int) (ha : a.length ≤ maxLen) : Ev (fun k => w_eqIntS.f k a a) true := .of (a.length + 1) fun k hk => by
  show w_eqIntS.f k a a = _
  rw [w_eqIntS.f_eq, cnNT rfl]
  exact w_eqIntS.loop k a ha a.length 0 k (by omega) (by omega)
theorem w_szStringS.loop (a : List ByteArray) (ha : a.length ≤ maxLen) (hs : ∀ i, ∀ h : i < a.length, a[i].size ≤ maxLen) : ∀ (n j : Nat) (left : Int), j + n = a.length → 0 ≤ left → left ≤ 1048576 →
    ∃ r : Int, (∀ k m, n < m → w_szStringS.l0 k m a left j = some r) ∧ (r < 0 ∨ (0 ≤ r ∧ r ≤ left ∧ ∀ i, ∀ h : i < a.length, j ≤ i → a[i].size ≤ 1048576)) := by
  rw [maxLen_eq] at ha hs
  intro n
  induction n with
  | zero =>
    intro j left hj h0 h1
    refine ⟨left, fun k m hm => ?_, .inr ⟨h0, Int.le_refl _, fun i h hi => by omega⟩⟩
    obtain ⟨m, rfl⟩ : ∃ m', m = m' + 1 := ⟨m - 1, by omega⟩
    rw [w_szStringS.l0_s, cnF (by omega)]
  | succ n ih =>
    intro j left hj h0 h1
    have hjl : j < a.length := by omega
    have hsz := hs j hjl
    have e : IntKind.i64.wrap (left - (↑(getAt ByteArray.empty a (j : Int).toNat).size : Int)) = left - (a[j].size : Int) := by
      rw [Int.toNat_natCast, getAt_lt hjl, wrap_eq (by omega) (by omega)]
    by_cases hneg : left - (a[j].size : Int) < 0
    · refine ⟨-1, fun k m hm => ?_, .inl (by omega)⟩
      obtain ⟨m, rfl⟩ : ∃ m', m = m' + 1 := ⟨m - 1, by omega⟩
      rw [w_szStringS.l0_s, cnT (by omega), inb_nat hjl, gd_t, e, cnT hneg]
    · obtain ⟨r, hr, hr2⟩ := ih (j + 1) (left - (a[j].size : Int)) (by omega) (by omega) (by omega)
      refine ⟨r, fun k m hm => ?_, hr2.imp id fun ⟨p, q, s⟩ => ⟨p, by omega, fun i h hi => ?_⟩⟩
      · obtain ⟨m, rfl⟩ : ∃ m', m = m' + 1 := ⟨m - 1, by omega⟩
        rw [w_szStringS.l0_s, cnT (by omega), inb_nat hjl, gd_t, e, cnF hneg, wrap_succ (by omega)]
        exact hr k m (by omega)
      · rcases Nat.lt_or_ge i (j + 1) with h2 | h2
        · obtain rfl : i = j := by omega
          omega
        · exact s i h h2
theorem w_szStringS.ev (a : List ByteArray) (ha : a.length ≤ maxLen) (hs : ∀ i, ∀ h : i < a.length, a[i].size ≤ maxLen) (left : Int) (h0 : 0 ≤ left) (h1 : left ≤ 1048576) :
    ∃ r : Int, Ev (fun k => w_szStringS.f k a left) r ∧ (r < 0 ∨ (0 ≤ r ∧ r ≤ left ∧ a.length ≤ 1048576 ∧ ∀ i, ∀ h : i < a.length, a[i].size ≤ 1048576)) := by
  have ha' := ha
  rw [maxLen_eq] at ha'
  have e : IntKind.i64.wrap (left - (↑a.length : Int)) = left - (a.length : Int) := wrap_eq (by omega) (by omega)
  by_cases hneg : left - (a.length : Int) < 0
  · refine ⟨-1, .const fun k => ?_, .inl (by omega)⟩
    rw [w_szStringS.f_eq, e, cnT hneg]
  · obtain ⟨r, hr, hr2⟩ := w_szStringS.loop a ha hs a.length 0 (left - (a.length : Int)) (by omega) (by omega) (by omega)
    refine ⟨r, .of (a.length + 1) fun k hk => ?_, hr2.imp id fun ⟨p, q, s⟩ => ⟨p, by omega, by omega, fun i h => s i h (Nat.zero_le _)⟩⟩
    show w_szStringS.f k a left = _
    rw [w_szStringS.f_eq, e, cnF hneg]
    exact hr k k (by omega)
theorem w_markIntS.loop (k : Nat) (s len : Nat) (hs : s + len ≤ 9223372036854775806) : ∀ (n j m : Nat) (h : List Int), j + n = len → h.length = len → h.take j = marks s j → n < m → w_markIntS.l0 k m ((s + j : Nat) : Int) j h = some (((s + len : Nat) : Int), marks s len) := by
  intro n
  induction n with
  | zero =>
    intro j m h hj hl hh hm
    obtain ⟨m, rfl⟩ : ∃ m', m = m' + 1 := ⟨m - 1, by omega⟩
    rw [w_markIntS.l0_s, cnF (by omega)]
    rw [List.take_of_length_le (by omega)] at hh
    rw [hh, show j = len by omega]
  | succ n ih =>
    intro j m h hj hl hh hm
    obtain ⟨m, rfl⟩ : ∃ m', m = m' + 1 := ⟨m - 1, by omega⟩
    rw [w_markIntS.l0_s, cnT (by omega), inb_nat (by omega), gd_t, wrap_succ (by omega), wrap_succ (by omega), Int.toNat_natCast]
    refine ih (j + 1) m _ (by omega) (by simpa using hl) ?_ (by omega)
    rw [List.take_succ_eq_append_getElem (by simp; omega), List.getElem_set_self, List.take_set_of_le (Nat.le_refl j), hh]
    unfold marks
    rw [List.range_succ, List.map_append]; rfl
theorem w_markIntS.ev (a : List Int) (s : Nat) (hs : s + a.length ≤ 9223372036854775806) : Ev (fun k => w_markIntS.f k a (s : Int)) (((s + a.length : Nat) : Int), marks s a.length) := .of (a.length + 1) fun k hk => by
  show w_markIntS.f k a s = _
  rw [w_markIntS.f_eq]
  exact w_markIntS.loop k s a.length hs a.length 0 k a (by omega) rfl (by simp [marks]) (by omega)
theorem w_heldIntS.loop (k : Nat) (s len : Nat) (hs : s + len ≤ 9223372036854775806) : ∀ (n j m : Nat), j + n = len → n < m → w_heldIntS.l0 k m (marks s len) ((s + j : Nat) : Int) j = some ((s + len : Nat) : Int) := by
  have hl : (marks s len).length = len := by simp [marks]
  intro n
  induction n with
  | zero =>
    intro j m hj hm
    obtain ⟨m, rfl⟩ : ∃ m', m = m' + 1 := ⟨m - 1, by omega⟩
    rw [w_heldIntS.l0_s, cnF (by omega), show j = len by omega]
  | succ n ih =>
    intro j m hj hm
    obtain ⟨m, rfl⟩ : ∃ m', m = m' + 1 := ⟨m - 1, by omega⟩
    rw [w_heldIntS.l0_s, cnT (by omega), inb_nat (by omega), gd_t, Int.toNat_natCast, cnNT (by rw [getAt_lt (by omega)]; simp [marks]), wrap_succ (by omega), wrap_succ (by omega)]
    exact ih (j + 1) m (by omega) (by omega)
theorem w_heldIntS.ev (s len : Nat) (hs : s + len ≤ 9223372036854775806) : Ev (fun k => w_heldIntS.f k (marks s len) (s : Int)) ((s + len : Nat) : Int) := .of (len + 1) fun k hk => by
  show w_heldIntS.f k _ s = _
  rw [w_heldIntS.f_eq]
  exact w_heldIntS.loop k s len hs len 0 k (by omega) (by omega)
theorem strOfNums_one (n : Int) : (strOfNums [n]).size = 1 := by simp [strOfNums]; rfl
theorem w_markText.loop : ∀ (n : Nat) (v : Nat) (out : ByteArray), v ≤ n → n + out.size ≤ 140737488355327 → ∃ t, ∀ k m, n < m → w_markText.l0 k m (v : Int) out = some t := by
  intro n
  induction n with
  | zero =>
    intro v out hv ho
    refine ⟨{ data := #[(109 : UInt8)] : ByteArray } ++ out, fun k m hm => ?_⟩
    obtain ⟨m, rfl⟩ : ∃ m', m = m' + 1 := ⟨m - 1, by omega⟩
    rw [w_markText.l0_s, cnF (by omega), gdT (by omega)]
  | succ n ih =>
    intro v out hv ho
    by_cases h0 : v = 0
    · refine ⟨{ data := #[(109 : UInt8)] : ByteArray } ++ out, fun k m hm => ?_⟩
      obtain ⟨m, rfl⟩ : ∃ m', m = m' + 1 := ⟨m - 1, by omega⟩
      rw [w_markText.l0_s, cnF (by omega), gdT (by omega)]
    · have e : IntKind.i64.wrap ((v : Int).tdiv 10) = ((v / 10 : Nat) : Int) := by
        rw [show (v : Int).tdiv 10 = ((v / 10 : Nat) : Int) by rw [Int.tdiv_eq_ediv_of_nonneg (by omega)]; rfl, wrap_eq (by omega) (by omega)]
      obtain ⟨t, ht⟩ := ih (v / 10) (strOfNums [IntKind.u8.wrap (IntKind.i64.wrap ((48 : Int) + (v : Int).tmod (10 : Int)))] ++ out) (by omega) (by rw [ByteArray.size_append, strOfNums_one]; omega)
      refine ⟨t, fun k m hm => ?_⟩
      obtain ⟨m, rfl⟩ : ∃ m', m = m' + 1 := ⟨m - 1, by omega⟩
      rw [w_markText.l0_s, cnT (by omega), gdT (by rw [strOfNums_one]; omega), e]
      exact ht k m (by omega)
theorem w_markText.ev (v : Nat) (hv : v ≤ 140737488355327) : ∃ t, Ev (fun k => w_markText.f k (v : Int)) t := by
  by_cases h0 : v = 0
  · exact ⟨_, .const fun k => by rw [w_markText.f_eq, cnT (by omega)]⟩
  · obtain ⟨t, ht⟩ := w_markText.loop v v ByteArray.empty (Nat.le_refl _) (by simpa using hv)
    exact ⟨t, .of (v + 1) fun k hk => by
      show w_markText.f k v = _
      rw [w_markText.f_eq, cnF (by omega)]
      exact ht k k (by omega)⟩
theorem w_markStringS.loop (s len : Nat) (hs : s + len ≤ 140737488355327) : ∀ (n j : Nat) (h : List ByteArray), j + n = len → h.length = len → ∃ t K, t.length = len ∧ h.take j = t.take j ∧ ∀ k m, K ≤ k → n < m → w_markStringS.l0 k m ((s + j : Nat) : Int) j h = some (((s + len : Nat) : Int), t) := by
  intro n
  induction n with
  | zero =>
    intro j h hj hl
    refine ⟨h, 0, hl, rfl, fun k m _ hm => ?_⟩
    obtain ⟨m, rfl⟩ : ∃ m', m = m' + 1 := ⟨m - 1, by omega⟩
    rw [w_markStringS.l0_s, cnF (by omega), show j = len by omega]
  | succ n ih =>
    intro j h hj hl
    obtain ⟨x, K1, hx⟩ := w_markText.ev (s + j) (by omega)
    have hx : ∀ k, K1 ≤ k → w_markText.f k ((s + j : Nat) : Int) = some x := hx
    obtain ⟨t, K, t1, t2, ht⟩ := ih (j + 1) (h.set j x) (by omega) (by simpa using hl)
    refine ⟨t, max K K1, t1, ?_, fun k m hk hm => ?_⟩
    · have := congrArg (fun l => l.take j) t2
      simp only [List.take_take, Nat.min_eq_left (Nat.le_succ j), List.take_set_of_le (Nat.le_refl j)] at this
      exact this
    · obtain ⟨m, rfl⟩ : ∃ m', m = m' + 1 := ⟨m - 1, by omega⟩
      rw [w_markStringS.l0_s, cnT (by omega), hx k (by omega)]
      simp only [Option.bind_some]
      rw [inb_nat (by omega), gd_t, wrap_succ (by omega), wrap_succ (by omega), Int.toNat_natCast]
      exact ht k m (by omega) (by omega)
theorem w_markStringS.ev (a : List ByteArray) (s : Nat) (hs : s + a.length ≤ 140737488355327) : ∃ t, t.length = a.length ∧ Ev (fun k => w_markStringS.f k a (s : Int)) (((s + a.length : Nat) : Int), t) := by
  obtain ⟨t, K, t1, _, ht⟩ := w_markStringS.loop s a.length hs a.length 0 a (by omega) rfl
  exact ⟨t, t1, .of (max K (a.length + 1)) fun k hk => by
    show w_markStringS.f k a s = _
    rw [w_markStringS.f_eq]
    exact ht k k (by omega) (by omega)⟩
theorem bytes_get (s : ByteArray) (n : Nat) : getAt (0 : Int) (bytesL s) n = ((s.data.getD n 0).toNat : Int) := by
  unfold getAt bytesL
  rw [List.getD_eq_getElem?_getD, List.getElem?_map, Array.getElem?_toList, Array.getD_eq_getD_getElem?]
  cases s.data[n]? <;> rfl
theorem byte_lt (b : UInt8) : b.toNat < 256 := b.toNat_lt
/-- One byte more. -/
theorem step_zero (b : Int) (h0 : 0 ≤ b) (h1 : b < 256) : IntKind.i64.wrap (↑(BitVec.ofInt 64 (IntKind.i64.wrap ((0 : Int) * (2 : Int) ^ 8)) ||| BitVec.ofInt 64 (IntKind.i64.wrap b)).toNat : Int) = b := by
  have e : IntKind.i64.wrap ((0 : Int) * (2 : Int) ^ 8) = 0 := wrap_eq (by decide) (by decide)
  rw [e, wrap_eq (n := b) (by omega) (by omega)]
  have e2 : (BitVec.ofInt 64 0 ||| BitVec.ofInt 64 b) = BitVec.ofInt 64 b := by
    rw [show BitVec.ofInt 64 0 = 0#64 by decide]; simp
  have p64 : ((2 ^ 64 : Nat) : Int) = 18446744073709551616 := by decide
  rw [e2, BitVec.toNat_ofInt, p64, Int.emod_eq_of_lt h0 (by omega), wrap_eq (by omega) (by omega)]
  omega
theorem s_l6Value.two (t : ByteArray) (h : t.size = 2) (k : Nat) (hk : 3 ≤ k) : s_l6Value.f k t = some (sfVal (bytesL t) 0) := by
  obtain ⟨k3, e⟩ : ∃ k3, k = k3 + 3 := ⟨k - 3, by omega⟩
  rw [s_l6Value.f_eq]
  generalize hm : k = m
  have hm3 : m = k3 + 1 + 1 + 1 := by omega
  rw [hm3, s_l6Value.l0_s, cnT (by omega), show inb (0 : Int) t.size = true from inb_nat (i := 0) (by omega), gd_t]
  have b0 := byte_lt (t.data.getD 0 0)
  have b1 := byte_lt (t.data.getD 1 0)
  rw [show IntKind.i64.wrap ((0 : Int) + 1) = ((1 : Nat) : Int) from wrap_succ (n := 0) (by omega), show (0 : Int).toNat = 0 from rfl, step_zero _ (by omega) (by omega)]
  rw [s_l6Value.l0_s, cnT (by omega), inb_nat (i := 1) (by omega), gd_t, wrap_succ (n := 1) (by omega), s_l6Value.l0_s, cnF (by omega)]
  unfold sfVal
  rw [bytes_get, bytes_get, show 2 * 0 + 0 = 0 from rfl, show 2 * 0 + 1 = 1 from rfl, wrap_eq (n := ((t.data.getD 0 0).toNat : Int)) (by omega) (by omega)]
  rfl
theorem ext_get (s : ByteArray) (a j : Nat) (h : a + 2 ≤ s.size) (hj : j < 2) : (s.extract a (a + 2)).data.getD j 0 = s.data.getD (a + j) 0 := by
  have hs : s.data.size = s.size := rfl
  rw [ByteArray.data_extract, Array.getD_eq_getD_getElem?, Array.getD_eq_getD_getElem?, Array.getElem?_extract]
  rw [if_pos (by omega)]
theorem sfVal_ext (s : ByteArray) (i : Nat) (h : 2 * i + 2 ≤ s.size) : sfVal (bytesL (s.extract (2 * i) (2 * i + 2))) 0 = sfVal (bytesL s) i := by
  unfold sfVal
  rw [bytes_get, bytes_get, bytes_get, bytes_get, show 2 * 0 + 0 = 0 from rfl, show 2 * 0 + 1 = 1 from rfl, ext_get s (2 * i) 0 h (by omega), ext_get s (2 * i) 1 h (by omega)]
theorem s_StateFrom.loop (s : ByteArray) (hs : s.size = 12) (k : Nat) (hk : 3 ≤ k) : ∀ (n j m : Nat), j + n = 6 → n < m → s_StateFrom.l0 k m s j ((List.range j).map (sfVal (bytesL s))) = some ((List.range 6).map (sfVal (bytesL s)), true) := by
  intro n
  induction n with
  | zero =>
    intro j m hj hm
    obtain ⟨m, rfl⟩ : ∃ m', m = m' + 1 := ⟨m - 1, by omega⟩
    rw [s_StateFrom.l0_s, cnF (by omega), show j = 6 by omega]
  | succ n ih =>
    intro j m hj hm
    obtain ⟨m, rfl⟩ : ∃ m', m = m' + 1 := ⟨m - 1, by omega⟩
    have e1 : IntKind.i64.wrap ((2 : Int) * (j : Int)) = ((2 * j : Nat) : Int) := by rw [wrap_eq (by omega) (by omega)]; omega
    have e2 : IntKind.i64.wrap (((2 * j : Nat) : Int) + 2) = ((2 * j + 2 : Nat) : Int) := by rw [wrap_eq (by omega) (by omega)]; omega
    rw [s_StateFrom.l0_s, cnT (by omega), e1, e2, decide_eq_true (by omega : (0 : Int) ≤ ((2 * j : Nat) : Int)), decide_eq_true (by omega : ((2 * j : Nat) : Int) ≤ ((2 * j + 2 : Nat) : Int)), decide_eq_true (by omega : ((2 * j + 2 : Nat) : Int) ≤ (s.size : Int))]
    rw [show (true && (true && true)) = true from rfl, gd_t, Int.toNat_natCast, Int.toNat_natCast, s_l6Value.two _ (by rw [ByteArray.size_extract]; omega) k hk, Option.bind_some]
    have e3 : appOk (((List.range j).map (sfVal (bytesL s))).length + [sfVal (bytesL (s.extract (2 * j) (2 * j + 2))) 0].length) (Try.prog.bytesOf (3 : Nat)) = true := by
      rw [show Try.prog.bytesOf (3 : Nat) = 8 by kernel_rfl]
      simp [appOk]; omega
    rw [e3, gd_t, wrap_succ (by omega), sfVal_ext s j (by omega)]
    have := ih (j + 1) m (by omega) (by omega)
    rw [List.range_succ, List.map_append] at this
    exact this
theorem s_StateFrom.eq (l : List ByteArray) (k : Nat) (hk : 7 ≤ k) : s_StateFrom.f k l = sfF l := by
  rw [s_StateFrom.f_eq]
  unfold sfF
  cases h1 : decide ((l.length : Int) = 2) with
  | false => rfl
  | true =>
    have h1' := of_decide_eq_true h1
    rw [show inb (0 : Int) l.length = true from inb_nat (i := 0) (by omega), show inb (1 : Int) l.length = true from inb_nat (i := 1) (by omega)]
    simp only [gd_t, Bool.not_true, cn_f]
    cases h2 : decide (((getAt ByteArray.empty l 0).size : Int) = 6) with
    | false => rfl
    | true =>
      cases h3 : decide (((getAt ByteArray.empty l 1).size : Int) = 6) with
      | false => rfl
      | true =>
        have h2' := of_decide_eq_true h2
        have h3' := of_decide_eq_true h3
        simp only [Bool.not_true, cn_f, beq_self_eq_true]
        rw [gdT (by omega)]
        exact s_StateFrom.loop _ (by rw [ByteArray.size_append]; omega) k (by omega) 6 0 k (by omega) (by omega)
theorem sfF_some (l : List ByteArray) : ∃ d, sfF l = some d ∧ d.1.length ≤ 6 := by
  unfold sfF
  cases h1 : decide ((l.length : Int) = 2) with
  | false => exact ⟨_, rfl, by simp⟩
  | true =>
    have h1' := of_decide_eq_true h1
    rw [show inb (0 : Int) l.length = true from inb_nat (i := 0) (by omega), show inb (1 : Int) l.length = true from inb_nat (i := 1) (by omega)]
    simp only [gd_t, Bool.not_true, cn_f]
    cases h2 : decide (((getAt ByteArray.empty l 0).size : Int) = 6) with
    | false => exact ⟨_, rfl, by simp⟩
    | true =>
      cases h3 : decide (((getAt ByteArray.empty l 1).size : Int) = 6) with
      | false => exact ⟨_, rfl, by simp⟩
      | true => exact ⟨_, rfl, by simp⟩
theorem lawStateFrom (l : List ByteArray) (h : okK (.sl 9 .str) l) : Ev (fun k => w_FnExactStateFrom.f k l) true := by
  obtain ⟨hl, hel⟩ := h
  obtain ⟨r, hr, hr2⟩ := w_szStringS.ev l hl hel 1048576 (by omega) (by omega)
  refine Ev.congr ?_ (fun k => w_FnExactStateFrom.f_eq k l)
  refine Ev.bind hr ?_
  try dsimp only
  rcases hr2 with hneg | ⟨h0, _, hlen, _⟩
  · exact .const fun k => by rw [cnT hneg]
  · simp only [cnF (show ¬ r < 0 by omega)]
    obtain ⟨d, hd, hdl⟩ := sfF_some l
    have ts := w_toStringS.ev l hlen
    have ss : Ev (fun k => s_StateFrom.f k l) d := .of 7 fun k hk => by show s_StateFrom.f k l = _; rw [s_StateFrom.eq l k hk, hd]
    have is_ : Ev (fun k => i_StateFrom.f k l) d := .const fun k => hd
    have eqd := w_eqIntS.ev d.1 (by rw [maxLen_eq]; omega)
    obtain ⟨t, _, mt⟩ := w_markStringS.ev l 1 (by omega)
    have md := w_markIntS.ev d.1 1 (by omega)
    have hd2 := w_heldIntS.ev 1 d.1.length (by omega)
    refine Ev.bind ts ?_
    refine Ev.bind ss ?_
    refine Ev.bind ts ?_
    refine Ev.bind is_ ?_
    refine Ev.bind eqd ?_
    simp only [Bool.not_true, cn_f, beq_self_eq_true]
    refine Ev.bind ts ?_
    refine Ev.bind (w_eqStringS.ev l hl) ?_
    simp only [Bool.not_true, cn_f, beq_self_eq_true]
    refine Ev.bind mt ?_
    simp only [cnF (show ¬ ((1 + l.length : Nat) : Int) < 0 by omega)]
    refine Ev.bind eqd ?_
    simp only [Bool.not_true, cn_f, beq_self_eq_true]
    refine Ev.bind md ?_
    refine Ev.bind hd2 ?_
    simp only [cnF (show ¬ ((1 + d.1.length : Nat) : Int) < 0 by omega), decide_true, Bool.not_true, cn_f]
    refine Ev.bind ts ?_
    refine Ev.bind is_ ?_
    refine Ev.bind eqd ?_
    simp only [Bool.not_true, cn_f, beq_self_eq_true]
    refine Ev.bind hd2 ?_
    exact .const fun k => by simp only [cnF (show ¬ ((1 + d.1.length : Nat) : Int) < 0 by omega), decide_true, Bool.not_true, cn_f]
end Go.Proofs.Ytcddcnnbhbffmaa
