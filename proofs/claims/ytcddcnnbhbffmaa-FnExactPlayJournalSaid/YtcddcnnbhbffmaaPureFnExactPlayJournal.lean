/- What the functions of the law come to, in numbers, rows and texts alone. No condition. -/
import Derived.Test.YtcddcnnbhbffmaaFPJ
set_option linter.unusedVariables false
set_option linter.unusedSimpArgs false
namespace Go.Proofs.Ytcddcnnbhbffmaa
open Go Go.Proofs.YtcddcnnbhbffmaaE
/-! ### Limits, numbers, rows -/
/-- From some number of rounds on it is r. -/
def Ev {R : Type} (g : Nat → Option R) (r : R) : Prop := ∃ K, ∀ k, K ≤ k → g k = some r
theorem Ev.const {R : Type} {g : Nat → Option R} {r : R} (h : ∀ k, g k = some r) : Ev g r := ⟨0, fun k _ => h k⟩
theorem Ev.of {R : Type} {g : Nat → Option R} {r : R} (K : Nat) (h : ∀ k, K ≤ k → g k = some r) : Ev g r := ⟨K, h⟩
theorem Ev.bind {D R : Type} {f : Nat → Option D} {d : D} {G : Nat → D → Option R} {r : R} (h : Ev f d) (h2 : Ev (fun k => G k d) r) : Ev (fun k => (f k).bind (G k)) r := by
  obtain ⟨K, hK⟩ := h
  obtain ⟨L, hL⟩ := h2
  refine ⟨max K L, fun k hk => ?_⟩
  show (f k).bind (G k) = _
  rw [hK k (by omega)]
  exact hL k (by omega)
theorem Ev.congr {R : Type} {f g : Nat → Option R} {r : R} (h : Ev f r) (e : ∀ k, g k = f k) : Ev g r := by
  obtain ⟨K, hK⟩ := h
  exact ⟨K, fun k hk => by rw [e]; exact hK k hk⟩
theorem cn_t {A : Type} (x y : A) : cn true x y = x := rfl
theorem cn_f {A : Type} (x y : A) : cn false x y = y := rfl
theorem gd_t {A : Type} (x : Option A) : gd true x = x := rfl
theorem cnT {A : Type} {p : Prop} [Decidable p] {x y : A} (h : p) : cn (decide p) x y = x := by rw [decide_eq_true h]; rfl
theorem cnF {A : Type} {p : Prop} [Decidable p] {x y : A} (h : ¬ p) : cn (decide p) x y = y := by rw [decide_eq_false h]; rfl
theorem cnNT {A : Type} {p : Prop} [Decidable p] {x y : A} (h : p) : cn (!decide p) x y = y := by rw [decide_eq_true h]; rfl
theorem cnNF {A : Type} {p : Prop} [Decidable p] {x y : A} (h : ¬ p) : cn (!decide p) x y = x := by rw [decide_eq_false h]; rfl
theorem gdT {A : Type} {p : Prop} [Decidable p] {x : Option A} (h : p) : gd (decide p) x = x := by rw [decide_eq_true h]; rfl
theorem inb_nat {i n : Nat} (h : i < n) : inb (i : Int) n = true := by
  unfold inb
  rw [decide_eq_true (by omega : (0 : Int) ≤ (i : Int)), decide_eq_true (by omega : (i : Int) < (n : Int))]; rfl
theorem wrap_eq {n : Int} (h1 : -9223372036854775808 ≤ n) (h2 : n ≤ 9223372036854775807) : IntKind.i64.wrap n = n := by
  have key : IntKind.i64.wrap n = if n % 18446744073709551616 ≥ 9223372036854775808 then n % 18446744073709551616 - 18446744073709551616 else n % 18446744073709551616 := by
    unfold IntKind.wrap
    simp [IntKind.bits, IntKind.signed]
  rw [key]
  split <;> omega
theorem wrap_succ {n : Nat} (h : n < 9223372036854775807) : IntKind.i64.wrap ((n : Int) + 1) = ((n + 1 : Nat) : Int) := by rw [wrap_eq (by omega) (by omega)]; omega
theorem getAt_lt {A : Type} {d : A} {xs : List A} {i : Nat} (h : i < xs.length) : getAt d xs i = xs[i] := by simp [getAt, h]
theorem maxLen_eq : maxLen = 9223372036854775807 := by decide
/-- A row written over from the front. -/
theorem set_front {A : Type} {d : A} (a h : List A) (j : Nat) (hj : j < a.length) (hl : h.length = a.length) (hh : h.take j = a.take j) : (h.set j (getAt d a j)).take (j + 1) = a.take (j + 1) := by
  rw [getAt_lt hj, List.take_succ_eq_append_getElem hj, List.take_succ_eq_append_getElem (by simp; omega), List.getElem_set_self, List.take_set_of_le (Nat.le_refl j), hh]
def marks (s n : Nat) : List Int := (List.range n).map fun i => ((s + i : Nat) : Int)
theorem w_toIntS.loop (k : Nat) (a : List Int) (ha : a.length ≤ maxLen) : ∀ (n j m : Nat) (h : List Int), j + n = a.length → h.length = a.length → h.take j = a.take j → n < m → w_toIntS.l0 k m a j h = some a := by
  rw [maxLen_eq] at ha
  intro n
  induction n with
  | zero =>
    intro j m h hj hl hh hm
    obtain ⟨m, rfl⟩ : ∃ m', m = m' + 1 := ⟨m - 1, by omega⟩
    rw [w_toIntS.l0_s, cnF (by omega)]
    rw [List.take_of_length_le (by omega), List.take_of_length_le (by omega)] at hh
    rw [hh]
  | succ n ih =>
    intro j m h hj hl hh hm
    obtain ⟨m, rfl⟩ : ∃ m', m = m' + 1 := ⟨m - 1, by omega⟩
    rw [w_toIntS.l0_s, cnT (by omega), inb_nat (by omega), gd_t, inb_nat (by omega), gd_t, wrap_succ (by omega), Int.toNat_natCast]
    exact ih (j + 1) m _ (by omega) (by simpa using hl) (set_front a h j (by omega) hl hh) (by omega)
theorem w_toIntS.ev (a : List Int) (ha : a.length ≤ 1048576) : Ev (fun k => w_toIntS.f k a) a := .of (a.length + 1) fun k hk => by
  show w_toIntS.f k a = _
  rw [w_toIntS.f_eq]
  have h1 : mkOk (↑a.length : Int) (↑a.length : Int) (Try.prog.bytesOf (3 : Nat)) = true := by
    rw [show Try.prog.bytesOf (3 : Nat) = 8 by kernel_rfl]
    unfold mkOk
    simp; omega
  rw [h1, gd_t]
  exact w_toIntS.loop k a (by rw [maxLen_eq]; omega) a.length 0 k _ (by omega) (by simp) (by simp) (by omega)
theorem w_eqStringS.loop (k : Nat) (a : List ByteArray) (ha : a.length ≤ maxLen) : ∀ (n j m : Nat), j + n = a.length → n < m → w_eqStringS.l0 k m a a j = some true := by
  rw [maxLen_eq] at ha
  intro n
  induction n with
  | zero =>
    intro j m hj hm
    obtain ⟨m, rfl⟩ : ∃ m', m = m' + 1 := ⟨m - 1, by omega⟩
    rw [w_eqStringS.l0_s, cnF (by omega)]
  | succ n ih =>
    intro j m hj hm
    obtain ⟨m, rfl⟩ : ∃ m', m = m' + 1 := ⟨m - 1, by omega⟩
    rw [w_eqStringS.l0_s, cnT (by omega), inb_nat (by omega), gd_t, gd_t, cnNT rfl, wrap_succ (by omega)]
    exact ih (j + 1) m (by omega) (by omega)
theorem w_eqStringS.ev (a : List ByteArray) (ha : a.length ≤ maxLen) : Ev (fun k => w_eqStringS.f k a a) true := .of (a.length + 1) fun k hk => by
  show w_eqStringS.f k a a = _
  rw [w_eqStringS.f_eq, cnNT rfl]
  exact w_eqStringS.loop k a ha a.length 0 k (by omega) (by omega)
theorem w_eqIntS.loop (k : Nat) (a : List Int) (ha : a.length ≤ maxLen) : ∀ (n j m : Nat), j + n = a.length → n < m → w_eqIntS.l0 k m a a j = some true := by
  rw [maxLen_eq] at ha
  intro n
  induction n with
  | zero =>
    intro j m hj hm
    obtain ⟨m, rfl⟩ : ∃ m', m = m' + 1 := ⟨m - 1, by omega⟩
    rw [w_eqIntS.l0_s, cnF (by omega)]
  | succ n ih =>
    intro j m hj hm
    obtain ⟨m, rfl⟩ : ∃ m', m = m' + 1 := ⟨m - 1, by omega⟩
    rw [w_eqIntS.l0_s, cnT (by omega), inb_nat (by omega), gd_t, gd_t, cnNT rfl, wrap_succ (by omega)]
    exact ih (j + 1) m (by omega) (by omega)
theorem w_eqIntS.ev (a : List Int) (ha : a.length ≤ maxLen) : Ev (fun k => w_eqIntS.f k a a) true := .of (a.length + 1) fun k hk => by
  show w_eqIntS.f k a a = _
  rw [w_eqIntS.f_eq, cnNT rfl]
  exact w_eqIntS.loop k a ha a.length 0 k (by omega) (by omega)
theorem w_eqBoolS.loop (k : Nat) (a : List Bool) (ha : a.length ≤ maxLen) : ∀ (n j m : Nat), j + n = a.length → n < m → w_eqBoolS.l0 k m a a j = some true := by
  rw [maxLen_eq] at ha
  intro n
  induction n with
  | zero =>
    intro j m hj hm
    obtain ⟨m, rfl⟩ : ∃ m', m = m' + 1 := ⟨m - 1, by omega⟩
    rw [w_eqBoolS.l0_s, cnF (by omega)]
  | succ n ih =>
    intro j m hj hm
    obtain ⟨m, rfl⟩ : ∃ m', m = m' + 1 := ⟨m - 1, by omega⟩
    rw [w_eqBoolS.l0_s, cnT (by omega), inb_nat (by omega), gd_t, gd_t]
    simp only [beq_self_eq_true, Bool.not_true, cn_f]
    rw [wrap_succ (by omega)]
    exact ih (j + 1) m (by omega) (by omega)
theorem w_eqBoolS.ev (a : List Bool) (ha : a.length ≤ maxLen) : Ev (fun k => w_eqBoolS.f k a a) true := .of (a.length + 1) fun k hk => by
  show w_eqBoolS.f k a a = _
  rw [w_eqBoolS.f_eq, cnNT rfl]
  exact w_eqBoolS.loop k a ha a.length 0 k (by omega) (by omega)
theorem w_markIntS.loop (k : Nat) (s len : Nat) (hs : s + len ≤ 9223372036854775806) : ∀ (n j m : Nat) (h : List Int), j + n = len → h.length = len → h.take j = marks s j → n < m → w_markIntS.l0 k m ((s + j : Nat) : Int) j h = some (((s + len : Nat) : Int), marks s len) := by
  intro n
  induction n with
  | zero =>
    intro j m h hj hl hh hm
    obtain ⟨m, rfl⟩ : ∃ m', m = m' + 1 := ⟨m - 1, by omega⟩
    rw [w_markIntS.l0_s, cnF (by omega)]
    rw [List.take_of_length_le (by omega)] at hh
    rw [hh, show j = len by omega]
  | succ n ih =>
    intro j m h hj hl hh hm
    obtain ⟨m, rfl⟩ : ∃ m', m = m' + 1 := ⟨m - 1, by omega⟩
    rw [w_markIntS.l0_s, cnT (by omega), inb_nat (by omega), gd_t, wrap_succ (by omega), wrap_succ (by omega), Int.toNat_natCast]
    refine ih (j + 1) m _ (by omega) (by simpa using hl) ?_ (by omega)
    rw [List.take_succ_eq_append_getElem (by simp; omega), List.getElem_set_self, List.take_set_of_le (Nat.le_refl j), hh]
    unfold marks
    rw [List.range_succ, List.map_append]; rfl
theorem w_markIntS.ev (a : List Int) (s : Nat) (hs : s + a.length ≤ 9223372036854775806) : Ev (fun k => w_markIntS.f k a (s : Int)) (((s + a.length : Nat) : Int), marks s a.length) := .of (a.length + 1) fun k hk => by
  show w_markIntS.f k a s = _
  rw [w_markIntS.f_eq]
  exact w_markIntS.loop k s a.length hs a.length 0 k a (by omega) rfl (by simp [marks]) (by omega)
theorem w_heldIntS.loop (k : Nat) (s len : Nat) (hs : s + len ≤ 9223372036854775806) : ∀ (n j m : Nat), j + n = len → n < m → w_heldIntS.l0 k m (marks s len) ((s + j : Nat) : Int) j = some ((s + len : Nat) : Int) := by
  have hl : (marks s len).length = len := by simp [marks]
  intro n
  induction n with
  | zero =>
    intro j m hj hm
    obtain ⟨m, rfl⟩ : ∃ m', m = m' + 1 := ⟨m - 1, by omega⟩
    rw [w_heldIntS.l0_s, cnF (by omega), show j = len by omega]
  | succ n ih =>
    intro j m hj hm
    obtain ⟨m, rfl⟩ : ∃ m', m = m' + 1 := ⟨m - 1, by omega⟩
    rw [w_heldIntS.l0_s, cnT (by omega), inb_nat (by omega), gd_t, Int.toNat_natCast, cnNT (by rw [getAt_lt (by omega)]; simp [marks]), wrap_succ (by omega), wrap_succ (by omega)]
    exact ih (j + 1) m (by omega) (by omega)
theorem w_heldIntS.ev (s len : Nat) (hs : s + len ≤ 9223372036854775806) : Ev (fun k => w_heldIntS.f k (marks s len) (s : Int)) ((s + len : Nat) : Int) := .of (len + 1) fun k hk => by
  show w_heldIntS.f k _ s = _
  rw [w_heldIntS.f_eq]
  exact w_heldIntS.loop k s len hs len 0 k (by omega) (by omega)
theorem strOfNums_one (n : Int) : (strOfNums [n]).size = 1 := by simp [strOfNums]; rfl
theorem w_markText.loop : ∀ (n : Nat) (v : Nat) (out : ByteArray), v ≤ n → n + out.size ≤ 140737488355327 → ∃ t, ∀ k m, n < m → w_markText.l0 k m (v : Int) out = some t := by
  intro n
  induction n with
  | zero =>
    intro v out hv ho
    refine ⟨{ data := #[(109 : UInt8)] : ByteArray } ++ out, fun k m hm => ?_⟩
    obtain ⟨m, rfl⟩ : ∃ m', m = m' + 1 := ⟨m - 1, by omega⟩
    rw [w_markText.l0_s, cnF (by omega), gdT (by omega)]
  | succ n ih =>
    intro v out hv ho
    by_cases h0 : v = 0
    · refine ⟨{ data := #[(109 : UInt8)] : ByteArray } ++ out, fun k m hm => ?_⟩
      obtain ⟨m, rfl⟩ : ∃ m', m = m' + 1 := ⟨m - 1, by omega⟩
      rw [w_markText.l0_s, cnF (by omega), gdT (by omega)]
    · have e : IntKind.i64.wrap ((v : Int).tdiv 10) = ((v / 10 : Nat) : Int) := by
        rw [show (v : Int).tdiv 10 = ((v / 10 : Nat) : Int) by rw [Int.tdiv_eq_ediv_of_nonneg (by omega)]; rfl, wrap_eq (by omega) (by omega)]
      obtain ⟨t, ht⟩ := ih (v / 10) (strOfNums [IntKind.u8.wrap (IntKind.i64.wrap ((48 : Int) + (v : Int).tmod (10 : Int)))] ++ out) (by omega) (by rw [ByteArray.size_append, strOfNums_one]; omega)
      refine ⟨t, fun k m hm => ?_⟩
      obtain ⟨m, rfl⟩ : ∃ m', m = m' + 1 := ⟨m - 1, by omega⟩
      rw [w_markText.l0_s, cnT (by omega), gdT (by rw [strOfNums_one]; omega), e]
      exact ht k m (by omega)
theorem w_markText.ev (v : Nat) (hv : v ≤ 140737488355327) : ∃ t, Ev (fun k => w_markText.f k (v : Int)) t := by
  by_cases h0 : v = 0
  · exact ⟨_, .const fun k => by rw [w_markText.f_eq, cnT (by omega)]⟩
  · obtain ⟨t, ht⟩ := w_markText.loop v v ByteArray.empty (Nat.le_refl _) (by simpa using hv)
    exact ⟨t, .of (v + 1) fun k hk => by
      show w_markText.f k v = _
      rw [w_markText.f_eq, cnF (by omega)]
      exact ht k k (by omega)⟩
theorem w_markStringS.loop (s len : Nat) (hs : s + len ≤ 140737488355327) : ∀ (n j : Nat) (h : List ByteArray), j + n = len → h.length = len → ∃ t K, t.length = len ∧ h.take j = t.take j ∧ ∀ k m, K ≤ k → n < m → w_markStringS.l0 k m ((s + j : Nat) : Int) j h = some (((s + len : Nat) : Int), t) := by
  intro n
  induction n with
  | zero =>
    intro j h hj hl
    refine ⟨h, 0, hl, rfl, fun k m _ hm => ?_⟩
    obtain ⟨m, rfl⟩ : ∃ m', m = m' + 1 := ⟨m - 1, by omega⟩
    rw [w_markStringS.l0_s, cnF (by omega), show j = len by omega]
  | succ n ih =>
    intro j h hj hl
    obtain ⟨x, K1, hx⟩ := w_markText.ev (s + j) (by omega)
    have hx : ∀ k, K1 ≤ k → w_markText.f k ((s + j : Nat) : Int) = some x := hx
    obtain ⟨t, K, t1, t2, ht⟩ := ih (j + 1) (h.set j x) (by omega) (by simpa using hl)
    refine ⟨t, max K K1, t1, ?_, fun k m hk hm => ?_⟩
    · have := congrArg (fun l => l.take j) t2
      simp only [List.take_take, Nat.min_eq_left (Nat.le_succ j), List.take_set_of_le (Nat.le_refl j)] at this
      exact this
    · obtain ⟨m, rfl⟩ : ∃ m', m = m' + 1 := ⟨m - 1, by omega⟩
      rw [w_markStringS.l0_s, cnT (by omega), hx k (by omega)]
      simp only [Option.bind_some]
      rw [inb_nat (by omega), gd_t, wrap_succ (by omega), wrap_succ (by omega), Int.toNat_natCast]
      exact ht k m (by omega) (by omega)
theorem w_markStringS.ev (a : List ByteArray) (s : Nat) (hs : s + a.length ≤ 140737488355327) : ∃ t, t.length = a.length ∧ Ev (fun k => w_markStringS.f k a (s : Int)) (((s + a.length : Nat) : Int), t) := by
  obtain ⟨t, K, t1, _, ht⟩ := w_markStringS.loop s a.length hs a.length 0 a (by omega) rfl
  exact ⟨t, t1, .of (max K (a.length + 1)) fun k hk => by
    show w_markStringS.f k a s = _
    rw [w_markStringS.f_eq]
    exact ht k k (by omega) (by omega)⟩
theorem w_markBoolS.loop (s len : Nat) (hs : s + len ≤ 9223372036854775806) : ∀ (n j : Nat) (h : List Bool), j + n = len → h.length = len → ∃ t, t.length = len ∧ ∀ k m, n < m → w_markBoolS.l0 k m ((s + j : Nat) : Int) j h = some (((s + len : Nat) : Int), t) := by
  intro n
  induction n with
  | zero =>
    intro j h hj hl
    refine ⟨h, hl, fun k m hm => ?_⟩
    obtain ⟨m, rfl⟩ : ∃ m', m = m' + 1 := ⟨m - 1, by omega⟩
    rw [w_markBoolS.l0_s, cnF (by omega), show j = len by omega]
  | succ n ih =>
    intro j h hj hl
    obtain ⟨t, t1, ht⟩ := ih (j + 1) (h.set j (decide (((s + j : Nat) : Int).tmod (3 : Int) = (0 : Int)))) (by omega) (by simpa using hl)
    refine ⟨t, t1, fun k m hm => ?_⟩
    obtain ⟨m, rfl⟩ : ∃ m', m = m' + 1 := ⟨m - 1, by omega⟩
    rw [w_markBoolS.l0_s, cnT (by omega), inb_nat (by omega), gd_t, wrap_succ (by omega), wrap_succ (by omega), Int.toNat_natCast]
    exact ht k m (by omega)
theorem w_markBoolS.ev (a : List Bool) (s : Nat) (hs : s + a.length ≤ 9223372036854775806) : ∃ t, t.length = a.length ∧ Ev (fun k => w_markBoolS.f k a (s : Int)) (((s + a.length : Nat) : Int), t) := by
  obtain ⟨t, t1, ht⟩ := w_markBoolS.loop s a.length hs a.length 0 a (by omega) rfl
  exact ⟨t, t1, .of (a.length + 1) fun k hk => by
    show w_markBoolS.f k a s = _
    rw [w_markBoolS.f_eq]
    exact ht k k (by omega)⟩
theorem bytes_get (s : ByteArray) (n : Nat) : getAt (0 : Int) (bytesL s) n = ((s.data.getD n 0).toNat : Int) := by
  unfold getAt bytesL
  rw [List.getD_eq_getElem?_getD, List.getElem?_map, Array.getElem?_toList, Array.getD_eq_getD_getElem?]
  cases s.data[n]? <;> rfl
theorem byte_lt (b : UInt8) : b.toNat < 256 := b.toNat_lt
/-- One byte more. -/
theorem step_zero (b : Int) (h0 : 0 ≤ b) (h1 : b < 256) : IntKind.i64.wrap (↑(BitVec.ofInt 64 (IntKind.i64.wrap ((0 : Int) * (2 : Int) ^ 8)) ||| BitVec.ofInt 64 (IntKind.i64.wrap b)).toNat : Int) = b := by
  have e : IntKind.i64.wrap ((0 : Int) * (2 : Int) ^ 8) = 0 := wrap_eq (by decide) (by decide)
  rw [e, wrap_eq (n := b) (by omega) (by omega)]
  have e2 : (BitVec.ofInt 64 0 ||| BitVec.ofInt 64 b) = BitVec.ofInt 64 b := by
    rw [show BitVec.ofInt 64 0 = 0#64 by decide]; simp
  have p64 : ((2 ^ 64 : Nat) : Int) = 18446744073709551616 := by decide
  rw [e2, BitVec.toNat_ofInt, p64, Int.emod_eq_of_lt h0 (by omega), wrap_eq (by omega) (by omega)]
  omega
theorem s_l6Value.two (t : ByteArray) (h : t.size = 2) (k : Nat) (hk : 3 ≤ k) : s_l6Value.f k t = some (sfVal (bytesL t) 0) := by
  obtain ⟨k3, e⟩ : ∃ k3, k = k3 + 3 := ⟨k - 3, by omega⟩
  rw [s_l6Value.f_eq]
  generalize hm : k = m
  have hm3 : m = k3 + 1 + 1 + 1 := by omega
  rw [hm3, s_l6Value.l0_s, cnT (by omega), show inb (0 : Int) t.size = true from inb_nat (i := 0) (by omega), gd_t]
  have b0 := byte_lt (t.data.getD 0 0)
  have b1 := byte_lt (t.data.getD 1 0)
  rw [show IntKind.i64.wrap ((0 : Int) + 1) = ((1 : Nat) : Int) from wrap_succ (n := 0) (by omega), show (0 : Int).toNat = 0 from rfl, step_zero _ (by omega) (by omega)]
  rw [s_l6Value.l0_s, cnT (by omega), inb_nat (i := 1) (by omega), gd_t, wrap_succ (n := 1) (by omega), s_l6Value.l0_s, cnF (by omega)]
  unfold sfVal
  rw [bytes_get, bytes_get, show 2 * 0 + 0 = 0 from rfl, show 2 * 0 + 1 = 1 from rfl, wrap_eq (n := ((t.data.getD 0 0).toNat : Int)) (by omega) (by omega)]
  rfl
theorem ext_get (s : ByteArray) (a j : Nat) (h : a + 2 ≤ s.size) (hj : j < 2) : (s.extract a (a + 2)).data.getD j 0 = s.data.getD (a + j) 0 := by
  have hs : s.data.size = s.size := rfl
  rw [ByteArray.data_extract, Array.getD_eq_getD_getElem?, Array.getD_eq_getD_getElem?, Array.getElem?_extract]
  rw [if_pos (by omega)]
theorem sfVal_ext (s : ByteArray) (i : Nat) (h : 2 * i + 2 ≤ s.size) : sfVal (bytesL (s.extract (2 * i) (2 * i + 2))) 0 = sfVal (bytesL s) i := by
  unfold sfVal
  rw [bytes_get, bytes_get, bytes_get, bytes_get, show 2 * 0 + 0 = 0 from rfl, show 2 * 0 + 1 = 1 from rfl, ext_get s (2 * i) 0 h (by omega), ext_get s (2 * i) 1 h (by omega)]
theorem s_StateFrom.loop (s : ByteArray) (hs : s.size = 12) (k : Nat) (hk : 3 ≤ k) : ∀ (n j m : Nat), j + n = 6 → n < m → s_StateFrom.l0 k m s j ((List.range j).map (sfVal (bytesL s))) = some ((List.range 6).map (sfVal (bytesL s)), true) := by
  intro n
  induction n with
  | zero =>
    intro j m hj hm
    obtain ⟨m, rfl⟩ : ∃ m', m = m' + 1 := ⟨m - 1, by omega⟩
    rw [s_StateFrom.l0_s, cnF (by omega), show j = 6 by omega]
  | succ n ih =>
    intro j m hj hm
    obtain ⟨m, rfl⟩ : ∃ m', m = m' + 1 := ⟨m - 1, by omega⟩
    have e1 : IntKind.i64.wrap ((2 : Int) * (j : Int)) = ((2 * j : Nat) : Int) := by rw [wrap_eq (by omega) (by omega)]; omega
    have e2 : IntKind.i64.wrap (((2 * j : Nat) : Int) + 2) = ((2 * j + 2 : Nat) : Int) := by rw [wrap_eq (by omega) (by omega)]; omega
    rw [s_StateFrom.l0_s, cnT (by omega), e1, e2, decide_eq_true (by omega : (0 : Int) ≤ ((2 * j : Nat) : Int)), decide_eq_true (by omega : ((2 * j : Nat) : Int) ≤ ((2 * j + 2 : Nat) : Int)), decide_eq_true (by omega : ((2 * j + 2 : Nat) : Int) ≤ (s.size : Int))]
    rw [show (true && (true && true)) = true from rfl, gd_t, Int.toNat_natCast, Int.toNat_natCast, s_l6Value.two _ (by rw [ByteArray.size_extract]; omega) k hk, Option.bind_some]
    have e3 : appOk (((List.range j).map (sfVal (bytesL s))).length + [sfVal (bytesL (s.extract (2 * j) (2 * j + 2))) 0].length) (Try.prog.bytesOf (3 : Nat)) = true := by
      rw [show Try.prog.bytesOf (3 : Nat) = 8 by kernel_rfl]
      simp [appOk]; omega
    rw [e3, gd_t, wrap_succ (by omega), sfVal_ext s j (by omega)]
    have := ih (j + 1) m (by omega) (by omega)
    rw [List.range_succ, List.map_append] at this
    exact this
theorem s_StateFrom.eq (l : List ByteArray) (k : Nat) (hk : 7 ≤ k) : s_StateFrom.f k l = sfF l := by
  rw [s_StateFrom.f_eq]
  unfold sfF
  cases h1 : decide ((l.length : Int) = 2) with
  | false => rfl
  | true =>
    have h1' := of_decide_eq_true h1
    rw [show inb (0 : Int) l.length = true from inb_nat (i := 0) (by omega), show inb (1 : Int) l.length = true from inb_nat (i := 1) (by omega)]
    simp only [gd_t, Bool.not_true, cn_f]
    cases h2 : decide (((getAt ByteArray.empty l 0).size : Int) = 6) with
    | false => rfl
    | true =>
      cases h3 : decide (((getAt ByteArray.empty l 1).size : Int) = 6) with
      | false => rfl
      | true =>
        have h2' := of_decide_eq_true h2
        have h3' := of_decide_eq_true h3
        simp only [Bool.not_true, cn_f, beq_self_eq_true]
        rw [gdT (by omega)]
        exact s_StateFrom.loop _ (by rw [ByteArray.size_append]; omega) k (by omega) 6 0 k (by omega) (by omega)
theorem sfF_some (l : List ByteArray) : ∃ d, sfF l = some d ∧ d.1.length ≤ 6 := by
  unfold sfF
  cases h1 : decide ((l.length : Int) = 2) with
  | false => exact ⟨_, rfl, by simp⟩
  | true =>
    have h1' := of_decide_eq_true h1
    rw [show inb (0 : Int) l.length = true from inb_nat (i := 0) (by omega), show inb (1 : Int) l.length = true from inb_nat (i := 1) (by omega)]
    simp only [gd_t, Bool.not_true, cn_f]
    cases h2 : decide (((getAt ByteArray.empty l 0).size : Int) = 6) with
    | false => exact ⟨_, rfl, by simp⟩
    | true =>
      cases h3 : decide (((getAt ByteArray.empty l 1).size : Int) = 6) with
      | false => exact ⟨_, rfl, by simp⟩
      | true => exact ⟨_, rfl, by simp⟩
theorem w_eqDisk.ev (p h : List ByteArray) (b : List Bool) (hp : p.length ≤ maxLen) (hh : h.length ≤ maxLen) (hb : b.length ≤ maxLen) : Ev (fun k => w_eqDisk.f k p h b p h b) true := by
  refine Ev.congr (Ev.bind (w_eqStringS.ev p hp) ?_) (fun k => w_eqDisk.f_eq k p h b p h b)
  simp only [Bool.not_true, cn_f]
  refine Ev.bind (w_eqStringS.ev h hh) ?_
  simp only [Bool.not_true, cn_f]
  refine Ev.bind (w_eqBoolS.ev b hb) ?_
  exact .const fun k => rfl
theorem w_markDisk.ev (p h : List ByteArray) (b : List Bool) (hp : p.length ≤ 1048576) (hh : h.length ≤ 1048576) (hb : b.length ≤ 1048576) (s : Nat) (hs : s ≤ 1048576) : ∃ (r : Nat) (x : _), r ≤ s + 3145728 ∧ Ev (fun k => w_markDisk.f k p h b (s : Int)) ((r : Int), x) := by
  obtain ⟨t1, _, e1⟩ := w_markStringS.ev p s (by omega)
  obtain ⟨t2, _, e2⟩ := w_markStringS.ev h (s + p.length) (by omega)
  obtain ⟨t3, _, e3⟩ := w_markBoolS.ev b (s + p.length + h.length) (by omega)
  exact ⟨s + p.length + h.length + b.length, (t1, t2, t3), by omega, Ev.congr (by
    refine Ev.bind e1 ?_
    refine Ev.bind e2 ?_
    refine Ev.bind e3 ?_
    exact .const fun k => rfl) (fun k => w_markDisk.f_eq k p h b s)⟩
/-- What GoodDisk says of the sectors from j on. -/
def gdAll (p h : List ByteArray) (b : List Bool) : Nat → Nat → Bool
  | 0, _ => true
  | r + 1, j => if (28 : Int) < ((getAt ByteArray.empty p j).size : Int) then false else if (28 : Int) < ((getAt ByteArray.empty h j).size : Int) then false
    else if getAt false b j = true then (if (getAt ByteArray.empty h j).toList = ByteArray.empty.toList then gdAll p h b r (j + 1) else false) else gdAll p h b r (j + 1)
theorem gdAll_s (p h : List ByteArray) (b : List Bool) (r j : Nat) : gdAll p h b (r + 1) j = (if (28 : Int) < ((getAt ByteArray.empty p j).size : Int) then false else if (28 : Int) < ((getAt ByteArray.empty h j).size : Int) then false
    else if getAt false b j = true then (if (getAt ByteArray.empty h j).toList = ByteArray.empty.toList then gdAll p h b r (j + 1) else false) else gdAll p h b r (j + 1)) := rfl
def goodD (p h : List ByteArray) (b : List Bool) : Bool := decide (1 ≤ p.length ∧ p.length ≤ 24 ∧ h.length = p.length ∧ b.length = p.length) && gdAll p h b p.length 0
theorem goodD_no {p h : List ByteArray} {b : List Bool} (g : ¬ (1 ≤ p.length ∧ p.length ≤ 24 ∧ h.length = p.length ∧ b.length = p.length)) : goodD p h b = false := by
  unfold goodD
  rw [decide_eq_false g]; rfl
theorem goodD_yes {p h : List ByteArray} {b : List Bool} (g : 1 ≤ p.length ∧ p.length ≤ 24 ∧ h.length = p.length ∧ b.length = p.length) : goodD p h b = gdAll p h b p.length 0 := by
  unfold goodD
  rw [decide_eq_true g]; rfl
theorem goodD_len {p h : List ByteArray} {b : List Bool} (g : goodD p h b = true) : 1 ≤ p.length ∧ p.length ≤ 24 ∧ h.length = p.length ∧ b.length = p.length := by
  unfold goodD at g
  simp only [Bool.and_eq_true, decide_eq_true_eq] at g
  exact g.1
theorem i_GoodDisk.loop (k : Nat) (p h : List ByteArray) (b : List Bool) (hp : p.length ≤ 24) (hh : h.length = p.length) (hb : b.length = p.length) : ∀ (n j m : Nat), j + n = p.length → n < m → i_GoodDisk.l0 k m p (p.length : Int) (j : Int) p h b = some (gdAll p h b n j) := by
  intro n
  induction n with
  | zero =>
    intro j m hj hm
    obtain ⟨m, rfl⟩ : ∃ m', m = m' + 1 := ⟨m - 1, by omega⟩
    rw [i_GoodDisk.l0_s, cnF (by omega)]; rfl
  | succ n ih =>
    intro j m hj hm
    obtain ⟨m, rfl⟩ : ∃ m', m = m' + 1 := ⟨m - 1, by omega⟩
    have := ih (j + 1) m (by omega) (by omega)
    rw [i_GoodDisk.l0_s, cnT (by omega), inb_nat (by omega), gd_t, inb_nat (by omega), gd_t, inb_nat (by omega), gd_t, gd_t, Int.toNat_natCast, wrap_succ (by omega), this]
    rw [gdAll_s]
    by_cases c1 : (28 : Int) < ((getAt ByteArray.empty p j).size : Int)
    · rw [cnT c1, if_pos c1]
    rw [cnF c1, if_neg c1]
    by_cases c2 : (28 : Int) < ((getAt ByteArray.empty h j).size : Int)
    · rw [cnT c2, if_pos c2]
    rw [cnF c2, if_neg c2]
    cases c3 : getAt false b j with
    | false => rw [cn_f, if_neg (by simp)]
    | true =>
      rw [cn_t, if_pos rfl]
      by_cases c4 : (getAt ByteArray.empty h j).toList = ByteArray.empty.toList
      · rw [cnNT c4, if_pos c4]
      · rw [cnNF c4, if_neg c4]
theorem i_GoodDisk.eq (k : Nat) (hk : 25 ≤ k) (p h : List ByteArray) (b : List Bool) : i_GoodDisk.f k p h b = some (goodD p h b) := by
  rw [i_GoodDisk.f_eq, i_within.f_eq]
  by_cases c1 : (1 : Int) ≤ (p.length : Int)
  case neg =>
    rw [cnF c1, goodD_no (by omega)]; rfl
  rw [cnT c1, Option.bind_some]
  by_cases c2 : (p.length : Int) ≤ 24
  case neg =>
    rw [decide_eq_false c2, goodD_no (by omega)]; rfl
  rw [decide_eq_true c2]
  simp only [Bool.not_true, cn_f]
  by_cases c3 : (h.length : Int) = (p.length : Int)
  case neg =>
    rw [cnNF c3, goodD_no (by omega)]
  rw [cnNT c3]
  by_cases c4 : (b.length : Int) = (p.length : Int)
  case neg =>
    rw [cnNF c4, goodD_no (by omega)]
  rw [cnNT c4, goodD_yes (by omega)]
  exact i_GoodDisk.loop k p h b (by omega) (by omega) (by omega) p.length 0 k (by omega) (by omega)
/-- What is read at a sector. -/
theorem s_l7Read.at (p h : List ByteArray) (b : List Bool) (hh : h.length = p.length) (hb : b.length = p.length) (j : Nat) (hj : j < p.length) : ∃ r : ByteArray × Bool, (∀ k, s_l7Read.f k p h b (j : Int) = some r) ∧ (r.2 = false → r.1 = ByteArray.empty) := by
  have i1 : inb (j : Int) b.length = true := inb_nat (by omega)
  have i2 : inb (j : Int) h.length = true := inb_nat (by omega)
  have i3 : inb (j : Int) p.length = true := inb_nat (by omega)
  cases c1 : getAt false b j with
  | true => exact ⟨(ByteArray.empty, false), fun k => by rw [s_l7Read.f_eq, i1, gd_t, Int.toNat_natCast, c1]; rfl, fun _ => rfl⟩
  | false =>
    by_cases c2 : (getAt ByteArray.empty h j).toList = ByteArray.empty.toList
    · exact ⟨(getAt ByteArray.empty p j, true), fun k => by rw [s_l7Read.f_eq, i1, gd_t, Int.toNat_natCast, c1, cn_f, i2, gd_t, cnNT c2, i3, gd_t], fun h => by cases h⟩
    · exact ⟨(getAt ByteArray.empty h j, true), fun k => by rw [s_l7Read.f_eq, i1, gd_t, Int.toNat_natCast, c1, cn_f, i2, gd_t, cnNF c2, gd_t], fun h => by cases h⟩
theorem i_ReadSector.eq (p h : List ByteArray) (b : List Bool) (g : goodD p h b = true) (j : Nat) (hj : j < p.length) (k : Nat) (hk : 25 ≤ k) : i_ReadSector.f k p h b (j : Int) = s_l7Read.f k p h b (j : Int) := by
  obtain ⟨g1, g2, g3, g4⟩ := goodD_len g
  rw [i_ReadSector.f_eq, i_GoodDisk.eq k hk, g, s_l7Read.f_eq, i_Disk_has.f_eq, i_within.f_eq, cnT (by omega), wrap_eq (by omega) (by omega)]
  simp only [Option.bind_some, Bool.not_true, cn_f]
  rw [decide_eq_true (by omega)]
  simp only [Bool.not_true, cn_f]
/-- One byte shifted through, n bits of it. -/
def crcN : Nat → Int → Int
  | 0, x => x
  | n + 1, x => crcN n (cn (decide (IntKind.i64.wrap (↑(BitVec.ofInt (64 : Nat) x &&& BitVec.ofInt (64 : Nat) (1 : Int)).toNat : Int) = (1 : Int))) (IntKind.i64.wrap (↑(BitVec.ofInt (64 : Nat) (x.fdiv ((2 : Int) ^ (1 : Nat))) ^^^ BitVec.ofInt (64 : Nat) (2197175160 : Int)).toNat : Int)) (x.fdiv ((2 : Int) ^ (1 : Nat))))
theorem crcN_s (n : Nat) (x : Int) : crcN (n + 1) x = crcN n (cn (decide (IntKind.i64.wrap (↑(BitVec.ofInt (64 : Nat) x &&& BitVec.ofInt (64 : Nat) (1 : Int)).toNat : Int) = (1 : Int))) (IntKind.i64.wrap (↑(BitVec.ofInt (64 : Nat) (x.fdiv ((2 : Int) ^ (1 : Nat))) ^^^ BitVec.ofInt (64 : Nat) (2197175160 : Int)).toNat : Int)) (x.fdiv ((2 : Int) ^ (1 : Nat)))) := rfl
/-- The sum over n bytes of t from j on. -/
def crcL (t : ByteArray) : Nat → Int → Nat → Int
  | 0, x, _ => IntKind.i64.wrap (↑(BitVec.ofInt (64 : Nat) x ^^^ BitVec.ofInt (64 : Nat) (4294967295 : Int)).toNat : Int)
  | n + 1, x, j => crcL t n (crcN 8 (IntKind.i64.wrap (↑(BitVec.ofInt (64 : Nat) x ^^^ BitVec.ofInt (64 : Nat) (IntKind.i64.wrap (↑(t.data.getD j (0 : UInt8)).toNat : Int))).toNat : Int))) (j + 1)
theorem crcL_s (t : ByteArray) (n : Nat) (x : Int) (j : Nat) : crcL t (n + 1) x j = crcL t n (crcN 8 (IntKind.i64.wrap (↑(BitVec.ofInt (64 : Nat) x ^^^ BitVec.ofInt (64 : Nat) (IntKind.i64.wrap (↑(t.data.getD j (0 : UInt8)).toNat : Int))).toNat : Int))) (j + 1) := rfl
def crc (t : ByteArray) : Int := crcL t t.size (IntKind.i64.wrap (↑(BitVec.ofInt (64 : Nat) (0 : Int) ^^^ BitVec.ofInt (64 : Nat) (4294967295 : Int)).toNat : Int)) 0
theorem i_shifted.loop (k : Nat) : ∀ (n j m : Nat) (x : Int), j + n = 8 → n < m → i_shifted.l0 k m x (j : Int) = some (crcN n x) := by
  intro n
  induction n with
  | zero =>
    intro j m x hj hm
    obtain ⟨m, rfl⟩ : ∃ m', m = m' + 1 := ⟨m - 1, by omega⟩
    rw [i_shifted.l0_s, cnF (by omega)]; rfl
  | succ n ih =>
    intro j m x hj hm
    obtain ⟨m, rfl⟩ : ∃ m', m = m' + 1 := ⟨m - 1, by omega⟩
    rw [i_shifted.l0_s, cnT (by omega), wrap_succ (by omega), ih (j + 1) m _ (by omega) (by omega), ih (j + 1) m _ (by omega) (by omega), crcN_s]
    cases decide (IntKind.i64.wrap (↑(BitVec.ofInt (64 : Nat) x &&& BitVec.ofInt (64 : Nat) (1 : Int)).toNat : Int) = (1 : Int)) <;> rfl
theorem i_shifted.eq (k : Nat) (hk : 9 ≤ k) (x : Int) : i_shifted.f k x = some (crcN 8 x) := by
  rw [i_shifted.f_eq]
  exact i_shifted.loop k 8 0 k x (by omega) (by omega)
theorem s_l5Byte.loop (k : Nat) : ∀ (n j m : Nat) (x : Int), j + n = 8 → n < m → s_l5Byte.l0 k m x (j : Int) = some (crcN n x) := by
  intro n
  induction n with
  | zero =>
    intro j m x hj hm
    obtain ⟨m, rfl⟩ : ∃ m', m = m' + 1 := ⟨m - 1, by omega⟩
    rw [s_l5Byte.l0_s, cnF (by omega)]; rfl
  | succ n ih =>
    intro j m x hj hm
    obtain ⟨m, rfl⟩ : ∃ m', m = m' + 1 := ⟨m - 1, by omega⟩
    rw [s_l5Byte.l0_s, cnT (by omega), wrap_succ (by omega), ih (j + 1) m _ (by omega) (by omega), ih (j + 1) m _ (by omega) (by omega), crcN_s]
    cases decide (IntKind.i64.wrap (↑(BitVec.ofInt (64 : Nat) x &&& BitVec.ofInt (64 : Nat) (1 : Int)).toNat : Int) = (1 : Int)) <;> rfl
theorem s_l5Byte.eq (k : Nat) (hk : 9 ≤ k) (x : Int) : s_l5Byte.f k x = some (crcN 8 x) := by
  rw [s_l5Byte.f_eq]
  exact s_l5Byte.loop k 8 0 k x (by omega) (by omega)
theorem i_sumOn.loop (k : Nat) (hk : 9 ≤ k) (t : ByteArray) (ht : t.size ≤ 140737488355328) : ∀ (n j m : Nat) (x : Int), j + n = t.size → n < m → i_sumOn.l0 k m x t (t.size : Int) (j : Int) = some (crcL t n x j) := by
  intro n
  induction n with
  | zero =>
    intro j m x hj hm
    obtain ⟨m, rfl⟩ : ∃ m', m = m' + 1 := ⟨m - 1, by omega⟩
    rw [i_sumOn.l0_s, cnF (by omega), i_turned.f_eq]; rfl
  | succ n ih =>
    intro j m x hj hm
    obtain ⟨m, rfl⟩ : ∃ m', m = m' + 1 := ⟨m - 1, by omega⟩
    rw [i_sumOn.l0_s, cnT (by omega), inb_nat (by omega), gd_t, i_shifted.eq k hk, Option.bind_some, wrap_succ (by omega), ih (j + 1) m _ (by omega) (by omega), crcL_s, Int.toNat_natCast]
theorem i_sumOn.eq (k : Nat) (t : ByteArray) (ht : t.size ≤ 140737488355328) (hk : t.size + 9 ≤ k) : i_sumOn.f k 0 t = some (crc t) := by
  rw [i_sumOn.f_eq, i_turned.f_eq, Option.bind_some]
  exact i_sumOn.loop k (by omega) t ht t.size 0 k _ (by omega) (by omega)
theorem s_l5On.loop (k : Nat) (hk : 9 ≤ k) (t : ByteArray) (ht : t.size ≤ 140737488355328) : ∀ (n j m : Nat) (x : Int), j + n = t.size → n < m → s_l5On.l0 k m x t (j : Int) = some (crcL t n x j) := by
  intro n
  induction n with
  | zero =>
    intro j m x hj hm
    obtain ⟨m, rfl⟩ : ∃ m', m = m' + 1 := ⟨m - 1, by omega⟩
    rw [s_l5On.l0_s, cnF (by omega)]; rfl
  | succ n ih =>
    intro j m x hj hm
    obtain ⟨m, rfl⟩ : ∃ m', m = m' + 1 := ⟨m - 1, by omega⟩
    rw [s_l5On.l0_s, cnT (by omega), inb_nat (by omega), gd_t, s_l5Byte.eq k hk, Option.bind_some, wrap_succ (by omega), ih (j + 1) m _ (by omega) (by omega), crcL_s, Int.toNat_natCast]
theorem s_l5On.eq (k : Nat) (t : ByteArray) (ht : t.size ≤ 140737488355328) (hk : t.size + 9 ≤ k) : s_l5On.f k 0 t = some (crc t) := by
  rw [s_l5On.f_eq]
  exact s_l5On.loop k (by omega) t ht t.size 0 k _ (by omega) (by omega)
theorem strOfNums_append (a b : List Int) : strOfNums (a ++ b) = strOfNums a ++ strOfNums b := by
  apply ByteArray.ext
  rw [ByteArray.data_append]
  simp [strOfNums]
theorem strOfNums_bytes (s : ByteArray) : strOfNums (bytesL s) = s := by
  apply ByteArray.ext
  simp only [strOfNums, bytesL, List.map_map]
  rw [show ((fun n : Int => UInt8.ofNat n.toNat) ∘ fun b : UInt8 => (b.toNat : Int)) = id by funext b; simp]
  simp
theorem strOfNums_nil : strOfNums [] = ByteArray.empty := rfl
theorem strOfNums_len (xs : List Int) : (strOfNums xs).size = xs.length := by simp [strOfNums, ByteArray.size]
theorem mk1 (n : Nat) (h : n ≤ 70368744177664) : mkOk (n : Int) (n : Int) (Try.prog.bytesOf (5 : Nat)) = true := by
  rw [show Try.prog.bytesOf (5 : Nat) = 1 by kernel_rfl]
  unfold mkOk
  simp; omega
theorem app1 (n : Nat) (h : n ≤ 70368744177664) : appOk n (Try.prog.bytesOf (5 : Nat)) = true := by
  rw [show Try.prog.bytesOf (5 : Nat) = 1 by kernel_rfl]
  unfold appOk
  simp; omega
theorem s_l6Bytes.one (k : Nat) (hk : 2 ≤ k) (n : Int) : s_l6Bytes.f k n 1 = some (strOfNums [IntKind.u8.wrap n]) := by
  rw [s_l6Bytes.f_eq, show mkOk (1 : Int) (1 : Int) (Try.prog.bytesOf (5 : Nat)) = true from mk1 1 (by omega), gd_t]
  obtain ⟨k2, e⟩ : ∃ k2, k = k2 + 2 := ⟨k - 2, by omega⟩
  generalize k = kk at e ⊢
  subst e
  rw [show IntKind.i64.wrap ((1 : Int) - 1) = ((0 : Nat) : Int) from wrap_eq (by decide) (by decide)]
  rw [s_l6Bytes.l0_s, cnT (by decide), inb_nat (by simp), gd_t, show IntKind.i64.wrap (((0 : Nat) : Int) - 1) = -1 from wrap_eq (by decide) (by decide), s_l6Bytes.l0_s, cnF (by decide)]
  rfl
theorem s_l6Bytes.two (k : Nat) (hk : 3 ≤ k) (n : Int) : s_l6Bytes.f k n 2 = some (strOfNums [IntKind.u8.wrap (n.fdiv ((2 : Int) ^ (8 : Nat))), IntKind.u8.wrap n]) := by
  rw [s_l6Bytes.f_eq, show mkOk (2 : Int) (2 : Int) (Try.prog.bytesOf (5 : Nat)) = true from mk1 2 (by omega), gd_t]
  obtain ⟨k2, e⟩ : ∃ k2, k = k2 + 3 := ⟨k - 3, by omega⟩
  generalize k = kk at e ⊢
  subst e
  rw [show IntKind.i64.wrap ((2 : Int) - 1) = ((1 : Nat) : Int) from wrap_eq (by decide) (by decide)]
  rw [s_l6Bytes.l0_s, cnT (by decide), inb_nat (by simp), gd_t, show IntKind.i64.wrap (((1 : Nat) : Int) - 1) = ((0 : Nat) : Int) from wrap_eq (by decide) (by decide)]
  rw [s_l6Bytes.l0_s, cnT (by decide), inb_nat (by simp), gd_t, show IntKind.i64.wrap (((0 : Nat) : Int) - 1) = -1 from wrap_eq (by decide) (by decide), s_l6Bytes.l0_s, cnF (by decide)]
  rfl
def low4 (n : Int) : List Int := [IntKind.u8.wrap n, IntKind.u8.wrap (n.fdiv ((2 : Int) ^ (8 : Nat))), IntKind.u8.wrap (n.fdiv ((2 : Int) ^ (16 : Nat))), IntKind.u8.wrap (n.fdiv ((2 : Int) ^ (24 : Nat)))]
theorem s_l6Low.step (k m : Nat) (hk : 3 ≤ k) (n : Int) (s : ByteArray) (hs : s.size ≤ 10) (j : Nat) (hj : j < 4) : s_l6Low.l0 k (m + 1) n s (j : Int) = s_l6Low.l0 k m n (s ++ strOfNums [IntKind.u8.wrap (n.fdiv ((2 : Int) ^ (8 * j)))]) ((j + 1 : Nat) : Int) := by
  have e : IntKind.u64.wrap (IntKind.i64.wrap ((8 : Int) * (j : Int))) = ((8 * j : Nat) : Int) := by
    rw [wrap_eq (by omega) (by omega)]
    have : j = 0 ∨ j = 1 ∨ j = 2 ∨ j = 3 := by omega
    rcases this with rfl | rfl | rfl | rfl <;> decide
  rw [s_l6Low.l0_s, cnT (by omega), e, gdT (by omega), Int.toNat_natCast, show min (8 * j) 64 = 8 * j by omega, s_l6Bytes.one k (by omega), Option.bind_some, gdT (by rw [strOfNums_len]; simp; omega), wrap_succ (by omega)]
theorem s_l6Low.all (k m : Nat) (hk : 3 ≤ k) (hm : 5 ≤ m) (n : Int) : s_l6Low.l0 k m n ByteArray.empty 0 = some (strOfNums (low4 n)) := by
  obtain ⟨k5, rfl⟩ : ∃ k5, m = k5 + 1 + 1 + 1 + 1 + 1 := ⟨m - 5, by omega⟩
  have e0 : (0 : Int) = ((0 : Nat) : Int) := rfl
  rw [e0, s_l6Low.step k _ hk n _ (by decide) 0 (by omega), s_l6Low.step k _ hk n _ (by simp [strOfNums_len]) 1 (by omega), s_l6Low.step k _ hk n _ (by simp [strOfNums_len]) 2 (by omega), s_l6Low.step k _ hk n _ (by simp [strOfNums_len]) 3 (by omega), s_l6Low.l0_s, cnF (by omega)]
  rw [← strOfNums_nil, ← strOfNums_append, ← strOfNums_append, ← strOfNums_append, ← strOfNums_append]
  unfold low4
  rw [show n.fdiv ((2 : Int) ^ (8 * 0)) = n by simp]
  rfl
theorem s_l6Low.eq (k : Nat) (hk : 5 ≤ k) (n : Int) : s_l6Low.f k n = some (strOfNums (low4 n)) := by
  rw [s_l6Low.f_eq]
  exact s_l6Low.all k k (by omega) hk n
def goodF (kind at_ ep : Int) (body : ByteArray) : Bool := decide (1 ≤ kind ∧ kind ≤ 255 ∧ 0 ≤ at_ ∧ at_ ≤ 60000 ∧ 0 ≤ ep ∧ ep ≤ 60000 ∧ (body.size : Int) ≤ 16)
theorem i_within.eq (k : Nat) (n lo hi : Int) : i_within.f k n lo hi = some (decide (lo ≤ n ∧ n ≤ hi)) := by
  rw [i_within.f_eq]
  by_cases h : lo ≤ n
  · rw [cnT h]; simp [h]
  · rw [cnF h]; simp [h]
theorem s_l1In.eq (k : Nat) (n lo hi : Int) : s_l1In.f k n lo hi = some (decide (lo ≤ n ∧ n ≤ hi)) := by
  rw [s_l1In.f_eq]
  by_cases h : lo ≤ n
  · rw [cnT h]; simp [h]
  · rw [cnF h]; simp [h]
theorem i_GoodFrame.eq (k : Nat) (kind at_ ep : Int) (body : ByteArray) : i_GoodFrame.f k kind at_ ep body = some (goodF kind at_ ep body) := by
  rw [i_GoodFrame.f_eq]
  simp only [i_within.eq, Option.bind_some]
  unfold goodF
  by_cases h1 : 1 ≤ kind ∧ kind ≤ 255
  case neg => rw [cnF h1, decide_eq_false (fun h => h1 ⟨h.1, h.2.1⟩)]
  rw [cnT h1]
  by_cases h2 : 0 ≤ at_ ∧ at_ ≤ 60000
  case neg => rw [cnF h2, decide_eq_false (fun h => h2 ⟨h.2.2.1, h.2.2.2.1⟩)]
  rw [cnT h2]
  by_cases h3 : 0 ≤ ep ∧ ep ≤ 60000
  case neg => rw [cnF h3, decide_eq_false (fun h => h3 ⟨h.2.2.2.2.1, h.2.2.2.2.2.1⟩)]
  rw [cnT h3]
  congr 1
  apply decide_eq_decide.2
  exact ⟨fun h => ⟨h1.1, h1.2, h2.1, h2.2, h3.1, h3.2, h⟩, fun h => h.2.2.2.2.2.2⟩
theorem s_GoodFrame.eq (k : Nat) (kind at_ ep : Int) (body : ByteArray) : s_GoodFrame.f k kind at_ ep body = some (goodF kind at_ ep body) := by
  rw [s_GoodFrame.f_eq]
  simp only [s_l1In.eq, Option.bind_some]
  unfold goodF
  by_cases h1 : 1 ≤ kind ∧ kind ≤ 255
  case neg => rw [cnF h1, decide_eq_false (fun h => h1 ⟨h.1, h.2.1⟩)]
  rw [cnT h1]
  by_cases h2 : 0 ≤ at_ ∧ at_ ≤ 60000
  case neg => rw [cnF h2, decide_eq_false (fun h => h2 ⟨h.2.2.1, h.2.2.2.1⟩)]
  rw [cnT h2]
  by_cases h3 : 0 ≤ ep ∧ ep ≤ 60000
  case neg => rw [cnF h3, decide_eq_false (fun h => h3 ⟨h.2.2.2.2.1, h.2.2.2.2.2.1⟩)]
  rw [cnT h3]
  congr 1
  apply decide_eq_decide.2
  exact ⟨fun h => ⟨h1.1, h1.2, h2.1, h2.2, h3.1, h3.2, h⟩, fun h => h.2.2.2.2.2.2⟩
def head6 (kind at_ ep : Int) (body : ByteArray) : List Int := [IntKind.u8.wrap kind, IntKind.u8.wrap (at_.fdiv ((2 : Int) ^ (8 : Nat))), IntKind.u8.wrap at_, IntKind.u8.wrap (ep.fdiv ((2 : Int) ^ (8 : Nat))), IntKind.u8.wrap ep, IntKind.u8.wrap (↑body.size : Int)]
def pad18 (body : ByteArray) : List Int := List.replicate (18 - body.size) (0 : Int)
def front24 (kind at_ ep : Int) (body : ByteArray) : List Int := head6 kind at_ ep body ++ bytesL body ++ pad18 body
def frameL (kind at_ ep : Int) (body : ByteArray) : List Int := front24 kind at_ ep body ++ low4 (crc (strOfNums (front24 kind at_ ep body)))
theorem bytesL_len (s : ByteArray) : (bytesL s).length = s.size := by simp [bytesL]
theorem front24_len (kind at_ ep : Int) (body : ByteArray) (hb : body.size ≤ 16) : (front24 kind at_ ep body).length = 24 := by
  unfold front24 head6 pad18
  simp only [List.length_append, bytesL_len, List.length_replicate, List.length_cons, List.length_nil]
  omega
theorem i_frameBytes.eq (k : Nat) (hk : 40 ≤ k) (kind at_ ep : Int) (body : ByteArray) (hb : body.size ≤ 16) : i_frameBytes.f k kind at_ ep body = some (strOfNums (frameL kind at_ ep body)) := by
  have e : IntKind.i64.wrap (IntKind.i64.wrap ((18 : Int) - (↑body.size : Int))) = ((18 - body.size : Nat) : Int) := by
    rw [wrap_eq (n := 18 - (body.size : Int)) (by omega) (by omega), wrap_eq (by omega) (by omega)]; omega
  rw [i_frameBytes.f_eq, e, Int.toNat_natCast]
  have hL := front24_len kind at_ ep body hb
  unfold front24 head6 pad18 at hL
  rw [app1 _ (by simp only [bytesL_len, List.length_cons, List.length_nil]; omega), gd_t, app1 _ (by rw [← List.length_append, hL]; omega), decide_eq_true (by omega : (0 : Int) ≤ ((18 - body.size : Nat) : Int)), Bool.true_and, gd_t]
  rw [i_sumOn.eq k _ (by rw [strOfNums_len, hL]; omega) (by rw [strOfNums_len, hL]; omega), Option.bind_some, app1 _ (by rw [hL]; simp), gd_t]
  rfl
theorem gd_le {A : Type} {x y : Nat} {z : Option A} (h : x ≤ y) : gd (decide (x ≤ y)) z = z := gdT h
theorem s_l6Frame.eq (k : Nat) (hk : 40 ≤ k) (kind at_ ep : Int) (body : ByteArray) (hb : body.size ≤ 16) : s_l6Frame.f k kind at_ ep body = some (strOfNums (frameL kind at_ ep body)) := by
  have e : IntKind.i64.wrap (IntKind.i64.wrap ((16 : Int) - (↑body.size : Int)) + 2) = ((18 - body.size : Nat) : Int) := by
    rw [wrap_eq (n := 16 - (body.size : Int)) (by omega) (by omega), wrap_eq (by omega) (by omega)]; omega
  have hL := front24_len kind at_ ep body hb
  have eF : strOfNums [IntKind.u8.wrap kind] ++ strOfNums [IntKind.u8.wrap (at_.fdiv ((2 : Int) ^ (8 : Nat))), IntKind.u8.wrap at_] ++ strOfNums [IntKind.u8.wrap (ep.fdiv ((2 : Int) ^ (8 : Nat))), IntKind.u8.wrap ep] ++ strOfNums [IntKind.u8.wrap (body.size : Int)] ++ body ++ strOfNums (List.replicate (18 - body.size) (0 : Int)) = strOfNums (front24 kind at_ ep body) := by
    unfold front24
    rw [strOfNums_append, strOfNums_append, strOfNums_bytes, ← strOfNums_append, ← strOfNums_append, ← strOfNums_append]
    rfl
  have hc := s_l5On.eq k (strOfNums (front24 kind at_ ep body)) (by rw [strOfNums_len, hL]; omega) (by rw [strOfNums_len, hL]; omega)
  rw [s_l6Frame.f_eq]
  simp only [s_l6Bytes.one k (by omega : 2 ≤ k), s_l6Bytes.two k (by omega : 3 ≤ k), Option.bind_some, e, Int.toNat_natCast, mk1 (18 - body.size) (by omega), gd_t, ByteArray.size_append, strOfNums_len, List.length_cons, List.length_nil, List.length_replicate]
  simp (disch := omega) only [gd_le]
  simp only [eF, hc, Option.bind_some, s_l6Low.eq k (by omega : 5 ≤ k), strOfNums_len]
  simp only [show ∀ n, (low4 n).length = 4 from fun _ => rfl]
  simp (disch := omega) only [gd_le, both_self, dup_eq]
  rw [← strOfNums_append]
  rfl
theorem s_l6Value.one (t : ByteArray) (h : t.size = 1) (k : Nat) (hk : 2 ≤ k) : s_l6Value.f k t = some (IntKind.i64.wrap (↑(t.data.getD 0 0).toNat : Int)) := by
  obtain ⟨k3, e⟩ : ∃ k3, k = k3 + 2 := ⟨k - 2, by omega⟩
  rw [s_l6Value.f_eq]
  generalize hm : k = m
  have hm3 : m = k3 + 1 + 1 := by omega
  have b0 := byte_lt (t.data.getD 0 0)
  rw [hm3, s_l6Value.l0_s, cnT (by omega), show inb (0 : Int) t.size = true from inb_nat (i := 0) (by omega), gd_t, show (0 : Int).toNat = 0 from rfl, step_zero _ (by omega) (by omega), show IntKind.i64.wrap ((0 : Int) + 1) = ((1 : Nat) : Int) from wrap_succ (n := 0) (by omega), s_l6Value.l0_s, cnF (by omega), wrap_eq (by omega) (by omega)]
theorem s_l6Value.pair (t : ByteArray) (h : t.size = 2) (k : Nat) (hk : 3 ≤ k) : s_l6Value.f k t = some (IntKind.i64.wrap (↑(BitVec.ofInt (64 : Nat) (IntKind.i64.wrap (IntKind.i64.wrap (↑(t.data.getD 0 (0 : UInt8)).toNat : Int) * (2 : Int) ^ (8 : Nat))) ||| BitVec.ofInt (64 : Nat) (IntKind.i64.wrap (↑(t.data.getD 1 (0 : UInt8)).toNat : Int))).toNat : Int)) := by
  obtain ⟨k3, e⟩ : ∃ k3, k = k3 + 3 := ⟨k - 3, by omega⟩
  rw [s_l6Value.f_eq]
  generalize hm : k = m
  have hm3 : m = k3 + 1 + 1 + 1 := by omega
  have b0 := byte_lt (t.data.getD 0 0)
  rw [hm3, s_l6Value.l0_s, cnT (by omega), show inb (0 : Int) t.size = true from inb_nat (i := 0) (by omega), gd_t, show (0 : Int).toNat = 0 from rfl, step_zero _ (by omega) (by omega), show IntKind.i64.wrap ((0 : Int) + 1) = ((1 : Nat) : Int) from wrap_succ (n := 0) (by omega)]
  rw [s_l6Value.l0_s, cnT (by omega), inb_nat (i := 1) (by omega), gd_t, wrap_succ (by omega), s_l6Value.l0_s, cnF (by omega), Int.toNat_natCast]
  congr 7
  rw [wrap_eq (by omega) (by omega)]
theorem ext_getD (s : ByteArray) (a b j : Nat) (h : b ≤ s.size) (hj : a + j < b) : (s.extract a b).data.getD j 0 = s.data.getD (a + j) 0 := by
  have hs : s.data.size = s.size := rfl
  rw [ByteArray.data_extract, Array.getD_eq_getD_getElem?, Array.getD_eq_getD_getElem?, Array.getElem?_extract]
  rw [if_pos (by omega)]
theorem byteArray_toList_eq {a b : ByteArray} : a.toList = b.toList ↔ a = b := by
  constructor
  · intro h
    have : a.data.toList = b.data.toList := by rw [ByteArray.toList_eq, ByteArray.toList_eq] at h; exact h
    exact ByteArray.ext (Array.ext' this)
  · rintro rfl; rfl
abbrev Fr : Type := (Int × Int × Int × ByteArray) × Int × Bool
abbrev noFr (c : Int) : Fr := (((0 : Int), (0 : Int), (0 : Int), ByteArray.empty), c, false)
/-- What a frame's text is read as. -/
theorem readFrame_same (s : ByteArray) : ∃ r : Fr, (∀ k, 40 ≤ k → i_ReadFrame.f k s = some r) ∧ (∀ k, 40 ≤ k → s_ReadFrame.f k s = some r) ∧ (r.2.2 = true → r.2.1 = 0 ∧ 0 ≤ r.1.2.2.1 ∧ r.1.2.2.1 ≤ 60000 ∧ r.1.2.2.2.size ≤ 16) ∧ (r.2.2 = false → r.2.1 ≠ 0) ∧ (s.size ≠ 28 → r.2.2 = false) := by
  by_cases h28 : (s.size : Int) = 28
  case neg =>
    exact ⟨noFr 1, fun k hk => by rw [i_ReadFrame.f_eq, cnNF h28], fun k hk => by rw [s_ReadFrame.f_eq, cnNF h28], fun h => (by cases h), fun _ => (by decide), fun _ => rfl⟩
  have hs : s.size = 28 := by omega
  have h24 : (s.extract 0 24).size = 24 := by rw [ByteArray.size_extract]; omega
  have hi : ∀ k, 40 ≤ k → i_sumOn.f k 0 (s.extract 0 24) = some (crc (s.extract 0 24)) := fun k hk => i_sumOn.eq k _ (by omega) (by omega)
  have ho : ∀ k, 40 ≤ k → s_l5On.f k 0 (s.extract 0 24) = some (crc (s.extract 0 24)) := fun k hk => s_l5On.eq k _ (by omega) (by omega)
  by_cases hsum : (s.extract 24 s.size).toList = (strOfNums (low4 (crc (s.extract 0 24)))).toList
  case neg =>
    refine ⟨noFr 2, fun k hk => ?_, fun k hk => ?_, fun h => (by cases h), fun _ => (by decide), fun h => absurd hs h⟩
    · rw [i_ReadFrame.f_eq, cnNT h28, decide_eq_true (by omega : (24 : Int) ≤ (s.size : Int))]
      simp only [Bool.true_and, gd_t, hi k hk, Option.bind_some]
      exact cnNF hsum
    · rw [s_ReadFrame.f_eq, cnNT h28, decide_eq_true (by omega : (24 : Int) ≤ (s.size : Int))]
      simp only [Bool.true_and, gd_t, ho k hk, Option.bind_some, s_l6Low.eq k (by omega : 5 ≤ k)]
      exact cnNF (fun h => hsum h.symm)
  have v1 : ∀ k, 40 ≤ k → s_l6Value.f k (s.extract 0 1) = some (IntKind.i64.wrap (↑(s.data.getD 0 0).toNat : Int)) := fun k hk => by
    rw [s_l6Value.one _ (by rw [ByteArray.size_extract]; omega) k (by omega), ext_getD s 0 1 0 (by omega) (by omega)]
  have v2 : ∀ k, 40 ≤ k → s_l6Value.f k (s.extract 1 3) = _ := fun k hk => by
    rw [s_l6Value.pair _ (by rw [ByteArray.size_extract]; omega) k (by omega), ext_getD s 1 3 0 (by omega) (by omega), ext_getD s 1 3 1 (by omega) (by omega)]
  have v3 : ∀ k, 40 ≤ k → s_l6Value.f k (s.extract 3 5) = _ := fun k hk => by
    rw [s_l6Value.pair _ (by rw [ByteArray.size_extract]; omega) k (by omega), ext_getD s 3 5 0 (by omega) (by omega), ext_getD s 3 5 1 (by omega) (by omega)]
  generalize hx1 : IntKind.i64.wrap (↑(s.data.getD 0 0).toNat : Int) = x1 at v1
  generalize hx2 : IntKind.i64.wrap (↑(BitVec.ofInt (64 : Nat) (IntKind.i64.wrap (IntKind.i64.wrap (↑(s.data.getD (1 + 0) (0 : UInt8)).toNat : Int) * (2 : Int) ^ (8 : Nat))) ||| BitVec.ofInt (64 : Nat) (IntKind.i64.wrap (↑(s.data.getD (1 + 1) (0 : UInt8)).toNat : Int))).toNat : Int) = x2 at v2
  generalize hx3 : IntKind.i64.wrap (↑(BitVec.ofInt (64 : Nat) (IntKind.i64.wrap (IntKind.i64.wrap (↑(s.data.getD (3 + 0) (0 : UInt8)).toNat : Int) * (2 : Int) ^ (8 : Nat))) ||| BitVec.ofInt (64 : Nat) (IntKind.i64.wrap (↑(s.data.getD (3 + 1) (0 : UInt8)).toNat : Int))).toNat : Int) = x3 at v3
  simp only [Nat.add_zero, Nat.reduceAdd] at hx2 hx3
  have b5 := byte_lt (s.data.getD 5 0)
  have e5 : IntKind.i64.wrap (↑(s.data.getD 5 0).toNat : Int) = ((s.data.getD 5 0).toNat : Int) := wrap_eq (by omega) (by omega)
  have inbs : ∀ j : Nat, j < 28 → inb (j : Int) s.size = true := fun j hj => inb_nat (by omega)
  have g0 := inbs 0 (by omega); have g1 := inbs 1 (by omega); have g2 := inbs 2 (by omega); have g3 := inbs 3 (by omega); have g4 := inbs 4 (by omega); have g5 := inbs 5 (by omega)
  -- the code's reading, down to its frame
  have hI : ∀ k, 40 ≤ k → ∀ n : Nat, n = min (s.data.getD 5 0).toNat 16 → i_ReadFrame.f k s = cn (!goodF x1 x2 x3 (s.extract 6 (6 + n))) (some (noFr 3)) (cn (!decide ((strOfNums (frameL x1 x2 x3 (s.extract 6 (6 + n)))).toList = s.toList)) (some (noFr 3)) (some ((x1, x2, x3, s.extract 6 (6 + n)), 0, true))) := by
    intro k hk n hn
    have hsz : (s.extract 6 (6 + n)).size ≤ 16 := by rw [ByteArray.size_extract]; omega
    have e6 : cn (decide (((s.data.getD 5 0).toNat : Int) < (16 : Int))) (((s.data.getD 5 0).toNat : Int)) (16 : Int) = (n : Int) := by
      by_cases h : ((s.data.getD 5 0).toNat : Int) < 16
      · rw [cnT h]; omega
      · rw [cnF h]; omega
    rw [i_ReadFrame.f_eq, cnNT h28, decide_eq_true (by omega : (24 : Int) ≤ (s.size : Int))]
    simp only [Bool.true_and, gd_t, hi k hk, Option.bind_some]
    rw [show (strOfNums [IntKind.u8.wrap (crc (s.extract 0 24)), IntKind.u8.wrap (Int.fdiv (crc (s.extract 0 24)) ((2 : Int) ^ (8 : Nat))), IntKind.u8.wrap (Int.fdiv (crc (s.extract 0 24)) ((2 : Int) ^ (16 : Nat))), IntKind.u8.wrap (Int.fdiv (crc (s.extract 0 24)) ((2 : Int) ^ (24 : Nat)))]) = strOfNums (low4 (crc (s.extract 0 24))) from rfl, cnNT hsum]
    rw [show inb (0 : Int) s.size = true from g0, show inb (1 : Int) s.size = true from g1, show inb (2 : Int) s.size = true from g2, show inb (3 : Int) s.size = true from g3, show inb (4 : Int) s.size = true from g4, show inb (5 : Int) s.size = true from g5]
    simp only [gd_t]
    rw [e5, e6, wrap_eq (n := 6 + (n : Int)) (by omega) (by omega), decide_eq_true (by omega : (6 : Int) ≤ 6 + (n : Int)), decide_eq_true (by omega : 6 + (n : Int) ≤ (s.size : Int)), hx1, hx2, hx3, show (6 + (n : Int)).toNat = 6 + n by omega]
    simp only [Bool.and_self, gd_t, i_GoodFrame.eq, Option.bind_some, i_frameBytes.eq k hk x1 x2 x3 _ hsz]
  have hS : ∀ k, 40 ≤ k → ∀ n : Nat, n = (s.data.getD 5 0).toNat → n ≤ 16 → s_ReadFrame.f k s = cn (!goodF x1 x2 x3 (s.extract 6 (6 + n))) (some (noFr 3)) (cn (!decide ((strOfNums (frameL x1 x2 x3 (s.extract 6 (6 + n)))).toList = s.toList)) (some (noFr 3)) (some ((x1, x2, x3, s.extract 6 (6 + n)), 0, true))) := by
    intro k hk n hn hn16
    have hsz : (s.extract 6 (6 + n)).size ≤ 16 := by rw [ByteArray.size_extract]; omega
    rw [s_ReadFrame.f_eq, cnNT h28, decide_eq_true (by omega : (24 : Int) ≤ (s.size : Int)), decide_eq_true (by omega : (1 : Int) ≤ (s.size : Int)), decide_eq_true (by omega : (3 : Int) ≤ (s.size : Int)), decide_eq_true (by omega : (5 : Int) ≤ (s.size : Int))]
    simp only [Bool.true_and, gd_t, ho k hk, Option.bind_some, s_l6Low.eq k (by omega : 5 ≤ k)]
    rw [cnNT hsum.symm]
    simp only [v1 k hk, v2 k hk, v3 k hk, Option.bind_some, both_self, dup_eq]
    rw [show inb (5 : Int) s.size = true from g5, e5, cnF (by omega), ← hn, wrap_eq (n := 6 + (n : Int)) (by omega) (by omega), decide_eq_true (by omega : (6 : Int) ≤ 6 + (n : Int)), decide_eq_true (by omega : 6 + (n : Int) ≤ (s.size : Int)), show (6 + (n : Int)).toNat = 6 + n by omega]
    simp only [Bool.and_self, gd_t, s_GoodFrame.eq, Option.bind_some, s_l6Frame.eq k hk x1 x2 x3 _ hsz]
  have hS2 : ∀ k, 40 ≤ k → 16 < (s.data.getD 5 0).toNat → s_ReadFrame.f k s = some (noFr 3) := by
    intro k hk hn16
    rw [s_ReadFrame.f_eq, cnNT h28, decide_eq_true (by omega : (24 : Int) ≤ (s.size : Int)), decide_eq_true (by omega : (1 : Int) ≤ (s.size : Int)), decide_eq_true (by omega : (3 : Int) ≤ (s.size : Int)), decide_eq_true (by omega : (5 : Int) ≤ (s.size : Int))]
    simp only [Bool.true_and, gd_t, ho k hk, Option.bind_some, s_l6Low.eq k (by omega : 5 ≤ k)]
    rw [cnNT hsum.symm]
    simp only [v1 k hk, v2 k hk, v3 k hk, Option.bind_some, both_self, dup_eq]
    rw [show inb (5 : Int) s.size = true from g5, e5, cnT (by omega)]
    simp only [gd_t]
  by_cases hbig : 16 < (s.data.getD 5 0).toNat
  · refine ⟨noFr 3, fun k hk => ?_, fun k hk => hS2 k hk hbig, fun h => (by cases h), fun _ => (by decide), fun _ => rfl⟩
    rw [hI k hk 16 (by omega)]
    cases goodF x1 x2 x3 (s.extract 6 (6 + 16)) with
    | false => rfl
    | true =>
      refine cnNF (fun h => ?_)
      have h2 := byteArray_toList_eq.1 h
      have h3 : (strOfNums (frameL x1 x2 x3 (s.extract 6 (6 + 16)))).data.getD 5 0 = s.data.getD 5 0 := by rw [h2]
      have h4 : (s.extract 6 (6 + 16)).size = 16 := by rw [ByteArray.size_extract]; omega
      have h5 : (strOfNums (frameL x1 x2 x3 (s.extract 6 (6 + 16)))).data.getD 5 0 = 16 := by
        rw [Array.getD_eq_getD_getElem?, ← Array.getElem?_toList, strOfNums_data, List.getElem?_map]
        unfold frameL front24 head6
        rw [h4]
        rfl
      rw [h5] at h3
      rw [← h3] at hbig
      exact absurd hbig (by decide)
  · have hn : (s.data.getD 5 0).toNat = min (s.data.getD 5 0).toNat 16 := by omega
    generalize hnn : (s.data.getD 5 0).toNat = n at hI hS hn hbig
    have hI2 := fun k hk => hI k hk n hn
    have hS2 := fun k hk => hS k hk n rfl (by omega)
    cases hg : goodF x1 x2 x3 (s.extract 6 (6 + n)) with
    | false =>
      rw [hg] at hI2 hS2
      exact ⟨noFr 3, hI2, hS2, fun h => (by cases h), fun _ => (by decide), fun _ => rfl⟩
    | true =>
      rw [hg] at hI2 hS2
      by_cases hf : (strOfNums (frameL x1 x2 x3 (s.extract 6 (6 + n)))).toList = s.toList
      · refine ⟨((x1, x2, x3, s.extract 6 (6 + n)), 0, true), fun k hk => ?_, fun k hk => ?_, fun _ => ?_, fun h => (by cases h), fun h => absurd hs h⟩
        · rw [hI2 k hk]; simp only [Bool.not_true, cn_f]; exact cnNT hf
        · rw [hS2 k hk]; simp only [Bool.not_true, cn_f]; exact cnNT hf
        · unfold goodF at hg
          have hg := of_decide_eq_true hg
          exact ⟨rfl, hg.2.2.2.2.1, hg.2.2.2.2.2.1, by have := hg.2.2.2.2.2.2; show (s.extract 6 (6 + n)).size ≤ 16; omega⟩
      · refine ⟨noFr 3, fun k hk => ?_, fun k hk => ?_, fun h => (by cases h), fun _ => (by decide), fun _ => rfl⟩
        · rw [hI2 k hk]; simp only [Bool.not_true, cn_f]; exact cnNF hf
        · rw [hS2 k hk]; simp only [Bool.not_true, cn_f]; exact cnNF hf
/-- What CheckFrame says of a text. -/
theorem checkFrame_same (s : ByteArray) (kind at_ least : Int) : ∃ r : Fr, (∀ k, 40 ≤ k → i_CheckFrame.f k s kind at_ least = some r) ∧ (∀ k, 40 ≤ k → s_CheckFrame.f k s kind at_ least = some r) ∧ (r.2.2 = true → 0 ≤ r.1.2.2.1 ∧ r.1.2.2.1 ≤ 60000) ∧ (s.size ≠ 28 → r.2.2 = false) := by
  obtain ⟨⟨⟨x1, x2, x3, bd⟩, c, ok⟩, hi, hs, h1, h2, h3⟩ := readFrame_same s
  simp only at h1 h2 h3
  cases ok with
  | false =>
    have hc := h2 rfl
    refine ⟨noFr c, fun k hk => ?_, fun k hk => ?_, fun h => (by cases h), fun _ => rfl⟩
    · rw [i_CheckFrame.f_eq, hi k hk]
      simp only [Option.bind_some, Bool.not_false, cn_t]
      exact cnNF hc
    · rw [s_CheckFrame.f_eq, hs k hk]
      simp only [Option.bind_some, Bool.not_false, cn_t]
  | true =>
    obtain ⟨hc, e1, e2, _⟩ := h1 rfl
    subst hc
    have hi' : ∀ k, 40 ≤ k → i_CheckFrame.f k s kind at_ least = s_CheckFrame.f k s kind at_ least := fun k hk => by
      rw [i_CheckFrame.f_eq, hi k hk, s_CheckFrame.f_eq, hs k hk]
      simp only [Option.bind_some, Bool.not_true, cn_f]
      simp only [decide_true, Bool.not_true, cn_f]
    have hs' : ∀ k, 40 ≤ k → s_CheckFrame.f k s kind at_ least = cn (!decide (x1 = kind)) (some (noFr 3)) (cn (!decide (x2 = at_)) (some (noFr 4)) (cn (decide (x3 < least)) (some (noFr 5)) (some ((x1, x2, x3, bd), 0, true)))) := fun k hk => by
      rw [s_CheckFrame.f_eq, hs k hk]
      simp only [Option.bind_some, Bool.not_true, cn_f]
    have hsz : s.size ≠ 28 → False := fun h => by cases h3 h
    have fin : ∀ r : Fr, (∀ k, 40 ≤ k → s_CheckFrame.f k s kind at_ least = some r) → (r.2.2 = true → 0 ≤ r.1.2.2.1 ∧ r.1.2.2.1 ≤ 60000) → ∃ r : Fr, (∀ k, 40 ≤ k → i_CheckFrame.f k s kind at_ least = some r) ∧ (∀ k, 40 ≤ k → s_CheckFrame.f k s kind at_ least = some r) ∧ (r.2.2 = true → 0 ≤ r.1.2.2.1 ∧ r.1.2.2.1 ≤ 60000) ∧ (s.size ≠ 28 → r.2.2 = false) :=
      fun r ha hb => ⟨r, fun k hk => (hi' k hk).trans (ha k hk), ha, hb, fun h => (hsz h).elim⟩
    by_cases c1 : x1 = kind
    case neg => exact fin (noFr 3) (fun k hk => by rw [hs' k hk, cnNF c1]) (fun h => by cases h)
    by_cases c2 : x2 = at_
    case neg => exact fin (noFr 4) (fun k hk => by rw [hs' k hk, cnNT c1, cnNF c2]) (fun h => by cases h)
    by_cases c3 : x3 < least
    · exact fin (noFr 5) (fun k hk => by rw [hs' k hk, cnNT c1, cnNT c2, cnT c3]) (fun h => by cases h)
    · exact fin ((x1, x2, x3, bd), 0, true) (fun k hk => by rw [hs' k hk, cnNT c1, cnNT c2, cnF c3]) (fun _ => ⟨e1, e2⟩)
theorem app16 (n : Nat) (h : n ≤ 1048576) : appOk n (Try.prog.bytesOf (9 : Nat)) = true := by
  rw [show Try.prog.bytesOf (9 : Nat) = 16 by kernel_rfl]
  unfold appOk
  simp; omega
/-- The rounds of RecoverFrom, n of them left: both tell the same. -/
theorem recover_loop (p h : List ByteArray) (b : List Bool) (g : goodD p h b = true) (hp : p.length = 5) (y1 y2 y3 : Int) (y4 : ByteArray) (e0 : 0 ≤ y3) (e1 : y3 ≤ 60000) :
    ∀ (n j : Nat) (l : List ByteArray), j + n = 2 → l.length = j → ∃ r : List Int × Int × Bool, (∀ k m, 40 ≤ k → n < m → i_RecoverFrom.l0 k m (j : Int) p h b y1 y2 y3 y4 l = some r) ∧
      (∀ k m, 40 ≤ k → n < m → s_l15Recover.l0 k m (1 + 2 * y3.tmod 2) (j : Int) p h b y1 y2 y3 y4 l = some (if r.2.2 = true then (r.1, y3) else ([], -1))) ∧ r.1.length ≤ 6 ∧ (r.2.2 = true → r.2.1 = y3) ∧ (r.2.2 = false → r = ([], 0, false)) := by
  obtain ⟨g1, g2, g3, g4⟩ := goodD_len g
  have ht : y3.tmod 2 = 0 ∨ y3.tmod 2 = 1 := by rw [Int.tmod_eq_emod_of_nonneg e0]; omega
  obtain ⟨q, hq, hq1⟩ : ∃ q : Nat, 1 + 2 * y3.tmod 2 = (q : Int) ∧ q ≤ 3 := by rcases ht with h | h <;> rw [h]; exact ⟨1, rfl, by omega⟩; exact ⟨3, rfl, by omega⟩
  have hw : IntKind.i64.wrap ((1 : Int) + IntKind.i64.wrap ((2 : Int) * y3.tmod (2 : Int))) = (q : Int) := by
    rw [wrap_eq (n := 2 * y3.tmod 2) (by omega) (by omega), wrap_eq (by omega) (by omega)]; omega
  rw [hq]
  intro n
  induction n with
  | zero =>
    intro j l hj hl
    obtain ⟨d, hd, hd6⟩ := sfF_some l
    have ss : ∀ k, 40 ≤ k → s_StateFrom.f k l = some d := fun k hk => by rw [s_StateFrom.eq l k (by omega), hd]
    have is_ : ∀ k, i_StateFrom.f k l = some d := fun k => hd
    cases hok : d.2 with
    | false =>
      refine ⟨([], 0, false), fun k m hk hm => ?_, fun k m hk hm => ?_, by simp, fun h => (by cases h), fun _ => rfl⟩
      · obtain ⟨m, rfl⟩ : ∃ m', m = m' + 1 := ⟨m - 1, by omega⟩
        rw [i_RecoverFrom.l0_s, cnF (by omega), is_ k, Option.bind_some, hok]; rfl
      · obtain ⟨m, rfl⟩ : ∃ m', m = m' + 1 := ⟨m - 1, by omega⟩
        rw [s_l15Recover.l0_s, cnF (by omega), ss k hk, Option.bind_some, hok]; rfl
    | true =>
      refine ⟨(d.1, y3, true), fun k m hk hm => ?_, fun k m hk hm => ?_, hd6, fun _ => rfl, fun h => (by cases h)⟩
      · obtain ⟨m, rfl⟩ : ∃ m', m = m' + 1 := ⟨m - 1, by omega⟩
        rw [i_RecoverFrom.l0_s, cnF (by omega), is_ k, Option.bind_some, hok]; rfl
      · obtain ⟨m, rfl⟩ : ∃ m', m = m' + 1 := ⟨m - 1, by omega⟩
        rw [s_l15Recover.l0_s, cnF (by omega), ss k hk, Option.bind_some, hok]; rfl
  | succ n ih =>
    intro j l hj hl
    have ew : IntKind.i64.wrap ((q : Int) + (j : Int)) = ((q + j : Nat) : Int) := by rw [wrap_eq (by omega) (by omega)]; omega
    obtain ⟨rd, hrd, hrd0⟩ := s_l7Read.at p h b g3 g4 (q + j) (by omega)
    have hird : ∀ k, 40 ≤ k → i_ReadSector.f k p h b ((q + j : Nat) : Int) = some rd := fun k hk => by rw [i_ReadSector.eq p h b g (q + j) (by omega) k (by omega), hrd]
    obtain ⟨cf, hci, hcs, _, hc28⟩ := checkFrame_same rd.1 3 ((q + j : Nat) : Int) y3
    have bad : (∀ k, 40 ≤ k → ∀ m, i_RecoverFrom.l0 k (m + 1) (j : Int) p h b y1 y2 y3 y4 l = some ([], 0, false)) → (∀ k, 40 ≤ k → ∀ m, s_l15Recover.l0 k (m + 1) (q : Int) (j : Int) p h b y1 y2 y3 y4 l = some ([], -1)) →
        ∃ r : List Int × Int × Bool, (∀ k m, 40 ≤ k → n + 1 < m → i_RecoverFrom.l0 k m (j : Int) p h b y1 y2 y3 y4 l = some r) ∧
      (∀ k m, 40 ≤ k → n + 1 < m → s_l15Recover.l0 k m (q : Int) (j : Int) p h b y1 y2 y3 y4 l = some (if r.2.2 = true then (r.1, y3) else ([], -1))) ∧ r.1.length ≤ 6 ∧ (r.2.2 = true → r.2.1 = y3) ∧ (r.2.2 = false → r = ([], 0, false)) := by
      intro ha hb
      refine ⟨([], 0, false), fun k m hk hm => ?_, fun k m hk hm => ?_, by simp, fun h => (by cases h), fun _ => rfl⟩
      · obtain ⟨m, rfl⟩ : ∃ m', m = m' + 1 := ⟨m - 1, by omega⟩
        exact ha k hk m
      · obtain ⟨m, rfl⟩ : ∃ m', m = m' + 1 := ⟨m - 1, by omega⟩
        exact hb k hk m
    have stepI : ∀ k, 40 ≤ k → ∀ m, i_RecoverFrom.l0 k (m + 1) (j : Int) p h b y1 y2 y3 y4 l = cn (!cf.2.2) (some ([], 0, false)) (cn (!decide (cf.1.2.2.1 = y3)) (some ([], 0, false)) (i_RecoverFrom.l0 k m ((j + 1 : Nat) : Int) p h b y1 y2 y3 y4 (l ++ [cf.1.2.2.2]))) := by
      intro k hk m
      rw [i_RecoverFrom.l0_s, cnT (by omega), i_halfOf.f_eq, hw, Option.bind_some, ew, hird k hk, Option.bind_some, hci k hk, Option.bind_some, app16 _ (by simp; omega), gd_t, wrap_succ (by omega)]
    have stepS : ∀ k, 40 ≤ k → ∀ m, s_l15Recover.l0 k (m + 1) (q : Int) (j : Int) p h b y1 y2 y3 y4 l = cn (!rd.2) (some ([], -1)) (cn (!cf.2.2) (some ([], -1)) (cn (!decide (cf.1.2.2.1 = y3)) (some ([], -1)) (s_l15Recover.l0 k m (q : Int) ((j + 1 : Nat) : Int) p h b y1 y2 y3 y4 (l ++ [cf.1.2.2.2])))) := by
      intro k hk m
      rw [s_l15Recover.l0_s, cnT (by omega), ew, hrd, Option.bind_some, hcs k hk, Option.bind_some, app16 _ (by simp; omega), gd_t, wrap_succ (by omega)]
    cases hok : cf.2.2 with
    | false =>
      refine bad (fun k hk m => by rw [stepI k hk m, hok]; rfl) (fun k hk m => ?_)
      rw [stepS k hk m, hok]
      cases rd.2 <;> rfl
    | true =>
      have hrt : rd.2 = true := by
        cases hr : rd.2 with
        | true => rfl
        | false =>
          have := hrd0 hr
          rw [this] at hc28
          have := hc28 (by decide)
          rw [hok] at this; cases this
      by_cases ce : cf.1.2.2.1 = y3
      case neg =>
        exact bad (fun k hk m => by rw [stepI k hk m, hok, cnNF ce]; rfl) (fun k hk m => by rw [stepS k hk m, hok, hrt, cnNF ce]; rfl)
      obtain ⟨r, r1, r2, r3, r4, r5⟩ := ih (j + 1) (l ++ [cf.1.2.2.2]) (by omega) (by simp; omega)
      refine ⟨r, fun k m hk hm => ?_, fun k m hk hm => ?_, r3, r4, r5⟩
      · obtain ⟨m, rfl⟩ : ∃ m', m = m' + 1 := ⟨m - 1, by omega⟩
        rw [stepI k hk m, hok, cnNT ce]
        simp only [Bool.not_true, cn_f]
        exact r1 k m hk (by omega)
      · obtain ⟨m, rfl⟩ : ∃ m', m = m' + 1 := ⟨m - 1, by omega⟩
        rw [stepS k hk m, hok, hrt, cnNT ce]
        simp only [Bool.not_true, cn_f]
        exact r2 k m hk (by omega)
/-! ### Loops: rounds to spare -/
def Ev2 {R : Type} (g : Nat → Nat → Option R) (r : R) : Prop := ∃ K, ∀ k m, K ≤ k → K ≤ m → g k m = some r
theorem Ev2.diag {R : Type} {g : Nat → Nat → Option R} {r : R} (h : Ev2 g r) : Ev (fun k => g k k) r := by
  obtain ⟨K, hK⟩ := h
  exact ⟨K, fun k hk => hK k k hk hk⟩
theorem Ev2.step {R : Type} {g g' : Nat → Nat → Option R} {r : R} (h : Ev2 g' r) (e : ∀ k m, g k (m + 1) = g' k m) : Ev2 g r := by
  obtain ⟨K, hK⟩ := h
  refine ⟨K + 1, fun k m hk hm => ?_⟩
  obtain ⟨m, rfl⟩ : ∃ m', m = m' + 1 := ⟨m - 1, by omega⟩
  rw [e]
  exact hK k m (by omega) (by omega)
theorem Ev2.bind {D R : Type} {f : Nat → Option D} {d : D} {G : Nat → Nat → D → Option R} {r : R} (h : Ev f d) (h2 : Ev2 (fun k m => G k m d) r) : Ev2 (fun k m => (f k).bind (G k m)) r := by
  obtain ⟨K, hK⟩ := h
  obtain ⟨L, hL⟩ := h2
  refine ⟨max K L, fun k m hk hm => ?_⟩
  show (f k).bind (G k m) = _
  rw [hK k (by omega)]
  exact hL k m (by omega) (by omega)
theorem Ev2.const {R : Type} {g : Nat → Nat → Option R} {r : R} (h : ∀ k m, g k m = some r) : Ev2 g r := ⟨0, fun k m _ _ => h k m⟩
theorem Ev2.ev {R : Type} {g : Nat → Option R} {r : R} (h : Ev g r) : Ev2 (fun k _ => g k) r := by
  obtain ⟨K, hK⟩ := h
  exact ⟨K, fun k _ hk _ => hK k hk⟩
theorem Ev2.inner {R : Type} {g : Nat → Nat → Option R} {r : R} (h : Ev2 g r) : Ev2 (fun k _ => g k k) r := .ev h.diag
theorem Ev2.congr {R : Type} {f g : Nat → Nat → Option R} {r : R} (h : Ev2 f r) (e : ∀ k m, g k m = f k m) : Ev2 g r := by
  obtain ⟨K, hK⟩ := h
  exact ⟨K, fun k m hk hm => by rw [e]; exact hK k m hk hm⟩
theorem Ev.unique {R : Type} {g : Nat → Option R} {r r' : R} (h : Ev g r) (h' : Ev g r') : r = r' := by
  obtain ⟨K, hK⟩ := h
  obtain ⟨L, hL⟩ := h'
  have a := hK (max K L) (by omega)
  rw [hL (max K L) (by omega)] at a
  exact (Option.some.inj a).symm
/-- Three kinds of rounds. -/
def Ev3 {R : Type} (g : Nat → Nat → Nat → Option R) (r : R) : Prop := ∃ K, ∀ k m n, K ≤ k → K ≤ m → K ≤ n → g k m n = some r
theorem Ev3.diag {R : Type} {g : Nat → Nat → Nat → Option R} {r : R} (h : Ev3 g r) : Ev2 (fun k m => g k m k) r := by
  obtain ⟨K, hK⟩ := h
  exact ⟨K, fun k m hk hm => hK k m k hk hm hk⟩
theorem Ev3.step {R : Type} {g g' : Nat → Nat → Nat → Option R} {r : R} (h : Ev3 g' r) (e : ∀ k m n, g k m (n + 1) = g' k m n) : Ev3 g r := by
  obtain ⟨K, hK⟩ := h
  refine ⟨K + 1, fun k m n hk hm hn => ?_⟩
  obtain ⟨n, rfl⟩ : ∃ m', n = m' + 1 := ⟨n - 1, by omega⟩
  rw [e]
  exact hK k m n (by omega) (by omega) (by omega)
theorem Ev3.bind {D R : Type} {f : Nat → Option D} {d : D} {G : Nat → Nat → Nat → D → Option R} {r : R} (h : Ev f d) (h2 : Ev3 (fun k m n => G k m n d) r) : Ev3 (fun k m n => (f k).bind (G k m n)) r := by
  obtain ⟨K, hK⟩ := h
  obtain ⟨L, hL⟩ := h2
  refine ⟨max K L, fun k m n hk hm hn => ?_⟩
  show (f k).bind (G k m n) = _
  rw [hK k (by omega)]
  exact hL k m n (by omega) (by omega) (by omega)
theorem Ev3.const {R : Type} {g : Nat → Nat → Nat → Option R} {r : R} (h : ∀ k m n, g k m n = some r) : Ev3 g r := ⟨0, fun k m n _ _ _ => h k m n⟩
theorem Ev3.out {R : Type} {g : Nat → Nat → Option R} {r : R} (h : Ev2 g r) : Ev3 (fun k m _ => g k m) r := by
  obtain ⟨K, hK⟩ := h
  exact ⟨K, fun k m _ hk hm _ => hK k m hk hm⟩
theorem drop_cons {A : Type} {d : A} {s : List A} {j : Nat} (h : j < s.length) : s.drop j = getAt d s j :: s.drop (j + 1) := by
  rw [getAt_lt h]; exact List.drop_eq_getElem_cons h
/-- A loop over a row from place j on; what is carried is told by st. -/
theorem Ev2.each {A R S : Type} (s : List A) (d : A) (g : Nat → Nat → Nat → S → Option R) (inv : Nat → S → Prop) (res : List A → Nat → S → R)
    (hnil : ∀ st, inv s.length st → Ev2 (fun k m => g k m s.length st) (res [] s.length st))
    (hcons : ∀ j x l st, s.drop j = x :: l → j < s.length → getAt d s j = x → inv j st → (∀ st', inv (j + 1) st' → Ev2 (fun k m => g k m (j + 1) st') (res l (j + 1) st')) → Ev2 (fun k m => g k m j st) (res (x :: l) j st)) :
    ∀ n j st, j + n = s.length → inv j st → Ev2 (fun k m => g k m j st) (res (s.drop j) j st) := by
  intro n
  induction n with
  | zero =>
    intro j st hj hi
    obtain rfl : j = s.length := by omega
    rw [List.drop_length]
    exact hnil st hi
  | succ n ih =>
    intro j st hj hi
    have hlt : j < s.length := by omega
    have e := drop_cons (d := d) hlt
    rw [e]
    exact hcons j _ _ st e hlt rfl hi fun st' h' => ih (j + 1) st' (by omega) h'
/-- The same where nothing is carried. -/
theorem Ev2.look {A R : Type} (s : List A) (d : A) (g : Nat → Nat → Nat → Option R) (res : List A → Nat → R)
    (hnil : Ev2 (fun k m => g k m s.length) (res [] s.length))
    (hcons : ∀ j x l, s.drop j = x :: l → j < s.length → getAt d s j = x → Ev2 (fun k m => g k m (j + 1)) (res l (j + 1)) → Ev2 (fun k m => g k m j) (res (x :: l) j)) :
    Ev2 (fun k m => g k m 0) (res s 0) :=
  Ev2.each s d (fun k m j (_ : Unit) => g k m j) (fun _ _ => True) (fun l j _ => res l j) (fun _ _ => hnil) (fun j x l _ h1 h2 h3 _ ih => hcons j x l h1 h2 h3 (ih () trivial)) s.length 0 () (by omega) trivial
/-- The first place where p holds, -1 for none. -/
def fidx {A : Type} (p : A → Bool) : List A → Nat → Int
  | [], _ => -1
  | x :: l, j => match p x with | true => (j : Int) | false => fidx p l (j + 1)
theorem fidx_any {A : Type} (p : A → Bool) : ∀ (l : List A) (j : Nat), decide ((0 : Int) ≤ fidx p l j) = l.any p
  | [], _ => by simp [fidx]
  | x :: l, j => by
    cases h : p x with
    | true => simp [fidx, h]
    | false => simp only [fidx, h, List.any_cons, Bool.false_or]; exact fidx_any p l (j + 1)
theorem cn_ite {A : Type} (b : Bool) (x y : A) : cn b x y = if b = true then x else y := by cases b <;> rfl
/-! ### Rows written over from the front -/
def mid {A : Type} (a b : List A) (j : Nat) : List A := a.take j ++ b.drop j
theorem mid_zero {A : Type} (a b : List A) : mid a b 0 = b := by simp [mid]
theorem mid_all {A : Type} {a b : List A} {j : Nat} (h : j = a.length) (hb : b.length = a.length) : mid a b j = a := by
  subst h; unfold mid; rw [List.take_length, List.drop_of_length_le (by omega), List.append_nil]
theorem mid_len {A : Type} {a b : List A} (j : Nat) (hb : b.length = a.length) : (mid a b j).length = a.length := by
  simp [mid]; omega
theorem mid_get {A : Type} {d : A} {a b : List A} {j : Nat} (hb : b.length = a.length) (hj : j < a.length) : getAt d (mid a b j) j = getAt d b j := by
  have hl : (a.take j).length = j := by simp; omega
  rw [getAt_lt (by rw [mid_len j hb]; exact hj), getAt_lt (by omega)]
  unfold mid
  rw [List.getElem_append_right (by omega)]
  simp [hl]
theorem mid_step {A : Type} {d : A} {a b : List A} {j : Nat} (hb : b.length = a.length) (hj : j < a.length) : mid a b (j + 1) = a.take j ++ getAt d a j :: b.drop (j + 1) := by
  rw [getAt_lt hj]
  show a.take (j + 1) ++ b.drop (j + 1) = _
  rw [List.take_succ_eq_append_getElem hj, List.append_assoc]; rfl
theorem mid_set {A : Type} {d x : A} {a b : List A} {j : Nat} (hb : b.length = a.length) (hj : j < a.length) (hx : x = getAt d a j) : (mid a b j).set j x = mid a b (j + 1) := by
  have hl : (a.take j).length = j := by simp; omega
  rw [mid_step (d := d) hb hj]
  unfold mid
  rw [List.set_append_right _ _ (by omega), hl, Nat.sub_self, drop_cons (d := d) (by omega : j < b.length), hx]; rfl
theorem mid_keep {A : Type} {d : A} {a b : List A} {j : Nat} (hb : b.length = a.length) (hj : j < a.length) (hx : getAt d b j = getAt d a j) : mid a b j = mid a b (j + 1) := by
  rw [mid_step (d := d) hb hj, ← hx, ← drop_cons (by omega : j < b.length)]; rfl
theorem getAt_ext {A : Type} (d : A) {a b : List A} (hl : a.length = b.length) (h : ∀ i, i < a.length → getAt d a i = getAt d b i) : a = b := by
  refine List.ext_getElem hl fun i h1 h2 => ?_
  have := h i h1
  rwa [getAt_lt h1, getAt_lt h2] at this
theorem getAt_replicate {A : Type} (d : A) (n i : Nat) : getAt d (List.replicate n d) i = d := by
  unfold getAt
  rw [List.getD_eq_getElem?_getD, List.getElem?_replicate]
  split <;> rfl
theorem appOk_le {n b : Nat} (hb : b ≤ 1024) (h : n ≤ 1073741824) : appOk n b = true := by
  unfold appOk
  have : n * b ≤ 1073741824 * 1024 := Nat.mul_le_mul h hb
  rw [decide_eq_true (by omega : n ≤ 2 ^ 46), decide_eq_true (by omega : n * b ≤ 2 ^ 46)]; rfl
theorem bytes_string : Try.prog.bytesOf (9 : Nat) ≤ 1024 := by rw [show Try.prog.bytesOf (9 : Nat) = 16 by kernel_rfl]; decide
theorem bytes_int : Try.prog.bytesOf (3 : Nat) ≤ 1024 := by rw [show Try.prog.bytesOf (3 : Nat) = 8 by kernel_rfl]; decide
theorem bytes_bool : Try.prog.bytesOf (4 : Nat) ≤ 1024 := by rw [show Try.prog.bytesOf (4 : Nat) = 1 by kernel_rfl]; decide
theorem bytes_uint8 : Try.prog.bytesOf (5 : Nat) ≤ 1024 := by rw [show Try.prog.bytesOf (5 : Nat) = 1 by kernel_rfl]; decide
theorem beq_nt (a b : Bool) : (!a == b) = !decide (a = b) := by cases a <;> cases b <;> rfl
/-! ### Looking through rows -/
theorem any_eq (s : List Int) (v : Int) : s.any (fun x => decide (v = x)) = decide (v ∈ s) := by
  rw [Bool.eq_iff_iff, List.any_eq_true, decide_eq_true_iff]
  constructor
  · rintro ⟨x, hx, h⟩; rw [of_decide_eq_true h]; exact hx
  · exact fun h => ⟨v, h, decide_eq_true rfl⟩
theorem b_Index_int.ev (s : List Int) (v : Int) (hs : s.length < 9223372036854775807) : Ev (fun k => b_Index_int.f k s v) (fidx (fun x => decide (v = x)) s 0) := by
  refine Ev.congr ?_ fun k => b_Index_int.f_eq k s v
  refine Ev2.diag (g := fun k m => b_Index_int.l0 k m s v (s.length : Int) 0) ?_
  refine Ev2.look s 0 (fun k m j => b_Index_int.l0 k m s v (s.length : Int) (j : Int)) (fun l j => fidx (fun x => decide (v = x)) l j) ?_ ?_
  · refine .step ?_ fun k m => b_Index_int.l0_s k m _ _ _ _
    simp (disch := omega) only [Int.toNat_natCast, decide_eq_true, decide_eq_false, Bool.not_true, Bool.not_false, Bool.true_and, Bool.false_and, Bool.and_true, Bool.and_false, cn_t, cn_f, gd_t, inb_nat, wrap_succ, Option.bind_some, both_self, dup_eq, fidx]
    exact .const fun _ _ => rfl
  · intro j x l _ hj hx ih
    refine .step ?_ fun k m => b_Index_int.l0_s k m _ _ _ _
    simp (disch := omega) only [Int.toNat_natCast, decide_eq_true, decide_eq_false, Bool.not_true, Bool.not_false, Bool.true_and, Bool.false_and, Bool.and_true, Bool.and_false, cn_t, cn_f, gd_t, inb_nat, wrap_succ, Option.bind_some, both_self, dup_eq, hx, fidx]
    by_cases h : v = x
    · simp only [decide_eq_true h, cn_t]
      exact .const fun _ _ => rfl
    · simp only [decide_eq_false h, cn_f]
      exact ih
theorem b_Contains_int.ev (s : List Int) (v : Int) (hs : s.length < 9223372036854775807) : Ev (fun k => b_Contains_int.f k s v) (decide (v ∈ s)) := by
  refine Ev.congr ?_ fun k => b_Contains_int.f_eq k s v
  refine Ev.bind (b_Index_int.ev s v hs) ?_
  rw [fidx_any, any_eq]
  exact .const fun _ => rfl
theorem b_Index_bool.ev (s : List Bool) (v : Bool) (hs : s.length < 9223372036854775807) : Ev (fun k => b_Index_bool.f k s v) (fidx (fun x => v == x) s 0) := by
  refine Ev.congr ?_ fun k => b_Index_bool.f_eq k s v
  refine Ev2.diag (g := fun k m => b_Index_bool.l0 k m s v (s.length : Int) 0) ?_
  refine Ev2.look s false (fun k m j => b_Index_bool.l0 k m s v (s.length : Int) (j : Int)) (fun l j => fidx (fun x => v == x) l j) ?_ ?_
  · refine .step ?_ fun k m => b_Index_bool.l0_s k m _ _ _ _
    simp (disch := omega) only [Int.toNat_natCast, decide_eq_true, decide_eq_false, Bool.not_true, Bool.not_false, Bool.true_and, Bool.false_and, Bool.and_true, Bool.and_false, cn_t, cn_f, gd_t, inb_nat, wrap_succ, Option.bind_some, both_self, dup_eq, fidx]
    exact .const fun _ _ => rfl
  · intro j x l _ hj hx ih
    refine .step ?_ fun k m => b_Index_bool.l0_s k m _ _ _ _
    simp (disch := omega) only [Int.toNat_natCast, decide_eq_true, decide_eq_false, Bool.not_true, Bool.not_false, Bool.true_and, Bool.false_and, Bool.and_true, Bool.and_false, cn_t, cn_f, gd_t, inb_nat, wrap_succ, Option.bind_some, both_self, dup_eq, hx, fidx]
    cases h : (v == x) with
    | true => exact .const fun _ _ => rfl
    | false =>
      simp only [cn_f]
      exact ih
theorem b_Contains_bool.ev (s : List Bool) (v : Bool) (hs : s.length < 9223372036854775807) : Ev (fun k => b_Contains_bool.f k s v) (s.any fun x => v == x) := by
  refine Ev.congr ?_ fun k => b_Contains_bool.f_eq k s v
  refine Ev.bind (b_Index_bool.ev s v hs) ?_
  rw [fidx_any]
  exact .const fun _ => rfl
theorem s_l1Has.ev (s : List Int) (v : Int) (hs : s.length < 9223372036854775807) : Ev (fun k => s_l1Has.f k s v) (decide (v ∈ s)) := by
  refine Ev.congr ?_ fun k => s_l1Has.f_eq k s v
  refine Ev2.diag (g := fun k m => s_l1Has.l0 k m v s (s.length : Int) 0) ?_
  refine Ev2.look s 0 (fun k m j => s_l1Has.l0 k m v s (s.length : Int) (j : Int)) (fun l j => decide (v ∈ l)) ?_ ?_
  · refine .step ?_ fun k m => s_l1Has.l0_s k m _ _ _ _
    simp (disch := omega) only [Int.toNat_natCast, decide_eq_true, decide_eq_false, Bool.not_true, Bool.not_false, Bool.true_and, Bool.false_and, Bool.and_true, Bool.and_false, cn_t, cn_f, gd_t, inb_nat, wrap_succ, Option.bind_some, both_self, dup_eq]
    exact .const fun _ _ => by simp
  · intro j x l _ hj hx ih
    refine .step ?_ fun k m => s_l1Has.l0_s k m _ _ _ _
    simp (disch := omega) only [Int.toNat_natCast, decide_eq_true, decide_eq_false, Bool.not_true, Bool.not_false, Bool.true_and, Bool.false_and, Bool.and_true, Bool.and_false, cn_t, cn_f, gd_t, inb_nat, wrap_succ, Option.bind_some, both_self, dup_eq, hx]
    by_cases h : x = v
    · simp only [decide_eq_true h, cn_t]
      exact .const fun _ _ => by simp [h]
    · simp only [decide_eq_false h, cn_f]
      rw [show decide (v ∈ x :: l) = decide (v ∈ l) by simp [Ne.symm h]]
      exact ih
theorem b_Equal_int.ev (a b : List Int) (ha : a.length < 9223372036854775807) : Ev (fun k => b_Equal_int.f k a b) (decide (a = b)) := by
  refine Ev.congr ?_ fun k => b_Equal_int.f_eq k a b
  by_cases hl : a.length = b.length
  · simp (disch := omega) only [Int.toNat_natCast, decide_eq_true, decide_eq_false, Bool.not_true, Bool.not_false, Bool.true_and, Bool.false_and, Bool.and_true, Bool.and_false, cn_t, cn_f, gd_t, inb_nat, wrap_succ, Option.bind_some, both_self, dup_eq]
    refine Ev2.diag (g := fun k m => b_Equal_int.l0 k m a b (a.length : Int) 0) ?_
    have := Ev2.look a 0 (fun k m j => b_Equal_int.l0 k m a b (a.length : Int) (j : Int)) (fun l j => decide (l = b.drop j)) ?_ ?_
    · simpa using this
    · refine .step ?_ fun k m => b_Equal_int.l0_s k m _ _ _ _
      simp (disch := omega) only [Int.toNat_natCast, decide_eq_true, decide_eq_false, Bool.not_true, Bool.not_false, Bool.true_and, Bool.false_and, Bool.and_true, Bool.and_false, cn_t, cn_f, gd_t, inb_nat, wrap_succ, Option.bind_some, both_self, dup_eq]
      rw [hl, List.drop_length, decide_eq_true rfl]
      exact .const fun _ _ => rfl
    · intro j x l _ hj hx ih
      refine .step ?_ fun k m => b_Equal_int.l0_s k m _ _ _ _
      simp (disch := omega) only [Int.toNat_natCast, decide_eq_true, decide_eq_false, Bool.not_true, Bool.not_false, Bool.true_and, Bool.false_and, Bool.and_true, Bool.and_false, cn_t, cn_f, gd_t, inb_nat, wrap_succ, Option.bind_some, both_self, dup_eq, hx]
      rw [drop_cons (d := 0) (by omega : j < b.length)]
      by_cases h : x = getAt 0 b j
      · simp only [decide_eq_true h, Bool.not_true, cn_f]
        rw [show decide (x :: l = getAt 0 b j :: b.drop (j + 1)) = decide (l = b.drop (j + 1)) by simp [h]]
        exact ih
      · simp only [decide_eq_false h, Bool.not_false, cn_t]
        exact .const fun _ _ => by simp [h]
  · simp (disch := omega) only [Int.toNat_natCast, decide_eq_true, decide_eq_false, Bool.not_true, Bool.not_false, Bool.true_and, Bool.false_and, Bool.and_true, Bool.and_false, cn_t, cn_f, gd_t, inb_nat, wrap_succ, Option.bind_some, both_self, dup_eq]
    rw [decide_eq_false (fun e => hl (by rw [e]))]
    exact .const fun _ => rfl
theorem b_Clone_string.eq (k : Nat) (s : List ByteArray) (hs : s.length ≤ 1073741824) : b_Clone_string.f k s = some s := by
  have h : appOk (0 + s.length) (Try.prog.bytesOf (9 : Nat)) = true := appOk_le bytes_string (by omega)
  rw [b_Clone_string.f_eq, h]
  cases s <;> simp only [noEl, cn_t, cn_f, gd_t, List.nil_append, both_self, dup_eq]
theorem b_Clone_bool.eq (k : Nat) (s : List Bool) (hs : s.length ≤ 1073741824) : b_Clone_bool.f k s = some s := by
  have h : appOk (0 + s.length) (Try.prog.bytesOf (4 : Nat)) = true := appOk_le bytes_bool (by omega)
  rw [b_Clone_bool.f_eq, h]
  cases s <;> simp only [noEl, cn_t, cn_f, gd_t, List.nil_append, both_self, dup_eq]
theorem b_Clone_int.eq (k : Nat) (s : List Int) (hs : s.length ≤ 1073741824) : b_Clone_int.f k s = some s := by
  have h : appOk (0 + s.length) (Try.prog.bytesOf (3 : Nat)) = true := appOk_le bytes_int (by omega)
  rw [b_Clone_int.f_eq, h]
  cases s <;> simp only [noEl, cn_t, cn_f, gd_t, List.nil_append, both_self, dup_eq]
/-! ### A disk after a crash -/
theorem i_ownDisk.eq (k : Nat) (p h : List ByteArray) (b : List Bool) (hp : p.length ≤ 1073741824) (hh : h.length ≤ 1073741824) (hb : b.length ≤ 1073741824) : i_ownDisk.f k p h b = some (p, h, b) := by
  rw [i_ownDisk.f_eq, b_Clone_string.eq k p hp, b_Clone_string.eq k h hh, b_Clone_bool.eq k b hb]; rfl
theorem s_l7Own.eq (k : Nat) (p h : List ByteArray) (b : List Bool) (hp : p.length ≤ 1073741824) (hh : h.length ≤ 1073741824) (hb : b.length ≤ 1073741824) : s_l7Own.f k p h b = some (p, h, b) := by
  have e1 : appOk (0 + p.length) (Try.prog.bytesOf (9 : Nat)) = true := appOk_le bytes_string (by omega)
  have e2 : appOk (0 + h.length) (Try.prog.bytesOf (9 : Nat)) = true := appOk_le bytes_string (by omega)
  have e3 : appOk (0 + b.length) (Try.prog.bytesOf (4 : Nat)) = true := appOk_le bytes_bool (by omega)
  rw [s_l7Own.f_eq]
  simp only [e1, e2, e3, gd_t, List.nil_append, both_self, dup_eq]
/-- What stands on the plate then. -/
def crashP (p h : List ByteArray) (kept : List Int) : List ByteArray := p.mapIdx fun i x => if (i : Int) ∈ kept then getAt ByteArray.empty h i else x
theorem crashP_len (p h : List ByteArray) (kept : List Int) : (crashP p h kept).length = p.length := by simp [crashP]
theorem crashP_get {p h : List ByteArray} {kept : List Int} {i : Nat} (hi : i < p.length) : getAt ByteArray.empty (crashP p h kept) i = if (i : Int) ∈ kept then getAt ByteArray.empty h i else getAt ByteArray.empty p i := by
  rw [getAt_lt (by rw [crashP_len]; exact hi), getAt_lt hi]
  simp [crashP]
theorem crashP_nil (p h : List ByteArray) : crashP p h [] = p :=
  getAt_ext ByteArray.empty (crashP_len p h []) fun i hi => by
    rw [crashP_len] at hi
    rw [crashP_get hi]; simp
abbrev noText (n : Nat) : List ByteArray := List.replicate n ByteArray.empty
theorem i_crashed.ev (p h : List ByteArray) (b : List Bool) (kept : List Int) (hp : p.length ≤ 1073741824) (hh : h.length = p.length) (hb : b.length ≤ 1073741824) (hk : kept.length < 9223372036854775807) : Ev (fun k => i_crashed.f k p h b kept) (crashP p h kept, noText p.length, b) := by
  refine Ev.congr ?_ fun k => i_crashed.f_eq k p h b kept
  simp (disch := omega) only [Int.toNat_natCast, decide_eq_true, decide_eq_false, Bool.not_true, Bool.not_false, Bool.true_and, Bool.false_and, Bool.and_true, Bool.and_false, cn_t, cn_f, gd_t, inb_nat, wrap_succ, Option.bind_some, both_self, dup_eq, i_ownDisk.eq]
  refine Ev2.diag (g := fun k m => i_crashed.l0 k m kept (h.length : Int) 0 p h b) ?_
  have lc := crashP_len p h kept
  have ln : (noText p.length).length = p.length := by simp
  have := Ev2.each (noText p.length) ByteArray.empty (fun k m j (st : List ByteArray × List ByteArray) => i_crashed.l0 k m kept (h.length : Int) (j : Int) st.1 st.2 b) (fun j st => st.1 = mid (crashP p h kept) p j ∧ st.2 = mid (noText p.length) h j) (fun _ _ _ => (crashP p h kept, noText p.length, b)) ?_ ?_ p.length 0 (p, h) (by simp) (by simp [mid_zero])
  · exact this
  · rintro ⟨x, y⟩ ⟨rfl, rfl⟩
    refine .step ?_ fun k m => i_crashed.l0_s k m _ _ _ _ _ _
    simp (disch := omega) only [Int.toNat_natCast, decide_eq_true, decide_eq_false, Bool.not_true, Bool.not_false, Bool.true_and, Bool.false_and, Bool.and_true, Bool.and_false, cn_t, cn_f, gd_t, inb_nat, wrap_succ, Option.bind_some, both_self, dup_eq, ln]
    rw [mid_all (by omega) (by omega), mid_all (by simp) (by simp; omega)]
    exact .const fun _ _ => rfl
  · rintro j x l ⟨y, z⟩ _ hj hx ⟨rfl, rfl⟩ ih
    have hj : j < p.length := by simpa using hj
    have l1 : (mid (crashP p h kept) p j).length = p.length := by rw [mid_len j (by omega), lc]
    have l2 : (mid (noText p.length) h j).length = p.length := by rw [mid_len j (by simp; omega)]; simp
    have s2 : (mid (noText p.length) h j).set j ByteArray.empty = mid (noText p.length) h (j + 1) := mid_set (d := ByteArray.empty) (by simp; omega) (by simpa using hj) (getAt_replicate _ _ _).symm
    have g2 : getAt ByteArray.empty (mid (noText p.length) h j) j = getAt ByteArray.empty h j := mid_get (by simp; omega) (by simpa using hj)
    refine .step ?_ fun k m => i_crashed.l0_s k m _ _ _ _ _ _
    simp (disch := omega) only [Int.toNat_natCast, decide_eq_true, decide_eq_false, Bool.not_true, Bool.not_false, Bool.true_and, Bool.false_and, Bool.and_true, Bool.and_false, cn_t, cn_f, gd_t, inb_nat, wrap_succ, Option.bind_some, both_self, dup_eq]
    refine .bind (b_Contains_int.ev kept j hk) ?_
    by_cases hm : (j : Int) ∈ kept
    · simp (disch := omega) only [Int.toNat_natCast, decide_eq_true, decide_eq_false, Bool.not_true, Bool.not_false, Bool.true_and, Bool.false_and, Bool.and_true, Bool.and_false, cn_t, cn_f, gd_t, inb_nat, wrap_succ, Option.bind_some, both_self, dup_eq, decide_eq_true hm, s2, g2]
      refine ih (_, _) ⟨?_, rfl⟩
      exact mid_set (d := ByteArray.empty) (by omega) (by omega) (by rw [crashP_get hj, if_pos hm])
    · simp (disch := omega) only [Int.toNat_natCast, decide_eq_true, decide_eq_false, Bool.not_true, Bool.not_false, Bool.true_and, Bool.false_and, Bool.and_true, Bool.and_false, cn_t, cn_f, gd_t, inb_nat, wrap_succ, Option.bind_some, both_self, dup_eq, decide_eq_false hm, s2]
      refine ih (_, _) ⟨?_, rfl⟩
      exact mid_keep (d := ByteArray.empty) (by omega) (by omega) (by rw [crashP_get hj, if_neg hm])
theorem s_l7Crash.ev (p h : List ByteArray) (b : List Bool) (kept : List Int) (hp : p.length ≤ 1073741824) (hh : h.length = p.length) (hk : kept.length < 9223372036854775807) : Ev (fun k => s_l7Crash.f k p h b kept) (((), (), ()), crashP p h kept, noText p.length, b) := by
  refine Ev.congr ?_ fun k => s_l7Crash.f_eq k p h b kept
  refine Ev2.diag (g := fun k m => s_l7Crash.l0 k m kept (h.length : Int) 0 p h b) ?_
  have lc := crashP_len p h kept
  have ln : (noText p.length).length = p.length := by simp
  have := Ev2.each (noText p.length) ByteArray.empty (fun k m j (st : List ByteArray × List ByteArray) => s_l7Crash.l0 k m kept (h.length : Int) (j : Int) st.1 st.2 b) (fun j st => st.1 = mid (crashP p h kept) p j ∧ st.2 = mid (noText p.length) h j) (fun _ _ _ => (((), (), ()), crashP p h kept, noText p.length, b)) ?_ ?_ p.length 0 (p, h) (by simp) (by simp [mid_zero])
  · exact this
  · rintro ⟨x, y⟩ ⟨rfl, rfl⟩
    refine .step ?_ fun k m => s_l7Crash.l0_s k m _ _ _ _ _ _
    simp (disch := omega) only [Int.toNat_natCast, decide_eq_true, decide_eq_false, Bool.not_true, Bool.not_false, Bool.true_and, Bool.false_and, Bool.and_true, Bool.and_false, cn_t, cn_f, gd_t, inb_nat, wrap_succ, Option.bind_some, both_self, dup_eq, ln]
    rw [mid_all (by omega) (by omega), mid_all (by simp) (by simp; omega)]
    exact .const fun _ _ => rfl
  · rintro j x l ⟨y, z⟩ _ hj hx ⟨rfl, rfl⟩ ih
    have hj : j < p.length := by simpa using hj
    have l1 : (mid (crashP p h kept) p j).length = p.length := by rw [mid_len j (by omega), lc]
    have l2 : (mid (noText p.length) h j).length = p.length := by rw [mid_len j (by simp; omega)]; simp
    have s2 : (mid (noText p.length) h j).set j ByteArray.empty = mid (noText p.length) h (j + 1) := mid_set (d := ByteArray.empty) (by simp; omega) (by simpa using hj) (getAt_replicate _ _ _).symm
    have g2 : getAt ByteArray.empty (mid (noText p.length) h j) j = getAt ByteArray.empty h j := mid_get (by simp; omega) (by simpa using hj)
    refine .step ?_ fun k m => s_l7Crash.l0_s k m _ _ _ _ _ _
    simp (disch := omega) only [Int.toNat_natCast, decide_eq_true, decide_eq_false, Bool.not_true, Bool.not_false, Bool.true_and, Bool.false_and, Bool.and_true, Bool.and_false, cn_t, cn_f, gd_t, inb_nat, wrap_succ, Option.bind_some, both_self, dup_eq]
    refine .bind (s_l1Has.ev kept j hk) ?_
    by_cases hm : (j : Int) ∈ kept
    · simp (disch := omega) only [Int.toNat_natCast, decide_eq_true, decide_eq_false, Bool.not_true, Bool.not_false, Bool.true_and, Bool.false_and, Bool.and_true, Bool.and_false, cn_t, cn_f, gd_t, inb_nat, wrap_succ, Option.bind_some, both_self, dup_eq, decide_eq_true hm, s2, g2]
      refine ih (_, _) ⟨?_, rfl⟩
      exact mid_set (d := ByteArray.empty) (by omega) (by omega) (by rw [crashP_get hj, if_pos hm])
    · simp (disch := omega) only [Int.toNat_natCast, decide_eq_true, decide_eq_false, Bool.not_true, Bool.not_false, Bool.true_and, Bool.false_and, Bool.and_true, Bool.and_false, cn_t, cn_f, gd_t, inb_nat, wrap_succ, Option.bind_some, both_self, dup_eq, decide_eq_false hm, s2]
      refine ih (_, _) ⟨?_, rfl⟩
      exact mid_keep (d := ByteArray.empty) (by omega) (by omega) (by rw [crashP_get hj, if_neg hm])
theorem gdAll_iff {p h : List ByteArray} {b : List Bool} : ∀ {n j : Nat}, gdAll p h b n j = true ↔ ∀ i, j ≤ i → i < j + n → (getAt ByteArray.empty p i).size ≤ 28 ∧ (getAt ByteArray.empty h i).size ≤ 28 ∧ (getAt false b i = true → getAt ByteArray.empty h i = ByteArray.empty)
  | 0, j => by simp [gdAll]; intro i h1 h2; omega
  | n + 1, j => by
    have ih := gdAll_iff (p := p) (h := h) (b := b) (n := n) (j := j + 1)
    have hs : (∀ i, j ≤ i → i < j + (n + 1) → (getAt ByteArray.empty p i).size ≤ 28 ∧ (getAt ByteArray.empty h i).size ≤ 28 ∧ (getAt false b i = true → getAt ByteArray.empty h i = ByteArray.empty)) ↔
        ((getAt ByteArray.empty p j).size ≤ 28 ∧ (getAt ByteArray.empty h j).size ≤ 28 ∧ (getAt false b j = true → getAt ByteArray.empty h j = ByteArray.empty)) ∧ ∀ i, j + 1 ≤ i → i < j + 1 + n → (getAt ByteArray.empty p i).size ≤ 28 ∧ (getAt ByteArray.empty h i).size ≤ 28 ∧ (getAt false b i = true → getAt ByteArray.empty h i = ByteArray.empty) := by
      constructor
      · exact fun H => ⟨H j (by omega) (by omega), fun i h1 h2 => H i (by omega) (by omega)⟩
      · rintro ⟨h0, H⟩ i h1 h2
        rcases Nat.lt_or_ge j i with h3 | h3
        · exact H i (by omega) (by omega)
        · obtain rfl : i = j := by omega
          exact h0
    rw [hs, gdAll_s, ← ih]
    by_cases h1 : (28 : Int) < ((getAt ByteArray.empty p j).size : Int)
    · rw [if_pos h1]; constructor
      · intro h; cases h
      · rintro ⟨⟨h, _⟩, _⟩; omega
    rw [if_neg h1]
    by_cases h2 : (28 : Int) < ((getAt ByteArray.empty h j).size : Int)
    · rw [if_pos h2]; constructor
      · intro h; cases h
      · rintro ⟨⟨_, h, _⟩, _⟩; omega
    rw [if_neg h2]
    have e : ((getAt ByteArray.empty h j).toList = ByteArray.empty.toList) = (getAt ByteArray.empty h j = ByteArray.empty) := propext byteArray_toList_eq
    cases hb : getAt false b j with
    | false =>
      rw [if_neg (by decide)]; constructor
      · exact fun H => ⟨⟨by omega, by omega, fun h => by cases h⟩, H⟩
      · exact fun H => H.2
    | true =>
      rw [if_pos rfl]
      by_cases h3 : getAt ByteArray.empty h j = ByteArray.empty
      · rw [if_pos (by rw [e]; exact h3)]; constructor
        · exact fun H => ⟨⟨by omega, by omega, fun _ => h3⟩, H⟩
        · exact fun H => H.2
      · rw [if_neg (by rw [e]; exact h3)]; constructor
        · intro h; cases h
        · rintro ⟨⟨_, _, h⟩, _⟩; exact absurd (h rfl) h3
theorem goodD_iff {p h : List ByteArray} {b : List Bool} : goodD p h b = true ↔ (1 ≤ p.length ∧ p.length ≤ 24 ∧ h.length = p.length ∧ b.length = p.length) ∧ ∀ i, i < p.length → (getAt ByteArray.empty p i).size ≤ 28 ∧ (getAt ByteArray.empty h i).size ≤ 28 ∧ (getAt false b i = true → getAt ByteArray.empty h i = ByteArray.empty) := by
  unfold goodD
  rw [Bool.and_eq_true, decide_eq_true_iff, gdAll_iff]
  simp
theorem goodD_crash {p h : List ByteArray} {b : List Bool} (g : goodD p h b = true) (kept : List Int) : goodD (crashP p h kept) (noText p.length) b = true := by
  obtain ⟨⟨g1, g2, g3, g4⟩, g5⟩ := goodD_iff.1 g
  refine goodD_iff.2 ⟨⟨by rw [crashP_len]; omega, by rw [crashP_len]; omega, by rw [crashP_len]; simp, by rw [crashP_len]; omega⟩, fun i hi => ?_⟩
  rw [crashP_len] at hi
  rw [crashP_get hi, getAt_replicate]
  obtain ⟨h1, h2, h3⟩ := g5 i hi
  refine ⟨?_, by decide, fun _ => rfl⟩
  split <;> assumption
/-! ### States -/
def isSt (v : List Int) : Bool := v.all (fun x => decide (0 ≤ x ∧ x ≤ 65535)) && decide (v.length = 6)
theorem i_isState_1.eq (k : Nat) (n : Int) : i_isState_1.f k n = some (!decide (0 ≤ n ∧ n ≤ 65535)) := by rw [i_isState_1.f_eq, i_within.eq, Option.bind_some]
theorem b_IndexFunc_int__i_isState_1.ev (s : List Int) (hs : s.length < 9223372036854775807) : Ev (fun k => b_IndexFunc_int__i_isState_1.f k s) (fidx (fun x => !decide (0 ≤ x ∧ x ≤ 65535)) s 0) := by
  refine Ev.congr ?_ fun k => b_IndexFunc_int__i_isState_1.f_eq k s
  refine Ev2.diag (g := fun k m => b_IndexFunc_int__i_isState_1.l0 k m s (s.length : Int) 0) ?_
  refine Ev2.look s 0 (fun k m j => b_IndexFunc_int__i_isState_1.l0 k m s (s.length : Int) (j : Int)) (fun l j => fidx (fun x => !decide (0 ≤ x ∧ x ≤ 65535)) l j) ?_ ?_
  · refine .step ?_ fun k m => b_IndexFunc_int__i_isState_1.l0_s k m _ _ _
    simp (disch := omega) only [Int.toNat_natCast, decide_eq_true, decide_eq_false, Bool.not_true, Bool.not_false, Bool.true_and, Bool.false_and, Bool.and_true, Bool.and_false, cn_t, cn_f, gd_t, inb_nat, wrap_succ, Option.bind_some, both_self, dup_eq, fidx]
    exact .const fun _ _ => rfl
  · intro j x l _ hj hx ih
    refine .step ?_ fun k m => b_IndexFunc_int__i_isState_1.l0_s k m _ _ _
    simp (disch := omega) only [Int.toNat_natCast, decide_eq_true, decide_eq_false, Bool.not_true, Bool.not_false, Bool.true_and, Bool.false_and, Bool.and_true, Bool.and_false, cn_t, cn_f, gd_t, inb_nat, wrap_succ, Option.bind_some, both_self, dup_eq, hx, fidx, i_isState_1.eq]
    by_cases h : 0 ≤ x ∧ x ≤ 65535
    · simp only [decide_eq_true h, Bool.not_true, cn_f]
      exact ih
    · simp only [decide_eq_false h, Bool.not_false, cn_t]
      exact .const fun _ _ => rfl
theorem i_isState.ev (v : List Int) (hs : v.length < 9223372036854775807) : Ev (fun k => i_isState.f k v) (isSt v) := by
  refine Ev.congr ?_ fun k => i_isState.f_eq k v
  unfold isSt
  by_cases h : v.length = 6
  · simp (disch := omega) only [Int.toNat_natCast, decide_eq_true, decide_eq_false, Bool.not_true, Bool.not_false, Bool.true_and, Bool.false_and, Bool.and_true, Bool.and_false, cn_t, cn_f, gd_t, inb_nat, wrap_succ, Option.bind_some, both_self, dup_eq]
    refine Ev.bind (Ev.congr (Ev.bind (b_IndexFunc_int__i_isState_1.ev v hs) (.const fun _ => rfl)) fun k => b_ContainsFunc_int__i_isState_1.f_eq k v) ?_
    rw [fidx_any]
    refine .const fun _ => ?_
    rw [List.not_any_eq_all_not]
    simp only [Bool.not_not]
  · simp (disch := omega) only [Int.toNat_natCast, decide_eq_true, decide_eq_false, Bool.not_true, Bool.not_false, Bool.true_and, Bool.false_and, Bool.and_true, Bool.and_false, cn_t, cn_f, gd_t, inb_nat, wrap_succ, Option.bind_some, both_self, dup_eq]
    exact .const fun _ => rfl
theorem s_l15State.ev (v : List Int) (hs : v.length < 9223372036854775807) : Ev (fun k => s_l15State.f k v) (isSt v) := by
  refine Ev.congr ?_ fun k => s_l15State.f_eq k v
  refine Ev2.diag (g := fun k m => s_l15State.l0 k m v v (v.length : Int) 0) ?_
  refine Ev2.look v 0 (fun k m j => s_l15State.l0 k m v v (v.length : Int) (j : Int)) (fun l j => l.all (fun x => decide (0 ≤ x ∧ x ≤ 65535)) && decide (v.length = 6)) ?_ ?_
  · refine .step ?_ fun k m => s_l15State.l0_s k m _ _ _ _
    simp (disch := omega) only [Int.toNat_natCast, decide_eq_true, decide_eq_false, Bool.not_true, Bool.not_false, Bool.true_and, Bool.false_and, Bool.and_true, Bool.and_false, cn_t, cn_f, gd_t, inb_nat, wrap_succ, Option.bind_some, both_self, dup_eq]
    refine .const fun _ _ => ?_
    rw [List.all_nil, Bool.true_and]
    exact congrArg some (Bool.eq_iff_iff.2 (by rw [decide_eq_true_iff, decide_eq_true_iff]; omega))
  · intro j x l _ hj hx ih
    refine .step ?_ fun k m => s_l15State.l0_s k m _ _ _ _
    simp (disch := omega) only [Int.toNat_natCast, decide_eq_true, decide_eq_false, Bool.not_true, Bool.not_false, Bool.true_and, Bool.false_and, Bool.and_true, Bool.and_false, cn_t, cn_f, gd_t, inb_nat, wrap_succ, Option.bind_some, both_self, dup_eq, hx, s_l1In.eq]
    by_cases h : 0 ≤ x ∧ x ≤ 65535
    · simp only [decide_eq_true h, Bool.not_true, cn_f, List.all_cons, Bool.true_and]
      exact ih
    · simp only [decide_eq_false h, Bool.not_false, cn_t, List.all_cons, Bool.false_and]
      exact .const fun _ _ => rfl
/-! ### Frames, read back -/
theorem u8_wrap (n : Int) : IntKind.u8.wrap n = n % 256 := by unfold IntKind.wrap; simp [IntKind.bits, IntKind.signed]
theorem fdiv256 (n : Int) : n.fdiv ((2 : Int) ^ (8 : Nat)) = n / 256 := by rw [Int.fdiv_eq_ediv_of_nonneg _ (by decide)]; rfl
theorem num_get (xs : List Int) (i : Nat) (h : i < xs.length) (h0 : 0 ≤ getAt 0 xs i) (h1 : getAt 0 xs i < 256) : (((strOfNums xs).data.getD i 0).toNat : Int) = getAt 0 xs i := by
  rw [getAt_lt h] at h0 h1 ⊢
  have : (strOfNums xs).data.getD i 0 = UInt8.ofNat xs[i].toNat := by
    unfold strOfNums
    rw [Array.getD_eq_getD_getElem?]
    simp [h]
  rw [this, UInt8.toNat_ofNat']
  omega
theorem or2 (a b : Nat) (ha : a < 256) (hb : b < 256) : IntKind.i64.wrap (↑(BitVec.ofInt (64 : Nat) (IntKind.i64.wrap ((a : Int) * (2 : Int) ^ (8 : Nat))) ||| BitVec.ofInt (64 : Nat) (b : Int)).toNat : Int) = ((a * 256 + b : Nat) : Int) := by
  have e : IntKind.i64.wrap ((a : Int) * (2 : Int) ^ (8 : Nat)) = ((a <<< 8 : Nat) : Int) := by
    rw [Nat.shiftLeft_eq, wrap_eq (by omega) (by omega)]; norm_cast
  have hs : a <<< 8 = a * 256 := Nat.shiftLeft_eq a 8
  rw [e, BitVec.ofInt_natCast, BitVec.ofInt_natCast, BitVec.toNat_or, BitVec.toNat_ofNat, BitVec.toNat_ofNat, Nat.mod_eq_of_lt (by omega), Nat.mod_eq_of_lt (by omega), ← Nat.shiftLeft_add_eq_or_of_lt (by omega : b < 2 ^ 8), hs, wrap_eq (by omega) (by omega)]
theorem ext_left (a b : ByteArray) (n : Nat) (h : n = a.size) : (a ++ b).extract 0 n = a := by
  subst h; exact ByteArray.extract_append_eq_left rfl
theorem ext_right (a b : ByteArray) (n : Nat) (h : n = a.size) : (a ++ b).extract n (a ++ b).size = b := by
  subst h; exact ByteArray.extract_append_eq_right rfl (by rw [ByteArray.size_append])
theorem bytes_back (l : List Int) (h : ∀ x ∈ l, 0 ≤ x ∧ x < 256) : bytesL (strOfNums l) = l := by
  unfold bytesL
  rw [strOfNums_data, List.map_map]
  conv => rhs; rw [← List.map_id l]
  refine List.map_congr_left fun x hx => ?_
  obtain ⟨h0, h1⟩ := h x hx
  simp only [Function.comp, UInt8.toNat_ofNat', id]
  omega
noncomputable abbrev frameT (kind at_ ep : Int) (body : ByteArray) : ByteArray := strOfNums (frameL kind at_ ep body)
theorem frameT_size (kind at_ ep : Int) (body : ByteArray) (hb : body.size ≤ 16) : (frameT kind at_ ep body).size = 28 := by
  rw [strOfNums_len]
  unfold frameL
  rw [List.length_append, front24_len kind at_ ep body hb]
  rfl
theorem frame_ne {t : ByteArray} (h : t.size = 28) : ¬ t.toList = ByteArray.empty.toList := fun e => by
  rw [byteArray_toList_eq] at e
  rw [e] at h
  cases h
theorem i_ReadFrame.back (k : Nat) (hk : 40 ≤ k) (kind at_ ep : Int) (body : ByteArray) (g : goodF kind at_ ep body = true) : i_ReadFrame.f k (frameT kind at_ ep body) = some ((kind, at_, ep, body), 0, true) := by
  have g0 := of_decide_eq_true g
  obtain ⟨g1, g2, g3, g4, g5, g6, g7⟩ := g0
  have hb : body.size ≤ 16 := by omega
  have hs : (frameT kind at_ ep body).size = 28 := frameT_size kind at_ ep body hb
  have hf : (strOfNums (front24 kind at_ ep body)).size = 24 := by rw [strOfNums_len, front24_len kind at_ ep body hb]
  have e0 : frameT kind at_ ep body = strOfNums (front24 kind at_ ep body) ++ strOfNums (low4 (crc (strOfNums (front24 kind at_ ep body)))) := strOfNums_append _ _
  have e1 : (frameT kind at_ ep body).extract 0 24 = strOfNums (front24 kind at_ ep body) := by rw [e0]; exact ext_left _ _ _ hf.symm
  have e2 : (frameT kind at_ ep body).extract 24 (frameT kind at_ ep body).size = strOfNums (low4 (crc (strOfNums (front24 kind at_ ep body)))) := by rw [e0]; exact ext_right _ _ _ hf.symm
  have e3 : frameT kind at_ ep body = strOfNums (head6 kind at_ ep body) ++ (body ++ (strOfNums (pad18 body) ++ strOfNums (low4 (crc (strOfNums (front24 kind at_ ep body)))))) := by
    rw [e0]
    unfold front24
    rw [strOfNums_append, strOfNums_append, strOfNums_bytes]
    simp only [ByteArray.append_assoc]
  have e4 : (frameT kind at_ ep body).extract 6 (6 + body.size) = body := by
    rw [e3]
    have h6 : (strOfNums (head6 kind at_ ep body)).size = 6 := by rw [strOfNums_len]; rfl
    rw [ByteArray.extract_append, h6]
    have z1 : (strOfNums (head6 kind at_ ep body)).extract 6 (6 + body.size) = ByteArray.empty := by
      refine ByteArray.ext (Array.eq_empty_of_size_eq_zero ?_)
      show ((strOfNums (head6 kind at_ ep body)).extract 6 (6 + body.size)).size = 0
      rw [ByteArray.size_extract, h6]; omega
    rw [z1, ByteArray.empty_append, show 6 - 6 = 0 from rfl, show 6 + body.size - 6 = body.size by omega]
    exact ext_left _ _ _ rfl
  have gb : ∀ i, i < 6 → (((frameT kind at_ ep body).data.getD i 0).toNat : Int) = getAt 0 (head6 kind at_ ep body) i := fun i hi => by
    have hl : i < (frameL kind at_ ep body).length := by rw [← strOfNums_len, hs]; omega
    have hg : getAt 0 (frameL kind at_ ep body) i = getAt 0 (head6 kind at_ ep body) i := by
      have h6 : (head6 kind at_ ep body).length = 6 := rfl
      rw [getAt_lt hl, getAt_lt (by omega)]
      unfold frameL front24
      simp only [List.append_assoc]
      rw [List.getElem_append_left]
    have hh : 0 ≤ getAt 0 (head6 kind at_ ep body) i ∧ getAt 0 (head6 kind at_ ep body) i < 256 := by
      unfold head6
      simp only [u8_wrap]
      rcases i with _ | _ | _ | _ | _ | _ | _ <;> first | omega | (simp only [getAt, List.getD_cons_zero, List.getD_cons_succ]; omega)
    rw [num_get _ i hl (by rw [hg]; exact hh.1) (by rw [hg]; exact hh.2), hg]
  have v0 := gb 0 (by omega)
  have v1 := gb 1 (by omega)
  have v2 := gb 2 (by omega)
  have v3 := gb 3 (by omega)
  have v4 := gb 4 (by omega)
  have v5 := gb 5 (by omega)
  have i1 : ∀ i : Nat, i < 6 → inb (i : Int) (frameT kind at_ ep body).size = true := fun i hi => inb_nat (by omega)
  have v0' : (((frameT kind at_ ep body).data.getD 0 0).toNat : Int) = kind := v0.trans (by show IntKind.u8.wrap kind = _; rw [u8_wrap]; omega)
  have v5' : (((frameT kind at_ ep body).data.getD 5 0).toNat : Int) = body.size := v5.trans (by show IntKind.u8.wrap (body.size : Int) = _; rw [u8_wrap]; omega)
  have p1 : IntKind.i64.wrap (↑(BitVec.ofInt (64 : Nat) (IntKind.i64.wrap (IntKind.i64.wrap (↑((frameT kind at_ ep body).data.getD (1 : Nat) (0 : UInt8)).toNat : Int) * (2 : Int) ^ (8 : Nat))) ||| BitVec.ofInt (64 : Nat) (IntKind.i64.wrap (↑((frameT kind at_ ep body).data.getD (2 : Nat) (0 : UInt8)).toNat : Int))).toNat : Int) = at_ := by
    have b1 := byte_lt ((frameT kind at_ ep body).data.getD 1 0)
    have b2 := byte_lt ((frameT kind at_ ep body).data.getD 2 0)
    have w1 : (((frameT kind at_ ep body).data.getD 1 0).toNat : Int) = at_ / 256 % 256 := v1.trans (by show IntKind.u8.wrap _ = _; rw [u8_wrap, fdiv256])
    have w2 : (((frameT kind at_ ep body).data.getD 2 0).toNat : Int) = at_ % 256 := v2.trans (by show IntKind.u8.wrap _ = _; rw [u8_wrap])
    rw [wrap_eq (n := (((frameT kind at_ ep body).data.getD 1 0).toNat : Int)) (by omega) (by omega), wrap_eq (n := (((frameT kind at_ ep body).data.getD 2 0).toNat : Int)) (by omega) (by omega), or2 _ _ b1 b2]
    omega
  have p2 : IntKind.i64.wrap (↑(BitVec.ofInt (64 : Nat) (IntKind.i64.wrap (IntKind.i64.wrap (↑((frameT kind at_ ep body).data.getD (3 : Nat) (0 : UInt8)).toNat : Int) * (2 : Int) ^ (8 : Nat))) ||| BitVec.ofInt (64 : Nat) (IntKind.i64.wrap (↑((frameT kind at_ ep body).data.getD (4 : Nat) (0 : UInt8)).toNat : Int))).toNat : Int) = ep := by
    have b1 := byte_lt ((frameT kind at_ ep body).data.getD 3 0)
    have b2 := byte_lt ((frameT kind at_ ep body).data.getD 4 0)
    have w1 : (((frameT kind at_ ep body).data.getD 3 0).toNat : Int) = ep / 256 % 256 := v3.trans (by show IntKind.u8.wrap _ = _; rw [u8_wrap, fdiv256])
    have w2 : (((frameT kind at_ ep body).data.getD 4 0).toNat : Int) = ep % 256 := v4.trans (by show IntKind.u8.wrap _ = _; rw [u8_wrap])
    rw [wrap_eq (n := (((frameT kind at_ ep body).data.getD 3 0).toNat : Int)) (by omega) (by omega), wrap_eq (n := (((frameT kind at_ ep body).data.getD 4 0).toNat : Int)) (by omega) (by omega), or2 _ _ b1 b2]
    omega
  have c5 : cn (decide (IntKind.i64.wrap (↑((frameT kind at_ ep body).data.getD (5 : Nat) (0 : UInt8)).toNat : Int) < (16 : Int))) (IntKind.i64.wrap (↑((frameT kind at_ ep body).data.getD (5 : Nat) (0 : UInt8)).toNat : Int)) (16 : Int) = (body.size : Int) := by
    rw [v5', wrap_eq (by omega) (by omega)]
    by_cases h : (body.size : Int) < 16
    · exact cnT h
    · rw [cnF h]; omega
  rw [i_ReadFrame.f_eq, c5, v0', p1, p2, wrap_eq (n := kind) (by omega) (by omega), wrap_eq (n := (6 : Int) + body.size) (by omega) (by omega), show ((6 : Int) + (body.size : Int)).toNat = 6 + body.size by omega, e4, e1, e2]
  rw [cnNT (by omega : ((frameT kind at_ ep body).size : Int) = 28), i_sumOn.eq k _ (by omega) (by omega)]
  simp only [Option.bind_some, Bool.true_and]
  unfold low4
  rw [gdT (by omega), gdT (by omega), cnNT rfl, show (0 : Int) = ((0 : Nat) : Int) from rfl, i1 0 (by omega), show (1 : Int) = ((1 : Nat) : Int) from rfl, i1 1 (by omega), show (2 : Int) = ((2 : Nat) : Int) from rfl, i1 2 (by omega), show (3 : Int) = ((3 : Nat) : Int) from rfl, i1 3 (by omega), show (4 : Int) = ((4 : Nat) : Int) from rfl, i1 4 (by omega), show (5 : Int) = ((5 : Nat) : Int) from rfl, i1 5 (by omega)]
  simp only [gd_t]
  rw [decide_eq_true (by omega : (6 : Int) ≤ 6 + (body.size : Int)), decide_eq_true (by omega : (6 : Int) + (body.size : Int) ≤ ((frameT kind at_ ep body).size : Int))]
  simp only [Bool.and_self, gd_t]
  rw [i_GoodFrame.eq, g]
  simp only [Option.bind_some, Bool.not_true, cn_f]
  rw [i_frameBytes.eq k hk _ _ _ _ hb]
  simp only [Option.bind_some, decide_true, Bool.not_true, cn_f]
theorem i_CheckFrame.back (k : Nat) (hk : 40 ≤ k) (kind at_ ep least : Int) (body : ByteArray) (g : goodF kind at_ ep body = true) (hl : least ≤ ep) : i_CheckFrame.f k (frameT kind at_ ep body) kind at_ least = some ((kind, at_, ep, body), 0, true) := by
  rw [i_CheckFrame.f_eq, i_ReadFrame.back k hk kind at_ ep body g]
  simp only [Option.bind_some, Bool.not_true, cn_f, decide_true]
  rw [cnF (by omega)]
/-! ### What a disk tells -/
theorem recover_both (p h : List ByteArray) (b : List Bool) (g : goodD p h b = true) (h5 : p.length = 5) : ∃ r : List Int × Int × Bool, (∀ k, 40 ≤ k → i_RecoverFrom.f k p h b = some r) ∧ (∀ k, 40 ≤ k → s_l15Recover.f k p h b = some (if r.2.2 = true then (r.1, r.2.1) else ([], -1))) ∧ r.1.length ≤ 6 ∧ (r.2.2 = true → 0 ≤ r.2.1 ∧ r.2.1 ≤ 60000) ∧ (r.2.2 = false → r = ([], 0, false)) := by
  obtain ⟨g1, g2, g3, g4⟩ := goodD_len g
  obtain ⟨rd, hrd, hrd0⟩ := s_l7Read.at p h b g3 g4 0 (by omega)
  have hird : ∀ k, 40 ≤ k → i_ReadSector.f k p h b 0 = some rd := fun k hk => by
    have := i_ReadSector.eq p h b g 0 (by omega) k (by omega)
    rw [show ((0 : Nat) : Int) = 0 from rfl] at this
    rw [this]; exact hrd k
  have hrd : ∀ k, s_l7Read.f k p h b 0 = some rd := hrd
  obtain ⟨cf, hci, hcs, hce, hc28⟩ := checkFrame_same rd.1 4 0 0
  have hI : ∀ k, 40 ≤ k → i_RecoverFrom.f k p h b = cn (!cf.2.2) (some ([], 0, false)) (i_RecoverFrom.l0 k k 0 p h b cf.1.1 cf.1.2.1 cf.1.2.2.1 cf.1.2.2.2 []) := fun k hk => by
    rw [i_RecoverFrom.f_eq, i_GoodDisk.eq k (by omega), g, cnNT (show (p.length : Int) = 5 by omega), Option.bind_some, hird k hk, Option.bind_some, hci k hk, Option.bind_some]; rfl
  have hR : ∀ k, 40 ≤ k → s_l15Recover.f k p h b = cn (!rd.2) (some ([], -1)) (cn (!cf.2.2) (some ([], -1)) (s_l15Recover.l0 k k (IntKind.i64.wrap ((1 : Int) + IntKind.i64.wrap ((2 : Int) * cf.1.2.2.1.tmod (2 : Int)))) 0 p h b cf.1.1 cf.1.2.1 cf.1.2.2.1 cf.1.2.2.2 [])) := fun k hk => by
    rw [s_l15Recover.f_eq, hrd k, Option.bind_some, hcs k hk, Option.bind_some, s_l15Half.f_eq, Option.bind_some]
  cases hok : cf.2.2 with
  | false => exact ⟨([], 0, false), fun k hk => by rw [hI k hk, hok]; rfl, fun k hk => by rw [hR k hk, hok]; cases rd.2 <;> rfl, by simp, fun h => (by cases h), fun _ => rfl⟩
  | true =>
    have hrt : rd.2 = true := by
      cases hr : rd.2 with
      | true => rfl
      | false =>
        have := hrd0 hr
        rw [this] at hc28
        have := hc28 (by decide)
        rw [hok] at this; cases this
    obtain ⟨c1, c2⟩ := hce hok
    obtain ⟨r, r1, r2, r3, r4, r5⟩ := recover_loop p h b g (by omega) cf.1.1 cf.1.2.1 cf.1.2.2.1 cf.1.2.2.2 c1 c2 2 0 [] (by omega) rfl
    have ht : cf.1.2.2.1.tmod 2 = 0 ∨ cf.1.2.2.1.tmod 2 = 1 := by rw [Int.tmod_eq_emod_of_nonneg c1]; omega
    have hw : IntKind.i64.wrap ((1 : Int) + IntKind.i64.wrap ((2 : Int) * cf.1.2.2.1.tmod (2 : Int))) = 1 + 2 * cf.1.2.2.1.tmod 2 := by
      rw [wrap_eq (n := 2 * cf.1.2.2.1.tmod 2) (by omega) (by omega), wrap_eq (by omega) (by omega)]
    refine ⟨r, fun k hk => ?_, fun k hk => ?_, r3, fun h => by rw [r4 h]; exact ⟨c1, c2⟩, r5⟩
    · rw [hI k hk, hok]
      simp only [Bool.not_true, cn_f]
      exact r1 k k hk (by omega)
    · rw [hR k hk, hok, hrt, hw]
      simp only [Bool.not_true, cn_f]
      rw [show s_l15Recover.l0 k k (1 + 2 * cf.1.2.2.1.tmod 2) 0 p h b cf.1.1 cf.1.2.1 cf.1.2.2.1 cf.1.2.2.2 [] = _ from r2 k k hk (by omega)]
      cases hr : r.2.2 with
      | true => rw [if_pos rfl, if_pos rfl, r4 hr]
      | false => rfl
/-- What a disk of five sectors tells. -/
noncomputable def recD (p h : List ByteArray) (b : List Bool) : List Int × Int × Bool := @dite _ (goodD p h b = true ∧ p.length = 5) (Classical.propDecidable _) (fun h => (recover_both _ _ _ h.1 h.2).choose) (fun _ => ([], 0, false))
theorem recD_spec {p h : List ByteArray} {b : List Bool} (g : goodD p h b = true) (h5 : p.length = 5) : (∀ k, 40 ≤ k → i_RecoverFrom.f k p h b = some (recD p h b)) ∧ (∀ k, 40 ≤ k → s_l15Recover.f k p h b = some (if (recD p h b).2.2 = true then ((recD p h b).1, (recD p h b).2.1) else ([], -1))) ∧ (recD p h b).1.length ≤ 6 ∧ ((recD p h b).2.2 = true → 0 ≤ (recD p h b).2.1 ∧ (recD p h b).2.1 ≤ 60000) ∧ ((recD p h b).2.2 = false → recD p h b = ([], 0, false)) := by
  unfold recD
  rw [dif_pos ⟨g, h5⟩]
  exact (recover_both _ _ _ g h5).choose_spec
theorem recD_i {p h : List ByteArray} {b : List Bool} (g : goodD p h b = true) (h5 : p.length = 5) : Ev (fun k => i_RecoverFrom.f k p h b) (recD p h b) := .of 40 (recD_spec g h5).1
theorem recD_l {p h : List ByteArray} {b : List Bool} (g : goodD p h b = true) (h5 : p.length = 5) : Ev (fun k => s_l15Recover.f k p h b) (if (recD p h b).2.2 = true then ((recD p h b).1, (recD p h b).2.1) else ([], -1)) := .of 40 (recD_spec g h5).2.1
/-! ### The texts of a state -/
def two (v : Int) : List Int := [IntKind.u8.wrap (v.fdiv ((2 : Int) ^ (8 : Nat))), IntKind.u8.wrap v]
def tbl (x : List Int) : List Int := x.flatMap two
theorem tbl_len : ∀ x : List Int, (tbl x).length = 2 * x.length
  | [] => rfl
  | v :: x => by
    show ((two v) ++ tbl x).length = _
    rw [List.length_append, tbl_len x, List.length_cons]
    show 2 + 2 * x.length = _
    omega
theorem tbl_byte (x : List Int) : ∀ v ∈ tbl x, 0 ≤ v ∧ v < 256 := fun v hv => by
  obtain ⟨y, _, hy⟩ := List.mem_flatMap.1 hv
  unfold two at hy
  simp only [List.mem_cons, List.not_mem_nil, or_false, u8_wrap] at hy
  omega
noncomputable def sb0 (x : List Int) : ByteArray := strOfNums ((tbl x).take 6)
noncomputable def sb1 (x : List Int) : ByteArray := strOfNums ((tbl x).drop 6)
theorem sb0_size {x : List Int} (h : x.length = 6) : (sb0 x).size = 6 := by
  unfold sb0; rw [strOfNums_len, List.length_take, tbl_len]; omega
theorem sb1_size {x : List Int} (h : x.length = 6) : (sb1 x).size = 6 := by
  unfold sb1; rw [strOfNums_len, List.length_drop, tbl_len]; omega
theorem sb_both (x : List Int) : sb0 x ++ sb1 x = strOfNums (tbl x) := by
  unfold sb0 sb1; rw [← strOfNums_append, List.take_append_drop]
theorem i_stateBytes.ev (x : List Int) (h : x.length = 6) : Ev (fun k => i_stateBytes.f k x) [sb0 x, sb1 x] := by
  refine Ev.congr ?_ fun k => i_stateBytes.f_eq k x
  refine Ev2.diag (g := fun k m => i_stateBytes.l0 k m x (x.length : Int) 0 []) ?_
  have := Ev2.each x 0 (fun k m j (st : List Int) => i_stateBytes.l0 k m x (x.length : Int) (j : Int) st) (fun j st => st.length = 2 * j) (fun l j st => [strOfNums ((st ++ tbl l).take 6), strOfNums ((st ++ tbl l).drop 6)]) ?_ ?_ x.length 0 [] (by simp) (by simp)
  · exact this
  · intro st hst
    rw [h] at hst
    refine .step ?_ fun k m => i_stateBytes.l0_s k m _ _ _ _
    simp (disch := omega) only [Int.toNat_natCast, decide_eq_true, decide_eq_false, Bool.not_true, Bool.not_false, Bool.true_and, Bool.false_and, Bool.and_true, Bool.and_false, cn_t, cn_f, gd_t, inb_nat, wrap_succ, Option.bind_some, both_self, dup_eq]
    rw [show tbl [] = [] from rfl, List.append_nil, List.drop_zero, List.take_of_length_le (by rw [List.length_drop]; omega : (st.drop 6).length ≤ st.length - 6)]
    exact .const fun _ _ => rfl
  · intro j v l st _ hj hv hst ih
    refine .step ?_ fun k m => i_stateBytes.l0_s k m _ _ _ _
    simp (disch := omega) only [Int.toNat_natCast, decide_eq_true, decide_eq_false, Bool.not_true, Bool.not_false, Bool.true_and, Bool.false_and, Bool.and_true, Bool.and_false, cn_t, cn_f, gd_t, inb_nat, wrap_succ, Option.bind_some, both_self, dup_eq, hv, appOk_le bytes_uint8 (show st.length + [IntKind.u8.wrap (v.fdiv ((2 : Int) ^ (8 : Nat))), IntKind.u8.wrap v].length ≤ 1073741824 by simp; omega)]
    rw [show st ++ tbl (v :: l) = (st ++ two v) ++ tbl l by rw [List.append_assoc]; rfl]
    exact ih (st ++ two v) (by rw [List.length_append]; show st.length + 2 = _; omega)
theorem s_l15Bytes.ev (x : List Int) (h : x.length = 6) : Ev (fun k => s_l15Bytes.f k x) [sb0 x, sb1 x] := by
  refine Ev.congr ?_ fun k => s_l15Bytes.f_eq k x
  refine Ev2.diag (g := fun k m => s_l15Bytes.l0 k m ByteArray.empty x (x.length : Int) 0) ?_
  have := Ev2.each x 0 (fun k m j (st : List Int) => s_l15Bytes.l0 k m (strOfNums st) x (x.length : Int) (j : Int)) (fun j st => st.length = 2 * j) (fun l j st => [strOfNums ((st ++ tbl l).take 6), strOfNums ((st ++ tbl l).drop 6)]) ?_ ?_ x.length 0 [] (by simp) (by simp)
  · exact this
  · intro st hst
    rw [h] at hst
    have hz : (strOfNums st).size = 12 := by rw [strOfNums_len]; omega
    have hp : strOfNums st = strOfNums (st.take 6) ++ strOfNums (st.drop 6) := by rw [← strOfNums_append, List.take_append_drop]
    have h6 : 6 = (strOfNums (st.take 6)).size := by rw [strOfNums_len, List.length_take]; omega
    have e1 : (strOfNums st).extract 0 6 = strOfNums (st.take 6) := by rw [hp]; exact ext_left _ _ _ h6
    have e2 : (strOfNums st).extract 6 (strOfNums st).size = strOfNums (st.drop 6) := by rw [hp]; exact ext_right _ _ _ h6
    refine .step ?_ fun k m => s_l15Bytes.l0_s k m _ _ _ _
    simp (disch := omega) only [Int.toNat_natCast, decide_eq_true, decide_eq_false, Bool.not_true, Bool.not_false, Bool.true_and, Bool.false_and, Bool.and_true, Bool.and_false, cn_t, cn_f, gd_t, inb_nat, wrap_succ, Option.bind_some, both_self, dup_eq, e1, e2]
    rw [show tbl [] = [] from rfl, List.append_nil]
    exact .const fun _ _ => rfl
  · intro j v l st _ hj hv hst ih
    refine .step ?_ fun k m => s_l15Bytes.l0_s k m _ _ _ _
    simp (disch := omega) only [Int.toNat_natCast, decide_eq_true, decide_eq_false, Bool.not_true, Bool.not_false, Bool.true_and, Bool.false_and, Bool.and_true, Bool.and_false, cn_t, cn_f, gd_t, inb_nat, wrap_succ, Option.bind_some, both_self, dup_eq, hv]
    refine .bind (.of 3 fun k hk => s_l6Bytes.two k hk v) ?_
    simp only [gdT (show (strOfNums st).size + (strOfNums [IntKind.u8.wrap (v.fdiv ((2 : Int) ^ (8 : Nat))), IntKind.u8.wrap v]).size ≤ 140737488355327 + 1 by rw [strOfNums_len, strOfNums_len, List.length_cons, List.length_cons, List.length_nil]; omega)]
    rw [show st ++ tbl (v :: l) = (st ++ two v) ++ tbl l by rw [List.append_assoc]; rfl]
    have e : strOfNums st ++ strOfNums [IntKind.u8.wrap (v.fdiv ((2 : Int) ^ (8 : Nat))), IntKind.u8.wrap v] = strOfNums (st ++ two v) := (strOfNums_append _ _).symm
    simp only [e]
    exact ih (st ++ two v) (by rw [List.length_append]; show st.length + 2 = _; omega)
theorem val_two (l : List Int) (i : Nat) (v : Int) (h0 : 0 ≤ v) (h1 : v ≤ 65535) (ha : getAt 0 l (2 * i + 0) = IntKind.u8.wrap (v.fdiv ((2 : Int) ^ (8 : Nat)))) (hb : getAt 0 l (2 * i + 1) = IntKind.u8.wrap v) : sfVal l i = v := by
  unfold sfVal
  rw [ha, hb, u8_wrap, u8_wrap, fdiv256, wrap_eq (n := v / 256 % 256) (by omega) (by omega), wrap_eq (n := v % 256) (by omega) (by omega)]
  have := or2 (v / 256 % 256).toNat (v % 256).toNat (by omega) (by omega)
  rw [show (((v / 256 % 256).toNat : Nat) : Int) = v / 256 % 256 by omega, show (((v % 256).toNat : Nat) : Int) = v % 256 by omega] at this
  rw [this]; omega
theorem state_back {x : List Int} (h : isSt x = true) : sfF [sb0 x, sb1 x] = some (x, true) := by
  unfold isSt at h
  rw [Bool.and_eq_true, decide_eq_true_iff, List.all_eq_true] at h
  obtain ⟨hr, h6⟩ := h
  have hr : ∀ v ∈ x, 0 ≤ v ∧ v ≤ 65535 := fun v hv => of_decide_eq_true (hr v hv)
  have e : (List.range 6).map (sfVal (bytesL (sb0 x ++ sb1 x))) = x := by
    rw [sb_both, bytes_back _ (tbl_byte x)]
    obtain ⟨a, b, c, d, f, g, rfl⟩ : ∃ a b c d f g, x = [a, b, c, d, f, g] := by
      rcases x with _ | ⟨a, _ | ⟨b, _ | ⟨c, _ | ⟨d, _ | ⟨f, _ | ⟨g, _ | ⟨i, t⟩⟩⟩⟩⟩⟩⟩ <;> simp at h6
      exact ⟨a, b, c, d, f, g, rfl⟩
    have q : ∀ v ∈ [a, b, c, d, f, g], 0 ≤ v ∧ v ≤ 65535 := hr
    have qa := q a (by simp)
    have qb := q b (by simp)
    have qc := q c (by simp)
    have qd := q d (by simp)
    have qf := q f (by simp)
    have qg := q g (by simp)
    rw [show List.range 6 = [0, 1, 2, 3, 4, 5] from rfl]
    simp only [List.map_cons, List.map_nil]
    rw [val_two _ 0 a qa.1 qa.2 rfl rfl, val_two _ 1 b qb.1 qb.2 rfl rfl, val_two _ 2 c qc.1 qc.2 rfl rfl, val_two _ 3 d qd.1 qd.2 rfl rfl, val_two _ 4 f qf.1 qf.2 rfl rfl, val_two _ 5 g qg.1 qg.2 rfl rfl]
  unfold sfF
  rw [show getAt ByteArray.empty [sb0 x, sb1 x] 0 = sb0 x from rfl, show getAt ByteArray.empty [sb0 x, sb1 x] 1 = sb1 x from rfl, sb0_size h6, sb1_size h6, e]
  rfl
theorem isSt_len {x : List Int} (h : isSt x = true) : x.length = 6 := by
  unfold isSt at h
  rw [Bool.and_eq_true, decide_eq_true_iff] at h
  exact h.2
/-- The first sector of an epoch's half. -/
def hfN (e : Int) : Nat := if e % 2 = 0 then 1 else 3
theorem hfN_eq {e : Int} (h0 : 0 ≤ e) : IntKind.i64.wrap ((1 : Int) + IntKind.i64.wrap ((2 : Int) * e.tmod (2 : Int))) = (hfN e : Int) := by
  rw [Int.tmod_eq_emod_of_nonneg h0]
  unfold hfN
  have : e % 2 = 0 ∨ e % 2 = 1 := by omega
  rcases this with h | h
  · rw [h]; rfl
  · rw [h]; rfl
theorem hfN_or (e : Int) : hfN e = 1 ∨ hfN e = 3 := by unfold hfN; split <;> simp
theorem hfN_succ (e : Int) : hfN (e + 1) = 4 - hfN e := by
  unfold hfN
  split <;> split <;> omega
noncomputable abbrev fr1 (e : Int) (x : List Int) : ByteArray := frameT 3 (hfN e : Int) e (sb0 x)
noncomputable abbrev fr2 (e : Int) (x : List Int) : ByteArray := frameT 3 ((hfN e + 1 : Nat) : Int) e (sb1 x)
noncomputable abbrev root (e : Int) : ByteArray := frameT 4 0 e ByteArray.empty
theorem i_sectorsOf.ev {e : Int} {x : List Int} (h0 : 0 ≤ e) (h : x.length = 6) : Ev (fun k => i_sectorsOf.f k e x) ([fr1 e x, fr2 e x], (hfN e : Int)) := by
  refine Ev.congr ?_ fun k => i_sectorsOf.f_eq k e x
  simp (disch := omega) only [Int.toNat_natCast, decide_eq_true, decide_eq_false, Bool.not_true, Bool.not_false, Bool.true_and, Bool.false_and, Bool.and_true, Bool.and_false, cn_t, cn_f, gd_t, inb_nat, wrap_succ, Option.bind_some, both_self, dup_eq, i_halfOf.f_eq, hfN_eq h0]
  refine Ev.bind (i_stateBytes.ev x h) ?_
  have hq := hfN_or e
  have hl : (([sb0 x, sb1 x] : List ByteArray).length : Int) = 2 := rfl
  rw [hl]
  have w1 : IntKind.i64.wrap ((0 : Int) + 1) = 1 := by decide
  have w2 : IntKind.i64.wrap ((1 : Int) + 1) = 2 := by decide
  have w3 : IntKind.i64.wrap ((hfN e : Int) + 0) = (hfN e : Int) := by rw [wrap_eq (by omega) (by omega)]; omega
  have w4 : IntKind.i64.wrap ((hfN e : Int) + 1) = ((hfN e + 1 : Nat) : Int) := by rw [wrap_eq (by omega) (by omega)]; omega
  have s0 := sb0_size h
  have s1 := sb1_size h
  refine Ev2.diag (g := fun k m => i_sectorsOf.l0 k m e (hfN e : Int) 2 0 [] [sb0 x, sb1 x]) ?_
  refine .step ?_ fun k m => i_sectorsOf.l0_s k m _ _ _ _ _ _
  simp only [cnT (show (0 : Int) < 2 by decide), show inb (0 : Int) [sb0 x, sb1 x].length = true from rfl, gd_t, show getAt ByteArray.empty [sb0 x, sb1 x] (0 : Int).toNat = sb0 x from rfl, w3, w1]
  refine .bind (.of 40 fun k hk => i_frameBytes.eq k hk _ _ _ _ (by omega)) ?_
  simp only [appOk_le bytes_string (show ([] : List ByteArray).length + [fr1 e x].length ≤ 1073741824 by simp), gd_t]
  refine .step ?_ fun k m => i_sectorsOf.l0_s k m _ _ _ _ _ _
  simp only [cnT (show (1 : Int) < 2 by decide), show inb (1 : Int) [sb0 x, sb1 x].length = true from rfl, gd_t, show getAt ByteArray.empty [sb0 x, sb1 x] (1 : Int).toNat = sb1 x from rfl, w4, w2]
  refine .bind (.of 40 fun k hk => i_frameBytes.eq k hk _ _ _ _ (by omega)) ?_
  simp only [appOk_le bytes_string (show ([] ++ [fr1 e x] : List ByteArray).length + [fr2 e x].length ≤ 1073741824 by simp), gd_t]
  refine .step ?_ fun k m => i_sectorsOf.l0_s k m _ _ _ _ _ _
  simp only [cnF (show ¬ (2 : Int) < 2 by decide)]
  exact .const fun _ _ => rfl
theorem i_rootOf.ev (e : Int) : Ev (fun k => i_rootOf.f k e) (root e) := by
  refine Ev.congr ?_ fun k => i_rootOf.f_eq k e
  exact .bind (.of 40 fun k hk => i_frameBytes.eq k hk _ _ _ _ (by decide)) (.const fun _ => rfl)
theorem s_l7Read.plate (k : Nat) (p h : List ByteArray) (b : List Bool) (j : Nat) (hj : j < p.length) (hh : h.length = p.length) (hb : b.length = p.length) (h0 : getAt ByteArray.empty h j = ByteArray.empty) (b0 : getAt false b j = false) : s_l7Read.f k p h b (j : Int) = some (getAt ByteArray.empty p j, true) := by
  rw [s_l7Read.f_eq, inb_nat (by omega), gd_t, Int.toNat_natCast, b0, cn_f, inb_nat (by omega), gd_t, h0, cnNT rfl, inb_nat (by omega), gd_t]
/-- A disk whose root and half tell a state. -/
theorem tell_back {p : List ByteArray} {b : List Bool} {e : Int} {x : List Int} (g : goodD p (noText 5) b = true) (hp : p.length = 5) (hb : ∀ j, getAt false b j = false) (e0 : 0 ≤ e) (e1 : e ≤ 60000) (hx : isSt x = true)
    (h0 : getAt ByteArray.empty p 0 = root e) (h1 : getAt ByteArray.empty p (hfN e) = fr1 e x) (h2 : getAt ByteArray.empty p (hfN e + 1) = fr2 e x) : recD p (noText 5) b = (x, e, true) := by
  obtain ⟨g1, g2, g3, g4⟩ := goodD_len g
  have h6 := isSt_len hx
  have hq := hfN_or e
  have s0 := sb0_size h6
  have s1 := sb1_size h6
  have rd : ∀ j : Nat, j < 5 → Ev (fun k => i_ReadSector.f k p (noText 5) b (j : Int)) (getAt ByteArray.empty p j, true) := fun j hj => .of 25 fun k hk => by
    show i_ReadSector.f k p (noText 5) b (j : Int) = _
    rw [i_ReadSector.eq p _ b g j (by omega) k hk]
    exact s_l7Read.plate k p _ b j (by omega) g3 g4 (getAt_replicate _ _ _) (hb j)
  have gf : ∀ (kind at_ : Int) (body : ByteArray), 1 ≤ kind → kind ≤ 255 → 0 ≤ at_ → at_ ≤ 60000 → body.size ≤ 16 → goodF kind at_ e body = true := fun kind at_ body a1 a2 a3 a4 a5 => decide_eq_true ⟨a1, a2, a3, a4, e0, e1, by omega⟩
  have w1 : IntKind.i64.wrap ((0 : Int) + 1) = 1 := by decide
  have w2 : IntKind.i64.wrap ((1 : Int) + 1) = 2 := by decide
  have w3 : IntKind.i64.wrap ((hfN e : Int) + 0) = (hfN e : Int) := by rw [wrap_eq (by omega) (by omega)]; omega
  have w4 : IntKind.i64.wrap ((hfN e : Int) + 1) = ((hfN e + 1 : Nat) : Int) := by rw [wrap_eq (by omega) (by omega)]; omega
  have r0 : Ev (fun k => i_ReadSector.f k p (noText 5) b 0) (root e, true) := by have := rd 0 (by omega); rw [h0] at this; exact this
  have r1 := rd (hfN e) (by omega)
  rw [h1] at r1
  have r2 := rd (hfN e + 1) (by omega)
  rw [h2] at r2
  have c0 : Ev (fun k => i_CheckFrame.f k (root e) 4 0 0) ((4, 0, e, ByteArray.empty), 0, true) := .of 40 fun k hk => i_CheckFrame.back k hk 4 0 e 0 ByteArray.empty (gf 4 0 _ (by omega) (by omega) (by omega) (by omega) (by decide)) e0
  have c1 : Ev (fun k => i_CheckFrame.f k (fr1 e x) 3 (hfN e : Int) e) ((3, (hfN e : Int), e, sb0 x), 0, true) := .of 40 fun k hk => i_CheckFrame.back k hk 3 (hfN e : Int) e e (sb0 x) (gf 3 _ _ (by omega) (by omega) (by omega) (by omega) (by omega)) (by omega)
  have c2 : Ev (fun k => i_CheckFrame.f k (fr2 e x) 3 ((hfN e + 1 : Nat) : Int) e) ((3, ((hfN e + 1 : Nat) : Int), e, sb1 x), 0, true) := .of 40 fun k hk => i_CheckFrame.back k hk 3 ((hfN e + 1 : Nat) : Int) e e (sb1 x) (gf 3 _ _ (by omega) (by omega) (by omega) (by omega) (by omega)) (by omega)
  have main : Ev (fun k => i_RecoverFrom.f k p (noText 5) b) (x, e, true) := by
    refine Ev.congr ?_ fun k => i_RecoverFrom.f_eq k _ _ _
    refine Ev.bind (.of 25 fun k hk => i_GoodDisk.eq k hk _ _ _) ?_
    rw [g]
    simp only [Bool.not_true, cn_f, cnNT (show (p.length : Int) = 5 by omega)]
    refine Ev.bind r0 ?_
    refine Ev.bind c0 ?_
    simp only [Bool.not_true, cn_f]
    refine Ev2.diag (g := fun k m => i_RecoverFrom.l0 k m 0 p (noText 5) b 4 0 e ByteArray.empty []) ?_
    refine .step ?_ fun k m => i_RecoverFrom.l0_s k m _ _ _ _ _ _ _ _ _
    simp only [cnT (show (0 : Int) < 2 by decide), i_halfOf.f_eq, hfN_eq e0, Option.bind_some, w3]
    refine .bind r1 ?_
    refine .bind c1 ?_
    simp only [Bool.not_true, cn_f, decide_true, appOk_le bytes_string (show ([] : List ByteArray).length + [sb0 x].length ≤ 1073741824 by simp), gd_t, w1]
    refine .step ?_ fun k m => i_RecoverFrom.l0_s k m _ _ _ _ _ _ _ _ _
    simp only [cnT (show (1 : Int) < 2 by decide), i_halfOf.f_eq, hfN_eq e0, Option.bind_some, w4]
    refine .bind r2 ?_
    refine .bind c2 ?_
    simp only [Bool.not_true, cn_f, decide_true, appOk_le bytes_string (show ([] ++ [sb0 x] : List ByteArray).length + [sb1 x].length ≤ 1073741824 by simp), gd_t, w2]
    refine .step ?_ fun k m => i_RecoverFrom.l0_s k m _ _ _ _ _ _ _ _ _
    simp only [cnF (show ¬ (2 : Int) < 2 by decide)]
    refine .bind (d := (x, true)) (.const fun k => show sfF [sb0 x, sb1 x] = _ from state_back hx) ?_
    exact .const fun _ _ => rfl
  exact (recD_i g hp).unique main
/-! ### What is held -/
def heldFrom : List ByteArray → Nat → List Int
  | [], _ => []
  | t :: l, j => if t = ByteArray.empty then heldFrom l (j + 1) else (j : Int) :: heldFrom l (j + 1)
def heldL (h : List ByteArray) : List Int := heldFrom h 0
theorem heldFrom_len : ∀ (l : List ByteArray) (j : Nat), (heldFrom l j).length ≤ l.length
  | [], _ => Nat.le_refl _
  | t :: l, j => by
    have := heldFrom_len l (j + 1)
    unfold heldFrom
    split <;> simp <;> omega
theorem heldFrom_mem : ∀ {l : List ByteArray} {j : Nat} {v : Int}, v ∈ heldFrom l j ↔ ∃ i : Nat, i < l.length ∧ v = ((j + i : Nat) : Int) ∧ getAt ByteArray.empty l i ≠ ByteArray.empty
  | [], j, v => by simp [heldFrom]
  | t :: l, j, v => by
    have ih := heldFrom_mem (l := l) (j := j + 1) (v := v)
    have key : (∃ i : Nat, i < (t :: l).length ∧ v = ((j + i : Nat) : Int) ∧ getAt ByteArray.empty (t :: l) i ≠ ByteArray.empty) ↔ (v = (j : Int) ∧ t ≠ ByteArray.empty) ∨ ∃ i : Nat, i < l.length ∧ v = ((j + 1 + i : Nat) : Int) ∧ getAt ByteArray.empty l i ≠ ByteArray.empty := by
      constructor
      · rintro ⟨i, h1, h2, h3⟩
        cases i with
        | zero => exact .inl ⟨by omega, h3⟩
        | succ i => exact .inr ⟨i, by simp at h1; omega, by omega, h3⟩
      · rintro (⟨h1, h2⟩ | ⟨i, h1, h2, h3⟩)
        · exact ⟨0, by simp, by omega, h2⟩
        · exact ⟨i + 1, by simp; omega, by omega, h3⟩
    rw [key]
    unfold heldFrom
    by_cases ht : t = ByteArray.empty
    · rw [if_pos ht, ih]
      exact ⟨fun h => .inr h, fun h => h.resolve_left fun h => h.2 ht⟩
    · rw [if_neg ht, List.mem_cons, ih]
      exact ⟨fun h => h.imp (fun h => ⟨h, ht⟩) id, fun h => h.imp (fun h => h.1) id⟩
theorem heldL_mem {h : List ByteArray} {v : Int} : v ∈ heldL h ↔ 0 ≤ v ∧ v < (h.length : Int) ∧ getAt ByteArray.empty h v.toNat ≠ ByteArray.empty := by
  unfold heldL
  rw [heldFrom_mem]
  constructor
  · rintro ⟨i, h1, h2, h3⟩
    exact ⟨by omega, by omega, by rw [h2]; simpa using h3⟩
  · rintro ⟨h1, h2, h3⟩
    exact ⟨v.toNat, by omega, by omega, h3⟩
theorem empty_iff (t : ByteArray) : (t.toList = ByteArray.empty.toList) ↔ t = ByteArray.empty := byteArray_toList_eq
theorem i_heldIn.ev (p h : List ByteArray) (b : List Bool) (hh : h.length ≤ 1048576) : Ev (fun k => i_heldIn.f k p h b) (heldL h) := by
  refine Ev.congr ?_ fun k => i_heldIn.f_eq k p h b
  refine Ev2.diag (g := fun k m => i_heldIn.l0 k m h (h.length : Int) 0 []) ?_
  have := Ev2.each h ByteArray.empty (fun k m j (st : List Int) => i_heldIn.l0 k m h (h.length : Int) (j : Int) st) (fun j st => st.length ≤ j) (fun l j st => st ++ heldFrom l j) ?_ ?_ h.length 0 [] (by simp) (by simp)
  · exact this
  · intro st _
    refine .step ?_ fun k m => i_heldIn.l0_s k m _ _ _ _
    simp (disch := omega) only [Int.toNat_natCast, decide_eq_true, decide_eq_false, Bool.not_true, Bool.not_false, Bool.true_and, Bool.false_and, Bool.and_true, Bool.and_false, cn_t, cn_f, gd_t, inb_nat, wrap_succ, Option.bind_some, both_self, dup_eq, heldFrom, List.append_nil]
    exact .const fun _ _ => rfl
  · intro j t l st _ hj ht hst ih
    refine .step ?_ fun k m => i_heldIn.l0_s k m _ _ _ _
    simp (disch := omega) only [Int.toNat_natCast, decide_eq_true, decide_eq_false, Bool.not_true, Bool.not_false, Bool.true_and, Bool.false_and, Bool.and_true, Bool.and_false, cn_t, cn_f, gd_t, inb_nat, wrap_succ, Option.bind_some, both_self, dup_eq, ht]
    by_cases he : t = ByteArray.empty
    · rw [show heldFrom (t :: l) j = heldFrom l (j + 1) by rw [heldFrom, if_pos he]]
      simp only [cnNT ((empty_iff t).2 he)]
      exact ih st (by omega)
    · rw [show heldFrom (t :: l) j = (j : Int) :: heldFrom l (j + 1) by rw [heldFrom, if_neg he]]
      simp only [cnNF (fun h => he ((empty_iff t).1 h)), appOk_le bytes_int (show st.length + [(j : Int)].length ≤ 1073741824 by simp; omega), gd_t]
      have := ih (st ++ [(j : Int)]) (by simp; omega)
      rwa [List.append_assoc] at this
theorem s_l7Held.ev (p h : List ByteArray) (b : List Bool) (hh : h.length ≤ 1048576) : Ev (fun k => s_l7Held.f k p h b) (heldL h) := by
  refine Ev.congr ?_ fun k => s_l7Held.f_eq k p h b
  refine Ev2.diag (g := fun k m => s_l7Held.l0 k m h (h.length : Int) 0 []) ?_
  have := Ev2.each h ByteArray.empty (fun k m j (st : List Int) => s_l7Held.l0 k m h (h.length : Int) (j : Int) st) (fun j st => st.length ≤ j) (fun l j st => st ++ heldFrom l j) ?_ ?_ h.length 0 [] (by simp) (by simp)
  · exact this
  · intro st _
    refine .step ?_ fun k m => s_l7Held.l0_s k m _ _ _ _
    simp (disch := omega) only [Int.toNat_natCast, decide_eq_true, decide_eq_false, Bool.not_true, Bool.not_false, Bool.true_and, Bool.false_and, Bool.and_true, Bool.and_false, cn_t, cn_f, gd_t, inb_nat, wrap_succ, Option.bind_some, both_self, dup_eq, heldFrom, List.append_nil]
    exact .const fun _ _ => rfl
  · intro j t l st _ hj ht hst ih
    refine .step ?_ fun k m => s_l7Held.l0_s k m _ _ _ _
    simp (disch := omega) only [Int.toNat_natCast, decide_eq_true, decide_eq_false, Bool.not_true, Bool.not_false, Bool.true_and, Bool.false_and, Bool.and_true, Bool.and_false, cn_t, cn_f, gd_t, inb_nat, wrap_succ, Option.bind_some, both_self, dup_eq, ht]
    by_cases he : t = ByteArray.empty
    · rw [show heldFrom (t :: l) j = heldFrom l (j + 1) by rw [heldFrom, if_pos he]]
      simp only [cnNT ((empty_iff t).2 he)]
      exact ih st (by omega)
    · rw [show heldFrom (t :: l) j = (j : Int) :: heldFrom l (j + 1) by rw [heldFrom, if_neg he]]
      simp only [cnNF (fun h => he ((empty_iff t).1 h)), appOk_le bytes_int (show st.length + [(j : Int)].length ≤ 1073741824 by simp; omega), gd_t]
      have := ih (st ++ [(j : Int)]) (by simp; omega)
      rwa [List.append_assoc] at this
/-! ### Numbers that rise -/
/-- They rise from u on, and p holds of each. -/
def rs (p : Int → Bool) : Option Int → List Int → Bool
  | _, [] => true
  | u, v :: l => p v && (match u with | none => true | some u => decide (u < v)) && rs p (some v) l
theorem rs_and (p q : Int → Bool) : ∀ (l : List Int) (u : Option Int), rs (fun v => p v && q v) u l = (rs p u l && l.all q)
  | [], _ => rfl
  | v :: l, u => by
    simp only [rs, List.all_cons, rs_and p q l]
    cases p v <;> cases q v <;> cases rs p (some v) l <;> cases l.all q <;> simp
theorem rs_congr {p q : Int → Bool} (h : ∀ v, p v = q v) (u : Option Int) (l : List Int) : rs p u l = rs q u l := by
  rw [show p = q from funext h]
def prevA (s : List Int) (j : Nat) : Option Int := match j with | 0 => none | i + 1 => some (getAt 0 s i)
theorem i_isRising.ev (s : List Int) (b : Int) (hs : s.length < 9223372036854775807) (h0 : 0 ≤ b) (h1 : b ≤ 1048576) : Ev (fun k => i_isRising.f k s b) (rs (fun v => decide (0 ≤ v ∧ v ≤ b - 1)) none s) := by
  refine Ev.congr ?_ fun k => i_isRising.f_eq k s b
  refine Ev2.diag (g := fun k m => i_isRising.l0 k m s b s (s.length : Int) 0) ?_
  refine Ev2.look s 0 (fun k m j => i_isRising.l0 k m s b s (s.length : Int) (j : Int)) (fun l j => rs (fun v => decide (0 ≤ v ∧ v ≤ b - 1)) (prevA s j) l) ?_ ?_
  · refine .step ?_ fun k m => i_isRising.l0_s k m _ _ _ _ _
    simp (disch := omega) only [Int.toNat_natCast, decide_eq_true, decide_eq_false, Bool.not_true, Bool.not_false, Bool.true_and, Bool.false_and, Bool.and_true, Bool.and_false, cn_t, cn_f, gd_t, inb_nat, wrap_succ, Option.bind_some, both_self, dup_eq, rs]
    exact .const fun _ _ => rfl
  · intro j v l _ hj hv ih
    refine .step ?_ fun k m => i_isRising.l0_s k m _ _ _ _ _
    simp (disch := omega) only [Int.toNat_natCast, decide_eq_true, decide_eq_false, Bool.not_true, Bool.not_false, Bool.true_and, Bool.false_and, Bool.and_true, Bool.and_false, cn_t, cn_f, gd_t, inb_nat, wrap_succ, Option.bind_some, both_self, dup_eq, hv, i_within.eq, show IntKind.i64.wrap (b - 1) = b - 1 from wrap_eq (by omega) (by omega)]
    by_cases hr : 0 ≤ v ∧ v ≤ b - 1
    · simp only [decide_eq_true hr, Bool.not_true, cn_f, rs, Bool.true_and]
      cases j with
      | zero =>
        simp only [cnF (show ¬ (0 : Int) < ((0 : Nat) : Int) by omega), prevA, Bool.true_and]
        have : prevA s (0 + 1) = some v := by rw [← hv]; rfl
        rw [this] at ih
        exact ih
      | succ i =>
        have e : IntKind.i64.wrap (((i + 1 : Nat) : Int) - 1) = (i : Int) := by rw [wrap_eq (by omega) (by omega)]; omega
        simp only [cnT (show (0 : Int) < ((i + 1 : Nat) : Int) by omega), e, inb_nat (show i < s.length by omega), gd_t, Int.toNat_natCast, prevA]
        have : prevA s (i + 1 + 1) = some v := by rw [← hv]; rfl
        rw [this] at ih
        by_cases hlt : v ≤ getAt 0 s i
        · simp only [cnT hlt, decide_eq_false (show ¬ getAt 0 s i < v by omega), Bool.false_and]
          exact .const fun _ _ => rfl
        · simp only [cnF hlt, decide_eq_true (show getAt 0 s i < v by omega), Bool.true_and]
          exact ih
    · simp only [decide_eq_false hr, Bool.not_false, cn_t, rs, Bool.false_and]
      exact .const fun _ _ => rfl
def keptOk (h : List ByteArray) (kept : List Int) : Bool := rs (fun v => decide (v ∈ heldL h)) none kept
theorem s_l7Kept.ev (p h : List ByteArray) (b : List Bool) (s : List Int) (hh : h.length ≤ 1048576) (hs : s.length < 9223372036854775807) : Ev (fun k => s_l7Kept.f k p h b s) (keptOk h s) := by
  refine Ev.congr ?_ fun k => s_l7Kept.f_eq k p h b s
  refine Ev.bind (s_l7Held.ev p h b hh) ?_
  have hl : (heldL h).length < 9223372036854775807 := by have := heldFrom_len h 0; unfold heldL; omega
  unfold keptOk
  generalize heldL h = H at hl ⊢
  refine Ev2.diag (g := fun k m => s_l7Kept.l0 k m s s (s.length : Int) 0 H) ?_
  refine Ev2.look s 0 (fun k m j => s_l7Kept.l0 k m s s (s.length : Int) (j : Int) H) (fun l j => rs (fun v => decide (v ∈ H)) (prevA s j) l) ?_ ?_
  · refine .step ?_ fun k m => s_l7Kept.l0_s k m _ _ _ _ _
    simp (disch := omega) only [Int.toNat_natCast, decide_eq_true, decide_eq_false, Bool.not_true, Bool.not_false, Bool.true_and, Bool.false_and, Bool.and_true, Bool.and_false, cn_t, cn_f, gd_t, inb_nat, wrap_succ, Option.bind_some, both_self, dup_eq, rs]
    exact .const fun _ _ => rfl
  · intro j v l _ hj hv ih
    refine .step ?_ fun k m => s_l7Kept.l0_s k m _ _ _ _ _
    simp (disch := omega) only [Int.toNat_natCast, decide_eq_true, decide_eq_false, Bool.not_true, Bool.not_false, Bool.true_and, Bool.false_and, Bool.and_true, Bool.and_false, cn_t, cn_f, gd_t, inb_nat, wrap_succ, Option.bind_some, both_self, dup_eq, hv]
    refine .bind (s_l1Has.ev H v hl) ?_
    by_cases hr : v ∈ H
    · simp only [decide_eq_true hr, Bool.not_true, cn_f, rs, Bool.true_and]
      cases j with
      | zero =>
        simp only [cnF (show ¬ (0 : Int) < ((0 : Nat) : Int) by omega), prevA, Bool.true_and]
        have : prevA s (0 + 1) = some v := by rw [← hv]; rfl
        rw [this] at ih
        exact ih
      | succ i =>
        have e : IntKind.i64.wrap (((i + 1 : Nat) : Int) - 1) = (i : Int) := by rw [wrap_eq (by omega) (by omega)]; omega
        simp only [cnT (show (0 : Int) < ((i + 1 : Nat) : Int) by omega), e, inb_nat (show i < s.length by omega), gd_t, Int.toNat_natCast, prevA]
        have : prevA s (i + 1 + 1) = some v := by rw [← hv]; rfl
        rw [this] at ih
        by_cases hlt : v ≤ getAt 0 s i
        · simp only [cnT hlt, decide_eq_false (show ¬ getAt 0 s i < v by omega), Bool.false_and]
          exact .const fun _ _ => rfl
        · simp only [cnF hlt, decide_eq_true (show getAt 0 s i < v by omega), Bool.true_and]
          exact ih
    · simp only [decide_eq_false hr, Bool.not_false, cn_t, rs, Bool.false_and]
      exact .const fun _ _ => rfl
theorem b_IndexFunc_int__i_areHeld_1.ev (s : List Int) (p h : List ByteArray) (b : List Bool) (hs : s.length < 9223372036854775807) (hr : ∀ v ∈ s, 0 ≤ v ∧ v < (h.length : Int)) : Ev (fun k => b_IndexFunc_int__i_areHeld_1.f k s p h b) (fidx (fun v => decide (getAt ByteArray.empty h v.toNat = ByteArray.empty)) s 0, p, h, b) := by
  refine Ev.congr ?_ fun k => b_IndexFunc_int__i_areHeld_1.f_eq k s p h b
  refine Ev2.diag (g := fun k m => b_IndexFunc_int__i_areHeld_1.l0 k m s (s.length : Int) 0 p h b) ?_
  refine Ev2.look s 0 (fun k m j => b_IndexFunc_int__i_areHeld_1.l0 k m s (s.length : Int) (j : Int) p h b) (fun l j => (fidx (fun v => decide (getAt ByteArray.empty h v.toNat = ByteArray.empty)) l j, p, h, b)) ?_ ?_
  · refine .step ?_ fun k m => b_IndexFunc_int__i_areHeld_1.l0_s k m _ _ _ _ _ _
    simp (disch := omega) only [Int.toNat_natCast, decide_eq_true, decide_eq_false, Bool.not_true, Bool.not_false, Bool.true_and, Bool.false_and, Bool.and_true, Bool.and_false, cn_t, cn_f, gd_t, inb_nat, wrap_succ, Option.bind_some, both_self, dup_eq, fidx]
    exact .const fun _ _ => rfl
  · intro j v l hd hj hv ih
    have hm : v ∈ s := List.mem_of_mem_drop (by rw [hd]; exact List.mem_cons_self)
    obtain ⟨v0, v1⟩ := hr v hm
    have hib : inb v h.length = true := by
      have := inb_nat (show v.toNat < h.length by omega)
      rwa [show ((v.toNat : Nat) : Int) = v by omega] at this
    refine .step ?_ fun k m => b_IndexFunc_int__i_areHeld_1.l0_s k m _ _ _ _ _ _
    simp (disch := omega) only [Int.toNat_natCast, decide_eq_true, decide_eq_false, Bool.not_true, Bool.not_false, Bool.true_and, Bool.false_and, Bool.and_true, Bool.and_false, cn_t, cn_f, gd_t, inb_nat, wrap_succ, Option.bind_some, both_self, dup_eq, hv, i_areHeld_1.f_eq, hib, fidx]
    by_cases he : getAt ByteArray.empty h v.toNat = ByteArray.empty
    · simp only [decide_eq_true he, cnT ((empty_iff _).2 he)]
      exact .const fun _ _ => rfl
    · simp only [decide_eq_false he, cnF (fun h => he ((empty_iff _).1 h))]
      exact ih
theorem i_areHeld.ev (p h : List ByteArray) (b : List Bool) (s : List Int) (hp : p.length ≤ 1048576) (hh : h.length = p.length) (hs : s.length < 9223372036854775807) : Ev (fun k => i_areHeld.f k p h b s) (keptOk h s) := by
  refine Ev.congr ?_ fun k => i_areHeld.f_eq k p h b s
  refine Ev.bind (i_isRising.ev s (p.length : Int) hs (by omega) (by omega)) ?_
  have e : keptOk h s = (rs (fun v => decide (0 ≤ v ∧ v ≤ (p.length : Int) - 1)) none s && s.all fun v => !decide (getAt ByteArray.empty h v.toNat = ByteArray.empty)) := by
    rw [← rs_and]
    refine rs_congr (fun v => ?_) _ _
    rw [Bool.eq_iff_iff, decide_eq_true_iff, heldL_mem, Bool.and_eq_true, decide_eq_true_iff, Bool.not_eq_true', decide_eq_false_iff_not]
    constructor
    · rintro ⟨a, b, c⟩; exact ⟨⟨a, by omega⟩, c⟩
    · rintro ⟨⟨a, b⟩, c⟩; exact ⟨a, by omega, c⟩
  rw [e]
  cases hr : rs (fun v => decide (0 ≤ v ∧ v ≤ (p.length : Int) - 1)) none s with
  | false => exact .const fun _ => rfl
  | true =>
    have hb : ∀ (l : List Int) (u : Option Int), rs (fun v => decide (0 ≤ v ∧ v ≤ (p.length : Int) - 1)) u l = true → ∀ v ∈ l, 0 ≤ v ∧ v < (h.length : Int) := by
      intro l
      induction l with
      | nil => intro u _ v hv; cases hv
      | cons w l ih =>
        intro u hu v hv
        simp only [rs, Bool.and_eq_true] at hu
        rcases List.mem_cons.1 hv with rfl | hv
        · have := of_decide_eq_true hu.1.1; omega
        · exact ih _ hu.2 v hv
    simp only [cn_t, Bool.true_and]
    refine Ev.bind (Ev.congr (Ev.bind (b_IndexFunc_int__i_areHeld_1.ev s p h b hs (hb s none hr)) (.const fun _ => rfl)) fun k => b_ContainsFunc_int__i_areHeld_1.f_eq k s p h b) ?_
    rw [fidx_any]
    refine .const fun _ => ?_
    rw [List.not_any_eq_all_not]
/-! ### The law's own, of journals -/
theorem w_szIntS.ev (a : List Int) (ha : a.length ≤ maxLen) (left : Int) (h0 : 0 ≤ left) (h1 : left ≤ 1048576) :
    ∃ r : Int, Ev (fun k => w_szIntS.f k a left) r ∧ (r < 0 ∨ (0 ≤ r ∧ r ≤ left ∧ a.length ≤ 1048576)) := by
  rw [maxLen_eq] at ha
  by_cases h : left - (a.length : Int) < 0
  · refine ⟨-1, .const fun k => ?_, .inl (by omega)⟩
    rw [w_szIntS.f_eq]
    simp (disch := omega) only [Int.toNat_natCast, decide_eq_true, decide_eq_false, Bool.not_true, Bool.not_false, Bool.true_and, Bool.false_and, Bool.and_true, Bool.and_false, cn_t, cn_f, gd_t, inb_nat, wrap_succ, Option.bind_some, both_self, dup_eq, wrap_eq]
  · refine ⟨left - a.length, .const fun k => ?_, .inr ⟨by omega, by omega, by omega⟩⟩
    rw [w_szIntS.f_eq]
    simp (disch := omega) only [Int.toNat_natCast, decide_eq_true, decide_eq_false, Bool.not_true, Bool.not_false, Bool.true_and, Bool.false_and, Bool.and_true, Bool.and_false, cn_t, cn_f, gd_t, inb_nat, wrap_succ, Option.bind_some, both_self, dup_eq, wrap_eq]
theorem w_eqJournal.ev (p h : List ByteArray) (b : List Bool) (e ph : Int) (x y : List Int) (hp : p.length ≤ maxLen) (hh : h.length ≤ maxLen) (hb : b.length ≤ maxLen) (hx : x.length ≤ maxLen) (hy : y.length ≤ maxLen) : Ev (fun k => w_eqJournal.f k p h b e ph x y p h b e ph x y) true := by
  refine Ev.congr ?_ (fun k => w_eqJournal.f_eq k p h b e ph x y p h b e ph x y)
  refine Ev.bind (w_eqDisk.ev p h b hp hh hb) ?_
  simp only [Bool.not_true, cn_f, decide_true]
  refine Ev.bind (w_eqIntS.ev x hx) ?_
  simp only [Bool.not_true, cn_f]
  refine Ev.bind (w_eqIntS.ev y hy) ?_
  exact .const fun k => rfl
/-! ### Journals that are good -/
noncomputable def goodJ (p h : List ByteArray) (b : List Bool) (e ph : Int) (x y : List Int) : Bool :=
  goodD p h b && decide (p.length = 5) && !(b.any fun v => true == v) && decide (0 ≤ ph ∧ ph ≤ 3) && isSt x && (if ph = 0 then decide (y.length = 0) else isSt y) &&
    ((recD p (noText p.length) b).2.2 && decide ((recD p (noText p.length) b).2.1 = e) && decide ((recD p (noText p.length) b).1 = x))
theorem i_GoodJournal.ev (p h : List ByteArray) (b : List Bool) (e ph : Int) (x y : List Int) (hp : p.length ≤ maxLen) (hb : b.length ≤ maxLen) (hx : x.length < maxLen) (hy : y.length < maxLen) : Ev (fun k => i_GoodJournal.f k p h b e ph x y) (goodJ p h b e ph x y) := by
  rw [maxLen_eq] at hp hb hx hy
  refine Ev.congr ?_ fun k => i_GoodJournal.f_eq k p h b e ph x y
  refine Ev.bind (.of 25 fun k hk => i_GoodDisk.eq k hk p h b) ?_
  unfold goodJ
  cases g : goodD p h b with
  | false => exact .const fun _ => rfl
  | true =>
    obtain ⟨g1, g2, g3, g4⟩ := goodD_len g
    simp only [Bool.not_true, cn_f, Bool.true_and]
    by_cases h5 : p.length = 5
    case neg => simp (disch := omega) only [Int.toNat_natCast, decide_eq_true, decide_eq_false, Bool.not_true, Bool.not_false, Bool.true_and, Bool.false_and, Bool.and_true, Bool.and_false, cn_t, cn_f, gd_t, inb_nat, wrap_succ, Option.bind_some, both_self, dup_eq]; exact .const fun _ => rfl
    simp (disch := omega) only [Int.toNat_natCast, decide_eq_true, decide_eq_false, Bool.not_true, Bool.not_false, Bool.true_and, Bool.false_and, Bool.and_true, Bool.and_false, cn_t, cn_f, gd_t, inb_nat, wrap_succ, Option.bind_some, both_self, dup_eq]
    refine Ev.bind (b_Contains_bool.ev b true (by omega)) ?_
    cases hbad : b.any fun v => true == v with
    | true => exact .const fun _ => rfl
    | false =>
    simp only [cn_f, Bool.not_false, Bool.true_and, i_within.eq, Option.bind_some]
    by_cases hph : 0 ≤ ph ∧ ph ≤ 3
    case neg => simp only [decide_eq_false hph, Bool.not_false, cn_t, Bool.false_and]; exact .const fun _ => rfl
    simp only [decide_eq_true hph, Bool.not_true, cn_f, Bool.true_and]
    refine Ev.bind (i_isState.ev x (by omega)) ?_
    cases hst : isSt x with
    | false => exact .const fun _ => rfl
    | true =>
    simp only [Bool.not_true, cn_f, Bool.true_and]
    have tail : Ev (fun k => (i_crashed.f k p h b []).bind fun d11 => (i_RecoverFrom.f k d11.fst d11.snd.fst d11.snd.snd).bind fun d12 => cn d12.snd.snd (cn (decide (d12.snd.fst = e)) ((b_Equal_int.f k d12.fst x).bind fun d13 => some d13) (some false)) (some false))
        ((recD p (noText p.length) b).2.2 && decide ((recD p (noText p.length) b).2.1 = e) && decide ((recD p (noText p.length) b).1 = x)) := by
      refine Ev.bind (i_crashed.ev p h b [] (by omega) g3 (by omega) (by simp)) ?_
      simp only [crashP_nil]
      have gc := goodD_crash g []
      rw [crashP_nil] at gc
      refine Ev.bind (recD_i gc h5) ?_
      have hl := (recD_spec gc h5).2.2.1
      generalize recD p (noText p.length) b = r at hl ⊢
      cases h1 : r.2.2 with
      | false => exact .const fun _ => rfl
      | true =>
        by_cases h2 : r.2.1 = e
        case neg => simp only [decide_eq_false h2, cn_t, cn_f, Bool.true_and, Bool.false_and]; exact .const fun _ => rfl
        simp only [decide_eq_true h2, cn_t, Bool.true_and]
        exact Ev.bind (b_Equal_int.ev r.1 x (by omega)) (.const fun _ => rfl)
    by_cases h0 : ph = 0
    · simp only [decide_eq_true h0, cn_t, if_pos h0]
      by_cases hy0 : y.length = 0
      · simp (disch := omega) only [Int.toNat_natCast, decide_eq_true, decide_eq_false, Bool.not_true, Bool.not_false, Bool.true_and, Bool.false_and, Bool.and_true, Bool.and_false, cn_t, cn_f, gd_t, inb_nat, wrap_succ, Option.bind_some, both_self, dup_eq]
        exact tail
      · simp (disch := omega) only [Int.toNat_natCast, decide_eq_true, decide_eq_false, Bool.not_true, Bool.not_false, Bool.true_and, Bool.false_and, Bool.and_true, Bool.and_false, cn_t, cn_f, gd_t, inb_nat, wrap_succ, Option.bind_some, both_self, dup_eq]
        exact .const fun _ => rfl
    · simp only [decide_eq_false h0, cn_f, if_neg h0]
      simp (disch := omega) only [Int.toNat_natCast, decide_eq_true, decide_eq_false, Bool.not_true, Bool.not_false, Bool.true_and, Bool.false_and, Bool.and_true, Bool.and_false, cn_t, cn_f, gd_t, inb_nat, wrap_succ, Option.bind_some, both_self, dup_eq]
      refine Ev.bind (i_isState.ev y (by omega)) ?_
      cases hsy : isSt y with
      | false => exact .const fun _ => rfl
      | true =>
        simp only [Bool.not_true, cn_f, Bool.true_and]
        exact tail
/-! ### A step of a journal -/
abbrev JT : Type := List ByteArray × List ByteArray × List Bool × Int × Int × List Int × List Int
def noJ : JT := ([], [], [], 0, 0, [], [])
/-- What a step makes of a journal; none where it is refused. -/
noncomputable def stepF (p h : List ByteArray) (b : List Bool) (e ph : Int) (x y : List Int) (kind : Int) (vals kept : List Int) : Option JT :=
  if kind ≠ 1 ∧ vals ≠ [] ∨ kind ≠ 4 ∧ kept ≠ [] then none
  else if kind = 1 then (if ph = 0 ∧ e < 60000 ∧ isSt vals = true then some (p, (h.set (hfN (e + 1)) (fr1 (e + 1) vals)).set (hfN (e + 1) + 1) (fr2 (e + 1) vals), b, e, 1, x, vals) else none)
  else if kind = 2 then (if ph = 1 then some (crashP p h (heldL h), noText p.length, b, e, 2, x, y) else if ph = 3 then some (crashP p h (heldL h), noText p.length, b, e + 1, 0, y, []) else some (crashP p h (heldL h), noText p.length, b, e, ph, x, y))
  else if kind = 3 then (if ph = 2 then some (p, h.set 0 (root (e + 1)), b, e, 3, x, y) else none)
  else if kind = 4 then (if keptOk h kept = true ∧ (recD (crashP p h kept) (noText p.length) b).2.2 = true then some (crashP p h kept, noText p.length, b, (recD (crashP p h kept) (noText p.length) b).2.1, 0, (recD (crashP p h kept) (noText p.length) b).1, []) else none)
  else none
theorem pos_iff (l : List Int) : ((0 : Int) < (l.length : Int)) ↔ l ≠ [] := by cases l <;> simp
theorem i_ownJournal.eq (k : Nat) (p h : List ByteArray) (b : List Bool) (e ph : Int) (x y : List Int) (hp : p.length ≤ 1073741824) (hh : h.length ≤ 1073741824) (hb : b.length ≤ 1073741824) (hx : x.length ≤ 1073741824) (hy : y.length ≤ 1073741824) : i_ownJournal.f k p h b e ph x y = some (p, h, b, e, ph, x, y) := by
  rw [i_ownJournal.f_eq, i_ownDisk.eq k p h b hp hh hb, b_Clone_int.eq k x hx, b_Clone_int.eq k y hy]; rfl
theorem s_l15Own.eq (k : Nat) (p h : List ByteArray) (b : List Bool) (e ph : Int) (x y : List Int) (hp : p.length ≤ 1073741824) (hh : h.length ≤ 1073741824) (hb : b.length ≤ 1073741824) (hx : x.length ≤ 1073741824) (hy : y.length ≤ 1073741824) : s_l15Own.f k p h b e ph x y = some (p, h, b, e, ph, x, y) := by
  have e1 : appOk (0 + x.length) (Try.prog.bytesOf (3 : Nat)) = true := appOk_le bytes_int (by omega)
  have e2 : appOk (0 + y.length) (Try.prog.bytesOf (3 : Nat)) = true := appOk_le bytes_int (by omega)
  rw [s_l15Own.f_eq]
  simp only [s_l7Own.eq k p h b hp hh hb, Option.bind_some, e1, e2, gd_t, List.nil_append, both_self, dup_eq]
theorem copy_two (h : List ByteArray) (q : Nat) (a c : ByteArray) (hh : h.length = 5) (hq : q = 1 ∨ q = 3) : copyL h (0 + q) (h.length - q) [a, c] = (h.set q a).set (q + 1) c := by
  obtain ⟨h0, h1, h2, h3, h4, rfl⟩ : ∃ h0 h1 h2 h3 h4, h = [h0, h1, h2, h3, h4] := by
    rcases h with _ | ⟨h0, _ | ⟨h1, _ | ⟨h2, _ | ⟨h3, _ | ⟨h4, _ | ⟨i, t⟩⟩⟩⟩⟩⟩ <;> simp at hh
    exact ⟨_, _, _, _, _, rfl⟩
  rcases hq with rfl | rfl <;> rfl
theorem i_journalStep.ev (p h : List ByteArray) (b : List Bool) (e ph : Int) (x y : List Int) (kind : Int) (vals kept : List Int) (g : goodD p h b = true) (hp : p.length = 5) (e0 : 0 ≤ e) (e1 : e ≤ 60000) (e3 : kind = 3 → e < 60000) (hx : x.length ≤ 1048576) (hy : y.length ≤ 1048576) (hv : vals.length ≤ 1048576) (hk : kept.length ≤ 1048576) :
    Ev (fun k => i_journalStep.f k p h b e ph x y kind vals kept) (match stepF p h b e ph x y kind vals kept with | none => (noJ, false) | some j => (j, goodJ j.1 j.2.1 j.2.2.1 j.2.2.2.1 j.2.2.2.2.1 j.2.2.2.2.2.1 j.2.2.2.2.2.2)) := by
  obtain ⟨g1, g2, g3, g4⟩ := goodD_len g
  have hm := maxLen_eq
  refine Ev.congr ?_ fun k => i_journalStep.f_eq k p h b e ph x y kind vals kept
  have own : ∀ k, i_ownJournal.f k p h b e ph x y = some (p, h, b, e, ph, x, y) := fun k => i_ownJournal.eq k p h b e ph x y (by omega) (by omega) (by omega) (by omega) (by omega)
  have w1 : IntKind.i64.wrap (e + 1) = e + 1 := wrap_eq (by omega) (by omega)
  have lc : ∀ kp, (crashP p h kp).length = 5 := fun kp => by rw [crashP_len]; exact hp
  by_cases hbad : kind ≠ 1 ∧ vals ≠ [] ∨ kind ≠ 4 ∧ kept ≠ []
  · simp only [stepF, if_pos hbad]
    rcases hbad with ⟨h1, h2⟩ | ⟨h1, h2⟩
    · simp only [cnNF h1, cnT ((pos_iff _).2 h2)]
      exact .const fun _ => rfl
    · by_cases k1 : kind = 1
      · simp only [cnNT k1, cnNF h1, cnT ((pos_iff _).2 h2)]
        exact .const fun _ => rfl
      · simp only [cnNF k1]
        by_cases v0 : vals = []
        · simp only [cnF (fun h => (pos_iff _).1 h v0), cnNF h1, cnT ((pos_iff _).2 h2)]
          exact .const fun _ => rfl
        · simp only [cnT ((pos_iff _).2 v0)]
          exact .const fun _ => rfl
  have hgood : ∀ {a b : Prop}, ¬ (a ∨ b) → ¬ a ∧ ¬ b := fun h => ⟨fun x => h (.inl x), fun x => h (.inr x)⟩
  obtain ⟨n1, n2⟩ := hgood hbad
  have v0 : kind ≠ 1 → ¬ ((0 : Int) < (vals.length : Int)) := fun h h' => n1 ⟨h, (pos_iff _).1 h'⟩
  have k0 : kind ≠ 4 → ¬ ((0 : Int) < (kept.length : Int)) := fun h h' => n2 ⟨h, (pos_iff _).1 h'⟩
  simp only [stepF, if_neg hbad]
  by_cases c1 : kind = 1
  · subst c1
    simp only [cnNT rfl, cnNF (show ¬ (1 : Int) = 4 by decide), cnF (k0 (by decide)), own, Option.bind_some, cnT rfl, if_pos]
    by_cases p0 : ph = 0
    case neg =>
      simp only [cnNF p0, if_neg (fun (h : ph = 0 ∧ e < 60000 ∧ isSt vals = true) => p0 h.1)]
      exact .const fun _ => rfl
    simp only [cnNT p0]
    by_cases e2 : e < 60000
    case neg =>
      simp only [cnT (show (60000 : Int) ≤ e by omega), if_neg (fun (h : ph = 0 ∧ e < 60000 ∧ isSt vals = true) => e2 h.2.1)]
      exact .const fun _ => rfl
    simp only [cnF (show ¬ (60000 : Int) ≤ e by omega)]
    refine Ev.bind (i_isState.ev vals (by omega)) ?_
    cases hs : isSt vals with
    | false =>
      simp only [Bool.not_false, cn_t, if_neg (show ¬ (ph = 0 ∧ e < 60000 ∧ false = true) from fun h => by cases h.2.2)]
      exact .const fun _ => rfl
    | true =>
      have h6 := isSt_len hs
      simp only [Bool.not_true, cn_f, w1]
      rw [if_pos ⟨p0, e2, trivial⟩]
      refine Ev.bind (i_sectorsOf.ev (by omega) h6) ?_
      have hq := hfN_or (e + 1)
      have gd1 : (decide ((0 : Int) ≤ (hfN (e + 1) : Int)) && decide ((hfN (e + 1) : Int) ≤ (h.length : Int))) = true := by
        rw [decide_eq_true (by omega), decide_eq_true (by omega)]; rfl
      simp only [gd1, gd_t, Int.toNat_natCast, copy_two h (hfN (e + 1)) _ _ (by omega) hq, b_Clone_int.eq _ vals (by omega), Option.bind_some]
      refine Ev.bind (i_GoodJournal.ev _ _ _ _ _ _ _ (by omega) (by omega) (by omega) (by omega)) ?_
      exact .const fun _ => rfl
  simp only [cnNF c1, cnF (v0 c1), if_neg c1]
  by_cases c4 : kind = 4
  · subst c4
    simp only [cnNT rfl, own, Option.bind_some, cnF c1, cnF (show ¬ (4 : Int) = 2 by decide), cnF (show ¬ (4 : Int) = 3 by decide), cnT rfl, if_neg (show ¬ (4 : Int) = 2 by decide), if_neg (show ¬ (4 : Int) = 3 by decide), if_pos]
    refine Ev.bind (i_areHeld.ev p h b kept (by omega) g3 (by omega)) ?_
    cases hko : keptOk h kept with
    | false =>
      simp only [Bool.not_false, cn_t, if_neg (show ¬ (false = true ∧ (recD (crashP p h kept) (noText p.length) b).2.2 = true) from fun h => by cases h.1)]
      exact .const fun _ => rfl
    | true =>
      simp only [Bool.not_true, cn_f]
      refine Ev.bind (i_crashed.ev p h b kept (by omega) g3 (by omega) (by omega)) ?_
      have gc := goodD_crash g kept
      refine Ev.bind (recD_i gc (lc kept)) ?_
      have hl := (recD_spec gc (lc kept)).2.2.1
      cases hr : (recD (crashP p h kept) (noText p.length) b).2.2 with
      | false =>
        simp only [Bool.not_false, cn_t]
        rw [if_neg (by simp)]
        exact .const fun _ => rfl
      | true =>
        simp only [Bool.not_true, cn_f]
        rw [if_pos (by simp)]
        have lck := lc kept
        refine Ev.bind (i_GoodJournal.ev _ _ _ _ _ _ _ (by omega) (by omega) (by omega) (by simp; omega)) ?_
        exact .const fun _ => rfl
  simp only [cnNF c4, cnF (k0 c4), own, Option.bind_some, cnF c1, cnF c4]
  by_cases c2 : kind = 2
  · have lck := lc (heldL h)
    have hl : (heldL h).length < 9223372036854775807 := by have := heldFrom_len h 0; unfold heldL; omega
    simp only [cnT c2, if_pos c2]
    refine Ev.bind (i_heldIn.ev p h b (by omega)) ?_
    refine Ev.bind (i_crashed.ev p h b (heldL h) (by omega) g3 (by omega) hl) ?_
    by_cases p1 : ph = 1
    · simp only [cnT p1, if_pos p1]
      refine Ev.bind (i_GoodJournal.ev _ _ _ _ _ _ _ (by omega) (by omega) (by omega) (by omega)) ?_
      exact .const fun _ => rfl
    simp only [cnF p1, if_neg p1]
    by_cases p3 : ph = 3
    · simp only [cnT p3, if_pos p3, w1]
      refine Ev.bind (i_GoodJournal.ev _ _ _ _ _ _ _ (by omega) (by omega) (by omega) (by simp; omega)) ?_
      exact .const fun _ => rfl
    · simp only [cnF p3, if_neg p3]
      refine Ev.bind (i_GoodJournal.ev _ _ _ _ _ _ _ (by omega) (by omega) (by omega) (by omega)) ?_
      exact .const fun _ => rfl
  simp only [cnF c2, if_neg c2]
  by_cases c3 : kind = 3
  · simp only [cnT c3, if_pos c3]
    by_cases p2 : ph = 2
    · have e2 := e3 c3
      simp only [cnNT p2, if_pos p2, cnF (show ¬ (60000 : Int) ≤ e by omega), w1]
      refine Ev.bind (i_rootOf.ev (e + 1)) ?_
      have ib : inb (0 : Int) h.length = true := by have := inb_nat (show 0 < h.length by omega); exact this
      simp only [ib, gd_t]
      refine Ev.bind (i_GoodJournal.ev _ _ _ _ _ _ _ (by omega) (by omega) (by omega) (by omega)) ?_
      exact .const fun _ => rfl
    · simp only [cnNF p2, if_neg p2]
      exact .const fun _ => rfl
  simp only [cnF c3, if_neg c3, if_neg c4]
  exact .const fun _ => rfl
theorem s_l7Step.write (k : Nat) (p h : List ByteArray) (b : List Bool) (j : Nat) (t : ByteArray) (ht : t.size = 28) (hj : j < p.length) (hh : h.length = p.length) (hb : b.length = p.length) (hbad : getAt false b j = false) : s_l7Step.f k p h b 1 (j : Int) t [] = some ((((), (), ()), true), p, h.set j t, b) := by
  rw [s_l7Step.f_eq]
  simp only [cnF (show ¬ (1 : Int) = 2 by decide), cnF (show ¬ (1 : Int) = 3 by decide), s_l7There.f_eq, cnT (show (0 : Int) ≤ (j : Int) by omega), Option.bind_some, decide_eq_true (show (j : Int) < (p.length : Int) by omega), Bool.not_true, cn_f]
  rw [cnF (by simp)]
  simp only [decide_true, cn_t]
  rw [inb_nat (by omega), gd_t, Int.toNat_natCast, hbad]
  simp only [Bool.not_false, cn_t]
  rw [s_l1In.eq, Option.bind_some, decide_eq_true (by omega : (1 : Int) ≤ (t.size : Int) ∧ (t.size : Int) ≤ 28), cn_t, inb_nat (by omega), gd_t]
theorem s_l15Write.ev (p h : List ByteArray) (b : List Bool) (kind : Int) (j : Nat) (ep : Int) (body : ByteArray) (hbody : body.size ≤ 16) (hj : j < p.length) (hh : h.length = p.length) (hb : b.length = p.length) (hbad : getAt false b j = false) : Ev (fun k => s_l15Write.f k p h b kind (j : Int) ep body) (((), (), ()), p, h.set j (frameT kind (j : Int) ep body), b) := .of 40 fun k hk => by
  show s_l15Write.f k p h b kind (j : Int) ep body = _
  rw [s_l15Write.f_eq]
  simp only [s_l6Frame.eq k hk _ _ _ _ hbody, Option.bind_some, s_l7Step.write k p h b j _ (frameT_size _ _ _ _ hbody) hj hh hb hbad, both_self, dup_eq]
theorem s_l15Put.ev (p h : List ByteArray) (b : List Bool) {e : Int} {x : List Int} (h0 : 0 ≤ e) (h6 : x.length = 6) (hp : p.length = 5) (hh : h.length = 5) (hb : b.length = 5) (hbad : ∀ j, getAt false b j = false) : Ev (fun k => s_l15Put.f k p h b e x) (((), (), ()), p, (h.set (hfN e) (fr1 e x)).set (hfN e + 1) (fr2 e x), b) := by
  refine Ev.congr ?_ fun k => s_l15Put.f_eq k p h b e x
  simp only [s_l15Half.f_eq, hfN_eq h0, Option.bind_some]
  refine Ev.bind (s_l15Bytes.ev x h6) ?_
  have hq := hfN_or e
  have hl : (([sb0 x, sb1 x] : List ByteArray).length : Int) = 2 := rfl
  rw [hl]
  have w1 : IntKind.i64.wrap ((0 : Int) + 1) = 1 := by decide
  have w2 : IntKind.i64.wrap ((1 : Int) + 1) = 2 := by decide
  have w3 : IntKind.i64.wrap ((hfN e : Int) + 0) = (hfN e : Int) := by rw [wrap_eq (by omega) (by omega)]; omega
  have w4 : IntKind.i64.wrap ((hfN e : Int) + 1) = ((hfN e + 1 : Nat) : Int) := by rw [wrap_eq (by omega) (by omega)]; omega
  have s0 := sb0_size h6
  have s1 := sb1_size h6
  refine Ev2.diag (g := fun k m => s_l15Put.l0 k m e (hfN e : Int) 2 0 p h b [sb0 x, sb1 x]) ?_
  refine .step ?_ fun k m => s_l15Put.l0_s k m _ _ _ _ _ _ _ _
  simp only [cnT (show (0 : Int) < 2 by decide), show inb (0 : Int) [sb0 x, sb1 x].length = true from rfl, gd_t, show getAt ByteArray.empty [sb0 x, sb1 x] (0 : Int).toNat = sb0 x from rfl, w3, w1]
  refine .bind (s_l15Write.ev p h b 3 (hfN e) e (sb0 x) (by omega) (by omega) (by omega) (by omega) (hbad _)) ?_
  refine .step ?_ fun k m => s_l15Put.l0_s k m _ _ _ _ _ _ _ _
  simp only [cnT (show (1 : Int) < 2 by decide), show inb (1 : Int) [sb0 x, sb1 x].length = true from rfl, gd_t, show getAt ByteArray.empty [sb0 x, sb1 x] (1 : Int).toNat = sb1 x from rfl, w4, w2]
  refine .bind (s_l15Write.ev p _ b 3 (hfN e + 1) e (sb1 x) (by omega) (by omega) (by simp; omega) (by omega) (hbad _)) ?_
  refine .step ?_ fun k m => s_l15Put.l0_s k m _ _ _ _ _ _ _ _
  simp only [cnF (show ¬ (2 : Int) < 2 by decide)]
  exact .const fun _ _ => rfl
theorem s_l15Sync.ev (p h : List ByteArray) (b : List Bool) (e ph : Int) (x y : List Int) (hp : p.length ≤ 1048576) (hh : h.length = p.length) (e0 : 0 ≤ e) (e1 : e ≤ 60000) : Ev (fun k => s_l15Sync.f k p h b e ph x y) (if ph = 1 then (crashP p h (heldL h), noText p.length, b, e, 2, x, y) else if ph = 3 then (crashP p h (heldL h), noText p.length, b, e + 1, 0, y, []) else (crashP p h (heldL h), noText p.length, b, e, ph, x, y)) := by
  have hl : (heldL h).length < 9223372036854775807 := by have := heldFrom_len h 0; unfold heldL; omega
  have w1 : IntKind.i64.wrap (e + 1) = e + 1 := wrap_eq (by omega) (by omega)
  refine Ev.congr ?_ fun k => s_l15Sync.f_eq k p h b e ph x y
  refine Ev.bind (s_l7Held.ev p h b (by omega)) ?_
  refine Ev.bind (s_l7Crash.ev p h b (heldL h) (by omega) hh hl) ?_
  by_cases p1 : ph = 1
  · simp only [cnT p1, if_pos p1]
    exact .const fun _ => rfl
  simp only [cnF p1, if_neg p1]
  by_cases p3 : ph = 3
  · simp only [cnT p3, if_pos p3, w1]
    exact .const fun _ => rfl
  · simp only [cnF p3, if_neg p3]
    exact .const fun _ => rfl
theorem s_l15Step.ev (p h : List ByteArray) (b : List Bool) (e ph : Int) (x y : List Int) (kind : Int) (vals kept : List Int) (g : goodD p h b = true) (hp : p.length = 5) (hbad : ∀ j, getAt false b j = false) (e0 : 0 ≤ e) (e1 : e ≤ 60000) (hv : vals.length ≤ 1048576) (hk : kept.length ≤ 1048576) :
    ∃ z : JT, Ev (fun k => s_l15Step.f k p h b e ph x y kind vals kept) (match stepF p h b e ph x y kind vals kept with | none => (z, false) | some j => (j, true)) := by
  obtain ⟨g1, g2, g3, g4⟩ := goodD_len g
  have eq := fun k => s_l15Step.f_eq k p h b e ph x y kind vals kept
  have w1 : IntKind.i64.wrap (e + 1) = e + 1 := wrap_eq (by omega) (by omega)
  have lc : ∀ kp, (crashP p h kp).length = 5 := fun kp => by rw [crashP_len]; exact hp
  have no : stepF p h b e ph x y kind vals kept = none → Ev (fun k => s_l15Step.f k p h b e ph x y kind vals kept) ((p, h, b, e, ph, x, y), false) → ∃ z : JT, Ev (fun k => s_l15Step.f k p h b e ph x y kind vals kept) (match stepF p h b e ph x y kind vals kept with | none => (z, false) | some j => (j, true)) :=
    fun h1 h2 => ⟨_, by rw [h1]; exact h2⟩
  by_cases hb : kind ≠ 1 ∧ vals ≠ [] ∨ kind ≠ 4 ∧ kept ≠ []
  · refine no (by unfold stepF; rw [if_pos hb]) (Ev.congr ?_ eq)
    rcases hb with ⟨h1, h2⟩ | ⟨h1, h2⟩
    · simp only [cnNF h1, cnT ((pos_iff _).2 h2)]
      exact .const fun _ => rfl
    · by_cases k1 : kind = 1
      · simp only [cnNT k1, cnNF h1, cnT ((pos_iff _).2 h2)]
        exact .const fun _ => rfl
      · simp only [cnNF k1]
        by_cases v0 : vals = []
        · simp only [cnF (fun h => (pos_iff _).1 h v0), cnNF h1, cnT ((pos_iff _).2 h2)]
          exact .const fun _ => rfl
        · simp only [cnT ((pos_iff _).2 v0)]
          exact .const fun _ => rfl
  have hgood : ∀ {a b : Prop}, ¬ (a ∨ b) → ¬ a ∧ ¬ b := fun h => ⟨fun x => h (.inl x), fun x => h (.inr x)⟩
  obtain ⟨n1, n2⟩ := hgood hb
  have v0 : kind ≠ 1 → ¬ ((0 : Int) < (vals.length : Int)) := fun h h' => n1 ⟨h, (pos_iff _).1 h'⟩
  have k0 : kind ≠ 4 → ¬ ((0 : Int) < (kept.length : Int)) := fun h h' => n2 ⟨h, (pos_iff _).1 h'⟩
  by_cases c1 : kind = 1
  · subst c1
    by_cases p0 : ph = 0 ∧ e < 60000 ∧ isSt vals = true
    · obtain ⟨q0, e2, hs⟩ := p0
      have h6 := isSt_len hs
      refine ⟨noJ, ?_⟩
      simp only [stepF, if_neg hb, if_pos (show ph = 0 ∧ e < 60000 ∧ isSt vals = true from ⟨q0, e2, hs⟩), if_true]
      refine Ev.congr ?_ eq
      simp only [cnNT rfl, cnNF (show ¬ (1 : Int) = 4 by decide), cnF (k0 (by decide)), cnT rfl, cnT q0, cnT e2]
      refine Ev.bind (s_l15State.ev vals (by omega)) ?_
      simp only [hs, cn_t, w1]
      refine Ev.bind (s_l15Put.ev p h b (by omega) h6 hp (by omega) (by omega) hbad) ?_
      simp only [appOk_le bytes_int (show 0 + vals.length ≤ 1073741824 by omega), gd_t, List.nil_append]
      exact .const fun _ => rfl
    · refine no (by unfold stepF; rw [if_neg hb, if_pos rfl, if_neg p0]) (Ev.congr ?_ eq)
      simp only [cnNT rfl, cnNF (show ¬ (1 : Int) = 4 by decide), cnF (k0 (by decide)), cnT rfl, cnF (show ¬ (1 : Int) = 2 by decide), cnF (show ¬ (1 : Int) = 3 by decide), cnF (show ¬ (1 : Int) = 4 by decide)]
      by_cases q0 : ph = 0
      · simp only [cnT q0]
        by_cases e2 : e < 60000
        · simp only [cnT e2]
          refine Ev.bind (s_l15State.ev vals (by omega)) ?_
          cases hs : isSt vals with
          | true => exact absurd ⟨q0, e2, hs⟩ p0
          | false => exact .const fun _ => rfl
        · simp only [cnF e2]
          exact .const fun _ => rfl
      · simp only [cnF q0]
        exact .const fun _ => rfl
  by_cases c4 : kind = 4
  · subst c4
    have ee : Ev (fun k => s_l15Step.f k p h b e ph x y 4 vals kept) (if keptOk h kept = true then ((crashP p h kept, noText p.length, b, (if (recD (crashP p h kept) (noText p.length) b).2.2 = true then ((recD (crashP p h kept) (noText p.length) b).1, (recD (crashP p h kept) (noText p.length) b).2.1) else ([], -1)).2, 0, (if (recD (crashP p h kept) (noText p.length) b).2.2 = true then ((recD (crashP p h kept) (noText p.length) b).1, (recD (crashP p h kept) (noText p.length) b).2.1) else ([], -1)).1, []), decide ((0 : Int) ≤ (if (recD (crashP p h kept) (noText p.length) b).2.2 = true then ((recD (crashP p h kept) (noText p.length) b).1, (recD (crashP p h kept) (noText p.length) b).2.1) else ([], -1)).2)) else ((p, h, b, e, ph, x, y), false)) := by
      refine Ev.congr ?_ eq
      simp only [cnNF c1, cnF (v0 c1), cnNT rfl, cnF c1, cnF (show ¬ (4 : Int) = 2 by decide), cnF (show ¬ (4 : Int) = 3 by decide), cnT rfl]
      refine Ev.bind (s_l7Kept.ev p h b kept (by omega) (by omega)) ?_
      cases hko : keptOk h kept with
      | false => exact .const fun _ => rfl
      | true =>
        simp only [cn_t, if_true]
        refine Ev.bind (s_l7Crash.ev p h b kept (by omega) g3 (by omega)) ?_
        refine Ev.bind (recD_l (goodD_crash g kept) (lc kept)) ?_
        exact .const fun _ => rfl
    by_cases hko : keptOk h kept = true
    · rw [if_pos hko] at ee
      have hsp := (recD_spec (goodD_crash g kept) (lc kept)).2.2.2.1
      cases hr : (recD (crashP p h kept) (noText p.length) b).2.2 with
      | true =>
        obtain ⟨r0, _⟩ := hsp hr
        refine ⟨noJ, ?_⟩
        have : stepF p h b e ph x y 4 vals kept = some (crashP p h kept, noText p.length, b, (recD (crashP p h kept) (noText p.length) b).2.1, 0, (recD (crashP p h kept) (noText p.length) b).1, []) := by
          unfold stepF
          rw [if_neg hb, if_neg (by decide), if_neg (by decide), if_neg (by decide), if_pos rfl, if_pos ⟨hko, hr⟩]
        rw [this]
        simp only [hr, if_true, decide_eq_true r0] at ee
        exact ee
      | false =>
        have : stepF p h b e ph x y 4 vals kept = none := by
          unfold stepF
          rw [if_neg hb, if_neg (by decide), if_neg (by decide), if_neg (by decide), if_pos rfl, if_neg (fun h => by rw [hr] at h; cases h.2)]
        rw [this]
        simp only [hr, Bool.false_eq_true, if_false, show decide ((0 : Int) ≤ -1) = false from rfl] at ee
        exact ⟨_, ee⟩
    · rw [if_neg hko] at ee
      exact no (by unfold stepF; rw [if_neg hb, if_neg (by decide), if_neg (by decide), if_neg (by decide), if_pos rfl, if_neg (fun h => hko h.1)]) ee
  have pre : ∀ k, s_l15Step.f k p h b e ph x y kind vals kept = cn (decide (kind = 2)) ((s_l15Sync.f k p h b e ph x y).bind fun d => some (d, true)) (cn (decide (kind = 3)) (cn (decide (ph = 2)) ((s_l15Write.f k p h b 4 0 (e + 1) ByteArray.empty).bind fun d => some ((d.2.1, d.2.2.1, d.2.2.2, e, 3, x, y), true)) (some ((p, h, b, e, ph, x, y), false))) (some ((p, h, b, e, ph, x, y), false))) := fun k => by
    rw [eq k]
    simp only [cnNF c1, cnF (v0 c1), cnNF c4, cnF (k0 c4), cnF c1, cnF c4, w1]
  by_cases c2 : kind = 2
  · have se := s_l15Sync.ev p h b e ph x y (by omega) g3 e0 e1
    have ee : Ev (fun k => s_l15Step.f k p h b e ph x y kind vals kept) (_, true) := Ev.congr (by simp only [cnT c2]; exact Ev.bind se (.const fun _ => rfl)) pre
    refine ⟨noJ, ?_⟩
    have : stepF p h b e ph x y kind vals kept = some (if ph = 1 then (crashP p h (heldL h), noText p.length, b, e, 2, x, y) else if ph = 3 then (crashP p h (heldL h), noText p.length, b, e + 1, 0, y, []) else (crashP p h (heldL h), noText p.length, b, e, ph, x, y)) := by
      unfold stepF
      rw [if_neg hb, if_neg c1, if_pos c2]
      split
      · rfl
      · split <;> rfl
    rw [this]
    exact ee
  by_cases c3 : kind = 3
  · by_cases p2 : ph = 2
    · have ee : Ev (fun k => s_l15Step.f k p h b e ph x y kind vals kept) ((p, h.set 0 (root (e + 1)), b, e, 3, x, y), true) := Ev.congr (by
        simp only [cnF c2, cnT c3, cnT p2]
        exact Ev.bind (s_l15Write.ev p h b 4 0 (e + 1) ByteArray.empty (by decide) (by omega) g3 (by omega) (hbad _)) (.const fun _ => rfl)) pre
      refine ⟨noJ, ?_⟩
      have : stepF p h b e ph x y kind vals kept = some (p, h.set 0 (root (e + 1)), b, e, 3, x, y) := by
        unfold stepF
        rw [if_neg hb, if_neg c1, if_neg c2, if_pos c3, if_pos p2]
      rw [this]
      exact ee
    · refine no (by unfold stepF; rw [if_neg hb, if_neg c1, if_neg c2, if_pos c3, if_neg p2]) (Ev.congr ?_ pre)
      simp only [cnF c2, cnT c3, cnF p2]
      exact .const fun _ => rfl
  refine no (by unfold stepF; rw [if_neg hb, if_neg c1, if_neg c2, if_neg c3, if_neg c4]) (Ev.congr ?_ pre)
  simp only [cnF c2, cnF c3]
  exact .const fun _ => rfl
/-! ### Journals that steps lead to -/
theorem getAt_set {A : Type} (d : A) (l : List A) (i : Nat) (v : A) (j : Nat) : getAt d (l.set i v) j = if i = j ∧ j < l.length then v else getAt d l j := by
  unfold getAt
  rw [List.getD_eq_getElem?_getD, List.getD_eq_getElem?_getD, List.getElem?_set]
  by_cases h : i = j
  · subst h
    by_cases hl : i < l.length
    · simp [hl]
    · simp [hl]
  · simp [h]
theorem sync_get {p h : List ByteArray} {i : Nat} (hi : i < p.length) (hh : h.length = p.length) : getAt ByteArray.empty (crashP p h (heldL h)) i = if getAt ByteArray.empty h i = ByteArray.empty then getAt ByteArray.empty p i else getAt ByteArray.empty h i := by
  rw [crashP_get hi]
  by_cases he : getAt ByteArray.empty h i = ByteArray.empty
  · rw [if_neg (fun hm => (heldL_mem.1 hm).2.2 (by simpa using he)), if_pos he]
  · rw [if_pos (heldL_mem.2 ⟨by omega, by omega, by simpa using he⟩), if_neg he]
theorem keptOk_sub {h : List ByteArray} {kept : List Int} (hk : keptOk h kept = true) : ∀ v ∈ kept, v ∈ heldL h := by
  have : ∀ (l : List Int) (u : Option Int), rs (fun v => decide (v ∈ heldL h)) u l = true → ∀ v ∈ l, v ∈ heldL h := by
    intro l
    induction l with
    | nil => intro u _ v hv; cases hv
    | cons w l ih =>
      intro u hu v hv
      simp only [rs, Bool.and_eq_true] at hu
      rcases List.mem_cons.1 hv with rfl | hv
      · exact of_decide_eq_true hu.1.1
      · exact ih _ hu.2 v hv
  exact this kept none hk
theorem crash_keep {p h : List ByteArray} {kept : List Int} {i : Nat} (hi : i < p.length) (hk : keptOk h kept = true) (he : getAt ByteArray.empty h i = ByteArray.empty) : getAt ByteArray.empty (crashP p h kept) i = getAt ByteArray.empty p i := by
  rw [crashP_get hi, if_neg]
  intro hm
  exact (heldL_mem.1 (keptOk_sub hk _ hm)).2.2 (by simpa using he)
noncomputable def putH (e : Int) (y : List Int) : List ByteArray := ((noText 5).set (hfN (e + 1)) (fr1 (e + 1) y)).set (hfN (e + 1) + 1) (fr2 (e + 1) y)
noncomputable def rootH (e : Int) : List ByteArray := (noText 5).set 0 (root (e + 1))
theorem fr1_size (e : Int) {x : List Int} (h : isSt x = true) : (fr1 e x).size = 28 := frameT_size _ _ _ _ (by rw [sb0_size (isSt_len h)]; omega)
theorem fr2_size (e : Int) {x : List Int} (h : isSt x = true) : (fr2 e x).size = 28 := frameT_size _ _ _ _ (by rw [sb1_size (isSt_len h)]; omega)
theorem root_size (e : Int) : (root e).size = 28 := frameT_size _ _ _ _ (by decide)
theorem putH_get (e : Int) (y : List Int) (i : Nat) : getAt ByteArray.empty (putH e y) i = if i = hfN (e + 1) then fr1 (e + 1) y else if i = hfN (e + 1) + 1 then fr2 (e + 1) y else ByteArray.empty := by
  have hq := hfN_or (e + 1)
  unfold putH
  rw [getAt_set, getAt_set, getAt_replicate]
  simp only [List.length_set, List.length_replicate]
  by_cases h1 : i = hfN (e + 1)
  · rw [if_neg (by omega), if_pos (by omega), if_pos h1]
  · rw [if_neg h1]
    by_cases h2 : i = hfN (e + 1) + 1
    · rw [if_pos (by omega), if_pos h2]
    · rw [if_neg (by omega), if_neg (by omega), if_neg h2]
theorem rootH_get (e : Int) (i : Nat) : getAt ByteArray.empty (rootH e) i = if i = 0 then root (e + 1) else ByteArray.empty := by
  unfold rootH
  rw [getAt_set, getAt_replicate]
  simp only [List.length_replicate]
  by_cases h1 : i = 0
  · rw [if_pos (by omega), if_pos h1]
  · rw [if_neg (by omega), if_neg h1]
/-- A plate's root and half are a state's. -/
structure Tells (p : List ByteArray) (e : Int) (x : List Int) : Prop where
  r0 : getAt ByteArray.empty p 0 = root e
  r1 : getAt ByteArray.empty p (hfN e) = fr1 e x
  r2 : getAt ByteArray.empty p (hfN e + 1) = fr2 e x
/-- The half of the epoch that comes is written. -/
structure Comes (p : List ByteArray) (e : Int) (y : List Int) : Prop where
  r1 : getAt ByteArray.empty p (hfN (e + 1)) = fr1 (e + 1) y
  r2 : getAt ByteArray.empty p (hfN (e + 1) + 1) = fr2 (e + 1) y
structure InvJ (n : Int) (p h : List ByteArray) (b : List Bool) (e ph : Int) (x y : List Int) : Prop where
  lp : p.length = 5
  hb : b = List.replicate 5 false
  sz : ∀ i, i < 5 → (getAt ByteArray.empty p i).size ≤ 28
  e0 : 0 ≤ e
  e1 : e ≤ n
  st : isSt x = true
  tl : Tells p e x
  cs : ph = 0 ∧ y = [] ∧ h = noText 5 ∨ ph = 1 ∧ isSt y = true ∧ h = putH e y ∨ ph = 2 ∧ isSt y = true ∧ h = noText 5 ∧ Comes p e y ∨ ph = 3 ∧ isSt y = true ∧ h = rootH e ∧ Comes p e y
theorem bad5 (j : Nat) : getAt false (List.replicate 5 false) j = false := getAt_replicate _ _ _
section
variable {n : Int} {p h : List ByteArray} {b : List Bool} {e ph : Int} {x y : List Int}
theorem InvJ.good0 (I : InvJ n p h b e ph x y) : goodD p (noText 5) b = true := by
  refine goodD_iff.2 ⟨⟨by rw [I.lp]; omega, by rw [I.lp]; omega, by rw [I.lp]; simp, by rw [I.hb, I.lp]; simp⟩, fun i hi => ⟨I.sz i (by rw [← I.lp]; exact hi), by rw [getAt_replicate]; decide, fun _ => getAt_replicate _ _ _⟩⟩
theorem InvJ.held (I : InvJ n p h b e ph x y) : h.length = 5 ∧ ∀ i, (getAt ByteArray.empty h i).size ≤ 28 := by
  rcases I.cs with ⟨_, _, rfl⟩ | ⟨_, hy, rfl⟩ | ⟨_, hy, rfl, _⟩ | ⟨_, hy, rfl, _⟩
  · exact ⟨by simp, fun i => by rw [getAt_replicate]; decide⟩
  · refine ⟨by simp [putH], fun i => ?_⟩
    rw [putH_get]
    split
    · rw [fr1_size _ hy]; omega
    · split
      · rw [fr2_size _ hy]; omega
      · decide
  · exact ⟨by simp, fun i => by rw [getAt_replicate]; decide⟩
  · refine ⟨by simp [rootH], fun i => ?_⟩
    rw [rootH_get]
    split
    · rw [root_size]; omega
    · decide
theorem InvJ.good (I : InvJ n p h b e ph x y) : goodD p h b = true := by
  obtain ⟨h1, h2⟩ := I.held
  refine goodD_iff.2 ⟨⟨by rw [I.lp]; omega, by rw [I.lp]; omega, by rw [I.lp]; exact h1, by rw [I.hb, I.lp]; simp⟩, fun i hi => ⟨I.sz i (by rw [← I.lp]; exact hi), h2 i, fun hb => ?_⟩⟩
  rw [I.hb, bad5] at hb; cases hb
theorem tells_rec {p : List ByteArray} {b : List Bool} {e : Int} {x : List Int} (lp : p.length = 5) (hb : b = List.replicate 5 false) (sz : ∀ i, i < 5 → (getAt ByteArray.empty p i).size ≤ 28) (e0 : 0 ≤ e) (e1 : e ≤ 60000) (st : isSt x = true) (t : Tells p e x) : recD p (noText 5) b = (x, e, true) := by
  subst hb
  exact tell_back (goodD_iff.2 ⟨⟨by omega, by omega, by rw [lp]; simp, by rw [lp]; simp⟩, fun i hi => ⟨sz i (by omega), by rw [getAt_replicate]; decide, fun _ => getAt_replicate _ _ _⟩⟩) lp bad5 e0 e1 st t.r0 t.r1 t.r2
theorem InvJ.tell (I : InvJ n p h b e ph x y) (hn : n ≤ 60000) : recD p (noText 5) b = (x, e, true) := tells_rec I.lp I.hb I.sz I.e0 (by have := I.e1; omega) I.st I.tl
theorem InvJ.isGood (I : InvJ n p h b e ph x y) (hn : n ≤ 60000) : goodJ p h b e ph x y = true := by
  unfold goodJ
  have hbad : (b.any fun v => true == v) = false := by rw [I.hb]; rfl
  have hr := I.tell hn
  have hcs : 0 ≤ ph ∧ ph ≤ 3 ∧ (if ph = 0 then decide (y.length = 0) else isSt y) = true := by
    rcases I.cs with ⟨rfl, rfl, _⟩ | ⟨rfl, hy, _⟩ | ⟨rfl, hy, _⟩ | ⟨rfl, hy, _⟩
    · exact ⟨by omega, by omega, rfl⟩
    · exact ⟨by omega, by omega, by rw [if_neg (by decide)]; exact hy⟩
    · exact ⟨by omega, by omega, by rw [if_neg (by decide)]; exact hy⟩
    · exact ⟨by omega, by omega, by rw [if_neg (by decide)]; exact hy⟩
  rw [I.good, hbad, decide_eq_true I.lp, decide_eq_true (⟨hcs.1, hcs.2.1⟩ : 0 ≤ ph ∧ ph ≤ 3), I.st, hcs.2.2, I.lp, hr]
  simp
/-- A step that is done leads on. -/
theorem InvJ.step (I : InvJ n p h b e ph x y) (hn : n < 60000) {kind : Int} {vals kept : List Int} {j : JT} (hs : stepF p h b e ph x y kind vals kept = some j) : InvJ (n + 1) j.1 j.2.1 j.2.2.1 j.2.2.2.1 j.2.2.2.2.1 j.2.2.2.2.2.1 j.2.2.2.2.2.2 := by
  obtain ⟨hl, hz⟩ := I.held
  have lp := I.lp
  have he := I.e1
  have h0 := I.e0
  have hq := hfN_or e
  have hq1 := hfN_succ e
  unfold stepF at hs
  split at hs
  · cases hs
  split at hs
  · -- put
    split at hs
    · rename_i h1
      cases hs
      dsimp only
      obtain ⟨p0, e2, hv⟩ := h1
      rcases I.cs with ⟨_, _, hh⟩ | ⟨h2, _⟩ | ⟨h2, _⟩ | ⟨h2, _⟩
      · exact ⟨lp, I.hb, I.sz, h0, by omega, I.st, I.tl, .inr (.inl ⟨rfl, hv, by rw [hh]; rfl⟩)⟩
      · omega
      · omega
      · omega
    · cases hs
  split at hs
  · -- sync
    have sg : ∀ i, i < 5 → getAt ByteArray.empty (crashP p h (heldL h)) i = if getAt ByteArray.empty h i = ByteArray.empty then getAt ByteArray.empty p i else getAt ByteArray.empty h i := fun i hi => sync_get (by omega) (by omega)
    have sz : ∀ i, i < 5 → (getAt ByteArray.empty (crashP p h (heldL h)) i).size ≤ 28 := fun i hi => by
      rw [sg i hi]
      split
      · exact I.sz i hi
      · exact hz i
    have lc : (crashP p h (heldL h)).length = 5 := by rw [crashP_len]; exact lp
    have ne1 : ∀ {t : ByteArray}, t.size = 28 → t ≠ ByteArray.empty := fun ht e => by rw [e] at ht; cases ht
    rw [lp] at hs
    rcases I.cs with ⟨p0, hy, hh⟩ | ⟨p1, hy, hh⟩ | ⟨p2, hy, hh, hc⟩ | ⟨p3, hy, hh, hc⟩
    · rw [if_neg (by omega), if_neg (by omega)] at hs
      cases hs
      dsimp only
      have sg0 : ∀ i, i < 5 → getAt ByteArray.empty (crashP p h (heldL h)) i = getAt ByteArray.empty p i := fun i hi => by rw [sg i hi, hh, getAt_replicate, if_pos rfl]
      exact ⟨lc, I.hb, sz, h0, by omega, I.st, ⟨by rw [sg0 0 (by omega)]; exact I.tl.r0, by rw [sg0 _ (by omega)]; exact I.tl.r1, by rw [sg0 _ (by omega)]; exact I.tl.r2⟩, .inl ⟨p0, hy, rfl⟩⟩
    · rw [if_pos p1] at hs
      cases hs
      dsimp only
      have sg1 : ∀ i, i < 5 → i ≠ hfN (e + 1) → i ≠ hfN (e + 1) + 1 → getAt ByteArray.empty (crashP p h (heldL h)) i = getAt ByteArray.empty p i := fun i hi a c => by rw [sg i hi, hh, putH_get, if_neg a, if_neg c, if_pos rfl]
      refine ⟨lc, I.hb, sz, h0, by omega, I.st, ⟨by rw [sg1 0 (by omega) (by omega) (by omega)]; exact I.tl.r0, by rw [sg1 _ (by omega) (by omega) (by omega)]; exact I.tl.r1, by rw [sg1 _ (by omega) (by omega) (by omega)]; exact I.tl.r2⟩, .inr (.inr (.inl ⟨rfl, hy, rfl, ?_, ?_⟩))⟩
      · rw [sg _ (by omega), hh, putH_get, if_pos rfl, if_neg (ne1 (fr1_size _ hy))]
      · have := putH_get e y (hfN (e + 1) + 1)
        rw [if_neg (by omega), if_pos rfl] at this
        rw [sg _ (by omega), hh, this, if_neg (ne1 (fr2_size _ hy))]
    · rw [if_neg (by omega), if_neg (by omega)] at hs
      cases hs
      dsimp only
      have sg0 : ∀ i, i < 5 → getAt ByteArray.empty (crashP p h (heldL h)) i = getAt ByteArray.empty p i := fun i hi => by rw [sg i hi, hh, getAt_replicate, if_pos rfl]
      exact ⟨lc, I.hb, sz, h0, by omega, I.st, ⟨by rw [sg0 0 (by omega)]; exact I.tl.r0, by rw [sg0 _ (by omega)]; exact I.tl.r1, by rw [sg0 _ (by omega)]; exact I.tl.r2⟩, .inr (.inr (.inl ⟨p2, hy, rfl, by rw [sg0 _ (by omega)]; exact hc.r1, by rw [sg0 _ (by omega)]; exact hc.r2⟩))⟩
    · rw [if_neg (by omega), if_pos p3] at hs
      cases hs
      dsimp only
      have sg1 : ∀ i, i < 5 → i ≠ 0 → getAt ByteArray.empty (crashP p h (heldL h)) i = getAt ByteArray.empty p i := fun i hi a => by rw [sg i hi, hh, rootH_get, if_neg a, if_pos rfl]
      refine ⟨lc, I.hb, sz, by show 0 ≤ e + 1; omega, by show e + 1 ≤ n + 1; omega, hy, ⟨?_, by rw [sg1 _ (by omega) (by omega)]; exact hc.r1, by rw [sg1 _ (by omega) (by omega)]; exact hc.r2⟩, .inl ⟨rfl, rfl, rfl⟩⟩
      rw [sg 0 (by omega), hh, rootH_get, if_pos rfl, if_neg (ne1 (root_size _))]
  split at hs
  · -- root
    split at hs
    · rename_i p2'
      cases hs
      dsimp only
      rcases I.cs with ⟨h2, _⟩ | ⟨h2, _⟩ | ⟨_, hy, hh, hc⟩ | ⟨h2, _⟩
      · omega
      · omega
      · exact ⟨lp, I.hb, I.sz, h0, by omega, I.st, I.tl, .inr (.inr (.inr ⟨rfl, hy, by rw [hh]; rfl, hc⟩))⟩
      · omega
    · cases hs
  split at hs
  · -- crash
    split at hs
    · rename_i hk
      obtain ⟨hk, hr⟩ := hk
      cases hs
      dsimp only
      rw [lp] at hr ⊢
      have lc : (crashP p h kept).length = 5 := by rw [crashP_len]; exact lp
      have sz : ∀ i, i < 5 → (getAt ByteArray.empty (crashP p h kept) i).size ≤ 28 := fun i hi => by
        rw [crashP_get (by omega)]
        split
        · exact hz i
        · exact I.sz i hi
      have keep : ∀ i, i < 5 → getAt ByteArray.empty h i = ByteArray.empty → getAt ByteArray.empty (crashP p h kept) i = getAt ByteArray.empty p i := fun i hi hh => crash_keep (by omega) hk hh
      have old : getAt ByteArray.empty h 0 = ByteArray.empty → getAt ByteArray.empty h (hfN e) = ByteArray.empty → getAt ByteArray.empty h (hfN e + 1) = ByteArray.empty → InvJ (n + 1) (crashP p h kept) (noText 5) b (recD (crashP p h kept) (noText 5) b).2.1 0 (recD (crashP p h kept) (noText 5) b).1 [] := fun a1 a2 a3 => by
        have t : Tells (crashP p h kept) e x := ⟨by rw [keep 0 (by omega) a1]; exact I.tl.r0, by rw [keep _ (by omega) a2]; exact I.tl.r1, by rw [keep _ (by omega) a3]; exact I.tl.r2⟩
        rw [tells_rec lc I.hb sz h0 (by omega) I.st t]
        exact ⟨lc, I.hb, sz, h0, by show e ≤ n + 1; omega, I.st, t, .inl ⟨rfl, rfl, rfl⟩⟩
      rcases I.cs with ⟨_, _, hh⟩ | ⟨_, hy, hh⟩ | ⟨_, hy, hh, hc⟩ | ⟨_, hy, hh, hc⟩
      · exact old (by rw [hh, getAt_replicate]) (by rw [hh, getAt_replicate]) (by rw [hh, getAt_replicate])
      · exact old (by rw [hh, putH_get, if_neg (by omega), if_neg (by omega)]) (by rw [hh, putH_get, if_neg (by omega), if_neg (by omega)]) (by rw [hh, putH_get, if_neg (by omega), if_neg (by omega)])
      · exact old (by rw [hh, getAt_replicate]) (by rw [hh, getAt_replicate]) (by rw [hh, getAt_replicate])
      · have a2 : getAt ByteArray.empty h (hfN e) = ByteArray.empty := by rw [hh, rootH_get, if_neg (by omega)]
        have a3 : getAt ByteArray.empty h (hfN e + 1) = ByteArray.empty := by rw [hh, rootH_get, if_neg (by omega)]
        have a4 : getAt ByteArray.empty h (hfN (e + 1)) = ByteArray.empty := by rw [hh, rootH_get, if_neg (by omega)]
        have a5 : getAt ByteArray.empty h (hfN (e + 1) + 1) = ByteArray.empty := by rw [hh, rootH_get, if_neg (by omega)]
        by_cases hm : (0 : Int) ∈ kept
        · have t : Tells (crashP p h kept) (e + 1) y := ⟨by rw [crashP_get (by omega), if_pos (by simpa using hm), hh, rootH_get, if_pos rfl], by rw [keep _ (by omega) a4]; exact hc.r1, by rw [keep _ (by omega) a5]; exact hc.r2⟩
          rw [tells_rec lc I.hb sz (by omega) (by omega) hy t]
          exact ⟨lc, I.hb, sz, by show 0 ≤ e + 1; omega, by show e + 1 ≤ n + 1; omega, hy, t, .inl ⟨rfl, rfl, rfl⟩⟩
        · have t : Tells (crashP p h kept) e x := ⟨by rw [crashP_get (by omega), if_neg (by simpa using hm)]; exact I.tl.r0, by rw [keep _ (by omega) a2]; exact I.tl.r1, by rw [keep _ (by omega) a3]; exact I.tl.r2⟩
          rw [tells_rec lc I.hb sz h0 (by omega) I.st t]
          exact ⟨lc, I.hb, sz, h0, by show e ≤ n + 1; omega, I.st, t, .inl ⟨rfl, rfl, rfl⟩⟩
    · cases hs
  · cases hs
end
/-! ### The new journal, and what is played -/
theorem i_NewDisk.five (k : Nat) : i_NewDisk.f k 5 = some ((noText 5, noText 5, List.replicate 5 false), true) := by
  have m1 : mkOk (5 : Int) (5 : Int) (Try.prog.bytesOf (9 : Nat)) = true := by rw [show Try.prog.bytesOf (9 : Nat) = 16 by kernel_rfl]; decide
  have m2 : mkOk (5 : Int) (5 : Int) (Try.prog.bytesOf (4 : Nat)) = true := by rw [show Try.prog.bytesOf (4 : Nat) = 1 by kernel_rfl]; decide
  rw [i_NewDisk.f_eq, i_within.eq, Option.bind_some, decide_eq_true (by decide : (1 : Int) ≤ 5 ∧ (5 : Int) ≤ 24)]
  simp only [Bool.not_true, cn_f, m1, m2, gd_t, both_self, dup_eq]
  rfl
theorem s_NewDisk.five (k : Nat) : s_NewDisk.f k 5 = some ((noText 5, noText 5, List.replicate 5 false), true) := by
  have m1 : mkOk (5 : Int) (5 : Int) (Try.prog.bytesOf (9 : Nat)) = true := by rw [show Try.prog.bytesOf (9 : Nat) = 16 by kernel_rfl]; decide
  have m2 : mkOk (5 : Int) (5 : Int) (Try.prog.bytesOf (4 : Nat)) = true := by rw [show Try.prog.bytesOf (4 : Nat) = 1 by kernel_rfl]; decide
  rw [s_NewDisk.f_eq, s_l1In.eq, Option.bind_some, decide_eq_true (by decide : (1 : Int) ≤ 5 ∧ (5 : Int) ≤ 24)]
  simp only [Bool.not_true, cn_f, m1, m2, gd_t, both_self, dup_eq]
  rfl
abbrev z6 : List Int := List.replicate 6 0
noncomputable abbrev newP : List ByteArray := [root 0, fr1 0 z6, fr2 0 z6, ByteArray.empty, ByteArray.empty]
theorem z6_st : isSt z6 = true := by decide
theorem i_NewJournal.ev : Ev (fun k => i_NewJournal.f k) (newP, noText 5, List.replicate 5 false, 0, 0, z6, []) := by
  refine Ev.congr ?_ fun k => i_NewJournal.f_eq k
  simp only [i_NewDisk.five, Option.bind_some]
  refine Ev.bind (i_sectorsOf.ev (e := 0) (by omega) (by decide)) ?_
  refine Ev.bind (i_rootOf.ev 0) ?_
  exact .const fun _ => rfl
theorem newJ_inv : InvJ 0 newP (noText 5) (List.replicate 5 false) 0 0 z6 [] := by
  refine ⟨rfl, rfl, fun i hi => ?_, by omega, by omega, z6_st, ⟨rfl, rfl, rfl⟩, .inl ⟨rfl, rfl, rfl⟩⟩
  rcases i with _ | _ | _ | _ | _ | _
  · show (root 0).size ≤ 28; rw [root_size]; omega
  · show (fr1 0 z6).size ≤ 28; rw [fr1_size _ z6_st]; omega
  · show (fr2 0 z6).size ≤ 28; rw [fr2_size _ z6_st]; omega
  · show ByteArray.empty.size ≤ 28; decide
  · show ByteArray.empty.size ≤ 28; decide
  · omega
theorem s_NewJournal.ev : Ev (fun k => s_NewJournal.f k) (newP, noText 5, List.replicate 5 false, 0, 0, z6, []) := by
  refine Ev.congr ?_ fun k => s_NewJournal.f_eq k
  simp only [s_NewDisk.five, Option.bind_some]
  refine Ev.bind (s_l15Put.ev (noText 5) (noText 5) (List.replicate 5 false) (e := 0) (by omega) (by decide) (by simp) (by simp) (by simp) bad5) ?_
  refine Ev.bind (s_l15Write.ev (noText 5) _ (List.replicate 5 false) 4 0 0 ByteArray.empty (by decide) (by simp) (by simp) (by simp) (bad5 _)) ?_
  generalize hH : (List.set ((List.set (noText 5) (hfN 0) (fr1 0 z6)).set (hfN 0 + 1) (fr2 0 z6)) 0 (frameT 4 ((0 : Nat) : Int) 0 ByteArray.empty)) = H
  have lH : H.length = 5 := by rw [← hH]; simp
  have eH : H = newP := by rw [← hH]; rfl
  refine Ev.bind (s_l7Held.ev (noText 5) H (List.replicate 5 false) (by omega)) ?_
  refine Ev.bind (s_l7Crash.ev (noText 5) H (List.replicate 5 false) (heldL H) (by simp) (by simp; omega) (by have := heldFrom_len H 0; unfold heldL; omega)) ?_
  have ec : crashP (noText 5) H (heldL H) = newP := by
    refine getAt_ext ByteArray.empty (by rw [crashP_len]; rfl) fun i hi => ?_
    rw [crashP_len] at hi
    rw [sync_get hi (by simp; omega), getAt_replicate, eH]
    split
    · rename_i h; exact h.symm
    · rfl
  rw [ec]
  exact .const fun _ => rfl
abbrev StepT : Type := Int × List Int × List Int
def stepsOk (l : List StepT) : Prop := ∀ x ∈ l, x.2.1.length ≤ 1048576 ∧ x.2.2.length ≤ 1048576
/-- What steps lead to, and which were done. -/
noncomputable def playF : List StepT → JT → List Bool → JT × List Bool
  | [], j, d => (j, d)
  | x :: l, j, d => match stepF j.1 j.2.1 j.2.2.1 j.2.2.2.1 j.2.2.2.2.1 j.2.2.2.2.2.1 j.2.2.2.2.2.2 x.1 x.2.1 x.2.2 with
    | none => playF l j (d ++ [false])
    | some j' => playF l j' (d ++ [true])
abbrev InvT (n : Int) (j : JT) : Prop := InvJ n j.1 j.2.1 j.2.2.1 j.2.2.2.1 j.2.2.2.2.1 j.2.2.2.2.2.1 j.2.2.2.2.2.2
theorem InvJ.mono {n n' : Int} {p h : List ByteArray} {b : List Bool} {e ph : Int} {x y : List Int} (I : InvJ n p h b e ph x y) (hn : n ≤ n') : InvJ n' p h b e ph x y :=
  ⟨I.lp, I.hb, I.sz, I.e0, Int.le_trans I.e1 hn, I.st, I.tl, I.cs⟩
theorem InvJ.lens {n : Int} {p h : List ByteArray} {b : List Bool} {e ph : Int} {x y : List Int} (I : InvJ n p h b e ph x y) : x.length = 6 ∧ y.length ≤ 6 := by
  refine ⟨isSt_len I.st, ?_⟩
  rcases I.cs with ⟨_, rfl, _⟩ | ⟨_, hy, _⟩ | ⟨_, hy, _⟩ | ⟨_, hy, _⟩
  · simp
  all_goals rw [isSt_len hy]; omega
theorem playF_inv : ∀ (l : List StepT) (n : Nat) (j : JT) (d : List Bool), InvT (n : Int) j → n + l.length ≤ 60000 → InvT ((n + l.length : Nat) : Int) (playF l j d).1 ∧ (playF l j d).2.length = d.length + l.length
  | [], n, j, d, I, _ => ⟨I, rfl⟩
  | x :: l, n, j, d, I, hn => by
    simp only [List.length_cons] at hn
    unfold playF
    split
    · obtain ⟨h1, h2⟩ := playF_inv l (n + 1) j (d ++ [false]) (I.mono (by omega)) (by omega)
      exact ⟨by rw [show n + (x :: l).length = n + 1 + l.length by simp; omega]; exact h1, by rw [h2]; simp; omega⟩
    · rename_i j' hj
      obtain ⟨h1, h2⟩ := playF_inv l (n + 1) j' (d ++ [true]) (by have := I.step (by omega) hj; exact_mod_cast this) (by omega)
      exact ⟨by rw [show n + (x :: l).length = n + 1 + l.length by simp; omega]; exact h1, by rw [h2]; simp; omega⟩
theorem i_PlayJournal.ev (l : List StepT) (hl : l.length ≤ 60) (hs : stepsOk l) : Ev (fun k => i_PlayJournal.f k l) ((playF l (newP, noText 5, List.replicate 5 false, 0, 0, z6, []) []).1, (playF l (newP, noText 5, List.replicate 5 false, 0, 0, z6, []) []).2, true) := by
  refine Ev.congr ?_ fun k => i_PlayJournal.f_eq k l
  simp only [cnF (show ¬ (60 : Int) < (l.length : Int) by omega)]
  refine Ev.bind i_NewJournal.ev ?_
  refine Ev2.diag (g := fun k m => i_PlayJournal.l0 k m l (l.length : Int) 0 0 0 newP (noText 5) (List.replicate 5 false) z6 [] 0 0 []) ?_
  have := Ev2.each l (0, [], []) (fun k m j (st : JT × List Bool) => i_PlayJournal.l0 k m l (l.length : Int) (j : Int) 0 0 st.1.1 st.1.2.1 st.1.2.2.1 st.1.2.2.2.2.2.1 st.1.2.2.2.2.2.2 st.1.2.2.2.1 st.1.2.2.2.2.1 st.2) (fun j st => InvT (j : Int) st.1 ∧ st.2.length = j) (fun l' j st => ((playF l' st.1 st.2).1, (playF l' st.1 st.2).2, true)) ?_ ?_ l.length 0 ((newP, noText 5, List.replicate 5 false, 0, 0, z6, []), []) (by simp) ⟨newJ_inv, rfl⟩
  · exact this
  · intro st _
    refine .step ?_ fun k m => i_PlayJournal.l0_s k m _ _ _ _ _ _ _ _ _ _ _ _ _
    simp (disch := omega) only [Int.toNat_natCast, decide_eq_true, decide_eq_false, Bool.not_true, Bool.not_false, Bool.true_and, Bool.false_and, Bool.and_true, Bool.and_false, cn_t, cn_f, gd_t, inb_nat, wrap_succ, Option.bind_some, both_self, dup_eq, playF]
    exact .const fun _ _ => rfl
  · intro j x l' st hd hj hx hi ih
    obtain ⟨I, hdl⟩ := hi
    have hm : x ∈ l := List.mem_of_mem_drop (by rw [hd]; exact List.mem_cons_self)
    obtain ⟨v1, v2⟩ := hs x hm
    obtain ⟨x6, y6⟩ := I.lens
    have e1 := I.e1
    refine .step ?_ fun k m => i_PlayJournal.l0_s k m _ _ _ _ _ _ _ _ _ _ _ _ _
    simp (disch := omega) only [Int.toNat_natCast, decide_eq_true, decide_eq_false, Bool.not_true, Bool.not_false, Bool.true_and, Bool.false_and, Bool.and_true, Bool.and_false, cn_t, cn_f, gd_t, inb_nat, wrap_succ, Option.bind_some, both_self, dup_eq, hx]
    refine .bind (i_journalStep.ev st.1.1 st.1.2.1 st.1.2.2.1 st.1.2.2.2.1 st.1.2.2.2.2.1 st.1.2.2.2.2.2.1 st.1.2.2.2.2.2.2 x.1 x.2.1 x.2.2 I.good I.lp I.e0 (by omega) (fun _ => by omega) (by omega) (by omega) v1 v2) ?_
    have ap : ∀ b : Bool, appOk (st.2.length + [b].length) (Try.prog.bytesOf (4 : Nat)) = true := fun b => appOk_le bytes_bool (by simp; omega)
    unfold playF
    cases hj' : stepF st.1.1 st.1.2.1 st.1.2.2.1 st.1.2.2.2.1 st.1.2.2.2.2.1 st.1.2.2.2.2.2.1 st.1.2.2.2.2.2.2 x.1 x.2.1 x.2.2 with
    | none =>
      simp only [cn_f, ap, gd_t]
      exact ih (st.1, st.2 ++ [false]) ⟨I.mono (by omega), by simp; omega⟩
    | some j' =>
      have I' := I.step (by omega) hj'
      simp only [I'.isGood (by omega), cn_t, ap, gd_t]
      exact ih (j', st.2 ++ [true]) ⟨by exact_mod_cast I', by simp; omega⟩
theorem s_PlayJournal.ev (l : List StepT) (hl : l.length ≤ 60) (hs : stepsOk l) : Ev (fun k => s_PlayJournal.f k l) ((playF l (newP, noText 5, List.replicate 5 false, 0, 0, z6, []) []).1, (playF l (newP, noText 5, List.replicate 5 false, 0, 0, z6, []) []).2, true) := by
  refine Ev.congr ?_ fun k => s_PlayJournal.f_eq k l
  simp only [cnF (show ¬ (60 : Int) < (l.length : Int) by omega)]
  refine Ev.bind s_NewJournal.ev ?_
  refine Ev2.diag (g := fun k m => s_PlayJournal.l0 k m l (l.length : Int) 0 0 0 newP (noText 5) (List.replicate 5 false) z6 [] 0 0 []) ?_
  have := Ev2.each l (0, [], []) (fun k m j (st : JT × List Bool) => s_PlayJournal.l0 k m l (l.length : Int) (j : Int) 0 0 st.1.1 st.1.2.1 st.1.2.2.1 st.1.2.2.2.2.2.1 st.1.2.2.2.2.2.2 st.1.2.2.2.1 st.1.2.2.2.2.1 st.2) (fun j st => InvT (j : Int) st.1 ∧ st.2.length = j) (fun l' j st => ((playF l' st.1 st.2).1, (playF l' st.1 st.2).2, true)) ?_ ?_ l.length 0 ((newP, noText 5, List.replicate 5 false, 0, 0, z6, []), []) (by simp) ⟨newJ_inv, rfl⟩
  · exact this
  · intro st hi
    obtain ⟨I, hdl⟩ := hi
    obtain ⟨x6, y6⟩ := I.lens
    obtain ⟨g1, g2, g3, g4⟩ := goodD_len I.good
    refine .step ?_ fun k m => s_PlayJournal.l0_s k m _ _ _ _ _ _ _ _ _ _ _ _ _
    simp (disch := omega) only [Int.toNat_natCast, decide_eq_true, decide_eq_false, Bool.not_true, Bool.not_false, Bool.true_and, Bool.false_and, Bool.and_true, Bool.and_false, cn_t, cn_f, gd_t, inb_nat, wrap_succ, Option.bind_some, both_self, dup_eq, playF, s_l15Own.eq]
    exact .const fun _ _ => rfl
  · intro j x l' st hd hj hx hi ih
    obtain ⟨I, hdl⟩ := hi
    have hm : x ∈ l := List.mem_of_mem_drop (by rw [hd]; exact List.mem_cons_self)
    obtain ⟨v1, v2⟩ := hs x hm
    obtain ⟨x6, y6⟩ := I.lens
    obtain ⟨g1, g2, g3, g4⟩ := goodD_len I.good
    have e1 := I.e1
    have own : ∀ k, s_l15Own.f k st.1.1 st.1.2.1 st.1.2.2.1 st.1.2.2.2.1 st.1.2.2.2.2.1 st.1.2.2.2.2.2.1 st.1.2.2.2.2.2.2 = some st.1 := fun k => s_l15Own.eq k _ _ _ _ _ _ _ (by omega) (by omega) (by omega) (by omega) (by omega)
    refine .step ?_ fun k m => s_PlayJournal.l0_s k m _ _ _ _ _ _ _ _ _ _ _ _ _
    simp (disch := omega) only [Int.toNat_natCast, decide_eq_true, decide_eq_false, Bool.not_true, Bool.not_false, Bool.true_and, Bool.false_and, Bool.and_true, Bool.and_false, cn_t, cn_f, gd_t, inb_nat, wrap_succ, Option.bind_some, both_self, dup_eq, hx, own]
    obtain ⟨z, hz⟩ := s_l15Step.ev st.1.1 st.1.2.1 st.1.2.2.1 st.1.2.2.2.1 st.1.2.2.2.2.1 st.1.2.2.2.2.2.1 st.1.2.2.2.2.2.2 x.1 x.2.1 x.2.2 I.good I.lp (fun j => by rw [I.hb]; exact bad5 j) I.e0 (by omega) v1 v2
    refine .bind hz ?_
    have ap : ∀ b : Bool, appOk (st.2.length + [b].length) (Try.prog.bytesOf (4 : Nat)) = true := fun b => appOk_le bytes_bool (by simp; omega)
    unfold playF
    cases hj' : stepF st.1.1 st.1.2.1 st.1.2.2.1 st.1.2.2.2.1 st.1.2.2.2.2.1 st.1.2.2.2.2.2.1 st.1.2.2.2.2.2.2 x.1 x.2.1 x.2.2 with
    | none =>
      simp only [cn_f, ap, gd_t, both_self, dup_eq]
      exact ih (st.1, st.2 ++ [false]) ⟨I.mono (by omega), by simp; omega⟩
    | some j' =>
      have I' := I.step (by omega) hj'
      simp only [cn_t, ap, gd_t, both_self, dup_eq]
      exact ih (j', st.2 ++ [true]) ⟨by exact_mod_cast I', by simp; omega⟩
/-- The mark's text. -/
noncomputable def mt (v : Nat) : ByteArray := @dite _ (∃ t, Ev (fun k => w_markText.f k (v : Int)) t) (Classical.propDecidable _) (fun h => Classical.choose h) (fun _ => ByteArray.empty)
theorem mt_ev (v : Nat) (hv : v ≤ 140737488355327) : Ev (fun k => w_markText.f k (v : Int)) (mt v) := by
  have h := w_markText.ev v hv
  unfold mt
  rw [dif_pos h]
  exact Classical.choose_spec h
noncomputable def mks (s n : Nat) : List ByteArray := (List.range n).map fun i => mt (s + i)
theorem mks_len (s n : Nat) : (mks s n).length = n := by simp [mks]
theorem w_markStringS.loop2 (s len : Nat) (hs : s + len ≤ 140737488355327) : ∀ (n j : Nat) (h : List ByteArray), j + n = len → h.length = len → h.take j = mks s j → ∃ K, ∀ k m, K ≤ k → n < m → w_markStringS.l0 k m ((s + j : Nat) : Int) j h = some (((s + len : Nat) : Int), mks s len) := by
  intro n
  induction n with
  | zero =>
    intro j h hj hl hh
    refine ⟨0, fun k m _ hm => ?_⟩
    obtain ⟨m, rfl⟩ : ∃ m', m = m' + 1 := ⟨m - 1, by omega⟩
    rw [List.take_of_length_le (by omega)] at hh
    rw [w_markStringS.l0_s, cnF (by omega), hh, show j = len by omega]
  | succ n ih =>
    intro j h hj hl hh
    obtain ⟨K1, hx⟩ := mt_ev (s + j) (by omega)
    have hx : ∀ k, K1 ≤ k → w_markText.f k ((s + j : Nat) : Int) = some (mt (s + j)) := hx
    obtain ⟨K, ht⟩ := ih (j + 1) (h.set j (mt (s + j))) (by omega) (by simpa using hl) (by
      rw [List.take_succ_eq_append_getElem (by simp; omega), List.getElem_set_self, List.take_set_of_le (Nat.le_refl j), hh]
      unfold mks
      rw [List.range_succ, List.map_append]; rfl)
    refine ⟨max K K1, fun k m hk hm => ?_⟩
    obtain ⟨m, rfl⟩ : ∃ m', m = m' + 1 := ⟨m - 1, by omega⟩
    rw [w_markStringS.l0_s, cnT (by omega), hx k (by omega)]
    simp only [Option.bind_some]
    rw [inb_nat (by omega), gd_t, wrap_succ (by omega), wrap_succ (by omega), Int.toNat_natCast]
    exact ht k m (by omega) (by omega)
theorem w_markStringS.ev2 (a : List ByteArray) (s : Nat) (hs : s + a.length ≤ 140737488355327) : Ev (fun k => w_markStringS.f k a (s : Int)) (((s + a.length : Nat) : Int), mks s a.length) := by
  obtain ⟨K, ht⟩ := w_markStringS.loop2 s a.length hs a.length 0 a (by omega) rfl (by simp [mks])
  exact .of (max K (a.length + 1)) fun k hk => by
    show w_markStringS.f k a s = _
    rw [w_markStringS.f_eq]
    exact ht k k (by omega) (by omega)
theorem w_heldStringS.loop (s len : Nat) (hs : s + len ≤ 140737488355327) : ∀ (n j : Nat), j + n = len → ∃ K, ∀ k m, K ≤ k → n < m → w_heldStringS.l0 k m (mks s len) ((s + j : Nat) : Int) j = some ((s + len : Nat) : Int) := by
  have hl := mks_len s len
  intro n
  induction n with
  | zero =>
    intro j hj
    refine ⟨0, fun k m _ hm => ?_⟩
    obtain ⟨m, rfl⟩ : ∃ m', m = m' + 1 := ⟨m - 1, by omega⟩
    rw [w_heldStringS.l0_s, cnF (by omega), show j = len by omega]
  | succ n ih =>
    intro j hj
    obtain ⟨K1, hx⟩ := mt_ev (s + j) (by omega)
    have hx : ∀ k, K1 ≤ k → w_markText.f k ((s + j : Nat) : Int) = some (mt (s + j)) := hx
    obtain ⟨K, ht⟩ := ih (j + 1) (by omega)
    refine ⟨max K K1, fun k m hk hm => ?_⟩
    obtain ⟨m, rfl⟩ : ∃ m', m = m' + 1 := ⟨m - 1, by omega⟩
    rw [w_heldStringS.l0_s, cnT (by omega), inb_nat (by omega), gd_t, hx k (by omega), Option.bind_some, Int.toNat_natCast, cnNT (by rw [getAt_lt (by omega)]; simp [mks]), wrap_succ (by omega), wrap_succ (by omega)]
    exact ht k m (by omega) (by omega)
theorem w_heldStringS.ev (s len : Nat) (hs : s + len ≤ 140737488355327) : Ev (fun k => w_heldStringS.f k (mks s len) (s : Int)) ((s + len : Nat) : Int) := by
  obtain ⟨K, ht⟩ := w_heldStringS.loop s len hs len 0 (by omega)
  exact .of (max K (len + 1)) fun k hk => by
    show w_heldStringS.f k _ s = _
    rw [w_heldStringS.f_eq]
    exact ht k k (by omega) (by omega)
def mbs (s n : Nat) : List Bool := (List.range n).map fun i => decide (((s + i : Nat) : Int).tmod (3 : Int) = (0 : Int))
theorem mbs_len (s n : Nat) : (mbs s n).length = n := by simp [mbs]
theorem w_markBoolS.loop2 (s len : Nat) (hs : s + len ≤ 9223372036854775806) (k : Nat) : ∀ (n j : Nat) (h : List Bool) (m : Nat), j + n = len → h.length = len → h.take j = mbs s j → n < m → w_markBoolS.l0 k m ((s + j : Nat) : Int) j h = some (((s + len : Nat) : Int), mbs s len) := by
  intro n
  induction n with
  | zero =>
    intro j h m hj hl hh hm
    obtain ⟨m, rfl⟩ : ∃ m', m = m' + 1 := ⟨m - 1, by omega⟩
    rw [List.take_of_length_le (by omega)] at hh
    rw [w_markBoolS.l0_s, cnF (by omega), hh, show j = len by omega]
  | succ n ih =>
    intro j h m hj hl hh hm
    obtain ⟨m, rfl⟩ : ∃ m', m = m' + 1 := ⟨m - 1, by omega⟩
    rw [w_markBoolS.l0_s, cnT (by omega), inb_nat (by omega), gd_t, wrap_succ (by omega), wrap_succ (by omega), Int.toNat_natCast]
    refine ih (j + 1) _ m (by omega) (by simpa using hl) ?_ (by omega)
    rw [List.take_succ_eq_append_getElem (by simp; omega), List.getElem_set_self, List.take_set_of_le (Nat.le_refl j), hh]
    unfold mbs
    rw [List.range_succ, List.map_append]; rfl
theorem w_markBoolS.ev2 (a : List Bool) (s : Nat) (hs : s + a.length ≤ 9223372036854775806) : Ev (fun k => w_markBoolS.f k a (s : Int)) (((s + a.length : Nat) : Int), mbs s a.length) := .of (a.length + 1) fun k hk => by
  show w_markBoolS.f k a s = _
  rw [w_markBoolS.f_eq]
  exact w_markBoolS.loop2 s a.length hs k a.length 0 a k (by omega) rfl (by simp [mbs]) (by omega)
theorem w_heldBoolS.loop (s len : Nat) (hs : s + len ≤ 9223372036854775806) (k : Nat) : ∀ (n j m : Nat), j + n = len → n < m → w_heldBoolS.l0 k m (mbs s len) ((s + j : Nat) : Int) j = some ((s + len : Nat) : Int) := by
  have hl := mbs_len s len
  intro n
  induction n with
  | zero =>
    intro j m hj hm
    obtain ⟨m, rfl⟩ : ∃ m', m = m' + 1 := ⟨m - 1, by omega⟩
    rw [w_heldBoolS.l0_s, cnF (by omega), show j = len by omega]
  | succ n ih =>
    intro j m hj hm
    obtain ⟨m, rfl⟩ : ∃ m', m = m' + 1 := ⟨m - 1, by omega⟩
    have e : (!getAt false (mbs s len) j == decide (((s + j : Nat) : Int).tmod (3 : Int) = (0 : Int))) = false := by
      rw [getAt_lt (by omega)]
      simp only [mbs, List.getElem_map, List.getElem_range]
      cases decide (((s + j : Nat) : Int).tmod (3 : Int) = (0 : Int)) <;> rfl
    rw [w_heldBoolS.l0_s, cnT (by omega), inb_nat (by omega), gd_t, Int.toNat_natCast, e, cn_f, wrap_succ (by omega), wrap_succ (by omega)]
    exact ih (j + 1) m (by omega) (by omega)
theorem w_heldBoolS.ev (s len : Nat) (hs : s + len ≤ 9223372036854775806) : Ev (fun k => w_heldBoolS.f k (mbs s len) (s : Int)) ((s + len : Nat) : Int) := .of (len + 1) fun k hk => by
  show w_heldBoolS.f k _ s = _
  rw [w_heldBoolS.f_eq]
  exact w_heldBoolS.loop s len hs k len 0 k (by omega) (by omega)
theorem w_markDisk.ev2 (p h : List ByteArray) (b : List Bool) (s : Nat) (hs : s + p.length + h.length + b.length ≤ 140737488355327) : Ev (fun k => w_markDisk.f k p h b (s : Int)) (((s + p.length + h.length + b.length : Nat) : Int), mks s p.length, mks (s + p.length) h.length, mbs (s + p.length + h.length) b.length) := by
  refine Ev.congr ?_ (fun k => w_markDisk.f_eq k p h b s)
  refine Ev.bind (w_markStringS.ev2 p s (by omega)) ?_
  refine Ev.bind (w_markStringS.ev2 h (s + p.length) (by omega)) ?_
  refine Ev.bind (w_markBoolS.ev2 b (s + p.length + h.length) (by omega)) ?_
  exact .const fun k => rfl
theorem w_heldDisk.ev (s a b c : Nat) (hs : s + a + b + c ≤ 140737488355327) : Ev (fun k => w_heldDisk.f k (mks s a) (mks (s + a) b) (mbs (s + a + b) c) (s : Int)) ((s + a + b + c : Nat) : Int) := by
  refine Ev.congr ?_ (fun k => w_heldDisk.f_eq k _ _ _ s)
  refine Ev.bind (w_heldStringS.ev s a (by omega)) ?_
  simp only [cnF (show ¬ ((s + a : Nat) : Int) < 0 by omega)]
  refine Ev.bind (w_heldStringS.ev (s + a) b (by omega)) ?_
  simp only [cnF (show ¬ ((s + a + b : Nat) : Int) < 0 by omega)]
  refine Ev.bind (w_heldBoolS.ev (s + a + b) c (by omega)) ?_
  exact .const fun k => by rw [cnF (show ¬ ((s + a + b + c : Nat) : Int) < 0 by omega)]
theorem w_markJournal.ev (p h : List ByteArray) (b : List Bool) (e ph : Int) (x y : List Int) (s : Nat) (hs : s + p.length + h.length + b.length + x.length + y.length ≤ 140737488355327) : Ev (fun k => w_markJournal.f k p h b e ph x y (s : Int))
    (((s + p.length + h.length + b.length + x.length + y.length : Nat) : Int), mks s p.length, mks (s + p.length) h.length, mbs (s + p.length + h.length) b.length, marks (s + p.length + h.length + b.length) x.length, marks (s + p.length + h.length + b.length + x.length) y.length) := by
  refine Ev.congr ?_ (fun k => w_markJournal.f_eq k p h b e ph x y s)
  refine Ev.bind (w_markDisk.ev2 p h b s (by omega)) ?_
  refine Ev.bind (w_markIntS.ev x (s + p.length + h.length + b.length) (by omega)) ?_
  refine Ev.bind (w_markIntS.ev y (s + p.length + h.length + b.length + x.length) (by omega)) ?_
  exact .const fun k => rfl
theorem w_heldJournal.ev (s a b c d f : Nat) (e ph : Int) (hs : s + a + b + c + d + f ≤ 140737488355327) : Ev (fun k => w_heldJournal.f k (mks s a) (mks (s + a) b) (mbs (s + a + b) c) e ph (marks (s + a + b + c) d) (marks (s + a + b + c + d) f) (s : Int)) ((s + a + b + c + d + f : Nat) : Int) := by
  refine Ev.congr ?_ (fun k => w_heldJournal.f_eq k _ _ _ e ph _ _ s)
  refine Ev.bind (w_heldDisk.ev s a b c (by omega)) ?_
  simp only [cnF (show ¬ ((s + a + b + c : Nat) : Int) < 0 by omega)]
  refine Ev.bind (w_heldIntS.ev (s + a + b + c) d (by omega)) ?_
  simp only [cnF (show ¬ ((s + a + b + c + d : Nat) : Int) < 0 by omega)]
  refine Ev.bind (w_heldIntS.ev (s + a + b + c + d) f (by omega)) ?_
  exact .const fun k => by rw [cnF (show ¬ ((s + a + b + c + d + f : Nat) : Int) < 0 by omega)]
/-! ### The law of PlayJournal: its own, of steps -/
abbrev dS : StepT := ((0 : Int), [], [])
theorem w_szJournalStep.ev (x : StepT) (h1 : x.2.1.length ≤ maxLen) (h2 : x.2.2.length ≤ maxLen) (left : Int) (h0 : 0 ≤ left) (hl : left ≤ 1048576) :
    ∃ r : Int, Ev (fun k => w_szJournalStep.f k x.1 x.2.1 x.2.2 left) r ∧ (r < 0 ∨ (0 ≤ r ∧ r ≤ left ∧ x.2.1.length ≤ 1048576 ∧ x.2.2.length ≤ 1048576)) := by
  obtain ⟨r1, e1, c1⟩ := w_szIntS.ev x.2.1 h1 left h0 hl
  rcases c1 with c1 | ⟨a1, a2, a3⟩
  · exact ⟨-1, Ev.congr (Ev.bind e1 (.const fun k => by rw [cnT c1])) fun k => w_szJournalStep.f_eq k _ _ _ left, .inl (by omega)⟩
  obtain ⟨r2, e2, c2⟩ := w_szIntS.ev x.2.2 h2 r1 a1 (by omega)
  rcases c2 with c2 | ⟨b1, b2, b3⟩
  · refine ⟨-1, Ev.congr (Ev.bind e1 ?_) fun k => w_szJournalStep.f_eq k _ _ _ left, .inl (by omega)⟩
    simp only [cnF (show ¬ r1 < 0 by omega)]
    exact .bind e2 (.const fun k => by rw [cnT c2])
  · refine ⟨r2, Ev.congr (Ev.bind e1 ?_) fun k => w_szJournalStep.f_eq k _ _ _ left, .inr ⟨b1, by omega, a3, b3⟩⟩
    simp only [cnF (show ¬ r1 < 0 by omega)]
    exact .bind e2 (.const fun k => by rw [cnF (show ¬ r2 < 0 by omega)])
theorem w_szJournalStepS.ev (l : List StepT) (hl : l.length ≤ maxLen) (hx : ∀ x ∈ l, x.2.1.length ≤ maxLen ∧ x.2.2.length ≤ maxLen) (left : Int) (h0 : 0 ≤ left) (h1 : left ≤ 1048576) :
    ∃ r : Int, Ev (fun k => w_szJournalStepS.f k l left) r ∧ (r < 0 ∨ (0 ≤ r ∧ l.length ≤ 1048576 ∧ stepsOk l)) := by
  rw [maxLen_eq] at hl
  have loop : ∀ (n j : Nat) (lf : Int), j + n = l.length → l.length ≤ 1048576 → 0 ≤ lf → lf ≤ 1048576 → ∃ r : Int, Ev2 (fun k m => w_szJournalStepS.l0 k m l lf (j : Int)) r ∧ (r < 0 ∨ (0 ≤ r ∧ ∀ x ∈ l.drop j, x.2.1.length ≤ 1048576 ∧ x.2.2.length ≤ 1048576)) := by
    intro n
    induction n with
    | zero =>
      intro j lf hj hl2 p q
      refine ⟨lf, .step ?_ fun k m => w_szJournalStepS.l0_s k m _ _ _, .inr ⟨p, fun x hx => ?_⟩⟩
      · simp only [cnF (show ¬ (j : Int) < (l.length : Int) by omega)]
        exact .const fun _ _ => rfl
      · rw [List.drop_of_length_le (by omega)] at hx; cases hx
    | succ n ih =>
      intro j lf hj hl2 p q
      have hjl : j < l.length := by omega
      have hm := hx _ (List.getElem_mem hjl)
      obtain ⟨r1, e1, c1⟩ := w_szJournalStep.ev l[j] hm.1 hm.2 lf p q
      have ge : getAt dS l j = l[j] := getAt_lt hjl
      rcases c1 with c1 | ⟨a1, a2, a3, a4⟩
      · refine ⟨-1, .step ?_ fun k m => w_szJournalStepS.l0_s k m _ _ _, .inl (by omega)⟩
        simp only [cnT (show (j : Int) < (l.length : Int) by omega), inb_nat hjl, gd_t, Int.toNat_natCast, ge]
        exact .bind e1 (.const fun _ _ => by rw [cnT c1])
      · obtain ⟨r, e, c⟩ := ih (j + 1) r1 (by omega) hl2 a1 (by omega)
        refine ⟨r, .step ?_ fun k m => w_szJournalStepS.l0_s k m _ _ _, c.imp id fun c => ⟨c.1, fun x hx => ?_⟩⟩
        · simp only [cnT (show (j : Int) < (l.length : Int) by omega), inb_nat hjl, gd_t, Int.toNat_natCast, ge, wrap_succ (show j < 9223372036854775807 by omega)]
          refine .bind e1 ?_
          simp only [cnF (show ¬ r1 < 0 by omega)]
          exact e
        · rw [List.drop_eq_getElem_cons hjl] at hx
          rcases List.mem_cons.1 hx with rfl | hx
          · exact ⟨a3, a4⟩
          · exact c.2 x hx
  by_cases hb : left - (l.length : Int) < 0
  · refine ⟨-1, .const fun k => ?_, .inl (by omega)⟩
    rw [w_szJournalStepS.f_eq]
    simp (disch := omega) only [Int.toNat_natCast, decide_eq_true, decide_eq_false, Bool.not_true, Bool.not_false, Bool.true_and, Bool.false_and, Bool.and_true, Bool.and_false, cn_t, cn_f, gd_t, inb_nat, wrap_succ, Option.bind_some, both_self, dup_eq, wrap_eq]
  · obtain ⟨r, e, c⟩ := loop l.length 0 (left - l.length) (by omega) (by omega) (by omega) (by omega)
    refine ⟨r, Ev.congr ?_ fun k => w_szJournalStepS.f_eq k l left, c.imp id fun c => ⟨c.1, by omega, fun x hx => c.2 x (by simpa using hx)⟩⟩
    have w : IntKind.i64.wrap (left - (l.length : Int)) = left - l.length := wrap_eq (by omega) (by omega)
    simp only [w, cnF hb]
    exact e.diag
theorem w_toJournalStep.ev (x : StepT) (h1 : x.2.1.length ≤ 1048576) (h2 : x.2.2.length ≤ 1048576) : Ev (fun k => w_toJournalStep.f k x.1 x.2.1 x.2.2) x := by
  refine Ev.congr ?_ fun k => w_toJournalStep.f_eq k _ _ _
  refine Ev.bind (w_toIntS.ev _ h1) ?_
  refine Ev.bind (w_toIntS.ev _ h2) ?_
  exact .const fun _ => rfl
theorem w_toJournalStepS.ev (l : List StepT) (hl : l.length ≤ 1048576) (hs : stepsOk l) : Ev (fun k => w_toJournalStepS.f k l) l := by
  have loop : ∀ (n j : Nat) (h : List StepT), j + n = l.length → h.length = l.length → h.take j = l.take j → Ev2 (fun k m => w_toJournalStepS.l0 k m l (j : Int) h) l := by
    intro n
    induction n with
    | zero =>
      intro j h hj hh ht
      rw [List.take_of_length_le (by omega), List.take_of_length_le (by omega)] at ht
      subst ht
      refine .step ?_ fun k m => w_toJournalStepS.l0_s k m _ _ _
      simp only [cnF (show ¬ (j : Int) < (h.length : Int) by omega)]
      exact .const fun _ _ => rfl
    | succ n ih =>
      intro j h hj hh ht
      have hjl : j < l.length := by omega
      have hm := hs _ (List.getElem_mem hjl)
      have ge : getAt dS l j = l[j] := getAt_lt hjl
      refine .step ?_ fun k m => w_toJournalStepS.l0_s k m _ _ _
      simp only [cnT (show (j : Int) < (l.length : Int) by omega), inb_nat hjl, gd_t, Int.toNat_natCast, ge, wrap_succ (show j < 9223372036854775807 by omega)]
      refine .bind (w_toJournalStep.ev l[j] hm.1 hm.2) ?_
      simp only [inb_nat (show j < h.length by omega), gd_t]
      refine ih (j + 1) _ (by omega) (by simpa using hh) ?_
      have := set_front (d := dS) l h j hjl hh ht
      rw [ge] at this
      exact this
  refine Ev.congr ?_ fun k => w_toJournalStepS.f_eq k l
  have m1 : mkOk (l.length : Int) (l.length : Int) (Try.prog.bytesOf (111 : Nat)) = true := by
    rw [show Try.prog.bytesOf (111 : Nat) = 56 by kernel_rfl]
    unfold mkOk
    simp; omega
  simp only [m1, gd_t]
  exact (loop l.length 0 _ (by omega) (by simp) (by simp)).diag
theorem w_eqJournalStep.ev (x : StepT) (h1 : x.2.1.length ≤ 1048576) (h2 : x.2.2.length ≤ 1048576) : Ev (fun k => w_eqJournalStep.f k x.1 x.2.1 x.2.2 x.1 x.2.1 x.2.2) true := by
  have hm := maxLen_eq
  refine Ev.congr ?_ fun k => w_eqJournalStep.f_eq k _ _ _ _ _ _
  simp only [decide_true, Bool.not_true, cn_f]
  refine Ev.bind (w_eqIntS.ev _ (by omega)) ?_
  simp only [Bool.not_true, cn_f]
  refine Ev.bind (w_eqIntS.ev _ (by omega)) ?_
  exact .const fun _ => rfl
theorem w_eqJournalStepS.ev (l : List StepT) (hl : l.length ≤ 1048576) (hs : stepsOk l) : Ev (fun k => w_eqJournalStepS.f k l l) true := by
  refine Ev.congr ?_ fun k => w_eqJournalStepS.f_eq k l l
  simp only [decide_true, Bool.not_true, cn_f]
  refine Ev2.diag (g := fun k m => w_eqJournalStepS.l0 k m l l 0) ?_
  refine Ev2.look l dS (fun k m j => w_eqJournalStepS.l0 k m l l (j : Int)) (fun _ _ => true) ?_ ?_
  · refine .step ?_ fun k m => w_eqJournalStepS.l0_s k m _ _ _
    simp only [cnF (show ¬ (l.length : Int) < (l.length : Int) by omega)]
    exact .const fun _ _ => rfl
  · intro j x l' hd hj hx ih
    have hm := hs x (by rw [← hx, getAt_lt hj]; exact List.getElem_mem hj)
    refine .step ?_ fun k m => w_eqJournalStepS.l0_s k m _ _ _
    simp only [cnT (show (j : Int) < (l.length : Int) by omega), inb_nat hj, gd_t, Int.toNat_natCast, hx, wrap_succ (show j < 9223372036854775807 by omega)]
    refine .bind (w_eqJournalStep.ev x hm.1 hm.2) ?_
    simp only [Bool.not_true, cn_f]
    exact ih
theorem w_markJournalStepS.ev (l : List StepT) (hl : l.length ≤ 1048576) (hs : stepsOk l) : ∃ r : Int × List StepT, Ev (fun k => w_markJournalStepS.f k l 1) r ∧ 0 ≤ r.1 := by
  have loop : ∀ (n j s : Nat) (h : List StepT), j + n = h.length → h.length ≤ 1048576 → stepsOk h → s + n * 2097153 ≤ 9000000000000000000 → ∃ r : Int × List StepT, Ev2 (fun k m => w_markJournalStepS.l0 k m (s : Int) (j : Int) h) r ∧ 0 ≤ r.1 := by
    intro n
    induction n with
    | zero =>
      intro j s h hj hl2 hs hb
      refine ⟨((s : Int), h), .step ?_ fun k m => w_markJournalStepS.l0_s k m _ _ _, by simp only; omega⟩
      simp only [cnF (show ¬ (j : Int) < (h.length : Int) by omega)]
      exact .const fun _ _ => rfl
    | succ n ih =>
      intro j s h hj hl2 hs hb
      have hjl : j < h.length := by omega
      have hm := hs _ (List.getElem_mem hjl)
      have ge : getAt dS h j = h[j] := getAt_lt hjl
      have gs : ∀ v : StepT, getAt dS (h.set j v) j = v := fun v => by rw [getAt_lt (by simpa using hjl)]; simp
      have ib : ∀ v : StepT, inb (j : Int) (h.set j v).length = true := fun v => inb_nat (by simpa using hjl)
      have w1 : IntKind.i64.wrap ((s : Int) + 1) = ((s + 1 : Nat) : Int) := wrap_succ (by omega)
      obtain ⟨r, e, hr⟩ := ih (j + 1) (s + 1 + h[j].2.1.length + h[j].2.2.length) (h.set j ((s : Int), marks (s + 1) h[j].2.1.length, marks (s + 1 + h[j].2.1.length) h[j].2.2.length)) (by simp; omega) (by simpa using hl2) (fun x hx => by
        rcases List.mem_or_eq_of_mem_set hx with hx | rfl
        · exact hs x hx
        · exact ⟨by simpa [marks] using hm.1, by simpa [marks] using hm.2⟩) (by omega)
      refine ⟨r, .step ?_ fun k m => w_markJournalStepS.l0_s k m _ _ _, hr⟩
      simp only [cnT (show (j : Int) < (h.length : Int) by omega), inb_nat hjl, gd_t, Int.toNat_natCast, ge, gs, List.set_set, ib, w1, wrap_succ (show j < 9223372036854775807 by omega)]
      refine .bind (w_markIntS.ev h[j].2.1 (s + 1) (by omega)) ?_
      simp only [ib, gs, List.set_set, gd_t]
      refine .bind (w_markIntS.ev h[j].2.2 (s + 1 + h[j].2.1.length) (by omega)) ?_
      simp only [gs, List.set_set]
      exact e
  obtain ⟨r, e, hr⟩ := loop l.length 0 1 l (by omega) hl hs (by omega)
  exact ⟨r, Ev.congr e.diag fun k => w_markJournalStepS.f_eq k l 1, hr⟩
theorem playJ_both (l : List StepT) (hs : stepsOk l) : ∃ r : JT × List Bool × Bool, Ev (fun k => i_PlayJournal.f k l) r ∧ Ev (fun k => s_PlayJournal.f k l) r ∧
    r.1.1.length ≤ 100 ∧ r.1.2.1.length ≤ 100 ∧ r.1.2.2.1.length ≤ 100 ∧ r.1.2.2.2.2.2.1.length ≤ 100 ∧ r.1.2.2.2.2.2.2.length ≤ 100 ∧ r.2.1.length ≤ 100 := by
  by_cases h60 : l.length ≤ 60
  · obtain ⟨I, hd⟩ := playF_inv l 0 (newP, noText 5, List.replicate 5 false, 0, 0, z6, []) [] newJ_inv (by omega)
    have ei := i_PlayJournal.ev l h60 hs
    have es := s_PlayJournal.ev l h60 hs
    generalize playF l (newP, noText 5, List.replicate 5 false, 0, 0, z6, []) [] = P at I hd ei es
    obtain ⟨x6, y6⟩ := I.lens
    obtain ⟨g1, g2, g3, g4⟩ := goodD_len I.good
    have lp := I.lp
    simp only [List.length_nil] at hd
    exact ⟨_, ei, es, by simp only; omega, by simp only; omega, by simp only; omega, by simp only; omega, by simp only; omega, by simp only; omega⟩
  · have hi : Ev (fun k => i_PlayJournal.f k l) (noJ, [], false) := Ev.congr (.const fun _ => rfl) fun k => by rw [i_PlayJournal.f_eq, cnT (by omega)]; rfl
    have hsp : Ev (fun k => s_PlayJournal.f k l) (noJ, [], false) := Ev.congr (.const fun _ => rfl) fun k => by rw [s_PlayJournal.f_eq, cnT (by omega)]; rfl
    exact ⟨_, hi, hsp, by simp [noJ], by simp [noJ], by simp [noJ], by simp [noJ], by simp [noJ], by simp⟩
theorem lawPlayJournal (l : List StepT) (ol : okK (.sl 111 (.pair (.int .i64) (.pair (.sl 3 (.int .i64)) (.sl 3 (.int .i64))))) l) : Ev (fun k => w_FnExactPlayJournal.f k l) true := by
  have hm := maxLen_eq
  have hx : ∀ x ∈ l, x.2.1.length ≤ maxLen ∧ x.2.2.length ≤ maxLen := fun x hx => by
    obtain ⟨i, hi, rfl⟩ := List.getElem_of_mem hx
    have := ol.2 i hi
    exact ⟨this.2.1.1, this.2.2.1⟩
  obtain ⟨d0, e0, c0⟩ := w_szJournalStepS.ev l ol.1 hx 1048576 (by omega) (by omega)
  refine Ev.congr ?_ fun k => w_FnExactPlayJournal.f_eq k l
  refine Ev.bind e0 ?_
  rcases c0 with c0 | ⟨h0, hl, hs⟩
  · exact .const fun k => by rw [cnT c0]
  simp only [cnF (show ¬ d0 < 0 by omega)]
  have to := w_toJournalStepS.ev l hl hs
  obtain ⟨r, ei, es, lp, lh, lb, lx, ly, ld⟩ := playJ_both l hs
  have eqj := w_eqJournal.ev r.1.1 r.1.2.1 r.1.2.2.1 r.1.2.2.2.1 r.1.2.2.2.2.1 r.1.2.2.2.2.2.1 r.1.2.2.2.2.2.2 (by omega) (by omega) (by omega) (by omega) (by omega)
  have eqb := w_eqBoolS.ev r.2.1 (by omega)
  obtain ⟨mm, em, hm0⟩ := w_markJournalStepS.ev l hl hs
  have mk := w_markJournal.ev r.1.1 r.1.2.1 r.1.2.2.1 r.1.2.2.2.1 r.1.2.2.2.2.1 r.1.2.2.2.2.2.1 r.1.2.2.2.2.2.2 1 (by omega)
  have hl1 := w_heldJournal.ev 1 r.1.1.length r.1.2.1.length r.1.2.2.1.length r.1.2.2.2.2.2.1.length r.1.2.2.2.2.2.2.length r.1.2.2.2.1 r.1.2.2.2.2.1 (by omega)
  generalize hS : 1 + r.1.1.length + r.1.2.1.length + r.1.2.2.1.length + r.1.2.2.2.2.2.1.length + r.1.2.2.2.2.2.2.length = S at mk hl1
  have mb := w_markBoolS.ev2 r.2.1 S (by omega)
  have hb := w_heldBoolS.ev S r.2.1.length (by omega)
  refine Ev.bind to ?_
  refine Ev.bind es ?_
  refine Ev.bind to ?_
  refine Ev.bind ei ?_
  refine Ev.bind eqj ?_
  simp only [Bool.not_true, cn_f]
  refine Ev.bind eqb ?_
  simp only [Bool.not_true, cn_f, beq_self_eq_true]
  refine Ev.bind to ?_
  refine Ev.bind (w_eqJournalStepS.ev l hl hs) ?_
  simp only [Bool.not_true, cn_f]
  refine Ev.bind em ?_
  simp only [cnF (show ¬ mm.1 < 0 by omega)]
  refine Ev.bind eqj ?_
  simp only [Bool.not_true, cn_f]
  refine Ev.bind eqb ?_
  simp only [Bool.not_true, cn_f, beq_self_eq_true]
  refine Ev.bind mk ?_
  refine Ev.bind mb ?_
  refine Ev.bind hl1 ?_
  simp only [cnF (show ¬ (S : Int) < 0 by omega)]
  refine Ev.bind hb ?_
  simp only [cnF (show ¬ ((S + r.2.1.length : Nat) : Int) < 0 by omega), decide_true, Bool.not_true, cn_f]
  refine Ev.bind to ?_
  refine Ev.bind ei ?_
  refine Ev.bind eqj ?_
  simp only [Bool.not_true, cn_f]
  refine Ev.bind eqb ?_
  simp only [Bool.not_true, cn_f, beq_self_eq_true]
  refine Ev.bind hl1 ?_
  simp only [cnF (show ¬ (S : Int) < 0 by omega)]
  refine Ev.bind hb ?_
  exact .const fun _ => by simp only [cnF (show ¬ ((S + r.2.1.length : Nat) : Int) < 0 by omega), decide_true, Bool.not_true, cn_f]
end Go.Proofs.Ytcddcnnbhbffmaa
