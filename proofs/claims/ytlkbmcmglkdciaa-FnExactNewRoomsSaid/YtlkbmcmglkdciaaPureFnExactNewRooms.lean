/- What the functions of the law come to, in numbers, rows and texts alone. No condition. -/
import Derived.Test.YtlkbmcmglkdciaaFNR
set_option linter.unusedVariables false
set_option linter.unusedSimpArgs false
namespace Go.Proofs.Ytlkbmcmglkdciaa
open Go Go.Proofs.YtlkbmcmglkdciaaE
/-! ### Limits, numbers, rows -/
/-- From some number of rounds on it is r. -/
def Ev {R : Type} (g : Nat → Option R) (r : R) : Prop := ∃ K, ∀ k, K ≤ k → g k = some r
theorem Ev.const {R : Type} {g : Nat → Option R} {r : R} (h : ∀ k, g k = some r) : Ev g r := ⟨0, fun k _ => h k⟩
theorem Ev.of {R : Type} {g : Nat → Option R} {r : R} (K : Nat) (h : ∀ k, K ≤ k → g k = some r) : Ev g r := ⟨K, h⟩
theorem Ev.bind {D R : Type} {f : Nat → Option D} {d : D} {G : Nat → D → Option R} {r : R} (h : Ev f d) (h2 : Ev (fun k => G k d) r) : Ev (fun k => (f k).bind (G k)) r := by
  obtain ⟨K, hK⟩ := h
  obtain ⟨L, hL⟩ := h2
  refine ⟨max K L, fun k hk => ?_⟩
  show (f k).bind (G k) = _
  rw [hK k (by omega)]
  exact hL k (by omega)
theorem Ev.congr {R : Type} {f g : Nat → Option R} {r : R} (h : Ev f r) (e : ∀ k, g k = f k) : Ev g r := by
  obtain ⟨K, hK⟩ := h
  exact ⟨K, fun k hk => by rw [e]; exact hK k hk⟩
theorem cn_t {A : Type} (x y : A) : cn true x y = x := rfl
theorem cn_f {A : Type} (x y : A) : cn false x y = y := rfl
theorem gd_t {A : Type} (x : Option A) : gd true x = x := rfl
theorem cnT {A : Type} {p : Prop} [Decidable p] {x y : A} (h : p) : cn (decide p) x y = x := by rw [decide_eq_true h]; rfl
theorem cnF {A : Type} {p : Prop} [Decidable p] {x y : A} (h : ¬ p) : cn (decide p) x y = y := by rw [decide_eq_false h]; rfl
theorem cnNT {A : Type} {p : Prop} [Decidable p] {x y : A} (h : p) : cn (!decide p) x y = y := by rw [decide_eq_true h]; rfl
theorem cnNF {A : Type} {p : Prop} [Decidable p] {x y : A} (h : ¬ p) : cn (!decide p) x y = x := by rw [decide_eq_false h]; rfl
theorem gdT {A : Type} {p : Prop} [Decidable p] {x : Option A} (h : p) : gd (decide p) x = x := by rw [decide_eq_true h]; rfl
theorem inb_nat {i n : Nat} (h : i < n) : inb (i : Int) n = true := by
  unfold inb
  rw [decide_eq_true (by omega : (0 : Int) ≤ (i : Int)), decide_eq_true (by omega : (i : Int) < (n : Int))]; rfl
theorem wrap_eq {n : Int} (h1 : -9223372036854775808 ≤ n) (h2 : n ≤ 9223372036854775807) : IntKind.i64.wrap n = n := by
  have key : IntKind.i64.wrap n = if n % 18446744073709551616 ≥ 9223372036854775808 then n % 18446744073709551616 - 18446744073709551616 else n % 18446744073709551616 := by
    unfold IntKind.wrap
    simp [IntKind.bits, IntKind.signed]
  rw [key]
  split <;> omega
theorem wrap_succ {n : Nat} (h : n < 9223372036854775807) : IntKind.i64.wrap ((n : Int) + 1) = ((n + 1 : Nat) : Int) := by rw [wrap_eq (by omega) (by omega)]; omega
theorem getAt_lt {A : Type} {d : A} {xs : List A} {i : Nat} (h : i < xs.length) : getAt d xs i = xs[i] := by simp [getAt, h]
theorem maxLen_eq : maxLen = 9223372036854775807 := by decide
/-- A row written over from the front. -/
theorem set_front {A : Type} {d : A} (a h : List A) (j : Nat) (hj : j < a.length) (hl : h.length = a.length) (hh : h.take j = a.take j) : (h.set j (getAt d a j)).take (j + 1) = a.take (j + 1) := by
  rw [getAt_lt hj, List.take_succ_eq_append_getElem hj, List.take_succ_eq_append_getElem (by simp; omega), List.getElem_set_self, List.take_set_of_le (Nat.le_refl j), hh]
def marks (s n : Nat) : List Int := (List.range n).map fun i => ((s + i : Nat) : Int)
theorem w_eqIntS.loop (k : Nat) (a : List Int) (ha : a.length ≤ maxLen) : ∀ (n j m : Nat), j + n = a.length → n < m → w_eqIntS.l0 k m a a j = some true := by
  rw [maxLen_eq] at ha
  intro n
  induction n with
  | zero =>
    intro j m hj hm
    obtain ⟨m, rfl⟩ : ∃ m', m = m' + 1 := ⟨m - 1, by omega⟩
    rw [w_eqIntS.l0_s, cnF (by omega)]
  | succ n ih =>
    intro j m hj hm
    obtain ⟨m, rfl⟩ : ∃ m', m = m' + 1 := ⟨m - 1, by omega⟩
    rw [w_eqIntS.l0_s, cnT (by omega), inb_nat (by omega), gd_t, gd_t, cnNT rfl, wrap_succ (by omega)]
    exact ih (j + 1) m (by omega) (by omega)
theorem w_eqIntS.ev (a : List Int) (ha : a.length ≤ maxLen) : Ev (fun k => w_eqIntS.f k a a) true := .of (a.length + 1) fun k hk => by
  show w_eqIntS.f k a a = _
  rw [w_eqIntS.f_eq, cnNT rfl]
  exact w_eqIntS.loop k a ha a.length 0 k (by omega) (by omega)
theorem w_markIntS.loop (k : Nat) (s len : Nat) (hs : s + len ≤ 9223372036854775806) : ∀ (n j m : Nat) (h : List Int), j + n = len → h.length = len → h.take j = marks s j → n < m → w_markIntS.l0 k m ((s + j : Nat) : Int) j h = some (((s + len : Nat) : Int), marks s len) := by
  intro n
  induction n with
  | zero =>
    intro j m h hj hl hh hm
    obtain ⟨m, rfl⟩ : ∃ m', m = m' + 1 := ⟨m - 1, by omega⟩
    rw [w_markIntS.l0_s, cnF (by omega)]
    rw [List.take_of_length_le (by omega)] at hh
    rw [hh, show j = len by omega]
  | succ n ih =>
    intro j m h hj hl hh hm
    obtain ⟨m, rfl⟩ : ∃ m', m = m' + 1 := ⟨m - 1, by omega⟩
    rw [w_markIntS.l0_s, cnT (by omega), inb_nat (by omega), gd_t, wrap_succ (by omega), wrap_succ (by omega), Int.toNat_natCast]
    refine ih (j + 1) m _ (by omega) (by simpa using hl) ?_ (by omega)
    rw [List.take_succ_eq_append_getElem (by simp; omega), List.getElem_set_self, List.take_set_of_le (Nat.le_refl j), hh]
    unfold marks
    rw [List.range_succ, List.map_append]; rfl
theorem w_markIntS.ev (a : List Int) (s : Nat) (hs : s + a.length ≤ 9223372036854775806) : Ev (fun k => w_markIntS.f k a (s : Int)) (((s + a.length : Nat) : Int), marks s a.length) := .of (a.length + 1) fun k hk => by
  show w_markIntS.f k a s = _
  rw [w_markIntS.f_eq]
  exact w_markIntS.loop k s a.length hs a.length 0 k a (by omega) rfl (by simp [marks]) (by omega)
theorem w_heldIntS.loop (k : Nat) (s len : Nat) (hs : s + len ≤ 9223372036854775806) : ∀ (n j m : Nat), j + n = len → n < m → w_heldIntS.l0 k m (marks s len) ((s + j : Nat) : Int) j = some ((s + len : Nat) : Int) := by
  have hl : (marks s len).length = len := by simp [marks]
  intro n
  induction n with
  | zero =>
    intro j m hj hm
    obtain ⟨m, rfl⟩ : ∃ m', m = m' + 1 := ⟨m - 1, by omega⟩
    rw [w_heldIntS.l0_s, cnF (by omega), show j = len by omega]
  | succ n ih =>
    intro j m hj hm
    obtain ⟨m, rfl⟩ : ∃ m', m = m' + 1 := ⟨m - 1, by omega⟩
    rw [w_heldIntS.l0_s, cnT (by omega), inb_nat (by omega), gd_t, Int.toNat_natCast, cnNT (by rw [getAt_lt (by omega)]; simp [marks]), wrap_succ (by omega), wrap_succ (by omega)]
    exact ih (j + 1) m (by omega) (by omega)
theorem w_heldIntS.ev (s len : Nat) (hs : s + len ≤ 9223372036854775806) : Ev (fun k => w_heldIntS.f k (marks s len) (s : Int)) ((s + len : Nat) : Int) := .of (len + 1) fun k hk => by
  show w_heldIntS.f k _ s = _
  rw [w_heldIntS.f_eq]
  exact w_heldIntS.loop k s len hs len 0 k (by omega) (by omega)
/-! ### Small things -/
theorem byteArray_toList_eq {a b : ByteArray} : a.toList = b.toList ↔ a = b := by
  constructor
  · intro h
    have : a.data.toList = b.data.toList := by rw [ByteArray.toList_eq, ByteArray.toList_eq] at h; exact h
    exact ByteArray.ext (Array.ext' this)
  · rintro rfl; rfl
/-! ### Loops: rounds to spare -/
def Ev2 {R : Type} (g : Nat → Nat → Option R) (r : R) : Prop := ∃ K, ∀ k m, K ≤ k → K ≤ m → g k m = some r
theorem Ev2.diag {R : Type} {g : Nat → Nat → Option R} {r : R} (h : Ev2 g r) : Ev (fun k => g k k) r := by
  obtain ⟨K, hK⟩ := h
  exact ⟨K, fun k hk => hK k k hk hk⟩
theorem Ev2.step {R : Type} {g g' : Nat → Nat → Option R} {r : R} (h : Ev2 g' r) (e : ∀ k m, g k (m + 1) = g' k m) : Ev2 g r := by
  obtain ⟨K, hK⟩ := h
  refine ⟨K + 1, fun k m hk hm => ?_⟩
  obtain ⟨m, rfl⟩ : ∃ m', m = m' + 1 := ⟨m - 1, by omega⟩
  rw [e]
  exact hK k m (by omega) (by omega)
theorem Ev2.bind {D R : Type} {f : Nat → Option D} {d : D} {G : Nat → Nat → D → Option R} {r : R} (h : Ev f d) (h2 : Ev2 (fun k m => G k m d) r) : Ev2 (fun k m => (f k).bind (G k m)) r := by
  obtain ⟨K, hK⟩ := h
  obtain ⟨L, hL⟩ := h2
  refine ⟨max K L, fun k m hk hm => ?_⟩
  show (f k).bind (G k m) = _
  rw [hK k (by omega)]
  exact hL k m (by omega) (by omega)
theorem Ev2.const {R : Type} {g : Nat → Nat → Option R} {r : R} (h : ∀ k m, g k m = some r) : Ev2 g r := ⟨0, fun k m _ _ => h k m⟩
theorem Ev2.ev {R : Type} {g : Nat → Option R} {r : R} (h : Ev g r) : Ev2 (fun k _ => g k) r := by
  obtain ⟨K, hK⟩ := h
  exact ⟨K, fun k _ hk _ => hK k hk⟩
theorem Ev2.inner {R : Type} {g : Nat → Nat → Option R} {r : R} (h : Ev2 g r) : Ev2 (fun k _ => g k k) r := .ev h.diag
theorem Ev2.congr {R : Type} {f g : Nat → Nat → Option R} {r : R} (h : Ev2 f r) (e : ∀ k m, g k m = f k m) : Ev2 g r := by
  obtain ⟨K, hK⟩ := h
  exact ⟨K, fun k m hk hm => by rw [e]; exact hK k m hk hm⟩
theorem Ev.unique {R : Type} {g : Nat → Option R} {r r' : R} (h : Ev g r) (h' : Ev g r') : r = r' := by
  obtain ⟨K, hK⟩ := h
  obtain ⟨L, hL⟩ := h'
  have a := hK (max K L) (by omega)
  rw [hL (max K L) (by omega)] at a
  exact (Option.some.inj a).symm
/-- Three kinds of rounds. -/
def Ev3 {R : Type} (g : Nat → Nat → Nat → Option R) (r : R) : Prop := ∃ K, ∀ k m n, K ≤ k → K ≤ m → K ≤ n → g k m n = some r
theorem Ev3.diag {R : Type} {g : Nat → Nat → Nat → Option R} {r : R} (h : Ev3 g r) : Ev2 (fun k m => g k m k) r := by
  obtain ⟨K, hK⟩ := h
  exact ⟨K, fun k m hk hm => hK k m k hk hm hk⟩
theorem Ev3.step {R : Type} {g g' : Nat → Nat → Nat → Option R} {r : R} (h : Ev3 g' r) (e : ∀ k m n, g k m (n + 1) = g' k m n) : Ev3 g r := by
  obtain ⟨K, hK⟩ := h
  refine ⟨K + 1, fun k m n hk hm hn => ?_⟩
  obtain ⟨n, rfl⟩ : ∃ m', n = m' + 1 := ⟨n - 1, by omega⟩
  rw [e]
  exact hK k m n (by omega) (by omega) (by omega)
theorem Ev3.bind {D R : Type} {f : Nat → Option D} {d : D} {G : Nat → Nat → Nat → D → Option R} {r : R} (h : Ev f d) (h2 : Ev3 (fun k m n => G k m n d) r) : Ev3 (fun k m n => (f k).bind (G k m n)) r := by
  obtain ⟨K, hK⟩ := h
  obtain ⟨L, hL⟩ := h2
  refine ⟨max K L, fun k m n hk hm hn => ?_⟩
  show (f k).bind (G k m n) = _
  rw [hK k (by omega)]
  exact hL k m n (by omega) (by omega) (by omega)
theorem Ev3.const {R : Type} {g : Nat → Nat → Nat → Option R} {r : R} (h : ∀ k m n, g k m n = some r) : Ev3 g r := ⟨0, fun k m n _ _ _ => h k m n⟩
theorem Ev3.out {R : Type} {g : Nat → Nat → Option R} {r : R} (h : Ev2 g r) : Ev3 (fun k m _ => g k m) r := by
  obtain ⟨K, hK⟩ := h
  exact ⟨K, fun k m _ hk hm _ => hK k m hk hm⟩
theorem drop_cons {A : Type} {d : A} {s : List A} {j : Nat} (h : j < s.length) : s.drop j = getAt d s j :: s.drop (j + 1) := by
  rw [getAt_lt h]; exact List.drop_eq_getElem_cons h
/-- A loop over a row from place j on; what is carried is told by st. -/
theorem Ev2.each {A R S : Type} (s : List A) (d : A) (g : Nat → Nat → Nat → S → Option R) (inv : Nat → S → Prop) (res : List A → Nat → S → R)
    (hnil : ∀ st, inv s.length st → Ev2 (fun k m => g k m s.length st) (res [] s.length st))
    (hcons : ∀ j x l st, s.drop j = x :: l → j < s.length → getAt d s j = x → inv j st → (∀ st', inv (j + 1) st' → Ev2 (fun k m => g k m (j + 1) st') (res l (j + 1) st')) → Ev2 (fun k m => g k m j st) (res (x :: l) j st)) :
    ∀ n j st, j + n = s.length → inv j st → Ev2 (fun k m => g k m j st) (res (s.drop j) j st) := by
  intro n
  induction n with
  | zero =>
    intro j st hj hi
    obtain rfl : j = s.length := by omega
    rw [List.drop_length]
    exact hnil st hi
  | succ n ih =>
    intro j st hj hi
    have hlt : j < s.length := by omega
    have e := drop_cons (d := d) hlt
    rw [e]
    exact hcons j _ _ st e hlt rfl hi fun st' h' => ih (j + 1) st' (by omega) h'
/-- The same where nothing is carried. -/
theorem Ev2.look {A R : Type} (s : List A) (d : A) (g : Nat → Nat → Nat → Option R) (res : List A → Nat → R)
    (hnil : Ev2 (fun k m => g k m s.length) (res [] s.length))
    (hcons : ∀ j x l, s.drop j = x :: l → j < s.length → getAt d s j = x → Ev2 (fun k m => g k m (j + 1)) (res l (j + 1)) → Ev2 (fun k m => g k m j) (res (x :: l) j)) :
    Ev2 (fun k m => g k m 0) (res s 0) :=
  Ev2.each s d (fun k m j (_ : Unit) => g k m j) (fun _ _ => True) (fun l j _ => res l j) (fun _ _ => hnil) (fun j x l _ h1 h2 h3 _ ih => hcons j x l h1 h2 h3 (ih () trivial)) s.length 0 () (by omega) trivial
/-- The first place where p holds, -1 for none. -/
def fidx {A : Type} (p : A → Bool) : List A → Nat → Int
  | [], _ => -1
  | x :: l, j => match p x with | true => (j : Int) | false => fidx p l (j + 1)
theorem fidx_any {A : Type} (p : A → Bool) : ∀ (l : List A) (j : Nat), decide ((0 : Int) ≤ fidx p l j) = l.any p
  | [], _ => by simp [fidx]
  | x :: l, j => by
    cases h : p x with
    | true => simp [fidx, h]
    | false => simp only [fidx, h, List.any_cons, Bool.false_or]; exact fidx_any p l (j + 1)
theorem cn_ite {A : Type} (b : Bool) (x y : A) : cn b x y = if b = true then x else y := by cases b <;> rfl
/-! ### Small things (rooms) -/
theorem cnNo {A : Type} {b : Bool} {x y : A} (h : b = false) : cn b x y = y := by subst h; rfl
theorem cnYes {A : Type} {b : Bool} {x y : A} (h : b = true) : cn b x y = x := by subst h; rfl
theorem gdYes {A : Type} {b : Bool} {x : Option A} (h : b = true) : gd b x = x := by subst h; rfl
theorem getAt_mid {A : Type} (d x : A) (a b : List A) (n : Nat) (h : n = a.length) : getAt d (a ++ x :: b) n = x := by
  subst h
  rw [getAt_lt (by simp)]
  simp
theorem set_mid {A : Type} (x y : A) (a b : List A) (n : Nat) (h : n = a.length) : (a ++ x :: b).set n y = a ++ y :: b := by subst h; simp
theorem both_self {R : Type} (x : Option R) : both x x = x := if_pos rfl
theorem dup_eq {R : Type} (x : Option R) : dup x = x := both_self x
/-! ### Rows written over from the front -/
def mid {A : Type} (a b : List A) (j : Nat) : List A := a.take j ++ b.drop j
theorem mid_zero {A : Type} (a b : List A) : mid a b 0 = b := by simp [mid]
theorem mid_all {A : Type} {a b : List A} {j : Nat} (h : j = a.length) (hb : b.length = a.length) : mid a b j = a := by
  subst h; unfold mid; rw [List.take_length, List.drop_of_length_le (by omega), List.append_nil]
theorem mid_len {A : Type} {a b : List A} (j : Nat) (hb : b.length = a.length) : (mid a b j).length = a.length := by
  simp [mid]; omega
theorem mid_get {A : Type} {d : A} {a b : List A} {j : Nat} (hb : b.length = a.length) (hj : j < a.length) : getAt d (mid a b j) j = getAt d b j := by
  have hl : (a.take j).length = j := by simp; omega
  rw [getAt_lt (by rw [mid_len j hb]; exact hj), getAt_lt (by omega)]
  unfold mid
  rw [List.getElem_append_right (by omega)]
  simp [hl]
theorem mid_step {A : Type} {d : A} {a b : List A} {j : Nat} (hb : b.length = a.length) (hj : j < a.length) : mid a b (j + 1) = a.take j ++ getAt d a j :: b.drop (j + 1) := by
  rw [getAt_lt hj]
  show a.take (j + 1) ++ b.drop (j + 1) = _
  rw [List.take_succ_eq_append_getElem hj, List.append_assoc]; rfl
theorem mid_set {A : Type} {d x : A} {a b : List A} {j : Nat} (hb : b.length = a.length) (hj : j < a.length) (hx : x = getAt d a j) : (mid a b j).set j x = mid a b (j + 1) := by
  have hl : (a.take j).length = j := by simp; omega
  rw [mid_step (d := d) hb hj]
  unfold mid
  rw [List.set_append_right _ _ (by omega), hl, Nat.sub_self, drop_cons (d := d) (by omega : j < b.length), hx]; rfl
theorem mid_keep {A : Type} {d : A} {a b : List A} {j : Nat} (hb : b.length = a.length) (hj : j < a.length) (hx : getAt d b j = getAt d a j) : mid a b j = mid a b (j + 1) := by
  rw [mid_step (d := d) hb hj, ← hx, ← drop_cons (by omega : j < b.length)]; rfl
theorem getAt_ext {A : Type} (d : A) {a b : List A} (hl : a.length = b.length) (h : ∀ i, i < a.length → getAt d a i = getAt d b i) : a = b := by
  refine List.ext_getElem hl fun i h1 h2 => ?_
  have := h i h1
  rwa [getAt_lt h1, getAt_lt h2] at this
theorem getAt_replicate {A : Type} (d : A) (n i : Nat) : getAt d (List.replicate n d) i = d := by
  unfold getAt
  rw [List.getD_eq_getElem?_getD, List.getElem?_replicate]
  split <;> rfl
theorem appOk_le {n b : Nat} (hb : b ≤ 1024) (h : n ≤ 1073741824) : appOk n b = true := by
  unfold appOk
  have : n * b ≤ 1073741824 * 1024 := Nat.mul_le_mul h hb
  rw [decide_eq_true (by omega : n ≤ 2 ^ 46), decide_eq_true (by omega : n * b ≤ 2 ^ 46)]; rfl
theorem bytes_string : Try.prog.bytesOf (9 : Nat) ≤ 1024 := by rw [show Try.prog.bytesOf (9 : Nat) = 16 by kernel_rfl]; decide
theorem bytes_int : Try.prog.bytesOf (3 : Nat) ≤ 1024 := by rw [show Try.prog.bytesOf (3 : Nat) = 8 by kernel_rfl]; decide
theorem bytes_bool : Try.prog.bytesOf (4 : Nat) ≤ 1024 := by rw [show Try.prog.bytesOf (4 : Nat) = 1 by kernel_rfl]; decide
theorem bytes_uint8 : Try.prog.bytesOf (5 : Nat) ≤ 1024 := by rw [show Try.prog.bytesOf (5 : Nat) = 1 by kernel_rfl]; decide
theorem beq_nt (a b : Bool) : (!a == b) = !decide (a = b) := by cases a <;> cases b <;> rfl
/-! ### Rows of rows of numbers -/
theorem w_eqIntSS.ev (a : List (List Int)) (ha : a.length ≤ 1048576) (hx : ∀ x ∈ a, x.length ≤ maxLen) : Ev (fun k => w_eqIntSS.f k a a) true := by
  refine Ev.congr ?_ fun k => w_eqIntSS.f_eq k _ _
  simp only [decide_true, cnNo (show (!true) = false from rfl)]
  have key : ∀ n j : Nat, j + n = a.length → Ev2 (fun k m => w_eqIntSS.l0 k m a a (j : Int)) true := by
    intro n
    induction n with
    | zero =>
      intro j hj
      refine .step ?_ fun k m => w_eqIntSS.l0_s k m _ _ _
      simp only [cnF (show ¬ (j : Int) < (a.length : Int) by omega)]
      exact .const fun _ _ => rfl
    | succ n ih =>
      intro j hj
      have hj' : j < a.length := by omega
      refine .step ?_ fun k m => w_eqIntSS.l0_s k m _ _ _
      simp only [cnT (show (j : Int) < (a.length : Int) by omega), Int.toNat_natCast, gdYes (inb_nat hj'), wrap_succ (show j < 9223372036854775807 by omega)]
      refine .bind (w_eqIntS.ev _ (by rw [getAt_lt hj']; exact hx _ (List.getElem_mem hj'))) ?_
      refine Ev2.congr (ih (j + 1) (by omega)) fun k m => ?_
      exact cnNo rfl
  exact (key a.length 0 (by omega)).diag
def sumN : List Nat → Nat
  | [] => 0
  | n :: l => n + sumN l
def mkss : Nat → List Nat → List (List Int)
  | _, [] => []
  | s, n :: l => marks s n :: mkss (s + n) l
theorem mkss_len : ∀ (s : Nat) (l : List Nat), (mkss s l).length = l.length
  | _, [] => rfl
  | s, n :: l => by unfold mkss; simp [mkss_len]
theorem w_markIntSS.ev (a : List (List Int)) (s : Nat) (ha : a.length ≤ 1048576) (hs : s + sumN (a.map List.length) ≤ 9223372036854775806) : Ev (fun k => w_markIntSS.f k a (s : Int)) (((s + sumN (a.map List.length) : Nat) : Int), mkss s (a.map List.length)) := by
  have key : ∀ (rest done : List (List Int)) (s : Nat), done.length + rest.length ≤ 1048576 → s + sumN (rest.map List.length) ≤ 9223372036854775806 →
      Ev2 (fun k m => w_markIntSS.l0 k m (s : Int) (done.length : Int) (done ++ rest)) (((s + sumN (rest.map List.length) : Nat) : Int), done ++ mkss s (rest.map List.length)) := by
    intro rest
    induction rest with
    | nil =>
      intro done s _ _
      refine .step ?_ fun k m => w_markIntSS.l0_s k m _ _ _
      simp only [cnF (show ¬ (done.length : Int) < ((done ++ ([] : List (List Int))).length : Int) by simp)]
      exact .const fun _ _ => rfl
    | cons x rest ih =>
      intro done s hl hs
      simp only [List.length_cons, List.map_cons, sumN] at hl hs
      have ez : (done ++ x :: rest).length = done.length + (rest.length + 1) := by simp
      refine .step ?_ fun k m => w_markIntSS.l0_s k m _ _ _
      simp only [ez, cnT (show (done.length : Int) < ((done.length + (rest.length + 1) : Nat) : Int) by omega), Int.toNat_natCast, gdYes (inb_nat (show done.length < done.length + (rest.length + 1) by omega)), getAt_mid [] x done rest done.length rfl, wrap_succ (show done.length < 9223372036854775807 by omega)]
      refine .bind (w_markIntS.ev x s (by omega)) ?_
      have := ih (done ++ [marks s x.length]) (s + x.length) (by simp; omega) (by omega)
      simp only [List.length_append, List.length_cons, List.length_nil, List.append_assoc, List.cons_append, List.nil_append, List.map_cons, sumN, mkss] at this ⊢
      have e1 : (done ++ x :: rest).set done.length (marks s x.length) = done ++ marks s x.length :: rest := by simp
      have e2 : s + x.length + sumN (rest.map List.length) = s + (x.length + sumN (rest.map List.length)) := by omega
      rw [e1]
      rw [e2] at this
      exact this
  refine Ev.congr ?_ fun k => w_markIntSS.f_eq k _ _
  have := (key a [] s (by simpa using ha) hs).diag
  exact this
theorem w_heldIntSS.ev (l : List Nat) (s : Nat) (hl : l.length ≤ 1048576) (hs : s + sumN l ≤ 9223372036854775806) : Ev (fun k => w_heldIntSS.f k (mkss s l) (s : Int)) ((s + sumN l : Nat) : Int) := by
  have key : ∀ (l : List Nat) (pre : List (List Int)) (s : Nat), pre.length + l.length ≤ 1048576 → s + sumN l ≤ 9223372036854775806 →
      Ev2 (fun k m => w_heldIntSS.l0 k m (pre ++ mkss s l) (s : Int) (pre.length : Int)) ((s + sumN l : Nat) : Int) := by
    intro l
    induction l with
    | nil =>
      intro pre s _ _
      refine .step ?_ fun k m => w_heldIntSS.l0_s k m _ _ _
      simp only [cnF (show ¬ (pre.length : Int) < ((pre ++ mkss s []).length : Int) by simp [mkss])]
      exact .const fun _ _ => rfl
    | cons n l ih =>
      intro pre s hl hs
      simp only [List.length_cons, sumN] at hl hs
      have ez : (pre ++ mkss s (n :: l)).length = pre.length + (l.length + 1) := by rw [List.length_append, mkss_len]; rfl
      refine .step ?_ fun k m => w_heldIntSS.l0_s k m _ _ _
      have eg : getAt [] (pre ++ mkss s (n :: l)) pre.length = marks s n := getAt_mid [] (marks s n) pre (mkss (s + n) l) pre.length rfl
      simp only [ez, cnT (show (pre.length : Int) < ((pre.length + (l.length + 1) : Nat) : Int) by omega), Int.toNat_natCast, gdYes (inb_nat (show pre.length < pre.length + (l.length + 1) by omega)), eg, wrap_succ (show pre.length < 9223372036854775807 by omega)]
      refine .bind (w_heldIntS.ev s n (by omega)) ?_
      simp only [cnF (show ¬ ((s + n : Nat) : Int) < 0 by omega)]
      have := ih (pre ++ [marks s n]) (s + n) (by simp; omega) (by omega)
      simp only [List.length_append, List.length_cons, List.length_nil, List.append_assoc, List.cons_append, List.nil_append] at this
      have e2 : s + n + sumN l = s + sumN (n :: l) := by show s + n + sumN l = s + (n + sumN l); omega
      rw [e2] at this
      exact this
  refine Ev.congr ?_ fun k => w_heldIntSS.f_eq k _ _
  have := (key l [] s (by simpa using hl) hs).diag
  exact this
/-! ### Rooms: the law's own functions -/
abbrev RoomsT : Type := List (List Int) × List (Int × Int)
theorem w_eqHeld.ev (a b : Int) : ∀ k, w_eqHeld.f k a b a b = some true := fun k => by rw [w_eqHeld.f_eq]; simp only [decide_true, cnNo (show (!true) = false from rfl)]
theorem w_eqHeldS.ev (a : List (Int × Int)) (ha : a.length ≤ maxLen) : Ev (fun k => w_eqHeldS.f k a a) true := by
  rw [maxLen_eq] at ha
  refine Ev.congr ?_ fun k => w_eqHeldS.f_eq k _ _
  simp only [decide_true, cnNo (show (!true) = false from rfl)]
  have key : ∀ n j : Nat, j + n = a.length → Ev2 (fun k m => w_eqHeldS.l0 k m a a (j : Int)) true := by
    intro n
    induction n with
    | zero =>
      intro j hj
      refine .step ?_ fun k m => w_eqHeldS.l0_s k m _ _ _
      simp only [cnF (show ¬ (j : Int) < (a.length : Int) by omega)]
      exact .const fun _ _ => rfl
    | succ n ih =>
      intro j hj
      have hj' : j < a.length := by omega
      refine .step ?_ fun k m => w_eqHeldS.l0_s k m _ _ _
      simp only [cnT (show (j : Int) < (a.length : Int) by omega), Int.toNat_natCast, gdYes (inb_nat hj'), wrap_succ (show j < 9223372036854775807 by omega), w_eqHeld.ev, Option.bind_some]
      refine Ev2.congr (ih (j + 1) (by omega)) fun k m => ?_
      exact cnNo rfl
  exact (key a.length 0 (by omega)).diag
def mhs : Nat → Nat → List (Int × Int)
  | _, 0 => []
  | s, n + 1 => ((s : Int), ((s + 1 : Nat) : Int)) :: mhs (s + 2) n
theorem mhs_len : ∀ s n : Nat, (mhs s n).length = n
  | _, 0 => rfl
  | s, n + 1 => by simp [mhs, mhs_len]
theorem w_markHeldS.ev (a : List (Int × Int)) (s : Nat) (hs : s + 2 * a.length ≤ 9223372036854775805) : Ev (fun k => w_markHeldS.f k a (s : Int)) (((s + 2 * a.length : Nat) : Int), mhs s a.length) := by
  have key : ∀ (rest done : List (Int × Int)) (s : Nat), done.length + rest.length ≤ 9223372036854775806 → s + 2 * rest.length ≤ 9223372036854775805 →
      Ev2 (fun k m => w_markHeldS.l0 k m (s : Int) (done.length : Int) (done ++ rest)) (((s + 2 * rest.length : Nat) : Int), done ++ mhs s rest.length) := by
    intro rest
    induction rest with
    | nil =>
      intro done s _ _
      refine .step ?_ fun k m => w_markHeldS.l0_s k m _ _ _
      simp only [cnF (show ¬ (done.length : Int) < ((done ++ ([] : List (Int × Int))).length : Int) by simp)]
      exact .const fun _ _ => rfl
    | cons x rest ih =>
      intro done s hl hs
      simp only [List.length_cons] at hl hs
      have ez : ∀ y : Int × Int, (done ++ y :: rest).length = done.length + (rest.length + 1) := fun y => by simp
      refine .step ?_ fun k m => w_markHeldS.l0_s k m _ _ _
      have w1 : IntKind.i64.wrap ((s : Int) + 1) = ((s + 1 : Nat) : Int) := wrap_succ (by omega)
      have w2 : IntKind.i64.wrap (((s + 1 : Nat) : Int) + 1) = ((s + 2 : Nat) : Int) := wrap_succ (by omega)
      simp only [List.length_set, ez, cnT (show (done.length : Int) < ((done.length + (rest.length + 1) : Nat) : Int) by omega), Int.toNat_natCast, gdYes (inb_nat (show done.length < done.length + (rest.length + 1) by omega)), getAt_mid _ x done rest done.length rfl, set_mid x _ done rest done.length rfl, getAt_mid _ ((s : Int), x.2) done rest done.length rfl, set_mid ((s : Int), x.2) _ done rest done.length rfl, wrap_succ (show done.length < 9223372036854775807 by omega), w1, w2]
      have := ih (done ++ [((s : Int), ((s + 1 : Nat) : Int))]) (s + 2) (by simp; omega) (by omega)
      simp only [List.length_append, List.length_cons, List.length_nil, List.append_assoc, List.cons_append, List.nil_append] at this
      rw [show s + 2 * (x :: rest).length = s + 2 + 2 * rest.length by simp; omega, show mhs s (x :: rest).length = ((s : Int), ((s + 1 : Nat) : Int)) :: mhs (s + 2) rest.length from rfl]
      exact this
  refine Ev.congr ?_ fun k => w_markHeldS.f_eq k _ _
  have := (key a [] s (by simp; omega) hs).diag
  exact this
theorem w_heldHeldS.ev (s n : Nat) (hs : s + 2 * n ≤ 9223372036854775805) : Ev (fun k => w_heldHeldS.f k (mhs s n) (s : Int)) ((s + 2 * n : Nat) : Int) := by
  have key : ∀ (n : Nat) (pre : List (Int × Int)) (s : Nat), pre.length + n ≤ 9223372036854775806 → s + 2 * n ≤ 9223372036854775805 →
      Ev2 (fun k m => w_heldHeldS.l0 k m (pre ++ mhs s n) (s : Int) (pre.length : Int)) ((s + 2 * n : Nat) : Int) := by
    intro n
    induction n with
    | zero =>
      intro pre s _ _
      refine .step ?_ fun k m => w_heldHeldS.l0_s k m _ _ _
      simp only [cnF (show ¬ (pre.length : Int) < ((pre ++ mhs s 0).length : Int) by simp [mhs])]
      exact .const fun _ _ => rfl
    | succ n ih =>
      intro pre s hl hs
      have ez : (pre ++ mhs s (n + 1)).length = pre.length + (n + 1) := by rw [List.length_append, mhs_len]
      have eg : getAt ((0 : Int), (0 : Int)) (pre ++ mhs s (n + 1)) pre.length = ((s : Int), ((s + 1 : Nat) : Int)) := getAt_mid _ _ pre (mhs (s + 2) n) pre.length rfl
      have w1 : IntKind.i64.wrap ((s : Int) + 1) = ((s + 1 : Nat) : Int) := wrap_succ (by omega)
      have w2 : IntKind.i64.wrap (((s + 1 : Nat) : Int) + 1) = ((s + 2 : Nat) : Int) := wrap_succ (by omega)
      refine .step ?_ fun k m => w_heldHeldS.l0_s k m _ _ _
      simp only [ez, cnT (show (pre.length : Int) < ((pre.length + (n + 1) : Nat) : Int) by omega), Int.toNat_natCast, gdYes (inb_nat (show pre.length < pre.length + (n + 1) by omega)), eg, wrap_succ (show pre.length < 9223372036854775807 by omega), w1, w2, decide_true, cnNo (show (!true) = false from rfl)]
      have := ih (pre ++ [((s : Int), ((s + 1 : Nat) : Int))]) (s + 2) (by simp; omega) (by omega)
      simp only [List.length_append, List.length_cons, List.length_nil, List.append_assoc, List.cons_append, List.nil_append] at this
      rw [show s + 2 * (n + 1) = s + 2 + 2 * n by omega]
      exact this
  refine Ev.congr ?_ fun k => w_heldHeldS.f_eq k _ _
  have := (key n [] s (by simp; omega) hs).diag
  exact this
theorem w_eqRooms.ev (f : List (List Int)) (h : List (Int × Int)) (hf : f.length ≤ 1048576) (hx : ∀ x ∈ f, x.length ≤ maxLen) (hh : h.length ≤ maxLen) : Ev (fun k => w_eqRooms.f k f h f h) true := by
  refine Ev.congr ?_ fun k => w_eqRooms.f_eq k _ _ _ _
  refine .bind (w_eqIntSS.ev f hf hx) ?_
  simp only [cnNo (show (!true) = false from rfl)]
  refine .bind (w_eqHeldS.ev h hh) ?_
  exact .const fun _ => rfl
theorem w_markRooms.ev (f : List (List Int)) (h : List (Int × Int)) (s : Nat) (hf : f.length ≤ 1048576) (hs : s + sumN (f.map List.length) + 2 * h.length ≤ 9223372036854775805) :
    Ev (fun k => w_markRooms.f k f h (s : Int)) (((s + sumN (f.map List.length) + 2 * h.length : Nat) : Int), mkss s (f.map List.length), mhs (s + sumN (f.map List.length)) h.length) := by
  refine Ev.congr ?_ fun k => w_markRooms.f_eq k _ _ _
  refine .bind (w_markIntSS.ev f s hf (by omega)) ?_
  refine .bind (w_markHeldS.ev h _ (by omega)) ?_
  exact .const fun _ => rfl
theorem w_heldRooms.ev (l : List Nat) (n s : Nat) (hl : l.length ≤ 1048576) (hs : s + sumN l + 2 * n ≤ 9223372036854775805) :
    Ev (fun k => w_heldRooms.f k (mkss s l) (mhs (s + sumN l) n) (s : Int)) ((s + sumN l + 2 * n : Nat) : Int) := by
  refine Ev.congr ?_ fun k => w_heldRooms.f_eq k _ _ _
  refine .bind (w_heldIntSS.ev l s hl (by omega)) ?_
  simp only [cnF (show ¬ ((s + sumN l : Nat) : Int) < 0 by omega)]
  refine .bind (w_heldHeldS.ev _ n (by omega)) ?_
  exact .const fun k => by rw [cnF (show ¬ ((s + sumN l + 2 * n : Nat) : Int) < 0 by omega)]
/-! ### New rooms -/
def newR : RoomsT := ([[], [], [], [], [], [0]], [])
theorem i_NewRooms.eq (k : Nat) : i_NewRooms.f k = some newR := by rw [i_NewRooms.f_eq]; rfl
theorem s_NewRooms.eq (k : Nat) : s_NewRooms.f k = some newR := by rw [s_NewRooms.f_eq]; rfl
theorem lawNewRooms : Ev (fun k => w_FnExactNewRooms.f k) true := by
  have hm := maxLen_eq
  refine Ev.congr ?_ fun k => w_FnExactNewRooms.f_eq k
  have eqr := w_eqRooms.ev newR.1 newR.2 (by decide) (fun x hx => by simp [newR] at hx; rcases hx with rfl | rfl <;> simp <;> omega) (by simp [newR])
  have mk := w_markRooms.ev newR.1 newR.2 1 (by decide) (by decide)
  have hl := w_heldRooms.ev (newR.1.map List.length) newR.2.length 1 (by decide) (by decide)
  generalize hS : 1 + sumN (newR.1.map List.length) + 2 * newR.2.length = S at mk hl
  refine Ev.bind (.const s_NewRooms.eq) ?_
  refine Ev.bind (.const i_NewRooms.eq) ?_
  refine Ev.bind eqr ?_
  simp only [cnNo (show (!true) = false from rfl)]
  refine Ev.bind mk ?_
  refine Ev.bind hl ?_
  simp only [cnF (show ¬ (S : Int) < 0 by omega), decide_true, cnNo (show (!true) = false from rfl)]
  refine Ev.bind (.const i_NewRooms.eq) ?_
  refine Ev.bind eqr ?_
  simp only [cnNo (show (!true) = false from rfl)]
  refine Ev.bind hl ?_
  exact .const fun _ => by simp only [cnF (show ¬ (S : Int) < 0 by omega), decide_true, cnNo (show (!true) = false from rfl)]
end Go.Proofs.Ytlkbmcmglkdciaa
