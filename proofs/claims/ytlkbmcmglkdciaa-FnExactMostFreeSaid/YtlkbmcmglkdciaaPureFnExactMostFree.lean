/- What the functions of the law come to, in numbers, rows and texts alone. No condition. -/
import Derived.Test.YtlkbmcmglkdciaaFMF
set_option linter.unusedVariables false
set_option linter.unusedSimpArgs false
namespace Go.Proofs.Ytlkbmcmglkdciaa
open Go Go.Proofs.YtlkbmcmglkdciaaE
/-! ### Limits, numbers, rows -/
/-- From some number of rounds on it is r. -/
def Ev {R : Type} (g : Nat → Option R) (r : R) : Prop := ∃ K, ∀ k, K ≤ k → g k = some r
theorem Ev.const {R : Type} {g : Nat → Option R} {r : R} (h : ∀ k, g k = some r) : Ev g r := ⟨0, fun k _ => h k⟩
theorem Ev.of {R : Type} {g : Nat → Option R} {r : R} (K : Nat) (h : ∀ k, K ≤ k → g k = some r) : Ev g r := ⟨K, h⟩
theorem Ev.bind {D R : Type} {f : Nat → Option D} {d : D} {G : Nat → D → Option R} {r : R} (h : Ev f d) (h2 : Ev (fun k => G k d) r) : Ev (fun k => (f k).bind (G k)) r := by
  obtain ⟨K, hK⟩ := h
  obtain ⟨L, hL⟩ := h2
  refine ⟨max K L, fun k hk => ?_⟩
  show (f k).bind (G k) = _
  rw [hK k (by omega)]
  exact hL k (by omega)
theorem Ev.congr {R : Type} {f g : Nat → Option R} {r : R} (h : Ev f r) (e : ∀ k, g k = f k) : Ev g r := by
  obtain ⟨K, hK⟩ := h
  exact ⟨K, fun k hk => by rw [e]; exact hK k hk⟩
theorem cn_t {A : Type} (x y : A) : cn true x y = x := rfl
theorem cn_f {A : Type} (x y : A) : cn false x y = y := rfl
theorem gd_t {A : Type} (x : Option A) : gd true x = x := rfl
theorem cnT {A : Type} {p : Prop} [Decidable p] {x y : A} (h : p) : cn (decide p) x y = x := by rw [decide_eq_true h]; rfl
theorem cnF {A : Type} {p : Prop} [Decidable p] {x y : A} (h : ¬ p) : cn (decide p) x y = y := by rw [decide_eq_false h]; rfl
theorem cnNT {A : Type} {p : Prop} [Decidable p] {x y : A} (h : p) : cn (!decide p) x y = y := by rw [decide_eq_true h]; rfl
theorem cnNF {A : Type} {p : Prop} [Decidable p] {x y : A} (h : ¬ p) : cn (!decide p) x y = x := by rw [decide_eq_false h]; rfl
theorem gdT {A : Type} {p : Prop} [Decidable p] {x : Option A} (h : p) : gd (decide p) x = x := by rw [decide_eq_true h]; rfl
theorem inb_nat {i n : Nat} (h : i < n) : inb (i : Int) n = true := by
  unfold inb
  rw [decide_eq_true (by omega : (0 : Int) ≤ (i : Int)), decide_eq_true (by omega : (i : Int) < (n : Int))]; rfl
theorem wrap_eq {n : Int} (h1 : -9223372036854775808 ≤ n) (h2 : n ≤ 9223372036854775807) : IntKind.i64.wrap n = n := by
  have key : IntKind.i64.wrap n = if n % 18446744073709551616 ≥ 9223372036854775808 then n % 18446744073709551616 - 18446744073709551616 else n % 18446744073709551616 := by
    unfold IntKind.wrap
    simp [IntKind.bits, IntKind.signed]
  rw [key]
  split <;> omega
theorem wrap_succ {n : Nat} (h : n < 9223372036854775807) : IntKind.i64.wrap ((n : Int) + 1) = ((n + 1 : Nat) : Int) := by rw [wrap_eq (by omega) (by omega)]; omega
theorem getAt_lt {A : Type} {d : A} {xs : List A} {i : Nat} (h : i < xs.length) : getAt d xs i = xs[i] := by simp [getAt, h]
theorem maxLen_eq : maxLen = 9223372036854775807 := by decide
/-- A row written over from the front. -/
theorem set_front {A : Type} {d : A} (a h : List A) (j : Nat) (hj : j < a.length) (hl : h.length = a.length) (hh : h.take j = a.take j) : (h.set j (getAt d a j)).take (j + 1) = a.take (j + 1) := by
  rw [getAt_lt hj, List.take_succ_eq_append_getElem hj, List.take_succ_eq_append_getElem (by simp; omega), List.getElem_set_self, List.take_set_of_le (Nat.le_refl j), hh]
def marks (s n : Nat) : List Int := (List.range n).map fun i => ((s + i : Nat) : Int)
theorem w_toIntS.loop (k : Nat) (a : List Int) (ha : a.length ≤ maxLen) : ∀ (n j m : Nat) (h : List Int), j + n = a.length → h.length = a.length → h.take j = a.take j → n < m → w_toIntS.l0 k m a j h = some a := by
  rw [maxLen_eq] at ha
  intro n
  induction n with
  | zero =>
    intro j m h hj hl hh hm
    obtain ⟨m, rfl⟩ : ∃ m', m = m' + 1 := ⟨m - 1, by omega⟩
    rw [w_toIntS.l0_s, cnF (by omega)]
    rw [List.take_of_length_le (by omega), List.take_of_length_le (by omega)] at hh
    rw [hh]
  | succ n ih =>
    intro j m h hj hl hh hm
    obtain ⟨m, rfl⟩ : ∃ m', m = m' + 1 := ⟨m - 1, by omega⟩
    rw [w_toIntS.l0_s, cnT (by omega), inb_nat (by omega), gd_t, inb_nat (by omega), gd_t, wrap_succ (by omega), Int.toNat_natCast]
    exact ih (j + 1) m _ (by omega) (by simpa using hl) (set_front a h j (by omega) hl hh) (by omega)
theorem w_toIntS.ev (a : List Int) (ha : a.length ≤ 1048576) : Ev (fun k => w_toIntS.f k a) a := .of (a.length + 1) fun k hk => by
  show w_toIntS.f k a = _
  rw [w_toIntS.f_eq]
  have h1 : mkOk (↑a.length : Int) (↑a.length : Int) (Try.prog.bytesOf (3 : Nat)) = true := by
    rw [show Try.prog.bytesOf (3 : Nat) = 8 by kernel_rfl]
    unfold mkOk
    simp; omega
  rw [h1, gd_t]
  exact w_toIntS.loop k a (by rw [maxLen_eq]; omega) a.length 0 k _ (by omega) (by simp) (by simp) (by omega)
theorem w_eqIntS.loop (k : Nat) (a : List Int) (ha : a.length ≤ maxLen) : ∀ (n j m : Nat), j + n = a.length → n < m → w_eqIntS.l0 k m a a j = some true := by
  rw [maxLen_eq] at ha
  intro n
  induction n with
  | zero =>
    intro j m hj hm
    obtain ⟨m, rfl⟩ : ∃ m', m = m' + 1 := ⟨m - 1, by omega⟩
    rw [w_eqIntS.l0_s, cnF (by omega)]
  | succ n ih =>
    intro j m hj hm
    obtain ⟨m, rfl⟩ : ∃ m', m = m' + 1 := ⟨m - 1, by omega⟩
    rw [w_eqIntS.l0_s, cnT (by omega), inb_nat (by omega), gd_t, gd_t, cnNT rfl, wrap_succ (by omega)]
    exact ih (j + 1) m (by omega) (by omega)
theorem w_eqIntS.ev (a : List Int) (ha : a.length ≤ maxLen) : Ev (fun k => w_eqIntS.f k a a) true := .of (a.length + 1) fun k hk => by
  show w_eqIntS.f k a a = _
  rw [w_eqIntS.f_eq, cnNT rfl]
  exact w_eqIntS.loop k a ha a.length 0 k (by omega) (by omega)
/-! ### Small things -/
theorem byteArray_toList_eq {a b : ByteArray} : a.toList = b.toList ↔ a = b := by
  constructor
  · intro h
    have : a.data.toList = b.data.toList := by rw [ByteArray.toList_eq, ByteArray.toList_eq] at h; exact h
    exact ByteArray.ext (Array.ext' this)
  · rintro rfl; rfl
theorem i_within.eq (k : Nat) (n lo hi : Int) : i_within.f k n lo hi = some (decide (lo ≤ n ∧ n ≤ hi)) := by
  rw [i_within.f_eq]
  by_cases h : lo ≤ n
  · rw [cnT h]; simp [h]
  · rw [cnF h]; simp [h]
theorem s_l1In.eq (k : Nat) (n lo hi : Int) : s_l1In.f k n lo hi = some (decide (lo ≤ n ∧ n ≤ hi)) := by
  rw [s_l1In.f_eq]
  by_cases h : lo ≤ n
  · rw [cnT h]; simp [h]
  · rw [cnF h]; simp [h]
/-! ### Loops: rounds to spare -/
def Ev2 {R : Type} (g : Nat → Nat → Option R) (r : R) : Prop := ∃ K, ∀ k m, K ≤ k → K ≤ m → g k m = some r
theorem Ev2.diag {R : Type} {g : Nat → Nat → Option R} {r : R} (h : Ev2 g r) : Ev (fun k => g k k) r := by
  obtain ⟨K, hK⟩ := h
  exact ⟨K, fun k hk => hK k k hk hk⟩
theorem Ev2.step {R : Type} {g g' : Nat → Nat → Option R} {r : R} (h : Ev2 g' r) (e : ∀ k m, g k (m + 1) = g' k m) : Ev2 g r := by
  obtain ⟨K, hK⟩ := h
  refine ⟨K + 1, fun k m hk hm => ?_⟩
  obtain ⟨m, rfl⟩ : ∃ m', m = m' + 1 := ⟨m - 1, by omega⟩
  rw [e]
  exact hK k m (by omega) (by omega)
theorem Ev2.bind {D R : Type} {f : Nat → Option D} {d : D} {G : Nat → Nat → D → Option R} {r : R} (h : Ev f d) (h2 : Ev2 (fun k m => G k m d) r) : Ev2 (fun k m => (f k).bind (G k m)) r := by
  obtain ⟨K, hK⟩ := h
  obtain ⟨L, hL⟩ := h2
  refine ⟨max K L, fun k m hk hm => ?_⟩
  show (f k).bind (G k m) = _
  rw [hK k (by omega)]
  exact hL k m (by omega) (by omega)
theorem Ev2.const {R : Type} {g : Nat → Nat → Option R} {r : R} (h : ∀ k m, g k m = some r) : Ev2 g r := ⟨0, fun k m _ _ => h k m⟩
theorem Ev2.ev {R : Type} {g : Nat → Option R} {r : R} (h : Ev g r) : Ev2 (fun k _ => g k) r := by
  obtain ⟨K, hK⟩ := h
  exact ⟨K, fun k _ hk _ => hK k hk⟩
theorem Ev2.inner {R : Type} {g : Nat → Nat → Option R} {r : R} (h : Ev2 g r) : Ev2 (fun k _ => g k k) r := .ev h.diag
theorem Ev2.congr {R : Type} {f g : Nat → Nat → Option R} {r : R} (h : Ev2 f r) (e : ∀ k m, g k m = f k m) : Ev2 g r := by
  obtain ⟨K, hK⟩ := h
  exact ⟨K, fun k m hk hm => by rw [e]; exact hK k m hk hm⟩
theorem Ev.unique {R : Type} {g : Nat → Option R} {r r' : R} (h : Ev g r) (h' : Ev g r') : r = r' := by
  obtain ⟨K, hK⟩ := h
  obtain ⟨L, hL⟩ := h'
  have a := hK (max K L) (by omega)
  rw [hL (max K L) (by omega)] at a
  exact (Option.some.inj a).symm
/-- Three kinds of rounds. -/
def Ev3 {R : Type} (g : Nat → Nat → Nat → Option R) (r : R) : Prop := ∃ K, ∀ k m n, K ≤ k → K ≤ m → K ≤ n → g k m n = some r
theorem Ev3.diag {R : Type} {g : Nat → Nat → Nat → Option R} {r : R} (h : Ev3 g r) : Ev2 (fun k m => g k m k) r := by
  obtain ⟨K, hK⟩ := h
  exact ⟨K, fun k m hk hm => hK k m k hk hm hk⟩
theorem Ev3.step {R : Type} {g g' : Nat → Nat → Nat → Option R} {r : R} (h : Ev3 g' r) (e : ∀ k m n, g k m (n + 1) = g' k m n) : Ev3 g r := by
  obtain ⟨K, hK⟩ := h
  refine ⟨K + 1, fun k m n hk hm hn => ?_⟩
  obtain ⟨n, rfl⟩ : ∃ m', n = m' + 1 := ⟨n - 1, by omega⟩
  rw [e]
  exact hK k m n (by omega) (by omega) (by omega)
theorem Ev3.bind {D R : Type} {f : Nat → Option D} {d : D} {G : Nat → Nat → Nat → D → Option R} {r : R} (h : Ev f d) (h2 : Ev3 (fun k m n => G k m n d) r) : Ev3 (fun k m n => (f k).bind (G k m n)) r := by
  obtain ⟨K, hK⟩ := h
  obtain ⟨L, hL⟩ := h2
  refine ⟨max K L, fun k m n hk hm hn => ?_⟩
  show (f k).bind (G k m n) = _
  rw [hK k (by omega)]
  exact hL k m n (by omega) (by omega) (by omega)
theorem Ev3.const {R : Type} {g : Nat → Nat → Nat → Option R} {r : R} (h : ∀ k m n, g k m n = some r) : Ev3 g r := ⟨0, fun k m n _ _ _ => h k m n⟩
theorem Ev3.out {R : Type} {g : Nat → Nat → Option R} {r : R} (h : Ev2 g r) : Ev3 (fun k m _ => g k m) r := by
  obtain ⟨K, hK⟩ := h
  exact ⟨K, fun k m _ hk hm _ => hK k m hk hm⟩
theorem drop_cons {A : Type} {d : A} {s : List A} {j : Nat} (h : j < s.length) : s.drop j = getAt d s j :: s.drop (j + 1) := by
  rw [getAt_lt h]; exact List.drop_eq_getElem_cons h
/-- A loop over a row from place j on; what is carried is told by st. -/
theorem Ev2.each {A R S : Type} (s : List A) (d : A) (g : Nat → Nat → Nat → S → Option R) (inv : Nat → S → Prop) (res : List A → Nat → S → R)
    (hnil : ∀ st, inv s.length st → Ev2 (fun k m => g k m s.length st) (res [] s.length st))
    (hcons : ∀ j x l st, s.drop j = x :: l → j < s.length → getAt d s j = x → inv j st → (∀ st', inv (j + 1) st' → Ev2 (fun k m => g k m (j + 1) st') (res l (j + 1) st')) → Ev2 (fun k m => g k m j st) (res (x :: l) j st)) :
    ∀ n j st, j + n = s.length → inv j st → Ev2 (fun k m => g k m j st) (res (s.drop j) j st) := by
  intro n
  induction n with
  | zero =>
    intro j st hj hi
    obtain rfl : j = s.length := by omega
    rw [List.drop_length]
    exact hnil st hi
  | succ n ih =>
    intro j st hj hi
    have hlt : j < s.length := by omega
    have e := drop_cons (d := d) hlt
    rw [e]
    exact hcons j _ _ st e hlt rfl hi fun st' h' => ih (j + 1) st' (by omega) h'
/-- The same where nothing is carried. -/
theorem Ev2.look {A R : Type} (s : List A) (d : A) (g : Nat → Nat → Nat → Option R) (res : List A → Nat → R)
    (hnil : Ev2 (fun k m => g k m s.length) (res [] s.length))
    (hcons : ∀ j x l, s.drop j = x :: l → j < s.length → getAt d s j = x → Ev2 (fun k m => g k m (j + 1)) (res l (j + 1)) → Ev2 (fun k m => g k m j) (res (x :: l) j)) :
    Ev2 (fun k m => g k m 0) (res s 0) :=
  Ev2.each s d (fun k m j (_ : Unit) => g k m j) (fun _ _ => True) (fun l j _ => res l j) (fun _ _ => hnil) (fun j x l _ h1 h2 h3 _ ih => hcons j x l h1 h2 h3 (ih () trivial)) s.length 0 () (by omega) trivial
/-- The first place where p holds, -1 for none. -/
def fidx {A : Type} (p : A → Bool) : List A → Nat → Int
  | [], _ => -1
  | x :: l, j => match p x with | true => (j : Int) | false => fidx p l (j + 1)
theorem fidx_any {A : Type} (p : A → Bool) : ∀ (l : List A) (j : Nat), decide ((0 : Int) ≤ fidx p l j) = l.any p
  | [], _ => by simp [fidx]
  | x :: l, j => by
    cases h : p x with
    | true => simp [fidx, h]
    | false => simp only [fidx, h, List.any_cons, Bool.false_or]; exact fidx_any p l (j + 1)
theorem cn_ite {A : Type} (b : Bool) (x y : A) : cn b x y = if b = true then x else y := by cases b <;> rfl
/-! ### Small things (rooms) -/
theorem cnNo {A : Type} {b : Bool} {x y : A} (h : b = false) : cn b x y = y := by subst h; rfl
theorem cnYes {A : Type} {b : Bool} {x y : A} (h : b = true) : cn b x y = x := by subst h; rfl
theorem gdYes {A : Type} {b : Bool} {x : Option A} (h : b = true) : gd b x = x := by subst h; rfl
theorem getAt_mid {A : Type} (d x : A) (a b : List A) (n : Nat) (h : n = a.length) : getAt d (a ++ x :: b) n = x := by
  subst h
  rw [getAt_lt (by simp)]
  simp
theorem set_mid {A : Type} (x y : A) (a b : List A) (n : Nat) (h : n = a.length) : (a ++ x :: b).set n y = a ++ y :: b := by subst h; simp
theorem both_self {R : Type} (x : Option R) : both x x = x := if_pos rfl
theorem dup_eq {R : Type} (x : Option R) : dup x = x := both_self x
/-! ### Rows written over from the front -/
def mid {A : Type} (a b : List A) (j : Nat) : List A := a.take j ++ b.drop j
theorem mid_zero {A : Type} (a b : List A) : mid a b 0 = b := by simp [mid]
theorem mid_all {A : Type} {a b : List A} {j : Nat} (h : j = a.length) (hb : b.length = a.length) : mid a b j = a := by
  subst h; unfold mid; rw [List.take_length, List.drop_of_length_le (by omega), List.append_nil]
theorem mid_len {A : Type} {a b : List A} (j : Nat) (hb : b.length = a.length) : (mid a b j).length = a.length := by
  simp [mid]; omega
theorem mid_get {A : Type} {d : A} {a b : List A} {j : Nat} (hb : b.length = a.length) (hj : j < a.length) : getAt d (mid a b j) j = getAt d b j := by
  have hl : (a.take j).length = j := by simp; omega
  rw [getAt_lt (by rw [mid_len j hb]; exact hj), getAt_lt (by omega)]
  unfold mid
  rw [List.getElem_append_right (by omega)]
  simp [hl]
theorem mid_step {A : Type} {d : A} {a b : List A} {j : Nat} (hb : b.length = a.length) (hj : j < a.length) : mid a b (j + 1) = a.take j ++ getAt d a j :: b.drop (j + 1) := by
  rw [getAt_lt hj]
  show a.take (j + 1) ++ b.drop (j + 1) = _
  rw [List.take_succ_eq_append_getElem hj, List.append_assoc]; rfl
theorem mid_set {A : Type} {d x : A} {a b : List A} {j : Nat} (hb : b.length = a.length) (hj : j < a.length) (hx : x = getAt d a j) : (mid a b j).set j x = mid a b (j + 1) := by
  have hl : (a.take j).length = j := by simp; omega
  rw [mid_step (d := d) hb hj]
  unfold mid
  rw [List.set_append_right _ _ (by omega), hl, Nat.sub_self, drop_cons (d := d) (by omega : j < b.length), hx]; rfl
theorem mid_keep {A : Type} {d : A} {a b : List A} {j : Nat} (hb : b.length = a.length) (hj : j < a.length) (hx : getAt d b j = getAt d a j) : mid a b j = mid a b (j + 1) := by
  rw [mid_step (d := d) hb hj, ← hx, ← drop_cons (by omega : j < b.length)]; rfl
theorem getAt_ext {A : Type} (d : A) {a b : List A} (hl : a.length = b.length) (h : ∀ i, i < a.length → getAt d a i = getAt d b i) : a = b := by
  refine List.ext_getElem hl fun i h1 h2 => ?_
  have := h i h1
  rwa [getAt_lt h1, getAt_lt h2] at this
theorem getAt_replicate {A : Type} (d : A) (n i : Nat) : getAt d (List.replicate n d) i = d := by
  unfold getAt
  rw [List.getD_eq_getElem?_getD, List.getElem?_replicate]
  split <;> rfl
theorem appOk_le {n b : Nat} (hb : b ≤ 1024) (h : n ≤ 1073741824) : appOk n b = true := by
  unfold appOk
  have : n * b ≤ 1073741824 * 1024 := Nat.mul_le_mul h hb
  rw [decide_eq_true (by omega : n ≤ 2 ^ 46), decide_eq_true (by omega : n * b ≤ 2 ^ 46)]; rfl
theorem bytes_string : Try.prog.bytesOf (9 : Nat) ≤ 1024 := by rw [show Try.prog.bytesOf (9 : Nat) = 16 by kernel_rfl]; decide
theorem bytes_int : Try.prog.bytesOf (3 : Nat) ≤ 1024 := by rw [show Try.prog.bytesOf (3 : Nat) = 8 by kernel_rfl]; decide
theorem bytes_bool : Try.prog.bytesOf (4 : Nat) ≤ 1024 := by rw [show Try.prog.bytesOf (4 : Nat) = 1 by kernel_rfl]; decide
theorem bytes_uint8 : Try.prog.bytesOf (5 : Nat) ≤ 1024 := by rw [show Try.prog.bytesOf (5 : Nat) = 1 by kernel_rfl]; decide
theorem beq_nt (a b : Bool) : (!a == b) = !decide (a = b) := by cases a <;> cases b <;> rfl
/-! ### Rows of rows of numbers -/
def sumN : List Nat → Nat
  | [] => 0
  | n :: l => n + sumN l
def mkss : Nat → List Nat → List (List Int)
  | _, [] => []
  | s, n :: l => marks s n :: mkss (s + n) l
theorem mkss_len : ∀ (s : Nat) (l : List Nat), (mkss s l).length = l.length
  | _, [] => rfl
  | s, n :: l => by unfold mkss; simp [mkss_len]
theorem w_eqIntSS.ev (a : List (List Int)) (ha : a.length ≤ 1048576) (hx : ∀ x ∈ a, x.length ≤ maxLen) : Ev (fun k => w_eqIntSS.f k a a) true := by
  refine Ev.congr ?_ fun k => w_eqIntSS.f_eq k _ _
  simp only [decide_true, cnNo (show (!true) = false from rfl)]
  have key : ∀ n j : Nat, j + n = a.length → Ev2 (fun k m => w_eqIntSS.l0 k m a a (j : Int)) true := by
    intro n
    induction n with
    | zero =>
      intro j hj
      refine .step ?_ fun k m => w_eqIntSS.l0_s k m _ _ _
      simp only [cnF (show ¬ (j : Int) < (a.length : Int) by omega)]
      exact .const fun _ _ => rfl
    | succ n ih =>
      intro j hj
      have hj' : j < a.length := by omega
      refine .step ?_ fun k m => w_eqIntSS.l0_s k m _ _ _
      simp only [cnT (show (j : Int) < (a.length : Int) by omega), Int.toNat_natCast, gdYes (inb_nat hj'), wrap_succ (show j < 9223372036854775807 by omega)]
      refine .bind (w_eqIntS.ev _ (by rw [getAt_lt hj']; exact hx _ (List.getElem_mem hj'))) ?_
      refine Ev2.congr (ih (j + 1) (by omega)) fun k m => ?_
      exact cnNo rfl
  exact (key a.length 0 (by omega)).diag
/-! ### Rooms: the law's own functions -/
abbrev RoomsT : Type := List (List Int) × List (Int × Int)
def mhs : Nat → Nat → List (Int × Int)
  | _, 0 => []
  | s, n + 1 => ((s : Int), ((s + 1 : Nat) : Int)) :: mhs (s + 2) n
theorem mhs_len : ∀ s n : Nat, (mhs s n).length = n
  | _, 0 => rfl
  | s, n + 1 => by simp [mhs, mhs_len]
theorem w_eqHeld.ev (a b : Int) : ∀ k, w_eqHeld.f k a b a b = some true := fun k => by rw [w_eqHeld.f_eq]; simp only [decide_true, cnNo (show (!true) = false from rfl)]
theorem w_eqHeldS.ev (a : List (Int × Int)) (ha : a.length ≤ maxLen) : Ev (fun k => w_eqHeldS.f k a a) true := by
  rw [maxLen_eq] at ha
  refine Ev.congr ?_ fun k => w_eqHeldS.f_eq k _ _
  simp only [decide_true, cnNo (show (!true) = false from rfl)]
  have key : ∀ n j : Nat, j + n = a.length → Ev2 (fun k m => w_eqHeldS.l0 k m a a (j : Int)) true := by
    intro n
    induction n with
    | zero =>
      intro j hj
      refine .step ?_ fun k m => w_eqHeldS.l0_s k m _ _ _
      simp only [cnF (show ¬ (j : Int) < (a.length : Int) by omega)]
      exact .const fun _ _ => rfl
    | succ n ih =>
      intro j hj
      have hj' : j < a.length := by omega
      refine .step ?_ fun k m => w_eqHeldS.l0_s k m _ _ _
      simp only [cnT (show (j : Int) < (a.length : Int) by omega), Int.toNat_natCast, gdYes (inb_nat hj'), wrap_succ (show j < 9223372036854775807 by omega), w_eqHeld.ev, Option.bind_some]
      refine Ev2.congr (ih (j + 1) (by omega)) fun k m => ?_
      exact cnNo rfl
  exact (key a.length 0 (by omega)).diag
theorem w_eqRooms.ev (f : List (List Int)) (h : List (Int × Int)) (hf : f.length ≤ 1048576) (hx : ∀ x ∈ f, x.length ≤ maxLen) (hh : h.length ≤ maxLen) : Ev (fun k => w_eqRooms.f k f h f h) true := by
  refine Ev.congr ?_ fun k => w_eqRooms.f_eq k _ _ _ _
  refine .bind (w_eqIntSS.ev f hf hx) ?_
  simp only [cnNo (show (!true) = false from rfl)]
  refine .bind (w_eqHeldS.ev h hh) ?_
  exact .const fun _ => rfl
/-! ### Good rooms -/
/-- The place of the other half. -/
def bud (a : Int) (o : Nat) : Int := IntKind.i64.wrap (↑(BitVec.ofInt (64 : Nat) a ^^^ BitVec.ofInt (64 : Nat) (IntKind.i64.wrap ((1 : Int) * (2 : Int) ^ min o (64 : Nat)))).toNat : Int)
def roomB (a o : Int) : Bool := decide (0 ≤ o ∧ o ≤ 5) && (decide (0 ≤ a ∧ a ≤ 31) && decide (a.tmod ((2 : Int) ^ o.toNat) = 0))
theorem pw_small {o : Nat} (h : o ≤ 5) : IntKind.i64.wrap ((1 : Int) * (2 : Int) ^ min o (64 : Nat)) = (2 : Int) ^ o := by
  have : o = 0 ∨ o = 1 ∨ o = 2 ∨ o = 3 ∨ o = 4 ∨ o = 5 := by omega
  rcases this with rfl | rfl | rfl | rfl | rfl | rfl <;> decide
theorem u64_small {o : Int} (h0 : 0 ≤ o) (h : o ≤ 1048576) : IntKind.u64.wrap o = o := by
  simp only [IntKind.wrap, IntKind.bits, IntKind.signed]
  simp; omega
theorem pw_pos (o : Nat) : (0 : Int) < (2 : Int) ^ o := Int.pow_pos (by decide)
theorem i_isRoom.eq (k : Nat) (a o : Int) : i_isRoom.f k a o = some (roomB a o) := by
  rw [i_isRoom.f_eq, i_within.eq, Option.bind_some]
  unfold roomB
  by_cases h : 0 ≤ o ∧ o ≤ 5
  · simp only [decide_eq_true h, cn_t, i_within.eq, Option.bind_some, Bool.true_and]
    by_cases h2 : 0 ≤ a ∧ a ≤ 31
    · have e := pw_small (o := o.toNat) (by omega)
      have hp := pw_pos o.toNat
      simp only [decide_eq_true h2, cn_t, e, decide_eq_true h.1, gd_t, decide_eq_false (show ¬ (2 : Int) ^ o.toNat = 0 by omega), Bool.not_false, Bool.true_and]
    · simp only [decide_eq_false h2, cn_f, Bool.false_and]
  · simp only [decide_eq_false h, cn_f, Bool.false_and]
theorem s_l14Room.eq (k : Nat) (a o : Int) : s_l14Room.f k a o = some (roomB a o) := by
  rw [s_l14Room.f_eq, s_l1In.eq, Option.bind_some]
  unfold roomB
  by_cases h : 0 ≤ o ∧ o ≤ 5
  · simp only [decide_eq_true h, cn_t, s_l1In.eq, Option.bind_some, Bool.true_and]
    by_cases h2 : 0 ≤ a ∧ a ≤ 31
    · have e := pw_small (o := o.toNat) (by omega)
      have hp := pw_pos o.toNat
      have hu := u64_small h.1 (by omega)
      simp only [decide_eq_true h2, cn_t, hu, e, decide_eq_true h.1, gd_t, decide_eq_false (show ¬ (2 : Int) ^ o.toNat = 0 by omega), Bool.not_false, Bool.true_and]
    · simp only [decide_eq_false h2, cn_f, Bool.false_and]
  · simp only [decide_eq_false h, cn_f, Bool.false_and]
theorem b_Index_int.ev (s : List Int) (v : Int) (hs : s.length < 9223372036854775807) : Ev (fun k => b_Index_int.f k s v) (fidx (fun x => decide (v = x)) s 0) := by
  refine Ev.congr ?_ fun k => b_Index_int.f_eq k s v
  refine Ev2.diag (g := fun k m => b_Index_int.l0 k m s v (s.length : Int) 0) ?_
  refine Ev2.look s 0 (fun k m j => b_Index_int.l0 k m s v (s.length : Int) (j : Int)) (fun l j => fidx (fun x => decide (v = x)) l j) ?_ ?_
  · refine .step ?_ fun k m => b_Index_int.l0_s k m _ _ _ _
    simp only [cnF (show ¬ ((s.length : Nat) : Int) < (s.length : Int) by omega)]
    exact .const fun _ _ => rfl
  · intro j x l _ hj hx ih
    refine .step ?_ fun k m => b_Index_int.l0_s k m _ _ _ _
    simp only [cnT (show (j : Int) < (s.length : Int) by omega), inb_nat hj, gd_t, Int.toNat_natCast, hx, fidx, wrap_succ (show j < 9223372036854775807 by omega)]
    by_cases h : v = x
    · simp only [decide_eq_true h, cn_t]
      exact .const fun _ _ => rfl
    · simp only [decide_eq_false h, cn_f]
      exact ih
theorem b_Contains_int.ev (s : List Int) (v : Int) (hs : s.length < 9223372036854775807) : Ev (fun k => b_Contains_int.f k s v) (decide (v ∈ s)) := by
  refine Ev.congr (.bind (b_Index_int.ev s v hs) ?_) fun k => b_Contains_int.f_eq k s v
  refine .const fun _ => ?_
  rw [fidx_any]
  congr 1
  rw [Bool.eq_iff_iff]
  simp
theorem s_l1Has.ev (s : List Int) (v : Int) (hs : s.length < 9223372036854775807) : Ev (fun k => s_l1Has.f k s v) (decide (v ∈ s)) := by
  refine Ev.congr ?_ fun k => s_l1Has.f_eq k s v
  have e : decide (v ∈ s) = s.any (fun x => decide (x = v)) := by rw [Bool.eq_iff_iff]; simp
  rw [e]
  refine Ev2.diag (g := fun k m => s_l1Has.l0 k m v s (s.length : Int) 0) ?_
  refine Ev2.look s 0 (fun k m j => s_l1Has.l0 k m v s (s.length : Int) (j : Int)) (fun l j => l.any fun x => decide (x = v)) ?_ ?_
  · refine .step ?_ fun k m => s_l1Has.l0_s k m _ _ _ _
    simp only [cnF (show ¬ ((s.length : Nat) : Int) < (s.length : Int) by omega)]
    exact .const fun _ _ => rfl
  · intro j x l _ hj hx ih
    refine .step ?_ fun k m => s_l1Has.l0_s k m _ _ _ _
    simp only [cnT (show (j : Int) < (s.length : Int) by omega), inb_nat hj, gd_t, Int.toNat_natCast, hx, List.any_cons, wrap_succ (show j < 9223372036854775807 by omega)]
    by_cases h : x = v
    · simp only [decide_eq_true h, cn_t, Bool.true_or]
      exact .const fun _ _ => rfl
    · simp only [decide_eq_false h, cn_f, Bool.false_or]
      exact ih
/-! ### What is covered -/
def covers (x : Int × Int) (p : Int) : Prop := x.1 ≤ p ∧ p < x.1 + (2 : Int) ^ x.2.toNat
instance (x : Int × Int) (p : Int) : Decidable (covers x p) := by unfold covers; exact inferInstance
def cov (l : List (Int × Int)) (p : Nat) : Nat := l.countP fun x => decide (covers x (p : Int))
def covL (l : List (Int × Int)) : List Int := (List.range 32).map fun p => (cov l p : Int)
theorem covL_len (l : List (Int × Int)) : (covL l).length = 32 := by simp [covL]
theorem cov_le (l : List (Int × Int)) (p : Nat) : cov l p ≤ l.length := List.countP_le_length
theorem cov_append (a b : List (Int × Int)) (p : Nat) : cov (a ++ b) p = cov a p + cov b p := List.countP_append
theorem cov_one (x : Int × Int) (p : Nat) : cov [x] p = if covers x p then 1 else 0 := by
  unfold cov
  rw [List.countP_cons]
  by_cases h : covers x p <;> simp [h]
theorem room_fits {a o : Int} (h : roomB a o = true) : 0 ≤ o ∧ o ≤ 5 ∧ 0 ≤ a ∧ a + (2 : Int) ^ o.toNat ≤ 32 ∧ a ≤ 31 ∧ a % (2 : Int) ^ o.toNat = 0 := by
  unfold roomB at h
  simp only [Bool.and_eq_true, decide_eq_true_eq] at h
  obtain ⟨⟨h1, h2⟩, ⟨h3, h4⟩, h5⟩ := h
  rw [Int.tmod_eq_emod_of_nonneg h3] at h5
  refine ⟨h1, h2, h3, ?_, h4, h5⟩
  obtain ⟨n, rfl⟩ : ∃ n : Nat, o = (n : Int) := ⟨o.toNat, by omega⟩
  rw [Int.toNat_natCast] at h5 ⊢
  have : n = 0 ∨ n = 1 ∨ n = 2 ∨ n = 3 ∨ n = 4 ∨ n = 5 := by omega
  rcases this with rfl | rfl | rfl | rfl | rfl | rfl <;> simp at h5 ⊢ <;> omega
theorem s_l14Cover.ev (acc : List (Int × Int)) (a o : Int) (hr : roomB a o = true) (hl : acc.length ≤ 9223372036854775805) : Ev (fun k => s_l14Cover.f k (covL acc) a o) ((), covL (acc ++ [(a, o)])) := by
  obtain ⟨h1, h2, h3, h4, h5, _⟩ := room_fits hr
  obtain ⟨a, rfl⟩ : ∃ n : Nat, a = (n : Int) := ⟨a.toNat, by omega⟩
  have hu := u64_small h1 (by omega)
  have e := pw_small (o := o.toNat) (by omega)
  obtain ⟨q, hq⟩ : ∃ q : Nat, (2 : Int) ^ o.toNat = (q : Int) := ⟨2 ^ o.toNat, by simp⟩
  have hw : IntKind.i64.wrap ((a : Int) + (q : Int)) = ((a + q : Nat) : Int) := by rw [wrap_eq (by omega) (by omega)]; omega
  rw [hq] at h4 e
  let F : Nat → List Int := fun c => (List.range 32).map fun p => ((cov acc p + if a ≤ p ∧ p < c then 1 else 0 : Nat) : Int)
  have F0 : F a = covL acc := by
    unfold F covL
    refine List.map_congr_left fun p _ => ?_
    rw [if_neg (by omega), Nat.add_zero]
  have Fe : F (a + q) = covL (acc ++ [((a : Int), o)]) := by
    unfold F covL
    refine List.map_congr_left fun p _ => ?_
    rw [cov_append, cov_one]
    congr 2
    have : covers ((a : Int), o) (p : Int) ↔ a ≤ p ∧ p < a + q := by
      unfold covers
      simp only [hq]
      omega
    simp only [this]
  have Fl : ∀ c, (F c).length = 32 := fun c => by simp [F]
  have Fg : ∀ c p, p < 32 → getAt 0 (F c) p = ((cov acc p + if a ≤ p ∧ p < c then 1 else 0 : Nat) : Int) := fun c p hp => by
    rw [getAt_lt (by rw [Fl]; exact hp)]
    simp [F]
  have key : ∀ n c : Nat, c + n = a + q → a ≤ c → Ev2 (fun k m => s_l14Cover.l0 k m (a : Int) o (c : Int) (F c)) ((), F (a + q)) := by
    intro n
    induction n with
    | zero =>
      intro c hc ha
      obtain rfl : c = a + q := by omega
      refine .step ?_ fun k m => s_l14Cover.l0_s k m _ _ _ _
      simp only [hu, decide_eq_true h1, gd_t, e, hw, cnF (show ¬ ((a + q : Nat) : Int) < ((a + q : Nat) : Int) by omega)]
      exact .const fun _ _ => rfl
    | succ n ih =>
      intro c hc ha
      have hc32 : c < 32 := by omega
      have hs : (F c).set c (((cov acc c + 1 : Nat) : Int)) = F (c + 1) := by
        refine getAt_ext 0 (by rw [List.length_set, Fl, Fl]) fun p hp => ?_
        rw [List.length_set, Fl] at hp
        rw [Fg _ _ hp, getAt_lt (by rw [List.length_set, Fl]; exact hp), List.getElem_set]
        by_cases hpc : c = p
        · subst hpc
          rw [if_pos rfl, if_pos (by omega)]
        · rw [if_neg hpc, ← getAt_lt (d := 0) (by rw [Fl]; exact hp), Fg _ _ hp]
          congr 2
          by_cases h : a ≤ p ∧ p < c
          · rw [if_pos h, if_pos (by omega)]
          · rw [if_neg h, if_neg (by omega)]
      have hb := cov_le acc c
      refine .step ?_ fun k m => s_l14Cover.l0_s k m _ _ _ _
      have hg : IntKind.i64.wrap (getAt (0 : Int) (F c) c + 1) = ((cov acc c + 1 : Nat) : Int) := by
        rw [Fg _ _ hc32, if_neg (by omega), Nat.add_zero]
        exact wrap_succ (by omega)
      simp only [hu, decide_eq_true h1, gd_t, e, hw, cnT (show (c : Int) < ((a + q : Nat) : Int) by omega), Fl, inb_nat hc32, Int.toNat_natCast, wrap_succ (show c < 9223372036854775807 by omega), hg, hs]
      exact ih (c + 1) (by omega) (by omega)
  refine Ev.congr ?_ fun k => s_l14Cover.f_eq k _ _ _
  have := (key q a rfl (Nat.le_refl _)).diag
  rw [F0, Fe] at this
  exact this
/-! ### Good rooms: what both sides come to -/
def okI (o : Nat) (l : List Int) (i : Nat) : Prop := ¬ (0 < i ∧ getAt 0 l i ≤ getAt 0 l (i - 1)) ∧ ¬ (o < 5 ∧ bud (getAt 0 l i) o ∈ l)
def okH (h : List (Int × Int)) (i : Nat) : Prop := ¬ (0 < i ∧ (getAt (0, 0) h i).1 ≤ (getAt (0, 0) h (i - 1)).1)
def frees : Nat → List (List Int) → List (Int × Int)
  | _, [] => []
  | o, l :: f => l.map (fun x => (x, (o : Int))) ++ frees (o + 1) f
def goodP (f : List (List Int)) (h : List (Int × Int)) : Prop :=
  f.length = 6 ∧ (∀ o, o < f.length → ∀ i, i < (getAt [] f o).length → okI o (getAt [] f o) i) ∧ (∀ i, i < h.length → okH h i) ∧ (∀ x ∈ frees 0 f ++ h, roomB x.1 x.2 = true) ∧ ∀ p : Nat, p < 32 → cov (frees 0 f ++ h) p = 1
noncomputable def goodR (f : List (List Int)) (h : List (Int × Int)) : Bool := @decide (goodP f h) (Classical.propDecidable _)
theorem goodR_true {f : List (List Int)} {h : List (Int × Int)} : goodR f h = true ↔ goodP f h := by unfold goodR; simp
theorem goodR_false {f : List (List Int)} {h : List (Int × Int)} : goodR f h = false ↔ ¬ goodP f h := by unfold goodR; simp
theorem frees_drop (f : List (List Int)) (o j : Nat) (hj : j < f.length) : frees (o + j) (f.drop j) = (getAt [] f j).map (fun x => (x, ((o + j : Nat) : Int))) ++ frees (o + (j + 1)) (f.drop (j + 1)) := by
  rw [drop_cons (d := []) hj]; rfl
theorem frees_len : ∀ (o : Nat) (f : List (List Int)), (frees o f).length = sumN (f.map List.length)
  | _, [] => rfl
  | o, l :: f => by simp [frees, sumN, frees_len (o + 1) f]
theorem sumN_drop_le (l : List (List Int)) (j : Nat) : sumN ((l.drop j).map List.length) ≤ sumN (l.map List.length) := by
  induction l generalizing j with
  | nil => simp
  | cons x l ih => cases j with
    | zero => exact Nat.le_refl _
    | succ j => simp only [List.drop_succ_cons, List.map_cons, sumN]; have := ih j; omega
theorem bytes_held : Try.prog.bytesOf (49 : Nat) ≤ 1024 := by rw [show Try.prog.bytesOf (49 : Nat) = 16 by kernel_rfl]; decide
/-! #### The program's -/
theorem i_l2 (f : List (List Int)) (h : List (Int × Int)) (o : Nat) (ho : o < 6) (l : List Int) (hl : l.length ≤ 1048576) (r : Bool) : ∀ (n j : Nat) (acc : List (Int × Int)), j + n = l.length → acc.length + n ≤ 1073741824 →
    ((∀ i, j ≤ i → i < l.length → okI o l i) → Ev2 (fun k m => i_GoodRooms.l0 k m f 6 (IntKind.i64.wrap ((o : Int) + 1)) f h (acc ++ (l.drop j).map fun x => (x, (o : Int)))) r) →
    ((¬ ∀ i, j ≤ i → i < l.length → okI o l i) → r = false) → Ev3 (fun k m q => i_GoodRooms.l2 k m q (o : Int) l f 6 (o : Int) l (l.length : Int) (j : Int) f h acc) r := by
  intro n
  induction n with
  | zero =>
    intro j acc hj ha h1 h2
    refine .step ?_ fun k m q => i_GoodRooms.l2_s k m q _ _ _ _ _ _ _ _ _ _ _
    simp only [cnF (show ¬ (j : Int) < (l.length : Int) by omega)]
    have := h1 fun i hi hi2 => by omega
    rw [List.drop_of_length_le (by omega), List.map_nil, List.append_nil] at this
    exact .out this
  | succ n ih =>
    intro j acc hj ha h1 h2
    have hjl : j < l.length := by omega
    have hd := drop_cons (d := 0) hjl
    have hap : appOk (acc.length + 1) (Try.prog.bytesOf (49 : Nat)) = true := appOk_le bytes_held (by omega)
    -- the rest, where this one is as it has to be
    have next : (okI o l j) → Ev3 (fun k m q => gd (appOk (acc.length + 1) (Try.prog.bytesOf (49 : Nat))) (i_GoodRooms.l2 k m q (o : Int) l f 6 (o : Int) l (l.length : Int) ((j + 1 : Nat) : Int) f h (acc ++ [(getAt 0 l j, (o : Int))]))) r := fun hok => by
      have := ih (j + 1) (acc ++ [(getAt 0 l j, (o : Int))]) (by omega) (by simp; omega) (fun hall => by
        have := h1 fun i hi hi2 => by
          rcases Nat.lt_or_ge j i with h | h
          · exact hall i h hi2
          · obtain rfl : i = j := by omega
            exact hok
        rw [hd] at this
        simpa using this) (fun hno => h2 fun hall => hno fun i hi hi2 => hall i (by omega) hi2)
      simp only [gdYes hap]
      exact this
    have fls : (¬ okI o l j) → r = false := fun hno => h2 fun hall => hno (hall j (Nat.le_refl _) hjl)
    have tail : ¬ (0 < j ∧ getAt 0 l j ≤ getAt 0 l (j - 1)) → Ev3 (fun k m q => cn (decide ((o : Int) < (5 : Int)))
      (gd (decide ((0 : Int) ≤ (o : Int)))
       ((b_Contains_int.f k l (bud (getAt 0 l j) o)).bind fun d0 =>
        cn d0
        (some false)
        (gd (appOk (acc.length + 1) (Try.prog.bytesOf (49 : Nat)))
         (i_GoodRooms.l2 k m q (o : Int) l f 6 (o : Int) l (l.length : Int) ((j + 1 : Nat) : Int) f h (acc ++ [(getAt 0 l j, (o : Int))])))))
      (gd (appOk (acc.length + 1) (Try.prog.bytesOf (49 : Nat)))
       (i_GoodRooms.l2 k m q (o : Int) l f 6 (o : Int) l (l.length : Int) ((j + 1 : Nat) : Int) f h (acc ++ [(getAt 0 l j, (o : Int))])))) r := fun hasc => by
      by_cases h5 : o < 5
      · simp only [cnT (show (o : Int) < 5 by omega), gdT (show (0 : Int) ≤ (o : Int) by omega)]
        refine .bind (b_Contains_int.ev l _ (by omega)) ?_
        by_cases hb : bud (getAt 0 l j) o ∈ l
        · simp only [decide_eq_true hb, cn_t]
          rw [fls fun hok => hok.2 ⟨h5, hb⟩]
          exact .const fun _ _ _ => rfl
        · simp only [decide_eq_false hb, cn_f]
          exact next ⟨hasc, fun hx => hb hx.2⟩
      · simp only [cnF (show ¬ (o : Int) < 5 by omega)]
        exact next ⟨hasc, fun hx => h5 hx.1⟩
    refine .step ?_ fun k m q => i_GoodRooms.l2_s k m q _ _ _ _ _ _ _ _ _ _ _
    simp only [cnT (show (j : Int) < (l.length : Int) by omega), Int.toNat_natCast, gdYes (inb_nat hjl), wrap_succ (show j < 9223372036854775807 by omega)]
    by_cases h0 : 0 < j
    · have hw : IntKind.i64.wrap ((j : Int) - 1) = ((j - 1 : Nat) : Int) := by rw [wrap_eq (by omega) (by omega)]; omega
      simp only [cnT (show (0 : Int) < (j : Int) by omega), hw, gdYes (inb_nat (show j - 1 < l.length by omega)), Int.toNat_natCast]
      by_cases hx : getAt 0 l j ≤ getAt 0 l (j - 1)
      · simp only [cnT hx]
        rw [fls fun hok => hok.1 ⟨h0, hx⟩]
        exact .const fun _ _ _ => rfl
      · simp only [cnF hx]
        exact tail fun hh => hx hh.2
    · simp only [cnF (show ¬ (0 : Int) < (j : Int) by omega)]
      exact tail fun hh => h0 hh.1
/-! ### Good rooms: all of them in a row -/
noncomputable def sortL (xs : List (Int × Int)) : List (Int × Int) := (Go.Sort.pdq (ltOf cmpH) xs.toArray 0 xs.length (Go.Lib.bitLen xs.length) true true).toList
theorem sortL_perm (xs : List (Int × Int)) : (sortL xs).Perm xs := (sorted_facts xs).1
theorem sortL_sorted (xs : List (Int × Int)) : (sortL xs).Pairwise (fun a b => a.1 ≤ b.1) := (sorted_facts xs).2
def walkR : Int → List (Int × Int) → Bool
  | a, [] => decide (a = 32)
  | a, x :: l => roomB x.1 x.2 && (decide (x.1 = a) && walkR (a + (2 : Int) ^ x.2.toNat) l)
theorem cov_cons (x : Int × Int) (l : List (Int × Int)) (p : Nat) : cov (x :: l) p = (if covers x p then 1 else 0) + cov l p := by
  rw [← cov_one, ← cov_append]; rfl
theorem walk_cov : ∀ (l : List (Int × Int)) (a : Int), 0 ≤ a → walkR a l = true → a ≤ 32 ∧ (∀ x ∈ l, roomB x.1 x.2 = true) ∧ ∀ p : Nat, cov l p = if a ≤ p ∧ (p : Int) < 32 then 1 else 0
  | [], a, h0, h => by
    simp only [walkR, decide_eq_true_eq] at h
    refine ⟨by omega, fun x hx => (by cases hx), fun p => ?_⟩
    rw [if_neg (by omega)]; rfl
  | x :: l, a, h0, h => by
    simp only [walkR, Bool.and_eq_true, decide_eq_true_eq] at h
    obtain ⟨h1, h2, h3⟩ := h
    have hp := pw_pos x.2.toNat
    obtain ⟨k1, k2, k3⟩ := walk_cov l (a + (2 : Int) ^ x.2.toNat) (by omega) h3
    refine ⟨by omega, fun y hy => ?_, fun p => ?_⟩
    · rcases List.mem_cons.1 hy with rfl | hy
      · exact h1
      · exact k2 y hy
    · rw [cov_cons, k3 p]
      by_cases c0 : covers x (p : Int)
      · have c1 := c0
        unfold covers at c1
        rw [h2] at c1
        rw [if_pos c0, if_neg (by omega), if_pos (by omega)]
      · have c1 := c0
        unfold covers at c1
        rw [h2] at c1
        rw [if_neg c0]
        by_cases c2 : a + (2 : Int) ^ x.2.toNat ≤ (p : Int) ∧ (p : Int) < 32
        · rw [if_pos c2, if_pos (by omega)]
        · rw [if_neg c2, if_neg (by omega)]
theorem cov_pos {l : List (Int × Int)} {p : Nat} (h : 0 < cov l p) : ∃ y ∈ l, covers y p := by
  unfold cov at h
  rw [List.countP_pos_iff] at h
  obtain ⟨y, h1, h2⟩ := h
  exact ⟨y, h1, by simpa using h2⟩
theorem cov_walk : ∀ (l : List (Int × Int)) (a : Int), 0 ≤ a → a ≤ 32 → l.Pairwise (fun x y => x.1 ≤ y.1) → (∀ x ∈ l, roomB x.1 x.2 = true) → (∀ p : Nat, cov l p = if a ≤ p ∧ (p : Int) < 32 then 1 else 0) → walkR a l = true
  | [], a, h0, h1, _, _, h => by
    simp only [walkR, decide_eq_true_eq]
    by_cases e : a = 32
    · exact e
    · have := h a.toNat
      rw [if_pos (by omega)] at this
      cases this
  | x :: l, a, h0, h1, hs, hr, h => by
    obtain ⟨r1, r2, r3, r4, r5, _⟩ := room_fits (hr x List.mem_cons_self)
    have hp := pw_pos x.2.toNat
    rw [List.pairwise_cons] at hs
    have hx : a ≤ x.1 ∧ x.1 < 32 := by
      have := h x.1.toNat
      rw [cov_cons, if_pos (by unfold covers; omega)] at this
      split at this
      · omega
      · omega
    have hxa : x.1 = a := by
      have e := h a.toNat
      rw [if_pos (by omega)] at e
      obtain ⟨y, hy, hc⟩ := cov_pos (l := x :: l) (p := a.toNat) (by omega)
      unfold covers at hc
      rcases List.mem_cons.1 hy with rfl | hy
      · omega
      · have := hs.1 y hy; omega
    show (roomB x.1 x.2 && (decide (x.1 = a) && walkR (a + (2 : Int) ^ x.2.toNat) l)) = true
    rw [hr x List.mem_cons_self, decide_eq_true hxa, Bool.true_and, Bool.true_and]
    refine cov_walk l _ (by omega) (by omega) hs.2 (fun y hy => hr y (List.mem_cons_of_mem _ hy)) fun p => ?_
    have := h p
    rw [cov_cons] at this
    by_cases c0 : covers x (p : Int)
    · have c1 := c0
      unfold covers at c1
      rw [hxa] at c1
      rw [if_pos c0, if_pos (by omega)] at this
      rw [if_neg (by omega)]; omega
    · have c1 := c0
      unfold covers at c1
      rw [hxa] at c1
      rw [if_neg c0] at this
      by_cases c2 : a + (2 : Int) ^ x.2.toNat ≤ (p : Int) ∧ (p : Int) < 32
      · rw [if_pos (by omega)] at this
        rw [if_pos c2]; omega
      · rw [if_neg (by omega)] at this
        rw [if_neg c2]; omega
theorem walk_sort (l : List (Int × Int)) : walkR 0 (sortL l) = true ↔ (∀ x ∈ l, roomB x.1 x.2 = true) ∧ ∀ p : Nat, p < 32 → cov l p = 1 := by
  have hp := sortL_perm l
  have hc : ∀ p, cov (sortL l) p = cov l p := fun p => hp.countP_eq _
  constructor
  · intro h
    obtain ⟨_, h1, h2⟩ := walk_cov _ 0 (Int.le_refl _) h
    refine ⟨fun x hx => h1 x (hp.mem_iff.2 hx), fun p hp' => ?_⟩
    rw [← hc, h2, if_pos (by omega)]
  · rintro ⟨h1, h2⟩
    refine cov_walk _ 0 (Int.le_refl _) (by decide) (sortL_sorted l) (fun x hx => h1 x (hp.mem_iff.1 hx)) fun p => ?_
    rw [hc]
    by_cases hp32 : p < 32
    · rw [h2 p hp32, if_pos (by omega)]
    · rw [if_neg (by omega)]
      refine Nat.eq_zero_of_not_pos fun hpos => ?_
      obtain ⟨y, hy, hcv⟩ := cov_pos hpos
      obtain ⟨_, _, _, r4, _⟩ := room_fits (h1 y hy)
      unfold covers at hcv
      omega
theorem i_l6 (s : List (Int × Int)) (hs : s.length ≤ 1073741824) : ∀ (n j : Nat) (a : Int), j + n = s.length → 0 ≤ a → a ≤ 32 → Ev2 (fun k m => i_GoodRooms.l6 k m a (s.length : Int) (j : Int) s) (walkR a (s.drop j)) := by
  intro n
  induction n with
  | zero =>
    intro j a hj h0 h1
    refine .step ?_ fun k m => i_GoodRooms.l6_s k m _ _ _ _
    simp only [cnF (show ¬ (j : Int) < (s.length : Int) by omega)]
    rw [List.drop_of_length_le (by omega)]
    exact .const fun _ _ => rfl
  | succ n ih =>
    intro j a hj h0 h1
    have hjl : j < s.length := by omega
    rw [drop_cons (d := ((0 : Int), (0 : Int))) hjl]
    refine .step ?_ fun k m => i_GoodRooms.l6_s k m _ _ _ _
    simp only [cnT (show (j : Int) < (s.length : Int) by omega), gdYes (inb_nat hjl), Int.toNat_natCast, i_isRoom.eq, Option.bind_some, wrap_succ (show j < 9223372036854775807 by omega), walkR]
    cases hr : roomB (getAt ((0 : Int), (0 : Int)) s j).1 (getAt ((0 : Int), (0 : Int)) s j).2 with
    | false =>
      simp only [Bool.not_false, cn_t, Bool.false_and]
      exact .const fun _ _ => rfl
    | true =>
      obtain ⟨r1, r2, r3, r4, r5, _⟩ := room_fits hr
      have hp := pw_pos (getAt ((0 : Int), (0 : Int)) s j).2.toNat
      have e := pw_small (o := (getAt ((0 : Int), (0 : Int)) s j).2.toNat) (by omega)
      simp only [Bool.not_true, cn_f, Bool.true_and]
      by_cases hx : (getAt ((0 : Int), (0 : Int)) s j).1 = a
      · have hw : IntKind.i64.wrap (a + (2 : Int) ^ (getAt ((0 : Int), (0 : Int)) s j).2.toNat) = a + (2 : Int) ^ (getAt ((0 : Int), (0 : Int)) s j).2.toNat := wrap_eq (by omega) (by omega)
        simp only [gdT r1, e, hw, decide_eq_true hx, Bool.true_and, Bool.not_true, cn_f]
        exact ih (j + 1) _ (by omega) (by omega) (by omega)
      · simp only [decide_eq_false hx, Bool.false_and, Bool.not_false, cn_t]
        exact .const fun _ _ => rfl
theorem sort_ev (xs : List (Int × Int)) (h : xs.length ≤ 1073741824) : ∀ k, b_SortFunc_Held__i_GoodRooms_1.f k xs = some ((), sortL xs) := fun k => by
  show sortF xs = _
  unfold sortF
  rw [decide_eq_true h]; rfl
theorem i_l4 (f : List (List Int)) (h : List (Int × Int)) (hh : h.length ≤ 1073741824) (r : Bool) : ∀ (n j : Nat) (acc : List (Int × Int)), j + n = h.length → acc.length + n ≤ 1073741824 →
    ((∀ i, j ≤ i → i < h.length → okH h i) → r = walkR 0 (sortL (acc ++ h.drop j))) → ((¬ ∀ i, j ≤ i → i < h.length → okH h i) → r = false) → Ev2 (fun k m => i_GoodRooms.l4 k m h (h.length : Int) (j : Int) f h acc) r := by
  intro n
  induction n with
  | zero =>
    intro j acc hj ha h1 h2
    refine .step ?_ fun k m => i_GoodRooms.l4_s k m _ _ _ _ _ _
    simp only [cnF (show ¬ (j : Int) < (h.length : Int) by omega), sort_ev acc (by omega), Option.bind_some]
    have := h1 fun i hi hi2 => by omega
    rw [List.drop_of_length_le (by omega), List.append_nil] at this
    rw [this]
    have hl : (sortL acc).length = acc.length := (sortL_perm acc).length_eq
    have := i_l6 (sortL acc) (by omega) (sortL acc).length 0 0 (by omega) (Int.le_refl _) (by decide)
    rw [List.drop_zero] at this
    exact .ev this.diag
  | succ n ih =>
    intro j acc hj ha h1 h2
    have hjl : j < h.length := by omega
    have hd := drop_cons (d := ((0 : Int), (0 : Int))) hjl
    have hap : appOk (acc.length + 1) (Try.prog.bytesOf (49 : Nat)) = true := appOk_le bytes_held (by omega)
    have next : okH h j → Ev2 (fun k m => i_GoodRooms.l4 k m h (h.length : Int) ((j + 1 : Nat) : Int) f h (acc ++ [getAt ((0 : Int), (0 : Int)) h j])) r := fun hok =>
      ih (j + 1) (acc ++ [getAt ((0 : Int), (0 : Int)) h j]) (by omega) (by simp; omega) (fun hall => by
        have := h1 fun i hi hi2 => by
          rcases Nat.lt_or_ge j i with h | h
          · exact hall i h hi2
          · obtain rfl : i = j := by omega
            exact hok
        rw [hd] at this
        simpa using this) (fun hno => h2 fun hall => hno fun i hi hi2 => hall i (by omega) hi2)
    refine .step ?_ fun k m => i_GoodRooms.l4_s k m _ _ _ _ _ _
    simp only [cnT (show (j : Int) < (h.length : Int) by omega), Int.toNat_natCast, gdYes (inb_nat hjl), gdYes hap, wrap_succ (show j < 9223372036854775807 by omega)]
    by_cases h0 : 0 < j
    · have hw : IntKind.i64.wrap ((j : Int) - 1) = ((j - 1 : Nat) : Int) := by rw [wrap_eq (by omega) (by omega)]; omega
      simp only [cnT (show (0 : Int) < (j : Int) by omega), hw, gdYes (inb_nat (show j - 1 < h.length by omega)), Int.toNat_natCast]
      by_cases hx : (getAt ((0 : Int), (0 : Int)) h j).1 ≤ (getAt ((0 : Int), (0 : Int)) h (j - 1)).1
      · simp only [cnT hx]
        rw [h2 fun hall => hall j (Nat.le_refl _) hjl ⟨h0, hx⟩]
        exact .const fun _ _ => rfl
      · simp only [cnF hx]
        exact next fun hh => hx hh.2
    · simp only [cnF (show ¬ (0 : Int) < (j : Int) by omega)]
      exact next fun hh => h0 hh.1
theorem i_l0 (f : List (List Int)) (h : List (Int × Int)) (hf : f.length = 6) (hh : h.length ≤ 1048576) (hx : ∀ x ∈ f, x.length ≤ 1048576) (r : Bool) : ∀ (n j : Nat) (acc : List (Int × Int)), j + n = 6 → acc.length ≤ 1048576 * j →
    ((∀ o, j ≤ o → o < 6 → ∀ i, i < (getAt [] f o).length → okI o (getAt [] f o) i) → (∀ i, i < h.length → okH h i) → r = walkR 0 (sortL (acc ++ (frees j (f.drop j) ++ h)))) →
    ((¬ ((∀ o, j ≤ o → o < 6 → ∀ i, i < (getAt [] f o).length → okI o (getAt [] f o) i) ∧ ∀ i, i < h.length → okH h i)) → r = false) →
    Ev2 (fun k m => i_GoodRooms.l0 k m f 6 (j : Int) f h acc) r := by
  intro n
  induction n with
  | zero =>
    intro j acc hj ha h1 h2
    refine .step ?_ fun k m => i_GoodRooms.l0_s k m _ _ _ _ _ _
    simp only [cnF (show ¬ (j : Int) < 6 by omega)]
    have e : f.drop j = [] := List.drop_of_length_le (by omega)
    rw [e] at h1
    refine Ev2.inner (g := fun k m => i_GoodRooms.l4 k m h (h.length : Int) 0 f h acc) ?_
    refine i_l4 f h (by omega) r h.length 0 acc (by omega) (by omega) (fun hall => ?_) (fun hno => h2 fun hh => hno fun i _ hi => hh.2 i hi)
    exact h1 (fun o ho1 ho2 => by omega) fun i hi => hall i (Nat.zero_le _) hi
  | succ n ih =>
    intro j acc hj ha h1 h2
    have hj6 : j < f.length := by omega
    refine .step ?_ fun k m => i_GoodRooms.l0_s k m _ _ _ _ _ _
    simp only [cnT (show (j : Int) < 6 by omega), hf, gdYes (inb_nat (show j < 6 by omega)), Int.toNat_natCast]
    have hlj : (getAt [] f j).length ≤ 1048576 := by rw [getAt_lt hj6]; exact hx _ (List.getElem_mem hj6)
    refine Ev3.diag (g := fun k m q => i_GoodRooms.l2 k m q (j : Int) (getAt [] f j) f 6 (j : Int) (getAt [] f j) ((getAt [] f j).length : Int) 0 f h acc) ?_
    refine i_l2 f h j (by omega) (getAt [] f j) hlj r (getAt [] f j).length 0 acc (by omega) (by omega) (fun hall => ?_) (fun hno => h2 fun hh => hno fun i _ hi => hh.1 j (Nat.le_refl _) (by omega) i hi)
    rw [wrap_succ (show j < 9223372036854775807 by omega), List.drop_zero]
    refine ih (j + 1) _ (by omega) (by simp; omega) (fun ho hk => ?_) (fun hno => h2 fun hh => hno ⟨fun o ho => hh.1 o (by omega), hh.2⟩)
    have := h1 (fun o ho1 ho2 i hi => by
      rcases Nat.lt_or_ge j o with h | h
      · exact ho o h ho2 i hi
      · obtain rfl : o = j := by omega
        exact hall i (Nat.zero_le _) hi) hk
    have e := frees_drop f 0 j hj6
    simp only [Nat.zero_add] at e
    rw [this, e]
    simp only [List.append_assoc]
theorem i_GoodRooms.ev (f : List (List Int)) (h : List (Int × Int)) (hf : f.length ≤ 1048576) (hx : ∀ x ∈ f, x.length ≤ 1048576) (hh : h.length ≤ 1048576) : Ev (fun k => i_GoodRooms.f k f h) (goodR f h) := by
  refine Ev.congr ?_ fun k => i_GoodRooms.f_eq k f h
  by_cases h6 : f.length = 6
  · have h6' : (f.length : Int) = 6 := by omega
    simp only [h6', decide_true, Bool.not_true, cn_f]
    refine Ev2.diag (g := fun k m => i_GoodRooms.l0 k m f 6 ((0 : Nat) : Int) f h []) ?_
    refine i_l0 f h h6 hh hx (goodR f h) 6 0 [] rfl (by simp) (fun ho hk => ?_) (fun hno => ?_)
    · rw [List.drop_zero, List.nil_append, Bool.eq_iff_iff, walk_sort, goodR_true]
      unfold goodP
      constructor
      · exact fun hg => ⟨hg.2.2.2.1, hg.2.2.2.2⟩
      · exact fun hg => ⟨h6, fun o h1 => ho o (Nat.zero_le _) (by omega), hk, hg.1, hg.2⟩
    · rw [goodR_false]
      exact fun hg => hno ⟨fun o _ h2 => hg.2.1 o (by omega), hg.2.2.1⟩
  · simp only [cnNF (show ¬ (f.length : Int) = 6 by omega)]
    rw [goodR_false.2 fun hg => h6 hg.1]
    exact .const fun _ => rfl
/-! #### The reference's -/
noncomputable def finS (f : List (List Int)) (l : List (Int × Int)) : Bool := @decide ((∀ p : Nat, p < 32 → cov l p = 1) ∧ f.length = 6) (Classical.propDecidable _)
theorem s_l6 (f : List (List Int)) (h : List (Int × Int)) (acc : List (Int × Int)) (hl : acc.length ≤ 1073741824) (r : Bool) (hr : r = finS f acc) : ∀ (n j : Nat), j + n = 32 → (∀ p : Nat, p < j → cov acc p = 1) → Ev2 (fun k m => s_GoodRooms.l6 k m 32 (j : Int) f h (covL acc)) r := by
  have hg : ∀ p, p < 32 → getAt 0 (covL acc) p = (cov acc p : Int) := fun p hp => by
    rw [getAt_lt (by rw [covL_len]; exact hp)]
    simp [covL]
  intro n
  induction n with
  | zero =>
    intro j hj hall
    refine .step ?_ fun k m => s_GoodRooms.l6_s k m _ _ _ _ _
    simp only [cnF (show ¬ (j : Int) < 32 by omega)]
    refine .const fun _ _ => ?_
    rw [hr]
    congr 1
    unfold finS
    rw [Bool.eq_iff_iff]
    simp only [decide_eq_true_eq]
    constructor
    · exact fun h6 => ⟨fun p hp => hall p (by omega), by omega⟩
    · rintro ⟨_, h6⟩; omega
  | succ n ih =>
    intro j hj hall
    refine .step ?_ fun k m => s_GoodRooms.l6_s k m _ _ _ _ _
    simp only [cnT (show (j : Int) < 32 by omega), covL_len, gdYes (inb_nat (show j < 32 by omega)), Int.toNat_natCast, hg j (by omega), wrap_succ (show j < 9223372036854775807 by omega)]
    by_cases h1 : cov acc j = 1
    · simp only [cnNT (show (cov acc j : Int) = 1 by omega)]
      exact ih (j + 1) (by omega) fun p hp => by
        rcases Nat.lt_or_ge p j with h | h
        · exact hall p h
        · obtain rfl : p = j := by omega
          exact h1
    · simp only [cnNF (show ¬ (cov acc j : Int) = 1 by omega)]
      refine .const fun _ _ => ?_
      rw [hr]
      congr 1
      unfold finS
      symm
      rw [decide_eq_false_iff_not]
      exact fun hh => h1 (hh.1 j (by omega))
def okRH (h : List (Int × Int)) (i : Nat) : Prop := roomB (getAt (0, 0) h i).1 (getAt (0, 0) h i).2 = true ∧ okH h i
def okRI (o : Nat) (l : List Int) (i : Nat) : Prop := roomB (getAt 0 l i) (o : Int) = true ∧ okI o l i
theorem s_l4 (f : List (List Int)) (h : List (Int × Int)) (hh : h.length ≤ 1073741824) (r : Bool) : ∀ (n j : Nat) (acc : List (Int × Int)), j + n = h.length → acc.length + n ≤ 1073741824 →
    ((∀ i, j ≤ i → i < h.length → okRH h i) → r = finS f (acc ++ h.drop j)) → ((¬ ∀ i, j ≤ i → i < h.length → okRH h i) → r = false) → Ev2 (fun k m => s_GoodRooms.l4 k m h (h.length : Int) (j : Int) f h (covL acc)) r := by
  intro n
  induction n with
  | zero =>
    intro j acc hj ha h1 h2
    refine .step ?_ fun k m => s_GoodRooms.l4_s k m _ _ _ _ _ _
    simp only [cnF (show ¬ (j : Int) < (h.length : Int) by omega)]
    have := h1 fun i hi hi2 => by omega
    rw [List.drop_of_length_le (by omega), List.append_nil] at this
    have key := s_l6 f h acc (by omega) r this 32 0 rfl fun p hp => by omega
    simp only [covL_len]
    exact .ev key.diag
  | succ n ih =>
    intro j acc hj ha h1 h2
    have hjl : j < h.length := by omega
    have hd := drop_cons (d := ((0 : Int), (0 : Int))) hjl
    have next : okRH h j → Ev2 (fun k m => (s_l14Cover.f k (covL acc) (getAt ((0 : Int), (0 : Int)) h j).1 (getAt ((0 : Int), (0 : Int)) h j).2).bind fun d1 => s_GoodRooms.l4 k m h (h.length : Int) ((j + 1 : Nat) : Int) f h d1.snd) r := fun hok => by
      refine .bind (s_l14Cover.ev acc _ _ hok.1 (by omega)) ?_
      exact ih (j + 1) (acc ++ [getAt ((0 : Int), (0 : Int)) h j]) (by omega) (by simp; omega) (fun hall => by
        have := h1 fun i hi hi2 => by
          rcases Nat.lt_or_ge j i with h | h
          · exact hall i h hi2
          · obtain rfl : i = j := by omega
            exact hok
        rw [hd] at this
        simpa using this) (fun hno => h2 fun hall => hno fun i hi hi2 => hall i (by omega) hi2)
    have fls : (¬ okRH h j) → r = false := fun hno => h2 fun hall => hno (hall j (Nat.le_refl _) hjl)
    refine .step ?_ fun k m => s_GoodRooms.l4_s k m _ _ _ _ _ _
    simp only [cnT (show (j : Int) < (h.length : Int) by omega), Int.toNat_natCast, gdYes (inb_nat hjl), wrap_succ (show j < 9223372036854775807 by omega), s_l14Room.eq, Option.bind_some]
    cases hrm : roomB (getAt ((0 : Int), (0 : Int)) h j).1 (getAt ((0 : Int), (0 : Int)) h j).2 with
    | false =>
      simp only [Bool.not_false, cn_t]
      rw [fls fun hok => by rw [hok.1] at hrm; cases hrm]
      exact .const fun _ _ => rfl
    | true =>
      simp only [Bool.not_true, cn_f]
      by_cases h0 : 0 < j
      · have hw : IntKind.i64.wrap ((j : Int) - 1) = ((j - 1 : Nat) : Int) := by rw [wrap_eq (by omega) (by omega)]; omega
        simp only [cnT (show (0 : Int) < (j : Int) by omega), hw, gdYes (inb_nat (show j - 1 < h.length by omega)), Int.toNat_natCast]
        by_cases hx : (getAt ((0 : Int), (0 : Int)) h j).1 ≤ (getAt ((0 : Int), (0 : Int)) h (j - 1)).1
        · simp only [cnT hx]
          rw [fls fun hok => hok.2 ⟨h0, hx⟩]
          exact .const fun _ _ => rfl
        · simp only [cnF hx]
          exact next ⟨hrm, fun hh => hx hh.2⟩
      · simp only [cnF (show ¬ (0 : Int) < (j : Int) by omega)]
        exact next ⟨hrm, fun hh => h0 hh.1⟩
theorem s_l2 (f : List (List Int)) (F : Int) (h : List (Int × Int)) (o : Nat) (ho : o ≤ 1048576) (l : List Int) (hl : l.length ≤ 1048576) (r : Bool) : ∀ (n j : Nat) (acc : List (Int × Int)), j + n = l.length → acc.length + n ≤ 9223372036854775805 →
    ((∀ i, j ≤ i → i < l.length → okRI o l i) → Ev2 (fun k m => s_GoodRooms.l0 k m f F (IntKind.i64.wrap ((o : Int) + 1)) f h (covL (acc ++ (l.drop j).map fun x => (x, (o : Int))))) r) →
    ((¬ ∀ i, j ≤ i → i < l.length → okRI o l i) → r = false) → Ev3 (fun k m q => s_GoodRooms.l2 k m q (o : Int) l f F (o : Int) l (l.length : Int) (j : Int) f h (covL acc)) r := by
  intro n
  induction n with
  | zero =>
    intro j acc hj ha h1 h2
    refine .step ?_ fun k m q => s_GoodRooms.l2_s k m q _ _ _ _ _ _ _ _ _ _ _
    simp only [cnF (show ¬ (j : Int) < (l.length : Int) by omega)]
    have := h1 fun i hi hi2 => by omega
    rw [List.drop_of_length_le (by omega), List.map_nil, List.append_nil] at this
    exact .out this
  | succ n ih =>
    intro j acc hj ha h1 h2
    have hjl : j < l.length := by omega
    have hd := drop_cons (d := 0) hjl
    have hu := u64_small (o := (o : Int)) (by omega) (by omega)
    have next : (okRI o l j) → Ev3 (fun k m q => (s_l14Cover.f k (covL acc) (getAt 0 l j) (o : Int)).bind fun d1 => s_GoodRooms.l2 k m q (o : Int) l f F (o : Int) l (l.length : Int) ((j + 1 : Nat) : Int) f h d1.snd) r := fun hok => by
      refine .bind (s_l14Cover.ev acc _ _ hok.1 (by omega)) ?_
      exact ih (j + 1) (acc ++ [(getAt 0 l j, (o : Int))]) (by omega) (by simp; omega) (fun hall => by
        have := h1 fun i hi hi2 => by
          rcases Nat.lt_or_ge j i with h | h
          · exact hall i h hi2
          · obtain rfl : i = j := by omega
            exact hok
        rw [hd] at this
        simpa using this) (fun hno => h2 fun hall => hno fun i hi hi2 => hall i (by omega) hi2)
    have fls : (¬ okRI o l j) → r = false := fun hno => h2 fun hall => hno (hall j (Nat.le_refl _) hjl)
    refine .step ?_ fun k m q => s_GoodRooms.l2_s k m q _ _ _ _ _ _ _ _ _ _ _
    simp only [cnT (show (j : Int) < (l.length : Int) by omega), Int.toNat_natCast, gdYes (inb_nat hjl), wrap_succ (show j < 9223372036854775807 by omega), s_l14Room.eq, Option.bind_some, hu]
    cases hrm : roomB (getAt 0 l j) (o : Int) with
    | false =>
      simp only [Bool.not_false, cn_t]
      rw [fls fun hok => by rw [hok.1] at hrm; cases hrm]
      exact .const fun _ _ _ => rfl
    | true =>
      simp only [Bool.not_true, cn_f]
      have tail : ¬ (0 < j ∧ getAt 0 l j ≤ getAt 0 l (j - 1)) → Ev3 (fun k m q => cn (decide ((o : Int) < (5 : Int)))
        (gd (decide ((0 : Int) ≤ (o : Int)))
         ((s_l1Has.f k l (bud (getAt 0 l j) o)).bind fun d2 =>
          cn d2
          (some false)
          ((s_l14Cover.f k (covL acc) (getAt 0 l j) (o : Int)).bind fun d3 => s_GoodRooms.l2 k m q (o : Int) l f F (o : Int) l (l.length : Int) ((j + 1 : Nat) : Int) f h d3.snd)))
        ((s_l14Cover.f k (covL acc) (getAt 0 l j) (o : Int)).bind fun d2 => s_GoodRooms.l2 k m q (o : Int) l f F (o : Int) l (l.length : Int) ((j + 1 : Nat) : Int) f h d2.snd)) r := fun hasc => by
        by_cases h5 : o < 5
        · simp only [cnT (show (o : Int) < 5 by omega), gdT (show (0 : Int) ≤ (o : Int) by omega)]
          refine .bind (s_l1Has.ev l _ (by omega)) ?_
          by_cases hb : bud (getAt 0 l j) o ∈ l
          · simp only [decide_eq_true hb, cn_t]
            rw [fls fun hok => hok.2.2 ⟨h5, hb⟩]
            exact .const fun _ _ _ => rfl
          · simp only [decide_eq_false hb, cn_f]
            exact next ⟨hrm, hasc, fun hx => hb hx.2⟩
        · simp only [cnF (show ¬ (o : Int) < 5 by omega)]
          exact next ⟨hrm, hasc, fun hx => h5 hx.1⟩
      by_cases h0 : 0 < j
      · have hw : IntKind.i64.wrap ((j : Int) - 1) = ((j - 1 : Nat) : Int) := by rw [wrap_eq (by omega) (by omega)]; omega
        simp only [cnT (show (0 : Int) < (j : Int) by omega), hw, gdYes (inb_nat (show j - 1 < l.length by omega)), Int.toNat_natCast]
        by_cases hx : getAt 0 l j ≤ getAt 0 l (j - 1)
        · simp only [cnT hx]
          rw [fls fun hok => hok.2.1 ⟨h0, hx⟩]
          exact .const fun _ _ _ => rfl
        · simp only [cnF hx]
          exact tail fun hh => hx hh.2
      · simp only [cnF (show ¬ (0 : Int) < (j : Int) by omega)]
        exact tail fun hh => h0 hh.1
theorem s_l0 (f : List (List Int)) (h : List (Int × Int)) (hf : f.length ≤ 1048576) (hh : h.length ≤ 1048576) (hx : sumN (f.map List.length) ≤ 1048576) (r : Bool) : ∀ (n j : Nat) (acc : List (Int × Int)), j + n = f.length → acc.length + sumN ((f.drop j).map List.length) ≤ 1048576 →
    ((∀ o, j ≤ o → o < f.length → ∀ i, i < (getAt [] f o).length → okRI o (getAt [] f o) i) → (∀ i, i < h.length → okRH h i) → r = finS f (acc ++ (frees j (f.drop j) ++ h))) →
    ((¬ ((∀ o, j ≤ o → o < f.length → ∀ i, i < (getAt [] f o).length → okRI o (getAt [] f o) i) ∧ ∀ i, i < h.length → okRH h i)) → r = false) →
    Ev2 (fun k m => s_GoodRooms.l0 k m f (f.length : Int) (j : Int) f h (covL acc)) r := by
  intro n
  induction n with
  | zero =>
    intro j acc hj ha h1 h2
    refine .step ?_ fun k m => s_GoodRooms.l0_s k m _ _ _ _ _ _
    simp only [cnF (show ¬ (j : Int) < (f.length : Int) by omega)]
    have e : f.drop j = [] := List.drop_of_length_le (by omega)
    rw [e] at h1
    refine Ev2.inner (g := fun k m => s_GoodRooms.l4 k m h (h.length : Int) 0 f h (covL acc)) ?_
    refine s_l4 f h (by omega) r h.length 0 acc (by omega) (by omega) (fun hall => ?_) (fun hno => h2 fun hh => hno fun i _ hi => hh.2 i hi)
    exact h1 (fun o ho1 ho2 => by omega) fun i hi => hall i (Nat.zero_le _) hi
  | succ n ih =>
    intro j acc hj ha h1 h2
    have hj6 : j < f.length := by omega
    have hdr := drop_cons (d := []) hj6
    rw [hdr, List.map_cons] at ha
    simp only [sumN] at ha
    refine .step ?_ fun k m => s_GoodRooms.l0_s k m _ _ _ _ _ _
    simp only [cnT (show (j : Int) < (f.length : Int) by omega), gdYes (inb_nat hj6), Int.toNat_natCast]
    refine Ev3.diag (g := fun k m q => s_GoodRooms.l2 k m q (j : Int) (getAt [] f j) f (f.length : Int) (j : Int) (getAt [] f j) ((getAt [] f j).length : Int) 0 f h (covL acc)) ?_
    refine s_l2 f (f.length : Int) h j (by omega) (getAt [] f j) (by omega) r (getAt [] f j).length 0 acc (by omega) (by omega) (fun hall => ?_) (fun hno => h2 fun hh => hno fun i _ hi => hh.1 j (Nat.le_refl _) (by omega) i hi)
    rw [wrap_succ (show j < 9223372036854775807 by omega), List.drop_zero]
    refine ih (j + 1) _ (by omega) (by rw [List.length_append, List.length_map]; omega) (fun ho hk => ?_) (fun hno => h2 fun hh => hno ⟨fun o ho => hh.1 o (by omega), hh.2⟩)
    have := h1 (fun o ho1 ho2 i hi => by
      rcases Nat.lt_or_ge j o with h | h
      · exact ho o h ho2 i hi
      · obtain rfl : o = j := by omega
        exact hall i (Nat.zero_le _) hi) hk
    have e := frees_drop f 0 j hj6
    simp only [Nat.zero_add] at e
    rw [this, e]
    simp only [List.append_assoc]
theorem mem_frees : ∀ (f : List (List Int)) (o : Nat) (x : Int × Int), x ∈ frees o f ↔ ∃ j, j < f.length ∧ ∃ i, i < (getAt [] f j).length ∧ x = (getAt 0 (getAt [] f j) i, ((o + j : Nat) : Int))
  | [], o, x => by simp [frees]
  | l :: f, o, x => by
    simp only [frees, List.mem_append, List.mem_map, mem_frees f (o + 1) x]
    constructor
    · rintro (⟨y, hy, rfl⟩ | ⟨j, hj, i, hi, rfl⟩)
      · obtain ⟨i, hi, rfl⟩ := List.mem_iff_getElem.1 hy
        exact ⟨0, by simp, i, by simpa [getAt] using hi, by simp [getAt, hi]⟩
      · exact ⟨j + 1, by simp; omega, i, by simpa [getAt] using hi, by simp [getAt]; omega⟩
    · rintro ⟨j, hj, i, hi, rfl⟩
      cases j with
      | zero =>
        have hi' : i < l.length := by simpa [getAt] using hi
        left
        exact ⟨l[i], List.getElem_mem hi', by simp [getAt, hi']⟩
      | succ j =>
        right
        refine ⟨j, by simp at hj; omega, i, by simpa [getAt] using hi, ?_⟩
        simp [getAt]; omega
theorem s_GoodRooms.ev (f : List (List Int)) (h : List (Int × Int)) (hf : f.length ≤ 1048576) (hx : sumN (f.map List.length) ≤ 1048576) (hh : h.length ≤ 1048576) : Ev (fun k => s_GoodRooms.f k f h) (goodR f h) := by
  refine Ev.congr ?_ fun k => s_GoodRooms.f_eq k f h
  have e0 : covL [] = List.replicate (32 : Nat) (0 : Int) := by unfold covL; rfl
  rw [← e0]
  refine Ev2.diag (g := fun k m => s_GoodRooms.l0 k m f (f.length : Int) ((0 : Nat) : Int) f h (covL [])) ?_
  have split : goodP f h ↔ ((∀ o, 0 ≤ o → o < f.length → ∀ i, i < (getAt [] f o).length → okRI o (getAt [] f o) i) ∧ ∀ i, i < h.length → okRH h i) ∧ (∀ p : Nat, p < 32 → cov (frees 0 f ++ h) p = 1) ∧ f.length = 6 := by
    unfold goodP
    constructor
    · rintro ⟨g1, g2, g3, g4, g5⟩
      refine ⟨⟨fun o _ ho i hi => ⟨?_, g2 o ho i hi⟩, fun i hi => ⟨?_, g3 i hi⟩⟩, g5, g1⟩
      · have := g4 (getAt 0 (getAt [] f o) i, (o : Int)) (List.mem_append.2 (.inl ((mem_frees f 0 _).2 ⟨o, ho, i, hi, by simp⟩)))
        exact this
      · refine g4 (getAt (0, 0) h i) (List.mem_append.2 (.inr ?_))
        rw [getAt_lt hi]; exact List.getElem_mem hi
    · rintro ⟨⟨g1, g2⟩, g3, g4⟩
      refine ⟨g4, fun o ho i hi => (g1 o (Nat.zero_le _) ho i hi).2, fun i hi => (g2 i hi).2, fun x hx => ?_, g3⟩
      rcases List.mem_append.1 hx with hx | hx
      · obtain ⟨j, hj, i, hi, rfl⟩ := (mem_frees f 0 x).1 hx
        have := (g1 j (Nat.zero_le _) hj i hi).1
        simpa using this
      · obtain ⟨i, hi, rfl⟩ := List.mem_iff_getElem.1 hx
        have := (g2 i hi).1
        rwa [getAt_lt hi] at this
  refine s_l0 f h hf hh hx (goodR f h) f.length 0 [] (by omega) (by simpa using hx) (fun ho hk => ?_) (fun hno => ?_)
  · rw [List.drop_zero, List.nil_append, Bool.eq_iff_iff, goodR_true, split]
    unfold finS
    simp only [decide_eq_true_eq]
    exact ⟨fun hg => hg.2, fun hg => ⟨⟨ho, hk⟩, hg⟩⟩
  · rw [goodR_false, split]
    exact fun hg => hno hg.1
/-! ### Rooms that came in -/
theorem bytes_rowi : Try.prog.bytesOf (30 : Nat) ≤ 1024 := by rw [show Try.prog.bytesOf (30 : Nat) = 24 by kernel_rfl]; decide
theorem mk_le {n b : Nat} (hn : n ≤ 1048576) (hb : b ≤ 1024) : mkOk (n : Int) (n : Int) b = true := by
  unfold mkOk
  have : n * b ≤ 1048576 * 1024 := Nat.mul_le_mul hn hb
  simp; omega
theorem w_szIntS.ev (a : List Int) (left : Int) (ha : a.length ≤ maxLen) (h0 : 0 ≤ left) (h1 : left ≤ 1048576) : ∃ r : Int, (∀ k, w_szIntS.f k a left = some r) ∧ (r < 0 ∨ r = left - a.length ∧ 0 ≤ r) := by
  rw [maxLen_eq] at ha
  have hw : IntKind.i64.wrap (left - (a.length : Int)) = left - a.length := wrap_eq (by omega) (by omega)
  by_cases h : left - (a.length : Int) < 0
  · exact ⟨-1, fun k => by rw [w_szIntS.f_eq, hw, cnT h], .inl (by omega)⟩
  · exact ⟨left - a.length, fun k => by rw [w_szIntS.f_eq, hw, cnF h], .inr ⟨rfl, by omega⟩⟩
theorem w_szIntSS.loop (a : List (List Int)) (ha : a.length ≤ 1048576) (hx : ∀ x ∈ a, x.length ≤ maxLen) : ∀ (n j : Nat) (left : Int), j + n = a.length → 0 ≤ left → left ≤ 1048576 →
    ∃ r : Int, Ev2 (fun k m => w_szIntSS.l0 k m a left (j : Int)) r ∧ (r < 0 ∨ 0 ≤ r ∧ r ≤ left ∧ (sumN ((a.drop j).map List.length) : Int) ≤ left) := by
  intro n
  induction n with
  | zero =>
    intro j left hj h0 h1
    refine ⟨left, .step ?_ fun k m => w_szIntSS.l0_s k m _ _ _, .inr ⟨h0, Int.le_refl _, ?_⟩⟩
    · simp only [cnF (show ¬ (j : Int) < (a.length : Int) by omega)]
      exact .const fun _ _ => rfl
    · rw [List.drop_of_length_le (by omega)]; simpa [sumN] using h0
  | succ n ih =>
    intro j left hj h0 h1
    have hjl : j < a.length := by omega
    obtain ⟨r1, e1, q1⟩ := w_szIntS.ev (getAt [] a j) left (by rw [getAt_lt hjl]; exact hx _ (List.getElem_mem hjl)) h0 h1
    by_cases hn : r1 < 0
    · refine ⟨-1, .step ?_ fun k m => w_szIntSS.l0_s k m _ _ _, .inl (by omega)⟩
      simp only [cnT (show (j : Int) < (a.length : Int) by omega), gdYes (inb_nat hjl), Int.toNat_natCast, e1, Option.bind_some, cnT hn]
      exact .const fun _ _ => rfl
    · obtain ⟨q2, q3⟩ := q1.resolve_left hn
      obtain ⟨r, e2, q4⟩ := ih (j + 1) r1 (by omega) (by omega) (by omega)
      refine ⟨r, .step ?_ fun k m => w_szIntSS.l0_s k m _ _ _, q4.imp id fun ⟨q5, q6, q7⟩ => ⟨q5, by omega, ?_⟩⟩
      · simp only [cnT (show (j : Int) < (a.length : Int) by omega), gdYes (inb_nat hjl), Int.toNat_natCast, e1, Option.bind_some, cnF hn, wrap_succ (show j < 9223372036854775807 by omega)]
        exact e2
      · rw [drop_cons (d := []) hjl, List.map_cons]
        simp only [sumN]
        omega
theorem w_szIntSS.ev (a : List (List Int)) (ha : a.length ≤ maxLen) (hx : ∀ x ∈ a, x.length ≤ maxLen) (left : Int) (h0 : 0 ≤ left) (h1 : left ≤ 1048576) : ∃ r : Int, Ev (fun k => w_szIntSS.f k a left) r ∧ (r < 0 ∨ 0 ≤ r ∧ r ≤ left ∧ a.length ≤ 1048576 ∧ sumN (a.map List.length) ≤ 1048576) := by
  have ha' := ha
  rw [maxLen_eq] at ha'
  have hw : IntKind.i64.wrap (left - (a.length : Int)) = left - a.length := wrap_eq (by omega) (by omega)
  by_cases h : left - (a.length : Int) < 0
  · exact ⟨-1, .const fun k => by rw [w_szIntSS.f_eq, hw, cnT h], .inl (by omega)⟩
  · obtain ⟨r, e, q⟩ := w_szIntSS.loop a (by omega) hx a.length 0 (left - a.length) (by omega) (by omega) (by omega)
    refine ⟨r, Ev.congr e.diag fun k => by rw [w_szIntSS.f_eq, hw, cnF h]; rfl, q.imp id fun ⟨q1, q2, q3⟩ => ⟨q1, by omega, by omega, ?_⟩⟩
    rw [List.drop_zero] at q3
    omega
theorem w_szRooms.ev (f : List (List Int)) (h : List (Int × Int)) (hf : f.length ≤ maxLen) (hx : ∀ x ∈ f, x.length ≤ maxLen) (hh : h.length ≤ maxLen) :
    ∃ r : Int, Ev (fun k => w_szRooms.f k f h 1048576) r ∧ (r < 0 ∨ 0 ≤ r ∧ f.length ≤ 1048576 ∧ sumN (f.map List.length) ≤ 1048576 ∧ h.length ≤ 1048576) := by
  obtain ⟨r1, e1, q1⟩ := w_szIntSS.ev f hf hx 1048576 (by decide) (by decide)
  by_cases hn : r1 < 0
  · refine ⟨-1, Ev.congr (.bind e1 ?_) fun k => w_szRooms.f_eq k _ _ _, .inl (by omega)⟩
    simp only [cnT hn]
    exact .const fun _ => rfl
  · obtain ⟨q2, q3, q4, q5⟩ := q1.resolve_left hn
    have hh' := hh
    rw [maxLen_eq] at hh'
    have hw : IntKind.i64.wrap (r1 - (h.length : Int)) = r1 - h.length := wrap_eq (by omega) (by omega)
    by_cases h2 : r1 - (h.length : Int) < 0
    · refine ⟨-1, Ev.congr (.bind e1 ?_) fun k => w_szRooms.f_eq k _ _ _, .inl (by omega)⟩
      simp only [cnF hn, w_szHeldS.f_eq, hw, cnT h2, Option.bind_some, cnT (show (-1 : Int) < 0 by decide)]
      exact .const fun _ => rfl
    · refine ⟨r1 - h.length, Ev.congr (.bind e1 ?_) fun k => w_szRooms.f_eq k _ _ _, .inr ⟨by omega, q4, q5, by omega⟩⟩
      simp only [cnF hn, w_szHeldS.f_eq, hw, cnF h2, Option.bind_some]
      exact .const fun _ => rfl
theorem w_toIntSS.ev (a : List (List Int)) (ha : a.length ≤ 1048576) (hx : ∀ x ∈ a, x.length ≤ 1048576) : Ev (fun k => w_toIntSS.f k a) a := by
  refine Ev.congr ?_ fun k => w_toIntSS.f_eq k a
  simp only [gdYes (mk_le ha bytes_rowi), Int.toNat_natCast]
  have key : ∀ n j : Nat, j + n = a.length → Ev2 (fun k m => w_toIntSS.l0 k m a (j : Int) (mid a (List.replicate a.length []) j)) a := by
    intro n
    induction n with
    | zero =>
      intro j hj
      refine .step ?_ fun k m => w_toIntSS.l0_s k m _ _ _
      simp only [cnF (show ¬ (j : Int) < (a.length : Int) by omega), mid_all (show j = a.length by omega) (show (List.replicate a.length ([] : List Int)).length = a.length by simp)]
      exact .const fun _ _ => rfl
    | succ n ih =>
      intro j hj
      have hj' : j < a.length := by omega
      have hl : (mid a (List.replicate a.length []) j).length = a.length := mid_len j (by simp)
      refine .step ?_ fun k m => w_toIntSS.l0_s k m _ _ _
      simp only [cnT (show (j : Int) < (a.length : Int) by omega), Int.toNat_natCast, gdYes (inb_nat hj'), hl, wrap_succ (show j < 9223372036854775807 by omega)]
      refine .bind (w_toIntS.ev _ (by rw [getAt_lt hj']; exact hx _ (List.getElem_mem hj'))) ?_
      simp only [mid_set (d := ([] : List Int)) (show (List.replicate a.length ([] : List Int)).length = a.length by simp) hj' rfl]
      exact ih (j + 1) (by omega)
  have := (key a.length 0 (by omega)).diag
  rw [mid_zero] at this
  exact this
theorem w_toHeldS.ev (a : List (Int × Int)) (ha : a.length ≤ 1048576) : Ev (fun k => w_toHeldS.f k a) a := by
  refine Ev.congr ?_ fun k => w_toHeldS.f_eq k a
  simp only [gdYes (mk_le ha bytes_held), Int.toNat_natCast]
  have key : ∀ n j : Nat, j + n = a.length → Ev2 (fun k m => w_toHeldS.l0 k m a (j : Int) (mid a (List.replicate a.length (0, 0)) j)) a := by
    intro n
    induction n with
    | zero =>
      intro j hj
      refine .step ?_ fun k m => w_toHeldS.l0_s k m _ _ _
      simp only [cnF (show ¬ (j : Int) < (a.length : Int) by omega), mid_all (show j = a.length by omega) (show (List.replicate a.length ((0 : Int), (0 : Int))).length = a.length by simp)]
      exact .const fun _ _ => rfl
    | succ n ih =>
      intro j hj
      have hj' : j < a.length := by omega
      have hl : (mid a (List.replicate a.length ((0 : Int), (0 : Int))) j).length = a.length := mid_len j (by simp)
      refine .step ?_ fun k m => w_toHeldS.l0_s k m _ _ _
      simp only [cnT (show (j : Int) < (a.length : Int) by omega), Int.toNat_natCast, gdYes (inb_nat hj'), hl, w_toHeld.f_eq, Option.bind_some, wrap_succ (show j < 9223372036854775807 by omega)]
      simp only [mid_set (d := ((0 : Int), (0 : Int))) (show (List.replicate a.length ((0 : Int), (0 : Int))).length = a.length by simp) hj' rfl]
      exact ih (j + 1) (by omega)
  have := (key a.length 0 (by omega)).diag
  rw [mid_zero] at this
  exact this
theorem w_toRooms.ev (f : List (List Int)) (h : List (Int × Int)) (hf : f.length ≤ 1048576) (hx : ∀ x ∈ f, x.length ≤ 1048576) (hh : h.length ≤ 1048576) : Ev (fun k => w_toRooms.f k f h) (f, h) := by
  refine Ev.congr ?_ fun k => w_toRooms.f_eq k f h
  refine .bind (w_toIntSS.ev f hf hx) ?_
  refine .bind (w_toHeldS.ev h hh) ?_
  exact .const fun _ => rfl
-- @need
theorem sumN_mem : ∀ (f : List (List Int)) (x : List Int), x ∈ f → x.length ≤ sumN (f.map List.length)
  | l :: f, x, hx => by
    rw [List.map_cons]
    simp only [sumN]
    rcases List.mem_cons.1 hx with rfl | hx
    · omega
    · have := sumN_mem f x hx; omega
theorem ok_lens {e : Nat} {f : List (List Int)} (of : okK (.sl e (.sl 3 (.int .i64))) f) : f.length ≤ maxLen ∧ ∀ x ∈ f, x.length ≤ maxLen :=
  ⟨of.1, fun x hx => by obtain ⟨i, hi, rfl⟩ := List.mem_iff_getElem.1 hx; exact (of.2 i hi).1⟩
/-! ### The laws of rooms that are only looked at -/
def moR : Nat → Int → List (List Int) → Int × Bool
  | _, c, [] => (c, true)
  | j, c, l :: f => moR (j + 1) (if 0 < l.length then (j : Int) else c) f
noncomputable def mostR (f : List (List Int)) (h : List (Int × Int)) : Int × Bool := if goodR f h = true then moR 0 (-1) f else (0, false)
theorem i_MostFree.loop (f : List (List Int)) (hf : f.length ≤ 1048576) : ∀ (n j : Nat) (c : Int), j + n = f.length → Ev2 (fun k m => i_MostFree.l0 k m c f (f.length : Int) (j : Int)) (moR j c (f.drop j)) := by
  intro n
  induction n with
  | zero =>
    intro j c hj
    refine .step ?_ fun k m => i_MostFree.l0_s k m _ _ _ _
    simp only [cnF (show ¬ (j : Int) < (f.length : Int) by omega)]
    rw [List.drop_of_length_le (by omega)]
    exact .const fun _ _ => rfl
  | succ n ih =>
    intro j c hj
    have hjl : j < f.length := by omega
    refine .step ?_ fun k m => i_MostFree.l0_s k m _ _ _ _
    simp only [cnT (show (j : Int) < (f.length : Int) by omega), gdYes (inb_nat hjl), Int.toNat_natCast, wrap_succ (show j < 9223372036854775807 by omega)]
    rw [drop_cons (d := []) hjl]
    by_cases h0 : 0 < (getAt [] f j).length
    · simp only [cnT (show (0 : Int) < ((getAt [] f j).length : Int) by omega), moR, if_pos h0]
      exact ih (j + 1) _ (by omega)
    · simp only [cnF (show ¬ (0 : Int) < ((getAt [] f j).length : Int) by omega), moR, if_neg h0]
      exact ih (j + 1) _ (by omega)
theorem s_MostFree.loop (f : List (List Int)) (hf : f.length ≤ 1048576) : ∀ (n j : Nat) (c : Int), j + n = f.length → Ev2 (fun k m => s_MostFree.l0 k m c f (f.length : Int) (j : Int)) (moR j c (f.drop j)) := by
  intro n
  induction n with
  | zero =>
    intro j c hj
    refine .step ?_ fun k m => s_MostFree.l0_s k m _ _ _ _
    simp only [cnF (show ¬ (j : Int) < (f.length : Int) by omega)]
    rw [List.drop_of_length_le (by omega)]
    exact .const fun _ _ => rfl
  | succ n ih =>
    intro j c hj
    have hjl : j < f.length := by omega
    refine .step ?_ fun k m => s_MostFree.l0_s k m _ _ _ _
    simp only [cnT (show (j : Int) < (f.length : Int) by omega), gdYes (inb_nat hjl), Int.toNat_natCast, wrap_succ (show j < 9223372036854775807 by omega)]
    rw [drop_cons (d := []) hjl]
    by_cases h0 : 0 < (getAt [] f j).length
    · simp only [cnT (show (0 : Int) < ((getAt [] f j).length : Int) by omega), moR, if_pos h0]
      exact ih (j + 1) _ (by omega)
    · simp only [cnF (show ¬ (0 : Int) < ((getAt [] f j).length : Int) by omega), moR, if_neg h0]
      exact ih (j + 1) _ (by omega)
theorem i_MostFree.ev (f : List (List Int)) (h : List (Int × Int)) (hf : f.length ≤ 1048576) (hx : ∀ x ∈ f, x.length ≤ 1048576) (hh : h.length ≤ 1048576) : Ev (fun k => i_MostFree.f k f h) (mostR f h) := by
  refine Ev.congr (.bind (i_GoodRooms.ev f h hf hx hh) ?_) fun k => i_MostFree.f_eq k f h
  unfold mostR
  cases goodR f h with
  | false => exact .const fun _ => rfl
  | true =>
    simp only [cnNo (show (!true) = false from rfl), if_true]
    exact (i_MostFree.loop f hf f.length 0 (-1) (by omega)).diag
theorem s_MostFree.ev (f : List (List Int)) (h : List (Int × Int)) (hf : f.length ≤ 1048576) (hx : sumN (f.map List.length) ≤ 1048576) (hh : h.length ≤ 1048576) : Ev (fun k => s_MostFree.f k f h) (mostR f h) := by
  refine Ev.congr (.bind (s_GoodRooms.ev f h hf hx hh) ?_) fun k => s_MostFree.f_eq k f h
  unfold mostR
  cases goodR f h with
  | false => exact .const fun _ => rfl
  | true =>
    simp only [cnNo (show (!true) = false from rfl), if_true]
    exact (s_MostFree.loop f hf f.length 0 (-1) (by omega)).diag
theorem lawMostFree (f : List (List Int)) (h : List (Int × Int)) (of : okK (.sl 30 (.sl 3 (.int .i64))) f) (oh : okK (.sl 98 (.pair (.int .i64) (.int .i64))) h) : Ev (fun k => w_FnExactMostFree.f k f h) true := by
  refine Ev.congr ?_ fun k => w_FnExactMostFree.f_eq k f h
  obtain ⟨r, e, q⟩ := w_szRooms.ev f h (ok_lens of).1 (ok_lens of).2 oh.1
  refine .bind e ?_
  by_cases hn : r < 0
  · simp only [cnT hn]
    exact .const fun _ => rfl
  obtain ⟨_, q2, q3, q4⟩ := q.resolve_left hn
  have hx : ∀ x ∈ f, x.length ≤ 1048576 := fun x hx => Nat.le_trans (sumN_mem f x hx) q3
  have to := w_toRooms.ev f h q2 hx q4
  simp only [cnF hn]
  refine .bind to ?_
  refine .bind (s_MostFree.ev f h q2 q3 q4) ?_
  refine .bind to ?_
  refine .bind (i_MostFree.ev f h q2 hx q4) ?_
  simp only [decide_true, cnNo (show (!true) = false from rfl), cnNo (show (!(mostR f h).2 == (mostR f h).2) = false by cases (mostR f h).2 <;> rfl)]
  refine .bind to ?_
  refine .bind (w_eqRooms.ev f h q2 (fun x hx' => by have := hx x hx'; rw [maxLen_eq]; omega) (by rw [maxLen_eq]; omega)) ?_
  exact .const fun _ => rfl
end Go.Proofs.Ytlkbmcmglkdciaa
