/- Small laws for the pure statements: counters that do not wrap, loops that come to their answer at enough rounds. No program, no condition. -/
import Derived.Test.YtemnidhllbbjnaaWWords
import Derived.RowKit
namespace Go.Proofs.Ytemnidhllbbjnaa.Lib0
open Go.RowKit Go.Proofs.YtemnidhllbbjnaaW.PrintWords

theorem w64 {n : Int} (h0 : -9223372036854775808 ≤ n) (h1 : n ≤ 9223372036854775807) : wrap64 n = n := by
  unfold wrap64
  omega

/-- 'At enough rounds': one round more in front. -/
theorem Ev.succ {α : Type} {g : Nat → Option α} {r : α} (h : Ev (fun k => g (k + 1)) r) : Ev g r := by
  obtain ⟨K, h⟩ := h
  refine ⟨K + 1, fun n hn => ?_⟩
  obtain ⟨m, rfl⟩ : ∃ m, n = m + 1 := ⟨n - 1, by omega⟩
  exact h m (by omega)
theorem Ev.const {α : Type} {g : Nat → Option α} {r : α} (h : ∀ k, g k = some r) : Ev g r := ⟨0, fun k _ => h k⟩
theorem Ev.bind0 {α β : Type} {a : Option α} {x : α} {f : Nat → α → Option β} {r : β} (h : a = some x) (k : Ev (fun n => f n x) r) : Ev (fun n => a.bind (f n)) r := by
  subst h
  exact k
theorem Ev.iteT {α : Type} {p : Prop} [Decidable p] {a b : Nat → Option α} {r : α} (h : p) (k : Ev a r) : Ev (fun n => if p then a n else b n) r := by
  simp only [if_pos h]
  exact k
theorem Ev.iteF {α : Type} {p : Prop} [Decidable p] {a b : Nat → Option α} {r : α} (h : ¬ p) (k : Ev b r) : Ev (fun n => if p then a n else b n) r := by
  simp only [if_neg h]
  exact k
/-- A loop: an invariant, a measure, what it comes to. -/
theorem Ev.loop {α σ : Type} (g : Nat → σ → Option α) (Inv : σ → Prop) (m : σ → Nat) (res : σ → α)
    (step : ∀ s, Inv s → Ev (fun k => g (k + 1) s) (res s) ∨ ∃ s', Inv s' ∧ m s' < m s ∧ (Ev (fun k => g k s') (res s') → Ev (fun k => g (k + 1) s) (res s))) :
    ∀ s, Inv s → Ev (fun k => g k s) (res s) := by
  have key : ∀ (n : Nat) (s : σ), m s < n → Inv s → Ev (fun k => g k s) (res s) := by
    intro n
    induction n with
    | zero => intro s hs; omega
    | succ n ih =>
      intro s hs hi
      rcases step s hi with h | ⟨s', hi', hm, hk⟩
      · exact Ev.succ h
      · exact Ev.succ (hk (ih s' (by omega) hi'))
  intro s hi
  exact key (m s + 1) s (by omega) hi

theorem rdOf_at {α : Type} (d : α) (xs : List α) (i : Nat) (h : i < xs.length) : rdOf d xs (i : Int) = xs[i] := by
  unfold rdOf
  simp [h]
theorem drop_cons {α : Type} (xs : List α) (i : Nat) (h : i < xs.length) : xs.drop i = xs[i] :: xs.drop (i + 1) := (List.drop_eq_getElem_cons h)

theorem set_take {α : Type} (out : List α) (i : Nat) (x : α) (h : i < out.length) : (out.set i x).take (i + 1) = out.take i ++ [x] := by
  rw [List.take_succ_eq_append_getElem (by simpa using h), List.take_set_of_le (Nat.le_refl i)]
  simp
theorem copy_step {α : Type} (out xs : List α) (i : Nat) (h : i < out.length) (h' : i < xs.length) : (out.set i xs[i]).take (i + 1) ++ xs.drop (i + 1) = out.take i ++ xs.drop i := by
  rw [set_take out i _ h, drop_cons xs i h', List.append_assoc]
  rfl
theorem i_succ (i : Nat) (h : i ≤ 9223372036854775806) : wrap64 ((i : Int) + 1) = ((i + 1 : Nat) : Int) := by
  rw [w64 (by omega) (by omega)]
  omega

theorem rd_at (xs : List Int) (i : Nat) (h : i < xs.length) : rd xs (i : Int) = xs[i] := by
  unfold rd
  simp [h]
theorem Ev.at {α : Type} {g : Nat → Option α} {r : α} (K : Nat) (h : ∀ k, K ≤ k → g k = some r) : Ev g r := ⟨K, h⟩
theorem Ev.out {α : Type} {g : Nat → Option α} {r : α} (h : Ev g r) : ∃ K, ∀ k, K ≤ k → g k = some r := h
theorem Ev.uniq {α : Type} {g : Nat → Option α} {r q : α} (h : Ev g r) (h' : Ev g q) : r = q := by
  obtain ⟨K, h⟩ := h
  obtain ⟨K', h'⟩ := h'
  have h1 := h (max K K') (Nat.le_max_left _ _)
  have h2 := h' (max K K') (Nat.le_max_right _ _)
  rw [h1] at h2
  exact Option.some.inj h2

/-- What a marking leaves: g of the places' numbers from n on. -/
def marks {α : Type} (g : Int → α) (n : Int) : Nat → List α
  | 0 => []
  | len + 1 => g n :: marks g (n + 1) len
theorem marks_length {α : Type} (g : Int → α) (len : Nat) : ∀ n : Int, (marks g n len).length = len := by
  induction len with
  | zero => intro n; rfl
  | succ len ih => intro n; simp [marks, ih]
theorem marks_get {α : Type} (g : Int → α) (len : Nat) : ∀ (n : Int) (i : Nat) (h : i < (marks g n len).length), (marks g n len)[i] = g (n + i) := by
  induction len with
  | zero => intro n i h; simp [marks] at h
  | succ len ih =>
    intro n i h
    cases i with
    | zero => simp [marks]
    | succ i =>
      simp only [marks, List.getElem_cons_succ]
      rw [ih]
      congr 1
      omega
theorem set_drop_step {α : Type} (pre xs : List α) (i : Nat) (x : α) (h : i < xs.length) (hp : pre.length = i) : (pre ++ xs.drop i).set i x = (pre ++ [x]) ++ xs.drop (i + 1) := by
  rw [drop_cons xs i h, List.set_append_right _ _ (by omega), hp, Nat.sub_self, List.set_cons_zero, List.append_assoc]
  rfl
theorem marks_snoc {α : Type} (g : Int → α) (len : Nat) : ∀ n : Int, marks g n (len + 1) = marks g n len ++ [g (n + len)] := by
  induction len with
  | zero => intro n; simp [marks]
  | succ len ih =>
    intro n
    rw [marks, ih (n + 1)]
    simp only [marks, List.cons_append]
    rw [show n + 1 + (len : Int) = n + ((len + 1 : Nat) : Int) by omega]

end Go.Proofs.Ytemnidhllbbjnaa.Lib0
