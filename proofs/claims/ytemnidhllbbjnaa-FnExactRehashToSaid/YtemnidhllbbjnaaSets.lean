/- Sets of whole numbers as rising lists: a number put to its place, once; the same out of sorting and of leaving out what stands twice. Plain lists, no condition. -/
import Derived.Test.YtemnidhllbbjnaaLib
import Derived.Lib.SlicesCompact
namespace Go.Proofs.Ytemnidhllbbjnaa.Sets0
open Go.RowKit Go.Proofs.Ytemnidhllbbjnaa.Lib0

def put : List Int → Int → List Int
  | [], n => [n]
  | x :: t, n => if x < n then x :: put t n else if x = n then x :: t else n :: x :: t
theorem mem_put (z n : Int) : ∀ l, z ∈ put l n ↔ z = n ∨ z ∈ l
  | [] => by simp [put]
  | x :: t => by
    have ih := mem_put z n t
    unfold put
    split
    · simp only [List.mem_cons, ih]
      constructor
      · rintro (h | h | h) <;> simp [h]
      · rintro (h | h | h) <;> simp [h]
    · split
      · rename_i h
        subst h
        simp
      · simp
theorem put_up (n : Int) : ∀ l : List Int, l.Pairwise (· < ·) → (put l n).Pairwise (· < ·)
  | [], _ => by simp [put]
  | x :: t, h => by
    have h1 := List.pairwise_cons.1 h
    unfold put
    split
    · rename_i hx
      refine List.pairwise_cons.2 ⟨fun z hz => ?_, put_up n t h1.2⟩
      rcases (mem_put z n t).1 hz with rfl | hz
      · exact hx
      · exact h1.1 z hz
    · split
      · exact h
      · rename_i h2 h3
        refine List.pairwise_cons.2 ⟨fun z hz => ?_, h⟩
        rcases List.mem_cons.1 hz with rfl | hz
        · omega
        · have := h1.1 z hz
          omega
theorem put_length (n : Int) : ∀ l : List Int, (put l n).length ≤ l.length + 1
  | [] => by simp [put]
  | x :: t => by
    have ih := put_length n t
    unfold put
    split
    · simp only [List.length_cons]
      omega
    · split <;> simp
theorem put_all (P : Int → Prop) (n : Int) (hn : P n) (l : List Int) (hl : ∀ x ∈ l, P x) : ∀ x ∈ put l n, P x := by
  intro x hx
  rcases (mem_put x n l).1 hx with rfl | hx
  · exact hn
  · exact hl x hx
theorem uniq : ∀ (xs ys : List Int), xs.Pairwise (· < ·) → ys.Pairwise (· < ·) → (∀ z, z ∈ xs ↔ z ∈ ys) → xs = ys
  | [], [], _, _, _ => rfl
  | [], y :: t, _, _, h => absurd ((h y).2 List.mem_cons_self) (by simp)
  | x :: t, [], _, _, h => absurd ((h x).1 List.mem_cons_self) (by simp)
  | x :: s, y :: t, hx, hy, h => by
    have hx1 := List.pairwise_cons.1 hx
    have hy1 := List.pairwise_cons.1 hy
    have e : x = y := by
      have a := (h x).1 List.mem_cons_self
      have b := (h y).2 List.mem_cons_self
      rcases List.mem_cons.1 a with a | a
      · exact a
      · rcases List.mem_cons.1 b with b | b
        · exact b.symm
        · have := hx1.1 y b
          have := hy1.1 x a
          omega
    subst e
    congr 1
    refine uniq s t hx1.2 hy1.2 fun z => ⟨fun hz => ?_, fun hz => ?_⟩
    · rcases List.mem_cons.1 ((h z).1 (List.mem_cons_of_mem _ hz)) with h' | h'
      · have := hx1.1 z hz
        omega
      · exact h'
    · rcases List.mem_cons.1 ((h z).2 (List.mem_cons_of_mem _ hz)) with h' | h'
      · have := hy1.1 z hz
        omega
      · exact h'

theorem fold_mem (z : Int) : ∀ (l acc : List Int), z ∈ l.foldl put acc ↔ z ∈ l ∨ z ∈ acc
  | [], acc => by simp
  | x :: t, acc => by
    rw [List.foldl_cons, fold_mem z t (put acc x), mem_put]
    simp only [List.mem_cons]
    constructor
    · rintro (h | h | h) <;> simp [h]
    · rintro ((h | h) | h) <;> simp [h]
theorem fold_up : ∀ (l acc : List Int), acc.Pairwise (· < ·) → (l.foldl put acc).Pairwise (· < ·)
  | [], _, h => h
  | x :: t, acc, h => fold_up t (put acc x) (put_up x acc h)
theorem fold_length : ∀ (l acc : List Int), (l.foldl put acc).length ≤ l.length + acc.length
  | [], acc => by simp
  | x :: t, acc => by
    have h1 := fold_length t (put acc x)
    have h2 := put_length x acc
    simp only [List.foldl_cons, List.length_cons]
    omega

theorem mono_get (l : List Int) (hl : l.Pairwise (· ≤ ·)) (i j : Nat) (h : i ≤ j) (hj : j < l.length) : l.toArray[i]! ≤ l.toArray[j]! := by
  have e1 : l.toArray[i]! = l[i] := by simp [getElem!_pos, show i < l.length by omega]
  have e2 : l.toArray[j]! = l[j] := by simp [getElem!_pos, hj]
  rw [e1, e2]
  rcases Nat.lt_or_ge i j with hij | hij
  · exact List.pairwise_iff_getElem.1 hl i j (by omega) hj hij
  · have : i = j := by omega
    subst this
    exact Int.le_refl _
theorem compact_set (l : List Int) (hl : l.Pairwise (· ≤ ·)) : (Lib.compact l).Pairwise (· < ·) ∧ ∀ z, z ∈ Lib.compact l ↔ z ∈ l := by
  have key : ∀ m, m ≤ l.length → (Lib.compactUpTo l.toArray m).Pairwise (· < ·) ∧ ∀ z, z ∈ Lib.compactUpTo l.toArray m ↔ ∃ j, j < m ∧ l.toArray[j]! = z := by
    intro m
    induction m with
    | zero => intro _; exact ⟨by simp [Lib.compactUpTo], by simp [Lib.compactUpTo]⟩
    | succ m ih =>
      intro hm
      obtain ⟨ih1, ih2⟩ := ih (by omega)
      rw [Lib.compactUpTo_succ]
      by_cases hk : Lib.keeps l.toArray m = true
      · rw [if_pos hk]
        refine ⟨List.pairwise_append.2 ⟨ih1, by simp, fun a ha b hb => ?_⟩, fun z => ?_⟩
        · obtain ⟨j, hj, rfl⟩ := (ih2 a).1 ha
          obtain rfl := List.mem_singleton.1 hb
          have h1 := mono_get l hl j (m - 1) (by omega) (by omega)
          have h2 := mono_get l hl (m - 1) m (by omega) (by omega)
          have h3 : m = 0 ∨ l.toArray[m]! ≠ l.toArray[m - 1]! := by simpa [Lib.keeps] using hk
          rcases h3 with h3 | h3
          · omega
          · omega
        · rw [List.mem_append, ih2 z, List.mem_singleton]
          constructor
          · rintro (⟨j, hj, rfl⟩ | rfl)
            · exact ⟨j, by omega, rfl⟩
            · exact ⟨m, by omega, rfl⟩
          · rintro ⟨j, hj, rfl⟩
            rcases Nat.lt_or_ge j m with h | h
            · exact .inl ⟨j, h, rfl⟩
            · have : j = m := by omega
              subst this
              exact .inr rfl
      · rw [if_neg hk, List.append_nil]
        have h3 : ¬ (m = 0 ∨ l.toArray[m]! ≠ l.toArray[m - 1]!) := fun h => hk (by simpa [Lib.keeps] using h)
        refine ⟨ih1, fun z => ?_⟩
        rw [ih2 z]
        constructor
        · rintro ⟨j, hj, rfl⟩
          exact ⟨j, by omega, rfl⟩
        · rintro ⟨j, hj, rfl⟩
          rcases Nat.lt_or_ge j m with h | h
          · exact ⟨j, h, rfl⟩
          · have : j = m := by omega
            subst this
            exact ⟨j - 1, by omega, by omega⟩
  obtain ⟨h1, h2⟩ := key l.length (Nat.le_refl _)
  refine ⟨h1, fun z => ?_⟩
  unfold Lib.compact
  rw [h2 z]
  constructor
  · rintro ⟨j, hj, rfl⟩
    have e1 : l.toArray[j]! = l[j] := by simp [getElem!_pos, hj]
    rw [e1]
    exact List.getElem_mem hj
  · intro hz
    obtain ⟨j, hj, rfl⟩ := List.getElem_of_mem hz
    exact ⟨j, hj, by simp [getElem!_pos, hj]⟩
theorem sorted_le (l : List Int) : (l.mergeSort fun x y => decide (x ≤ y)).Pairwise (· ≤ ·) := by
  have h := List.pairwise_mergeSort (le := fun x y : Int => decide (x ≤ y)) (fun a b c h1 h2 => by simp at *; omega) (fun a b => by simp; omega) l
  exact h.imp (fun h => by simpa using h)
/-- Sorted, and each once: the same as each put to its place. -/
theorem sort_compact (l : List Int) : Lib.compact (l.mergeSort fun x y => decide (x ≤ y)) = l.foldl put [] := by
  obtain ⟨h1, h2⟩ := compact_set _ (sorted_le l)
  refine uniq _ _ h1 (fold_up l [] (by simp)) fun z => ?_
  rw [h2, List.mem_mergeSort, fold_mem]
  simp

end Go.Proofs.Ytemnidhllbbjnaa.Sets0
