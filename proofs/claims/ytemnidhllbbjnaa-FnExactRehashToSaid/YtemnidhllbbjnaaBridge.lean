/- From the words of the library's contracts (a row that holds, put, grown) to the printed words on rows of the call's own. No condition. -/
import Derived.Test.YtemnidhllbbjnaaWWords
import Derived.Test.YtemnidhllbbjnaaWKept
import Derived.Lib.OwnBridge
import Derived.Sort.Grow
namespace Go.Proofs.Ytemnidhllbbjnaa.Bridge0
open Go.RowKit Go.Sort Go.Proofs.YtemnidhllbbjnaaW.PrintWords

theorem grow_get (w : World) (os : Array Obj) (k : Nat) (hk : k < w.heap.size) : (grow w os).heap[k]? = w.heap[k]? := by
  simp [grow, Array.getElem?_append_left hk]
theorem putRow_size {α : Type} [Inhabited α] (enc : α → Value) (w : World) (q g : Nat) (d : Array α) : (putRow enc (Sort.ahead w q) g 0 d).heap.size = w.heap.size := by
  simp [putRow, mapBlock, Sort.ahead]
theorem putRow_get {α : Type} [Inhabited α] (enc : α → Value) (w : World) (q g k : Nat) (d : Array α) (hk : k ≠ g) : (putRow enc (Sort.ahead w q) g 0 d).heap[k]? = w.heap[k]? := by
  simp [putRow, mapBlock, Sort.ahead, Array.getElem?_modify, show ¬ g = k from fun h => hk h.symm]

/-- A row of the call's own, behind what puts ys in its place and hands back its first k elements. -/
theorem put_row {α : Type} [Inhabited α] {enc : α → Value} {h1 : ∀ x : α, (enc x).oneCell' = true} {e base g cap q k : Nat} {w0 w : World} {P0 : Nat → Prop} {os : Array Obj} {zs ys : List α}
    (hB : Below base w0 w) (ho : (Kd.scalar enc h1).R e w base P0 (.slice (some ⟨g, 0, none⟩) zs.length cap) zs) (hy : ys.length = zs.length) (hk : k ≤ zs.length) :
    (Kd.scalar enc h1).R e (grow (putRow enc (Sort.ahead w q) g 0 ys.toArray) os) base (fun k_ => (P0 k_ ∨ w.heap.size ≤ k_)) (.slice (some ⟨g, 0, none⟩) k cap) (ys.take k) ∧
    Below base w0 (grow (putRow enc (Sort.ahead w q) g 0 ys.toArray) os) ∧ Kept w (grow (putRow enc (Sort.ahead w q) g 0 ys.toArray) os) (fun k_ => P0 k_) := by
  have hown := Kd.own_of_R ho
  have hgP : P0 g := ho.1 g rfl
  have hgb : base ≤ g := own_base hown g rfl
  have hlt : g < w.heap.size := own_lt hown g rfl
  have hput := Lib.ownsRow_putRow (q := q) hown hy hk
  have hsz := putRow_size enc w q g ys.toArray
  have hb1 := Lib.below_putRow (enc := enc) (q := q) (d := ys.toArray) hB hgb
  have hl : (ys.take k).length = k := by rw [List.length_take]; omega
  refine ⟨Kd.R_of_own ?_ (fun k' hk' => ?_), ⟨hb1.os, hb1.tape, hb1.output, ?_, fun i hi => ?_⟩, ?_, fun i hi hn => ?_⟩
  · rw [hl]
    exact own_move hput (fun k' hk' => by
      have : g = k' := by simpa [Value.ownBlock] using hk'
      subst this
      exact grow_get _ _ _ (by rw [hsz]; exact hlt))
  · have : g = k' := by simpa [Value.ownBlock] using hk'
    subst this
    exact .inl hgP
  · have := hb1.size
    simp only [grow, Array.size_append]
    omega
  · have h2 : i < (putRow enc (Sort.ahead w q) g 0 ys.toArray).heap.size := by omega
    rw [grow_get _ _ _ h2]
    exact hb1.block i hi
  · simp only [grow, Array.size_append, hsz]
    omega
  · rw [grow_get _ _ _ (by rw [hsz]; exact hi)]
    exact putRow_get enc w q g i _ (fun h => hn (h ▸ hgP))

theorem nil_of_own {α : Type} {enc : α → Value} {e base : Nat} {w : World} {zs : List α} (h : w.ownsRow base e 1 (.slice none 0 0) zs.length (encs enc zs)) : zs = [] := by
  rcases h.2 with ⟨_, hn⟩ | ⟨g, cap, cur, he, _⟩
  · exact List.eq_nil_of_length_eq_zero hn
  · cases he

end Go.Proofs.Ytemnidhllbbjnaa.Bridge0
