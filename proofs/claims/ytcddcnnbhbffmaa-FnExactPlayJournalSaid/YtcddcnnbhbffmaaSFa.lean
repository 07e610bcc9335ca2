/- The iterator of slices.Chunk, at two bytes a round. No condition. -/
import Derived.RangeFuncNested
import Derived.RangeFuncBound
import Derived.RangeFuncCalls
import Derived.RangeFuncLeaves
import Derived.RangeFuncFrom
import Derived.RangeFuncBox
import Derived.Shelf.Abstract
import Derived.WalkKit
import Derived.OwnWalkIn
import Derived.TacticsInMore
import Derived.LoopNIn
import Derived.LoopIn
import Derived.Maps.AppendAt
import Derived.RegionIn
import Derived.Shelf.RegionOpen
import Derived.Test.YtcddcnnbhbffmaaProg
namespace Go.Proofs.Ytcddcnnbhbffmaa
open Go.RowKit Go.Shelf
attribute [local go_sem] Oper.semAt_some
/-- Two blocks lie as they lay. -/
def Kp2 (Bs Bn : Nat) (W W' : World) : Prop := W.heap.size ≤ W'.heap.size ∧ ∀ k, (k = Bs ∨ k = Bn) → k < W.heap.size → W'.heap[k]? = W.heap[k]?
theorem Kp2.refl {Bs Bn : Nat} (W : World) : Kp2 Bs Bn W W := ⟨Nat.le_refl _, fun _ _ _ => rfl⟩
theorem Kp2.trans {Bs Bn : Nat} {A B C : World} (h : Kp2 Bs Bn A B) (k : Kp2 Bs Bn B C) : Kp2 Bs Bn A C := ⟨Nat.le_trans h.1 k.1, fun i hi hl => (k.2 i hi (Nat.lt_of_lt_of_le hl h.1)).trans (h.2 i hi hl)⟩
theorem Kp2.cell {Bs Bn : Nat} {W W' : World} (h : Kp2 Bs Bn W W') {k : Nat} (hk : k = Bs ∨ k = Bn) {v : Value} (hc : W.cell? ⟨k, 0, none⟩ = some v) : W'.cell? ⟨k, 0, none⟩ = some v := by
  have hl : k < W.heap.size := by
    unfold World.cell? at hc
    simp only at hc
    split at hc
    · rename_i e; exact (Array.getElem?_eq_some_iff.1 e).1
    · cases hc
  unfold World.cell? at hc ⊢
  simp only at hc ⊢
  rw [h.2 k hk hl]; exact hc
set_option maxRecDepth 100000 in
set_option maxHeartbeats 2000000 in
theorem chunk1_in (F : Fence) (n : Nat) (h99 : F.fn 99) (hro : F.round = none) (hn : 1 ≤ n) (l Bs Bn b off cap : Nat) (hcap : 12 ≤ cap) (J Jx : List Nat → World → Prop) (W : World) (hJ : AbidesFrom W.heap.size J)
    (hY : ∀ pre x W1, x < 6 → J pre W1 → pre.length < 6 → YieldAt F (n - 1) Try.prog l #[.slice (some ⟨b, off + 2 * x, none⟩) 2 2] W1 fun e W' =>
      (e = .returned (.bool true) ∧ J (pre ++ [x]) W' ∧ Kp2 Bs Bn W1 W') ∨ (e = .returned (.bool false) ∧ Jx (pre ++ [x]) W'))
    (hs : W.cell? ⟨Bs, 0, none⟩ = some (.slice (some ⟨b, off, none⟩) 12 cap)) (h2 : W.cell? ⟨Bn, 0, none⟩ = some (.int .i64 2)) (h0 : J [] W) :
    CallsIn F n Try.prog 99 #[.func (.yield l) #[] #[], .pointer (some ⟨Bs, 0, none⟩), .pointer (some ⟨Bn, 0, none⟩)] W fun e W' => (∃ v, e = .returned v) ∧
      ((∃ ys, ys = List.range 6 ∧ J ys W') ∨ (∃ pre, True ∧ Jx pre W')) := by
  refine callsIn_of_wp Try.func99 rfl h99 ?_ hro
  simp only [Try.ntmps99, List.size_toArray, List.length_cons, List.length_nil, Nat.reduceAdd, Nat.reduceSub, Array.replicate_succ, Array.replicate_zero, List.push_toArray, List.append_toArray, List.nil_append, List.cons_append]
  gi_wp2
  gi_loopw [4] (fun i wr => ∃ k : Nat, k ≤ 6 ∧ i = .int .i64 (2 * k : Nat) ∧ J (List.range k) wr ∧ Kp2 Bs Bn W wr)
    (fun i _ => 12 - (intOf i).toNat)
  case atStart => exact ⟨0, Nat.zero_le _, rfl, h0, Kp2.refl _⟩
  case round =>
    obtain ⟨k, hk, rfl, hJs, hnx⟩ := hrel
    have hs' := hnx.cell (.inl rfl) hs
    have h2' := hnx.cell (.inr rfl) h2
    by_cases hlt : k < 6
    · have e3 : ¬ (((12 - 2 * k : Nat) : Int) < 2) := by omega
      have hJd : J (List.range k) wr.drew := hJ _ wr wr.drew none hJs ⟨rfl, rfl, rfl, Nat.le_refl _, fun _ _ _ => rfl⟩ (fun r e => by cases e)
      have hsd : wr.drew.cell? ⟨Bs, 0, none⟩ = some (Value.slice (some ⟨b, off, none⟩) 12 cap) := hs'
      have h2d : wr.drew.cell? ⟨Bn, 0, none⟩ = some (Value.int IntKind.i64 2) := h2'
      gi_wp2
      gi_region
      all_goals
        (try simp only [if_neg e3])
        obtain ⟨fn, tmps, assign, body, hy, hR⟩ := hY _ k wr.drew hlt hJd (by rw [List.length_range]; exact hlt)
        gi_wp2
        refine hR.mono ?_
        rintro e W3 (⟨rfl, hJ3, hk3⟩ | ⟨rfl, hJx3⟩)
        · have h23 : W3.cell? ⟨Bn, 0, none⟩ = some (Value.int IntKind.i64 2) := hk3.cell (.inr rfl) h2d
          gi_wp2
          go_roundw
          case rel => exact ⟨k + 1, by omega, by simp; omega, by rw [List.range_succ]; exact hJ3, hnx.trans (Kp2.trans (B := wr.drew) ⟨Nat.le_refl _, fun _ _ _ => rfl⟩ hk3)⟩
          case measure => simp [intOf]; omega
        · gi_wp2
          refine bodyPost_ret (results_none rfl _ _ _) rfl ?_
          exact ⟨⟨_, rfl⟩, .inr ⟨_, trivial, hJx3⟩⟩
    · obtain rfl : k = 6 := by omega
      gi_wp2
      go_end0
      exact ⟨⟨_, rfl⟩, .inl ⟨_, rfl, hJs⟩⟩
end Go.Proofs.Ytcddcnnbhbffmaa
