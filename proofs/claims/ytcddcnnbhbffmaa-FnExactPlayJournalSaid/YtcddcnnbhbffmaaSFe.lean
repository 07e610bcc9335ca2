/- slices.Chunk, and a string's bytes. No condition. -/
import Derived.RangeFuncNested
import Derived.RangeFuncBound
import Derived.RangeFuncCalls
import Derived.RangeFuncLeaves
import Derived.RangeFuncFrom
import Derived.RangeFuncBox
import Derived.Shelf.Abstract
import Derived.WalkKit
import Derived.OwnWalkIn
import Derived.TacticsInMore
import Derived.LoopNIn
import Derived.LoopIn
import Derived.Maps.AppendAt
import Derived.RegionIn
import Derived.Shelf.RegionOpen
import Derived.Test.YtcddcnnbhbffmaaProg
import Derived.Test.YtcddcnnbhbffmaaSFa
import Derived.Test.YtcddcnnbhbffmaaSFd
import Derived.Test.YtcddcnnbhbffmaaE35
namespace Go.Proofs.Ytcddcnnbhbffmaa
open Go.RowKit Go.Shelf
attribute [local go_sem] Oper.semAt_some

set_option maxHeartbeats 1000000 in
theorem chunk_in (F : Fence) (n : Nat) (h60 : F.fn 60) (hro : F.round = none) (a : Option Addr) (len cap : Nat) (w : World) :
    CallsIn F n Try.prog 60 #[.slice a len cap, .int .i64 2] w fun e w' => e = .returned (.func (.func 99) #[] #[.pointer (some ⟨w.heap.size, 0, none⟩), .pointer (some ⟨w.heap.size + 1, 0, none⟩)]) ∧ w' = (w.alloc (.cells #[.slice a len cap] 59)).alloc (.cells #[.int .i64 2] 3) := by
  refine callsIn_of_wp Try.func60 rfl h60 ?_ hro
  simp only [Try.ntmps60, List.size_toArray, List.length_cons, List.length_nil, Nat.reduceAdd, Nat.reduceSub, Array.replicate_succ, Array.replicate_zero, List.push_toArray, List.append_toArray, List.nil_append, List.cons_append]
  gi_wp2
  go_ret
  exact ⟨by simp, rfl⟩
theorem chunk_stops (F : Fence) (n : Nat) (h99 : F.fn 99) (hro : F.round = none) (hn : 1 ≤ n) (Bs Bn b off cap : Nat) (w : World) (hBs : Bs < w.heap.size) (hBn : Bn < w.heap.size) (hcap : 12 ≤ cap)
    (hs : w.cell? ⟨Bs, 0, none⟩ = some (.slice (some ⟨b, off, none⟩) 12 cap)) (h2 : w.cell? ⟨Bn, 0, none⟩ = some (.int .i64 2)) :
    SeqStopsK F n Try.prog 99 #[.pointer (some ⟨Bs, 0, none⟩), .pointer (some ⟨Bn, 0, none⟩)] (fun x : Fin 6 => #[Value.slice (some ⟨b, off + 2 * x.val, none⟩) 2 2]) (Kp2 Bs Bn) (fun ys => ys.map Fin.val = List.range 6) (fun _ => True) 6 w := fun l J Jx W hW hJ _ hY h0 => by
  refine (chunk1_in F n h99 hro hn l Bs Bn b off cap hcap (fun l W => ∃ l' : List (Fin 6), l'.map Fin.val = l ∧ J l' W) (fun l W => ∃ l' : List (Fin 6), l'.map Fin.val = l ∧ Jx l' W) W
    (fun s A B row ⟨l', e, hs⟩ hg hr => ⟨l', e, hJ l' A B row hs hg hr⟩) (fun pre x W1 hx hp hlen => ?_) ((hW.cell (p := ⟨Bs, 0, none⟩) hBs).trans hs) ((hW.cell (p := ⟨Bn, 0, none⟩) hBn).trans h2) ⟨[], rfl, h0⟩).mono ?_
  · obtain ⟨l', rfl, hp⟩ := hp
    refine (hY l' ⟨x, hx⟩ W1 hp (by simpa using hlen)).mono ?_
    rintro e W' (⟨rfl, hJ', hk⟩ | ⟨rfl, hJx'⟩)
    · exact .inl ⟨rfl, ⟨_, by rw [List.map_append]; rfl, hJ'⟩, hk⟩
    · exact .inr ⟨rfl, ⟨_, by rw [List.map_append]; rfl, hJx'⟩⟩
  · rintro e W' ⟨he, ⟨ys, rfl, l', e1, hj⟩ | ⟨pre, _, l', e1, hj⟩⟩
    · exact ⟨he, .inl ⟨l', e1, hj⟩⟩
    · exact ⟨he, .inr ⟨l', trivial, hj⟩⟩
open Go.Proofs.YtcddcnnbhbffmaaE in
theorem run_s2b {P : Program} {sT dT e : Nat} (hs : P.underlying sT = some .string) (hd : P.underlying dT = some (.slice e)) (he : P.underlying e = some (.int .u8)) (s : ByteArray) (W : World) :
    ∃ cap W2 cs, (convert sT dT (.string s)).run P W = .ok (.slice (some ⟨W.heap.size, 0, none⟩) s.size cap) W2 ∧ s.size ≤ cap ∧ Grew W W2 (.cells cs e (cap, cap + 1)) ∧ cs.size = cap ∧
      ∀ j, ∀ h : j < s.data.size, cs[j]? = some (.int .u8 (s.data[j]).toNat) := by
  let W1 : World := { W with drawn := W.drawn + 1 }
  let cap := s.size + (W.tape W.drawn (.appendCap s.size 0 e)) % (2 ^ 63 - s.size)
  let cs : Array Value := (s.data.map fun b => Value.int .u8 b.toNat) ++ Array.replicate (cap - s.size) (.int .u8 0)
  have hcs : cs.size = cap := by
    have : s.data.size = s.size := rfl
    simp [cs, this, cap]
  let w' : World := World.with W1 (.cells cs e (cap, cap + 1))
  refine ⟨cap, w', cs, ?_, by simp [cap], ⟨rfl, rfl, rfl, rfl⟩, hcs, fun j h => by show (_ ++ _ : Array Value)[j]? = _; rw [Array.getElem?_append_left (by simpa using h), Array.getElem?_map, Array.getElem?_eq_getElem h]; rfl⟩
  unfold convert
  rw [run_und hs, run_und hd]
  simp only
  rw [run_und he]
  simp only
  unfold Conv.stringToBytes
  have hch : (choose (.appendCap s.size 0 e)).run P W = .ok cap W1 := by
    simp [choose, Sem.run, Question.forced, Question.cut, cap, W1]
  rw [run_then hch, run_then (run_newRow W1)]
  have hms : (markStringish ⟨W1.heap.size, 0, none⟩).run P (World.with W1 (.cells cs e)) = .ok () w' := by
    have hsh : (World.with W1 (.cells cs e)).shape? W1.heap.size = some (e, cs.size) := by
      show (match (W1.heap.push (.cells cs e))[W1.heap.size]? with | some (.cells c elem _) => some (elem, c.size) | _ => none) = _
      rw [Array.getElem?_push_size]
    have hfr : (World.with W1 (.cells cs e)).freeze ⟨W1.heap.size, cs.size, none⟩ 1 = w' := by
      unfold World.freeze
      rw [if_neg (by decide), hcs]
      show World.mk _ _ _ _ _ = World.mk _ _ _ _ _
      congr 1
      exact modify_push _ _ _
    unfold markStringish
    show (shape W1.heap.size >>= _).run P _ = _
    rw [run_then (s := shape W1.heap.size) (r := some (e, cs.size)) (w' := World.with W1 (.cells cs e)) (by simp only [shape, Sem.run, hsh])]
    show Result.ok () ((World.with W1 (.cells cs e)).freeze ⟨W1.heap.size, cs.size, none⟩ 1) = _
    rw [hfr]
  rw [run_then hms]
  rfl
end Go.Proofs.Ytcddcnnbhbffmaa
