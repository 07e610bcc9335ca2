/- The loop, and the function where both texts are of six bytes. No condition. -/
import Derived.RangeFuncNested
import Derived.RangeFuncBound
import Derived.RangeFuncCalls
import Derived.RangeFuncLeaves
import Derived.RangeFuncFrom
import Derived.RangeFuncBox
import Derived.Shelf.Abstract
import Derived.WalkKit
import Derived.OwnWalkIn
import Derived.TacticsInMore
import Derived.LoopNIn
import Derived.LoopIn
import Derived.Maps.AppendAt
import Derived.RegionIn
import Derived.Shelf.RegionOpen
import Derived.Test.YtcddcnnbhbffmaaProg
import Derived.Test.YtcddcnnbhbffmaaSFe
import Derived.Test.YtcddcnnbhbffmaaE35
namespace Go.Proofs.Ytcddcnnbhbffmaa
open Go.RowKit Go.Shelf
attribute [local go_sem] Oper.semAt_some

open Go.Proofs.YtcddcnnbhbffmaaE
/-- The six numbers, in a row of the call's own. -/
def SfRow (n₀ : Nat) (bl : List Int) (v : Value) (W : World) : Prop :=
  ∃ (g : Base), slAt (some g) 1 0 6 v ∧ n₀ ≤ g.g ∧ ∃ cs fz, W.heap[g.g]? = some (.cells cs 3 fz) ∧ cs.size = g.S ∧ unfrozen cs.size fz ∧ g.o + 6 ≤ cs.size ∧ ∀ i, i < 6 → seg cs (g.o + i) 1 = [.int .i64 (sfVal bl i)]
def codeAssign : Code → Code
  | .seq a b => match codeAssign a with | .skip => codeAssign b | c => c
  | .block _ b => codeAssign b
  | .rangeFunc _ _ a _ => a
  | _ => .skip

set_option maxRecDepth 100000 in
set_option maxHeartbeats 4000000 in
theorem sf_loop (F : Fence) (n : Nat) (h99 : F.fn 99) (hro : F.round = none) (hn : 5 ≤ n) {cap : Nat} {bl : List Int} {w W5 : World} (hbl : bl.length = 12) (hcap : 12 ≤ cap) (hsz5 : W5.heap.size = w.heap.size + 5)
    (hs5 : W5.cell? ⟨w.heap.size + 3, 0, none⟩ = some (.slice (some ⟨w.heap.size + 2, 0, none⟩) 12 cap)) (h25 : W5.cell? ⟨w.heap.size + 3 + 1, 0, none⟩ = some (.int .i64 2))
    (hI0 : SfI w.heap.size (w.heap.size + 1) (w.heap.size + 2) cap (w.heap.size + 3) (w.heap.size + 3 + 1) bl w [] W5) (u0 u1 u2 u3 u5 u6 u7 u8 u9 u10 u11 u12 u13 u14 u15 u16 u17 u18 u19 u20 u21 u22 u23 u24 u25 u26 u27 u28 u29 u30 u31 u33 u34 u35 u36 u37 u38 u39 u40 u41 u42 u43 u44 u45 u46 u47 : Value) {assign body : Code} (ha : assign = codeAssign (Try.f21.body.getD .skip)) (hb : body = codeBody (Try.f21.body.getD .skip)) {Q : Exit → Act → World → Prop}
    (hdone : ∀ (D : Nat) (ys : List (Fin 6)) (W : World), w.heap.size ≤ D → ys.map Fin.val = List.range 6 → SfI w.heap.size (w.heap.size + 1) (w.heap.size + 2) cap (w.heap.size + 3) (w.heap.size + 3 + 1) bl w ys W → W.heap[D]? = some (.deferred (some [])) → W5.heap.size ≤ D →
      Q .normal { tmps := #[u0, u1, u2, u3, .pointer (some ⟨w.heap.size + 1, 0, none⟩), u5, u6, u7, u8, u9, u10, u11, u12, u13, u14, u15, u16, u17, u18, u19, u20, u21, u22, u23, u24, u25, u26, u27, u28, u29, u30, u31, .func (.func 99) #[] #[.pointer (some ⟨w.heap.size + 3, 0, none⟩), .pointer (some ⟨w.heap.size + 3 + 1, 0, none⟩)], u33, u34, u35, u36, u37, u38, u39, u40, u41, u42, u43, u44, u45, u46, u47], defers := [{ target := .collected D, args := #[] }] } W) :
    (Code.rangeFunc (.tmp 32) #[33] assign body).wpIn F n Try.prog Q { tmps := #[u0, u1, u2, u3, .pointer (some ⟨w.heap.size + 1, 0, none⟩), u5, u6, u7, u8, u9, u10, u11, u12, u13, u14, u15, u16, u17, u18, u19, u20, u21, u22, u23, u24, u25, u26, u27, u28, u29, u30, u31, .func (.func 99) #[] #[.pointer (some ⟨w.heap.size + 3, 0, none⟩), .pointer (some ⟨w.heap.size + 3 + 1, 0, none⟩)], u33, u34, u35, u36, u37, u38, u39, u40, u41, u42, u43, u44, u45, u46, u47], defers := [] } W5 := by
  have h1 : 1 ≤ n := by omega
  refine wpIn_rangeFunc_ownF (w0 := W5) hro h1 (gf := 99) (lb := #[.pointer (some ⟨w.heap.size + 3, 0, none⟩), .pointer (some ⟨w.heap.size + 3 + 1, 0, none⟩)]) rfl h99 (enters_of Try.func99 (by kernel_rfl) rfl)
      (chunk_stops F (n - 1) h99 hro (by omega) (w.heap.size + 3) (w.heap.size + 3 + 1) (w.heap.size + 2) 0 cap W5 (by omega) (by omega) hcap hs5 h25) Kp2.trans (fun W l o o' hl h h1 h2 => ?_) (Below.refl _ _) (fun _ => rfl)
      (SfI w.heap.size (w.heap.size + 1) (w.heap.size + 2) cap (w.heap.size + 3) (w.heap.size + 3 + 1) bl w) (fun _ _ _ => False) (fun s W W' row hs hg hr => ?_) (fun c s W W' row h => h.elim) hI0
      (fun x => { tmps := #[u0, u1, u2, u3, .pointer (some ⟨w.heap.size + 1, 0, none⟩), .slice (some ⟨w.heap.size + 2, 2 * x.val, none⟩) 2 2, u6, u7, u8, u9, u10, u11, u12, u13, u14, u15, u16, u17, u18, u19, u20, u21, u22, u23, u24, u25, u26, u27, u28, u29, u30, u31, .func (.func 99) #[] #[.pointer (some ⟨w.heap.size + 3, 0, none⟩), .pointer (some ⟨w.heap.size + 3 + 1, 0, none⟩)], .slice (some ⟨w.heap.size + 2, 2 * x.val, none⟩) 2 2, u34, u35, u36, u37, u38, u39, u40, u41, u42, u43, u44, u45, u46, u47], defers := [] }) ?_ ?_ ?_ ?_
  · refine ⟨by have := (grownBy_putObj' W l o').size; exact this, fun k hk hlt => (grownBy_putObj' W l o').block k hlt (fun e => ?_)⟩
    cases e
    omega
  · obtain ⟨v, br, k1, ⟨bs, fz, k2, k3⟩, k4, k5, k6, k7, k8⟩ := hs
    have keep : ∀ k cs e fz, W.heap[k]? = some (Obj.cells cs e fz) → W'.heap[k]? = some (Obj.cells cs e fz) := fun k cs e fz h => (hg.block k (Array.getElem?_eq_some_iff.1 h).1 (fun e' => by
      obtain ⟨_, ob, ho, hc⟩ := hr k e'.symm
      rw [h] at ho; cases ho; cases hc)).trans h
    refine ⟨v, br, keep _ _ _ _ k1, ⟨bs, fz, keep _ _ _ _ k2, k3⟩, k4, ?_, ?_, Nat.lt_of_lt_of_le k7 hg.size, Nat.lt_of_lt_of_le k8 hg.size⟩
    · cases br with
      | none => exact k5
      | some g =>
        obtain ⟨q0, cs, fz, q1, q2⟩ := k5
        exact ⟨q0, cs, fz, keep _ _ _ _ q1, q2⟩
    · exact ownFrom_below (β := Unit) (Nat.le_refl _) (by omega) () W W' row k6 hg hr
  · intro l x W K hK
    subst ha
    simp only [codeAssign, Try.f21, Option.getD]
    gi_wp2
    exact hK
  · intro l pre x W hI hlen
    subst hb
    exact sf_body F (n - 1 - 1) l (by omega) (by omega) (by omega) (Nat.le_refl _) hcap hbl hlen rfl rfl (by simp) hI
  · intro D ys W hD hS hI hK
    exact hdone D ys W (by omega) hS hI hK hD
  · rintro D c pre W hD _ h _
    exact h.elim
theorem sf_fin {n₀ B b cap Bs Bn D : Nat} {bl : List Int} {w W : World} {ys : List (Fin 6)} (hn₀ : n₀ ≤ w.heap.size) (hS : ys.map Fin.val = List.range 6) (hI : SfI n₀ B b cap Bs Bn bl w ys W) (hK : W.heap[D]? = some (.deferred (some []))) (hD : n₀ ≤ D) (o' : Obj) :
    ∃ v, W.cell? ⟨B, 0, none⟩ = some v ∧ SfRow n₀ bl v (W.putObj D o') ∧ Below n₀ w (W.putObj D o') := by
  obtain ⟨v, br, k1, _, k4, k5, k6, k7, k8⟩ := hI
  have hlen : ys.length = 6 := by have := congrArg List.length hS; simpa using this
  have hg := grownBy_putObj' W D o'
  refine ⟨v, by simp [World.cell?, k1], ?_, k6.trans ((Below.refl n₀ W).grown hg (by have := k6.size; omega) (fun k e => by cases e; exact hD))⟩
  cases br with
  | none => rw [k5] at hlen; cases hlen
  | some g =>
    obtain ⟨q0, cs, fz, q1, q2, q3, q4, q5⟩ := k5
    rw [hlen] at k4 q4
    refine ⟨g, k4, q0.1, cs, fz, (hg.block g.g (Array.getElem?_eq_some_iff.1 q1).1 (fun e => ?_)).trans q1, q2, q3, q4, fun i hi => ?_⟩
    · cases e; rw [q1] at hK; cases hK
    · rw [q5 i (by omega)]
      congr 3
      have := congrArg (fun l => l[i]?) hS
      simp only [List.getElem?_map] at this
      rw [List.getElem?_eq_getElem (by omega), List.getElem?_range hi] at this
      simpa using this
set_option maxRecDepth 100000 in
set_option maxHeartbeats 4000000 in
theorem sf_in (F : Fence) (n : Nat) (h21 : F.fn 21) (h60 : F.fn 60) (h99 : F.fn 99) (hro : F.round = none) (hn : 5 ≤ n) (g o c e2 : Nat) (fz : Nat × Nat) (cs : Array Value) (s1 s2 : ByteArray) (w : World) (hg : w.heap[g]? = some (.cells cs e2 fz))
    (hc1 : w.cell? ⟨g, o, none⟩ = some (.string s1)) (hc2 : w.cell? ⟨g, o + 1, none⟩ = some (.string s2)) (hz1 : s1.size = 6) (hz2 : s2.size = 6) :
    CallsIn F n Try.prog 21 #[.slice (some ⟨g, o, none⟩) 2 c] w fun e w' => ∃ v, e = .returned (.tuple #[v, .bool true]) ∧ SfRow w.heap.size (bytesL (s1 ++ s2)) v w' ∧ Below w.heap.size w w' := by
  have h1 : 1 ≤ n := by omega
  have hmx : Try.prog.follows .mixedOrders = true := by kernel_rfl
  refine callsIn_of_wp_marks Try.func21 rfl h21 ?_ hro
  simp only [Try.ntmps21, List.size_toArray, List.length_cons, List.length_nil, Nat.reduceAdd, Nat.reduceSub, Array.replicate_succ, Array.replicate_zero, List.push_toArray, List.append_toArray, List.nil_append, List.cons_append]
  gi_wp2
  have hlt : g < w.heap.size := (Array.getElem?_eq_some_iff.1 hg).1
  obtain ⟨W, hW⟩ : ∃ W, W = (w.alloc (Obj.cells #[] 3)).alloc (Obj.cells #[Value.slice (some { block := w.heap.size, off := 0 }) 0 0] 22) := ⟨_, rfl⟩
  rw [← hW]
  have hBW : Below w.heap.size w W := by rw [hW]; exact ((Below.refl _ w).alloc (Nat.le_refl _) _).alloc (by simp) _
  have hszW : W.heap.size = w.heap.size + 2 := by rw [hW]; simp
  have hc1W : W.drew.cell? ⟨g, o, none⟩ = some (.string s1) := (hBW.cell (p := ⟨g, o, none⟩) hlt).trans hc1
  have hc2W : W.drew.cell? ⟨g, o + 1, none⟩ = some (.string s2) := (hBW.cell (p := ⟨g, o + 1, none⟩) hlt).trans hc2
  have hbox : Boxed W (w.heap.size + 1) 22 (Value.slice (some { block := w.heap.size, off := 0 }) 0 0) := by
    rw [hW]; have := Boxed.new (w.alloc (Obj.cells #[] 3)) 22 (Value.slice (some { block := w.heap.size, off := 0 }) 0 0); rwa [World.size_alloc] at this
  have hrow : W.ownsRow w.heap.size 3 1 (Value.slice (some { block := w.heap.size, off := 0 }) 0 0) 0 [] := by
    refine ⟨rfl, .inr ⟨w.heap.size, 0, #[], rfl, Nat.le_refl _, ?_, Nat.le_refl _, Nat.zero_le _, rfl, rfl⟩⟩
    rw [hW]; exact (Below.heap_alloc _ _ _ (by simp)).trans (World.alloc_heap_new w _)
  clear hW
  have hsz12 : (s1 ++ s2).size = 12 := by simp [hz1, hz2]
  obtain ⟨cap, W2, bs, hconv, hcap, hgr, hbs, hbd⟩ := run_s2b (P := Try.prog) (sT := 9) (dT := 59) (e := 5) (by kernel_rfl) (by kernel_rfl) (by kernel_rfl) (s1 ++ s2) W.drew
  have hszd : W.drew.heap.size = w.heap.size + 2 := hszW
  rw [hszd, hsz12] at hconv
  rw [hsz12] at hcap
  have hsz2 : W2.heap.size = w.heap.size + 3 := by rw [hgr.heap]; simp [hszd]
  have hB2 : Below w.heap.size w W2 := hBW.trans (((Below.refl w.heap.size W).drew).trans (hgr.below.mono (by omega)))
  have hbox2 : Boxed W2 (w.heap.size + 1) 22 (Value.slice (some { block := w.heap.size, off := 0 }) 0 0) := hgr.old hbox
  have hrow2_ : W2.ownsRow w.heap.size 3 1 (Value.slice (some { block := w.heap.size, off := 0 }) 0 0) 0 [] := hrow.kept (row := none) (World.grownBy.mk hgr.os hgr.tape hgr.output (by rw [hgr.heap]; simp) fun k hk _ => hgr.old (Array.getElem?_eq_getElem hk) |>.trans (Array.getElem?_eq_getElem hk).symm) (.inr (by simp [Value.ownBlock]))
  have hby2 : W2.heap[w.heap.size + 2]? = some (.cells bs 5 (cap, cap + 1)) := by have := hgr.new; rwa [hszd] at this
  have hblen : (bytesL (s1 ++ s2)).length = 12 := by
    have : (s1 ++ s2).data.size = 12 := hsz12
    unfold bytesL
    rw [List.length_map, Array.length_toList, this]
  obtain ⟨W5, hW5⟩ : ∃ W5, W5 = (W2.alloc (Obj.cells #[Value.slice (some { block := w.heap.size + 2, off := 0 }) 12 cap] 59)).alloc (Obj.cells #[Value.int IntKind.i64 2] 3) := ⟨_, rfl⟩
  have hB25 : Below W2.heap.size W2 W5 := by rw [hW5]; exact ((Below.refl _ W2).alloc (Nat.le_refl _) _).alloc (by simp) _
  have hsz5 : W5.heap.size = w.heap.size + 5 := by rw [hW5]; simp; omega
  have hk5 : ∀ k o, W2.heap[k]? = some o → W5.heap[k]? = some o := fun k o h => (hB25.block k (Array.getElem?_eq_some_iff.1 h).1).trans h
  have hs5 : W5.cell? ⟨w.heap.size + 3, 0, none⟩ = some (.slice (some ⟨w.heap.size + 2, 0, none⟩) 12 cap) := by
    have e1 : (W2.alloc (Obj.cells #[Value.slice (some { block := w.heap.size + 2, off := 0 }) 12 cap] 59)).heap[w.heap.size + 3]? = some (Obj.cells #[Value.slice (some { block := w.heap.size + 2, off := 0 }) 12 cap] 59) := by rw [← hsz2]; exact World.alloc_heap_new W2 _
    have e2 : W5.heap[w.heap.size + 3]? = some (Obj.cells #[Value.slice (some { block := w.heap.size + 2, off := 0 }) 12 cap] 59) := by rw [hW5]; exact (Below.heap_alloc _ _ _ (by simp; omega)).trans e1
    simp [World.cell?, e2]
  have h25 : W5.cell? ⟨w.heap.size + 3 + 1, 0, none⟩ = some (.int .i64 2) := by
    have e2 : W5.heap[w.heap.size + 3 + 1]? = some (Obj.cells #[Value.int IntKind.i64 2] 3) := by
      rw [hW5]
      have := World.alloc_heap_new (W2.alloc (Obj.cells #[Value.slice (some { block := w.heap.size + 2, off := 0 }) 12 cap] 59)) (Obj.cells #[Value.int IntKind.i64 2] 3)
      rwa [World.size_alloc, hsz2] at this
    simp [World.cell?, e2]
  have hI0 : SfI w.heap.size (w.heap.size + 1) (w.heap.size + 2) cap (w.heap.size + 3) (w.heap.size + 3 + 1) (bytesL (s1 ++ s2)) w [] W5 := by
    refine ⟨_, some ⟨w.heap.size, 0, 0⟩, hk5 _ _ hbox2, ⟨bs, _, hk5 _ _ hby2, hbs, fun j hj hh => by have := hh.1; omega, fun i hi => ?_⟩, ⟨_, _, rfl, Nat.le_refl _, .inl rfl, by simp⟩, ?_, hB2.trans (hB25.mono (by omega)), by omega, by omega⟩
    · have hi' : i < (s1 ++ s2).data.size := by rw [hblen] at hi; have : (s1 ++ s2).data.size = 12 := hsz12; omega
      apply List.ext_getElem?
      intro j
      cases j with
      | zero =>
        rw [seg_get (by omega), Nat.add_zero, hbd i hi']
        simp only [bytesL, List.getElem?_cons_zero, List.getElem_map, Array.getElem_toList]
      | succ j => rw [List.getElem?_eq_none (by simp [seg]; omega), List.getElem?_eq_none (by simp)]
    · have hg0 : W2.heap[w.heap.size]? = some (.cells #[] 3 (0, 0)) := by
        rcases hrow2_.2 with ⟨h, _⟩ | ⟨g', cp, cur, he, _, hh, _, _, hsz, _⟩
        · cases h
        · cases he
          rw [hh]
          have : cur = #[] := by apply Array.eq_empty_of_size_eq_zero; simpa using hsz
          rw [this]
      exact ⟨⟨Nat.le_refl _, by show w.heap.size ≠ _; omega, by show w.heap.size ≠ _; omega⟩, #[], (0, 0), hk5 _ _ hg0, rfl, fun j hj => by simp at hj, Nat.le_refl _, fun i hi => absurd hi (Nat.not_lt_zero _)⟩
  clear hbd hrow2_ hbox2 hby2 hgr hB25 hbox hrow hB2
  gi_region_with_o (gi_at_call 60; refine (chunk_in F _ h60 hro _ _ _ _).mono ?_; rintro e w' ⟨rfl, rfl⟩)
  all_goals gi_wp2
  all_goals rw [← hW5]
  all_goals
    refine sf_loop F n h99 hro hn hblen hcap hsz5 hs5 h25 hI0 _ _ _ _ _ _ _ _ _ _ _ _ _ _ _ _ _ _ _ _ _ _ _ _ _ _ _ _ _ _ _ _ _ _ _ _ _ _ _ _ _ _ _ _ _ _ (by kernel_rfl) (by kernel_rfl) (fun D ys W hD hS hI hK hD5 => ?_)
    obtain ⟨v, hcv, hrow, hbel⟩ := sf_fin (Nat.le_refl _) hS hI hK hD (.deferred none)
    clear hI hS
    gi_wp2
    refine ⟨by simp, .inl ⟨_, _, rfl, run_takeDeferred hK, ?_⟩⟩
    exact ⟨_, results_tmp2 rfl _ _ _, v, rfl, hrow, hbel⟩
end Go.Proofs.Ytcddcnnbhbffmaa
