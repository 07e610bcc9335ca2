-- Written by xprint.py of this session: out of the translation, by the kit's print with contracts of this session.
import Derived.Test.YtemnidhllbbjnaaXFnExactRehashTox0
import Derived.Test.YtemnidhllbbjnaaXFnExactRehashTox1
import Derived.Test.YtemnidhllbbjnaaXFnExactRehashTox7
import Derived.Test.YtemnidhllbbjnaaXFnExactRehashTox8
namespace Go.Proofs.Ytemnidhllbbjnaa.XFnExactRehashTo
open Go.RowKit Go.Proofs.YtemnidhllbbjnaaW.PrintWords Go.Proofs.YtemnidhllbbjnaaW.PrintLast Go.Proofs.YtemnidhllbbjnaaW.PrintMore
open Go.Proofs.Ytemnidhllbbjnaa.Min0
attribute [local go_sem] max2_int min2_int max_two min_two max_three min_three max_four min_four   -- for this text's walks alone
set_option linter.unusedVariables false
set_option linter.unusedSimpArgs false

attribute [local go_sem high] eqA79
/-! ### impl_GoodTable: function 27 -/
mutual
def impl_GoodTable.j0 : Nat → Bool → Int → List (S79) → List (S79) → Int → Option (Bool)
 | 0, _, _, _, _, _ => none
 | k + 1, x24, x297000, x297001, x297002, x297003 => if x24 = true then (some false) else (impl_GoodTable.l0 k 0 x297000 x297001 x297002 x297003)
def impl_GoodTable.l0 : Nat → Int → Int → List (S79) → List (S79) → Int → Option (Bool)
 | 0, _, _, _, _, _ => none
 | k + 1, x25, x297000, x297001, x297002, x297003 => if x25 < 11 then (if 0 ≤ x25 then (if x25 < (x297001.length : Int) then (if x25 < (x297002.length : Int) then ((some (([(⟨(rd_T79 x297001 x25).f0, (rd_T79 x297001 x25).f1, (rd_T79 x297001 x25).f2⟩ : S79), (⟨(rd_T79 x297002 x25).f0, (rd_T79 x297002 x25).f1, (rd_T79 x297002 x25).f2⟩ : S79)] : List (S79)) : List (S79))).bind fun y306 => (impl_GoodTable.l1 k x25 x25 y306 (y306.length : Int) 0 x297000 x297001 x297002 x297003)) else (none)) else (none)) else (none)) else ((impl_keysIn.f k x297000 x297001 x297002 x297003).bind fun t298 => (if x297003 = (t298.length : Int) then ((slices_Compact_int_int.f t298).bind fun t301 => (some ((t301.length : Int) == x297003))) else (some false)))
def impl_GoodTable.l1 : Nat → Int → Int → List (S79) → Int → Int → Int → List (S79) → List (S79) → Int → Option (Bool)
 | 0, _, _, _, _, _, _, _, _, _ => none
 | k + 1, x3, x25, x38, x39, x40, x297000, x297001, x297002, x297003 => if x40 < x39 then (if 0 ≤ x40 then (if x40 < (x38.length : Int) then (if ((rd_T79 x38 x40).f0 = true) then ((impl_isKey.f ((rd_T79 x38 x40).f1)).bind fun t311 => (if t311 = true then ((impl_within.f ((rd_T79 x38 x40).f2) 0 9999).bind fun t312 => (impl_GoodTable.j3 k x3 x40 x25 x38 x39 x40 (!t312) x297000 x297001 x297002 x297003 ((rd_T79 x38 x40).f0) ((rd_T79 x38 x40).f1) ((rd_T79 x38 x40).f2))) else (impl_GoodTable.j3 k x3 x40 x25 x38 x39 x40 true x297000 x297001 x297002 x297003 ((rd_T79 x38 x40).f0) ((rd_T79 x38 x40).f1) ((rd_T79 x38 x40).f2)))) else (if (((rd_T79 x38 x40).f0) || (!(((rd_T79 x38 x40).f1) == 0) || (!(((rd_T79 x38 x40).f2) == 0)))) = true then (some false) else (impl_GoodTable.l1 k x3 x25 x38 x39 (wrap64 (x40 + 1)) x297000 x297001 x297002 x297003))) else (none)) else (none)) else (impl_GoodTable.l0 k (wrap64 (x25 + 1)) x297000 x297001 x297002 x297003)
def impl_GoodTable.j3 : Nat → Int → Int → Int → List (S79) → Int → Int → Bool → Int → List (S79) → List (S79) → Int → Bool → Int → Int → Option (Bool)
 | 0, _, _, _, _, _, _, _, _, _, _, _, _, _, _ => none
 | k + 1, x3, x4, x25, x38, x39, x40, x60, x297000, x297001, x297002, x297003, x311000, x311001, x311002 => if x60 = true then (some false) else ((impl_placesOf.f x297000 x311001).bind fun bt313 => ((some (([bt313.1, bt313.2] : List Int) : List Int)).bind fun y315 => (if 0 ≤ x4 then (if x4 < (y315.length : Int) then (if x3 = (rd y315 x4) then (impl_GoodTable.l1 k x3 x25 x38 x39 (wrap64 (x40 + 1)) x297000 x297001 x297002 x297003) else (some false)) else (none)) else (none))))
end
def impl_GoodTable.f (k : Nat) (a0_0 : Int) (l0_1 : List (S79)) (l0_2 : List (S79)) (a0_3 : Int) : Option (Bool) := (impl_isSeed.f a0_0).bind fun t297 => (if t297 = true then (if (l0_1.length : Int) = 11 then (impl_GoodTable.j0 k ((l0_2.length : Int) != 11) a0_0 l0_1 l0_2 a0_3) else (impl_GoodTable.j0 k true a0_0 l0_1 l0_2 a0_3)) else (impl_GoodTable.j0 k true a0_0 l0_1 l0_2 a0_3))
theorem impl_GoodTable.mono_l : ∀ k, (∀ y0 y1 y2 y3 y4, LeO (impl_GoodTable.j0 k y0 y1 y2 y3 y4) (impl_GoodTable.j0 (k + 1) y0 y1 y2 y3 y4)) ∧ (∀ y0 y1 y2 y3 y4, LeO (impl_GoodTable.l0 k y0 y1 y2 y3 y4) (impl_GoodTable.l0 (k + 1) y0 y1 y2 y3 y4)) ∧ (∀ y0 y1 y2 y3 y4 y5 y6 y7 y8, LeO (impl_GoodTable.l1 k y0 y1 y2 y3 y4 y5 y6 y7 y8) (impl_GoodTable.l1 (k + 1) y0 y1 y2 y3 y4 y5 y6 y7 y8)) ∧ (∀ y0 y1 y2 y3 y4 y5 y6 y7 y8 y9 y10 y11 y12 y13, LeO (impl_GoodTable.j3 k y0 y1 y2 y3 y4 y5 y6 y7 y8 y9 y10 y11 y12 y13) (impl_GoodTable.j3 (k + 1) y0 y1 y2 y3 y4 y5 y6 y7 y8 y9 y10 y11 y12 y13))
 | 0 => ⟨fun _ _ _ _ _ r h => by simp [impl_GoodTable.j0] at h, fun _ _ _ _ _ r h => by simp [impl_GoodTable.l0] at h, fun _ _ _ _ _ _ _ _ _ r h => by simp [impl_GoodTable.l1] at h, fun _ _ _ _ _ _ _ _ _ _ _ _ _ _ r h => by simp [impl_GoodTable.j3] at h⟩
 | k + 1 => by
  obtain ⟨ih0, ih1, ih2, ih3⟩ := impl_GoodTable.mono_l k
  refine ⟨?_, ?_, ?_, ?_⟩
  ·intro y0 y1 y2 y3 y4
   unfold impl_GoodTable.j0
   repeat' first
   | (with_reducible exact ih0 _ _ _ _ _)
   | (with_reducible exact ih1 _ _ _ _ _)
   | (with_reducible exact ih2 _ _ _ _ _ _ _ _ _)
   | (with_reducible exact ih3 _ _ _ _ _ _ _ _ _ _ _ _ _ _)
   | (with_reducible exact impl_keysIn.mono _ _ _ _ _)
   | (with_reducible exact LeO.refl _)
   | (with_reducible exact LeO.none _)
   | (with_reducible refine LeO.ite ?_ ?_)
   | (with_reducible refine LeO.bind ?_ (fun _ => ?_))
   | exact ih0 _ _ _ _ _
   | exact ih1 _ _ _ _ _
   | exact ih2 _ _ _ _ _ _ _ _ _
   | exact ih3 _ _ _ _ _ _ _ _ _ _ _ _ _ _
   | exact impl_keysIn.mono _ _ _ _ _
  ·intro y0 y1 y2 y3 y4
   unfold impl_GoodTable.l0
   repeat' first
   | (with_reducible exact ih0 _ _ _ _ _)
   | (with_reducible exact ih1 _ _ _ _ _)
   | (with_reducible exact ih2 _ _ _ _ _ _ _ _ _)
   | (with_reducible exact ih3 _ _ _ _ _ _ _ _ _ _ _ _ _ _)
   | (with_reducible exact impl_keysIn.mono _ _ _ _ _)
   | (with_reducible exact LeO.refl _)
   | (with_reducible exact LeO.none _)
   | (with_reducible refine LeO.ite ?_ ?_)
   | (with_reducible refine LeO.bind ?_ (fun _ => ?_))
   | exact ih0 _ _ _ _ _
   | exact ih1 _ _ _ _ _
   | exact ih2 _ _ _ _ _ _ _ _ _
   | exact ih3 _ _ _ _ _ _ _ _ _ _ _ _ _ _
   | exact impl_keysIn.mono _ _ _ _ _
  ·intro y0 y1 y2 y3 y4 y5 y6 y7 y8
   unfold impl_GoodTable.l1
   repeat' first
   | (with_reducible exact ih0 _ _ _ _ _)
   | (with_reducible exact ih1 _ _ _ _ _)
   | (with_reducible exact ih2 _ _ _ _ _ _ _ _ _)
   | (with_reducible exact ih3 _ _ _ _ _ _ _ _ _ _ _ _ _ _)
   | (with_reducible exact impl_keysIn.mono _ _ _ _ _)
   | (with_reducible exact LeO.refl _)
   | (with_reducible exact LeO.none _)
   | (with_reducible refine LeO.ite ?_ ?_)
   | (with_reducible refine LeO.bind ?_ (fun _ => ?_))
   | exact ih0 _ _ _ _ _
   | exact ih1 _ _ _ _ _
   | exact ih2 _ _ _ _ _ _ _ _ _
   | exact ih3 _ _ _ _ _ _ _ _ _ _ _ _ _ _
   | exact impl_keysIn.mono _ _ _ _ _
  ·intro y0 y1 y2 y3 y4 y5 y6 y7 y8 y9 y10 y11 y12 y13
   unfold impl_GoodTable.j3
   repeat' first
   | (with_reducible exact ih0 _ _ _ _ _)
   | (with_reducible exact ih1 _ _ _ _ _)
   | (with_reducible exact ih2 _ _ _ _ _ _ _ _ _)
   | (with_reducible exact ih3 _ _ _ _ _ _ _ _ _ _ _ _ _ _)
   | (with_reducible exact impl_keysIn.mono _ _ _ _ _)
   | (with_reducible exact LeO.refl _)
   | (with_reducible exact LeO.none _)
   | (with_reducible refine LeO.ite ?_ ?_)
   | (with_reducible refine LeO.bind ?_ (fun _ => ?_))
   | exact ih0 _ _ _ _ _
   | exact ih1 _ _ _ _ _
   | exact ih2 _ _ _ _ _ _ _ _ _
   | exact ih3 _ _ _ _ _ _ _ _ _ _ _ _ _ _
   | exact impl_keysIn.mono _ _ _ _ _
theorem impl_GoodTable.mono : ∀ a0 a1 a2 a3 k, LeO (impl_GoodTable.f k a0 a1 a2 a3) (impl_GoodTable.f (k + 1) a0 a1 a2 a3) := by
 intro a0 a1 a2 a3 k
 obtain ⟨ih0, ih1, ih2, ih3⟩ := impl_GoodTable.mono_l k
 unfold impl_GoodTable.f
 repeat' first
   | (with_reducible exact ih0 _ _ _ _ _)
   | (with_reducible exact ih1 _ _ _ _ _)
   | (with_reducible exact ih2 _ _ _ _ _ _ _ _ _)
   | (with_reducible exact ih3 _ _ _ _ _ _ _ _ _ _ _ _ _ _)
   | (with_reducible exact impl_keysIn.mono _ _ _ _ _)
   | (with_reducible exact LeO.refl _)
   | (with_reducible exact LeO.none _)
   | (with_reducible refine LeO.ite ?_ ?_)
   | (with_reducible refine LeO.bind ?_ (fun _ => ?_))
   | exact ih0 _ _ _ _ _
   | exact ih1 _ _ _ _ _
   | exact ih2 _ _ _ _ _ _ _ _ _
   | exact ih3 _ _ _ _ _ _ _ _ _ _ _ _ _ _
   | exact impl_keysIn.mono _ _ _ _ _
def impl_GoodTable.T6 : Bool × List (List Nat × List Nat) := (true, [([], []), ([0], [0]), ([], []), ([1, 2], [1, 2]), ([3], [3]), ([], []), ([5], [5]), ([], []), ([6, 7], [6, 7]), ([8], [8]), ([4, 9], [4, 9]), ([10], [10]), ([], [])])
def impl_GoodTable.B6 : List Nat := [0, 1, 0, 7, 15, 0, 32, 0, 224, 480, 1023, 2047, 0]
theorem impl_GoodTable.tab6 : rtab .any (opsOf Try.f27 6) = impl_GoodTable.T6 := by kernel_rfl
theorem impl_GoodTable.bits6 : waitsOk impl_GoodTable.T6.2 impl_GoodTable.B6 = true := by kernel_rfl
def impl_GoodTable.T20 : Bool × List (List Nat × List Nat) := (true, [([], []), ([0], [0]), ([], []), ([2], [2]), ([1, 3], [1, 3]), ([4], [4]), ([5], [5]), ([6, 5, 5], [5, 6]), ([7, 5], [5, 7]), ([5], [5]), ([9, 5], [5, 9]), ([8, 10, 5], [5, 8, 10]), ([5, 11], [5, 11]), ([12, 7, 0, 1, 2, 3, 4, 5, 6, 7, 8, 9, 10, 11, 12], [12])])
def impl_GoodTable.B20 : List Nat := [0, 1, 0, 4, 15, 31, 63, 127, 255, 63, 575, 2047, 4095, 8191]
theorem impl_GoodTable.tab20 : rtab .any (opsOf Try.f27 20) = impl_GoodTable.T20 := by kernel_rfl
theorem impl_GoodTable.bits20 : waitsOk impl_GoodTable.T20.2 impl_GoodTable.B20 = true := by kernel_rfl
set_option maxHeartbeats 8000000 in
set_option maxRecDepth 100000 in
theorem impl_GoodTable.calls (k : Nat) (a0_0 : Int) (A0_1 : Option Addr) (c0_1 : Nat) (l0_1 : List (S79)) (A0_2 : Option Addr) (c0_2 : Nat) (l0_2 : List (S79)) (a0_3 : Int) (r : Bool) (w : World) (hr0_1 : Kd.C k79 w A0_1 l0_1.length l0_1) (hc0_1 : l0_1.length ≤ c0_1) (hr0_2 : Kd.C k79 w A0_2 l0_2.length l0_2) (hc0_2 : l0_2.length ≤ c0_2) (h : impl_GoodTable.f k a0_0 l0_1 l0_2 a0_3 = some r) :
  Calls Try.prog 27 #[.agg #[.int .i64 a0_0, .slice A0_1 l0_1.length c0_1, .slice A0_2 l0_2.length c0_2, .int .i64 a0_3]] w fun e w' => e = .returned (.bool r) ∧ Below w.heap.size w w' := by
 have hu25 := Try.underlying25
 have hu79 := Try.underlying79
 have HR0_1 := Aside0.mk hr0_1
 have HC0_1 := Aside0.mk hc0_1
 clear hr0_1 hc0_1
 have HR0_2 := Aside0.mk hr0_2
 have HC0_2 := Aside0.mk hc0_2
 clear hr0_2 hc0_2
 have HB := Aside0.mk (Below.refl w.heap.size w)
 have H : ((impl_isSeed.f a0_0).bind fun t297 => (if t297 = true then (if (l0_1.length : Int) = 11 then (impl_GoodTable.j0 k ((l0_2.length : Int) != 11) a0_0 l0_1 l0_2 a0_3) else (impl_GoodTable.j0 k true a0_0 l0_1 l0_2 a0_3)) else (impl_GoodTable.j0 k true a0_0 l0_1 l0_2 a0_3))) = some r := h
 clear h
 have HC2 := Aside0.mk H
 clear H
 go_enter Try.func27, Try.ntmps27
 go_upto_region 1 with (first | ((with_reducible refine gate_dst (N := 1) rfl ?_); (try (refine gate_guard (by rfl) ?_; dsimp only)); refine box_event ?hg (N := 1) ?hd (cs := #[.int .i64 a0_0, .slice A0_1 l0_1.length c0_1, .slice A0_2 l0_2.length c0_2, .int .i64 a0_3]) (t := 25) ?hr ?_; (case hd => rfl); (case hg => rfl); (case hr => first | (go_simp; done) | (go_simp; rfl)); intro gb296 hg w3 hbox hb; have BK296 := Aside0.mk (hbox); have GW296 := Aside0.mk ((by rw [hg]; exact (below_size (bB HB)) : w.heap.size ≤ gb296)); have GE296 := Aside0.mk ((by rw [hg]; exact (below_size (bB HB)) : w.heap.size ≤ gb296)); replace HB := Aside0.mk (below_step (bB HB) hb); clear hb hbox hg))
 (try simp only [Act.put, List.setIfInBounds_toArray, List.set_cons_zero, List.set_cons_succ])
 go_cut [24] (fun v24 wc => ∃ (kq : Nat) (x24_1 : Bool), v24 = .bool x24_1 ∧ Aside0 (impl_GoodTable.j0 kq x24_1 a0_0 l0_1 l0_2 a0_3 = some r) ∧ Aside0 (kq ≤ k) ∧ Aside0 (wc.heap[gb296]? = some (.cells #[.int .i64 a0_0, (.slice A0_1 l0_1.length c0_1), (.slice A0_2 l0_2.length c0_2), .int .i64 a0_3] 25 (0, 0))) ∧ Aside0 (Below w.heap.size w wc))
 case first =>
  have H := HC2.out
  clear HC2
  replace H := Option.bind_eq_some_iff.mp H
  obtain ⟨t297, A40, H⟩ := H
  replace H : (if t297 = true then (if (l0_1.length : Int) = 11 then (impl_GoodTable.j0 k ((l0_2.length : Int) != 11) a0_0 l0_1 l0_2 a0_3) else (impl_GoodTable.j0 k true a0_0 l0_1 l0_2 a0_3)) else (impl_GoodTable.j0 k true a0_0 l0_1 l0_2 a0_3)) = some r := H
  have A4 := Aside0.mk A40
  clear A40
  by_cases c5 : t297 = true
  ·subst c5
   have H1 : (if (l0_1.length : Int) = 11 then (impl_GoodTable.j0 k ((l0_2.length : Int) != 11) a0_0 l0_1 l0_2 a0_3) else (impl_GoodTable.j0 k true a0_0 l0_1 l0_2 a0_3)) = some r := by rw [if_pos rfl] at H; exact H
   clear H
   have H := H1
   clear H1
   by_cases c6 : (l0_1.length : Int) = 11
   ·rw [if_pos c6] at H
    have c6b0 : ((l0_1.length : Int) == 11) = true := beq_iff_eq.mpr c6
    have c6b1 : ((l0_1.length : Int) != 11) = false := bne_eq_false_iff_eq.mpr c6
    clear c6
    (first | rw [c6b0] | (simp only [i64_w, i32_w]; rw [c6b0]) | skip)
    have H' := Aside0.mk H
    clear H
    have hcz7_0 : w3.cell? ⟨gb296, 0, none⟩ = some (.int .i64 a0_0) := (blk_cell BK296.out 0).trans rfl
    have hcz7_1 : w3.cell? ⟨gb296, 1, none⟩ = some (.slice A0_1 l0_1.length c0_1) := (blk_cell BK296.out 1).trans rfl
    have hcz7_2 : w3.cell? ⟨gb296, 2, none⟩ = some (.slice A0_2 l0_2.length c0_2) := (blk_cell BK296.out 2).trans rfl
    have hcz7_3 : w3.cell? ⟨gb296, 3, none⟩ = some (.int .i64 a0_3) := (blk_cell BK296.out 3).trans rfl
    have hfz7_0 := blk_frozen BK296.out 0
    have hfz7_1 := blk_frozen BK296.out 1
    have hfz7_2 := blk_frozen BK296.out 2
    have hfz7_3 := blk_frozen BK296.out 3
    go_wp2_with (first | ((with_reducible refine gate_callee (f := 70) rfl ?_); refine goesL_ (some 11) rfl rfl Try.func70 (by kernel_rfl) rfl #[.int .i64 a0_0] rfl (by (try simp only [List.map_toArray, List.map_cons, List.map_nil]); first | done | rfl | (simp only [List.length_drop, List.length_take]; rfl)) ?_; (with_reducible refine (impl_isSeed.calls a0_0 true _ A4.out).mono ?_); rintro e w' ⟨rfl, ⟨nd, rfl⟩⟩; refine ⟨_, rfl, ?_⟩))
    go_meet
    case rel => exact ⟨_, (((l0_2.length : Int) != 11)), (by first | rfl | (simp; done) | (simp [*]; done)), H', ⟨by first | omega | exact Nat.le_refl _⟩, ⟨by (with_reducible repeat (first | refine blk_drewN ?_ _ | refine blk_drew ?_ | refine blk_alloc ?_ _)); exact BK296.out⟩, ⟨bB HB⟩⟩
   ·rw [if_neg c6] at H
    have c6b0 : ((l0_1.length : Int) == 11) = false := beq_eq_false_iff_ne.mpr c6
    have c6b1 : ((l0_1.length : Int) != 11) = true := bne_iff_ne.mpr c6
    (first | rw [c6b0] | (simp only [i64_w, i32_w]; rw [c6b0]) | skip)
    have H' := Aside0.mk H
    clear H
    have hcz8_0 : w3.cell? ⟨gb296, 0, none⟩ = some (.int .i64 a0_0) := (blk_cell BK296.out 0).trans rfl
    have hcz8_1 : w3.cell? ⟨gb296, 1, none⟩ = some (.slice A0_1 l0_1.length c0_1) := (blk_cell BK296.out 1).trans rfl
    have hcz8_2 : w3.cell? ⟨gb296, 2, none⟩ = some (.slice A0_2 l0_2.length c0_2) := (blk_cell BK296.out 2).trans rfl
    have hcz8_3 : w3.cell? ⟨gb296, 3, none⟩ = some (.int .i64 a0_3) := (blk_cell BK296.out 3).trans rfl
    have hfz8_0 := blk_frozen BK296.out 0
    have hfz8_1 := blk_frozen BK296.out 1
    have hfz8_2 := blk_frozen BK296.out 2
    have hfz8_3 := blk_frozen BK296.out 3
    go_wp2_with (first | ((with_reducible refine gate_callee (f := 70) rfl ?_); refine goesL_ (some 11) rfl rfl Try.func70 (by kernel_rfl) rfl #[.int .i64 a0_0] rfl (by (try simp only [List.map_toArray, List.map_cons, List.map_nil]); first | done | rfl | (simp only [List.length_drop, List.length_take]; rfl)) ?_; (with_reducible refine (impl_isSeed.calls a0_0 true _ A4.out).mono ?_); rintro e w' ⟨rfl, ⟨nd, rfl⟩⟩; refine ⟨_, rfl, ?_⟩))
    go_meet
    case rel => exact ⟨_, (true), (by first | rfl | (simp; done) | (simp [*]; done)), H', ⟨by first | omega | exact Nat.le_refl _⟩, ⟨by (with_reducible repeat (first | refine blk_drewN ?_ _ | refine blk_drew ?_ | refine blk_alloc ?_ _)); exact BK296.out⟩, ⟨bB HB⟩⟩
  ·replace c5 := Bool.eq_false_iff.mpr c5
   subst c5
   have H1 : (impl_GoodTable.j0 k true a0_0 l0_1 l0_2 a0_3) = some r := by rw [if_neg (show ¬ (false = true) by decide)] at H; exact H
   clear H
   have H := H1
   clear H1
   have H' := Aside0.mk H
   clear H
   have hcz9_0 : w3.cell? ⟨gb296, 0, none⟩ = some (.int .i64 a0_0) := (blk_cell BK296.out 0).trans rfl
   have hcz9_1 : w3.cell? ⟨gb296, 1, none⟩ = some (.slice A0_1 l0_1.length c0_1) := (blk_cell BK296.out 1).trans rfl
   have hcz9_2 : w3.cell? ⟨gb296, 2, none⟩ = some (.slice A0_2 l0_2.length c0_2) := (blk_cell BK296.out 2).trans rfl
   have hcz9_3 : w3.cell? ⟨gb296, 3, none⟩ = some (.int .i64 a0_3) := (blk_cell BK296.out 3).trans rfl
   have hfz9_0 := blk_frozen BK296.out 0
   have hfz9_1 := blk_frozen BK296.out 1
   have hfz9_2 := blk_frozen BK296.out 2
   have hfz9_3 := blk_frozen BK296.out 3
   go_wp2_with (first | ((with_reducible refine gate_callee (f := 70) rfl ?_); refine goesL_ (some 11) rfl rfl Try.func70 (by kernel_rfl) rfl #[.int .i64 a0_0] rfl (by (try simp only [List.map_toArray, List.map_cons, List.map_nil]); first | done | rfl | (simp only [List.length_drop, List.length_take]; rfl)) ?_; (with_reducible refine (impl_isSeed.calls a0_0 false _ A4.out).mono ?_); rintro e w' ⟨rfl, ⟨nd, rfl⟩⟩; refine ⟨_, rfl, ?_⟩))
   go_meet
   case rel => exact ⟨_, (true), (by first | rfl | (simp; done) | (simp [*]; done)), H', ⟨by first | omega | exact Nat.le_refl _⟩, ⟨by (with_reducible repeat (first | refine blk_drewN ?_ _ | refine blk_drew ?_ | refine blk_alloc ?_ _)); exact BK296.out⟩, ⟨bB HB⟩⟩
 case rest =>
  clear HC2
  try clear c2
  try clear p2
  try clear c5
  try clear c6
  try clear c6b0
  try clear c6b1
  try clear c7
  obtain ⟨kq, x24_1, rfl, HA, HJ1, BK296, HB⟩ := hcut
  cases kq with
  | zero => exact absurd HA.out (by simp [impl_GoodTable.j0])
  | succ kj1 =>
   have H := HA.out
   clear HA
   simp only [impl_GoodTable.j0] at H
   by_cases c10 : x24_1 = true
   ·subst c10
    have H1 : (some false) = some r := by rw [if_pos rfl] at H; exact H
    clear H
    have H := H1
    clear H1
    obtain rfl := Option.some.inj H
    go_wp2
    go_ret
    exact ⟨by first | rfl | (simp [errW_none, errW_some] <;> rfl) | (simp [*, errW_none, errW_some] <;> rfl), bB HB⟩
   ·replace c10 := Bool.eq_false_iff.mpr c10
    subst c10
    have H1 : (impl_GoodTable.l0 kj1 0 a0_0 l0_1 l0_2 a0_3) = some r := by rw [if_neg (show ¬ (false = true) by decide)] at H; exact H
    clear H
    have H := H1
    clear H1
    have H' := Aside0.mk H
    clear H
    go_wp2
    go_loopg [25] kj1 (fun kq v25 w' => ∃ (x25_2 : Int), v25 = .int .i64 x25_2 ∧ Aside0 (impl_GoodTable.l0 kq x25_2 a0_0 l0_1 l0_2 a0_3 = some r) ∧ Aside0 (kq ≤ kj1) ∧ Aside0 (w'.heap[gb296]? = some (.cells #[.int .i64 a0_0, (.slice A0_1 l0_1.length c0_1), (.slice A0_2 l0_2.length c0_2), .int .i64 a0_3] 25 (0, 0))) ∧ Aside0 (Below w.heap.size w w'))
    case atStart => exact ⟨(0), (by first | rfl | (simp; done) | (simp [*]; done)), H', ⟨Nat.le_refl _⟩, ⟨by (with_reducible repeat (first | refine blk_drewN ?_ _ | refine blk_drew ?_ | refine blk_alloc ?_ _)); exact BK296.out⟩, ⟨bB HB⟩⟩
    case round =>
     clear H'
     try clear c1
     try clear c2
     try clear p2
     try clear c5
     try clear c6
     try clear c6b0
     try clear c6b1
     try clear c7
     try clear c10
     try clear p2
     obtain ⟨x25_2, rfl, HA, HK2, BK296, HB⟩ := hrel
     cases gk with
     | zero => exact absurd HA.out (by simp [impl_GoodTable.l0])
     | succ k2 =>
      have H := HA.out
      clear HA
      simp only [impl_GoodTable.l0] at H
      by_cases c11 : x25_2 < 11
      ·rw [if_pos c11] at H
       have c11b0 : decide (x25_2 < 11) = true := decide_eq_true c11
       clear c11
       by_cases c12 : 0 ≤ x25_2
       ·rw [if_pos c12] at H
        have c12b0 : decide (0 ≤ x25_2) = true := decide_eq_true c12
        clear c12
        by_cases c13 : x25_2 < (l0_1.length : Int)
        ·rw [if_pos c13] at H
         have c13b0 : decide (x25_2 < (l0_1.length : Int)) = true := decide_eq_true c13
         clear c13
         by_cases c14 : x25_2 < (l0_2.length : Int)
         ·rw [if_pos c14] at H
          have c14b0 : decide (x25_2 < (l0_2.length : Int)) = true := decide_eq_true c14
          clear c14
          obtain ⟨y306, hy306⟩ : ∃ y_ : List (S79), y_ = (([(⟨(rd_T79 l0_1 x25_2).f0, (rd_T79 l0_1 x25_2).f1, (rd_T79 l0_1 x25_2).f2⟩ : S79), (⟨(rd_T79 l0_2 x25_2).f0, (rd_T79 l0_2 x25_2).f1, (rd_T79 l0_2 x25_2).f2⟩ : S79)] : List (S79))) := ⟨_, rfl⟩
          replace H : (impl_GoodTable.l1 k2 x25_2 x25_2 y306 (y306.length : Int) 0 a0_0 l0_1 l0_2 a0_3) = some r := by first | (rw [hy306]; with_reducible exact H) | (have H2_ := (Option.bind_some _ _).symm.trans H; rw [hy306]; with_reducible exact H2_) | (have H2_ := (Option.bind_some _ _).symm.trans H; with_reducible exact H2_) | with_reducible exact H | (rw [hy306]; exact H) | exact H
          have Ny306 := Aside0.mk hy306
          clear hy306
          have H' := Aside0.mk H
          clear H
          try go_wp2
          replace BK296 := Aside0.mk (blk_drew BK296.out)
          replace HB := Aside0.mk (below_drew1 HB.out)
          have p304 : 0 ≤ (x25_2 : Int) := of_decide_eq_true (by first | (with_reducible assumption) | assumption)
          have q304 : x25_2 < (l0_1.length : Int) := of_decide_eq_true (by first | (with_reducible assumption) | assumption)
          obtain ⟨ad304, e304, hx304_0, hx304_1, hx304_2⟩ := at_T79 HR0_1.out x25_2 p304 q304
          have hw304_2 := hx304_2
          have hw304_1 := hx304_1
          have hw304_0 := hx304_0
          cases e304
          replace hx304_0 := (HB.out.cell (World.block_lt_of_cell? w _ hx304_0)).trans hx304_0
          replace hx304_1 := (HB.out.cell (World.block_lt_of_cell? w _ hx304_1)).trans hx304_1
          replace hx304_2 := (HB.out.cell (World.block_lt_of_cell? w _ hx304_2)).trans hx304_2
          replace p304 := eq_true p304
          replace q304 := eq_true q304
          have p305 : 0 ≤ (x25_2 : Int) := of_decide_eq_true (by first | (with_reducible assumption) | assumption)
          have q305 : x25_2 < (l0_2.length : Int) := of_decide_eq_true (by first | (with_reducible assumption) | assumption)
          obtain ⟨ad305, e305, hx305_0, hx305_1, hx305_2⟩ := at_T79 HR0_2.out x25_2 p305 q305
          have hw305_2 := hx305_2
          have hw305_1 := hx305_1
          have hw305_0 := hx305_0
          cases e305
          replace hx305_0 := (HB.out.cell (World.block_lt_of_cell? w _ hx305_0)).trans hx305_0
          replace hx305_1 := (HB.out.cell (World.block_lt_of_cell? w _ hx305_1)).trans hx305_1
          replace hx305_2 := (HB.out.cell (World.block_lt_of_cell? w _ hx305_2)).trans hx305_2
          replace p305 := eq_true p305
          replace q305 := eq_true q305
          refine start_ (n := 13) (S := fun w' => w'.cell? ⟨gb296, 0, none⟩ = some (.int .i64 a0_0) ∧ w'.cell? ⟨gb296, 1, none⟩ = some (.slice (some ad304) l0_1.length c0_1) ∧ w'.cell? ⟨gb296, 2, none⟩ = some (.slice (some ad305) l0_2.length c0_2) ∧ w'.cell? ⟨gb296, 3, none⟩ = some (.int .i64 a0_3) ∧ w'.cell? (ad304.add ((x25_2).toNat * 3)) = some (.bool ((rd_T79 l0_1 x25_2).f0)) ∧ w'.cell? ⟨(ad304.add ((x25_2).toNat * 3)).block, (ad304.add ((x25_2).toNat * 3)).off + 1, none⟩ = some (.int .i64 ((rd_T79 l0_1 x25_2).f1)) ∧ w'.cell? ⟨(ad304.add ((x25_2).toNat * 3)).block, (ad304.add ((x25_2).toNat * 3)).off + 2, none⟩ = some (.int .i64 ((rd_T79 l0_1 x25_2).f2)) ∧ w'.cell? (ad305.add ((x25_2).toNat * 3)) = some (.bool ((rd_T79 l0_2 x25_2).f0)) ∧ w'.cell? ⟨(ad305.add ((x25_2).toNat * 3)).block, (ad305.add ((x25_2).toNat * 3)).off + 1, none⟩ = some (.int .i64 ((rd_T79 l0_2 x25_2).f1)) ∧ w'.cell? ⟨(ad305.add ((x25_2).toNat * 3)).block, (ad305.add ((x25_2).toNat * 3)).off + 2, none⟩ = some (.int .i64 ((rd_T79 l0_2 x25_2).f2))) (ds := []) #[false, false, false, false, false, false, false, false, false, false, false, false, false] (by kernel_rfl) rfl rfl ⟨(blk_cell BK296.out 0).trans rfl, (blk_cell BK296.out 1).trans rfl, (blk_cell BK296.out 2).trans rfl, (blk_cell BK296.out 3).trans rfl, ((HB.out.cell (World.block_lt_of_cell? w _ hw304_0)).trans hw304_0), ((HB.out.cell (World.block_lt_of_cell? w _ hw304_1)).trans hw304_1), ((HB.out.cell (World.block_lt_of_cell? w _ hw304_2)).trans hw304_2), ((HB.out.cell (World.block_lt_of_cell? w _ hw305_0)).trans hw305_0), ((HB.out.cell (World.block_lt_of_cell? w _ hw305_1)).trans hw305_1), ((HB.out.cell (World.block_lt_of_cell? w _ hw305_2)).trans hw305_2)⟩ (fun hHeld => ?_); refine with_tabW impl_GoodTable.tab6 impl_GoodTable.bits6 (fun HT_ HW_ => ?_)
          generalize wr.drew = w15 at BK296 HB hx304_0 hx304_1 hx304_2 hx305_0 hx305_1 hx305_2 hHeld ⊢
          refine pure_ (i := 0) (N := some 28) (v := ?_) (a' := ?_) #[true, false, false, false, false, false, false, false, false, false, false, false, false] rfl rfl (any_of HT_.out (by kernel_rfl)) (fun _ _ _ h => h) (Or.inl ⟨by rfl, ?_⟩) ?_ ?_
          rotate_left
          ·intro w'
           go_simp
           with_reducible rfl
          rotate_left
          ·simp only [Act.put, List.setIfInBounds_toArray, List.set_cons_zero, List.set_cons_succ, i64_w, i32_w]
           rfl
          refine pure_ (i := 2) (N := some 30) (v := ?_) (a' := ?_) #[true, false, true, false, false, false, false, false, false, false, false, false, false] rfl rfl (any_of HT_.out (by kernel_rfl)) (fun _ _ _ h => h) (Or.inl ⟨by rfl, ?_⟩) ?_ ?_
          rotate_left
          ·intro w'
           go_simp
           with_reducible rfl
          rotate_left
          ·simp only [Act.put, List.setIfInBounds_toArray, List.set_cons_zero, List.set_cons_succ, i64_w, i32_w]
           rfl
          refine pure_ (i := 5) (N := some 33) (v := ?_) (a' := ?_) #[true, false, true, false, false, true, false, false, false, false, false, false, false] rfl rfl (any_of HT_.out (by kernel_rfl)) (fun _ _ _ h => h) (Or.inl ⟨by rfl, ?_⟩) ?_ ?_
          rotate_left
          ·intro w'
           go_simp
           with_reducible rfl
          rotate_left
          ·simp only [Act.put, List.setIfInBounds_toArray, List.set_cons_zero, List.set_cons_succ, i64_w, i32_w]
           rfl
          refine pure_ (i := 7) (N := some 35) (v := ?_) (a' := ?_) #[true, false, true, false, false, true, false, true, false, false, false, false, false] rfl rfl (any_of HT_.out (by kernel_rfl)) (fun _ _ _ h => h) (Or.inl ⟨by rfl, ?_⟩) ?_ ?_
          rotate_left
          ·intro w'
           go_simp
           with_reducible rfl
          rotate_left
          ·simp only [Act.put, List.setIfInBounds_toArray, List.set_cons_zero, List.set_cons_succ, i64_w, i32_w]
           rfl
          refine pure_ (i := 12) (N := some 40) (v := ?_) (a' := ?_) #[true, false, true, false, false, true, false, true, false, false, false, false, true] rfl rfl (any_of HT_.out (by kernel_rfl)) (fun _ _ _ h => h) (Or.inl ⟨by rfl, ?_⟩) ?_ ?_
          rotate_left
          ·intro w'
           go_simp
           with_reducible rfl
          rotate_left
          ·simp only [Act.put, List.setIfInBounds_toArray, List.set_cons_zero, List.set_cons_succ, i64_w, i32_w]
           rfl
          refine take_ (i := 1) (N := some 29) (v := ?_) (a' := ?_) #[true, true, true, false, false, true, false, true, false, false, false, false, true] rfl rfl (take_ofW HT_.out HW_.out (by kernel_rfl)) (fun _ _ _ h => h) (Or.inl ⟨by rfl, ?_⟩) hHeld ?_ ?_
          rotate_left
          ·rintro w' ⟨s0, s1, s2, s3, s4, s5, s6, s7, s8, s9⟩
           go_simp
           with_reducible rfl
          rotate_left
          ·simp only [Act.put, List.setIfInBounds_toArray, List.set_cons_zero, List.set_cons_succ, i64_w, i32_w]
           rfl
          refine pure_ (i := 3) (N := some 31) (v := ?_) (a' := ?_) #[true, true, true, true, false, true, false, true, false, false, false, false, true] rfl rfl (any_of HT_.out (by kernel_rfl)) (fun _ _ _ h => h) (Or.inl ⟨by rfl, ?_⟩) ?_ ?_
          rotate_left
          ·intro w'
           go_simp
           with_reducible rfl
          rotate_left
          ·simp only [Act.put, List.setIfInBounds_toArray, List.set_cons_zero, List.set_cons_succ, i64_w, i32_w]
           rfl
          refine take_ (i := 4) (N := some 32) (v := ?_) (a' := ?_) #[true, true, true, true, true, true, false, true, false, false, false, false, true] rfl rfl (take_ofW HT_.out HW_.out (by kernel_rfl)) (fun _ _ _ h => h) (Or.inl ⟨by rfl, ?_⟩) hHeld ?_ ?_
          rotate_left
          ·rintro w' ⟨s0, s1, s2, s3, s4, s5, s6, s7, s8, s9⟩
           go_simp
           with_reducible rfl
          rotate_left
          ·simp only [Act.put, List.setIfInBounds_toArray, List.set_cons_zero, List.set_cons_succ, i64_w, i32_w]
           rfl
          refine take_ (i := 6) (N := some 34) (v := ?_) (a' := ?_) #[true, true, true, true, true, true, true, true, false, false, false, false, true] rfl rfl (take_ofW HT_.out HW_.out (by kernel_rfl)) (fun _ _ _ h => h) (Or.inl ⟨by rfl, ?_⟩) hHeld ?_ ?_
          rotate_left
          ·rintro w' ⟨s0, s1, s2, s3, s4, s5, s6, s7, s8, s9⟩
           go_simp
           with_reducible rfl
          rotate_left
          ·simp only [Act.put, List.setIfInBounds_toArray, List.set_cons_zero, List.set_cons_succ, i64_w, i32_w]
           rfl
          refine pure_ (i := 8) (N := some 36) (v := ?_) (a' := ?_) #[true, true, true, true, true, true, true, true, true, false, false, false, true] rfl rfl (any_of HT_.out (by kernel_rfl)) (fun _ _ _ h => h) (Or.inl ⟨by rfl, ?_⟩) ?_ ?_
          rotate_left
          ·intro w'
           go_simp
           with_reducible rfl
          rotate_left
          ·simp only [Act.put, List.setIfInBounds_toArray, List.set_cons_zero, List.set_cons_succ, i64_w, i32_w]
           rfl
          refine take_ (i := 9) (N := some 37) (v := ?_) (a' := ?_) #[true, true, true, true, true, true, true, true, true, true, false, false, true] rfl rfl (take_ofW HT_.out HW_.out (by kernel_rfl)) (fun _ _ _ h => h) (Or.inl ⟨by rfl, ?_⟩) hHeld ?_ ?_
          rotate_left
          ·rintro w' ⟨s0, s1, s2, s3, s4, s5, s6, s7, s8, s9⟩
           go_simp
           with_reducible rfl
          rotate_left
          ·simp only [Act.put, List.setIfInBounds_toArray, List.set_cons_zero, List.set_cons_succ, i64_w, i32_w]
           rfl
          refine one_ (i := 10) (N := some 38) #[true, true, true, true, true, true, true, true, true, true, true, false, true] rfl rfl (one_of HT_.out (by kernel_rfl)) (by decide) (fun K hK => ?_)
          refine Kd.R_lit_step k79 _ 79 ?hg (N := 38) ?hd (xs := ([(⟨(rd_T79 l0_1 x25_2).f0, (rd_T79 l0_1 x25_2).f1, (rd_T79 l0_1 x25_2).f2⟩ : S79), (⟨(rd_T79 l0_2 x25_2).f0, (rd_T79 l0_2 x25_2).f1, (rd_T79 l0_2 x25_2).f2⟩ : S79)] : List (S79))) (inner := [.bool ((rd_T79 l0_1 x25_2).f0), .int .i64 ((rd_T79 l0_1 x25_2).f1), .int .i64 ((rd_T79 l0_1 x25_2).f2), .bool ((rd_T79 l0_2 x25_2).f0), .int .i64 ((rd_T79 l0_2 x25_2).f1), .int .i64 ((rd_T79 l0_2 x25_2).f2)]) (ok := fun _ => True) (okp := fun _ => True) ?hr ?hp (fun _ hk => hk) trivial (Below.refl _ _) (Nat.le_refl _) (by simp) ?_; (case hd => rfl); (case hg => rfl); (case hr => first | (go_simp; done) | (go_simp; rfl)); (case hp => exact (Reps.c3 (show Kd.M k79 _ _ _ (⟨(rd_T79 l0_1 x25_2).f0, (rd_T79 l0_1 x25_2).f1, (rd_T79 l0_1 x25_2).f2⟩ : S79) [.bool ((rd_T79 l0_1 x25_2).f0), .int .i64 ((rd_T79 l0_1 x25_2).f1), .int .i64 ((rd_T79 l0_1 x25_2).f2)] from (k79_mkM _ _ _ (⟨(rd_T79 l0_1 x25_2).f0, (rd_T79 l0_1 x25_2).f1, (rd_T79 l0_1 x25_2).f2⟩ : S79) )) (Reps.c3 (show Kd.M k79 _ _ _ (⟨(rd_T79 l0_2 x25_2).f0, (rd_T79 l0_2 x25_2).f1, (rd_T79 l0_2 x25_2).f2⟩ : S79) [.bool ((rd_T79 l0_2 x25_2).f0), .int .i64 ((rd_T79 l0_2 x25_2).f1), .int .i64 ((rd_T79 l0_2 x25_2).f2)] from (k79_mkM _ _ _ (⟨(rd_T79 l0_2 x25_2).f0, (rd_T79 l0_2 x25_2).f1, (rd_T79 l0_2 x25_2).f2⟩ : S79) )) (Reps.none _ _))))
          intro v307 w16 ho17 hb hg_ hnew_
          clear hg_ hnew_
          (first | rw [← Ny306.out] at ho17 | (simp only [Int.reduceToNat] at ho17; rw [← Ny306.out] at ho17))
          have HO308 := Aside0.mk (Kd.R_lower ho17 (below_size (bB HB)))
          replace BK296 := Aside0.mk (blk_below (g := gb296) (o := .cells #[.int .i64 a0_0, .slice (some ad304) l0_1.length c0_1, .slice (some ad305) l0_2.length c0_2, .int .i64 a0_3] 25 (0, 0)) (kB BK296) hb)
          replace HB := Aside0.mk (below_step (bB HB) hb)
          clear hb ho17
          obtain ⟨Ao18, co18, eo18⟩ := Kd.R_slice HO308.out
          (first | subst eo18 | (injection eo18 with f1_ f2_ f3_; have f4_ := f1_.symm; have f5_ := f3_.symm; clear f1_ f2_ f3_; subst f4_; subst f5_))
          refine hK.out _ _ ⟨(blk_cell BK296.out 0).trans rfl, (blk_cell BK296.out 1).trans rfl, (blk_cell BK296.out 2).trans rfl, (blk_cell BK296.out 3).trans rfl, ((HB.out.cell (World.block_lt_of_cell? w _ hw304_0)).trans hw304_0), ((HB.out.cell (World.block_lt_of_cell? w _ hw304_1)).trans hw304_1), ((HB.out.cell (World.block_lt_of_cell? w _ hw304_2)).trans hw304_2), ((HB.out.cell (World.block_lt_of_cell? w _ hw305_0)).trans hw305_0), ((HB.out.cell (World.block_lt_of_cell? w _ hw305_1)).trans hw305_1), ((HB.out.cell (World.block_lt_of_cell? w _ hw305_2)).trans hw305_2)⟩ (fun hHeld => ?_)
          clear hK K
          refine norm_ (a' := ?_) ?_ ?_
          rotate_left
          ·show Act.put _ (some 38) _ = _
           simp only [Act.put, List.setIfInBounds_toArray, List.set_cons_zero, List.set_cons_succ, i64_w, i32_w]
           rfl
          refine pure_ (i := 11) (N := some 39) (v := ?_) (a' := ?_) #[true, true, true, true, true, true, true, true, true, true, true, true, true] rfl rfl (any_of HT_.out (by kernel_rfl)) (fun _ _ _ h => h) (Or.inl ⟨by rfl, ?_⟩) ?_ ?_
          rotate_left
          ·intro w'
           go_simp
           with_reducible rfl
          rotate_left
          ·simp only [Act.put, List.setIfInBounds_toArray, List.set_cons_zero, List.set_cons_succ, i64_w, i32_w]
           rfl
          refine done_ (done_of HT_.out (by kernel_rfl)) ?_
          try go_wp2
          go_loopg [40] k2 (fun kq v40 w' => ∃ (x40_3 : Int), v40 = .int .i64 x40_3 ∧ Aside0 (impl_GoodTable.l1 kq x25_2 x25_2 y306 (y306.length : Int) x40_3 a0_0 l0_1 l0_2 a0_3 = some r) ∧ Aside0 (kq ≤ k2) ∧ Aside0 (Kd.R k79 79 w' w.heap.size (fun _ => True) (.slice Ao18 y306.length co18) y306) ∧ Aside0 (w'.heap[gb296]? = some (.cells #[.int .i64 a0_0, (.slice (some ad304) l0_1.length c0_1), (.slice (some ad305) l0_2.length c0_2), .int .i64 a0_3] 25 (0, 0))) ∧ Aside0 (Below w.heap.size w w'))
          case atStart => exact ⟨(0), (by first | rfl | (simp; done) | (simp [*]; done)), H', ⟨Nat.le_refl _⟩, ⟨by (with_reducible repeat (first | apply Kd.R_alloc | apply Kd.R_drewN | apply Kd.R_drew)); exact HO308.out⟩, ⟨by (with_reducible repeat (first | refine blk_drewN ?_ _ | refine blk_drew ?_ | refine blk_alloc ?_ _)); exact BK296.out⟩, ⟨bB HB⟩⟩
          case round =>
           clear H'
           try clear c1
           try clear c2
           try clear p2
           try clear c3
           try clear p3
           try clear q3
           try clear hx3
           try clear c5
           try clear c6
           try clear c6b0
           try clear c6b1
           try clear c7
           try clear c10
           try clear c11
           try clear c11b0
           try clear c12
           try clear c12b0
           try clear c13
           try clear c13b0
           try clear c14
           try clear c14b0
           try clear hx304_0
           try clear hx304_1
           try clear hx304_2
           try clear hx305_0
           try clear hx305_1
           try clear hx305_2
           try clear p2
           try clear p304
           try clear p305
           try clear q304
           try clear q305
           obtain ⟨x40_3, rfl, HA, HK3, HO_38, BK296, HB⟩ := hrel
           cases gk with
           | zero => exact absurd HA.out (by simp [impl_GoodTable.l1])
           | succ k3 =>
            have H := HA.out
            clear HA
            simp only [impl_GoodTable.l1] at H
            by_cases c19 : x40_3 < (y306.length : Int)
            ·rw [if_pos c19] at H
             have c19b0 : decide (x40_3 < (y306.length : Int)) = true := decide_eq_true c19
             clear c19
             by_cases c20 : 0 ≤ x40_3
             ·rw [if_pos c20] at H
              have c20b0 : decide (0 ≤ x40_3) = true := decide_eq_true c20
              clear c20
              by_cases c21 : x40_3 < (y306.length : Int)
              ·rw [if_pos c21] at H
               have c21b0 : decide (x40_3 < (y306.length : Int)) = true := decide_eq_true c21
               clear c21
               obtain ⟨bq22, hbq22⟩ : ∃ b_ : Bool, b_ = ((rd_T79 y306 x40_3).f0) := ⟨_, rfl⟩
               replace H : (if (bq22 = true) then ((impl_isKey.f ((rd_T79 y306 x40_3).f1)).bind fun t311 => (if t311 = true then ((impl_within.f ((rd_T79 y306 x40_3).f2) 0 9999).bind fun t312 => (impl_GoodTable.j3 k3 x25_2 x40_3 x25_2 y306 (y306.length : Int) x40_3 (!t312) a0_0 l0_1 l0_2 a0_3 bq22 ((rd_T79 y306 x40_3).f1) ((rd_T79 y306 x40_3).f2))) else (impl_GoodTable.j3 k3 x25_2 x40_3 x25_2 y306 (y306.length : Int) x40_3 true a0_0 l0_1 l0_2 a0_3 bq22 ((rd_T79 y306 x40_3).f1) ((rd_T79 y306 x40_3).f2)))) else (if ((bq22) || (!(((rd_T79 y306 x40_3).f1) == 0) || (!(((rd_T79 y306 x40_3).f2) == 0)))) = true then (some false) else (impl_GoodTable.l1 k3 x25_2 x25_2 y306 (y306.length : Int) (wrap64 (x40_3 + 1)) a0_0 l0_1 l0_2 a0_3))) = some r := by rw [← hbq22] at H; exact H
               have Nbq22 := Aside0.mk hbq22
               clear hbq22
               by_cases c23 : (bq22 = true)
               ·subst c23
                have H1 : ((impl_isKey.f ((rd_T79 y306 x40_3).f1)).bind fun t311 => (if t311 = true then ((impl_within.f ((rd_T79 y306 x40_3).f2) 0 9999).bind fun t312 => (impl_GoodTable.j3 k3 x25_2 x40_3 x25_2 y306 (y306.length : Int) x40_3 (!t312) a0_0 l0_1 l0_2 a0_3 true ((rd_T79 y306 x40_3).f1) ((rd_T79 y306 x40_3).f2))) else (impl_GoodTable.j3 k3 x25_2 x40_3 x25_2 y306 (y306.length : Int) x40_3 true a0_0 l0_1 l0_2 a0_3 true ((rd_T79 y306 x40_3).f1) ((rd_T79 y306 x40_3).f2)))) = some r := by rw [if_pos rfl] at H; exact H
                clear H
                have H := H1
                clear H1
                have HC24 := Aside0.mk H
                clear H
                have p309 : 0 ≤ (x40_3 : Int) := of_decide_eq_true (by first | (with_reducible assumption) | assumption)
                have q309 : x40_3 < (y306.length : Int) := of_decide_eq_true (by first | (with_reducible assumption) | assumption)
                obtain ⟨ad309, e309, hx309_0, hx309_1, hx309_2⟩ := at_T79 (Kd.R_reads' HO_38.out).2.2 x40_3 p309 q309
                (try rw [← Nbq22.out] at hx309_0)
                cases e309
                replace p309 := eq_true p309
                replace q309 := eq_true q309
                go_upto_region 12 with (first | ((with_reducible refine gate_dst (N := 5) rfl ?_); (try (refine gate_guard (by rfl) ?_; dsimp only)); refine box_event ?hg (N := 5) ?hd (cs := #[.bool false, .int .i64 0, .int .i64 0]) (t := 79) ?hr ?_; (case hd => rfl); (case hg => rfl); (case hr => first | (go_simp; done) | (go_simp; rfl)); intro gb310 hg w25 hbox hb; replace HO_38 := Aside0.mk (Kd.R_below (Kd.R_elderB (aR HO_38) gb310 (Nat.le_of_eq hg.symm)) hb); have BK310 := Aside0.mk (hbox); have GW310 := Aside0.mk ((by rw [hg]; exact (below_size (bB HB)) : w.heap.size ≤ gb310)); have GE310 := Aside0.mk ((by rw [hg]; exact (below_size (bB HB)) : w.heap.size ≤ gb310)); replace HB := Aside0.mk (below_step (bB HB) hb); have NB296_310 := Aside0.mk ((by rw [hg]; exact Nat.ne_of_lt (blk_lt (g := gb296) (o := .cells #[.int .i64 a0_0, .slice (some ad304) l0_1.length c0_1, .slice (some ad305) l0_2.length c0_2, .int .i64 a0_3] 25 (0, 0)) (kB BK296)) : gb296 ≠ gb310)); have NB310_296 := Aside0.mk ((by rw [hg]; exact Nat.ne_of_gt (blk_lt (g := gb296) (o := .cells #[.int .i64 a0_0, .slice (some ad304) l0_1.length c0_1, .slice (some ad305) l0_2.length c0_2, .int .i64 a0_3] 25 (0, 0)) (kB BK296)) : gb310 ≠ gb296)); replace BK296 := Aside0.mk (blk_below (g := gb296) (o := .cells #[.int .i64 a0_0, .slice (some ad304) l0_1.length c0_1, .slice (some ad305) l0_2.length c0_2, .int .i64 a0_3] 25 (0, 0)) (kB BK296) hb); clear hb hbox hg; have hnb26 := NB310_296.out; have hnc26 := NB296_310.out; have hcz27_0 : w25.cell? ⟨gb310, 0, none⟩ = some (.bool false) := (blk_cell BK310.out 0).trans rfl; have hcz27_1 : w25.cell? ⟨gb310, 1, none⟩ = some (.int .i64 0) := (blk_cell BK310.out 1).trans rfl; have hcz27_2 : w25.cell? ⟨gb310, 2, none⟩ = some (.int .i64 0) := (blk_cell BK310.out 2).trans rfl; have hfz27_0 := blk_frozen BK310.out 0; have hfz27_1 := blk_frozen BK310.out 1; have hfz27_2 := blk_frozen BK310.out 2))
                (try simp only [Act.put, List.setIfInBounds_toArray, List.set_cons_zero, List.set_cons_succ])
                go_cut [60] (fun v60 wc => ∃ (kq : Nat) (x60_23 : Bool), v60 = .bool x60_23 ∧ Aside0 (impl_GoodTable.j3 kq x25_2 x40_3 x25_2 y306 (y306.length : Int) x40_3 x60_23 a0_0 l0_1 l0_2 a0_3 true ((rd_T79 y306 x40_3).f1) ((rd_T79 y306 x40_3).f2) = some r) ∧ Aside0 (kq ≤ k3) ∧ Aside0 (Kd.R k79 79 wc w.heap.size (fun k_ => k_ ≠ gb310) (.slice (some ad309) y306.length co18) y306) ∧ Aside0 (wc.heap[gb296]? = some (.cells #[.int .i64 a0_0, (.slice (some ad304) l0_1.length c0_1), (.slice (some ad305) l0_2.length c0_2), .int .i64 a0_3] 25 (0, 0))) ∧ Aside0 (wc.heap[gb310]? = some (.cells #[.bool true, .int .i64 ((rd_T79 y306 x40_3).f1), .int .i64 ((rd_T79 y306 x40_3).f2)] 79 (0, 0))) ∧ Aside0 (Below w.heap.size w wc))
                case first =>
                 have H := HC24.out
                 clear HC24
                 replace H := Option.bind_eq_some_iff.mp H
                 obtain ⟨t311, A280, H⟩ := H
                 replace H : (if t311 = true then ((impl_within.f ((rd_T79 y306 x40_3).f2) 0 9999).bind fun t312 => (impl_GoodTable.j3 k3 x25_2 x40_3 x25_2 y306 (y306.length : Int) x40_3 (!t312) a0_0 l0_1 l0_2 a0_3 true ((rd_T79 y306 x40_3).f1) ((rd_T79 y306 x40_3).f2))) else (impl_GoodTable.j3 k3 x25_2 x40_3 x25_2 y306 (y306.length : Int) x40_3 true a0_0 l0_1 l0_2 a0_3 true ((rd_T79 y306 x40_3).f1) ((rd_T79 y306 x40_3).f2))) = some r := H
                 have A28 := Aside0.mk A280
                 clear A280
                 by_cases c29 : t311 = true
                 ·subst c29
                  have H1 : ((impl_within.f ((rd_T79 y306 x40_3).f2) 0 9999).bind fun t312 => (impl_GoodTable.j3 k3 x25_2 x40_3 x25_2 y306 (y306.length : Int) x40_3 (!t312) a0_0 l0_1 l0_2 a0_3 true ((rd_T79 y306 x40_3).f1) ((rd_T79 y306 x40_3).f2))) = some r := by rw [if_pos rfl] at H; exact H
                  clear H
                  have H := H1
                  clear H1
                  replace H := Option.bind_eq_some_iff.mp H
                  obtain ⟨t312, A300, H⟩ := H
                  replace H : (impl_GoodTable.j3 k3 x25_2 x40_3 x25_2 y306 (y306.length : Int) x40_3 (!t312) a0_0 l0_1 l0_2 a0_3 true ((rd_T79 y306 x40_3).f1) ((rd_T79 y306 x40_3).f2)) = some r := H
                  have A30 := Aside0.mk A300
                  clear A300
                  have H' := Aside0.mk H
                  clear H
                  have hnb31 := NB310_296.out
                  have hnc31 := NB296_310.out
                  have hcz32_0 : w25.cell? ⟨gb310, 0, none⟩ = some (.bool false) := (blk_cell BK310.out 0).trans rfl
                  have hcz32_1 : w25.cell? ⟨gb310, 1, none⟩ = some (.int .i64 0) := (blk_cell BK310.out 1).trans rfl
                  have hcz32_2 : w25.cell? ⟨gb310, 2, none⟩ = some (.int .i64 0) := (blk_cell BK310.out 2).trans rfl
                  have hfz32_0 := blk_frozen BK310.out 0
                  have hfz32_1 := blk_frozen BK310.out 1
                  have hfz32_2 := blk_frozen BK310.out 2
                  go_wp2_with (first | ((with_reducible refine gate_callee (f := 63) rfl ?_); refine goesL_ (some 53) rfl rfl Try.func63 (by kernel_rfl) rfl #[.int .i64 ((rd_T79 y306 x40_3).f1)] rfl (by (try simp only [List.map_toArray, List.map_cons, List.map_nil]); first | done | rfl | (simp only [List.length_drop, List.length_take]; rfl)) ?_; (with_reducible refine (impl_isKey.calls ((rd_T79 y306 x40_3).f1) true _ A28.out).mono ?_); rintro e w' ⟨rfl, ⟨nd, rfl⟩⟩; refine ⟨_, rfl, ?_⟩) | (go_at_call 54; (with_reducible refine (impl_within.calls ((rd_T79 y306 x40_3).f2) 0 9999 t312 _ A30.out).mono ?_); rintro e w' ⟨rfl, ⟨nd, rfl⟩⟩))
                  go_meet
                  case rel => exact ⟨_, (!t312), (by first | rfl | (simp; done) | (simp [*]; done)), H', ⟨by have := HJ1.out; have := HK2.out; have := HK3.out; first | omega | exact Nat.le_refl _⟩, ⟨by (with_reducible repeat (first | apply Kd.R_alloc | apply Kd.R_drewN | apply Kd.R_drew)); exact Kd.R_mono (Kd.R_far (p := ⟨gb310, 2, none⟩) (Kd.R_far (p := ⟨gb310, 1, none⟩) (Kd.R_far (p := ⟨gb310, 0, none⟩) (Kd.R_mono HO_38.out (fun k_ hk => (⟨hk, hk.2⟩ : _ ∧ k_ ≠ gb310))) (fun _ hk => hk.2) (.bool true)) (fun _ hk => hk.2) (.int .i64 ((rd_T79 y306 x40_3).f1))) (fun _ hk => hk.2) (.int .i64 ((rd_T79 y306 x40_3).f2))) (fun _ hk => hk.1.2)⟩, ⟨by first | ((with_reducible repeat (first | refine blk_drewN ?_ _ | refine blk_drew ?_ | refine blk_alloc ?_ _)); refine blk_far ?_ NB296_310.out _; (with_reducible repeat (first | refine blk_drewN ?_ _ | refine blk_drew ?_ | refine blk_alloc ?_ _)); refine blk_far ?_ NB296_310.out _; (with_reducible repeat (first | refine blk_drewN ?_ _ | refine blk_drew ?_ | refine blk_alloc ?_ _)); refine blk_far ?_ NB296_310.out _; (with_reducible repeat (first | refine blk_drewN ?_ _ | refine blk_drew ?_ | refine blk_alloc ?_ _)); exact BK296.out) | (rw [← Nbq22.out]; (with_reducible repeat (first | refine blk_drewN ?_ _ | refine blk_drew ?_ | refine blk_alloc ?_ _)); refine blk_far ?_ NB296_310.out _; (with_reducible repeat (first | refine blk_drewN ?_ _ | refine blk_drew ?_ | refine blk_alloc ?_ _)); refine blk_far ?_ NB296_310.out _; (with_reducible repeat (first | refine blk_drewN ?_ _ | refine blk_drew ?_ | refine blk_alloc ?_ _)); refine blk_far ?_ NB296_310.out _; (with_reducible repeat (first | refine blk_drewN ?_ _ | refine blk_drew ?_ | refine blk_alloc ?_ _)); exact BK296.out)⟩, ⟨by first | ((with_reducible repeat (first | refine blk_drewN ?_ _ | refine blk_drew ?_ | refine blk_alloc ?_ _)); refine blk_put (cs := #[.bool true, .int .i64 ((rd_T79 y306 x40_3).f1), .int .i64 0]) ?_ 2 _ rfl; (with_reducible repeat (first | refine blk_drewN ?_ _ | refine blk_drew ?_ | refine blk_alloc ?_ _)); refine blk_put (cs := #[.bool true, .int .i64 0, .int .i64 0]) ?_ 1 _ rfl; (with_reducible repeat (first | refine blk_drewN ?_ _ | refine blk_drew ?_ | refine blk_alloc ?_ _)); refine blk_put (cs := #[.bool false, .int .i64 0, .int .i64 0]) ?_ 0 _ rfl; (with_reducible repeat (first | refine blk_drewN ?_ _ | refine blk_drew ?_ | refine blk_alloc ?_ _)); exact BK310.out) | (rw [← Nbq22.out]; (with_reducible repeat (first | refine blk_drewN ?_ _ | refine blk_drew ?_ | refine blk_alloc ?_ _)); refine blk_put (cs := #[.bool true, .int .i64 ((rd_T79 y306 x40_3).f1), .int .i64 0]) ?_ 2 _ rfl; (with_reducible repeat (first | refine blk_drewN ?_ _ | refine blk_drew ?_ | refine blk_alloc ?_ _)); refine blk_put (cs := #[.bool true, .int .i64 0, .int .i64 0]) ?_ 1 _ rfl; (with_reducible repeat (first | refine blk_drewN ?_ _ | refine blk_drew ?_ | refine blk_alloc ?_ _)); refine blk_put (cs := #[.bool false, .int .i64 0, .int .i64 0]) ?_ 0 _ rfl; (with_reducible repeat (first | refine blk_drewN ?_ _ | refine blk_drew ?_ | refine blk_alloc ?_ _)); exact BK310.out)⟩, ⟨bB HB⟩⟩
                 ·replace c29 := Bool.eq_false_iff.mpr c29
                  subst c29
                  have H1 : (impl_GoodTable.j3 k3 x25_2 x40_3 x25_2 y306 (y306.length : Int) x40_3 true a0_0 l0_1 l0_2 a0_3 true ((rd_T79 y306 x40_3).f1) ((rd_T79 y306 x40_3).f2)) = some r := by rw [if_neg (show ¬ (false = true) by decide)] at H; exact H
                  clear H
                  have H := H1
                  clear H1
                  have H' := Aside0.mk H
                  clear H
                  have hnb33 := NB310_296.out
                  have hnc33 := NB296_310.out
                  have hcz34_0 : w25.cell? ⟨gb310, 0, none⟩ = some (.bool false) := (blk_cell BK310.out 0).trans rfl
                  have hcz34_1 : w25.cell? ⟨gb310, 1, none⟩ = some (.int .i64 0) := (blk_cell BK310.out 1).trans rfl
                  have hcz34_2 : w25.cell? ⟨gb310, 2, none⟩ = some (.int .i64 0) := (blk_cell BK310.out 2).trans rfl
                  have hfz34_0 := blk_frozen BK310.out 0
                  have hfz34_1 := blk_frozen BK310.out 1
                  have hfz34_2 := blk_frozen BK310.out 2
                  go_wp2_with (first | ((with_reducible refine gate_callee (f := 63) rfl ?_); refine goesL_ (some 53) rfl rfl Try.func63 (by kernel_rfl) rfl #[.int .i64 ((rd_T79 y306 x40_3).f1)] rfl (by (try simp only [List.map_toArray, List.map_cons, List.map_nil]); first | done | rfl | (simp only [List.length_drop, List.length_take]; rfl)) ?_; (with_reducible refine (impl_isKey.calls ((rd_T79 y306 x40_3).f1) false _ A28.out).mono ?_); rintro e w' ⟨rfl, ⟨nd, rfl⟩⟩; refine ⟨_, rfl, ?_⟩))
                  go_meet
                  case rel => exact ⟨_, (true), (by first | rfl | (simp; done) | (simp [*]; done)), H', ⟨by have := HJ1.out; have := HK2.out; have := HK3.out; first | omega | exact Nat.le_refl _⟩, ⟨by (with_reducible repeat (first | apply Kd.R_alloc | apply Kd.R_drewN | apply Kd.R_drew)); exact Kd.R_mono (Kd.R_far (p := ⟨gb310, 2, none⟩) (Kd.R_far (p := ⟨gb310, 1, none⟩) (Kd.R_far (p := ⟨gb310, 0, none⟩) (Kd.R_mono HO_38.out (fun k_ hk => (⟨hk, hk.2⟩ : _ ∧ k_ ≠ gb310))) (fun _ hk => hk.2) (.bool true)) (fun _ hk => hk.2) (.int .i64 ((rd_T79 y306 x40_3).f1))) (fun _ hk => hk.2) (.int .i64 ((rd_T79 y306 x40_3).f2))) (fun _ hk => hk.1.2)⟩, ⟨by first | ((with_reducible repeat (first | refine blk_drewN ?_ _ | refine blk_drew ?_ | refine blk_alloc ?_ _)); refine blk_far ?_ NB296_310.out _; (with_reducible repeat (first | refine blk_drewN ?_ _ | refine blk_drew ?_ | refine blk_alloc ?_ _)); refine blk_far ?_ NB296_310.out _; (with_reducible repeat (first | refine blk_drewN ?_ _ | refine blk_drew ?_ | refine blk_alloc ?_ _)); refine blk_far ?_ NB296_310.out _; (with_reducible repeat (first | refine blk_drewN ?_ _ | refine blk_drew ?_ | refine blk_alloc ?_ _)); exact BK296.out) | (rw [← Nbq22.out]; (with_reducible repeat (first | refine blk_drewN ?_ _ | refine blk_drew ?_ | refine blk_alloc ?_ _)); refine blk_far ?_ NB296_310.out _; (with_reducible repeat (first | refine blk_drewN ?_ _ | refine blk_drew ?_ | refine blk_alloc ?_ _)); refine blk_far ?_ NB296_310.out _; (with_reducible repeat (first | refine blk_drewN ?_ _ | refine blk_drew ?_ | refine blk_alloc ?_ _)); refine blk_far ?_ NB296_310.out _; (with_reducible repeat (first | refine blk_drewN ?_ _ | refine blk_drew ?_ | refine blk_alloc ?_ _)); exact BK296.out)⟩, ⟨by first | ((with_reducible repeat (first | refine blk_drewN ?_ _ | refine blk_drew ?_ | refine blk_alloc ?_ _)); refine blk_put (cs := #[.bool true, .int .i64 ((rd_T79 y306 x40_3).f1), .int .i64 0]) ?_ 2 _ rfl; (with_reducible repeat (first | refine blk_drewN ?_ _ | refine blk_drew ?_ | refine blk_alloc ?_ _)); refine blk_put (cs := #[.bool true, .int .i64 0, .int .i64 0]) ?_ 1 _ rfl; (with_reducible repeat (first | refine blk_drewN ?_ _ | refine blk_drew ?_ | refine blk_alloc ?_ _)); refine blk_put (cs := #[.bool false, .int .i64 0, .int .i64 0]) ?_ 0 _ rfl; (with_reducible repeat (first | refine blk_drewN ?_ _ | refine blk_drew ?_ | refine blk_alloc ?_ _)); exact BK310.out) | (rw [← Nbq22.out]; (with_reducible repeat (first | refine blk_drewN ?_ _ | refine blk_drew ?_ | refine blk_alloc ?_ _)); refine blk_put (cs := #[.bool true, .int .i64 ((rd_T79 y306 x40_3).f1), .int .i64 0]) ?_ 2 _ rfl; (with_reducible repeat (first | refine blk_drewN ?_ _ | refine blk_drew ?_ | refine blk_alloc ?_ _)); refine blk_put (cs := #[.bool true, .int .i64 0, .int .i64 0]) ?_ 1 _ rfl; (with_reducible repeat (first | refine blk_drewN ?_ _ | refine blk_drew ?_ | refine blk_alloc ?_ _)); refine blk_put (cs := #[.bool false, .int .i64 0, .int .i64 0]) ?_ 0 _ rfl; (with_reducible repeat (first | refine blk_drewN ?_ _ | refine blk_drew ?_ | refine blk_alloc ?_ _)); exact BK310.out)⟩, ⟨bB HB⟩⟩
                case rest =>
                 clear HC24
                 try clear c1
                 try clear c2
                 try clear p2
                 try clear q2
                 try clear c3
                 try clear p3
                 try clear q3
                 try clear hx3
                 try clear c5
                 try clear c6
                 try clear c6b0
                 try clear c6b1
                 try clear p6
                 try clear c7
                 try clear c10
                 try clear c11
                 try clear c11b0
                 try clear c12
                 try clear c12b0
                 try clear c13
                 try clear c13b0
                 try clear c14
                 try clear c14b0
                 try clear c19
                 try clear c19b0
                 try clear c20
                 try clear c20b0
                 try clear c21
                 try clear c21b0
                 try clear q22
                 try clear c23
                 try clear c26
                 try clear c27
                 try clear c29
                 try clear p30
                 try clear q30
                 try clear hx30
                 try clear c31
                 try clear c33
                 try clear hx304_0
                 try clear hx304_1
                 try clear hx304_2
                 try clear hx305_0
                 try clear hx305_1
                 try clear hx305_2
                 try clear hx309_0
                 try clear hx309_1
                 try clear hx309_2
                 try clear p2
                 try clear p3
                 try clear p304
                 try clear p305
                 try clear p309
                 try clear q3
                 try clear q304
                 try clear q305
                 try clear q309
                 obtain ⟨kq, x60_23, rfl, HA, HJ23, HO_38, BK296, BK310, HB⟩ := hcut
                 cases kq with
                 | zero => exact absurd HA.out (by simp [impl_GoodTable.j3])
                 | succ kj23 =>
                  have H := HA.out
                  clear HA
                  simp only [impl_GoodTable.j3] at H
                  by_cases c35 : x60_23 = true
                  ·subst c35
                   have H1 : (some false) = some r := by rw [if_pos rfl] at H; exact H
                   clear H
                   have H := H1
                   clear H1
                   obtain rfl := Option.some.inj H
                   go_wp2
                   go_ret
                   exact ⟨by first | rfl | (simp [errW_none, errW_some] <;> rfl) | (simp [*, errW_none, errW_some] <;> rfl), bB HB⟩
                  ·replace c35 := Bool.eq_false_iff.mpr c35
                   subst c35
                   have H1 : ((impl_placesOf.f a0_0 ((rd_T79 y306 x40_3).f1)).bind fun bt313 => ((some (([bt313.1, bt313.2] : List Int) : List Int)).bind fun y315 => (if 0 ≤ x40_3 then (if x40_3 < (y315.length : Int) then (if x25_2 = (rd y315 x40_3) then (impl_GoodTable.l1 kj23 x25_2 x25_2 y306 (y306.length : Int) (wrap64 (x40_3 + 1)) a0_0 l0_1 l0_2 a0_3) else (some false)) else (none)) else (none)))) = some r := by rw [if_neg (show ¬ (false = true) by decide)] at H; exact H
                   clear H
                   have H := H1
                   clear H1
                   replace H := Option.bind_eq_some_iff.mp H
                   obtain ⟨⟨t313, t314⟩, A360, H⟩ := H
                   replace H : ((some (([t313, t314] : List Int) : List Int)).bind fun y315 => (if 0 ≤ x40_3 then (if x40_3 < (y315.length : Int) then (if x25_2 = (rd y315 x40_3) then (impl_GoodTable.l1 kj23 x25_2 x25_2 y306 (y306.length : Int) (wrap64 (x40_3 + 1)) a0_0 l0_1 l0_2 a0_3) else (some false)) else (none)) else (none))) = some r := H
                   have A36 := Aside0.mk A360
                   clear A360
                   obtain ⟨y315, hy315⟩ : ∃ y_ : List Int, y_ = (([t313, t314] : List Int)) := ⟨_, rfl⟩
                   replace H : (if 0 ≤ x40_3 then (if x40_3 < (y315.length : Int) then (if x25_2 = (rd y315 x40_3) then (impl_GoodTable.l1 kj23 x25_2 x25_2 y306 (y306.length : Int) (wrap64 (x40_3 + 1)) a0_0 l0_1 l0_2 a0_3) else (some false)) else (none)) else (none)) = some r := by first | (rw [hy315]; with_reducible exact H) | (have H2_ := (Option.bind_some _ _).symm.trans H; rw [hy315]; with_reducible exact H2_) | (have H2_ := (Option.bind_some _ _).symm.trans H; with_reducible exact H2_) | with_reducible exact H | (rw [hy315]; exact H) | exact H
                   have Ny315 := Aside0.mk hy315
                   clear hy315
                   by_cases c37 : 0 ≤ x40_3
                   ·rw [if_pos c37] at H
                    have c37b0 : decide (0 ≤ x40_3) = true := decide_eq_true c37
                    clear c37
                    by_cases c38 : x40_3 < (y315.length : Int)
                    ·rw [if_pos c38] at H
                     have c38b0 : decide (x40_3 < (y315.length : Int)) = true := decide_eq_true c38
                     clear c38
                     by_cases c39 : x25_2 = (rd y315 x40_3)
                     ·rw [if_pos c39] at H
                      have c39b0 : (x25_2 == (rd y315 x40_3)) = true := beq_iff_eq.mpr c39
                      have c39b1 : (x25_2 != (rd y315 x40_3)) = false := bne_eq_false_iff_eq.mpr c39
                      clear c39
                      have H' := Aside0.mk H
                      clear H
                      have hnb40 := NB296_310.out
                      have hnc40 := NB310_296.out
                      have hcz41_0 : wc.cell? ⟨gb296, 0, none⟩ = some (.int .i64 a0_0) := (blk_cell BK296.out 0).trans rfl
                      have hcz41_1 : wc.cell? ⟨gb296, 1, none⟩ = some (.slice (some ad304) l0_1.length c0_1) := (blk_cell BK296.out 1).trans rfl
                      have hcz41_2 : wc.cell? ⟨gb296, 2, none⟩ = some (.slice (some ad305) l0_2.length c0_2) := (blk_cell BK296.out 2).trans rfl
                      have hcz41_3 : wc.cell? ⟨gb296, 3, none⟩ = some (.int .i64 a0_3) := (blk_cell BK296.out 3).trans rfl
                      have hfz41_0 := blk_frozen BK296.out 0
                      have hfz41_1 := blk_frozen BK296.out 1
                      have hfz41_2 := blk_frozen BK296.out 2
                      have hfz41_3 := blk_frozen BK296.out 3
                      have hcz42_0 : wc.cell? ⟨gb310, 0, none⟩ = some (.bool true) := (blk_cell BK310.out 0).trans rfl
                      have hcz42_1 : wc.cell? ⟨gb310, 1, none⟩ = some (.int .i64 ((rd_T79 y306 x40_3).f1)) := (blk_cell BK310.out 1).trans rfl
                      have hcz42_2 : wc.cell? ⟨gb310, 2, none⟩ = some (.int .i64 ((rd_T79 y306 x40_3).f2)) := (blk_cell BK310.out 2).trans rfl
                      have hfz42_0 := blk_frozen BK310.out 0
                      have hfz42_1 := blk_frozen BK310.out 1
                      have hfz42_2 := blk_frozen BK310.out 2
                      go_wp2_with (first | ((with_reducible refine gate_callee (f := 71) rfl ?_); refine goesL_ (some 66) rfl rfl Try.func71 (by kernel_rfl) rfl #[.int .i64 a0_0, .int .i64 ((rd_T79 y306 x40_3).f1)] rfl (by (try simp only [List.map_toArray, List.map_cons, List.map_nil]); first | done | rfl | (simp only [List.length_drop, List.length_take]; rfl)) ?_; (with_reducible refine (impl_placesOf.calls a0_0 ((rd_T79 y306 x40_3).f1) t313 t314 _ A36.out).mono ?_); rintro e w' ⟨rfl, ⟨nd, rfl⟩⟩; refine ⟨_, rfl, ?_⟩) | ((with_reducible refine gate_dst (N := 72) rfl ?_); (try (refine gate_guard (by rfl) ?_; dsimp only)); refine Kd.R_lit (Kd.int .i64) _ 3 ?hg (N := 72) ?hd (xs := ([t313, t314] : List Int)) (inner := [.int .i64 t313, .int .i64 t314]) (ok := fun _ => True) (okp := fun _ => True) ?hr ?hp (fun _ hk => hk) trivial (Below.refl _ _) (Nat.le_refl _) (by simp) ?_; (case hd => rfl); (case hg => rfl); (case hr => first | (go_simp; done) | (go_simp; rfl)); (case hp => exact (Reps.one (show Kd.M (Kd.int .i64) _ _ _ t313 [.int .i64 t313] from rfl) (Reps.one (show Kd.M (Kd.int .i64) _ _ _ t314 [.int .i64 t314] from rfl) (Reps.none _ _)))); intro v316 w43 ho44 hb hg_ hnew_; clear hg_ hnew_; (first | rw [← Ny315.out] at ho44 | (simp only [Int.reduceToNat] at ho44; rw [← Ny315.out] at ho44)); replace HO_38 := Aside0.mk (Kd.R_below (aR HO_38) hb); have HO317 := Aside0.mk (Kd.R_lower ho44 (below_size (bB HB))); replace BK296 := Aside0.mk (blk_below (g := gb296) (o := .cells #[.int .i64 a0_0, .slice (some ad304) l0_1.length c0_1, .slice (some ad305) l0_2.length c0_2, .int .i64 a0_3] 25 (0, 0)) (kB BK296) hb); replace BK310 := Aside0.mk (blk_below (g := gb310) (o := .cells #[.bool true, .int .i64 ((rd_T79 y306 x40_3).f1), .int .i64 ((rd_T79 y306 x40_3).f2)] 79 (0, 0)) (kB BK310) hb); replace HB := Aside0.mk (below_step (bB HB) hb); clear hb ho44; obtain ⟨Ao45, co45, eo45⟩ := Kd.R_slice HO317.out; subst eo45; have p318 : 0 ≤ (x40_3 : Int) := of_decide_eq_true (by first | (with_reducible assumption) | assumption); have q318 : x40_3 < (y315.length : Int) := of_decide_eq_true (by first | (with_reducible assumption) | assumption); obtain ⟨ad318, e318, hx318_0⟩ := Kd.at_int (Kd.R_reads' HO317.out).2.2 x40_3 p318 q318; cases e318; replace p318 := eq_true p318; replace q318 := eq_true q318))
                      go_roundg kj23
                      case measure => have := HJ1.out; have := HK2.out; have := HK3.out; have := HJ23.out; omega
                      case rel => exact ⟨(wrap64 (x40_3 + 1)), (by first | rfl | (simp; done) | (simp [*]; done)), H', ⟨by have := HJ1.out; have := HK2.out; have := HK3.out; have := HJ23.out; omega⟩, ⟨by (with_reducible repeat (first | apply Kd.R_alloc | apply Kd.R_drewN | apply Kd.R_drew)); exact Kd.R_mono HO_38.out (fun _ hk => trivial)⟩, ⟨by first | ((with_reducible repeat (first | refine blk_drewN ?_ _ | refine blk_drew ?_ | refine blk_alloc ?_ _)); exact BK296.out) | (rw [← Nbq22.out]; (with_reducible repeat (first | refine blk_drewN ?_ _ | refine blk_drew ?_ | refine blk_alloc ?_ _)); exact BK296.out)⟩, ⟨bB HB⟩⟩
                     ·rw [if_neg c39] at H
                      have c39b0 : (x25_2 == (rd y315 x40_3)) = false := beq_eq_false_iff_ne.mpr c39
                      have c39b1 : (x25_2 != (rd y315 x40_3)) = true := bne_iff_ne.mpr c39
                      obtain rfl := Option.some.inj H
                      have hnb46 := NB296_310.out
                      have hnc46 := NB310_296.out
                      have hcz47_0 : wc.cell? ⟨gb296, 0, none⟩ = some (.int .i64 a0_0) := (blk_cell BK296.out 0).trans rfl
                      have hcz47_1 : wc.cell? ⟨gb296, 1, none⟩ = some (.slice (some ad304) l0_1.length c0_1) := (blk_cell BK296.out 1).trans rfl
                      have hcz47_2 : wc.cell? ⟨gb296, 2, none⟩ = some (.slice (some ad305) l0_2.length c0_2) := (blk_cell BK296.out 2).trans rfl
                      have hcz47_3 : wc.cell? ⟨gb296, 3, none⟩ = some (.int .i64 a0_3) := (blk_cell BK296.out 3).trans rfl
                      have hfz47_0 := blk_frozen BK296.out 0
                      have hfz47_1 := blk_frozen BK296.out 1
                      have hfz47_2 := blk_frozen BK296.out 2
                      have hfz47_3 := blk_frozen BK296.out 3
                      have hcz48_0 : wc.cell? ⟨gb310, 0, none⟩ = some (.bool true) := (blk_cell BK310.out 0).trans rfl
                      have hcz48_1 : wc.cell? ⟨gb310, 1, none⟩ = some (.int .i64 ((rd_T79 y306 x40_3).f1)) := (blk_cell BK310.out 1).trans rfl
                      have hcz48_2 : wc.cell? ⟨gb310, 2, none⟩ = some (.int .i64 ((rd_T79 y306 x40_3).f2)) := (blk_cell BK310.out 2).trans rfl
                      have hfz48_0 := blk_frozen BK310.out 0
                      have hfz48_1 := blk_frozen BK310.out 1
                      have hfz48_2 := blk_frozen BK310.out 2
                      go_wp2_with (first | ((with_reducible refine gate_callee (f := 71) rfl ?_); refine goesL_ (some 66) rfl rfl Try.func71 (by kernel_rfl) rfl #[.int .i64 a0_0, .int .i64 ((rd_T79 y306 x40_3).f1)] rfl (by (try simp only [List.map_toArray, List.map_cons, List.map_nil]); first | done | rfl | (simp only [List.length_drop, List.length_take]; rfl)) ?_; (with_reducible refine (impl_placesOf.calls a0_0 ((rd_T79 y306 x40_3).f1) t313 t314 _ A36.out).mono ?_); rintro e w' ⟨rfl, ⟨nd, rfl⟩⟩; refine ⟨_, rfl, ?_⟩) | ((with_reducible refine gate_dst (N := 72) rfl ?_); (try (refine gate_guard (by rfl) ?_; dsimp only)); refine Kd.R_lit (Kd.int .i64) _ 3 ?hg (N := 72) ?hd (xs := ([t313, t314] : List Int)) (inner := [.int .i64 t313, .int .i64 t314]) (ok := fun _ => True) (okp := fun _ => True) ?hr ?hp (fun _ hk => hk) trivial (Below.refl _ _) (Nat.le_refl _) (by simp) ?_; (case hd => rfl); (case hg => rfl); (case hr => first | (go_simp; done) | (go_simp; rfl)); (case hp => exact (Reps.one (show Kd.M (Kd.int .i64) _ _ _ t313 [.int .i64 t313] from rfl) (Reps.one (show Kd.M (Kd.int .i64) _ _ _ t314 [.int .i64 t314] from rfl) (Reps.none _ _)))); intro v316 w49 ho50 hb hg_ hnew_; clear hg_ hnew_; (first | rw [← Ny315.out] at ho50 | (simp only [Int.reduceToNat] at ho50; rw [← Ny315.out] at ho50)); replace HO_38 := Aside0.mk (Kd.R_below (aR HO_38) hb); have HO317 := Aside0.mk (Kd.R_lower ho50 (below_size (bB HB))); replace BK296 := Aside0.mk (blk_below (g := gb296) (o := .cells #[.int .i64 a0_0, .slice (some ad304) l0_1.length c0_1, .slice (some ad305) l0_2.length c0_2, .int .i64 a0_3] 25 (0, 0)) (kB BK296) hb); replace BK310 := Aside0.mk (blk_below (g := gb310) (o := .cells #[.bool true, .int .i64 ((rd_T79 y306 x40_3).f1), .int .i64 ((rd_T79 y306 x40_3).f2)] 79 (0, 0)) (kB BK310) hb); replace HB := Aside0.mk (below_step (bB HB) hb); clear hb ho50; obtain ⟨Ao51, co51, eo51⟩ := Kd.R_slice HO317.out; subst eo51; have p318 : 0 ≤ (x40_3 : Int) := of_decide_eq_true (by first | (with_reducible assumption) | assumption); have q318 : x40_3 < (y315.length : Int) := of_decide_eq_true (by first | (with_reducible assumption) | assumption); obtain ⟨ad318, e318, hx318_0⟩ := Kd.at_int (Kd.R_reads' HO317.out).2.2 x40_3 p318 q318; cases e318; replace p318 := eq_true p318; replace q318 := eq_true q318))
                      go_ret
                      exact ⟨by first | rfl | (simp [errW_none, errW_some] <;> rfl) | (simp [*, errW_none, errW_some] <;> rfl), bB HB⟩
                    ·rw [if_neg c38] at H
                     exact absurd H (by simp)
                   ·rw [if_neg c37] at H
                    exact absurd H (by simp)
               ·replace c23 := Bool.eq_false_iff.mpr c23
                subst c23
                have H1 : (if ((false) || (!(((rd_T79 y306 x40_3).f1) == 0) || (!(((rd_T79 y306 x40_3).f2) == 0)))) = true then (some false) else (impl_GoodTable.l1 k3 x25_2 x25_2 y306 (y306.length : Int) (wrap64 (x40_3 + 1)) a0_0 l0_1 l0_2 a0_3)) = some r := by rw [if_neg (show ¬ (false = true) by decide)] at H; exact H
                clear H
                have H := H1
                clear H1
                by_cases c52 : ((false) || (!(((rd_T79 y306 x40_3).f1) == 0) || (!(((rd_T79 y306 x40_3).f2) == 0)))) = true
                ·rw [if_pos c52] at H
                 have c52b0 : ((false) || (!(((rd_T79 y306 x40_3).f1) == 0) || (!(((rd_T79 y306 x40_3).f2) == 0)))) = true := c52
                 have c52b9 : ((!(((rd_T79 y306 x40_3).f1) == 0)) = false ∧ (!(((rd_T79 y306 x40_3).f2) == 0)) = false) = False := eq_false (fun h_ => by have h2_ := c52b0; rw [h_.1, h_.2] at h2_; exact absurd h2_ (by decide))
                 clear c52
                 obtain rfl := Option.some.inj H
                 have p309 : 0 ≤ (x40_3 : Int) := of_decide_eq_true (by first | (with_reducible assumption) | assumption)
                 have q309 : x40_3 < (y306.length : Int) := of_decide_eq_true (by first | (with_reducible assumption) | assumption)
                 obtain ⟨ad309, e309, hx309_0, hx309_1, hx309_2⟩ := at_T79 (Kd.R_reads' HO_38.out).2.2 x40_3 p309 q309
                 (try rw [← Nbq22.out] at hx309_0)
                 cases e309
                 replace p309 := eq_true p309
                 replace q309 := eq_true q309
                 go_wp2_with (first | ((with_reducible refine gate_dst (N := 5) rfl ?_); (try (refine gate_guard (by rfl) ?_; dsimp only)); refine box_event ?hg (N := 5) ?hd (cs := #[.bool false, .int .i64 0, .int .i64 0]) (t := 79) ?hr ?_; (case hd => rfl); (case hg => rfl); (case hr => first | (go_simp; done) | (go_simp; rfl)); intro gb310 hg w53 hbox hb; replace HO_38 := Aside0.mk (Kd.R_below (Kd.R_elderB (aR HO_38) gb310 (Nat.le_of_eq hg.symm)) hb); have BK310 := Aside0.mk (hbox); have GW310 := Aside0.mk ((by rw [hg]; exact (below_size (bB HB)) : w.heap.size ≤ gb310)); have GE310 := Aside0.mk ((by rw [hg]; exact (below_size (bB HB)) : w.heap.size ≤ gb310)); replace HB := Aside0.mk (below_step (bB HB) hb); have NB296_310 := Aside0.mk ((by rw [hg]; exact Nat.ne_of_lt (blk_lt (g := gb296) (o := .cells #[.int .i64 a0_0, .slice (some ad304) l0_1.length c0_1, .slice (some ad305) l0_2.length c0_2, .int .i64 a0_3] 25 (0, 0)) (kB BK296)) : gb296 ≠ gb310)); have NB310_296 := Aside0.mk ((by rw [hg]; exact Nat.ne_of_gt (blk_lt (g := gb296) (o := .cells #[.int .i64 a0_0, .slice (some ad304) l0_1.length c0_1, .slice (some ad305) l0_2.length c0_2, .int .i64 a0_3] 25 (0, 0)) (kB BK296)) : gb310 ≠ gb296)); replace BK296 := Aside0.mk (blk_below (g := gb296) (o := .cells #[.int .i64 a0_0, .slice (some ad304) l0_1.length c0_1, .slice (some ad305) l0_2.length c0_2, .int .i64 a0_3] 25 (0, 0)) (kB BK296) hb); clear hb hbox hg; have hnb54 := NB310_296.out; have hnc54 := NB296_310.out; have hcz55_0 : w53.cell? ⟨gb310, 0, none⟩ = some (.bool false) := (blk_cell BK310.out 0).trans rfl; have hcz55_1 : w53.cell? ⟨gb310, 1, none⟩ = some (.int .i64 0) := (blk_cell BK310.out 1).trans rfl; have hcz55_2 : w53.cell? ⟨gb310, 2, none⟩ = some (.int .i64 0) := (blk_cell BK310.out 2).trans rfl; have hfz55_0 := blk_frozen BK310.out 0; have hfz55_1 := blk_frozen BK310.out 1; have hfz55_2 := blk_frozen BK310.out 2))
                 go_ret
                 exact ⟨by first | rfl | (simp [errW_none, errW_some] <;> rfl) | (simp [*, errW_none, errW_some] <;> rfl), bB HB⟩
                 all_goals (exfalso; have h2_ := c52b0; rename_i h_; rw [h_.1, h_.2] at h2_; exact absurd h2_ (by decide))
                ·rw [if_neg c52] at H
                 have c52b0 : ((false) || (!(((rd_T79 y306 x40_3).f1) == 0) || (!(((rd_T79 y306 x40_3).f2) == 0)))) = false := by simpa using c52
                 have c52b9 : ((!(((rd_T79 y306 x40_3).f1) == 0)) = false ∧ (!(((rd_T79 y306 x40_3).f2) == 0)) = false) = True := eq_true (by have h2_ := c52b0; revert h2_; cases (!(((rd_T79 y306 x40_3).f1) == 0)) <;> cases (!(((rd_T79 y306 x40_3).f2) == 0)) <;> simp)
                 clear c52
                 have H' := Aside0.mk H
                 clear H
                 have p309 : 0 ≤ (x40_3 : Int) := of_decide_eq_true (by first | (with_reducible assumption) | assumption)
                 have q309 : x40_3 < (y306.length : Int) := of_decide_eq_true (by first | (with_reducible assumption) | assumption)
                 obtain ⟨ad309, e309, hx309_0, hx309_1, hx309_2⟩ := at_T79 (Kd.R_reads' HO_38.out).2.2 x40_3 p309 q309
                 (try rw [← Nbq22.out] at hx309_0)
                 cases e309
                 replace p309 := eq_true p309
                 replace q309 := eq_true q309
                 go_wp2_with (first | ((with_reducible refine gate_dst (N := 5) rfl ?_); (try (refine gate_guard (by rfl) ?_; dsimp only)); refine box_event ?hg (N := 5) ?hd (cs := #[.bool false, .int .i64 0, .int .i64 0]) (t := 79) ?hr ?_; (case hd => rfl); (case hg => rfl); (case hr => first | (go_simp; done) | (go_simp; rfl)); intro gb310 hg w56 hbox hb; replace HO_38 := Aside0.mk (Kd.R_below (Kd.R_elderB (aR HO_38) gb310 (Nat.le_of_eq hg.symm)) hb); have BK310 := Aside0.mk (hbox); have GW310 := Aside0.mk ((by rw [hg]; exact (below_size (bB HB)) : w.heap.size ≤ gb310)); have GE310 := Aside0.mk ((by rw [hg]; exact (below_size (bB HB)) : w.heap.size ≤ gb310)); replace HB := Aside0.mk (below_step (bB HB) hb); have NB296_310 := Aside0.mk ((by rw [hg]; exact Nat.ne_of_lt (blk_lt (g := gb296) (o := .cells #[.int .i64 a0_0, .slice (some ad304) l0_1.length c0_1, .slice (some ad305) l0_2.length c0_2, .int .i64 a0_3] 25 (0, 0)) (kB BK296)) : gb296 ≠ gb310)); have NB310_296 := Aside0.mk ((by rw [hg]; exact Nat.ne_of_gt (blk_lt (g := gb296) (o := .cells #[.int .i64 a0_0, .slice (some ad304) l0_1.length c0_1, .slice (some ad305) l0_2.length c0_2, .int .i64 a0_3] 25 (0, 0)) (kB BK296)) : gb310 ≠ gb296)); replace BK296 := Aside0.mk (blk_below (g := gb296) (o := .cells #[.int .i64 a0_0, .slice (some ad304) l0_1.length c0_1, .slice (some ad305) l0_2.length c0_2, .int .i64 a0_3] 25 (0, 0)) (kB BK296) hb); clear hb hbox hg; have hnb57 := NB310_296.out; have hnc57 := NB296_310.out; have hcz58_0 : w56.cell? ⟨gb310, 0, none⟩ = some (.bool false) := (blk_cell BK310.out 0).trans rfl; have hcz58_1 : w56.cell? ⟨gb310, 1, none⟩ = some (.int .i64 0) := (blk_cell BK310.out 1).trans rfl; have hcz58_2 : w56.cell? ⟨gb310, 2, none⟩ = some (.int .i64 0) := (blk_cell BK310.out 2).trans rfl; have hfz58_0 := blk_frozen BK310.out 0; have hfz58_1 := blk_frozen BK310.out 1; have hfz58_2 := blk_frozen BK310.out 2))
                 ·(exfalso; rename_i h_; first | exact h_ (of_eq_true c52b9) | exact h_ (of_eq_true c52b9).1 (of_eq_true c52b9).2 | (simp only [c52b9] at h_; exact h_ trivial) | (simp [(of_eq_true c52b9).1, (of_eq_true c52b9).2] at h_))
                 go_roundg k3
                 case measure => have := HJ1.out; have := HK2.out; have := HK3.out; omega
                 case rel => exact ⟨(wrap64 (x40_3 + 1)), (by first | rfl | (simp; done) | (simp [*]; done)), H', ⟨by have := HJ1.out; have := HK2.out; have := HK3.out; omega⟩, ⟨by (with_reducible repeat (first | apply Kd.R_alloc | apply Kd.R_drewN | apply Kd.R_drew)); exact Kd.R_mono (Kd.R_far (p := ⟨gb310, 2, none⟩) (Kd.R_far (p := ⟨gb310, 1, none⟩) (Kd.R_far (p := ⟨gb310, 0, none⟩) (Kd.R_mono HO_38.out (fun k_ hk => (⟨hk, hk.2⟩ : _ ∧ k_ ≠ gb310))) (fun _ hk => hk.2) (.bool false)) (fun _ hk => hk.2) (.int .i64 ((rd_T79 y306 x40_3).f1))) (fun _ hk => hk.2) (.int .i64 ((rd_T79 y306 x40_3).f2))) (fun _ hk => trivial)⟩, ⟨by first | ((with_reducible repeat (first | refine blk_drewN ?_ _ | refine blk_drew ?_ | refine blk_alloc ?_ _)); refine blk_far ?_ NB296_310.out _; (with_reducible repeat (first | refine blk_drewN ?_ _ | refine blk_drew ?_ | refine blk_alloc ?_ _)); refine blk_far ?_ NB296_310.out _; (with_reducible repeat (first | refine blk_drewN ?_ _ | refine blk_drew ?_ | refine blk_alloc ?_ _)); refine blk_far ?_ NB296_310.out _; (with_reducible repeat (first | refine blk_drewN ?_ _ | refine blk_drew ?_ | refine blk_alloc ?_ _)); exact BK296.out) | (rw [← Nbq22.out]; (with_reducible repeat (first | refine blk_drewN ?_ _ | refine blk_drew ?_ | refine blk_alloc ?_ _)); refine blk_far ?_ NB296_310.out _; (with_reducible repeat (first | refine blk_drewN ?_ _ | refine blk_drew ?_ | refine blk_alloc ?_ _)); refine blk_far ?_ NB296_310.out _; (with_reducible repeat (first | refine blk_drewN ?_ _ | refine blk_drew ?_ | refine blk_alloc ?_ _)); refine blk_far ?_ NB296_310.out _; (with_reducible repeat (first | refine blk_drewN ?_ _ | refine blk_drew ?_ | refine blk_alloc ?_ _)); exact BK296.out)⟩, ⟨bB HB⟩⟩
              ·rw [if_neg c21] at H
               exact absurd H (by simp)
             ·rw [if_neg c20] at H
              exact absurd H (by simp)
            ·rw [if_neg c19] at H
             have c19b0 : decide (x40_3 < (y306.length : Int)) = false := decide_eq_false c19
             clear c19
             have H' := Aside0.mk H
             clear H
             go_wp2
             go_roundg k3
             case measure => have := HJ1.out; have := HK2.out; have := HK3.out; omega
             case rel => exact ⟨(wrap64 (x25_2 + 1)), (by first | rfl | (simp; done) | (simp [*]; done)), H', ⟨by have := HJ1.out; have := HK2.out; have := HK3.out; omega⟩, ⟨by first | ((with_reducible repeat (first | refine blk_drewN ?_ _ | refine blk_drew ?_ | refine blk_alloc ?_ _)); exact BK296.out) | (rw [← Nbq22.out]; (with_reducible repeat (first | refine blk_drewN ?_ _ | refine blk_drew ?_ | refine blk_alloc ?_ _)); exact BK296.out)⟩, ⟨bB HB⟩⟩
         ·rw [if_neg c14] at H
          exact absurd H (by simp)
        ·rw [if_neg c13] at H
         exact absurd H (by simp)
       ·rw [if_neg c12] at H
        exact absurd H (by simp)
      ·rw [if_neg c11] at H
       have c11b0 : decide (x25_2 < 11) = false := decide_eq_false c11
       clear c11
       replace H := Option.bind_eq_some_iff.mp H
       obtain ⟨t298, A590, H⟩ := H
       replace H : (if a0_3 = (t298.length : Int) then ((slices_Compact_int_int.f t298).bind fun t301 => (some ((t301.length : Int) == a0_3))) else (some false)) = some r := H
       have A59 := Aside0.mk A590
       clear A590
       by_cases c60 : a0_3 = (t298.length : Int)
       ·rw [if_pos c60] at H
        have c60b0 : (a0_3 == (t298.length : Int)) = true := beq_iff_eq.mpr c60
        have c60b1 : (a0_3 != (t298.length : Int)) = false := bne_eq_false_iff_eq.mpr c60
        clear c60
        replace H := Option.bind_eq_some_iff.mp H
        obtain ⟨t301, A610, H⟩ := H
        replace H : (some ((t301.length : Int) == a0_3)) = some r := H
        have A61 := Aside0.mk A610
        clear A610
        obtain rfl := Option.some.inj H
        have hcz62_0 : wr.cell? ⟨gb296, 0, none⟩ = some (.int .i64 a0_0) := (blk_cell BK296.out 0).trans rfl
        have hcz62_1 : wr.cell? ⟨gb296, 1, none⟩ = some (.slice A0_1 l0_1.length c0_1) := (blk_cell BK296.out 1).trans rfl
        have hcz62_2 : wr.cell? ⟨gb296, 2, none⟩ = some (.slice A0_2 l0_2.length c0_2) := (blk_cell BK296.out 2).trans rfl
        have hcz62_3 : wr.cell? ⟨gb296, 3, none⟩ = some (.int .i64 a0_3) := (blk_cell BK296.out 3).trans rfl
        have hfz62_0 := blk_frozen BK296.out 0
        have hfz62_1 := blk_frozen BK296.out 1
        have hfz62_2 := blk_frozen BK296.out 2
        have hfz62_3 := blk_frozen BK296.out 3
        try go_wp2_with (first | ((with_reducible refine gate_callee (f := 65) rfl ?_); refine goesL_ (some 80) rfl rfl Try.func65 (by kernel_rfl) rfl #[.agg #[.int .i64 a0_0, .slice A0_1 l0_1.length c0_1, .slice A0_2 l0_2.length c0_2, .int .i64 a0_3]] rfl (by (try simp only [List.map_toArray, List.map_cons, List.map_nil]); first | done | rfl | (simp only [List.length_drop, List.length_take]; rfl)) ?_; (with_reducible refine (impl_keysIn.calls k2 a0_0 _ _ l0_1 _ _ l0_2 a0_3 t298 _ ?side1 ?side2 ?side3 ?side4 A59.out).mono ?_); (case side1 => repeat (first | exact (Kd.C_below HR0_1.out HB.out) | (with_reducible refine Kd.C_alloc ?_ _) | (with_reducible refine Kd.C_drewN ?_ _) | (with_reducible refine Kd.C_drew ?_))); (case side2 => exact HC0_1.out); (case side3 => repeat (first | exact (Kd.C_below HR0_2.out HB.out) | (with_reducible refine Kd.C_alloc ?_ _) | (with_reducible refine Kd.C_drewN ?_ _) | (with_reducible refine Kd.C_drew ?_))); (case side4 => exact HC0_2.out); rintro e w63 ⟨v299, rfl, ho0, hb⟩; refine ⟨_, rfl, ?_⟩; have HO300 := Aside0.mk (Kd.R_lower ho0 (below_size (bB HB))); replace BK296 := Aside0.mk (blk_below (g := gb296) (o := .cells #[.int .i64 a0_0, .slice A0_1 l0_1.length c0_1, .slice A0_2 l0_2.length c0_2, .int .i64 a0_3] 25 (0, 0)) (kB BK296) hb); replace HB := Aside0.mk (below_step (bB HB) hb); (try clear hb); (try clear hb2); (try clear hk); (try clear hi); (try clear ho0)))
        replace HO300 := Aside0.mk (Kd.R_drew HO300.out)
        replace BK296 := Aside0.mk (blk_drew BK296.out)
        replace HB := Aside0.mk (below_drew1 HB.out)
        obtain ⟨Ao65, co65, eo65⟩ := Kd.R_slice HO300.out
        (first | subst eo65 | (injection eo65 with f1_ f2_ f3_; have f4_ := f1_.symm; have f5_ := f3_.symm; clear f1_ f2_ f3_; subst f4_; subst f5_))
        refine start_ (n := 14) (S := fun w' => w'.cell? ⟨gb296, 0, none⟩ = some (.int .i64 a0_0) ∧ w'.cell? ⟨gb296, 1, none⟩ = some (.slice A0_1 l0_1.length c0_1) ∧ w'.cell? ⟨gb296, 2, none⟩ = some (.slice A0_2 l0_2.length c0_2) ∧ w'.cell? ⟨gb296, 3, none⟩ = some (.int .i64 a0_3)) (ds := []) #[false, false, false, false, false, false, false, false, false, false, false, false, false, false] (by kernel_rfl) rfl rfl ⟨(blk_cell BK296.out 0).trans rfl, (blk_cell BK296.out 1).trans rfl, (blk_cell BK296.out 2).trans rfl, (blk_cell BK296.out 3).trans rfl⟩ (fun hHeld => ?_); refine with_tabW impl_GoodTable.tab20 impl_GoodTable.bits20 (fun HT_ HW_ => ?_)
        generalize w63.drew = w64 at HO300 BK296 HB hHeld ⊢
        refine pure_ (i := 0) (N := some 81) (v := ?_) (a' := ?_) #[true, false, false, false, false, false, false, false, false, false, false, false, false, false] rfl rfl (any_of HT_.out (by kernel_rfl)) (fun _ _ _ h => h) (Or.inl ⟨by rfl, ?_⟩) ?_ ?_
        rotate_left
        ·intro w'
         go_simp
         with_reducible rfl
        rotate_left
        ·simp only [Act.put, List.setIfInBounds_toArray, List.set_cons_zero, List.set_cons_succ, i64_w, i32_w]
         rfl
        refine pure_ (i := 2) (N := some 83) (v := ?_) (a' := ?_) #[true, false, true, false, false, false, false, false, false, false, false, false, false, false] rfl rfl (any_of HT_.out (by kernel_rfl)) (fun _ _ _ h => h) (Or.inl ⟨by rfl, ?_⟩) ?_ ?_
        rotate_left
        ·intro w'
         go_simp
         with_reducible rfl
        rotate_left
        ·simp only [Act.put, List.setIfInBounds_toArray, List.set_cons_zero, List.set_cons_succ, i64_w, i32_w]
         rfl
        refine pure_ (i := 3) (N := some 84) (v := ?_) (a' := ?_) #[true, false, true, true, false, false, false, false, false, false, false, false, false, false] rfl rfl (any_of HT_.out (by kernel_rfl)) (fun _ _ _ h => h) (Or.inl ⟨by rfl, ?_⟩) ?_ ?_
        rotate_left
        ·intro w'
         go_simp
         with_reducible rfl
        rotate_left
        ·simp only [Act.put, List.setIfInBounds_toArray, List.set_cons_zero, List.set_cons_succ, i64_w, i32_w]
         rfl
        refine take_ (i := 1) (N := some 82) (v := ?_) (a' := ?_) #[true, true, true, true, false, false, false, false, false, false, false, false, false, false] rfl rfl (take_ofW HT_.out HW_.out (by kernel_rfl)) (fun _ _ _ h => h) (Or.inl ⟨by rfl, ?_⟩) hHeld ?_ ?_
        rotate_left
        ·rintro w' ⟨s0, s1, s2, s3⟩
         go_simp
         with_reducible rfl
        rotate_left
        ·simp only [Act.put, List.setIfInBounds_toArray, List.set_cons_zero, List.set_cons_succ, i64_w, i32_w]
         rfl
        refine pure_ (i := 4) (N := some 85) (v := ?_) (a' := ?_) #[true, true, true, true, true, false, false, false, false, false, false, false, false, false] rfl rfl (any_of HT_.out (by kernel_rfl)) (fun _ _ _ h => h) (Or.inl ⟨by rfl, ?_⟩) ?_ ?_
        rotate_left
        ·intro w'
         go_simp
         with_reducible rfl
        rotate_left
        ·simp only [Act.put, List.setIfInBounds_toArray, List.set_cons_zero, List.set_cons_succ, i64_w, i32_w]
         rfl
        refine pure_ (i := 5) (N := some 86) (v := ?_) (a' := ?_) #[true, true, true, true, true, true, false, false, false, false, false, false, false, false] rfl rfl (any_of HT_.out (by kernel_rfl)) (fun _ _ _ h => h) (Or.inl ⟨by rfl, ?_⟩) ?_ ?_
        rotate_left
        ·intro w'
         go_simp
         with_reducible rfl
        rotate_left
        ·simp only [Act.put, List.setIfInBounds_toArray, List.set_cons_zero, List.set_cons_succ, i64_w, i32_w]
         rfl
        refine pure_ (i := 6) (N := some 87) (v := ?_) (a' := ?_) #[true, true, true, true, true, true, true, false, false, false, false, false, false, false] rfl rfl (any_of HT_.out (by kernel_rfl)) (fun _ _ _ h => h) (Or.inl ⟨by rfl, ?_⟩) ?_ ?_
        rotate_left
        ·intro w'
         go_simp
         with_reducible rfl
        rotate_left
        ·simp only [Act.put, List.setIfInBounds_toArray, List.set_cons_zero, List.set_cons_succ, i64_w, i32_w]
         rfl
        refine pure_ (i := 9) (N := some 90) (v := ?_) (a' := ?_) #[true, true, true, true, true, true, true, false, false, true, false, false, false, false] rfl rfl (any_of HT_.out (by kernel_rfl)) (fun _ _ _ h => h) (Or.inl ⟨by rfl, ?_⟩) ?_ ?_
        rotate_left
        ·intro w'
         go_simp
         with_reducible rfl
        rotate_left
        ·simp only [Act.put, List.setIfInBounds_toArray, List.set_cons_zero, List.set_cons_succ, i64_w, i32_w]
         rfl
        refine take_ (i := 10) (N := some 91) (v := ?_) (a' := ?_) #[true, true, true, true, true, true, true, false, false, true, true, false, false, false] rfl rfl (take_ofW HT_.out HW_.out (by kernel_rfl)) (fun _ _ _ h => h) (Or.inl ⟨by rfl, ?_⟩) hHeld ?_ ?_
        rotate_left
        ·rintro w' ⟨s0, s1, s2, s3⟩
         go_simp
         with_reducible rfl
        rotate_left
        ·simp only [Act.put, List.setIfInBounds_toArray, List.set_cons_zero, List.set_cons_succ, i64_w, i32_w]
         rfl
        refine one_ (i := 7) (N := some 88) #[true, true, true, true, true, true, true, true, false, true, true, false, false, false] rfl rfl (one_of HT_.out (by kernel_rfl)) (by decide) (fun K hK => ?_)
        refine goes_ Try.func72 (by kernel_rfl) rfl #[.slice Ao65 t298.length co65] (by rfl) rfl rfl (by (try simp only [List.map_toArray, List.map_cons, List.map_nil]); first | done | rfl | (simp only [List.length_drop, List.length_take]; rfl)) ?_
        with_reducible refine (slices_Compact_int_int.calls (fun k_ => some k_ = (.slice Ao65 t298.length co65 : Value).ownBlock) (.slice Ao65 t298.length co65) t298 t301 w _ ?side1 ?side2 A61.out).mono ?_
        (case side1 => repeat (first | (with_reducible first | exact HB.out | apply below_alloc | apply pw_below_drewN | apply below_drew1 | refine below_set ?_ GE296.out) | exact HB.out))
        (case side2 => exact Kd.R_tight rfl HO300.out)
        rintro e w66 ⟨v302, rfl, ho0, hb, hkp⟩
        refine ⟨_, rfl, ?_⟩
        replace BK296 := Aside0.mk (blk_kept (kB BK296) hkp (fun hs_ => (fun e_ => (Kd.R_ne HO300.out BK296.out (by decide)) e_) hs_))
        have HO303 := Aside0.mk (Kd.R_mono (ok' := fun k_ => True) ho0 (fun k_ hk_ => trivial))
        replace HB := Aside0.mk (hb)
        clear HO300
        (try clear hb);(try clear hkp);(try clear ho0)
        obtain ⟨Ao67, co67, eo67⟩ := Kd.R_slice HO303.out
        (first | subst eo67 | (injection eo67 with f1_ f2_ f3_; have f4_ := f1_.symm; have f5_ := f3_.symm; clear f1_ f2_ f3_; subst f4_; subst f5_))
        refine hK.out _ _ ⟨(blk_cell BK296.out 0).trans rfl, (blk_cell BK296.out 1).trans rfl, (blk_cell BK296.out 2).trans rfl, (blk_cell BK296.out 3).trans rfl⟩ (fun hHeld => ?_)
        clear hK K
        refine norm_ (a' := ?_) ?_ ?_
        rotate_left
        ·show Act.put _ (some 88) _ = _
         simp only [Act.put, List.setIfInBounds_toArray, List.set_cons_zero, List.set_cons_succ, i64_w, i32_w]
         rfl
        refine pure_ (i := 8) (N := some 89) (v := ?_) (a' := ?_) #[true, true, true, true, true, true, true, true, true, true, true, false, false, false] rfl rfl (any_of HT_.out (by kernel_rfl)) (fun _ _ _ h => h) (Or.inl ⟨by rfl, ?_⟩) ?_ ?_
        rotate_left
        ·intro w'
         go_simp
         with_reducible rfl
        rotate_left
        ·simp only [Act.put, List.setIfInBounds_toArray, List.set_cons_zero, List.set_cons_succ, i64_w, i32_w]
         rfl
        refine pure_ (i := 11) (N := some 92) (v := ?_) (a' := ?_) #[true, true, true, true, true, true, true, true, true, true, true, true, false, false] rfl rfl (any_of HT_.out (by kernel_rfl)) (fun _ _ _ h => h) (Or.inl ⟨by rfl, ?_⟩) ?_ ?_
        rotate_left
        ·intro w'
         go_simp
         with_reducible rfl
        rotate_left
        ·simp only [Act.put, List.setIfInBounds_toArray, List.set_cons_zero, List.set_cons_succ, i64_w, i32_w]
         rfl
        refine pure_ (i := 12) (N := some 93) (v := ?_) (a' := ?_) #[true, true, true, true, true, true, true, true, true, true, true, true, true, false] rfl rfl (any_of HT_.out (by kernel_rfl)) (fun _ _ _ h => h) (Or.inl ⟨by rfl, ?_⟩) ?_ ?_
        rotate_left
        ·intro w'
         go_simp
         with_reducible rfl
        rotate_left
        ·simp only [Act.put, List.setIfInBounds_toArray, List.set_cons_zero, List.set_cons_succ, i64_w, i32_w]
         rfl
        refine pure_ (i := 13) (N := some 2) (v := ?_) (a' := ?_) #[true, true, true, true, true, true, true, true, true, true, true, true, true, true] rfl rfl (any_of HT_.out (by kernel_rfl)) (fun _ _ _ h => h) (Or.inl ⟨by rfl, ?_⟩) ?_ ?_
        rotate_left
        ·intro w'
         go_simp
         with_reducible rfl
        rotate_left
        ·simp only [Act.put, List.setIfInBounds_toArray, List.set_cons_zero, List.set_cons_succ, i64_w, i32_w]
         rfl
        refine done_ (done_of HT_.out (by kernel_rfl)) ?_
        try go_wp2
        go_ret
        exact ⟨by first | rfl | (simp [errW_none, errW_some] <;> rfl) | (simp [*, errW_none, errW_some] <;> rfl), bB HB⟩
       ·rw [if_neg c60] at H
        have c60b0 : (a0_3 == (t298.length : Int)) = false := beq_eq_false_iff_ne.mpr c60
        have c60b1 : (a0_3 != (t298.length : Int)) = true := bne_iff_ne.mpr c60
        obtain rfl := Option.some.inj H
        have hcz68_0 : wr.cell? ⟨gb296, 0, none⟩ = some (.int .i64 a0_0) := (blk_cell BK296.out 0).trans rfl
        have hcz68_1 : wr.cell? ⟨gb296, 1, none⟩ = some (.slice A0_1 l0_1.length c0_1) := (blk_cell BK296.out 1).trans rfl
        have hcz68_2 : wr.cell? ⟨gb296, 2, none⟩ = some (.slice A0_2 l0_2.length c0_2) := (blk_cell BK296.out 2).trans rfl
        have hcz68_3 : wr.cell? ⟨gb296, 3, none⟩ = some (.int .i64 a0_3) := (blk_cell BK296.out 3).trans rfl
        have hfz68_0 := blk_frozen BK296.out 0
        have hfz68_1 := blk_frozen BK296.out 1
        have hfz68_2 := blk_frozen BK296.out 2
        have hfz68_3 := blk_frozen BK296.out 3
        try go_wp2_with (first | ((with_reducible refine gate_callee (f := 65) rfl ?_); refine goesL_ (some 80) rfl rfl Try.func65 (by kernel_rfl) rfl #[.agg #[.int .i64 a0_0, .slice A0_1 l0_1.length c0_1, .slice A0_2 l0_2.length c0_2, .int .i64 a0_3]] rfl (by (try simp only [List.map_toArray, List.map_cons, List.map_nil]); first | done | rfl | (simp only [List.length_drop, List.length_take]; rfl)) ?_; (with_reducible refine (impl_keysIn.calls k2 a0_0 _ _ l0_1 _ _ l0_2 a0_3 t298 _ ?side1 ?side2 ?side3 ?side4 A59.out).mono ?_); (case side1 => repeat (first | exact (Kd.C_below HR0_1.out HB.out) | (with_reducible refine Kd.C_alloc ?_ _) | (with_reducible refine Kd.C_drewN ?_ _) | (with_reducible refine Kd.C_drew ?_))); (case side2 => exact HC0_1.out); (case side3 => repeat (first | exact (Kd.C_below HR0_2.out HB.out) | (with_reducible refine Kd.C_alloc ?_ _) | (with_reducible refine Kd.C_drewN ?_ _) | (with_reducible refine Kd.C_drew ?_))); (case side4 => exact HC0_2.out); rintro e w69 ⟨v299, rfl, ho0, hb⟩; refine ⟨_, rfl, ?_⟩; have HO300 := Aside0.mk (Kd.R_lower ho0 (below_size (bB HB))); replace BK296 := Aside0.mk (blk_below (g := gb296) (o := .cells #[.int .i64 a0_0, .slice A0_1 l0_1.length c0_1, .slice A0_2 l0_2.length c0_2, .int .i64 a0_3] 25 (0, 0)) (kB BK296) hb); replace HB := Aside0.mk (below_step (bB HB) hb); (try clear hb); (try clear hb2); (try clear hk); (try clear hi); (try clear ho0)))
        replace HO300 := Aside0.mk (Kd.R_drew HO300.out)
        replace BK296 := Aside0.mk (blk_drew BK296.out)
        replace HB := Aside0.mk (below_drew1 HB.out)
        obtain ⟨Ao71, co71, eo71⟩ := Kd.R_slice HO300.out
        (first | subst eo71 | (injection eo71 with f1_ f2_ f3_; have f4_ := f1_.symm; have f5_ := f3_.symm; clear f1_ f2_ f3_; subst f4_; subst f5_))
        refine start_ (n := 14) (S := fun w' => w'.cell? ⟨gb296, 0, none⟩ = some (.int .i64 a0_0) ∧ w'.cell? ⟨gb296, 1, none⟩ = some (.slice A0_1 l0_1.length c0_1) ∧ w'.cell? ⟨gb296, 2, none⟩ = some (.slice A0_2 l0_2.length c0_2) ∧ w'.cell? ⟨gb296, 3, none⟩ = some (.int .i64 a0_3)) (ds := []) #[false, false, false, false, false, false, false, false, false, false, false, false, false, false] (by kernel_rfl) rfl rfl ⟨(blk_cell BK296.out 0).trans rfl, (blk_cell BK296.out 1).trans rfl, (blk_cell BK296.out 2).trans rfl, (blk_cell BK296.out 3).trans rfl⟩ (fun hHeld => ?_); refine with_tabW impl_GoodTable.tab20 impl_GoodTable.bits20 (fun HT_ HW_ => ?_)
        generalize w69.drew = w70 at HO300 BK296 HB hHeld ⊢
        refine pure_ (i := 0) (N := some 81) (v := ?_) (a' := ?_) #[true, false, false, false, false, false, false, false, false, false, false, false, false, false] rfl rfl (any_of HT_.out (by kernel_rfl)) (fun _ _ _ h => h) (Or.inl ⟨by rfl, ?_⟩) ?_ ?_
        rotate_left
        ·intro w'
         go_simp
         with_reducible rfl
        rotate_left
        ·simp only [Act.put, List.setIfInBounds_toArray, List.set_cons_zero, List.set_cons_succ, i64_w, i32_w]
         rfl
        refine pure_ (i := 2) (N := some 83) (v := ?_) (a' := ?_) #[true, false, true, false, false, false, false, false, false, false, false, false, false, false] rfl rfl (any_of HT_.out (by kernel_rfl)) (fun _ _ _ h => h) (Or.inl ⟨by rfl, ?_⟩) ?_ ?_
        rotate_left
        ·intro w'
         go_simp
         with_reducible rfl
        rotate_left
        ·simp only [Act.put, List.setIfInBounds_toArray, List.set_cons_zero, List.set_cons_succ, i64_w, i32_w]
         rfl
        refine pure_ (i := 3) (N := some 84) (v := ?_) (a' := ?_) #[true, false, true, true, false, false, false, false, false, false, false, false, false, false] rfl rfl (any_of HT_.out (by kernel_rfl)) (fun _ _ _ h => h) (Or.inl ⟨by rfl, ?_⟩) ?_ ?_
        rotate_left
        ·intro w'
         go_simp
         with_reducible rfl
        rotate_left
        ·simp only [Act.put, List.setIfInBounds_toArray, List.set_cons_zero, List.set_cons_succ, i64_w, i32_w]
         rfl
        refine take_ (i := 1) (N := some 82) (v := ?_) (a' := ?_) #[true, true, true, true, false, false, false, false, false, false, false, false, false, false] rfl rfl (take_ofW HT_.out HW_.out (by kernel_rfl)) (fun _ _ _ h => h) (Or.inl ⟨by rfl, ?_⟩) hHeld ?_ ?_
        rotate_left
        ·rintro w' ⟨s0, s1, s2, s3⟩
         go_simp
         with_reducible rfl
        rotate_left
        ·simp only [Act.put, List.setIfInBounds_toArray, List.set_cons_zero, List.set_cons_succ, i64_w, i32_w]
         rfl
        refine pure_ (i := 4) (N := some 85) (v := ?_) (a' := ?_) #[true, true, true, true, true, false, false, false, false, false, false, false, false, false] rfl rfl (any_of HT_.out (by kernel_rfl)) (fun _ _ _ h => h) (Or.inl ⟨by rfl, ?_⟩) ?_ ?_
        rotate_left
        ·intro w'
         go_simp
         with_reducible rfl
        rotate_left
        ·simp only [Act.put, List.setIfInBounds_toArray, List.set_cons_zero, List.set_cons_succ, i64_w, i32_w]
         rfl
        refine pure_ (i := 5) (N := some 86) (v := ?_) (a' := ?_) #[true, true, true, true, true, true, false, false, false, false, false, false, false, false] rfl rfl (any_of HT_.out (by kernel_rfl)) (fun _ _ _ h => h) (Or.inl ⟨by rfl, ?_⟩) ?_ ?_
        rotate_left
        ·intro w'
         go_simp
         with_reducible rfl
        rotate_left
        ·simp only [Act.put, List.setIfInBounds_toArray, List.set_cons_zero, List.set_cons_succ, i64_w, i32_w]
         rfl
        refine pure_ (i := 6) (N := some 87) (v := undef) (a' := ?_) #[true, true, true, true, true, true, true, false, false, false, false, false, false, false] rfl rfl (any_of HT_.out (by kernel_rfl)) (fun _ _ _ h => h) (Or.inr ⟨by rfl, rfl⟩) ?_ ?_
        rotate_left
        ·simp only [Act.put, List.setIfInBounds_toArray, List.set_cons_zero, List.set_cons_succ, i64_w, i32_w]
         rfl
        refine pure_ (i := 7) (N := some 88) (v := undef) (a' := ?_) #[true, true, true, true, true, true, true, true, false, false, false, false, false, false] rfl rfl (any_of HT_.out (by kernel_rfl)) (fun _ _ _ h => h) (Or.inr ⟨by rfl, rfl⟩) ?_ ?_
        rotate_left
        ·simp only [Act.put, List.setIfInBounds_toArray, List.set_cons_zero, List.set_cons_succ, i64_w, i32_w]
         rfl
        refine pure_ (i := 8) (N := some 89) (v := undef) (a' := ?_) #[true, true, true, true, true, true, true, true, true, false, false, false, false, false] rfl rfl (any_of HT_.out (by kernel_rfl)) (fun _ _ _ h => h) (Or.inr ⟨by rfl, rfl⟩) ?_ ?_
        rotate_left
        ·simp only [Act.put, List.setIfInBounds_toArray, List.set_cons_zero, List.set_cons_succ, i64_w, i32_w]
         rfl
        refine pure_ (i := 9) (N := some 90) (v := undef) (a' := ?_) #[true, true, true, true, true, true, true, true, true, true, false, false, false, false] rfl rfl (any_of HT_.out (by kernel_rfl)) (fun _ _ _ h => h) (Or.inr ⟨by rfl, rfl⟩) ?_ ?_
        rotate_left
        ·simp only [Act.put, List.setIfInBounds_toArray, List.set_cons_zero, List.set_cons_succ, i64_w, i32_w]
         rfl
        refine pure_ (i := 10) (N := some 91) (v := undef) (a' := ?_) #[true, true, true, true, true, true, true, true, true, true, true, false, false, false] rfl rfl (any_of HT_.out (by kernel_rfl)) (fun _ _ _ h => h) (Or.inr ⟨by rfl, rfl⟩) ?_ ?_
        rotate_left
        ·simp only [Act.put, List.setIfInBounds_toArray, List.set_cons_zero, List.set_cons_succ, i64_w, i32_w]
         rfl
        refine pure_ (i := 11) (N := some 92) (v := undef) (a' := ?_) #[true, true, true, true, true, true, true, true, true, true, true, true, false, false] rfl rfl (any_of HT_.out (by kernel_rfl)) (fun _ _ _ h => h) (Or.inr ⟨by rfl, rfl⟩) ?_ ?_
        rotate_left
        ·simp only [Act.put, List.setIfInBounds_toArray, List.set_cons_zero, List.set_cons_succ, i64_w, i32_w]
         rfl
        refine pure_ (i := 12) (N := some 93) (v := ?_) (a' := ?_) #[true, true, true, true, true, true, true, true, true, true, true, true, true, false] rfl rfl (any_of HT_.out (by kernel_rfl)) (fun _ _ _ h => h) (Or.inl ⟨by rfl, ?_⟩) ?_ ?_
        rotate_left
        ·intro w'
         go_simp
         with_reducible rfl
        rotate_left
        ·simp only [Act.put, List.setIfInBounds_toArray, List.set_cons_zero, List.set_cons_succ, i64_w, i32_w]
         rfl
        refine pure_ (i := 13) (N := some 2) (v := ?_) (a' := ?_) #[true, true, true, true, true, true, true, true, true, true, true, true, true, true] rfl rfl (any_of HT_.out (by kernel_rfl)) (fun _ _ _ h => h) (Or.inl ⟨by rfl, ?_⟩) ?_ ?_
        rotate_left
        ·intro w'
         go_simp
         with_reducible rfl
        rotate_left
        ·simp only [Act.put, List.setIfInBounds_toArray, List.set_cons_zero, List.set_cons_succ, i64_w, i32_w]
         rfl
        refine done_ (done_of HT_.out (by kernel_rfl)) ?_
        try go_wp2
        go_ret
        exact ⟨by first | rfl | (simp [errW_none, errW_some] <;> rfl) | (simp [*, errW_none, errW_some] <;> rfl), bB HB⟩

end Go.Proofs.Ytemnidhllbbjnaa.XFnExactRehashTo
